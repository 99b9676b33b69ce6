/- Part 4 of the proof of FnExactFirstSwap: what it leans on (no condition). -/
import Derived.Test.YtaacaifiiedoiaaKFnExactFirstSwap3
import Derived.Shelf.GgClosure.Gives
section
namespace Go.Proofs.Ytaacaifiiedoiaa.Q
open Go.RowKit Go.Proofs.YtaacaifiiedoiaaW.PrintWords Go.Proofs.YtaacaifiiedoiaaW.PrintLast Go.Proofs.YtaacaifiiedoiaaW.PrintMore
attribute [local go_sem] max2_int min2_int max_two min_two max_three min_three max_four min_four
set_option linter.unusedVariables false
set_option linter.unusedSimpArgs false
mutual
def spec_deSwap.l0 : Nat → List Bool → Int → Bool → List Bool → Int → Int → List (List Int) → List (List Int) → Option ((List (List Int)) × (List (List Int)) × Bool)
 | 0, _, _, _, _, _, _, _, _ => none
 | k + 1, x0, x1, x7, x16, x17, x18, x585000, x585001 => if x18 < x17 then (if 0 ≤ x18 then (if x18 < (x16.length : Int) then (spec_deSwap.l1 k x0 x1 x7 x18 (rdOf false x16 x18) 0 x16 x17 x18 x585000 x585001) else (none)) else (none)) else (some (x585000, x585001, x7))
def spec_deSwap.l1 : Nat → List Bool → Int → Bool → Int → Bool → Int → List Bool → Int → Int → List (List Int) → List (List Int) → Option ((List (List Int)) × (List (List Int)) × Bool)
 | 0, _, _, _, _, _, _, _, _, _, _, _ => none
 | k + 1, x0, x1, x7, x8, x9, x10, x16, x17, x18, x585000, x585001 => if x10 < x8 then (if x9 = true then (if 0 ≤ x10 then (if x10 < (x0.length : Int) then (spec_deSwap.j2 k x0 x1 x7 x8 x9 x10 x16 x17 x18 (!(rdOf false x0 x10)) x585000 x585001) else (none)) else (none)) else (spec_deSwap.j2 k x0 x1 x7 x8 x9 x10 x16 x17 x18 true x585000 x585001)) else (spec_deSwap.l0 k x0 x1 x7 x16 x17 (wrap64 (x18 + 1)) x585000 x585001)
def spec_deSwap.j2 : Nat → List Bool → Int → Bool → Int → Bool → Int → List Bool → Int → Int → Bool → List (List Int) → List (List Int) → Option ((List (List Int)) × (List (List Int)) × Bool)
 | 0, _, _, _, _, _, _, _, _, _, _, _, _ => none
 | k + 1, x0, x1, x7, x8, x9, x10, x16, x17, x18, x36, x585000, x585001 => if x36 = true then (spec_deSwap.l1 k x0 x1 x7 x8 x9 (wrap64 (x10 + 1)) x16 x17 x18 x585000 x585001) else (spec_deSwap.l2 k x0 x1 x7 x8 x9 x10 0 x16 x17 x18 x585000 x585001)
def spec_deSwap.l2 : Nat → List Bool → Int → Bool → Int → Bool → Int → Int → List Bool → Int → Int → List (List Int) → List (List Int) → Option ((List (List Int)) × (List (List Int)) × Bool)
 | 0, _, _, _, _, _, _, _, _, _, _, _, _ => none
 | k + 1, x0, x1, x7, x8, x9, x10, x11, x16, x17, x18, x585000, x585001 => if x11 < x1 then (spec_deSwap.l3 k x0 x1 x7 x8 x9 x10 x11 0 x16 x17 x18 x585000 x585001) else (spec_deSwap.l1 k x0 x1 x7 x8 x9 (wrap64 (x10 + 1)) x16 x17 x18 x585000 x585001)
def spec_deSwap.l3 : Nat → List Bool → Int → Bool → Int → Bool → Int → Int → Int → List Bool → Int → Int → List (List Int) → List (List Int) → Option ((List (List Int)) × (List (List Int)) × Bool)
 | 0, _, _, _, _, _, _, _, _, _, _, _, _, _ => none
 | k + 1, x0, x1, x7, x8, x9, x10, x11, x12, x16, x17, x18, x585000, x585001 => if x12 < x1 then (if 0 ≤ x11 then (if (Int.tmod (shr .i64 x8 x11) 2) = 0 then (spec_deSwap.j5 k x0 x1 x7 x8 x9 x10 x11 x12 x16 x17 x18 true x585000 x585001) else (if (Int.tmod (shr .i64 x10 x11) 2) = 1 then (spec_deSwap.j5 k x0 x1 x7 x8 x9 x10 x11 x12 x16 x17 x18 true x585000 x585001) else (if 0 ≤ x12 then (if (Int.tmod (shr .i64 x8 x12) 2) = 1 then (spec_deSwap.j5 k x0 x1 x7 x8 x9 x10 x11 x12 x16 x17 x18 true x585000 x585001) else (spec_deSwap.j5 k x0 x1 x7 x8 x9 x10 x11 x12 x16 x17 x18 ((Int.tmod (shr .i64 x10 x12) 2) == 0) x585000 x585001)) else (none)))) else (none)) else (spec_deSwap.l2 k x0 x1 x7 x8 x9 x10 (wrap64 (x11 + 1)) x16 x17 x18 x585000 x585001)
def spec_deSwap.j5 : Nat → List Bool → Int → Bool → Int → Bool → Int → Int → Int → List Bool → Int → Int → Bool → List (List Int) → List (List Int) → Option ((List (List Int)) × (List (List Int)) × Bool)
 | 0, _, _, _, _, _, _, _, _, _, _, _, _, _, _ => none
 | k + 1, x0, x1, x7, x8, x9, x10, x11, x12, x16, x17, x18, x72, x585000, x585001 => if x72 = true then (spec_deSwap.l3 k x0 x1 x7 x8 x9 x10 x11 (wrap64 (x12 + 1)) x16 x17 x18 x585000 x585001) else (if 0 ≤ x11 then (if 0 ≤ x12 then (if 0 ≤ (Go.bits .xor .i64 (Go.bits .xor .i64 x8 (shl .i64 1 x11)) (shl .i64 1 x12)) then (if (Go.bits .xor .i64 (Go.bits .xor .i64 x8 (shl .i64 1 x11)) (shl .i64 1 x12)) < (x0.length : Int) then (if rdOf false x0 (Go.bits .xor .i64 (Go.bits .xor .i64 x8 (shl .i64 1 x11)) (shl .i64 1 x12)) = true then (spec_deSwap.j6 k x0 x1 x7 x8 x9 x10 x11 x12 (Go.bits .xor .i64 (Go.bits .xor .i64 x8 (shl .i64 1 x11)) (shl .i64 1 x12)) (Go.bits .xor .i64 (Go.bits .xor .i64 x10 (shl .i64 1 x11)) (shl .i64 1 x12)) x16 x17 x18 true x585000 x585001) else (if 0 ≤ (Go.bits .xor .i64 (Go.bits .xor .i64 x10 (shl .i64 1 x11)) (shl .i64 1 x12)) then (if (Go.bits .xor .i64 (Go.bits .xor .i64 x10 (shl .i64 1 x11)) (shl .i64 1 x12)) < (x0.length : Int) then (spec_deSwap.j6 k x0 x1 x7 x8 x9 x10 x11 x12 (Go.bits .xor .i64 (Go.bits .xor .i64 x8 (shl .i64 1 x11)) (shl .i64 1 x12)) (Go.bits .xor .i64 (Go.bits .xor .i64 x10 (shl .i64 1 x11)) (shl .i64 1 x12)) x16 x17 x18 (rdOf false x0 (Go.bits .xor .i64 (Go.bits .xor .i64 x10 (shl .i64 1 x11)) (shl .i64 1 x12))) x585000 x585001) else (none)) else (none))) else (none)) else (none)) else (none)) else (none))
def spec_deSwap.j6 : Nat → List Bool → Int → Bool → Int → Bool → Int → Int → Int → Int → Int → List Bool → Int → Int → Bool → List (List Int) → List (List Int) → Option ((List (List Int)) × (List (List Int)) × Bool)
 | 0, _, _, _, _, _, _, _, _, _, _, _, _, _, _, _, _ => none
 | k + 1, x0, x1, x7, x8, x9, x10, x11, x12, x13, x14, x16, x17, x18, x96, x585000, x585001 => if x96 = true then (spec_deSwap.l3 k x0 x1 x7 x8 x9 x10 x11 (wrap64 (x12 + 1)) x16 x17 x18 x585000 x585001) else ((spec_deTrade.f k (([x8, x10] : List Int)) (([x13, x14] : List Int))).bind fun bt595 => (if x7 = true then ((spec_deTradeBefore.f k bt595.1 bt595.2 x585000 x585001).bind fun t602 => (if t602 = true then (spec_deSwap.l3 k x0 x1 true x8 x9 x10 x11 (wrap64 (x12 + 1)) x16 x17 x18 bt595.1 bt595.2) else (spec_deSwap.l3 k x0 x1 x7 x8 x9 x10 x11 (wrap64 (x12 + 1)) x16 x17 x18 x585000 x585001))) else (spec_deSwap.l3 k x0 x1 true x8 x9 x10 x11 (wrap64 (x12 + 1)) x16 x17 x18 bt595.1 bt595.2)))
end
def spec_deSwap.f (k : Nat) (l0 : List Bool) (a1 : Int) : Option ((List (List Int)) × (List (List Int)) × Bool) := spec_deSwap.l0 k l0 a1 false l0 (l0.length : Int) 0 ([] : List (List Int)) ([] : List (List Int))
set_option maxHeartbeats 8000000 in
set_option maxRecDepth 100000 in
theorem spec_deSwap.calls (k : Nat) (A0 : Option Addr) (c0 : Nat) (l0 : List Bool) (a1 : Int) (r1 : List (List Int)) (r2 : List (List Int)) (r3 : Bool) (w : World) (hr0 : Kd.C Kd.bool w A0 l0.length l0) (hc0 : l0.length ≤ c0) (h : spec_deSwap.f k l0 a1 = some (r1, r2, r3)) :
  Calls Try.prog 60 #[.slice A0 l0.length c0, .int .i64 a1] w fun e w' => ∃ v0_ v1_ : Value, e = .returned (.tuple #[.agg #[v0_, v1_], .bool r3]) ∧ Kd.V (Kd.slice 3 (Kd.int .i64)) 71 w' w.heap.size (fun k_ => (w.heap.size ≤ k_)) v0_ r1 ∧ Kd.V (Kd.slice 3 (Kd.int .i64)) 71 w' w.heap.size (fun k_ => (w.heap.size ≤ k_)) v1_ r2 ∧ Below w.heap.size w w' := by
 have hu46 := Try.underlying46
 have HR0 := Aside0.mk hr0
 have HC0 := Aside0.mk hc0
 clear hr0 hc0
 have HB := Aside0.mk (Below.refl w.heap.size w)
 have H : (spec_deSwap.l0 k l0 a1 false l0 (l0.length : Int) 0 ([] : List (List Int)) ([] : List (List Int))) = some (r1, r2, r3) := h
 clear h
 have H' := Aside0.mk H
 clear H
 go_enter Try.func60, Try.ntmps60
 go_wp2_with (first | ((with_reducible refine gate_dst (N := 4) rfl ?_); refine box_event ?hg (N := 4) ?hd (cs := #[.slice none 0 0, .slice none 0 0]) (t := 46) ?hr ?_; (case hd => rfl); (case hg => rfl); (case hr => first | (go_simp; done) | (go_simp; rfl)); intro gb583 hg w3 hbox hb; have n2_ := Aside0.mk ((by rw [hg]; exact (below_size (zh HB.out)) : w.heap.size ≤ gb583)); replace HB := Aside0.mk (below_step (zh HB.out) hb); have BK583 := Aside0.mk hbox; have GW583 := n2_; have GE583 := n2_; clear n2_ hb hbox hg) | ((with_reducible refine gate_dst (N := 6) rfl ?_); refine box_event ?hg (N := 6) ?hd (cs := #[.slice none 0 0, .slice none 0 0]) (t := 46) ?hr ?_; (case hd => rfl); (case hg => rfl); (case hr => first | (go_simp; done) | (go_simp; rfl)); intro gb584 hg w4 hbox hb; have n0_ := Aside0.mk (blk_below (g := gb583) (o := .cells #[.slice none 0 0, .slice none 0 0] 46 (0, 0)) (zb BK583.out) hb); have n1_ := Aside0.mk (below_step (zh HB.out) hb); have n2_ := Aside0.mk (hbox); have n3_ := Aside0.mk ((by rw [hg]; exact (below_size (zh HB.out)) : w.heap.size ≤ gb584)); have n4_ := Aside0.mk ((by rw [hg]; exact (below_size (zh HB.out)) : w.heap.size ≤ gb584)); have n5_ := Aside0.mk ((by rw [hg]; exact Nat.ne_of_lt (blk_lt (g := gb583) (o := .cells #[.slice none 0 0, .slice none 0 0] 46 (0, 0)) (zb BK583.out)) : gb583 ≠ gb584)); have n6_ := Aside0.mk ((by rw [hg]; exact Nat.ne_of_gt (blk_lt (g := gb583) (o := .cells #[.slice none 0 0, .slice none 0 0] 46 (0, 0)) (zb BK583.out)) : gb584 ≠ gb583)); clear BK583; clear HB; have BK583 := n0_; have HB := n1_; have BK584 := n2_; have GW584 := n3_; have GE584 := n4_; have NB583_584 := n5_; have NB584_583 := n6_; clear n0_ n1_ n2_ n3_ n4_ n5_ n6_; clear hb hbox hg))
 repeat (go_quiet (first | ((with_reducible refine gate_dst (N := 6) rfl ?_); refine box_event ?hg (N := 6) ?hd (cs := #[.slice none 0 0, .slice none 0 0]) (t := 46) ?hr ?_; (case hd => rfl); (case hg => rfl); (case hr => first | (go_simp; done) | (go_simp; rfl)); intro gb584 hg w4 hbox hb; have n0_ := Aside0.mk (blk_below (g := gb583) (o := .cells #[.slice none 0 0, .slice none 0 0] 46 (0, 0)) (zb BK583.out) hb); have n1_ := Aside0.mk (below_step (zh HB.out) hb); have n2_ := Aside0.mk (hbox); have n3_ := Aside0.mk ((by rw [hg]; exact (below_size (zh HB.out)) : w.heap.size ≤ gb584)); have n4_ := Aside0.mk ((by rw [hg]; exact (below_size (zh HB.out)) : w.heap.size ≤ gb584)); have n5_ := Aside0.mk ((by rw [hg]; exact Nat.ne_of_lt (blk_lt (g := gb583) (o := .cells #[.slice none 0 0, .slice none 0 0] 46 (0, 0)) (zb BK583.out)) : gb583 ≠ gb584)); have n6_ := Aside0.mk ((by rw [hg]; exact Nat.ne_of_gt (blk_lt (g := gb583) (o := .cells #[.slice none 0 0, .slice none 0 0] 46 (0, 0)) (zb BK583.out)) : gb584 ≠ gb583)); clear BK583; clear HB; have BK583 := n0_; have HB := n1_; have BK584 := n2_; have GW584 := n3_; have GE584 := n4_; have NB583_584 := n5_; have NB584_583 := n6_; clear n0_ n1_ n2_ n3_ n4_ n5_ n6_; clear hb hbox hg)); try go_wp2_with (first | ((with_reducible refine gate_dst (N := 6) rfl ?_); refine box_event ?hg (N := 6) ?hd (cs := #[.slice none 0 0, .slice none 0 0]) (t := 46) ?hr ?_; (case hd => rfl); (case hg => rfl); (case hr => first | (go_simp; done) | (go_simp; rfl)); intro gb584 hg w4 hbox hb; have n0_ := Aside0.mk (blk_below (g := gb583) (o := .cells #[.slice none 0 0, .slice none 0 0] 46 (0, 0)) (zb BK583.out) hb); have n1_ := Aside0.mk (below_step (zh HB.out) hb); have n2_ := Aside0.mk (hbox); have n3_ := Aside0.mk ((by rw [hg]; exact (below_size (zh HB.out)) : w.heap.size ≤ gb584)); have n4_ := Aside0.mk ((by rw [hg]; exact (below_size (zh HB.out)) : w.heap.size ≤ gb584)); have n5_ := Aside0.mk ((by rw [hg]; exact Nat.ne_of_lt (blk_lt (g := gb583) (o := .cells #[.slice none 0 0, .slice none 0 0] 46 (0, 0)) (zb BK583.out)) : gb583 ≠ gb584)); have n6_ := Aside0.mk ((by rw [hg]; exact Nat.ne_of_gt (blk_lt (g := gb583) (o := .cells #[.slice none 0 0, .slice none 0 0] 46 (0, 0)) (zb BK583.out)) : gb584 ≠ gb583)); clear BK583; clear HB; have BK583 := n0_; have HB := n1_; have BK584 := n2_; have GW584 := n3_; have GE584 := n4_; have NB583_584 := n5_; have NB584_583 := n6_; clear n0_ n1_ n2_ n3_ n4_ n5_ n6_; clear hb hbox hg)))
 go_loopg [7, 18] k (fun kq v7 v18 w' => ∃ (x7_1 : Bool) (x18_1 : Int) (x585000_1 : List (List Int)) (x585001_1 : List (List Int)) (u585000 : Value) (u585001 : Value), v7 = .bool x7_1 ∧ v18 = .int .i64 x18_1 ∧ Aside0 (spec_deSwap.l0 kq l0 a1 x7_1 l0 (l0.length : Int) x18_1 x585000_1 x585001_1 = some (r1, r2, r3)) ∧ Aside0 (kq ≤ k) ∧ Aside0 (Kd.V (Kd.slice 3 (Kd.int .i64)) 71 w' w.heap.size (fun k_ => (w.heap.size ≤ k_) ∧ k_ ≠ gb583 ∧ k_ ≠ gb584) u585000 x585000_1) ∧ Aside0 (Kd.V (Kd.slice 3 (Kd.int .i64)) 71 w' w.heap.size (fun k_ => (w.heap.size ≤ k_) ∧ k_ ≠ gb583 ∧ k_ ≠ gb584) u585001 x585001_1) ∧ Aside0 (w'.heap[gb583]? = some (.cells #[(.slice none 0 0), (.slice none 0 0)] 46 (0, 0))) ∧ Aside0 (w'.heap[gb584]? = some (.cells #[u585000, u585001] 46 (0, 0))) ∧ Aside0 (Below w.heap.size w w'))
 case atStart => exact ⟨(false), (0), (([] : List (List Int))), (([] : List (List Int))), (.slice none 0 0), (.slice none 0 0), (by first | rfl | (simp; done) | (simp [*]; done)), (by first | rfl | (simp; done) | (simp [*]; done)), H', ⟨Nat.le_refl _⟩, ⟨(Kd.V_nil _ _ _ _ _)⟩, ⟨(Kd.V_nil _ _ _ _ _)⟩, ⟨zb BK583.out⟩, ⟨zb BK584.out⟩, ⟨zh HB.out⟩⟩
 case round =>
  clear H'
  try clear p2
  obtain ⟨x7_1, x18_1, x585000_1, x585001_1, u585000, u585001, rfl, rfl, HA, HK1, HO_585000, HO_585001, BK583, BK584, HB⟩ := hrel
  cases gk with
  | zero => exact absurd HA.out (by simp [spec_deSwap.l0])
  | succ k1 =>
   have H := HA.out
   clear HA
   simp only [spec_deSwap.l0] at H
   by_cases c5 : x18_1 < (l0.length : Int)
   rotate_left
   ·rw [if_neg c5] at H
    have c5b0 : decide (x18_1 < (l0.length : Int)) = false := decide_eq_false c5
    clear c5
    simp only [Option.some.injEq, Prod.mk.injEq] at H
    obtain ⟨rfl, rfl, rfl⟩ := H
    have hnb101 := NB584_583.out
    have hnc101 := NB583_584.out
    have hcz102_0 : wr.cell? ⟨gb584, 0, none⟩ = some (u585000) := (blk_cell BK584.out 0).trans rfl
    have hcz102_1 : wr.cell? ⟨gb584, 1, none⟩ = some (u585001) := (blk_cell BK584.out 1).trans rfl
    have hfz102_0 := blk_frozen BK584.out 0
    have hfz102_1 := blk_frozen BK584.out 1
    obtain ⟨Ao103, co103, eo103⟩ := Kd.V_slice HO_585000.out
    subst eo103
    have hcz104_0 : wr.cell? ⟨gb583, 0, none⟩ = some (.slice none 0 0) := (blk_cell BK583.out 0).trans rfl
    have hcz104_1 : wr.cell? ⟨gb583, 1, none⟩ = some (.slice none 0 0) := (blk_cell BK583.out 1).trans rfl
    have hfz104_0 := blk_frozen BK583.out 0
    have hfz104_1 := blk_frozen BK583.out 1
    obtain ⟨Ao105, co105, eo105⟩ := Kd.V_slice HO_585001.out
    subst eo105
    go_wp2
    repeat (go_quiet (fail); try go_wp2)
    refine bodyPost_ret (results_ct rfl _ _ gb583 46 #[.slice Ao103 x585000_1.length co103, .slice Ao105 x585001_1.length co105] (0, 0) _ rfl (by (with_reducible repeat (first | refine blk_drewN ?_ _ | refine blk_drew ?_ | refine blk_alloc ?_ _)); refine blk_put (cs := #[.slice Ao103 x585000_1.length co103, .slice none 0 0]) ?_ 1 _ rfl; (with_reducible repeat (first | refine blk_drewN ?_ _ | refine blk_drew ?_ | refine blk_alloc ?_ _)); refine blk_put (cs := #[.slice none 0 0, .slice none 0 0]) ?_ 0 _ rfl; (with_reducible repeat (first | refine blk_drewN ?_ _ | refine blk_drew ?_ | refine blk_alloc ?_ _)); exact BK583.out) Try.underlying46 rfl (by kernel_rfl)) rfl ?_
    exact ⟨_, _, by first | rfl | (simp [*, errW_none, errW_some] <;> rfl), by (with_reducible repeat (first | apply Kd.V_alloc | apply Kd.V_drewN | apply Kd.V_drew)); exact Kd.V_mono (Kd.V_far (p := ⟨gb583, 1, none⟩) (Kd.V_far (p := ⟨gb583, 0, none⟩) (Kd.V_mono HO_585000.out (fun k_ hk => (⟨hk, hk.2.1⟩ : _ ∧ k_ ≠ gb583))) (fun _ hk => hk.2) (.slice Ao103 x585000_1.length co103)) (fun _ hk => hk.2) (.slice Ao105 x585001_1.length co105)) (fun _ hk => hk.1.1), by (with_reducible repeat (first | apply Kd.V_alloc | apply Kd.V_drewN | apply Kd.V_drew)); exact Kd.V_mono (Kd.V_far (p := ⟨gb583, 1, none⟩) (Kd.V_far (p := ⟨gb583, 0, none⟩) (Kd.V_mono HO_585001.out (fun k_ hk => (⟨hk, hk.2.1⟩ : _ ∧ k_ ≠ gb583))) (fun _ hk => hk.2) (.slice Ao103 x585000_1.length co103)) (fun _ hk => hk.2) (.slice Ao105 x585001_1.length co105)) (fun _ hk => hk.1.1), zh HB.out⟩
   rw [if_pos c5] at H
   have c5b0 : decide (x18_1 < (l0.length : Int)) = true := decide_eq_true c5
   clear c5
   by_cases c6 : 0 ≤ x18_1
   rotate_left
   ·rw [if_neg c6] at H
    exact absurd H (by simp)
   rw [if_pos c6] at H
   have c6b0 : decide (0 ≤ x18_1) = true := decide_eq_true c6
   clear c6
   by_cases c7 : x18_1 < (l0.length : Int)
   rotate_left
   ·rw [if_neg c7] at H
    exact absurd H (by simp)
   rw [if_pos c7] at H
   have c7b0 : decide (x18_1 < (l0.length : Int)) = true := decide_eq_true c7
   clear c7
   have H' := Aside0.mk H
   clear H
   have p585 : 0 ≤ (x18_1 : Int) := of_decide_eq_true (by first | (with_reducible assumption) | assumption)
   have q585 : x18_1 < (l0.length : Int) := of_decide_eq_true (by first | (with_reducible assumption) | assumption)
   obtain ⟨ad585, e585, hx585_0⟩ := Kd.at_bool HR0.out x18_1 p585 q585
   cases e585
   replace hx585_0 := (HB.out.cell (World.block_lt_of_cell? w _ hx585_0)).trans hx585_0
   obtain ⟨bz585, hbz585⟩ : ∃ b_ : Bool, b_ = (rdOf false l0 x18_1) := ⟨_, rfl⟩
   (try rw [← hbz585] at hx585_0)
   (try rw [← hbz585] at H)
   (try (have H2_ := H'.out; rw [← hbz585] at H2_; clear H'; have H' := Aside0.mk H2_; clear H2_))
   have Nbz585 := Aside0.mk hbz585
   clear hbz585
   replace p585 := eq_true p585
   replace q585 := eq_true q585
   go_wp2
   repeat (go_quiet (fail); try go_wp2)
   go_loopg [7, 10] k1 (fun kq v7 v10 w' => ∃ (x7_2 : Bool) (x10_2 : Int) (x585000_2 : List (List Int)) (x585001_2 : List (List Int)) (u585000 : Value) (u585001 : Value), v7 = .bool x7_2 ∧ v10 = .int .i64 x10_2 ∧ Aside0 (spec_deSwap.l1 kq l0 a1 x7_2 x18_1 bz585 x10_2 l0 (l0.length : Int) x18_1 x585000_2 x585001_2 = some (r1, r2, r3)) ∧ Aside0 (kq ≤ k1) ∧ Aside0 (Kd.V (Kd.slice 3 (Kd.int .i64)) 71 w' w.heap.size (fun k_ => (w.heap.size ≤ k_) ∧ k_ ≠ gb583 ∧ k_ ≠ gb584) u585000 x585000_2) ∧ Aside0 (Kd.V (Kd.slice 3 (Kd.int .i64)) 71 w' w.heap.size (fun k_ => (w.heap.size ≤ k_) ∧ k_ ≠ gb583 ∧ k_ ≠ gb584) u585001 x585001_2) ∧ Aside0 (w'.heap[gb583]? = some (.cells #[(.slice none 0 0), (.slice none 0 0)] 46 (0, 0))) ∧ Aside0 (w'.heap[gb584]? = some (.cells #[u585000, u585001] 46 (0, 0))) ∧ Aside0 (Below w.heap.size w w'))
   case atStart => exact ⟨(x7_1), (0), (x585000_1), (x585001_1), (u585000), (u585001), (by first | rfl | (simp; done) | (simp [*]; done)), (by first | rfl | (simp; done) | (simp [*]; done)), H', ⟨Nat.le_refl _⟩, ⟨by (with_reducible repeat (first | apply Kd.V_alloc | apply Kd.V_drewN | apply Kd.V_drew)); exact HO_585000.out⟩, ⟨by (with_reducible repeat (first | apply Kd.V_alloc | apply Kd.V_drewN | apply Kd.V_drew)); exact HO_585001.out⟩, ⟨zb BK583.out⟩, ⟨zb BK584.out⟩, ⟨zh HB.out⟩⟩
   case round =>
    clear H'
    try clear p2
    try clear c5
    try clear c5b0
    try clear p5
    try clear q5
    try clear hx5
    try clear c6
    try clear c6b0
    try clear c7
    try clear c7b0
    try clear hx585_0
    try clear p2
    try clear p585
    try clear q585
    obtain ⟨x7_2, x10_2, x585000_2, x585001_2, u585000, u585001, rfl, rfl, HA, HK2, HO_585000, HO_585001, BK583, BK584, HB⟩ := hrel
    cases gk with
    | zero => exact absurd HA.out (by simp [spec_deSwap.l1])
    | succ k2 =>
     have H := HA.out
     clear HA
     simp only [spec_deSwap.l1] at H
     by_cases c8 : x10_2 < x18_1
     rotate_left
     ·rw [if_neg c8] at H
      have c8b0 : decide (x10_2 < x18_1) = false := decide_eq_false c8
      clear c8
      have H' := Aside0.mk H
      clear H
      go_wp2
      repeat (go_quiet (fail); try go_wp2)
      go_roundg k2
      case measure => have := HK1.out; have := HK2.out; omega
      case rel => exact ⟨(x7_2), (wrap64 (x18_1 + 1)), (x585000_2), (x585001_2), (u585000), (u585001), (by first | rfl | (simp; done) | (simp [*]; done)), (by first | rfl | (simp; done) | (simp [*]; done)), H', ⟨by have := HK1.out; have := HK2.out; omega⟩, ⟨by (with_reducible repeat (first | apply Kd.V_alloc | apply Kd.V_drewN | apply Kd.V_drew)); exact HO_585000.out⟩, ⟨by (with_reducible repeat (first | apply Kd.V_alloc | apply Kd.V_drewN | apply Kd.V_drew)); exact HO_585001.out⟩, ⟨zb BK583.out⟩, ⟨zb BK584.out⟩, ⟨zh HB.out⟩⟩
     rw [if_pos c8] at H
     have c8b0 : decide (x10_2 < x18_1) = true := decide_eq_true c8
     clear c8
     have HC9 := Aside0.mk H
     clear H
     go_upto_region 9 with (fail)
     repeat (go_quiet (fail); go_upto_region 9 with (fail))
     go_cut [36] (fun v36 wc => ∃ (kq : Nat) (x36_8 : Bool), v36 = .bool x36_8 ∧ Aside0 (spec_deSwap.j2 kq l0 a1 x7_2 x18_1 bz585 x10_2 l0 (l0.length : Int) x18_1 x36_8 x585000_2 x585001_2 = some (r1, r2, r3)) ∧ Aside0 (kq ≤ k2) ∧ Aside0 (Kd.V (Kd.slice 3 (Kd.int .i64)) 71 wc w.heap.size (fun k_ => (w.heap.size ≤ k_) ∧ k_ ≠ gb583 ∧ k_ ≠ gb584) u585000 x585000_2) ∧ Aside0 (Kd.V (Kd.slice 3 (Kd.int .i64)) 71 wc w.heap.size (fun k_ => (w.heap.size ≤ k_) ∧ k_ ≠ gb583 ∧ k_ ≠ gb584) u585001 x585001_2) ∧ Aside0 (wc.heap[gb583]? = some (.cells #[(.slice none 0 0), (.slice none 0 0)] 46 (0, 0))) ∧ Aside0 (wc.heap[gb584]? = some (.cells #[u585000, u585001] 46 (0, 0))) ∧ Aside0 (Below w.heap.size w wc))
     case first =>
      have H := HC9.out
      clear HC9
      (try rw [← Nbz585.out])
      by_cases c11 : (bz585) = true
      ·rw [if_pos c11] at H
       subst c11
       by_cases c12 : 0 ≤ x10_2
       ·rw [if_pos c12] at H
        have c12b0 : decide (0 ≤ x10_2) = true := decide_eq_true c12
        clear c12
        by_cases c13 : x10_2 < (l0.length : Int)
        ·rw [if_pos c13] at H
         have c13b0 : decide (x10_2 < (l0.length : Int)) = true := decide_eq_true c13
         clear c13
         have H' := Aside0.mk H
         clear H
         have p586 : 0 ≤ (x10_2 : Int) := of_decide_eq_true (by first | (with_reducible assumption) | assumption)
         have q586 : x10_2 < (l0.length : Int) := of_decide_eq_true (by first | (with_reducible assumption) | assumption)
         obtain ⟨ad586, e586, hx586_0⟩ := Kd.at_bool HR0.out x10_2 p586 q586
         (try rw [← Nbz585.out] at hx586_0)
         obtain rfl : ad585 = ad586 := (by injection e586)
         replace hx586_0 := (HB.out.cell (World.block_lt_of_cell? w _ hx586_0)).trans hx586_0
         replace p586 := eq_true p586
         replace q586 := eq_true q586
         go_wp2
         repeat (go_quiet (fail); try go_wp2)
         go_meet
         case rel => exact ⟨_, (!(rdOf false l0 x10_2)), (by first | rfl | (simp; done) | (simp [*]; done)), H', ⟨by have := HK1.out; have := HK2.out; first | omega | exact Nat.le_refl _⟩, ⟨by (with_reducible repeat (first | apply Kd.V_alloc | apply Kd.V_drewN | apply Kd.V_drew)); exact HO_585000.out⟩, ⟨by (with_reducible repeat (first | apply Kd.V_alloc | apply Kd.V_drewN | apply Kd.V_drew)); exact HO_585001.out⟩, ⟨zb BK583.out⟩, ⟨zb BK584.out⟩, ⟨zh HB.out⟩⟩
        ·rw [if_neg c13] at H
         exact absurd H (by simp)
       ·rw [if_neg c12] at H
        exact absurd H (by simp)
      ·rw [if_neg c11] at H
       have c11b0 := Bool.eq_false_iff.mpr c11
       clear c11
       have H' := Aside0.mk H
       clear H
       go_wp2
       repeat (go_quiet (fail); try go_wp2)
       go_meet
       case rel => exact ⟨_, (true), (by first | rfl | (simp; done) | (simp [*]; done)), H', ⟨by have := HK1.out; have := HK2.out; first | omega | exact Nat.le_refl _⟩, ⟨by (with_reducible repeat (first | apply Kd.V_alloc | apply Kd.V_drewN | apply Kd.V_drew)); exact HO_585000.out⟩, ⟨by (with_reducible repeat (first | apply Kd.V_alloc | apply Kd.V_drewN | apply Kd.V_drew)); exact HO_585001.out⟩, ⟨zb BK583.out⟩, ⟨zb BK584.out⟩, ⟨zh HB.out⟩⟩
     case rest =>
      clear HC9
      try clear c1
      try clear q1
      try clear p2
      try clear c5
      try clear c5b0
      try clear p5
      try clear q5
      try clear hx5
      try clear c6
      try clear c6b0
      try clear c7
      try clear c7b0
      try clear c8
      try clear c8b0
      try clear q10
      try clear c11
      try clear c11b0
      try clear c12
      try clear c12b0
      try clear c13
      try clear c13b0
      try clear hx585_0
      try clear hx586_0
      try clear p2
      try clear p5
      try clear p585
      try clear p586
      try clear q5
      try clear q585
      try clear q586
      obtain ⟨kq, x36_8, rfl, HA, HJ8, HO_585000, HO_585001, BK583, BK584, HB⟩ := hcut
      cases kq with
      | zero => exact absurd HA.out (by simp [spec_deSwap.j2])
      | succ kj8 =>
       have H := HA.out
       clear HA
       simp only [spec_deSwap.j2] at H
       by_cases c14 : x36_8 = true
       ·subst c14
        have H1 : (spec_deSwap.l1 kj8 l0 a1 x7_2 x18_1 bz585 (wrap64 (x10_2 + 1)) l0 (l0.length : Int) x18_1 x585000_2 x585001_2) = some (r1, r2, r3) := by rw [if_pos rfl] at H; exact H
        clear H
        have H := H1
        clear H1
        have H' := Aside0.mk H
        clear H
        go_wp2
        repeat (go_quiet (fail); try go_wp2)
        go_roundg kj8
        case measure => have := HK1.out; have := HK2.out; have := HJ8.out; omega
        case rel => exact ⟨(x7_2), (wrap64 (x10_2 + 1)), (x585000_2), (x585001_2), (u585000), (u585001), (by first | rfl | (simp; done) | (simp [*]; done)), (by first | rfl | (simp; done) | (simp [*]; done)), H', ⟨by have := HK1.out; have := HK2.out; have := HJ8.out; omega⟩, ⟨by (with_reducible repeat (first | apply Kd.V_alloc | apply Kd.V_drewN | apply Kd.V_drew)); exact HO_585000.out⟩, ⟨by (with_reducible repeat (first | apply Kd.V_alloc | apply Kd.V_drewN | apply Kd.V_drew)); exact HO_585001.out⟩, ⟨zb BK583.out⟩, ⟨zb BK584.out⟩, ⟨zh HB.out⟩⟩
       replace c14 := Bool.eq_false_iff.mpr c14
       subst c14
       have H1 : (spec_deSwap.l2 kj8 l0 a1 x7_2 x18_1 bz585 x10_2 0 l0 (l0.length : Int) x18_1 x585000_2 x585001_2) = some (r1, r2, r3) := by rw [if_neg (show ¬ (false = true) by decide)] at H; exact H
       clear H
       have H := H1
       clear H1
       have H' := Aside0.mk H
       clear H
       go_wp2
       repeat (go_quiet (fail); try go_wp2)
       go_loopg [7, 11] kj8 (fun kq v7 v11 w' => ∃ (x7_4 : Bool) (x11_4 : Int) (x585000_4 : List (List Int)) (x585001_4 : List (List Int)) (u585000 : Value) (u585001 : Value), v7 = .bool x7_4 ∧ v11 = .int .i64 x11_4 ∧ Aside0 (spec_deSwap.l2 kq l0 a1 x7_4 x18_1 bz585 x10_2 x11_4 l0 (l0.length : Int) x18_1 x585000_4 x585001_4 = some (r1, r2, r3)) ∧ Aside0 (kq ≤ kj8) ∧ Aside0 (Kd.V (Kd.slice 3 (Kd.int .i64)) 71 w' w.heap.size (fun k_ => (w.heap.size ≤ k_) ∧ k_ ≠ gb583 ∧ k_ ≠ gb584) u585000 x585000_4) ∧ Aside0 (Kd.V (Kd.slice 3 (Kd.int .i64)) 71 w' w.heap.size (fun k_ => (w.heap.size ≤ k_) ∧ k_ ≠ gb583 ∧ k_ ≠ gb584) u585001 x585001_4) ∧ Aside0 (w'.heap[gb583]? = some (.cells #[(.slice none 0 0), (.slice none 0 0)] 46 (0, 0))) ∧ Aside0 (w'.heap[gb584]? = some (.cells #[u585000, u585001] 46 (0, 0))) ∧ Aside0 (Below w.heap.size w w'))
       case atStart => exact ⟨(x7_2), (0), (x585000_2), (x585001_2), (u585000), (u585001), (by first | rfl | (simp; done) | (simp [*]; done)), (by first | rfl | (simp; done) | (simp [*]; done)), H', ⟨Nat.le_refl _⟩, ⟨by (with_reducible repeat (first | apply Kd.V_alloc | apply Kd.V_drewN | apply Kd.V_drew)); exact HO_585000.out⟩, ⟨by (with_reducible repeat (first | apply Kd.V_alloc | apply Kd.V_drewN | apply Kd.V_drew)); exact HO_585001.out⟩, ⟨zb BK583.out⟩, ⟨zb BK584.out⟩, ⟨zh HB.out⟩⟩
       case round =>
        clear H'
        try clear c1
        try clear q1
        try clear p2
        try clear c5
        try clear c5b0
        try clear p5
        try clear q5
        try clear hx5
        try clear c6
        try clear c6b0
        try clear p6
        try clear c7
        try clear c7b0
        try clear c8
        try clear c8b0
        try clear q10
        try clear c11
        try clear c11b0
        try clear c12
        try clear c12b0
        try clear c13
        try clear c13b0
        try clear c14
        try clear hx585_0
        try clear hx586_0
        try clear p2
        try clear p5
        try clear p585
        try clear p586
        try clear q1
        try clear q10
        try clear q5
        try clear q585
        try clear q586
        obtain ⟨x7_4, x11_4, x585000_4, x585001_4, u585000, u585001, rfl, rfl, HA, HK4, HO_585000, HO_585001, BK583, BK584, HB⟩ := hrel
        cases gk with
        | zero => exact absurd HA.out (by simp [spec_deSwap.l2])
        | succ k4 =>
         have H := HA.out
         clear HA
         simp only [spec_deSwap.l2] at H
         by_cases c15 : x11_4 < a1
         rotate_left
         ·rw [if_neg c15] at H
          have c15b0 : decide (x11_4 < a1) = false := decide_eq_false c15
          clear c15
          have H' := Aside0.mk H
          clear H
          go_wp2
          repeat (go_quiet (fail); try go_wp2)
          go_roundg k4
          case measure => have := HK1.out; have := HK2.out; have := HJ8.out; have := HK4.out; omega
          case rel => exact ⟨(x7_4), (wrap64 (x10_2 + 1)), (x585000_4), (x585001_4), (u585000), (u585001), (by first | rfl | (simp; done) | (simp [*]; done)), (by first | rfl | (simp; done) | (simp [*]; done)), H', ⟨by have := HK1.out; have := HK2.out; have := HJ8.out; have := HK4.out; omega⟩, ⟨by (with_reducible repeat (first | apply Kd.V_alloc | apply Kd.V_drewN | apply Kd.V_drew)); exact HO_585000.out⟩, ⟨by (with_reducible repeat (first | apply Kd.V_alloc | apply Kd.V_drewN | apply Kd.V_drew)); exact HO_585001.out⟩, ⟨zb BK583.out⟩, ⟨zb BK584.out⟩, ⟨zh HB.out⟩⟩
         rw [if_pos c15] at H
         have c15b0 : decide (x11_4 < a1) = true := decide_eq_true c15
         clear c15
         have H' := Aside0.mk H
         clear H
         go_wp2
         repeat (go_quiet (fail); try go_wp2)
         go_loopg [7, 12] k4 (fun kq v7 v12 w' => ∃ (x7_5 : Bool) (x12_5 : Int) (x585000_5 : List (List Int)) (x585001_5 : List (List Int)) (u585000 : Value) (u585001 : Value), v7 = .bool x7_5 ∧ v12 = .int .i64 x12_5 ∧ Aside0 (spec_deSwap.l3 kq l0 a1 x7_5 x18_1 bz585 x10_2 x11_4 x12_5 l0 (l0.length : Int) x18_1 x585000_5 x585001_5 = some (r1, r2, r3)) ∧ Aside0 (kq ≤ k4) ∧ Aside0 (Kd.V (Kd.slice 3 (Kd.int .i64)) 71 w' w.heap.size (fun k_ => (w.heap.size ≤ k_) ∧ k_ ≠ gb583 ∧ k_ ≠ gb584) u585000 x585000_5) ∧ Aside0 (Kd.V (Kd.slice 3 (Kd.int .i64)) 71 w' w.heap.size (fun k_ => (w.heap.size ≤ k_) ∧ k_ ≠ gb583 ∧ k_ ≠ gb584) u585001 x585001_5) ∧ Aside0 (w'.heap[gb583]? = some (.cells #[(.slice none 0 0), (.slice none 0 0)] 46 (0, 0))) ∧ Aside0 (w'.heap[gb584]? = some (.cells #[u585000, u585001] 46 (0, 0))) ∧ Aside0 (Below w.heap.size w w'))
         case atStart => exact ⟨(x7_4), (0), (x585000_4), (x585001_4), (u585000), (u585001), (by first | rfl | (simp; done) | (simp [*]; done)), (by first | rfl | (simp; done) | (simp [*]; done)), H', ⟨Nat.le_refl _⟩, ⟨by (with_reducible repeat (first | apply Kd.V_alloc | apply Kd.V_drewN | apply Kd.V_drew)); exact HO_585000.out⟩, ⟨by (with_reducible repeat (first | apply Kd.V_alloc | apply Kd.V_drewN | apply Kd.V_drew)); exact HO_585001.out⟩, ⟨zb BK583.out⟩, ⟨zb BK584.out⟩, ⟨zh HB.out⟩⟩
         case round =>
          clear H'
          try clear c1
          try clear q1
          try clear p2
          try clear c5
          try clear c5b0
          try clear p5
          try clear q5
          try clear hx5
          try clear c6
          try clear c6b0
          try clear p6
          try clear c7
          try clear c7b0
          try clear c8
          try clear c8b0
          try clear q10
          try clear c11
          try clear c11b0
          try clear c12
          try clear c12b0
          try clear c13
          try clear c13b0
          try clear c14
          try clear c15
          try clear c15b0
          try clear hx585_0
          try clear hx586_0
          try clear p2
          try clear p5
          try clear p585
          try clear p586
          try clear p6
          try clear q1
          try clear q10
          try clear q5
          try clear q585
          try clear q586
          obtain ⟨x7_5, x12_5, x585000_5, x585001_5, u585000, u585001, rfl, rfl, HA, HK5, HO_585000, HO_585001, BK583, BK584, HB⟩ := hrel
          cases gk with
          | zero => exact absurd HA.out (by simp [spec_deSwap.l3])
          | succ k5 =>
           have H := HA.out
           clear HA
           simp only [spec_deSwap.l3] at H
           by_cases c16 : x12_5 < a1
           rotate_left
           ·rw [if_neg c16] at H
            have c16b0 : decide (x12_5 < a1) = false := decide_eq_false c16
            clear c16
            have H' := Aside0.mk H
            clear H
            go_wp2
            repeat (go_quiet (fail); try go_wp2)
            go_roundg k5
            case measure => have := HK1.out; have := HK2.out; have := HJ8.out; have := HK4.out; have := HK5.out; omega
            case rel => exact ⟨(x7_5), (wrap64 (x11_4 + 1)), (x585000_5), (x585001_5), (u585000), (u585001), (by first | rfl | (simp; done) | (simp [*]; done)), (by first | rfl | (simp; done) | (simp [*]; done)), H', ⟨by have := HK1.out; have := HK2.out; have := HJ8.out; have := HK4.out; have := HK5.out; omega⟩, ⟨by (with_reducible repeat (first | apply Kd.V_alloc | apply Kd.V_drewN | apply Kd.V_drew)); exact HO_585000.out⟩, ⟨by (with_reducible repeat (first | apply Kd.V_alloc | apply Kd.V_drewN | apply Kd.V_drew)); exact HO_585001.out⟩, ⟨zb BK583.out⟩, ⟨zb BK584.out⟩, ⟨zh HB.out⟩⟩
           rw [if_pos c16] at H
           have c16b0 : decide (x12_5 < a1) = true := decide_eq_true c16
           clear c16
           have HC17 := Aside0.mk H
           clear H
           go_upto_region 16 with (fail)
           repeat (go_quiet (fail); go_upto_region 16 with (fail))
           go_cut [72] (fun v72 wc => ∃ (kq : Nat) (x72_16 : Bool), v72 = .bool x72_16 ∧ Aside0 (spec_deSwap.j5 kq l0 a1 x7_5 x18_1 bz585 x10_2 x11_4 x12_5 l0 (l0.length : Int) x18_1 x72_16 x585000_5 x585001_5 = some (r1, r2, r3)) ∧ Aside0 (kq ≤ k5) ∧ Aside0 (Kd.V (Kd.slice 3 (Kd.int .i64)) 71 wc w.heap.size (fun k_ => (w.heap.size ≤ k_) ∧ k_ ≠ gb583 ∧ k_ ≠ gb584) u585000 x585000_5) ∧ Aside0 (Kd.V (Kd.slice 3 (Kd.int .i64)) 71 wc w.heap.size (fun k_ => (w.heap.size ≤ k_) ∧ k_ ≠ gb583 ∧ k_ ≠ gb584) u585001 x585001_5) ∧ Aside0 (wc.heap[gb583]? = some (.cells #[(.slice none 0 0), (.slice none 0 0)] 46 (0, 0))) ∧ Aside0 (wc.heap[gb584]? = some (.cells #[u585000, u585001] 46 (0, 0))) ∧ Aside0 (Below w.heap.size w wc))
           case first =>
            have H := HC17.out
            clear HC17
            by_cases c18 : 0 ≤ x11_4
            ·rw [if_pos c18] at H
             have c18b0 := eq_true c18
             have c18b1 : decide (0 ≤ x11_4) = true := decide_eq_true c18
             clear c18
             obtain ⟨ji19, hji19⟩ : ∃ j_ : Int, (shr .i64 x18_1 x11_4) = j_ := ⟨_, rfl⟩
             replace H : (if (Int.tmod (ji19) 2) = 0 then (spec_deSwap.j5 k5 l0 a1 x7_5 x18_1 bz585 x10_2 x11_4 x12_5 l0 (l0.length : Int) x18_1 true x585000_5 x585001_5) else (if (Int.tmod (shr .i64 x10_2 x11_4) 2) = 1 then (spec_deSwap.j5 k5 l0 a1 x7_5 x18_1 bz585 x10_2 x11_4 x12_5 l0 (l0.length : Int) x18_1 true x585000_5 x585001_5) else (if 0 ≤ x12_5 then (if (Int.tmod (shr .i64 x18_1 x12_5) 2) = 1 then (spec_deSwap.j5 k5 l0 a1 x7_5 x18_1 bz585 x10_2 x11_4 x12_5 l0 (l0.length : Int) x18_1 true x585000_5 x585001_5) else (spec_deSwap.j5 k5 l0 a1 x7_5 x18_1 bz585 x10_2 x11_4 x12_5 l0 (l0.length : Int) x18_1 ((Int.tmod (shr .i64 x10_2 x12_5) 2) == 0) x585000_5 x585001_5)) else (none)))) = some (r1, r2, r3) := by first | (rw [hji19] at H; exact H) | (simp only [hji19] at H ⊢; exact H)
             have hji19_ : (x18_1 / 2 ^ min x11_4.toNat 64) = ji19 := hji19
             have hji19z : x11_4 ≤ 64 → (x18_1 / 2 ^ x11_4.toNat) = ji19 := shr_small hji19
             by_cases c20 : (Int.tmod (ji19) 2) = 0
             ·rw [if_pos c20] at H
              have c20b0 : ((Int.tmod (ji19) 2) == 0) = true := beq_iff_eq.mpr c20
              have c20b1 : ((Int.tmod (ji19) 2) != 0) = false := bne_eq_false_iff_eq.mpr c20
              clear c20
              (first | rw [c20b0] | (simp only [i64_w, i32_w]; rw [c20b0]) | skip)
              have H' := Aside0.mk H
              clear H
              go_wp2
              repeat (go_quiet (fail); try go_wp2)
              go_meet
              case rel => exact ⟨_, (true), (by first | rfl | (simp; done) | (simp [*]; done)), H', ⟨by have := HK1.out; have := HK2.out; have := HJ8.out; have := HK4.out; have := HK5.out; first | omega | exact Nat.le_refl _⟩, ⟨by (with_reducible repeat (first | apply Kd.V_alloc | apply Kd.V_drewN | apply Kd.V_drew)); exact HO_585000.out⟩, ⟨by (with_reducible repeat (first | apply Kd.V_alloc | apply Kd.V_drewN | apply Kd.V_drew)); exact HO_585001.out⟩, ⟨zb BK583.out⟩, ⟨zb BK584.out⟩, ⟨zh HB.out⟩⟩
             ·rw [if_neg c20] at H
              have c20b0 : ((Int.tmod (ji19) 2) == 0) = false := beq_eq_false_iff_ne.mpr c20
              have c20b1 : ((Int.tmod (ji19) 2) != 0) = true := bne_iff_ne.mpr c20
              (first | rw [c20b0] | (simp only [i64_w, i32_w]; rw [c20b0]) | skip)
              have c21b0 := eq_true (of_decide_eq_true (by first | (with_reducible assumption) | assumption) : 0 ≤ x11_4)
              obtain ⟨ji22, hji22⟩ : ∃ j_ : Int, (shr .i64 x10_2 x11_4) = j_ := ⟨_, rfl⟩
              replace H : (if (Int.tmod (ji22) 2) = 1 then (spec_deSwap.j5 k5 l0 a1 x7_5 x18_1 bz585 x10_2 x11_4 x12_5 l0 (l0.length : Int) x18_1 true x585000_5 x585001_5) else (if 0 ≤ x12_5 then (if (Int.tmod (shr .i64 x18_1 x12_5) 2) = 1 then (spec_deSwap.j5 k5 l0 a1 x7_5 x18_1 bz585 x10_2 x11_4 x12_5 l0 (l0.length : Int) x18_1 true x585000_5 x585001_5) else (spec_deSwap.j5 k5 l0 a1 x7_5 x18_1 bz585 x10_2 x11_4 x12_5 l0 (l0.length : Int) x18_1 ((Int.tmod (shr .i64 x10_2 x12_5) 2) == 0) x585000_5 x585001_5)) else (none))) = some (r1, r2, r3) := by first | (rw [hji22] at H; exact H) | (simp only [hji22] at H ⊢; exact H)
              have hji22_ : (x10_2 / 2 ^ min x11_4.toNat 64) = ji22 := hji22
              have hji22z : x11_4 ≤ 64 → (x10_2 / 2 ^ x11_4.toNat) = ji22 := shr_small hji22
              by_cases c23 : (Int.tmod (ji22) 2) = 1
              ·rw [if_pos c23] at H
               have c23b0 : ((Int.tmod (ji22) 2) == 1) = true := beq_iff_eq.mpr c23
               have c23b1 : ((Int.tmod (ji22) 2) != 1) = false := bne_eq_false_iff_eq.mpr c23
               clear c23
               have H' := Aside0.mk H
               clear H
               go_wp2
               repeat (go_quiet (fail); try go_wp2)
               go_meet
               case rel => exact ⟨_, (true), (by first | rfl | (simp; done) | (simp [*]; done)), H', ⟨by have := HK1.out; have := HK2.out; have := HJ8.out; have := HK4.out; have := HK5.out; first | omega | exact Nat.le_refl _⟩, ⟨by (with_reducible repeat (first | apply Kd.V_alloc | apply Kd.V_drewN | apply Kd.V_drew)); exact HO_585000.out⟩, ⟨by (with_reducible repeat (first | apply Kd.V_alloc | apply Kd.V_drewN | apply Kd.V_drew)); exact HO_585001.out⟩, ⟨zb BK583.out⟩, ⟨zb BK584.out⟩, ⟨zh HB.out⟩⟩
              ·rw [if_neg c23] at H
               have c23b0 : ((Int.tmod (ji22) 2) == 1) = false := beq_eq_false_iff_ne.mpr c23
               have c23b1 : ((Int.tmod (ji22) 2) != 1) = true := bne_iff_ne.mpr c23
               by_cases c24 : 0 ≤ x12_5
               ·rw [if_pos c24] at H
                have c24b0 := eq_true c24
                have c24b1 : decide (0 ≤ x12_5) = true := decide_eq_true c24
                clear c24
                obtain ⟨ji25, hji25⟩ : ∃ j_ : Int, (shr .i64 x18_1 x12_5) = j_ := ⟨_, rfl⟩
                replace H : (if (Int.tmod (ji25) 2) = 1 then (spec_deSwap.j5 k5 l0 a1 x7_5 x18_1 bz585 x10_2 x11_4 x12_5 l0 (l0.length : Int) x18_1 true x585000_5 x585001_5) else (spec_deSwap.j5 k5 l0 a1 x7_5 x18_1 bz585 x10_2 x11_4 x12_5 l0 (l0.length : Int) x18_1 ((Int.tmod (shr .i64 x10_2 x12_5) 2) == 0) x585000_5 x585001_5)) = some (r1, r2, r3) := by first | (rw [hji25] at H; exact H) | (simp only [hji25] at H ⊢; exact H)
                have hji25_ : (x18_1 / 2 ^ min x12_5.toNat 64) = ji25 := hji25
                have hji25z : x12_5 ≤ 64 → (x18_1 / 2 ^ x12_5.toNat) = ji25 := shr_small hji25
                by_cases c26 : (Int.tmod (ji25) 2) = 1
                ·rw [if_pos c26] at H
                 have c26b0 : ((Int.tmod (ji25) 2) == 1) = true := beq_iff_eq.mpr c26
                 have c26b1 : ((Int.tmod (ji25) 2) != 1) = false := bne_eq_false_iff_eq.mpr c26
                 clear c26
                 have H' := Aside0.mk H
                 clear H
                 go_wp2
                 repeat (go_quiet (fail); try go_wp2)
                 go_meet
                 case rel => exact ⟨_, (true), (by first | rfl | (simp; done) | (simp [*]; done)), H', ⟨by have := HK1.out; have := HK2.out; have := HJ8.out; have := HK4.out; have := HK5.out; first | omega | exact Nat.le_refl _⟩, ⟨by (with_reducible repeat (first | apply Kd.V_alloc | apply Kd.V_drewN | apply Kd.V_drew)); exact HO_585000.out⟩, ⟨by (with_reducible repeat (first | apply Kd.V_alloc | apply Kd.V_drewN | apply Kd.V_drew)); exact HO_585001.out⟩, ⟨zb BK583.out⟩, ⟨zb BK584.out⟩, ⟨zh HB.out⟩⟩
                ·rw [if_neg c26] at H
                 have c26b0 : ((Int.tmod (ji25) 2) == 1) = false := beq_eq_false_iff_ne.mpr c26
                 have c26b1 : ((Int.tmod (ji25) 2) != 1) = true := bne_iff_ne.mpr c26
                 have c27b0 := eq_true (of_decide_eq_true (by first | (with_reducible assumption) | assumption) : 0 ≤ x12_5)
                 obtain ⟨ji28, hji28⟩ : ∃ j_ : Int, (shr .i64 x10_2 x12_5) = j_ := ⟨_, rfl⟩
                 replace H : (spec_deSwap.j5 k5 l0 a1 x7_5 x18_1 bz585 x10_2 x11_4 x12_5 l0 (l0.length : Int) x18_1 ((Int.tmod (ji28) 2) == 0) x585000_5 x585001_5) = some (r1, r2, r3) := by first | (rw [hji28] at H; exact H) | (simp only [hji28] at H ⊢; exact H)
                 have hji28_ : (x10_2 / 2 ^ min x12_5.toNat 64) = ji28 := hji28
                 have hji28z : x12_5 ≤ 64 → (x10_2 / 2 ^ x12_5.toNat) = ji28 := shr_small hji28
                 have H' := Aside0.mk H
                 clear H
                 go_wp2
                 repeat (go_quiet (fail); try go_wp2)
                 go_meet
                 case rel => exact ⟨_, (((Int.tmod (ji28) 2) == 0)), (by first | rfl | (simp; done) | (simp only [← hji28] <;> (first | rfl | simp)) | (simp [*]; done)), H', ⟨by have := HK1.out; have := HK2.out; have := HJ8.out; have := HK4.out; have := HK5.out; first | omega | exact Nat.le_refl _⟩, ⟨by (with_reducible repeat (first | apply Kd.V_alloc | apply Kd.V_drewN | apply Kd.V_drew)); exact HO_585000.out⟩, ⟨by (with_reducible repeat (first | apply Kd.V_alloc | apply Kd.V_drewN | apply Kd.V_drew)); exact HO_585001.out⟩, ⟨zb BK583.out⟩, ⟨zb BK584.out⟩, ⟨zh HB.out⟩⟩
               ·rw [if_neg c24] at H
                exact absurd H (by simp)
            ·rw [if_neg c18] at H
             exact absurd H (by simp)
           case rest =>
            clear HC17
            try clear c1
            try clear q1
            try clear c2
            try clear p2
            try clear c5
            try clear c5b0
            try clear p5
            try clear q5
            try clear hx5
            try clear c6
            try clear c6b0
            try clear p6
            try clear c7
            try clear c7b0
            try clear c8
            try clear c8b0
            try clear q10
            try clear c11
            try clear c11b0
            try clear c12
            try clear c12b0
            try clear c13
            try clear c13b0
            try clear c14
            try clear c15
            try clear c15b0
            try clear c16
            try clear c16b0
            try clear c18
            try clear c18b0
            try clear c18b1
            try clear c20
            try clear c20b0
            try clear c20b1
            try clear c21
            try clear c21b0
            try clear c23
            try clear c23b0
            try clear c23b1
            try clear c24
            try clear c24b0
            try clear c24b1
            try clear c26
            try clear c26b0
            try clear c26b1
            try clear c27
            try clear c27b0
            try clear hx585_0
            try clear hx586_0
            try clear p2
            try clear p5
            try clear p585
            try clear p586
            try clear p6
            try clear q1
            try clear q10
            try clear q5
            try clear q585
            try clear q586
            obtain ⟨kq, x72_16, rfl, HA, HJ16, HO_585000, HO_585001, BK583, BK584, HB⟩ := hcut
            cases kq with
            | zero => exact absurd HA.out (by simp [spec_deSwap.j5])
            | succ kj16 =>
             have H := HA.out
             clear HA
             simp only [spec_deSwap.j5] at H
             by_cases c29 : x72_16 = true
             ·subst c29
              have H1 : (spec_deSwap.l3 kj16 l0 a1 x7_5 x18_1 bz585 x10_2 x11_4 (wrap64 (x12_5 + 1)) l0 (l0.length : Int) x18_1 x585000_5 x585001_5) = some (r1, r2, r3) := by rw [if_pos rfl] at H; exact H
              clear H
              have H := H1
              clear H1
              have H' := Aside0.mk H
              clear H
              go_wp2
              repeat (go_quiet (fail); try go_wp2)
              go_roundg kj16
              case measure => have := HK1.out; have := HK2.out; have := HJ8.out; have := HK4.out; have := HK5.out; have := HJ16.out; omega
              case rel => exact ⟨(x7_5), (wrap64 (x12_5 + 1)), (x585000_5), (x585001_5), (u585000), (u585001), (by first | rfl | (simp; done) | (simp [*]; done)), (by first | rfl | (simp; done) | (simp [*]; done)), H', ⟨by have := HK1.out; have := HK2.out; have := HJ8.out; have := HK4.out; have := HK5.out; have := HJ16.out; omega⟩, ⟨by (with_reducible repeat (first | apply Kd.V_alloc | apply Kd.V_drewN | apply Kd.V_drew)); exact HO_585000.out⟩, ⟨by (with_reducible repeat (first | apply Kd.V_alloc | apply Kd.V_drewN | apply Kd.V_drew)); exact HO_585001.out⟩, ⟨zb BK583.out⟩, ⟨zb BK584.out⟩, ⟨zh HB.out⟩⟩
             replace c29 := Bool.eq_false_iff.mpr c29
             subst c29
             have H1 : (if 0 ≤ x11_4 then (if 0 ≤ x12_5 then (if 0 ≤ (Go.bits .xor .i64 (Go.bits .xor .i64 x18_1 (shl .i64 1 x11_4)) (shl .i64 1 x12_5)) then (if (Go.bits .xor .i64 (Go.bits .xor .i64 x18_1 (shl .i64 1 x11_4)) (shl .i64 1 x12_5)) < (l0.length : Int) then (if rdOf false l0 (Go.bits .xor .i64 (Go.bits .xor .i64 x18_1 (shl .i64 1 x11_4)) (shl .i64 1 x12_5)) = true then (spec_deSwap.j6 kj16 l0 a1 x7_5 x18_1 bz585 x10_2 x11_4 x12_5 (Go.bits .xor .i64 (Go.bits .xor .i64 x18_1 (shl .i64 1 x11_4)) (shl .i64 1 x12_5)) (Go.bits .xor .i64 (Go.bits .xor .i64 x10_2 (shl .i64 1 x11_4)) (shl .i64 1 x12_5)) l0 (l0.length : Int) x18_1 true x585000_5 x585001_5) else (if 0 ≤ (Go.bits .xor .i64 (Go.bits .xor .i64 x10_2 (shl .i64 1 x11_4)) (shl .i64 1 x12_5)) then (if (Go.bits .xor .i64 (Go.bits .xor .i64 x10_2 (shl .i64 1 x11_4)) (shl .i64 1 x12_5)) < (l0.length : Int) then (spec_deSwap.j6 kj16 l0 a1 x7_5 x18_1 bz585 x10_2 x11_4 x12_5 (Go.bits .xor .i64 (Go.bits .xor .i64 x18_1 (shl .i64 1 x11_4)) (shl .i64 1 x12_5)) (Go.bits .xor .i64 (Go.bits .xor .i64 x10_2 (shl .i64 1 x11_4)) (shl .i64 1 x12_5)) l0 (l0.length : Int) x18_1 (rdOf false l0 (Go.bits .xor .i64 (Go.bits .xor .i64 x10_2 (shl .i64 1 x11_4)) (shl .i64 1 x12_5))) x585000_5 x585001_5) else (none)) else (none))) else (none)) else (none)) else (none)) else (none)) = some (r1, r2, r3) := by rw [if_neg (show ¬ (false = true) by decide)] at H; exact H
             clear H
             have H := H1
             clear H1
             by_cases c30 : 0 ≤ x11_4
             rotate_left
             ·rw [if_neg c30] at H
              exact absurd H (by simp)
             rw [if_pos c30] at H
             have c30b0 := eq_true c30
             have c30b1 : decide (0 ≤ x11_4) = true := decide_eq_true c30
             clear c30
             obtain ⟨ji31, hji31⟩ : ∃ j_ : Int, (shl .i64 1 x11_4) = j_ := ⟨_, rfl⟩
             replace H : (if 0 ≤ x12_5 then (if 0 ≤ (Go.bits .xor .i64 (Go.bits .xor .i64 x18_1 (ji31)) (shl .i64 1 x12_5)) then (if (Go.bits .xor .i64 (Go.bits .xor .i64 x18_1 (ji31)) (shl .i64 1 x12_5)) < (l0.length : Int) then (if rdOf false l0 (Go.bits .xor .i64 (Go.bits .xor .i64 x18_1 (ji31)) (shl .i64 1 x12_5)) = true then (spec_deSwap.j6 kj16 l0 a1 x7_5 x18_1 bz585 x10_2 x11_4 x12_5 (Go.bits .xor .i64 (Go.bits .xor .i64 x18_1 (ji31)) (shl .i64 1 x12_5)) (Go.bits .xor .i64 (Go.bits .xor .i64 x10_2 (ji31)) (shl .i64 1 x12_5)) l0 (l0.length : Int) x18_1 true x585000_5 x585001_5) else (if 0 ≤ (Go.bits .xor .i64 (Go.bits .xor .i64 x10_2 (ji31)) (shl .i64 1 x12_5)) then (if (Go.bits .xor .i64 (Go.bits .xor .i64 x10_2 (ji31)) (shl .i64 1 x12_5)) < (l0.length : Int) then (spec_deSwap.j6 kj16 l0 a1 x7_5 x18_1 bz585 x10_2 x11_4 x12_5 (Go.bits .xor .i64 (Go.bits .xor .i64 x18_1 (ji31)) (shl .i64 1 x12_5)) (Go.bits .xor .i64 (Go.bits .xor .i64 x10_2 (ji31)) (shl .i64 1 x12_5)) l0 (l0.length : Int) x18_1 (rdOf false l0 (Go.bits .xor .i64 (Go.bits .xor .i64 x10_2 (ji31)) (shl .i64 1 x12_5))) x585000_5 x585001_5) else (none)) else (none))) else (none)) else (none)) else (none)) = some (r1, r2, r3) := by first | (rw [hji31] at H; exact H) | (simp only [hji31] at H ⊢; exact H)
             have hji31_ : (IntKind.i64.wrap (1 * 2 ^ min x11_4.toNat 64)) = ji31 := hji31
             have hji31z : x11_4 ≤ 64 → (IntKind.i64.wrap (1 * 2 ^ x11_4.toNat)) = ji31 := shl_small hji31
             have hji31u : (IntKind.i64.wrap (2 ^ min x11_4.toNat 64)) = ji31 := by have h_ := hji31_; rw [Int.one_mul] at h_; exact h_
             have hji31v : x11_4 ≤ 64 → (IntKind.i64.wrap (2 ^ x11_4.toNat)) = ji31 := fun hle_ => by have h_ := hji31z hle_; rw [Int.one_mul] at h_; exact h_
             have hji31y : (wrap64 (1 * 2 ^ min x11_4.toNat 64)) = ji31 := (i64_w _).symm.trans hji31_
             have hji31x : x11_4 ≤ 64 → (wrap64 (1 * 2 ^ x11_4.toNat)) = ji31 := fun h_ => (i64_w _).symm.trans (hji31z h_)
             by_cases c32 : 0 ≤ x12_5
             rotate_left
             ·rw [if_neg c32] at H
              exact absurd H (by simp)
             rw [if_pos c32] at H
             have c32b0 := eq_true c32
             have c32b1 : decide (0 ≤ x12_5) = true := decide_eq_true c32
             clear c32
             obtain ⟨ji33, hji33⟩ : ∃ j_ : Int, (shl .i64 1 x12_5) = j_ := ⟨_, rfl⟩
             replace H : (if 0 ≤ (Go.bits .xor .i64 (Go.bits .xor .i64 x18_1 (ji31)) (ji33)) then (if (Go.bits .xor .i64 (Go.bits .xor .i64 x18_1 (ji31)) (ji33)) < (l0.length : Int) then (if rdOf false l0 (Go.bits .xor .i64 (Go.bits .xor .i64 x18_1 (ji31)) (ji33)) = true then (spec_deSwap.j6 kj16 l0 a1 x7_5 x18_1 bz585 x10_2 x11_4 x12_5 (Go.bits .xor .i64 (Go.bits .xor .i64 x18_1 (ji31)) (ji33)) (Go.bits .xor .i64 (Go.bits .xor .i64 x10_2 (ji31)) (ji33)) l0 (l0.length : Int) x18_1 true x585000_5 x585001_5) else (if 0 ≤ (Go.bits .xor .i64 (Go.bits .xor .i64 x10_2 (ji31)) (ji33)) then (if (Go.bits .xor .i64 (Go.bits .xor .i64 x10_2 (ji31)) (ji33)) < (l0.length : Int) then (spec_deSwap.j6 kj16 l0 a1 x7_5 x18_1 bz585 x10_2 x11_4 x12_5 (Go.bits .xor .i64 (Go.bits .xor .i64 x18_1 (ji31)) (ji33)) (Go.bits .xor .i64 (Go.bits .xor .i64 x10_2 (ji31)) (ji33)) l0 (l0.length : Int) x18_1 (rdOf false l0 (Go.bits .xor .i64 (Go.bits .xor .i64 x10_2 (ji31)) (ji33))) x585000_5 x585001_5) else (none)) else (none))) else (none)) else (none)) = some (r1, r2, r3) := by first | (rw [hji33] at H; exact H) | (simp only [hji33] at H ⊢; exact H)
             have hji33_ : (IntKind.i64.wrap (1 * 2 ^ min x12_5.toNat 64)) = ji33 := hji33
             have hji33z : x12_5 ≤ 64 → (IntKind.i64.wrap (1 * 2 ^ x12_5.toNat)) = ji33 := shl_small hji33
             have hji33u : (IntKind.i64.wrap (2 ^ min x12_5.toNat 64)) = ji33 := by have h_ := hji33_; rw [Int.one_mul] at h_; exact h_
             have hji33v : x12_5 ≤ 64 → (IntKind.i64.wrap (2 ^ x12_5.toNat)) = ji33 := fun hle_ => by have h_ := hji33z hle_; rw [Int.one_mul] at h_; exact h_
             have hji33y : (wrap64 (1 * 2 ^ min x12_5.toNat 64)) = ji33 := (i64_w _).symm.trans hji33_
             have hji33x : x12_5 ≤ 64 → (wrap64 (1 * 2 ^ x12_5.toNat)) = ji33 := fun h_ => (i64_w _).symm.trans (hji33z h_)
             have c34b0 := eq_true (of_decide_eq_true (by first | (with_reducible assumption) | assumption) : 0 ≤ x11_4)
             have c35b0 := eq_true (of_decide_eq_true (by first | (with_reducible assumption) | assumption) : 0 ≤ x12_5)
             have HC36 := Aside0.mk H
             clear H
             go_upto_region 18 with (fail)
             repeat (go_quiet (fail); go_upto_region 18 with (fail))
             go_cut [96] (fun v96 wc => ∃ (kq : Nat) (x96_35 : Bool), v96 = .bool x96_35 ∧ Aside0 (spec_deSwap.j6 kq l0 a1 x7_5 x18_1 bz585 x10_2 x11_4 x12_5 (Go.bits .xor .i64 (Go.bits .xor .i64 x18_1 (ji31)) (ji33)) (Go.bits .xor .i64 (Go.bits .xor .i64 x10_2 (ji31)) (ji33)) l0 (l0.length : Int) x18_1 x96_35 x585000_5 x585001_5 = some (r1, r2, r3)) ∧ Aside0 (kq ≤ kj16) ∧ Aside0 (Kd.V (Kd.slice 3 (Kd.int .i64)) 71 wc w.heap.size (fun k_ => (w.heap.size ≤ k_) ∧ k_ ≠ gb583 ∧ k_ ≠ gb584) u585000 x585000_5) ∧ Aside0 (Kd.V (Kd.slice 3 (Kd.int .i64)) 71 wc w.heap.size (fun k_ => (w.heap.size ≤ k_) ∧ k_ ≠ gb583 ∧ k_ ≠ gb584) u585001 x585001_5) ∧ Aside0 (wc.heap[gb583]? = some (.cells #[(.slice none 0 0), (.slice none 0 0)] 46 (0, 0))) ∧ Aside0 (wc.heap[gb584]? = some (.cells #[u585000, u585001] 46 (0, 0))) ∧ Aside0 (Below w.heap.size w wc))
             case first =>
              have H := HC36.out
              clear HC36
              by_cases c37 : 0 ≤ (Go.bits .xor .i64 (Go.bits .xor .i64 x18_1 (ji31)) (ji33))
              ·rw [if_pos c37] at H
               have c37b0 : decide (0 ≤ (Go.bits .xor .i64 (Go.bits .xor .i64 x18_1 (ji31)) (ji33))) = true := decide_eq_true c37
               clear c37
               (first | rw [c37b0] | (simp only [i64_w, i32_w]; rw [c37b0]) | skip)
               by_cases c38 : (Go.bits .xor .i64 (Go.bits .xor .i64 x18_1 (ji31)) (ji33)) < (l0.length : Int)
               ·rw [if_pos c38] at H
                have c38b0 : decide ((Go.bits .xor .i64 (Go.bits .xor .i64 x18_1 (ji31)) (ji33)) < (l0.length : Int)) = true := decide_eq_true c38
                clear c38
                obtain ⟨bq39, hbq39⟩ : ∃ b_ : Bool, b_ = (rdOf false l0 (Go.bits .xor .i64 (Go.bits .xor .i64 x18_1 (ji31)) (ji33))) := ⟨_, rfl⟩
                replace H : (if bq39 = true then (spec_deSwap.j6 kj16 l0 a1 x7_5 x18_1 bz585 x10_2 x11_4 x12_5 (Go.bits .xor .i64 (Go.bits .xor .i64 x18_1 (ji31)) (ji33)) (Go.bits .xor .i64 (Go.bits .xor .i64 x10_2 (ji31)) (ji33)) l0 (l0.length : Int) x18_1 true x585000_5 x585001_5) else (if 0 ≤ (Go.bits .xor .i64 (Go.bits .xor .i64 x10_2 (ji31)) (ji33)) then (if (Go.bits .xor .i64 (Go.bits .xor .i64 x10_2 (ji31)) (ji33)) < (l0.length : Int) then (spec_deSwap.j6 kj16 l0 a1 x7_5 x18_1 bz585 x10_2 x11_4 x12_5 (Go.bits .xor .i64 (Go.bits .xor .i64 x18_1 (ji31)) (ji33)) (Go.bits .xor .i64 (Go.bits .xor .i64 x10_2 (ji31)) (ji33)) l0 (l0.length : Int) x18_1 (rdOf false l0 (Go.bits .xor .i64 (Go.bits .xor .i64 x10_2 (ji31)) (ji33))) x585000_5 x585001_5) else (none)) else (none))) = some (r1, r2, r3) := by rw [← hbq39] at H; exact H
                have Nbq39 := Aside0.mk hbq39
                clear hbq39
                by_cases c40 : bq39 = true
                ·subst c40
                 have H1 : (spec_deSwap.j6 kj16 l0 a1 x7_5 x18_1 bz585 x10_2 x11_4 x12_5 (Go.bits .xor .i64 (Go.bits .xor .i64 x18_1 (ji31)) (ji33)) (Go.bits .xor .i64 (Go.bits .xor .i64 x10_2 (ji31)) (ji33)) l0 (l0.length : Int) x18_1 true x585000_5 x585001_5) = some (r1, r2, r3) := by rw [if_pos rfl] at H; exact H
                 clear H
                 have H := H1
                 clear H1
                 have H' := Aside0.mk H
                 clear H
                 have p587 : 0 ≤ ((Go.bits .xor .i64 (Go.bits .xor .i64 x18_1 (ji31)) (ji33)) : Int) := of_decide_eq_true (by first | (with_reducible assumption) | assumption)
                 have q587 : (Go.bits .xor .i64 (Go.bits .xor .i64 x18_1 (ji31)) (ji33)) < (l0.length : Int) := of_decide_eq_true (by first | (with_reducible assumption) | assumption)
                 obtain ⟨ad587, e587, hx587_0⟩ := Kd.at_bool HR0.out (Go.bits .xor .i64 (Go.bits .xor .i64 x18_1 (ji31)) (ji33)) p587 q587
                 (try rw [← Nbq39.out] at hx587_0)
                 obtain rfl : ad585 = ad587 := (by injection e587)
                 replace hx587_0 := (HB.out.cell (World.block_lt_of_cell? w _ hx587_0)).trans hx587_0
                 replace p587 := eq_true p587
                 replace q587 := eq_true q587
                 go_wp2
                 repeat (go_quiet (fail); try go_wp2)
                 go_meet
                 case rel => exact ⟨_, (true), (by first | rfl | (simp; done) | (simp [*]; done)), H', ⟨by have := HK1.out; have := HK2.out; have := HJ8.out; have := HK4.out; have := HK5.out; have := HJ16.out; first | omega | exact Nat.le_refl _⟩, ⟨by (with_reducible repeat (first | apply Kd.V_alloc | apply Kd.V_drewN | apply Kd.V_drew)); exact HO_585000.out⟩, ⟨by (with_reducible repeat (first | apply Kd.V_alloc | apply Kd.V_drewN | apply Kd.V_drew)); exact HO_585001.out⟩, ⟨zb BK583.out⟩, ⟨zb BK584.out⟩, ⟨zh HB.out⟩⟩
                ·replace c40 := Bool.eq_false_iff.mpr c40
                 subst c40
                 have H1 : (if 0 ≤ (Go.bits .xor .i64 (Go.bits .xor .i64 x10_2 (ji31)) (ji33)) then (if (Go.bits .xor .i64 (Go.bits .xor .i64 x10_2 (ji31)) (ji33)) < (l0.length : Int) then (spec_deSwap.j6 kj16 l0 a1 x7_5 x18_1 bz585 x10_2 x11_4 x12_5 (Go.bits .xor .i64 (Go.bits .xor .i64 x18_1 (ji31)) (ji33)) (Go.bits .xor .i64 (Go.bits .xor .i64 x10_2 (ji31)) (ji33)) l0 (l0.length : Int) x18_1 (rdOf false l0 (Go.bits .xor .i64 (Go.bits .xor .i64 x10_2 (ji31)) (ji33))) x585000_5 x585001_5) else (none)) else (none)) = some (r1, r2, r3) := by rw [if_neg (show ¬ (false = true) by decide)] at H; exact H
                 clear H
                 have H := H1
                 clear H1
                 by_cases c41 : 0 ≤ (Go.bits .xor .i64 (Go.bits .xor .i64 x10_2 (ji31)) (ji33))
                 ·rw [if_pos c41] at H
                  have c41b0 : decide (0 ≤ (Go.bits .xor .i64 (Go.bits .xor .i64 x10_2 (ji31)) (ji33))) = true := decide_eq_true c41
                  clear c41
                  by_cases c42 : (Go.bits .xor .i64 (Go.bits .xor .i64 x10_2 (ji31)) (ji33)) < (l0.length : Int)
                  ·rw [if_pos c42] at H
                   have c42b0 : decide ((Go.bits .xor .i64 (Go.bits .xor .i64 x10_2 (ji31)) (ji33)) < (l0.length : Int)) = true := decide_eq_true c42
                   clear c42
                   have H' := Aside0.mk H
                   clear H
                   have p587 : 0 ≤ ((Go.bits .xor .i64 (Go.bits .xor .i64 x18_1 (ji31)) (ji33)) : Int) := of_decide_eq_true (by first | (with_reducible assumption) | assumption)
                   have q587 : (Go.bits .xor .i64 (Go.bits .xor .i64 x18_1 (ji31)) (ji33)) < (l0.length : Int) := of_decide_eq_true (by first | (with_reducible assumption) | assumption)
                   obtain ⟨ad587, e587, hx587_0⟩ := Kd.at_bool HR0.out (Go.bits .xor .i64 (Go.bits .xor .i64 x18_1 (ji31)) (ji33)) p587 q587
                   (try rw [← Nbq39.out] at hx587_0)
                   obtain rfl : ad585 = ad587 := (by injection e587)
                   replace hx587_0 := (HB.out.cell (World.block_lt_of_cell? w _ hx587_0)).trans hx587_0
                   replace p587 := eq_true p587
                   replace q587 := eq_true q587
                   have p588 : 0 ≤ ((Go.bits .xor .i64 (Go.bits .xor .i64 x10_2 (ji31)) (ji33)) : Int) := of_decide_eq_true (by first | (with_reducible assumption) | assumption)
                   have q588 : (Go.bits .xor .i64 (Go.bits .xor .i64 x10_2 (ji31)) (ji33)) < (l0.length : Int) := of_decide_eq_true (by first | (with_reducible assumption) | assumption)
                   obtain ⟨ad588, e588, hx588_0⟩ := Kd.at_bool HR0.out (Go.bits .xor .i64 (Go.bits .xor .i64 x10_2 (ji31)) (ji33)) p588 q588
                   (try rw [← Nbq39.out] at hx588_0)
                   obtain rfl : ad585 = ad588 := (by injection e588)
                   replace hx588_0 := (HB.out.cell (World.block_lt_of_cell? w _ hx588_0)).trans hx588_0
                   replace p588 := eq_true p588
                   replace q588 := eq_true q588
                   go_wp2
                   repeat (go_quiet (fail); try go_wp2)
                   go_meet
                   case rel => exact ⟨_, (rdOf false l0 (Go.bits .xor .i64 (Go.bits .xor .i64 x10_2 (ji31)) (ji33))), (by first | rfl | (simp; done) | (simp only [← hji31, ← hji33] <;> (first | rfl | simp)) | (simp [*]; done)), H', ⟨by have := HK1.out; have := HK2.out; have := HJ8.out; have := HK4.out; have := HK5.out; have := HJ16.out; first | omega | exact Nat.le_refl _⟩, ⟨by (with_reducible repeat (first | apply Kd.V_alloc | apply Kd.V_drewN | apply Kd.V_drew)); exact HO_585000.out⟩, ⟨by (with_reducible repeat (first | apply Kd.V_alloc | apply Kd.V_drewN | apply Kd.V_drew)); exact HO_585001.out⟩, ⟨zb BK583.out⟩, ⟨zb BK584.out⟩, ⟨zh HB.out⟩⟩
                  ·rw [if_neg c42] at H
                   exact absurd H (by simp)
                 ·rw [if_neg c41] at H
                  exact absurd H (by simp)
               ·rw [if_neg c38] at H
                exact absurd H (by simp)
              ·rw [if_neg c37] at H
               exact absurd H (by simp)
             case rest =>
              clear HC36
              try clear c1
              try clear q1
              try clear c2
              try clear p2
              try clear c3
              try clear q3
              try clear c4
              try clear c5
              try clear c5b0
              try clear p5
              try clear q5
              try clear hx5
              try clear c6
              try clear c6b0
              try clear p6
              try clear c7
              try clear c7b0
              try clear c8
              try clear c8b0
              try clear q10
              try clear c11
              try clear c11b0
              try clear c12
              try clear c12b0
              try clear c13
              try clear c13b0
              try clear c14
              try clear c15
              try clear c15b0
              try clear c16
              try clear c16b0
              try clear c18
              try clear c18b0
              try clear c18b1
              try clear c20
              try clear c20b0
              try clear c20b1
              try clear c21
              try clear c21b0
              try clear c23
              try clear c23b0
              try clear c23b1
              try clear c24
              try clear c24b0
              try clear c24b1
              try clear c26
              try clear c26b0
              try clear c26b1
              try clear c27
              try clear c27b0
              try clear c29
              try clear c30
              try clear c30b0
              try clear c30b1
              try clear c32
              try clear c32b0
              try clear c32b1
              try clear c34
              try clear c34b0
              try clear c35
              try clear c35b0
              try clear c37
              try clear c37b0
              try clear c38
              try clear c38b0
              try clear q39
              try clear c40
              try clear c41
              try clear c41b0
              try clear c42
              try clear c42b0
              try clear hx585_0
              try clear hx586_0
              try clear hx587_0
              try clear hx588_0
              try clear p2
              try clear p5
              try clear p585
              try clear p586
              try clear p587
              try clear p588
              try clear p6
              try clear q1
              try clear q10
              try clear q5
              try clear q585
              try clear q586
              try clear q587
              try clear q588
              obtain ⟨kq, x96_35, rfl, HA, HJ35, HO_585000, HO_585001, BK583, BK584, HB⟩ := hcut
              cases kq with
              | zero => exact absurd HA.out (by simp [spec_deSwap.j6])
              | succ kj35 =>
               have H := HA.out
               clear HA
               simp only [spec_deSwap.j6] at H
               by_cases c43 : x96_35 = true
               ·subst c43
                have H1 : (spec_deSwap.l3 kj35 l0 a1 x7_5 x18_1 bz585 x10_2 x11_4 (wrap64 (x12_5 + 1)) l0 (l0.length : Int) x18_1 x585000_5 x585001_5) = some (r1, r2, r3) := by rw [if_pos rfl] at H; exact H
                clear H
                have H := H1
                clear H1
                have H' := Aside0.mk H
                clear H
                go_wp2
                repeat (go_quiet (fail); try go_wp2)
                go_roundg kj35
                case measure => have := HK1.out; have := HK2.out; have := HJ8.out; have := HK4.out; have := HK5.out; have := HJ16.out; have := HJ35.out; omega
                case rel => exact ⟨(x7_5), (wrap64 (x12_5 + 1)), (x585000_5), (x585001_5), (u585000), (u585001), (by first | rfl | (simp; done) | (simp [*]; done)), (by first | rfl | (simp; done) | (simp [*]; done)), H', ⟨by have := HK1.out; have := HK2.out; have := HJ8.out; have := HK4.out; have := HK5.out; have := HJ16.out; have := HJ35.out; omega⟩, ⟨by (with_reducible repeat (first | apply Kd.V_alloc | apply Kd.V_drewN | apply Kd.V_drew)); exact HO_585000.out⟩, ⟨by (with_reducible repeat (first | apply Kd.V_alloc | apply Kd.V_drewN | apply Kd.V_drew)); exact HO_585001.out⟩, ⟨zb BK583.out⟩, ⟨zb BK584.out⟩, ⟨zh HB.out⟩⟩
               replace c43 := Bool.eq_false_iff.mpr c43
               subst c43
               have H1 : ((spec_deTrade.f kj35 (([x18_1, x10_2] : List Int)) (([(Go.bits .xor .i64 (Go.bits .xor .i64 x18_1 (ji31)) (ji33)), (Go.bits .xor .i64 (Go.bits .xor .i64 x10_2 (ji31)) (ji33))] : List Int))).bind fun bt595 => (if x7_5 = true then ((spec_deTradeBefore.f kj35 bt595.1 bt595.2 x585000_5 x585001_5).bind fun t602 => (if t602 = true then (spec_deSwap.l3 kj35 l0 a1 true x18_1 bz585 x10_2 x11_4 (wrap64 (x12_5 + 1)) l0 (l0.length : Int) x18_1 bt595.1 bt595.2) else (spec_deSwap.l3 kj35 l0 a1 x7_5 x18_1 bz585 x10_2 x11_4 (wrap64 (x12_5 + 1)) l0 (l0.length : Int) x18_1 x585000_5 x585001_5))) else (spec_deSwap.l3 kj35 l0 a1 true x18_1 bz585 x10_2 x11_4 (wrap64 (x12_5 + 1)) l0 (l0.length : Int) x18_1 bt595.1 bt595.2))) = some (r1, r2, r3) := by rw [if_neg (show ¬ (false = true) by decide)] at H; exact H
               clear H
               have H := H1
               clear H1
               obtain ⟨y589, hy589⟩ : ∃ y_ : List Int, y_ = (([x18_1, x10_2] : List Int)) := ⟨_, rfl⟩
               replace H : ((spec_deTrade.f kj35 y589 (([(Go.bits .xor .i64 (Go.bits .xor .i64 x18_1 (ji31)) (ji33)), (Go.bits .xor .i64 (Go.bits .xor .i64 x10_2 (ji31)) (ji33))] : List Int))).bind fun bt595 => (if x7_5 = true then ((spec_deTradeBefore.f kj35 bt595.1 bt595.2 x585000_5 x585001_5).bind fun t602 => (if t602 = true then (spec_deSwap.l3 kj35 l0 a1 true x18_1 bz585 x10_2 x11_4 (wrap64 (x12_5 + 1)) l0 (l0.length : Int) x18_1 bt595.1 bt595.2) else (spec_deSwap.l3 kj35 l0 a1 x7_5 x18_1 bz585 x10_2 x11_4 (wrap64 (x12_5 + 1)) l0 (l0.length : Int) x18_1 x585000_5 x585001_5))) else (spec_deSwap.l3 kj35 l0 a1 true x18_1 bz585 x10_2 x11_4 (wrap64 (x12_5 + 1)) l0 (l0.length : Int) x18_1 bt595.1 bt595.2))) = some (r1, r2, r3) := by first | (rw [hy589]; with_reducible exact H) | (have H2_ := (Option.bind_some _ _).symm.trans H; rw [hy589]; with_reducible exact H2_) | (have H2_ := (Option.bind_some _ _).symm.trans H; with_reducible exact H2_) | with_reducible exact H | (rw [hy589]; exact H) | exact H
               have Ny589 := Aside0.mk hy589
               clear hy589
               obtain ⟨y592, hy592⟩ : ∃ y_ : List Int, y_ = (([(Go.bits .xor .i64 (Go.bits .xor .i64 x18_1 (ji31)) (ji33)), (Go.bits .xor .i64 (Go.bits .xor .i64 x10_2 (ji31)) (ji33))] : List Int)) := ⟨_, rfl⟩
               replace H : ((spec_deTrade.f kj35 y589 y592).bind fun bt595 => (if x7_5 = true then ((spec_deTradeBefore.f kj35 bt595.1 bt595.2 x585000_5 x585001_5).bind fun t602 => (if t602 = true then (spec_deSwap.l3 kj35 l0 a1 true x18_1 bz585 x10_2 x11_4 (wrap64 (x12_5 + 1)) l0 (l0.length : Int) x18_1 bt595.1 bt595.2) else (spec_deSwap.l3 kj35 l0 a1 x7_5 x18_1 bz585 x10_2 x11_4 (wrap64 (x12_5 + 1)) l0 (l0.length : Int) x18_1 x585000_5 x585001_5))) else (spec_deSwap.l3 kj35 l0 a1 true x18_1 bz585 x10_2 x11_4 (wrap64 (x12_5 + 1)) l0 (l0.length : Int) x18_1 bt595.1 bt595.2))) = some (r1, r2, r3) := by first | (rw [hy592]; with_reducible exact H) | (have H2_ := (Option.bind_some _ _).symm.trans H; rw [hy592]; with_reducible exact H2_) | (have H2_ := (Option.bind_some _ _).symm.trans H; with_reducible exact H2_) | with_reducible exact H | (rw [hy592]; exact H) | exact H
               have Ny592 := Aside0.mk hy592
               clear hy592
               replace H := Option.bind_eq_some_iff.mp H
               obtain ⟨⟨t595, t598⟩, A440, H⟩ := H
               replace H : (if x7_5 = true then ((spec_deTradeBefore.f kj35 t595 t598 x585000_5 x585001_5).bind fun t602 => (if t602 = true then (spec_deSwap.l3 kj35 l0 a1 true x18_1 bz585 x10_2 x11_4 (wrap64 (x12_5 + 1)) l0 (l0.length : Int) x18_1 t595 t598) else (spec_deSwap.l3 kj35 l0 a1 x7_5 x18_1 bz585 x10_2 x11_4 (wrap64 (x12_5 + 1)) l0 (l0.length : Int) x18_1 x585000_5 x585001_5))) else (spec_deSwap.l3 kj35 l0 a1 true x18_1 bz585 x10_2 x11_4 (wrap64 (x12_5 + 1)) l0 (l0.length : Int) x18_1 t595 t598)) = some (r1, r2, r3) := H
               have A44 := Aside0.mk A440
               clear A440
               by_cases c45 : x7_5 = true
               rotate_left
               ·replace c45 := Bool.eq_false_iff.mpr c45
                subst c45
                have H1 : (spec_deSwap.l3 kj35 l0 a1 true x18_1 bz585 x10_2 x11_4 (wrap64 (x12_5 + 1)) l0 (l0.length : Int) x18_1 t595 t598) = some (r1, r2, r3) := by rw [if_neg (show ¬ (false = true) by decide)] at H; exact H
                clear H
                have H := H1
                clear H1
                have H' := Aside0.mk H
                clear H
                go_wp2_with (first | ((with_reducible refine gate_dst (N := 99) rfl ?_); refine Kd.R_lit (Kd.int .i64) _ 3 ?hg (N := 99) ?hd (xs := ([x18_1, x10_2] : List Int)) (inner := [.int .i64 x18_1, .int .i64 x10_2]) (ok := fun _ => True) (okp := fun _ => True) ?hr ?hp (fun _ hk => hk) trivial (Below.refl _ _) (Nat.le_refl _) (by simp) ?_; (case hd => rfl); (case hg => rfl); (case hr => first | (go_simp; done) | (go_simp; rfl)); (case hp => exact (Reps.one (show Kd.M (Kd.int .i64) _ _ _ x18_1 [.int .i64 x18_1] from rfl) (Reps.one (show Kd.M (Kd.int .i64) _ _ _ x10_2 [.int .i64 x10_2] from rfl) (Reps.none _ _)))); intro v590 w86 ho87 hb hg_ hnew_; clear hg_ hnew_; (first | rw [← Ny589.out] at ho87 | (simp only [Int.reduceToNat] at ho87; rw [← Ny589.out] at ho87)); have n0_ := Aside0.mk (Kd.V_elder' (by (with_reducible repeat (first | apply Kd.V_alloc | apply Kd.V_drewN | apply Kd.V_drew)); exact HO_585000.out) (Kd.R_base ho87) hb); have n1_ := Aside0.mk (Kd.V_elder' (by (with_reducible repeat (first | apply Kd.V_alloc | apply Kd.V_drewN | apply Kd.V_drew)); exact HO_585001.out) (Kd.R_base ho87) hb); have n2_ := Aside0.mk (Kd.R_lower (Kd.R_newM (M := fun k_ => (w.heap.size ≤ k_)) ho87 (below_size (zh HB.out)) (fun k_ h_ => h_)) (below_size (zh HB.out))); have n3_ := Aside0.mk (blk_below (g := gb583) (o := .cells #[.slice none 0 0, .slice none 0 0] 46 (0, 0)) (zb BK583.out) hb); have n4_ := Aside0.mk (blk_below (g := gb584) (o := .cells #[u585000, u585001] 46 (0, 0)) (zb BK584.out) hb); have n5_ := Aside0.mk (below_step (zh HB.out) hb); clear HO_585000; clear HO_585001; clear BK583; clear BK584; clear HB; have HO_585000 := n0_; have HO_585001 := n1_; have HO591 := n2_; have BK583 := n3_; have BK584 := n4_; have HB := n5_; clear n0_ n1_ n2_ n3_ n4_ n5_; clear hb ho87) | ((with_reducible refine gate_dst (N := 102) rfl ?_); refine Kd.R_lit (Kd.int .i64) _ 3 ?hg (N := 102) ?hd (xs := ([(Go.bits .xor .i64 (Go.bits .xor .i64 x18_1 (ji31)) (ji33)), (Go.bits .xor .i64 (Go.bits .xor .i64 x10_2 (ji31)) (ji33))] : List Int)) (inner := [.int .i64 (Go.bits .xor .i64 (Go.bits .xor .i64 x18_1 (ji31)) (ji33)), .int .i64 (Go.bits .xor .i64 (Go.bits .xor .i64 x10_2 (ji31)) (ji33))]) (ok := fun _ => True) (okp := fun _ => True) ?hr ?hp (fun _ hk => hk) trivial (Below.refl _ _) (Nat.le_refl _) (by simp) ?_; (case hd => rfl); (case hg => rfl); (case hr => first | (go_simp; done) | (go_simp; rfl)); (case hp => exact (Reps.one (show Kd.M (Kd.int .i64) _ _ _ (Go.bits .xor .i64 (Go.bits .xor .i64 x18_1 (ji31)) (ji33)) [.int .i64 (Go.bits .xor .i64 (Go.bits .xor .i64 x18_1 (ji31)) (ji33))] from rfl) (Reps.one (show Kd.M (Kd.int .i64) _ _ _ (Go.bits .xor .i64 (Go.bits .xor .i64 x10_2 (ji31)) (ji33)) [.int .i64 (Go.bits .xor .i64 (Go.bits .xor .i64 x10_2 (ji31)) (ji33))] from rfl) (Reps.none _ _)))); intro v593 w88 ho89 hb hg_ hnew_; clear hg_ hnew_; (first | rw [← Ny592.out] at ho89 | (simp only [Int.reduceToNat] at ho89; rw [← Ny592.out] at ho89)); have n0_ := Aside0.mk (Kd.V_elder' (by (with_reducible repeat (first | apply Kd.V_alloc | apply Kd.V_drewN | apply Kd.V_drew)); exact HO_585000.out) (Kd.R_base ho89) hb); have n1_ := Aside0.mk (Kd.V_elder' (by (with_reducible repeat (first | apply Kd.V_alloc | apply Kd.V_drewN | apply Kd.V_drew)); exact HO_585001.out) (Kd.R_base ho89) hb); have n2_ := Aside0.mk (Kd.R_elder' (zr HO591.out) (Kd.R_base ho89) hb); have n3_ := Aside0.mk (Kd.R_lower (Kd.R_new' (Kd.R_newM (M := fun k_ => (w.heap.size ≤ k_)) ho89 (below_size (zh HB.out)) (fun k_ h_ => h_)) (Kd.R_lt (zr HO591.out))) (below_size (zh HB.out))); have n4_ := Aside0.mk (blk_below (g := gb583) (o := .cells #[.slice none 0 0, .slice none 0 0] 46 (0, 0)) (zb BK583.out) hb); have n5_ := Aside0.mk (blk_below (g := gb584) (o := .cells #[u585000, u585001] 46 (0, 0)) (zb BK584.out) hb); have n6_ := Aside0.mk (below_step (zh HB.out) hb); clear HO_585000; clear HO_585001; clear HO591; clear BK583; clear BK584; clear HB; have HO_585000 := n0_; have HO_585001 := n1_; have HO591 := n2_; have HO594 := n3_; have BK583 := n4_; have BK584 := n5_; have HB := n6_; clear n0_ n1_ n2_ n3_ n4_ n5_ n6_; clear hb ho89; obtain ⟨Ao90, co90, eo90⟩ := Kd.R_slice HO591.out; subst eo90; obtain ⟨Ao91, co91, eo91⟩ := Kd.R_slice HO594.out; subst eo91) | (go_at_call 91; (with_reducible refine (spec_deTrade.calls kj35 _ _ y589 _ _ y592 t595 t598 _ ?side1 ?side2 ?side3 ?side4 A44.out).mono ?_); (case side1 => repeat (first | exact (Kd.R_reads' HO591.out).2.2 | (with_reducible refine Kd.C_alloc ?_ _) | (with_reducible refine Kd.C_drewN ?_ _) | (with_reducible refine Kd.C_drew ?_))); (case side2 => exact (Kd.R_reads' HO591.out).2.1); (case side3 => repeat (first | exact (Kd.R_reads' HO594.out).2.2 | (with_reducible refine Kd.C_alloc ?_ _) | (with_reducible refine Kd.C_drewN ?_ _) | (with_reducible refine Kd.C_drew ?_))); (case side4 => exact (Kd.R_reads' HO594.out).2.1); rintro e w92 ⟨v596, v599, rfl, ho0, ho1, hb⟩; have n0_ := Aside0.mk (Kd.V_below (by (with_reducible repeat (first | apply Kd.V_alloc | apply Kd.V_drewN | apply Kd.V_drew)); exact HO_585000.out) hb); have n1_ := Aside0.mk (Kd.V_below (by (with_reducible repeat (first | apply Kd.V_alloc | apply Kd.V_drewN | apply Kd.V_drew)); exact HO_585001.out) hb); have n2_ := Aside0.mk (Kd.R_below (zr HO591.out) hb); have n3_ := Aside0.mk (Kd.R_below (zr HO594.out) hb); have n4_ := Aside0.mk (Kd.V_lower (Kd.V_mono (ok' := fun k_ => (w.heap.size ≤ k_) ∧ some k_ ≠ (.slice Ao90 y589.length co90 : Value).ownBlock ∧ some k_ ≠ (.slice Ao91 y592.length co91 : Value).ownBlock ∧ k_ ≠ gb583 ∧ k_ ≠ gb584) ho0 (fun k_ hk_ => ⟨(Nat.le_trans (below_size (zh HB.out)) hk_), (Kd.fresh' (Kd.R_lt (zr HO591.out)) k_ hk_), (Kd.fresh' (Kd.R_lt (zr HO594.out)) k_ hk_), (Kd.freshB (g := gb583) (o := .cells #[.slice none 0 0, .slice none 0 0] 46 (0, 0)) (zb BK583.out) k_ hk_), (Kd.freshB (g := gb584) (o := .cells #[u585000, u585001] 46 (0, 0)) (zb BK584.out) k_ hk_)⟩)) (below_size (zh HB.out))); have n5_ := Aside0.mk (Kd.V_lower (Kd.V_mono (ok' := fun k_ => (w.heap.size ≤ k_) ∧ some k_ ≠ (.slice Ao90 y589.length co90 : Value).ownBlock ∧ some k_ ≠ (.slice Ao91 y592.length co91 : Value).ownBlock ∧ k_ ≠ gb583 ∧ k_ ≠ gb584) ho1 (fun k_ hk_ => ⟨(Nat.le_trans (below_size (zh HB.out)) hk_), (Kd.fresh' (Kd.R_lt (zr HO591.out)) k_ hk_), (Kd.fresh' (Kd.R_lt (zr HO594.out)) k_ hk_), (Kd.freshB (g := gb583) (o := .cells #[.slice none 0 0, .slice none 0 0] 46 (0, 0)) (zb BK583.out) k_ hk_), (Kd.freshB (g := gb584) (o := .cells #[u585000, u585001] 46 (0, 0)) (zb BK584.out) k_ hk_)⟩)) (below_size (zh HB.out))); have n6_ := Aside0.mk (blk_below (g := gb583) (o := .cells #[.slice none 0 0, .slice none 0 0] 46 (0, 0)) (zb BK583.out) hb); have n7_ := Aside0.mk (blk_below (g := gb584) (o := .cells #[u585000, u585001] 46 (0, 0)) (zb BK584.out) hb); have n8_ := Aside0.mk (below_step (zh HB.out) hb); clear HO_585000; clear HO_585001; clear HO591; clear HO594; clear BK583; clear BK584; clear HB; have HO_585000 := n0_; have HO_585001 := n1_; have HO591 := n2_; have HO594 := n3_; have HO597 := n4_; have HO600 := n5_; have BK583 := n6_; have BK584 := n7_; have HB := n8_; clear n0_ n1_ n2_ n3_ n4_ n5_ n6_ n7_ n8_; (try clear hb); (try clear hb2); (try clear hk); (try clear hi); (try clear ho0); (try clear ho1)) | ((with_reducible refine gate_dst (N := 15) rfl ?_); refine box_event ?hg (N := 15) ?hd (cs := #[.slice none 0 0, .slice none 0 0]) (t := 46) ?hr ?_; (case hd => rfl); (case hg => rfl); (case hr => first | (go_simp; done) | (go_simp; rfl)); intro gb601 hg w93 hbox hb; have n0_ := Aside0.mk (Kd.V_below (Kd.V_elderB (by (with_reducible repeat (first | apply Kd.V_alloc | apply Kd.V_drewN | apply Kd.V_drew)); exact HO_585000.out) gb601 (Nat.le_of_eq hg.symm)) hb); have n1_ := Aside0.mk (Kd.V_below (Kd.V_elderB (by (with_reducible repeat (first | apply Kd.V_alloc | apply Kd.V_drewN | apply Kd.V_drew)); exact HO_585001.out) gb601 (Nat.le_of_eq hg.symm)) hb); have n2_ := Aside0.mk (Kd.R_below (zr HO591.out) hb); have n3_ := Aside0.mk (Kd.R_below (zr HO594.out) hb); have n4_ := Aside0.mk (Kd.V_below (Kd.V_elderB (by (with_reducible repeat (first | apply Kd.V_alloc | apply Kd.V_drewN | apply Kd.V_drew)); exact HO597.out) gb601 (Nat.le_of_eq hg.symm)) hb); have n5_ := Aside0.mk (Kd.V_below (Kd.V_elderB (by (with_reducible repeat (first | apply Kd.V_alloc | apply Kd.V_drewN | apply Kd.V_drew)); exact HO600.out) gb601 (Nat.le_of_eq hg.symm)) hb); have n6_ := Aside0.mk (blk_below (g := gb583) (o := .cells #[.slice none 0 0, .slice none 0 0] 46 (0, 0)) (zb BK583.out) hb); have n7_ := Aside0.mk (blk_below (g := gb584) (o := .cells #[u585000, u585001] 46 (0, 0)) (zb BK584.out) hb); have n8_ := Aside0.mk (below_step (zh HB.out) hb); have n9_ := Aside0.mk (hbox); have n10_ := Aside0.mk ((by rw [hg]; exact (below_size (zh HB.out)) : w.heap.size ≤ gb601)); have n11_ := Aside0.mk ((by rw [hg]; exact (below_size (zh HB.out)) : w.heap.size ≤ gb601)); have n12_ := Aside0.mk ((by rw [hg]; exact Nat.ne_of_lt (blk_lt (g := gb583) (o := .cells #[.slice none 0 0, .slice none 0 0] 46 (0, 0)) (zb BK583.out)) : gb583 ≠ gb601)); have n13_ := Aside0.mk ((by rw [hg]; exact Nat.ne_of_gt (blk_lt (g := gb583) (o := .cells #[.slice none 0 0, .slice none 0 0] 46 (0, 0)) (zb BK583.out)) : gb601 ≠ gb583)); have n14_ := Aside0.mk ((by rw [hg]; exact Nat.ne_of_lt (blk_lt (g := gb584) (o := .cells #[u585000, u585001] 46 (0, 0)) (zb BK584.out)) : gb584 ≠ gb601)); have n15_ := Aside0.mk ((by rw [hg]; exact Nat.ne_of_gt (blk_lt (g := gb584) (o := .cells #[u585000, u585001] 46 (0, 0)) (zb BK584.out)) : gb601 ≠ gb584)); clear HO_585000; clear HO_585001; clear HO591; clear HO594; clear HO597; clear HO600; clear BK583; clear BK584; clear HB; have HO_585000 := n0_; have HO_585001 := n1_; have HO591 := n2_; have HO594 := n3_; have HO597 := n4_; have HO600 := n5_; have BK583 := n6_; have BK584 := n7_; have HB := n8_; have BK601 := n9_; have GW601 := n10_; have GE601 := n11_; have NB583_601 := n12_; have NB601_583 := n13_; have NB584_601 := n14_; have NB601_584 := n15_; clear n0_ n1_ n2_ n3_ n4_ n5_ n6_ n7_ n8_ n9_ n10_ n11_ n12_ n13_ n14_ n15_; clear hb hbox hg; obtain ⟨Ao94, co94, eo94⟩ := Kd.V_slice HO597.out; subst eo94; have hnb95 := NB601_583.out; have hnc95 := NB583_601.out; have hnb96 := NB601_584.out; have hnc96 := NB584_601.out; have hcz97_0 : w93.cell? ⟨gb601, 0, none⟩ = some (.slice none 0 0) := (blk_cell BK601.out 0).trans rfl; have hcz97_1 : w93.cell? ⟨gb601, 1, none⟩ = some (.slice none 0 0) := (blk_cell BK601.out 1).trans rfl; have hfz97_0 := blk_frozen BK601.out 0; have hfz97_1 := blk_frozen BK601.out 1; obtain ⟨Ao98, co98, eo98⟩ := Kd.V_slice HO600.out; subst eo98; have hnb99 := NB584_583.out; have hnc99 := NB583_584.out; have hcz100_0 : w93.cell? ⟨gb584, 0, none⟩ = some (u585000) := (blk_cell BK584.out 0).trans rfl; have hcz100_1 : w93.cell? ⟨gb584, 1, none⟩ = some (u585001) := (blk_cell BK584.out 1).trans rfl; have hfz100_0 := blk_frozen BK584.out 0; have hfz100_1 := blk_frozen BK584.out 1))
                repeat (go_quiet (first | ((with_reducible refine gate_dst (N := 99) rfl ?_); refine Kd.R_lit (Kd.int .i64) _ 3 ?hg (N := 99) ?hd (xs := ([x18_1, x10_2] : List Int)) (inner := [.int .i64 x18_1, .int .i64 x10_2]) (ok := fun _ => True) (okp := fun _ => True) ?hr ?hp (fun _ hk => hk) trivial (Below.refl _ _) (Nat.le_refl _) (by simp) ?_; (case hd => rfl); (case hg => rfl); (case hr => first | (go_simp; done) | (go_simp; rfl)); (case hp => exact (Reps.one (show Kd.M (Kd.int .i64) _ _ _ x18_1 [.int .i64 x18_1] from rfl) (Reps.one (show Kd.M (Kd.int .i64) _ _ _ x10_2 [.int .i64 x10_2] from rfl) (Reps.none _ _)))); intro v590 w86 ho87 hb hg_ hnew_; clear hg_ hnew_; (first | rw [← Ny589.out] at ho87 | (simp only [Int.reduceToNat] at ho87; rw [← Ny589.out] at ho87)); have n0_ := Aside0.mk (Kd.V_elder' (by (with_reducible repeat (first | apply Kd.V_alloc | apply Kd.V_drewN | apply Kd.V_drew)); exact HO_585000.out) (Kd.R_base ho87) hb); have n1_ := Aside0.mk (Kd.V_elder' (by (with_reducible repeat (first | apply Kd.V_alloc | apply Kd.V_drewN | apply Kd.V_drew)); exact HO_585001.out) (Kd.R_base ho87) hb); have n2_ := Aside0.mk (Kd.R_lower (Kd.R_newM (M := fun k_ => (w.heap.size ≤ k_)) ho87 (below_size (zh HB.out)) (fun k_ h_ => h_)) (below_size (zh HB.out))); have n3_ := Aside0.mk (blk_below (g := gb583) (o := .cells #[.slice none 0 0, .slice none 0 0] 46 (0, 0)) (zb BK583.out) hb); have n4_ := Aside0.mk (blk_below (g := gb584) (o := .cells #[u585000, u585001] 46 (0, 0)) (zb BK584.out) hb); have n5_ := Aside0.mk (below_step (zh HB.out) hb); clear HO_585000; clear HO_585001; clear BK583; clear BK584; clear HB; have HO_585000 := n0_; have HO_585001 := n1_; have HO591 := n2_; have BK583 := n3_; have BK584 := n4_; have HB := n5_; clear n0_ n1_ n2_ n3_ n4_ n5_; clear hb ho87) | ((with_reducible refine gate_dst (N := 102) rfl ?_); refine Kd.R_lit (Kd.int .i64) _ 3 ?hg (N := 102) ?hd (xs := ([(Go.bits .xor .i64 (Go.bits .xor .i64 x18_1 (ji31)) (ji33)), (Go.bits .xor .i64 (Go.bits .xor .i64 x10_2 (ji31)) (ji33))] : List Int)) (inner := [.int .i64 (Go.bits .xor .i64 (Go.bits .xor .i64 x18_1 (ji31)) (ji33)), .int .i64 (Go.bits .xor .i64 (Go.bits .xor .i64 x10_2 (ji31)) (ji33))]) (ok := fun _ => True) (okp := fun _ => True) ?hr ?hp (fun _ hk => hk) trivial (Below.refl _ _) (Nat.le_refl _) (by simp) ?_; (case hd => rfl); (case hg => rfl); (case hr => first | (go_simp; done) | (go_simp; rfl)); (case hp => exact (Reps.one (show Kd.M (Kd.int .i64) _ _ _ (Go.bits .xor .i64 (Go.bits .xor .i64 x18_1 (ji31)) (ji33)) [.int .i64 (Go.bits .xor .i64 (Go.bits .xor .i64 x18_1 (ji31)) (ji33))] from rfl) (Reps.one (show Kd.M (Kd.int .i64) _ _ _ (Go.bits .xor .i64 (Go.bits .xor .i64 x10_2 (ji31)) (ji33)) [.int .i64 (Go.bits .xor .i64 (Go.bits .xor .i64 x10_2 (ji31)) (ji33))] from rfl) (Reps.none _ _)))); intro v593 w88 ho89 hb hg_ hnew_; clear hg_ hnew_; (first | rw [← Ny592.out] at ho89 | (simp only [Int.reduceToNat] at ho89; rw [← Ny592.out] at ho89)); have n0_ := Aside0.mk (Kd.V_elder' (by (with_reducible repeat (first | apply Kd.V_alloc | apply Kd.V_drewN | apply Kd.V_drew)); exact HO_585000.out) (Kd.R_base ho89) hb); have n1_ := Aside0.mk (Kd.V_elder' (by (with_reducible repeat (first | apply Kd.V_alloc | apply Kd.V_drewN | apply Kd.V_drew)); exact HO_585001.out) (Kd.R_base ho89) hb); have n2_ := Aside0.mk (Kd.R_elder' (zr HO591.out) (Kd.R_base ho89) hb); have n3_ := Aside0.mk (Kd.R_lower (Kd.R_new' (Kd.R_newM (M := fun k_ => (w.heap.size ≤ k_)) ho89 (below_size (zh HB.out)) (fun k_ h_ => h_)) (Kd.R_lt (zr HO591.out))) (below_size (zh HB.out))); have n4_ := Aside0.mk (blk_below (g := gb583) (o := .cells #[.slice none 0 0, .slice none 0 0] 46 (0, 0)) (zb BK583.out) hb); have n5_ := Aside0.mk (blk_below (g := gb584) (o := .cells #[u585000, u585001] 46 (0, 0)) (zb BK584.out) hb); have n6_ := Aside0.mk (below_step (zh HB.out) hb); clear HO_585000; clear HO_585001; clear HO591; clear BK583; clear BK584; clear HB; have HO_585000 := n0_; have HO_585001 := n1_; have HO591 := n2_; have HO594 := n3_; have BK583 := n4_; have BK584 := n5_; have HB := n6_; clear n0_ n1_ n2_ n3_ n4_ n5_ n6_; clear hb ho89; obtain ⟨Ao90, co90, eo90⟩ := Kd.R_slice HO591.out; subst eo90; obtain ⟨Ao91, co91, eo91⟩ := Kd.R_slice HO594.out; subst eo91) | (go_at_call 91; (with_reducible refine (spec_deTrade.calls kj35 _ _ y589 _ _ y592 t595 t598 _ ?side1 ?side2 ?side3 ?side4 A44.out).mono ?_); (case side1 => repeat (first | exact (Kd.R_reads' HO591.out).2.2 | (with_reducible refine Kd.C_alloc ?_ _) | (with_reducible refine Kd.C_drewN ?_ _) | (with_reducible refine Kd.C_drew ?_))); (case side2 => exact (Kd.R_reads' HO591.out).2.1); (case side3 => repeat (first | exact (Kd.R_reads' HO594.out).2.2 | (with_reducible refine Kd.C_alloc ?_ _) | (with_reducible refine Kd.C_drewN ?_ _) | (with_reducible refine Kd.C_drew ?_))); (case side4 => exact (Kd.R_reads' HO594.out).2.1); rintro e w92 ⟨v596, v599, rfl, ho0, ho1, hb⟩; have n0_ := Aside0.mk (Kd.V_below (by (with_reducible repeat (first | apply Kd.V_alloc | apply Kd.V_drewN | apply Kd.V_drew)); exact HO_585000.out) hb); have n1_ := Aside0.mk (Kd.V_below (by (with_reducible repeat (first | apply Kd.V_alloc | apply Kd.V_drewN | apply Kd.V_drew)); exact HO_585001.out) hb); have n2_ := Aside0.mk (Kd.R_below (zr HO591.out) hb); have n3_ := Aside0.mk (Kd.R_below (zr HO594.out) hb); have n4_ := Aside0.mk (Kd.V_lower (Kd.V_mono (ok' := fun k_ => (w.heap.size ≤ k_) ∧ some k_ ≠ (.slice Ao90 y589.length co90 : Value).ownBlock ∧ some k_ ≠ (.slice Ao91 y592.length co91 : Value).ownBlock ∧ k_ ≠ gb583 ∧ k_ ≠ gb584) ho0 (fun k_ hk_ => ⟨(Nat.le_trans (below_size (zh HB.out)) hk_), (Kd.fresh' (Kd.R_lt (zr HO591.out)) k_ hk_), (Kd.fresh' (Kd.R_lt (zr HO594.out)) k_ hk_), (Kd.freshB (g := gb583) (o := .cells #[.slice none 0 0, .slice none 0 0] 46 (0, 0)) (zb BK583.out) k_ hk_), (Kd.freshB (g := gb584) (o := .cells #[u585000, u585001] 46 (0, 0)) (zb BK584.out) k_ hk_)⟩)) (below_size (zh HB.out))); have n5_ := Aside0.mk (Kd.V_lower (Kd.V_mono (ok' := fun k_ => (w.heap.size ≤ k_) ∧ some k_ ≠ (.slice Ao90 y589.length co90 : Value).ownBlock ∧ some k_ ≠ (.slice Ao91 y592.length co91 : Value).ownBlock ∧ k_ ≠ gb583 ∧ k_ ≠ gb584) ho1 (fun k_ hk_ => ⟨(Nat.le_trans (below_size (zh HB.out)) hk_), (Kd.fresh' (Kd.R_lt (zr HO591.out)) k_ hk_), (Kd.fresh' (Kd.R_lt (zr HO594.out)) k_ hk_), (Kd.freshB (g := gb583) (o := .cells #[.slice none 0 0, .slice none 0 0] 46 (0, 0)) (zb BK583.out) k_ hk_), (Kd.freshB (g := gb584) (o := .cells #[u585000, u585001] 46 (0, 0)) (zb BK584.out) k_ hk_)⟩)) (below_size (zh HB.out))); have n6_ := Aside0.mk (blk_below (g := gb583) (o := .cells #[.slice none 0 0, .slice none 0 0] 46 (0, 0)) (zb BK583.out) hb); have n7_ := Aside0.mk (blk_below (g := gb584) (o := .cells #[u585000, u585001] 46 (0, 0)) (zb BK584.out) hb); have n8_ := Aside0.mk (below_step (zh HB.out) hb); clear HO_585000; clear HO_585001; clear HO591; clear HO594; clear BK583; clear BK584; clear HB; have HO_585000 := n0_; have HO_585001 := n1_; have HO591 := n2_; have HO594 := n3_; have HO597 := n4_; have HO600 := n5_; have BK583 := n6_; have BK584 := n7_; have HB := n8_; clear n0_ n1_ n2_ n3_ n4_ n5_ n6_ n7_ n8_; (try clear hb); (try clear hb2); (try clear hk); (try clear hi); (try clear ho0); (try clear ho1)) | ((with_reducible refine gate_dst (N := 15) rfl ?_); refine box_event ?hg (N := 15) ?hd (cs := #[.slice none 0 0, .slice none 0 0]) (t := 46) ?hr ?_; (case hd => rfl); (case hg => rfl); (case hr => first | (go_simp; done) | (go_simp; rfl)); intro gb601 hg w93 hbox hb; have n0_ := Aside0.mk (Kd.V_below (Kd.V_elderB (by (with_reducible repeat (first | apply Kd.V_alloc | apply Kd.V_drewN | apply Kd.V_drew)); exact HO_585000.out) gb601 (Nat.le_of_eq hg.symm)) hb); have n1_ := Aside0.mk (Kd.V_below (Kd.V_elderB (by (with_reducible repeat (first | apply Kd.V_alloc | apply Kd.V_drewN | apply Kd.V_drew)); exact HO_585001.out) gb601 (Nat.le_of_eq hg.symm)) hb); have n2_ := Aside0.mk (Kd.R_below (zr HO591.out) hb); have n3_ := Aside0.mk (Kd.R_below (zr HO594.out) hb); have n4_ := Aside0.mk (Kd.V_below (Kd.V_elderB (by (with_reducible repeat (first | apply Kd.V_alloc | apply Kd.V_drewN | apply Kd.V_drew)); exact HO597.out) gb601 (Nat.le_of_eq hg.symm)) hb); have n5_ := Aside0.mk (Kd.V_below (Kd.V_elderB (by (with_reducible repeat (first | apply Kd.V_alloc | apply Kd.V_drewN | apply Kd.V_drew)); exact HO600.out) gb601 (Nat.le_of_eq hg.symm)) hb); have n6_ := Aside0.mk (blk_below (g := gb583) (o := .cells #[.slice none 0 0, .slice none 0 0] 46 (0, 0)) (zb BK583.out) hb); have n7_ := Aside0.mk (blk_below (g := gb584) (o := .cells #[u585000, u585001] 46 (0, 0)) (zb BK584.out) hb); have n8_ := Aside0.mk (below_step (zh HB.out) hb); have n9_ := Aside0.mk (hbox); have n10_ := Aside0.mk ((by rw [hg]; exact (below_size (zh HB.out)) : w.heap.size ≤ gb601)); have n11_ := Aside0.mk ((by rw [hg]; exact (below_size (zh HB.out)) : w.heap.size ≤ gb601)); have n12_ := Aside0.mk ((by rw [hg]; exact Nat.ne_of_lt (blk_lt (g := gb583) (o := .cells #[.slice none 0 0, .slice none 0 0] 46 (0, 0)) (zb BK583.out)) : gb583 ≠ gb601)); have n13_ := Aside0.mk ((by rw [hg]; exact Nat.ne_of_gt (blk_lt (g := gb583) (o := .cells #[.slice none 0 0, .slice none 0 0] 46 (0, 0)) (zb BK583.out)) : gb601 ≠ gb583)); have n14_ := Aside0.mk ((by rw [hg]; exact Nat.ne_of_lt (blk_lt (g := gb584) (o := .cells #[u585000, u585001] 46 (0, 0)) (zb BK584.out)) : gb584 ≠ gb601)); have n15_ := Aside0.mk ((by rw [hg]; exact Nat.ne_of_gt (blk_lt (g := gb584) (o := .cells #[u585000, u585001] 46 (0, 0)) (zb BK584.out)) : gb601 ≠ gb584)); clear HO_585000; clear HO_585001; clear HO591; clear HO594; clear HO597; clear HO600; clear BK583; clear BK584; clear HB; have HO_585000 := n0_; have HO_585001 := n1_; have HO591 := n2_; have HO594 := n3_; have HO597 := n4_; have HO600 := n5_; have BK583 := n6_; have BK584 := n7_; have HB := n8_; have BK601 := n9_; have GW601 := n10_; have GE601 := n11_; have NB583_601 := n12_; have NB601_583 := n13_; have NB584_601 := n14_; have NB601_584 := n15_; clear n0_ n1_ n2_ n3_ n4_ n5_ n6_ n7_ n8_ n9_ n10_ n11_ n12_ n13_ n14_ n15_; clear hb hbox hg; obtain ⟨Ao94, co94, eo94⟩ := Kd.V_slice HO597.out; subst eo94; have hnb95 := NB601_583.out; have hnc95 := NB583_601.out; have hnb96 := NB601_584.out; have hnc96 := NB584_601.out; have hcz97_0 : w93.cell? ⟨gb601, 0, none⟩ = some (.slice none 0 0) := (blk_cell BK601.out 0).trans rfl; have hcz97_1 : w93.cell? ⟨gb601, 1, none⟩ = some (.slice none 0 0) := (blk_cell BK601.out 1).trans rfl; have hfz97_0 := blk_frozen BK601.out 0; have hfz97_1 := blk_frozen BK601.out 1; obtain ⟨Ao98, co98, eo98⟩ := Kd.V_slice HO600.out; subst eo98; have hnb99 := NB584_583.out; have hnc99 := NB583_584.out; have hcz100_0 : w93.cell? ⟨gb584, 0, none⟩ = some (u585000) := (blk_cell BK584.out 0).trans rfl; have hcz100_1 : w93.cell? ⟨gb584, 1, none⟩ = some (u585001) := (blk_cell BK584.out 1).trans rfl; have hfz100_0 := blk_frozen BK584.out 0; have hfz100_1 := blk_frozen BK584.out 1)); try go_wp2_with (first | ((with_reducible refine gate_dst (N := 99) rfl ?_); refine Kd.R_lit (Kd.int .i64) _ 3 ?hg (N := 99) ?hd (xs := ([x18_1, x10_2] : List Int)) (inner := [.int .i64 x18_1, .int .i64 x10_2]) (ok := fun _ => True) (okp := fun _ => True) ?hr ?hp (fun _ hk => hk) trivial (Below.refl _ _) (Nat.le_refl _) (by simp) ?_; (case hd => rfl); (case hg => rfl); (case hr => first | (go_simp; done) | (go_simp; rfl)); (case hp => exact (Reps.one (show Kd.M (Kd.int .i64) _ _ _ x18_1 [.int .i64 x18_1] from rfl) (Reps.one (show Kd.M (Kd.int .i64) _ _ _ x10_2 [.int .i64 x10_2] from rfl) (Reps.none _ _)))); intro v590 w86 ho87 hb hg_ hnew_; clear hg_ hnew_; (first | rw [← Ny589.out] at ho87 | (simp only [Int.reduceToNat] at ho87; rw [← Ny589.out] at ho87)); have n0_ := Aside0.mk (Kd.V_elder' (by (with_reducible repeat (first | apply Kd.V_alloc | apply Kd.V_drewN | apply Kd.V_drew)); exact HO_585000.out) (Kd.R_base ho87) hb); have n1_ := Aside0.mk (Kd.V_elder' (by (with_reducible repeat (first | apply Kd.V_alloc | apply Kd.V_drewN | apply Kd.V_drew)); exact HO_585001.out) (Kd.R_base ho87) hb); have n2_ := Aside0.mk (Kd.R_lower (Kd.R_newM (M := fun k_ => (w.heap.size ≤ k_)) ho87 (below_size (zh HB.out)) (fun k_ h_ => h_)) (below_size (zh HB.out))); have n3_ := Aside0.mk (blk_below (g := gb583) (o := .cells #[.slice none 0 0, .slice none 0 0] 46 (0, 0)) (zb BK583.out) hb); have n4_ := Aside0.mk (blk_below (g := gb584) (o := .cells #[u585000, u585001] 46 (0, 0)) (zb BK584.out) hb); have n5_ := Aside0.mk (below_step (zh HB.out) hb); clear HO_585000; clear HO_585001; clear BK583; clear BK584; clear HB; have HO_585000 := n0_; have HO_585001 := n1_; have HO591 := n2_; have BK583 := n3_; have BK584 := n4_; have HB := n5_; clear n0_ n1_ n2_ n3_ n4_ n5_; clear hb ho87) | ((with_reducible refine gate_dst (N := 102) rfl ?_); refine Kd.R_lit (Kd.int .i64) _ 3 ?hg (N := 102) ?hd (xs := ([(Go.bits .xor .i64 (Go.bits .xor .i64 x18_1 (ji31)) (ji33)), (Go.bits .xor .i64 (Go.bits .xor .i64 x10_2 (ji31)) (ji33))] : List Int)) (inner := [.int .i64 (Go.bits .xor .i64 (Go.bits .xor .i64 x18_1 (ji31)) (ji33)), .int .i64 (Go.bits .xor .i64 (Go.bits .xor .i64 x10_2 (ji31)) (ji33))]) (ok := fun _ => True) (okp := fun _ => True) ?hr ?hp (fun _ hk => hk) trivial (Below.refl _ _) (Nat.le_refl _) (by simp) ?_; (case hd => rfl); (case hg => rfl); (case hr => first | (go_simp; done) | (go_simp; rfl)); (case hp => exact (Reps.one (show Kd.M (Kd.int .i64) _ _ _ (Go.bits .xor .i64 (Go.bits .xor .i64 x18_1 (ji31)) (ji33)) [.int .i64 (Go.bits .xor .i64 (Go.bits .xor .i64 x18_1 (ji31)) (ji33))] from rfl) (Reps.one (show Kd.M (Kd.int .i64) _ _ _ (Go.bits .xor .i64 (Go.bits .xor .i64 x10_2 (ji31)) (ji33)) [.int .i64 (Go.bits .xor .i64 (Go.bits .xor .i64 x10_2 (ji31)) (ji33))] from rfl) (Reps.none _ _)))); intro v593 w88 ho89 hb hg_ hnew_; clear hg_ hnew_; (first | rw [← Ny592.out] at ho89 | (simp only [Int.reduceToNat] at ho89; rw [← Ny592.out] at ho89)); have n0_ := Aside0.mk (Kd.V_elder' (by (with_reducible repeat (first | apply Kd.V_alloc | apply Kd.V_drewN | apply Kd.V_drew)); exact HO_585000.out) (Kd.R_base ho89) hb); have n1_ := Aside0.mk (Kd.V_elder' (by (with_reducible repeat (first | apply Kd.V_alloc | apply Kd.V_drewN | apply Kd.V_drew)); exact HO_585001.out) (Kd.R_base ho89) hb); have n2_ := Aside0.mk (Kd.R_elder' (zr HO591.out) (Kd.R_base ho89) hb); have n3_ := Aside0.mk (Kd.R_lower (Kd.R_new' (Kd.R_newM (M := fun k_ => (w.heap.size ≤ k_)) ho89 (below_size (zh HB.out)) (fun k_ h_ => h_)) (Kd.R_lt (zr HO591.out))) (below_size (zh HB.out))); have n4_ := Aside0.mk (blk_below (g := gb583) (o := .cells #[.slice none 0 0, .slice none 0 0] 46 (0, 0)) (zb BK583.out) hb); have n5_ := Aside0.mk (blk_below (g := gb584) (o := .cells #[u585000, u585001] 46 (0, 0)) (zb BK584.out) hb); have n6_ := Aside0.mk (below_step (zh HB.out) hb); clear HO_585000; clear HO_585001; clear HO591; clear BK583; clear BK584; clear HB; have HO_585000 := n0_; have HO_585001 := n1_; have HO591 := n2_; have HO594 := n3_; have BK583 := n4_; have BK584 := n5_; have HB := n6_; clear n0_ n1_ n2_ n3_ n4_ n5_ n6_; clear hb ho89; obtain ⟨Ao90, co90, eo90⟩ := Kd.R_slice HO591.out; subst eo90; obtain ⟨Ao91, co91, eo91⟩ := Kd.R_slice HO594.out; subst eo91) | (go_at_call 91; (with_reducible refine (spec_deTrade.calls kj35 _ _ y589 _ _ y592 t595 t598 _ ?side1 ?side2 ?side3 ?side4 A44.out).mono ?_); (case side1 => repeat (first | exact (Kd.R_reads' HO591.out).2.2 | (with_reducible refine Kd.C_alloc ?_ _) | (with_reducible refine Kd.C_drewN ?_ _) | (with_reducible refine Kd.C_drew ?_))); (case side2 => exact (Kd.R_reads' HO591.out).2.1); (case side3 => repeat (first | exact (Kd.R_reads' HO594.out).2.2 | (with_reducible refine Kd.C_alloc ?_ _) | (with_reducible refine Kd.C_drewN ?_ _) | (with_reducible refine Kd.C_drew ?_))); (case side4 => exact (Kd.R_reads' HO594.out).2.1); rintro e w92 ⟨v596, v599, rfl, ho0, ho1, hb⟩; have n0_ := Aside0.mk (Kd.V_below (by (with_reducible repeat (first | apply Kd.V_alloc | apply Kd.V_drewN | apply Kd.V_drew)); exact HO_585000.out) hb); have n1_ := Aside0.mk (Kd.V_below (by (with_reducible repeat (first | apply Kd.V_alloc | apply Kd.V_drewN | apply Kd.V_drew)); exact HO_585001.out) hb); have n2_ := Aside0.mk (Kd.R_below (zr HO591.out) hb); have n3_ := Aside0.mk (Kd.R_below (zr HO594.out) hb); have n4_ := Aside0.mk (Kd.V_lower (Kd.V_mono (ok' := fun k_ => (w.heap.size ≤ k_) ∧ some k_ ≠ (.slice Ao90 y589.length co90 : Value).ownBlock ∧ some k_ ≠ (.slice Ao91 y592.length co91 : Value).ownBlock ∧ k_ ≠ gb583 ∧ k_ ≠ gb584) ho0 (fun k_ hk_ => ⟨(Nat.le_trans (below_size (zh HB.out)) hk_), (Kd.fresh' (Kd.R_lt (zr HO591.out)) k_ hk_), (Kd.fresh' (Kd.R_lt (zr HO594.out)) k_ hk_), (Kd.freshB (g := gb583) (o := .cells #[.slice none 0 0, .slice none 0 0] 46 (0, 0)) (zb BK583.out) k_ hk_), (Kd.freshB (g := gb584) (o := .cells #[u585000, u585001] 46 (0, 0)) (zb BK584.out) k_ hk_)⟩)) (below_size (zh HB.out))); have n5_ := Aside0.mk (Kd.V_lower (Kd.V_mono (ok' := fun k_ => (w.heap.size ≤ k_) ∧ some k_ ≠ (.slice Ao90 y589.length co90 : Value).ownBlock ∧ some k_ ≠ (.slice Ao91 y592.length co91 : Value).ownBlock ∧ k_ ≠ gb583 ∧ k_ ≠ gb584) ho1 (fun k_ hk_ => ⟨(Nat.le_trans (below_size (zh HB.out)) hk_), (Kd.fresh' (Kd.R_lt (zr HO591.out)) k_ hk_), (Kd.fresh' (Kd.R_lt (zr HO594.out)) k_ hk_), (Kd.freshB (g := gb583) (o := .cells #[.slice none 0 0, .slice none 0 0] 46 (0, 0)) (zb BK583.out) k_ hk_), (Kd.freshB (g := gb584) (o := .cells #[u585000, u585001] 46 (0, 0)) (zb BK584.out) k_ hk_)⟩)) (below_size (zh HB.out))); have n6_ := Aside0.mk (blk_below (g := gb583) (o := .cells #[.slice none 0 0, .slice none 0 0] 46 (0, 0)) (zb BK583.out) hb); have n7_ := Aside0.mk (blk_below (g := gb584) (o := .cells #[u585000, u585001] 46 (0, 0)) (zb BK584.out) hb); have n8_ := Aside0.mk (below_step (zh HB.out) hb); clear HO_585000; clear HO_585001; clear HO591; clear HO594; clear BK583; clear BK584; clear HB; have HO_585000 := n0_; have HO_585001 := n1_; have HO591 := n2_; have HO594 := n3_; have HO597 := n4_; have HO600 := n5_; have BK583 := n6_; have BK584 := n7_; have HB := n8_; clear n0_ n1_ n2_ n3_ n4_ n5_ n6_ n7_ n8_; (try clear hb); (try clear hb2); (try clear hk); (try clear hi); (try clear ho0); (try clear ho1)) | ((with_reducible refine gate_dst (N := 15) rfl ?_); refine box_event ?hg (N := 15) ?hd (cs := #[.slice none 0 0, .slice none 0 0]) (t := 46) ?hr ?_; (case hd => rfl); (case hg => rfl); (case hr => first | (go_simp; done) | (go_simp; rfl)); intro gb601 hg w93 hbox hb; have n0_ := Aside0.mk (Kd.V_below (Kd.V_elderB (by (with_reducible repeat (first | apply Kd.V_alloc | apply Kd.V_drewN | apply Kd.V_drew)); exact HO_585000.out) gb601 (Nat.le_of_eq hg.symm)) hb); have n1_ := Aside0.mk (Kd.V_below (Kd.V_elderB (by (with_reducible repeat (first | apply Kd.V_alloc | apply Kd.V_drewN | apply Kd.V_drew)); exact HO_585001.out) gb601 (Nat.le_of_eq hg.symm)) hb); have n2_ := Aside0.mk (Kd.R_below (zr HO591.out) hb); have n3_ := Aside0.mk (Kd.R_below (zr HO594.out) hb); have n4_ := Aside0.mk (Kd.V_below (Kd.V_elderB (by (with_reducible repeat (first | apply Kd.V_alloc | apply Kd.V_drewN | apply Kd.V_drew)); exact HO597.out) gb601 (Nat.le_of_eq hg.symm)) hb); have n5_ := Aside0.mk (Kd.V_below (Kd.V_elderB (by (with_reducible repeat (first | apply Kd.V_alloc | apply Kd.V_drewN | apply Kd.V_drew)); exact HO600.out) gb601 (Nat.le_of_eq hg.symm)) hb); have n6_ := Aside0.mk (blk_below (g := gb583) (o := .cells #[.slice none 0 0, .slice none 0 0] 46 (0, 0)) (zb BK583.out) hb); have n7_ := Aside0.mk (blk_below (g := gb584) (o := .cells #[u585000, u585001] 46 (0, 0)) (zb BK584.out) hb); have n8_ := Aside0.mk (below_step (zh HB.out) hb); have n9_ := Aside0.mk (hbox); have n10_ := Aside0.mk ((by rw [hg]; exact (below_size (zh HB.out)) : w.heap.size ≤ gb601)); have n11_ := Aside0.mk ((by rw [hg]; exact (below_size (zh HB.out)) : w.heap.size ≤ gb601)); have n12_ := Aside0.mk ((by rw [hg]; exact Nat.ne_of_lt (blk_lt (g := gb583) (o := .cells #[.slice none 0 0, .slice none 0 0] 46 (0, 0)) (zb BK583.out)) : gb583 ≠ gb601)); have n13_ := Aside0.mk ((by rw [hg]; exact Nat.ne_of_gt (blk_lt (g := gb583) (o := .cells #[.slice none 0 0, .slice none 0 0] 46 (0, 0)) (zb BK583.out)) : gb601 ≠ gb583)); have n14_ := Aside0.mk ((by rw [hg]; exact Nat.ne_of_lt (blk_lt (g := gb584) (o := .cells #[u585000, u585001] 46 (0, 0)) (zb BK584.out)) : gb584 ≠ gb601)); have n15_ := Aside0.mk ((by rw [hg]; exact Nat.ne_of_gt (blk_lt (g := gb584) (o := .cells #[u585000, u585001] 46 (0, 0)) (zb BK584.out)) : gb601 ≠ gb584)); clear HO_585000; clear HO_585001; clear HO591; clear HO594; clear HO597; clear HO600; clear BK583; clear BK584; clear HB; have HO_585000 := n0_; have HO_585001 := n1_; have HO591 := n2_; have HO594 := n3_; have HO597 := n4_; have HO600 := n5_; have BK583 := n6_; have BK584 := n7_; have HB := n8_; have BK601 := n9_; have GW601 := n10_; have GE601 := n11_; have NB583_601 := n12_; have NB601_583 := n13_; have NB584_601 := n14_; have NB601_584 := n15_; clear n0_ n1_ n2_ n3_ n4_ n5_ n6_ n7_ n8_ n9_ n10_ n11_ n12_ n13_ n14_ n15_; clear hb hbox hg; obtain ⟨Ao94, co94, eo94⟩ := Kd.V_slice HO597.out; subst eo94; have hnb95 := NB601_583.out; have hnc95 := NB583_601.out; have hnb96 := NB601_584.out; have hnc96 := NB584_601.out; have hcz97_0 : w93.cell? ⟨gb601, 0, none⟩ = some (.slice none 0 0) := (blk_cell BK601.out 0).trans rfl; have hcz97_1 : w93.cell? ⟨gb601, 1, none⟩ = some (.slice none 0 0) := (blk_cell BK601.out 1).trans rfl; have hfz97_0 := blk_frozen BK601.out 0; have hfz97_1 := blk_frozen BK601.out 1; obtain ⟨Ao98, co98, eo98⟩ := Kd.V_slice HO600.out; subst eo98; have hnb99 := NB584_583.out; have hnc99 := NB583_584.out; have hcz100_0 : w93.cell? ⟨gb584, 0, none⟩ = some (u585000) := (blk_cell BK584.out 0).trans rfl; have hcz100_1 : w93.cell? ⟨gb584, 1, none⟩ = some (u585001) := (blk_cell BK584.out 1).trans rfl; have hfz100_0 := blk_frozen BK584.out 0; have hfz100_1 := blk_frozen BK584.out 1)))
                go_roundg kj35
                case measure => have := HK1.out; have := HK2.out; have := HJ8.out; have := HK4.out; have := HK5.out; have := HJ16.out; have := HJ35.out; omega
                case rel => exact ⟨(true), (wrap64 (x12_5 + 1)), (t595), (t598), (.slice Ao94 t595.length co94), (.slice Ao98 t598.length co98), (by first | rfl | (simp; done) | (simp [*]; done)), (by first | rfl | (simp; done) | (simp [*]; done)), H', ⟨by have := HK1.out; have := HK2.out; have := HJ8.out; have := HK4.out; have := HK5.out; have := HJ16.out; have := HJ35.out; omega⟩, ⟨by (with_reducible repeat (first | apply Kd.V_alloc | apply Kd.V_drewN | apply Kd.V_drew)); exact Kd.V_mono (Kd.V_far (p := ⟨gb584, 1, none⟩) (Kd.V_far (p := ⟨gb584, 0, none⟩) (Kd.V_far (p := ⟨gb601, 1, none⟩) (Kd.V_far (p := ⟨gb601, 0, none⟩) (Kd.V_mono (Kd.V_mono HO597.out (fun k_ hk => (⟨hk, hk.2⟩ : _ ∧ k_ ≠ gb601))) (fun k_ hk => (⟨hk, hk.1.1.2.2.2.2⟩ : _ ∧ k_ ≠ gb584))) (fun _ hk => hk.1.2) (.slice Ao94 t595.length co94)) (fun _ hk => hk.1.2) (.slice Ao98 t598.length co98)) (fun _ hk => hk.2) (.slice Ao94 t595.length co94)) (fun _ hk => hk.2) (.slice Ao98 t598.length co98)) (fun _ hk => ⟨hk.1.1.1.1, ⟨hk.1.1.1.2.2.2.1, hk.1.1.1.2.2.2.2⟩⟩)⟩, ⟨by (with_reducible repeat (first | apply Kd.V_alloc | apply Kd.V_drewN | apply Kd.V_drew)); exact Kd.V_mono (Kd.V_far (p := ⟨gb584, 1, none⟩) (Kd.V_far (p := ⟨gb584, 0, none⟩) (Kd.V_far (p := ⟨gb601, 1, none⟩) (Kd.V_far (p := ⟨gb601, 0, none⟩) (Kd.V_mono (Kd.V_mono HO600.out (fun k_ hk => (⟨hk, hk.2⟩ : _ ∧ k_ ≠ gb601))) (fun k_ hk => (⟨hk, hk.1.1.2.2.2.2⟩ : _ ∧ k_ ≠ gb584))) (fun _ hk => hk.1.2) (.slice Ao94 t595.length co94)) (fun _ hk => hk.1.2) (.slice Ao98 t598.length co98)) (fun _ hk => hk.2) (.slice Ao94 t595.length co94)) (fun _ hk => hk.2) (.slice Ao98 t598.length co98)) (fun _ hk => ⟨hk.1.1.1.1, ⟨hk.1.1.1.2.2.2.1, hk.1.1.1.2.2.2.2⟩⟩)⟩, ⟨by (with_reducible repeat (first | refine blk_drewN ?_ _ | refine blk_drew ?_ | refine blk_alloc ?_ _)); refine blk_far ?_ NB583_584.out _; (with_reducible repeat (first | refine blk_drewN ?_ _ | refine blk_drew ?_ | refine blk_alloc ?_ _)); refine blk_far ?_ NB583_584.out _; (with_reducible repeat (first | refine blk_drewN ?_ _ | refine blk_drew ?_ | refine blk_alloc ?_ _)); refine blk_far ?_ NB583_601.out _; (with_reducible repeat (first | refine blk_drewN ?_ _ | refine blk_drew ?_ | refine blk_alloc ?_ _)); refine blk_far ?_ NB583_601.out _; (with_reducible repeat (first | refine blk_drewN ?_ _ | refine blk_drew ?_ | refine blk_alloc ?_ _)); exact BK583.out⟩, ⟨by (with_reducible repeat (first | refine blk_drewN ?_ _ | refine blk_drew ?_ | refine blk_alloc ?_ _)); refine blk_put (cs := #[.slice Ao94 t595.length co94, u585001]) ?_ 1 _ rfl; (with_reducible repeat (first | refine blk_drewN ?_ _ | refine blk_drew ?_ | refine blk_alloc ?_ _)); refine blk_put (cs := #[u585000, u585001]) ?_ 0 _ rfl; (with_reducible repeat (first | refine blk_drewN ?_ _ | refine blk_drew ?_ | refine blk_alloc ?_ _)); refine blk_far ?_ NB584_601.out _; (with_reducible repeat (first | refine blk_drewN ?_ _ | refine blk_drew ?_ | refine blk_alloc ?_ _)); refine blk_far ?_ NB584_601.out _; (with_reducible repeat (first | refine blk_drewN ?_ _ | refine blk_drew ?_ | refine blk_alloc ?_ _)); exact BK584.out⟩, ⟨zh HB.out⟩⟩
               subst c45
               have H1 : ((spec_deTradeBefore.f kj35 t595 t598 x585000_5 x585001_5).bind fun t602 => (if t602 = true then (spec_deSwap.l3 kj35 l0 a1 true x18_1 bz585 x10_2 x11_4 (wrap64 (x12_5 + 1)) l0 (l0.length : Int) x18_1 t595 t598) else (spec_deSwap.l3 kj35 l0 a1 true x18_1 bz585 x10_2 x11_4 (wrap64 (x12_5 + 1)) l0 (l0.length : Int) x18_1 x585000_5 x585001_5))) = some (r1, r2, r3) := by rw [if_pos rfl] at H; exact H
               clear H
               have H := H1
               clear H1
               replace H := Option.bind_eq_some_iff.mp H
               obtain ⟨t602, A460, H⟩ := H
               replace H : (if t602 = true then (spec_deSwap.l3 kj35 l0 a1 true x18_1 bz585 x10_2 x11_4 (wrap64 (x12_5 + 1)) l0 (l0.length : Int) x18_1 t595 t598) else (spec_deSwap.l3 kj35 l0 a1 true x18_1 bz585 x10_2 x11_4 (wrap64 (x12_5 + 1)) l0 (l0.length : Int) x18_1 x585000_5 x585001_5)) = some (r1, r2, r3) := H
               have A46 := Aside0.mk A460
               clear A460
               by_cases c47 : t602 = true
               rotate_left
               ·replace c47 := Bool.eq_false_iff.mpr c47
                subst c47
                have H1 : (spec_deSwap.l3 kj35 l0 a1 true x18_1 bz585 x10_2 x11_4 (wrap64 (x12_5 + 1)) l0 (l0.length : Int) x18_1 x585000_5 x585001_5) = some (r1, r2, r3) := by rw [if_neg (show ¬ (false = true) by decide)] at H; exact H
                clear H
                have H := H1
                clear H1
                have H' := Aside0.mk H
                clear H
                go_wp2_with (first | ((with_reducible refine gate_dst (N := 99) rfl ?_); refine Kd.R_lit (Kd.int .i64) _ 3 ?hg (N := 99) ?hd (xs := ([x18_1, x10_2] : List Int)) (inner := [.int .i64 x18_1, .int .i64 x10_2]) (ok := fun _ => True) (okp := fun _ => True) ?hr ?hp (fun _ hk => hk) trivial (Below.refl _ _) (Nat.le_refl _) (by simp) ?_; (case hd => rfl); (case hg => rfl); (case hr => first | (go_simp; done) | (go_simp; rfl)); (case hp => exact (Reps.one (show Kd.M (Kd.int .i64) _ _ _ x18_1 [.int .i64 x18_1] from rfl) (Reps.one (show Kd.M (Kd.int .i64) _ _ _ x10_2 [.int .i64 x10_2] from rfl) (Reps.none _ _)))); intro v590 w68 ho69 hb hg_ hnew_; clear hg_ hnew_; (first | rw [← Ny589.out] at ho69 | (simp only [Int.reduceToNat] at ho69; rw [← Ny589.out] at ho69)); have n0_ := Aside0.mk (Kd.V_elder' (by (with_reducible repeat (first | apply Kd.V_alloc | apply Kd.V_drewN | apply Kd.V_drew)); exact HO_585000.out) (Kd.R_base ho69) hb); have n1_ := Aside0.mk (Kd.V_elder' (by (with_reducible repeat (first | apply Kd.V_alloc | apply Kd.V_drewN | apply Kd.V_drew)); exact HO_585001.out) (Kd.R_base ho69) hb); have n2_ := Aside0.mk (Kd.R_lower (Kd.R_newM (M := fun k_ => (w.heap.size ≤ k_)) ho69 (below_size (zh HB.out)) (fun k_ h_ => h_)) (below_size (zh HB.out))); have n3_ := Aside0.mk (blk_below (g := gb583) (o := .cells #[.slice none 0 0, .slice none 0 0] 46 (0, 0)) (zb BK583.out) hb); have n4_ := Aside0.mk (blk_below (g := gb584) (o := .cells #[u585000, u585001] 46 (0, 0)) (zb BK584.out) hb); have n5_ := Aside0.mk (below_step (zh HB.out) hb); clear HO_585000; clear HO_585001; clear BK583; clear BK584; clear HB; have HO_585000 := n0_; have HO_585001 := n1_; have HO591 := n2_; have BK583 := n3_; have BK584 := n4_; have HB := n5_; clear n0_ n1_ n2_ n3_ n4_ n5_; clear hb ho69) | ((with_reducible refine gate_dst (N := 102) rfl ?_); refine Kd.R_lit (Kd.int .i64) _ 3 ?hg (N := 102) ?hd (xs := ([(Go.bits .xor .i64 (Go.bits .xor .i64 x18_1 (ji31)) (ji33)), (Go.bits .xor .i64 (Go.bits .xor .i64 x10_2 (ji31)) (ji33))] : List Int)) (inner := [.int .i64 (Go.bits .xor .i64 (Go.bits .xor .i64 x18_1 (ji31)) (ji33)), .int .i64 (Go.bits .xor .i64 (Go.bits .xor .i64 x10_2 (ji31)) (ji33))]) (ok := fun _ => True) (okp := fun _ => True) ?hr ?hp (fun _ hk => hk) trivial (Below.refl _ _) (Nat.le_refl _) (by simp) ?_; (case hd => rfl); (case hg => rfl); (case hr => first | (go_simp; done) | (go_simp; rfl)); (case hp => exact (Reps.one (show Kd.M (Kd.int .i64) _ _ _ (Go.bits .xor .i64 (Go.bits .xor .i64 x18_1 (ji31)) (ji33)) [.int .i64 (Go.bits .xor .i64 (Go.bits .xor .i64 x18_1 (ji31)) (ji33))] from rfl) (Reps.one (show Kd.M (Kd.int .i64) _ _ _ (Go.bits .xor .i64 (Go.bits .xor .i64 x10_2 (ji31)) (ji33)) [.int .i64 (Go.bits .xor .i64 (Go.bits .xor .i64 x10_2 (ji31)) (ji33))] from rfl) (Reps.none _ _)))); intro v593 w70 ho71 hb hg_ hnew_; clear hg_ hnew_; (first | rw [← Ny592.out] at ho71 | (simp only [Int.reduceToNat] at ho71; rw [← Ny592.out] at ho71)); have n0_ := Aside0.mk (Kd.V_elder' (by (with_reducible repeat (first | apply Kd.V_alloc | apply Kd.V_drewN | apply Kd.V_drew)); exact HO_585000.out) (Kd.R_base ho71) hb); have n1_ := Aside0.mk (Kd.V_elder' (by (with_reducible repeat (first | apply Kd.V_alloc | apply Kd.V_drewN | apply Kd.V_drew)); exact HO_585001.out) (Kd.R_base ho71) hb); have n2_ := Aside0.mk (Kd.R_elder' (zr HO591.out) (Kd.R_base ho71) hb); have n3_ := Aside0.mk (Kd.R_lower (Kd.R_new' (Kd.R_newM (M := fun k_ => (w.heap.size ≤ k_)) ho71 (below_size (zh HB.out)) (fun k_ h_ => h_)) (Kd.R_lt (zr HO591.out))) (below_size (zh HB.out))); have n4_ := Aside0.mk (blk_below (g := gb583) (o := .cells #[.slice none 0 0, .slice none 0 0] 46 (0, 0)) (zb BK583.out) hb); have n5_ := Aside0.mk (blk_below (g := gb584) (o := .cells #[u585000, u585001] 46 (0, 0)) (zb BK584.out) hb); have n6_ := Aside0.mk (below_step (zh HB.out) hb); clear HO_585000; clear HO_585001; clear HO591; clear BK583; clear BK584; clear HB; have HO_585000 := n0_; have HO_585001 := n1_; have HO591 := n2_; have HO594 := n3_; have BK583 := n4_; have BK584 := n5_; have HB := n6_; clear n0_ n1_ n2_ n3_ n4_ n5_ n6_; clear hb ho71; obtain ⟨Ao72, co72, eo72⟩ := Kd.R_slice HO591.out; subst eo72; obtain ⟨Ao73, co73, eo73⟩ := Kd.R_slice HO594.out; subst eo73) | (go_at_call 91; (with_reducible refine (spec_deTrade.calls kj35 _ _ y589 _ _ y592 t595 t598 _ ?side1 ?side2 ?side3 ?side4 A44.out).mono ?_); (case side1 => repeat (first | exact (Kd.R_reads' HO591.out).2.2 | (with_reducible refine Kd.C_alloc ?_ _) | (with_reducible refine Kd.C_drewN ?_ _) | (with_reducible refine Kd.C_drew ?_))); (case side2 => exact (Kd.R_reads' HO591.out).2.1); (case side3 => repeat (first | exact (Kd.R_reads' HO594.out).2.2 | (with_reducible refine Kd.C_alloc ?_ _) | (with_reducible refine Kd.C_drewN ?_ _) | (with_reducible refine Kd.C_drew ?_))); (case side4 => exact (Kd.R_reads' HO594.out).2.1); rintro e w74 ⟨v596, v599, rfl, ho0, ho1, hb⟩; have n0_ := Aside0.mk (Kd.V_below (by (with_reducible repeat (first | apply Kd.V_alloc | apply Kd.V_drewN | apply Kd.V_drew)); exact HO_585000.out) hb); have n1_ := Aside0.mk (Kd.V_below (by (with_reducible repeat (first | apply Kd.V_alloc | apply Kd.V_drewN | apply Kd.V_drew)); exact HO_585001.out) hb); have n2_ := Aside0.mk (Kd.R_below (zr HO591.out) hb); have n3_ := Aside0.mk (Kd.R_below (zr HO594.out) hb); have n4_ := Aside0.mk (Kd.V_lower (Kd.V_mono (ok' := fun k_ => (w.heap.size ≤ k_) ∧ some k_ ≠ (.slice Ao72 y589.length co72 : Value).ownBlock ∧ some k_ ≠ (.slice Ao73 y592.length co73 : Value).ownBlock ∧ k_ ≠ gb583 ∧ k_ ≠ gb584) ho0 (fun k_ hk_ => ⟨(Nat.le_trans (below_size (zh HB.out)) hk_), (Kd.fresh' (Kd.R_lt (zr HO591.out)) k_ hk_), (Kd.fresh' (Kd.R_lt (zr HO594.out)) k_ hk_), (Kd.freshB (g := gb583) (o := .cells #[.slice none 0 0, .slice none 0 0] 46 (0, 0)) (zb BK583.out) k_ hk_), (Kd.freshB (g := gb584) (o := .cells #[u585000, u585001] 46 (0, 0)) (zb BK584.out) k_ hk_)⟩)) (below_size (zh HB.out))); have n5_ := Aside0.mk (Kd.V_lower (Kd.V_mono (ok' := fun k_ => (w.heap.size ≤ k_) ∧ some k_ ≠ (.slice Ao72 y589.length co72 : Value).ownBlock ∧ some k_ ≠ (.slice Ao73 y592.length co73 : Value).ownBlock ∧ k_ ≠ gb583 ∧ k_ ≠ gb584) ho1 (fun k_ hk_ => ⟨(Nat.le_trans (below_size (zh HB.out)) hk_), (Kd.fresh' (Kd.R_lt (zr HO591.out)) k_ hk_), (Kd.fresh' (Kd.R_lt (zr HO594.out)) k_ hk_), (Kd.freshB (g := gb583) (o := .cells #[.slice none 0 0, .slice none 0 0] 46 (0, 0)) (zb BK583.out) k_ hk_), (Kd.freshB (g := gb584) (o := .cells #[u585000, u585001] 46 (0, 0)) (zb BK584.out) k_ hk_)⟩)) (below_size (zh HB.out))); have n6_ := Aside0.mk (blk_below (g := gb583) (o := .cells #[.slice none 0 0, .slice none 0 0] 46 (0, 0)) (zb BK583.out) hb); have n7_ := Aside0.mk (blk_below (g := gb584) (o := .cells #[u585000, u585001] 46 (0, 0)) (zb BK584.out) hb); have n8_ := Aside0.mk (below_step (zh HB.out) hb); clear HO_585000; clear HO_585001; clear HO591; clear HO594; clear BK583; clear BK584; clear HB; have HO_585000 := n0_; have HO_585001 := n1_; have HO591 := n2_; have HO594 := n3_; have HO597 := n4_; have HO600 := n5_; have BK583 := n6_; have BK584 := n7_; have HB := n8_; clear n0_ n1_ n2_ n3_ n4_ n5_ n6_ n7_ n8_; (try clear hb); (try clear hb2); (try clear hk); (try clear hi); (try clear ho0); (try clear ho1)) | ((with_reducible refine gate_dst (N := 15) rfl ?_); refine box_event ?hg (N := 15) ?hd (cs := #[.slice none 0 0, .slice none 0 0]) (t := 46) ?hr ?_; (case hd => rfl); (case hg => rfl); (case hr => first | (go_simp; done) | (go_simp; rfl)); intro gb601 hg w75 hbox hb; have n0_ := Aside0.mk (Kd.V_below (Kd.V_elderB (by (with_reducible repeat (first | apply Kd.V_alloc | apply Kd.V_drewN | apply Kd.V_drew)); exact HO_585000.out) gb601 (Nat.le_of_eq hg.symm)) hb); have n1_ := Aside0.mk (Kd.V_below (Kd.V_elderB (by (with_reducible repeat (first | apply Kd.V_alloc | apply Kd.V_drewN | apply Kd.V_drew)); exact HO_585001.out) gb601 (Nat.le_of_eq hg.symm)) hb); have n2_ := Aside0.mk (Kd.R_below (zr HO591.out) hb); have n3_ := Aside0.mk (Kd.R_below (zr HO594.out) hb); have n4_ := Aside0.mk (Kd.V_below (Kd.V_elderB (by (with_reducible repeat (first | apply Kd.V_alloc | apply Kd.V_drewN | apply Kd.V_drew)); exact HO597.out) gb601 (Nat.le_of_eq hg.symm)) hb); have n5_ := Aside0.mk (Kd.V_below (Kd.V_elderB (by (with_reducible repeat (first | apply Kd.V_alloc | apply Kd.V_drewN | apply Kd.V_drew)); exact HO600.out) gb601 (Nat.le_of_eq hg.symm)) hb); have n6_ := Aside0.mk (blk_below (g := gb583) (o := .cells #[.slice none 0 0, .slice none 0 0] 46 (0, 0)) (zb BK583.out) hb); have n7_ := Aside0.mk (blk_below (g := gb584) (o := .cells #[u585000, u585001] 46 (0, 0)) (zb BK584.out) hb); have n8_ := Aside0.mk (below_step (zh HB.out) hb); have n9_ := Aside0.mk (hbox); have n10_ := Aside0.mk ((by rw [hg]; exact (below_size (zh HB.out)) : w.heap.size ≤ gb601)); have n11_ := Aside0.mk ((by rw [hg]; exact (below_size (zh HB.out)) : w.heap.size ≤ gb601)); have n12_ := Aside0.mk ((by rw [hg]; exact Nat.ne_of_lt (blk_lt (g := gb583) (o := .cells #[.slice none 0 0, .slice none 0 0] 46 (0, 0)) (zb BK583.out)) : gb583 ≠ gb601)); have n13_ := Aside0.mk ((by rw [hg]; exact Nat.ne_of_gt (blk_lt (g := gb583) (o := .cells #[.slice none 0 0, .slice none 0 0] 46 (0, 0)) (zb BK583.out)) : gb601 ≠ gb583)); have n14_ := Aside0.mk ((by rw [hg]; exact Nat.ne_of_lt (blk_lt (g := gb584) (o := .cells #[u585000, u585001] 46 (0, 0)) (zb BK584.out)) : gb584 ≠ gb601)); have n15_ := Aside0.mk ((by rw [hg]; exact Nat.ne_of_gt (blk_lt (g := gb584) (o := .cells #[u585000, u585001] 46 (0, 0)) (zb BK584.out)) : gb601 ≠ gb584)); clear HO_585000; clear HO_585001; clear HO591; clear HO594; clear HO597; clear HO600; clear BK583; clear BK584; clear HB; have HO_585000 := n0_; have HO_585001 := n1_; have HO591 := n2_; have HO594 := n3_; have HO597 := n4_; have HO600 := n5_; have BK583 := n6_; have BK584 := n7_; have HB := n8_; have BK601 := n9_; have GW601 := n10_; have GE601 := n11_; have NB583_601 := n12_; have NB601_583 := n13_; have NB584_601 := n14_; have NB601_584 := n15_; clear n0_ n1_ n2_ n3_ n4_ n5_ n6_ n7_ n8_ n9_ n10_ n11_ n12_ n13_ n14_ n15_; clear hb hbox hg; obtain ⟨Ao76, co76, eo76⟩ := Kd.V_slice HO597.out; subst eo76; have hnb77 := NB601_583.out; have hnc77 := NB583_601.out; have hnb78 := NB601_584.out; have hnc78 := NB584_601.out; have hcz79_0 : w75.cell? ⟨gb601, 0, none⟩ = some (.slice none 0 0) := (blk_cell BK601.out 0).trans rfl; have hcz79_1 : w75.cell? ⟨gb601, 1, none⟩ = some (.slice none 0 0) := (blk_cell BK601.out 1).trans rfl; have hfz79_0 := blk_frozen BK601.out 0; have hfz79_1 := blk_frozen BK601.out 1; obtain ⟨Ao80, co80, eo80⟩ := Kd.V_slice HO600.out; subst eo80; have hnb81 := NB584_583.out; have hnc81 := NB583_584.out; have hcz82_0 : w75.cell? ⟨gb584, 0, none⟩ = some (u585000) := (blk_cell BK584.out 0).trans rfl; have hcz82_1 : w75.cell? ⟨gb584, 1, none⟩ = some (u585001) := (blk_cell BK584.out 1).trans rfl; have hfz82_0 := blk_frozen BK584.out 0; have hfz82_1 := blk_frozen BK584.out 1; obtain ⟨Ao83, co83, eo83⟩ := Kd.V_slice HO_585000.out; subst eo83; obtain ⟨Ao84, co84, eo84⟩ := Kd.V_slice HO_585001.out; subst eo84) | (go_at_call 92; (with_reducible refine (spec_deTradeBefore.calls kj35 _ _ t595 _ _ t598 _ _ x585000_5 _ _ x585001_5 false _ ?side1 ?side2 ?side3 ?side4 ?side5 ?side6 ?side7 ?side8 A46.out).mono ?_); (case side1 => refine (Kd.V_reads' (e := 71) (base := w.heap.size) (ok := fun k_ => (((w.heap.size ≤ k_) ∧ (some k_ ≠ (.slice Ao72 y589.length co72 : Value).ownBlock ∧ (some k_ ≠ (.slice Ao73 y592.length co73 : Value).ownBlock ∧ (k_ ≠ gb583 ∧ k_ ≠ gb584)))) ∧ k_ ≠ gb601)) (n := t595.length) (c := co76) ?_).2.2; exact (by (with_reducible repeat (first | apply Kd.V_alloc | apply Kd.V_drewN | apply Kd.V_drew)); exact (Kd.V_mono (Kd.V_far (p := ⟨gb601, 1, none⟩) (Kd.V_far (p := ⟨gb601, 0, none⟩) (Kd.V_mono HO597.out (fun k_ hk => (⟨hk, hk.2⟩ : _ ∧ k_ ≠ gb601))) (fun _ hk => hk.2) (.slice Ao76 t595.length co76)) (fun _ hk => hk.2) (.slice Ao80 t598.length co80)) (fun _ h_ => h_.1)))); (case side2 => exact (Kd.V_reads' HO597.out).2.1); (case side3 => refine (Kd.V_reads' (e := 71) (base := w.heap.size) (ok := fun k_ => (((w.heap.size ≤ k_) ∧ (some k_ ≠ (.slice Ao72 y589.length co72 : Value).ownBlock ∧ (some k_ ≠ (.slice Ao73 y592.length co73 : Value).ownBlock ∧ (k_ ≠ gb583 ∧ k_ ≠ gb584)))) ∧ k_ ≠ gb601)) (n := t598.length) (c := co80) ?_).2.2; exact (by (with_reducible repeat (first | apply Kd.V_alloc | apply Kd.V_drewN | apply Kd.V_drew)); exact (Kd.V_mono (Kd.V_far (p := ⟨gb601, 1, none⟩) (Kd.V_far (p := ⟨gb601, 0, none⟩) (Kd.V_mono HO600.out (fun k_ hk => (⟨hk, hk.2⟩ : _ ∧ k_ ≠ gb601))) (fun _ hk => hk.2) (.slice Ao76 t595.length co76)) (fun _ hk => hk.2) (.slice Ao80 t598.length co80)) (fun _ h_ => h_.1)))); (case side4 => exact (Kd.V_reads' HO600.out).2.1); (case side5 => refine (Kd.V_reads' (e := 71) (base := w.heap.size) (ok := fun k_ => (((((w.heap.size ≤ k_) ∧ (k_ ≠ gb583 ∧ k_ ≠ gb584)) ∧ some k_ ≠ (.slice Ao72 y589.length co72 : Value).ownBlock) ∧ some k_ ≠ (.slice Ao73 y592.length co73 : Value).ownBlock) ∧ k_ ≠ gb601)) (n := x585000_5.length) (c := co83) ?_).2.2; exact (by (with_reducible repeat (first | apply Kd.V_alloc | apply Kd.V_drewN | apply Kd.V_drew)); exact (Kd.V_mono (Kd.V_far (p := ⟨gb601, 1, none⟩) (Kd.V_far (p := ⟨gb601, 0, none⟩) (Kd.V_mono HO_585000.out (fun k_ hk => (⟨hk, hk.2⟩ : _ ∧ k_ ≠ gb601))) (fun _ hk => hk.2) (.slice Ao76 t595.length co76)) (fun _ hk => hk.2) (.slice Ao80 t598.length co80)) (fun _ h_ => h_.1)))); (case side6 => exact (Kd.V_reads' HO_585000.out).2.1); (case side7 => refine (Kd.V_reads' (e := 71) (base := w.heap.size) (ok := fun k_ => (((((w.heap.size ≤ k_) ∧ (k_ ≠ gb583 ∧ k_ ≠ gb584)) ∧ some k_ ≠ (.slice Ao72 y589.length co72 : Value).ownBlock) ∧ some k_ ≠ (.slice Ao73 y592.length co73 : Value).ownBlock) ∧ k_ ≠ gb601)) (n := x585001_5.length) (c := co84) ?_).2.2; exact (by (with_reducible repeat (first | apply Kd.V_alloc | apply Kd.V_drewN | apply Kd.V_drew)); exact (Kd.V_mono (Kd.V_far (p := ⟨gb601, 1, none⟩) (Kd.V_far (p := ⟨gb601, 0, none⟩) (Kd.V_mono HO_585001.out (fun k_ hk => (⟨hk, hk.2⟩ : _ ∧ k_ ≠ gb601))) (fun _ hk => hk.2) (.slice Ao76 t595.length co76)) (fun _ hk => hk.2) (.slice Ao80 t598.length co80)) (fun _ h_ => h_.1)))); (case side8 => exact (Kd.V_reads' HO_585001.out).2.1); rintro e w85 ⟨rfl, hb⟩; have n0_ := Aside0.mk (Kd.V_below (by (with_reducible repeat (first | apply Kd.V_alloc | apply Kd.V_drewN | apply Kd.V_drew)); exact (Kd.V_mono (Kd.V_far (p := ⟨gb601, 1, none⟩) (Kd.V_far (p := ⟨gb601, 0, none⟩) (Kd.V_mono HO_585000.out (fun k_ hk => (⟨hk, hk.2⟩ : _ ∧ k_ ≠ gb601))) (fun _ hk => hk.2) (.slice Ao76 t595.length co76)) (fun _ hk => hk.2) (.slice Ao80 t598.length co80)) (fun _ h_ => h_.1))) hb); have n1_ := Aside0.mk (Kd.V_below (by (with_reducible repeat (first | apply Kd.V_alloc | apply Kd.V_drewN | apply Kd.V_drew)); exact (Kd.V_mono (Kd.V_far (p := ⟨gb601, 1, none⟩) (Kd.V_far (p := ⟨gb601, 0, none⟩) (Kd.V_mono HO_585001.out (fun k_ hk => (⟨hk, hk.2⟩ : _ ∧ k_ ≠ gb601))) (fun _ hk => hk.2) (.slice Ao76 t595.length co76)) (fun _ hk => hk.2) (.slice Ao80 t598.length co80)) (fun _ h_ => h_.1))) hb); have n2_ := Aside0.mk (Kd.R_below (by (with_reducible repeat (first | apply Kd.R_alloc | apply Kd.R_drewN | apply Kd.R_drew)); exact (Kd.R_mono (Kd.R_far (p := ⟨gb601, 1, none⟩) (Kd.R_far (p := ⟨gb601, 0, none⟩) (Kd.R_types HO591.out BK601.out (by decide)) (fun _ hk => hk.2) (.slice Ao76 t595.length co76)) (fun _ hk => hk.2) (.slice Ao80 t598.length co80)) (fun _ h_ => h_.1))) hb); have n3_ := Aside0.mk (Kd.R_below (by (with_reducible repeat (first | apply Kd.R_alloc | apply Kd.R_drewN | apply Kd.R_drew)); exact (Kd.R_mono (Kd.R_far (p := ⟨gb601, 1, none⟩) (Kd.R_far (p := ⟨gb601, 0, none⟩) (Kd.R_types HO594.out BK601.out (by decide)) (fun _ hk => hk.2) (.slice Ao76 t595.length co76)) (fun _ hk => hk.2) (.slice Ao80 t598.length co80)) (fun _ h_ => h_.1))) hb); have n4_ := Aside0.mk (Kd.V_below (by (with_reducible repeat (first | apply Kd.V_alloc | apply Kd.V_drewN | apply Kd.V_drew)); exact (Kd.V_mono (Kd.V_far (p := ⟨gb601, 1, none⟩) (Kd.V_far (p := ⟨gb601, 0, none⟩) (Kd.V_mono HO597.out (fun k_ hk => (⟨hk, hk.2⟩ : _ ∧ k_ ≠ gb601))) (fun _ hk => hk.2) (.slice Ao76 t595.length co76)) (fun _ hk => hk.2) (.slice Ao80 t598.length co80)) (fun _ h_ => h_.1))) hb); have n5_ := Aside0.mk (Kd.V_below (by (with_reducible repeat (first | apply Kd.V_alloc | apply Kd.V_drewN | apply Kd.V_drew)); exact (Kd.V_mono (Kd.V_far (p := ⟨gb601, 1, none⟩) (Kd.V_far (p := ⟨gb601, 0, none⟩) (Kd.V_mono HO600.out (fun k_ hk => (⟨hk, hk.2⟩ : _ ∧ k_ ≠ gb601))) (fun _ hk => hk.2) (.slice Ao76 t595.length co76)) (fun _ hk => hk.2) (.slice Ao80 t598.length co80)) (fun _ h_ => h_.1))) hb); have n6_ := Aside0.mk (blk_below (g := gb583) (o := .cells #[.slice none 0 0, .slice none 0 0] 46 (0, 0)) (by (with_reducible repeat (first | refine blk_drewN ?_ _ | refine blk_drew ?_ | refine blk_alloc ?_ _)); refine blk_far ?_ NB583_601.out _; (with_reducible repeat (first | refine blk_drewN ?_ _ | refine blk_drew ?_ | refine blk_alloc ?_ _)); refine blk_far ?_ NB583_601.out _; (with_reducible repeat (first | refine blk_drewN ?_ _ | refine blk_drew ?_ | refine blk_alloc ?_ _)); exact BK583.out) hb); have n7_ := Aside0.mk (blk_below (g := gb584) (o := .cells #[.slice Ao83 x585000_5.length co83, .slice Ao84 x585001_5.length co84] 46 (0, 0)) (by (with_reducible repeat (first | refine blk_drewN ?_ _ | refine blk_drew ?_ | refine blk_alloc ?_ _)); refine blk_far ?_ NB584_601.out _; (with_reducible repeat (first | refine blk_drewN ?_ _ | refine blk_drew ?_ | refine blk_alloc ?_ _)); refine blk_far ?_ NB584_601.out _; (with_reducible repeat (first | refine blk_drewN ?_ _ | refine blk_drew ?_ | refine blk_alloc ?_ _)); exact BK584.out) hb); have n8_ := Aside0.mk (blk_below (g := gb601) (o := .cells #[.slice Ao76 t595.length co76, .slice Ao80 t598.length co80] 46 (0, 0)) (by (with_reducible repeat (first | refine blk_drewN ?_ _ | refine blk_drew ?_ | refine blk_alloc ?_ _)); refine blk_put (cs := #[.slice Ao76 t595.length co76, .slice none 0 0]) ?_ 1 _ rfl; (with_reducible repeat (first | refine blk_drewN ?_ _ | refine blk_drew ?_ | refine blk_alloc ?_ _)); refine blk_put (cs := #[.slice none 0 0, .slice none 0 0]) ?_ 0 _ rfl; (with_reducible repeat (first | refine blk_drewN ?_ _ | refine blk_drew ?_ | refine blk_alloc ?_ _)); exact BK601.out) hb); have n9_ := Aside0.mk (below_step (zh HB.out) hb); clear HO_585000; clear HO_585001; clear HO591; clear HO594; clear HO597; clear HO600; clear BK583; clear BK584; clear BK601; clear HB; have HO_585000 := n0_; have HO_585001 := n1_; have HO591 := n2_; have HO594 := n3_; have HO597 := n4_; have HO600 := n5_; have BK583 := n6_; have BK584 := n7_; have BK601 := n8_; have HB := n9_; clear n0_ n1_ n2_ n3_ n4_ n5_ n6_ n7_ n8_ n9_; (try clear hb); (try clear hb2); (try clear hk); (try clear hi)))
                repeat (go_quiet (first | ((with_reducible refine gate_dst (N := 99) rfl ?_); refine Kd.R_lit (Kd.int .i64) _ 3 ?hg (N := 99) ?hd (xs := ([x18_1, x10_2] : List Int)) (inner := [.int .i64 x18_1, .int .i64 x10_2]) (ok := fun _ => True) (okp := fun _ => True) ?hr ?hp (fun _ hk => hk) trivial (Below.refl _ _) (Nat.le_refl _) (by simp) ?_; (case hd => rfl); (case hg => rfl); (case hr => first | (go_simp; done) | (go_simp; rfl)); (case hp => exact (Reps.one (show Kd.M (Kd.int .i64) _ _ _ x18_1 [.int .i64 x18_1] from rfl) (Reps.one (show Kd.M (Kd.int .i64) _ _ _ x10_2 [.int .i64 x10_2] from rfl) (Reps.none _ _)))); intro v590 w68 ho69 hb hg_ hnew_; clear hg_ hnew_; (first | rw [← Ny589.out] at ho69 | (simp only [Int.reduceToNat] at ho69; rw [← Ny589.out] at ho69)); have n0_ := Aside0.mk (Kd.V_elder' (by (with_reducible repeat (first | apply Kd.V_alloc | apply Kd.V_drewN | apply Kd.V_drew)); exact HO_585000.out) (Kd.R_base ho69) hb); have n1_ := Aside0.mk (Kd.V_elder' (by (with_reducible repeat (first | apply Kd.V_alloc | apply Kd.V_drewN | apply Kd.V_drew)); exact HO_585001.out) (Kd.R_base ho69) hb); have n2_ := Aside0.mk (Kd.R_lower (Kd.R_newM (M := fun k_ => (w.heap.size ≤ k_)) ho69 (below_size (zh HB.out)) (fun k_ h_ => h_)) (below_size (zh HB.out))); have n3_ := Aside0.mk (blk_below (g := gb583) (o := .cells #[.slice none 0 0, .slice none 0 0] 46 (0, 0)) (zb BK583.out) hb); have n4_ := Aside0.mk (blk_below (g := gb584) (o := .cells #[u585000, u585001] 46 (0, 0)) (zb BK584.out) hb); have n5_ := Aside0.mk (below_step (zh HB.out) hb); clear HO_585000; clear HO_585001; clear BK583; clear BK584; clear HB; have HO_585000 := n0_; have HO_585001 := n1_; have HO591 := n2_; have BK583 := n3_; have BK584 := n4_; have HB := n5_; clear n0_ n1_ n2_ n3_ n4_ n5_; clear hb ho69) | ((with_reducible refine gate_dst (N := 102) rfl ?_); refine Kd.R_lit (Kd.int .i64) _ 3 ?hg (N := 102) ?hd (xs := ([(Go.bits .xor .i64 (Go.bits .xor .i64 x18_1 (ji31)) (ji33)), (Go.bits .xor .i64 (Go.bits .xor .i64 x10_2 (ji31)) (ji33))] : List Int)) (inner := [.int .i64 (Go.bits .xor .i64 (Go.bits .xor .i64 x18_1 (ji31)) (ji33)), .int .i64 (Go.bits .xor .i64 (Go.bits .xor .i64 x10_2 (ji31)) (ji33))]) (ok := fun _ => True) (okp := fun _ => True) ?hr ?hp (fun _ hk => hk) trivial (Below.refl _ _) (Nat.le_refl _) (by simp) ?_; (case hd => rfl); (case hg => rfl); (case hr => first | (go_simp; done) | (go_simp; rfl)); (case hp => exact (Reps.one (show Kd.M (Kd.int .i64) _ _ _ (Go.bits .xor .i64 (Go.bits .xor .i64 x18_1 (ji31)) (ji33)) [.int .i64 (Go.bits .xor .i64 (Go.bits .xor .i64 x18_1 (ji31)) (ji33))] from rfl) (Reps.one (show Kd.M (Kd.int .i64) _ _ _ (Go.bits .xor .i64 (Go.bits .xor .i64 x10_2 (ji31)) (ji33)) [.int .i64 (Go.bits .xor .i64 (Go.bits .xor .i64 x10_2 (ji31)) (ji33))] from rfl) (Reps.none _ _)))); intro v593 w70 ho71 hb hg_ hnew_; clear hg_ hnew_; (first | rw [← Ny592.out] at ho71 | (simp only [Int.reduceToNat] at ho71; rw [← Ny592.out] at ho71)); have n0_ := Aside0.mk (Kd.V_elder' (by (with_reducible repeat (first | apply Kd.V_alloc | apply Kd.V_drewN | apply Kd.V_drew)); exact HO_585000.out) (Kd.R_base ho71) hb); have n1_ := Aside0.mk (Kd.V_elder' (by (with_reducible repeat (first | apply Kd.V_alloc | apply Kd.V_drewN | apply Kd.V_drew)); exact HO_585001.out) (Kd.R_base ho71) hb); have n2_ := Aside0.mk (Kd.R_elder' (zr HO591.out) (Kd.R_base ho71) hb); have n3_ := Aside0.mk (Kd.R_lower (Kd.R_new' (Kd.R_newM (M := fun k_ => (w.heap.size ≤ k_)) ho71 (below_size (zh HB.out)) (fun k_ h_ => h_)) (Kd.R_lt (zr HO591.out))) (below_size (zh HB.out))); have n4_ := Aside0.mk (blk_below (g := gb583) (o := .cells #[.slice none 0 0, .slice none 0 0] 46 (0, 0)) (zb BK583.out) hb); have n5_ := Aside0.mk (blk_below (g := gb584) (o := .cells #[u585000, u585001] 46 (0, 0)) (zb BK584.out) hb); have n6_ := Aside0.mk (below_step (zh HB.out) hb); clear HO_585000; clear HO_585001; clear HO591; clear BK583; clear BK584; clear HB; have HO_585000 := n0_; have HO_585001 := n1_; have HO591 := n2_; have HO594 := n3_; have BK583 := n4_; have BK584 := n5_; have HB := n6_; clear n0_ n1_ n2_ n3_ n4_ n5_ n6_; clear hb ho71; obtain ⟨Ao72, co72, eo72⟩ := Kd.R_slice HO591.out; subst eo72; obtain ⟨Ao73, co73, eo73⟩ := Kd.R_slice HO594.out; subst eo73) | (go_at_call 91; (with_reducible refine (spec_deTrade.calls kj35 _ _ y589 _ _ y592 t595 t598 _ ?side1 ?side2 ?side3 ?side4 A44.out).mono ?_); (case side1 => repeat (first | exact (Kd.R_reads' HO591.out).2.2 | (with_reducible refine Kd.C_alloc ?_ _) | (with_reducible refine Kd.C_drewN ?_ _) | (with_reducible refine Kd.C_drew ?_))); (case side2 => exact (Kd.R_reads' HO591.out).2.1); (case side3 => repeat (first | exact (Kd.R_reads' HO594.out).2.2 | (with_reducible refine Kd.C_alloc ?_ _) | (with_reducible refine Kd.C_drewN ?_ _) | (with_reducible refine Kd.C_drew ?_))); (case side4 => exact (Kd.R_reads' HO594.out).2.1); rintro e w74 ⟨v596, v599, rfl, ho0, ho1, hb⟩; have n0_ := Aside0.mk (Kd.V_below (by (with_reducible repeat (first | apply Kd.V_alloc | apply Kd.V_drewN | apply Kd.V_drew)); exact HO_585000.out) hb); have n1_ := Aside0.mk (Kd.V_below (by (with_reducible repeat (first | apply Kd.V_alloc | apply Kd.V_drewN | apply Kd.V_drew)); exact HO_585001.out) hb); have n2_ := Aside0.mk (Kd.R_below (zr HO591.out) hb); have n3_ := Aside0.mk (Kd.R_below (zr HO594.out) hb); have n4_ := Aside0.mk (Kd.V_lower (Kd.V_mono (ok' := fun k_ => (w.heap.size ≤ k_) ∧ some k_ ≠ (.slice Ao72 y589.length co72 : Value).ownBlock ∧ some k_ ≠ (.slice Ao73 y592.length co73 : Value).ownBlock ∧ k_ ≠ gb583 ∧ k_ ≠ gb584) ho0 (fun k_ hk_ => ⟨(Nat.le_trans (below_size (zh HB.out)) hk_), (Kd.fresh' (Kd.R_lt (zr HO591.out)) k_ hk_), (Kd.fresh' (Kd.R_lt (zr HO594.out)) k_ hk_), (Kd.freshB (g := gb583) (o := .cells #[.slice none 0 0, .slice none 0 0] 46 (0, 0)) (zb BK583.out) k_ hk_), (Kd.freshB (g := gb584) (o := .cells #[u585000, u585001] 46 (0, 0)) (zb BK584.out) k_ hk_)⟩)) (below_size (zh HB.out))); have n5_ := Aside0.mk (Kd.V_lower (Kd.V_mono (ok' := fun k_ => (w.heap.size ≤ k_) ∧ some k_ ≠ (.slice Ao72 y589.length co72 : Value).ownBlock ∧ some k_ ≠ (.slice Ao73 y592.length co73 : Value).ownBlock ∧ k_ ≠ gb583 ∧ k_ ≠ gb584) ho1 (fun k_ hk_ => ⟨(Nat.le_trans (below_size (zh HB.out)) hk_), (Kd.fresh' (Kd.R_lt (zr HO591.out)) k_ hk_), (Kd.fresh' (Kd.R_lt (zr HO594.out)) k_ hk_), (Kd.freshB (g := gb583) (o := .cells #[.slice none 0 0, .slice none 0 0] 46 (0, 0)) (zb BK583.out) k_ hk_), (Kd.freshB (g := gb584) (o := .cells #[u585000, u585001] 46 (0, 0)) (zb BK584.out) k_ hk_)⟩)) (below_size (zh HB.out))); have n6_ := Aside0.mk (blk_below (g := gb583) (o := .cells #[.slice none 0 0, .slice none 0 0] 46 (0, 0)) (zb BK583.out) hb); have n7_ := Aside0.mk (blk_below (g := gb584) (o := .cells #[u585000, u585001] 46 (0, 0)) (zb BK584.out) hb); have n8_ := Aside0.mk (below_step (zh HB.out) hb); clear HO_585000; clear HO_585001; clear HO591; clear HO594; clear BK583; clear BK584; clear HB; have HO_585000 := n0_; have HO_585001 := n1_; have HO591 := n2_; have HO594 := n3_; have HO597 := n4_; have HO600 := n5_; have BK583 := n6_; have BK584 := n7_; have HB := n8_; clear n0_ n1_ n2_ n3_ n4_ n5_ n6_ n7_ n8_; (try clear hb); (try clear hb2); (try clear hk); (try clear hi); (try clear ho0); (try clear ho1)) | (go_at_call 92; (with_reducible refine (spec_deTradeBefore.calls kj35 _ _ t595 _ _ t598 _ _ x585000_5 _ _ x585001_5 false _ ?side1 ?side2 ?side3 ?side4 ?side5 ?side6 ?side7 ?side8 A46.out).mono ?_); (case side1 => refine (Kd.V_reads' (e := 71) (base := w.heap.size) (ok := fun k_ => (((w.heap.size ≤ k_) ∧ (some k_ ≠ (.slice Ao72 y589.length co72 : Value).ownBlock ∧ (some k_ ≠ (.slice Ao73 y592.length co73 : Value).ownBlock ∧ (k_ ≠ gb583 ∧ k_ ≠ gb584)))) ∧ k_ ≠ gb601)) (n := t595.length) (c := co76) ?_).2.2; exact (by (with_reducible repeat (first | apply Kd.V_alloc | apply Kd.V_drewN | apply Kd.V_drew)); exact (Kd.V_mono (Kd.V_far (p := ⟨gb601, 1, none⟩) (Kd.V_far (p := ⟨gb601, 0, none⟩) (Kd.V_mono HO597.out (fun k_ hk => (⟨hk, hk.2⟩ : _ ∧ k_ ≠ gb601))) (fun _ hk => hk.2) (.slice Ao76 t595.length co76)) (fun _ hk => hk.2) (.slice Ao80 t598.length co80)) (fun _ h_ => h_.1)))); (case side2 => exact (Kd.V_reads' HO597.out).2.1); (case side3 => refine (Kd.V_reads' (e := 71) (base := w.heap.size) (ok := fun k_ => (((w.heap.size ≤ k_) ∧ (some k_ ≠ (.slice Ao72 y589.length co72 : Value).ownBlock ∧ (some k_ ≠ (.slice Ao73 y592.length co73 : Value).ownBlock ∧ (k_ ≠ gb583 ∧ k_ ≠ gb584)))) ∧ k_ ≠ gb601)) (n := t598.length) (c := co80) ?_).2.2; exact (by (with_reducible repeat (first | apply Kd.V_alloc | apply Kd.V_drewN | apply Kd.V_drew)); exact (Kd.V_mono (Kd.V_far (p := ⟨gb601, 1, none⟩) (Kd.V_far (p := ⟨gb601, 0, none⟩) (Kd.V_mono HO600.out (fun k_ hk => (⟨hk, hk.2⟩ : _ ∧ k_ ≠ gb601))) (fun _ hk => hk.2) (.slice Ao76 t595.length co76)) (fun _ hk => hk.2) (.slice Ao80 t598.length co80)) (fun _ h_ => h_.1)))); (case side4 => exact (Kd.V_reads' HO600.out).2.1); (case side5 => refine (Kd.V_reads' (e := 71) (base := w.heap.size) (ok := fun k_ => (((((w.heap.size ≤ k_) ∧ (k_ ≠ gb583 ∧ k_ ≠ gb584)) ∧ some k_ ≠ (.slice Ao72 y589.length co72 : Value).ownBlock) ∧ some k_ ≠ (.slice Ao73 y592.length co73 : Value).ownBlock) ∧ k_ ≠ gb601)) (n := x585000_5.length) (c := co83) ?_).2.2; exact (by (with_reducible repeat (first | apply Kd.V_alloc | apply Kd.V_drewN | apply Kd.V_drew)); exact (Kd.V_mono (Kd.V_far (p := ⟨gb601, 1, none⟩) (Kd.V_far (p := ⟨gb601, 0, none⟩) (Kd.V_mono HO_585000.out (fun k_ hk => (⟨hk, hk.2⟩ : _ ∧ k_ ≠ gb601))) (fun _ hk => hk.2) (.slice Ao76 t595.length co76)) (fun _ hk => hk.2) (.slice Ao80 t598.length co80)) (fun _ h_ => h_.1)))); (case side6 => exact (Kd.V_reads' HO_585000.out).2.1); (case side7 => refine (Kd.V_reads' (e := 71) (base := w.heap.size) (ok := fun k_ => (((((w.heap.size ≤ k_) ∧ (k_ ≠ gb583 ∧ k_ ≠ gb584)) ∧ some k_ ≠ (.slice Ao72 y589.length co72 : Value).ownBlock) ∧ some k_ ≠ (.slice Ao73 y592.length co73 : Value).ownBlock) ∧ k_ ≠ gb601)) (n := x585001_5.length) (c := co84) ?_).2.2; exact (by (with_reducible repeat (first | apply Kd.V_alloc | apply Kd.V_drewN | apply Kd.V_drew)); exact (Kd.V_mono (Kd.V_far (p := ⟨gb601, 1, none⟩) (Kd.V_far (p := ⟨gb601, 0, none⟩) (Kd.V_mono HO_585001.out (fun k_ hk => (⟨hk, hk.2⟩ : _ ∧ k_ ≠ gb601))) (fun _ hk => hk.2) (.slice Ao76 t595.length co76)) (fun _ hk => hk.2) (.slice Ao80 t598.length co80)) (fun _ h_ => h_.1)))); (case side8 => exact (Kd.V_reads' HO_585001.out).2.1); rintro e w85 ⟨rfl, hb⟩; have n0_ := Aside0.mk (Kd.V_below (by (with_reducible repeat (first | apply Kd.V_alloc | apply Kd.V_drewN | apply Kd.V_drew)); exact (Kd.V_mono (Kd.V_far (p := ⟨gb601, 1, none⟩) (Kd.V_far (p := ⟨gb601, 0, none⟩) (Kd.V_mono HO_585000.out (fun k_ hk => (⟨hk, hk.2⟩ : _ ∧ k_ ≠ gb601))) (fun _ hk => hk.2) (.slice Ao76 t595.length co76)) (fun _ hk => hk.2) (.slice Ao80 t598.length co80)) (fun _ h_ => h_.1))) hb); have n1_ := Aside0.mk (Kd.V_below (by (with_reducible repeat (first | apply Kd.V_alloc | apply Kd.V_drewN | apply Kd.V_drew)); exact (Kd.V_mono (Kd.V_far (p := ⟨gb601, 1, none⟩) (Kd.V_far (p := ⟨gb601, 0, none⟩) (Kd.V_mono HO_585001.out (fun k_ hk => (⟨hk, hk.2⟩ : _ ∧ k_ ≠ gb601))) (fun _ hk => hk.2) (.slice Ao76 t595.length co76)) (fun _ hk => hk.2) (.slice Ao80 t598.length co80)) (fun _ h_ => h_.1))) hb); have n2_ := Aside0.mk (Kd.R_below (by (with_reducible repeat (first | apply Kd.R_alloc | apply Kd.R_drewN | apply Kd.R_drew)); exact (Kd.R_mono (Kd.R_far (p := ⟨gb601, 1, none⟩) (Kd.R_far (p := ⟨gb601, 0, none⟩) (Kd.R_types HO591.out BK601.out (by decide)) (fun _ hk => hk.2) (.slice Ao76 t595.length co76)) (fun _ hk => hk.2) (.slice Ao80 t598.length co80)) (fun _ h_ => h_.1))) hb); have n3_ := Aside0.mk (Kd.R_below (by (with_reducible repeat (first | apply Kd.R_alloc | apply Kd.R_drewN | apply Kd.R_drew)); exact (Kd.R_mono (Kd.R_far (p := ⟨gb601, 1, none⟩) (Kd.R_far (p := ⟨gb601, 0, none⟩) (Kd.R_types HO594.out BK601.out (by decide)) (fun _ hk => hk.2) (.slice Ao76 t595.length co76)) (fun _ hk => hk.2) (.slice Ao80 t598.length co80)) (fun _ h_ => h_.1))) hb); have n4_ := Aside0.mk (Kd.V_below (by (with_reducible repeat (first | apply Kd.V_alloc | apply Kd.V_drewN | apply Kd.V_drew)); exact (Kd.V_mono (Kd.V_far (p := ⟨gb601, 1, none⟩) (Kd.V_far (p := ⟨gb601, 0, none⟩) (Kd.V_mono HO597.out (fun k_ hk => (⟨hk, hk.2⟩ : _ ∧ k_ ≠ gb601))) (fun _ hk => hk.2) (.slice Ao76 t595.length co76)) (fun _ hk => hk.2) (.slice Ao80 t598.length co80)) (fun _ h_ => h_.1))) hb); have n5_ := Aside0.mk (Kd.V_below (by (with_reducible repeat (first | apply Kd.V_alloc | apply Kd.V_drewN | apply Kd.V_drew)); exact (Kd.V_mono (Kd.V_far (p := ⟨gb601, 1, none⟩) (Kd.V_far (p := ⟨gb601, 0, none⟩) (Kd.V_mono HO600.out (fun k_ hk => (⟨hk, hk.2⟩ : _ ∧ k_ ≠ gb601))) (fun _ hk => hk.2) (.slice Ao76 t595.length co76)) (fun _ hk => hk.2) (.slice Ao80 t598.length co80)) (fun _ h_ => h_.1))) hb); have n6_ := Aside0.mk (blk_below (g := gb583) (o := .cells #[.slice none 0 0, .slice none 0 0] 46 (0, 0)) (by (with_reducible repeat (first | refine blk_drewN ?_ _ | refine blk_drew ?_ | refine blk_alloc ?_ _)); refine blk_far ?_ NB583_601.out _; (with_reducible repeat (first | refine blk_drewN ?_ _ | refine blk_drew ?_ | refine blk_alloc ?_ _)); refine blk_far ?_ NB583_601.out _; (with_reducible repeat (first | refine blk_drewN ?_ _ | refine blk_drew ?_ | refine blk_alloc ?_ _)); exact BK583.out) hb); have n7_ := Aside0.mk (blk_below (g := gb584) (o := .cells #[.slice Ao83 x585000_5.length co83, .slice Ao84 x585001_5.length co84] 46 (0, 0)) (by (with_reducible repeat (first | refine blk_drewN ?_ _ | refine blk_drew ?_ | refine blk_alloc ?_ _)); refine blk_far ?_ NB584_601.out _; (with_reducible repeat (first | refine blk_drewN ?_ _ | refine blk_drew ?_ | refine blk_alloc ?_ _)); refine blk_far ?_ NB584_601.out _; (with_reducible repeat (first | refine blk_drewN ?_ _ | refine blk_drew ?_ | refine blk_alloc ?_ _)); exact BK584.out) hb); have n8_ := Aside0.mk (blk_below (g := gb601) (o := .cells #[.slice Ao76 t595.length co76, .slice Ao80 t598.length co80] 46 (0, 0)) (by (with_reducible repeat (first | refine blk_drewN ?_ _ | refine blk_drew ?_ | refine blk_alloc ?_ _)); refine blk_put (cs := #[.slice Ao76 t595.length co76, .slice none 0 0]) ?_ 1 _ rfl; (with_reducible repeat (first | refine blk_drewN ?_ _ | refine blk_drew ?_ | refine blk_alloc ?_ _)); refine blk_put (cs := #[.slice none 0 0, .slice none 0 0]) ?_ 0 _ rfl; (with_reducible repeat (first | refine blk_drewN ?_ _ | refine blk_drew ?_ | refine blk_alloc ?_ _)); exact BK601.out) hb); have n9_ := Aside0.mk (below_step (zh HB.out) hb); clear HO_585000; clear HO_585001; clear HO591; clear HO594; clear HO597; clear HO600; clear BK583; clear BK584; clear BK601; clear HB; have HO_585000 := n0_; have HO_585001 := n1_; have HO591 := n2_; have HO594 := n3_; have HO597 := n4_; have HO600 := n5_; have BK583 := n6_; have BK584 := n7_; have BK601 := n8_; have HB := n9_; clear n0_ n1_ n2_ n3_ n4_ n5_ n6_ n7_ n8_ n9_; (try clear hb); (try clear hb2); (try clear hk); (try clear hi))); try go_wp2_with (first | ((with_reducible refine gate_dst (N := 99) rfl ?_); refine Kd.R_lit (Kd.int .i64) _ 3 ?hg (N := 99) ?hd (xs := ([x18_1, x10_2] : List Int)) (inner := [.int .i64 x18_1, .int .i64 x10_2]) (ok := fun _ => True) (okp := fun _ => True) ?hr ?hp (fun _ hk => hk) trivial (Below.refl _ _) (Nat.le_refl _) (by simp) ?_; (case hd => rfl); (case hg => rfl); (case hr => first | (go_simp; done) | (go_simp; rfl)); (case hp => exact (Reps.one (show Kd.M (Kd.int .i64) _ _ _ x18_1 [.int .i64 x18_1] from rfl) (Reps.one (show Kd.M (Kd.int .i64) _ _ _ x10_2 [.int .i64 x10_2] from rfl) (Reps.none _ _)))); intro v590 w68 ho69 hb hg_ hnew_; clear hg_ hnew_; (first | rw [← Ny589.out] at ho69 | (simp only [Int.reduceToNat] at ho69; rw [← Ny589.out] at ho69)); have n0_ := Aside0.mk (Kd.V_elder' (by (with_reducible repeat (first | apply Kd.V_alloc | apply Kd.V_drewN | apply Kd.V_drew)); exact HO_585000.out) (Kd.R_base ho69) hb); have n1_ := Aside0.mk (Kd.V_elder' (by (with_reducible repeat (first | apply Kd.V_alloc | apply Kd.V_drewN | apply Kd.V_drew)); exact HO_585001.out) (Kd.R_base ho69) hb); have n2_ := Aside0.mk (Kd.R_lower (Kd.R_newM (M := fun k_ => (w.heap.size ≤ k_)) ho69 (below_size (zh HB.out)) (fun k_ h_ => h_)) (below_size (zh HB.out))); have n3_ := Aside0.mk (blk_below (g := gb583) (o := .cells #[.slice none 0 0, .slice none 0 0] 46 (0, 0)) (zb BK583.out) hb); have n4_ := Aside0.mk (blk_below (g := gb584) (o := .cells #[u585000, u585001] 46 (0, 0)) (zb BK584.out) hb); have n5_ := Aside0.mk (below_step (zh HB.out) hb); clear HO_585000; clear HO_585001; clear BK583; clear BK584; clear HB; have HO_585000 := n0_; have HO_585001 := n1_; have HO591 := n2_; have BK583 := n3_; have BK584 := n4_; have HB := n5_; clear n0_ n1_ n2_ n3_ n4_ n5_; clear hb ho69) | ((with_reducible refine gate_dst (N := 102) rfl ?_); refine Kd.R_lit (Kd.int .i64) _ 3 ?hg (N := 102) ?hd (xs := ([(Go.bits .xor .i64 (Go.bits .xor .i64 x18_1 (ji31)) (ji33)), (Go.bits .xor .i64 (Go.bits .xor .i64 x10_2 (ji31)) (ji33))] : List Int)) (inner := [.int .i64 (Go.bits .xor .i64 (Go.bits .xor .i64 x18_1 (ji31)) (ji33)), .int .i64 (Go.bits .xor .i64 (Go.bits .xor .i64 x10_2 (ji31)) (ji33))]) (ok := fun _ => True) (okp := fun _ => True) ?hr ?hp (fun _ hk => hk) trivial (Below.refl _ _) (Nat.le_refl _) (by simp) ?_; (case hd => rfl); (case hg => rfl); (case hr => first | (go_simp; done) | (go_simp; rfl)); (case hp => exact (Reps.one (show Kd.M (Kd.int .i64) _ _ _ (Go.bits .xor .i64 (Go.bits .xor .i64 x18_1 (ji31)) (ji33)) [.int .i64 (Go.bits .xor .i64 (Go.bits .xor .i64 x18_1 (ji31)) (ji33))] from rfl) (Reps.one (show Kd.M (Kd.int .i64) _ _ _ (Go.bits .xor .i64 (Go.bits .xor .i64 x10_2 (ji31)) (ji33)) [.int .i64 (Go.bits .xor .i64 (Go.bits .xor .i64 x10_2 (ji31)) (ji33))] from rfl) (Reps.none _ _)))); intro v593 w70 ho71 hb hg_ hnew_; clear hg_ hnew_; (first | rw [← Ny592.out] at ho71 | (simp only [Int.reduceToNat] at ho71; rw [← Ny592.out] at ho71)); have n0_ := Aside0.mk (Kd.V_elder' (by (with_reducible repeat (first | apply Kd.V_alloc | apply Kd.V_drewN | apply Kd.V_drew)); exact HO_585000.out) (Kd.R_base ho71) hb); have n1_ := Aside0.mk (Kd.V_elder' (by (with_reducible repeat (first | apply Kd.V_alloc | apply Kd.V_drewN | apply Kd.V_drew)); exact HO_585001.out) (Kd.R_base ho71) hb); have n2_ := Aside0.mk (Kd.R_elder' (zr HO591.out) (Kd.R_base ho71) hb); have n3_ := Aside0.mk (Kd.R_lower (Kd.R_new' (Kd.R_newM (M := fun k_ => (w.heap.size ≤ k_)) ho71 (below_size (zh HB.out)) (fun k_ h_ => h_)) (Kd.R_lt (zr HO591.out))) (below_size (zh HB.out))); have n4_ := Aside0.mk (blk_below (g := gb583) (o := .cells #[.slice none 0 0, .slice none 0 0] 46 (0, 0)) (zb BK583.out) hb); have n5_ := Aside0.mk (blk_below (g := gb584) (o := .cells #[u585000, u585001] 46 (0, 0)) (zb BK584.out) hb); have n6_ := Aside0.mk (below_step (zh HB.out) hb); clear HO_585000; clear HO_585001; clear HO591; clear BK583; clear BK584; clear HB; have HO_585000 := n0_; have HO_585001 := n1_; have HO591 := n2_; have HO594 := n3_; have BK583 := n4_; have BK584 := n5_; have HB := n6_; clear n0_ n1_ n2_ n3_ n4_ n5_ n6_; clear hb ho71; obtain ⟨Ao72, co72, eo72⟩ := Kd.R_slice HO591.out; subst eo72; obtain ⟨Ao73, co73, eo73⟩ := Kd.R_slice HO594.out; subst eo73) | (go_at_call 91; (with_reducible refine (spec_deTrade.calls kj35 _ _ y589 _ _ y592 t595 t598 _ ?side1 ?side2 ?side3 ?side4 A44.out).mono ?_); (case side1 => repeat (first | exact (Kd.R_reads' HO591.out).2.2 | (with_reducible refine Kd.C_alloc ?_ _) | (with_reducible refine Kd.C_drewN ?_ _) | (with_reducible refine Kd.C_drew ?_))); (case side2 => exact (Kd.R_reads' HO591.out).2.1); (case side3 => repeat (first | exact (Kd.R_reads' HO594.out).2.2 | (with_reducible refine Kd.C_alloc ?_ _) | (with_reducible refine Kd.C_drewN ?_ _) | (with_reducible refine Kd.C_drew ?_))); (case side4 => exact (Kd.R_reads' HO594.out).2.1); rintro e w74 ⟨v596, v599, rfl, ho0, ho1, hb⟩; have n0_ := Aside0.mk (Kd.V_below (by (with_reducible repeat (first | apply Kd.V_alloc | apply Kd.V_drewN | apply Kd.V_drew)); exact HO_585000.out) hb); have n1_ := Aside0.mk (Kd.V_below (by (with_reducible repeat (first | apply Kd.V_alloc | apply Kd.V_drewN | apply Kd.V_drew)); exact HO_585001.out) hb); have n2_ := Aside0.mk (Kd.R_below (zr HO591.out) hb); have n3_ := Aside0.mk (Kd.R_below (zr HO594.out) hb); have n4_ := Aside0.mk (Kd.V_lower (Kd.V_mono (ok' := fun k_ => (w.heap.size ≤ k_) ∧ some k_ ≠ (.slice Ao72 y589.length co72 : Value).ownBlock ∧ some k_ ≠ (.slice Ao73 y592.length co73 : Value).ownBlock ∧ k_ ≠ gb583 ∧ k_ ≠ gb584) ho0 (fun k_ hk_ => ⟨(Nat.le_trans (below_size (zh HB.out)) hk_), (Kd.fresh' (Kd.R_lt (zr HO591.out)) k_ hk_), (Kd.fresh' (Kd.R_lt (zr HO594.out)) k_ hk_), (Kd.freshB (g := gb583) (o := .cells #[.slice none 0 0, .slice none 0 0] 46 (0, 0)) (zb BK583.out) k_ hk_), (Kd.freshB (g := gb584) (o := .cells #[u585000, u585001] 46 (0, 0)) (zb BK584.out) k_ hk_)⟩)) (below_size (zh HB.out))); have n5_ := Aside0.mk (Kd.V_lower (Kd.V_mono (ok' := fun k_ => (w.heap.size ≤ k_) ∧ some k_ ≠ (.slice Ao72 y589.length co72 : Value).ownBlock ∧ some k_ ≠ (.slice Ao73 y592.length co73 : Value).ownBlock ∧ k_ ≠ gb583 ∧ k_ ≠ gb584) ho1 (fun k_ hk_ => ⟨(Nat.le_trans (below_size (zh HB.out)) hk_), (Kd.fresh' (Kd.R_lt (zr HO591.out)) k_ hk_), (Kd.fresh' (Kd.R_lt (zr HO594.out)) k_ hk_), (Kd.freshB (g := gb583) (o := .cells #[.slice none 0 0, .slice none 0 0] 46 (0, 0)) (zb BK583.out) k_ hk_), (Kd.freshB (g := gb584) (o := .cells #[u585000, u585001] 46 (0, 0)) (zb BK584.out) k_ hk_)⟩)) (below_size (zh HB.out))); have n6_ := Aside0.mk (blk_below (g := gb583) (o := .cells #[.slice none 0 0, .slice none 0 0] 46 (0, 0)) (zb BK583.out) hb); have n7_ := Aside0.mk (blk_below (g := gb584) (o := .cells #[u585000, u585001] 46 (0, 0)) (zb BK584.out) hb); have n8_ := Aside0.mk (below_step (zh HB.out) hb); clear HO_585000; clear HO_585001; clear HO591; clear HO594; clear BK583; clear BK584; clear HB; have HO_585000 := n0_; have HO_585001 := n1_; have HO591 := n2_; have HO594 := n3_; have HO597 := n4_; have HO600 := n5_; have BK583 := n6_; have BK584 := n7_; have HB := n8_; clear n0_ n1_ n2_ n3_ n4_ n5_ n6_ n7_ n8_; (try clear hb); (try clear hb2); (try clear hk); (try clear hi); (try clear ho0); (try clear ho1)) | (go_at_call 92; (with_reducible refine (spec_deTradeBefore.calls kj35 _ _ t595 _ _ t598 _ _ x585000_5 _ _ x585001_5 false _ ?side1 ?side2 ?side3 ?side4 ?side5 ?side6 ?side7 ?side8 A46.out).mono ?_); (case side1 => refine (Kd.V_reads' (e := 71) (base := w.heap.size) (ok := fun k_ => (((w.heap.size ≤ k_) ∧ (some k_ ≠ (.slice Ao72 y589.length co72 : Value).ownBlock ∧ (some k_ ≠ (.slice Ao73 y592.length co73 : Value).ownBlock ∧ (k_ ≠ gb583 ∧ k_ ≠ gb584)))) ∧ k_ ≠ gb601)) (n := t595.length) (c := co76) ?_).2.2; exact (by (with_reducible repeat (first | apply Kd.V_alloc | apply Kd.V_drewN | apply Kd.V_drew)); exact (Kd.V_mono (Kd.V_far (p := ⟨gb601, 1, none⟩) (Kd.V_far (p := ⟨gb601, 0, none⟩) (Kd.V_mono HO597.out (fun k_ hk => (⟨hk, hk.2⟩ : _ ∧ k_ ≠ gb601))) (fun _ hk => hk.2) (.slice Ao76 t595.length co76)) (fun _ hk => hk.2) (.slice Ao80 t598.length co80)) (fun _ h_ => h_.1)))); (case side2 => exact (Kd.V_reads' HO597.out).2.1); (case side3 => refine (Kd.V_reads' (e := 71) (base := w.heap.size) (ok := fun k_ => (((w.heap.size ≤ k_) ∧ (some k_ ≠ (.slice Ao72 y589.length co72 : Value).ownBlock ∧ (some k_ ≠ (.slice Ao73 y592.length co73 : Value).ownBlock ∧ (k_ ≠ gb583 ∧ k_ ≠ gb584)))) ∧ k_ ≠ gb601)) (n := t598.length) (c := co80) ?_).2.2; exact (by (with_reducible repeat (first | apply Kd.V_alloc | apply Kd.V_drewN | apply Kd.V_drew)); exact (Kd.V_mono (Kd.V_far (p := ⟨gb601, 1, none⟩) (Kd.V_far (p := ⟨gb601, 0, none⟩) (Kd.V_mono HO600.out (fun k_ hk => (⟨hk, hk.2⟩ : _ ∧ k_ ≠ gb601))) (fun _ hk => hk.2) (.slice Ao76 t595.length co76)) (fun _ hk => hk.2) (.slice Ao80 t598.length co80)) (fun _ h_ => h_.1)))); (case side4 => exact (Kd.V_reads' HO600.out).2.1); (case side5 => refine (Kd.V_reads' (e := 71) (base := w.heap.size) (ok := fun k_ => (((((w.heap.size ≤ k_) ∧ (k_ ≠ gb583 ∧ k_ ≠ gb584)) ∧ some k_ ≠ (.slice Ao72 y589.length co72 : Value).ownBlock) ∧ some k_ ≠ (.slice Ao73 y592.length co73 : Value).ownBlock) ∧ k_ ≠ gb601)) (n := x585000_5.length) (c := co83) ?_).2.2; exact (by (with_reducible repeat (first | apply Kd.V_alloc | apply Kd.V_drewN | apply Kd.V_drew)); exact (Kd.V_mono (Kd.V_far (p := ⟨gb601, 1, none⟩) (Kd.V_far (p := ⟨gb601, 0, none⟩) (Kd.V_mono HO_585000.out (fun k_ hk => (⟨hk, hk.2⟩ : _ ∧ k_ ≠ gb601))) (fun _ hk => hk.2) (.slice Ao76 t595.length co76)) (fun _ hk => hk.2) (.slice Ao80 t598.length co80)) (fun _ h_ => h_.1)))); (case side6 => exact (Kd.V_reads' HO_585000.out).2.1); (case side7 => refine (Kd.V_reads' (e := 71) (base := w.heap.size) (ok := fun k_ => (((((w.heap.size ≤ k_) ∧ (k_ ≠ gb583 ∧ k_ ≠ gb584)) ∧ some k_ ≠ (.slice Ao72 y589.length co72 : Value).ownBlock) ∧ some k_ ≠ (.slice Ao73 y592.length co73 : Value).ownBlock) ∧ k_ ≠ gb601)) (n := x585001_5.length) (c := co84) ?_).2.2; exact (by (with_reducible repeat (first | apply Kd.V_alloc | apply Kd.V_drewN | apply Kd.V_drew)); exact (Kd.V_mono (Kd.V_far (p := ⟨gb601, 1, none⟩) (Kd.V_far (p := ⟨gb601, 0, none⟩) (Kd.V_mono HO_585001.out (fun k_ hk => (⟨hk, hk.2⟩ : _ ∧ k_ ≠ gb601))) (fun _ hk => hk.2) (.slice Ao76 t595.length co76)) (fun _ hk => hk.2) (.slice Ao80 t598.length co80)) (fun _ h_ => h_.1)))); (case side8 => exact (Kd.V_reads' HO_585001.out).2.1); rintro e w85 ⟨rfl, hb⟩; have n0_ := Aside0.mk (Kd.V_below (by (with_reducible repeat (first | apply Kd.V_alloc | apply Kd.V_drewN | apply Kd.V_drew)); exact (Kd.V_mono (Kd.V_far (p := ⟨gb601, 1, none⟩) (Kd.V_far (p := ⟨gb601, 0, none⟩) (Kd.V_mono HO_585000.out (fun k_ hk => (⟨hk, hk.2⟩ : _ ∧ k_ ≠ gb601))) (fun _ hk => hk.2) (.slice Ao76 t595.length co76)) (fun _ hk => hk.2) (.slice Ao80 t598.length co80)) (fun _ h_ => h_.1))) hb); have n1_ := Aside0.mk (Kd.V_below (by (with_reducible repeat (first | apply Kd.V_alloc | apply Kd.V_drewN | apply Kd.V_drew)); exact (Kd.V_mono (Kd.V_far (p := ⟨gb601, 1, none⟩) (Kd.V_far (p := ⟨gb601, 0, none⟩) (Kd.V_mono HO_585001.out (fun k_ hk => (⟨hk, hk.2⟩ : _ ∧ k_ ≠ gb601))) (fun _ hk => hk.2) (.slice Ao76 t595.length co76)) (fun _ hk => hk.2) (.slice Ao80 t598.length co80)) (fun _ h_ => h_.1))) hb); have n2_ := Aside0.mk (Kd.R_below (by (with_reducible repeat (first | apply Kd.R_alloc | apply Kd.R_drewN | apply Kd.R_drew)); exact (Kd.R_mono (Kd.R_far (p := ⟨gb601, 1, none⟩) (Kd.R_far (p := ⟨gb601, 0, none⟩) (Kd.R_types HO591.out BK601.out (by decide)) (fun _ hk => hk.2) (.slice Ao76 t595.length co76)) (fun _ hk => hk.2) (.slice Ao80 t598.length co80)) (fun _ h_ => h_.1))) hb); have n3_ := Aside0.mk (Kd.R_below (by (with_reducible repeat (first | apply Kd.R_alloc | apply Kd.R_drewN | apply Kd.R_drew)); exact (Kd.R_mono (Kd.R_far (p := ⟨gb601, 1, none⟩) (Kd.R_far (p := ⟨gb601, 0, none⟩) (Kd.R_types HO594.out BK601.out (by decide)) (fun _ hk => hk.2) (.slice Ao76 t595.length co76)) (fun _ hk => hk.2) (.slice Ao80 t598.length co80)) (fun _ h_ => h_.1))) hb); have n4_ := Aside0.mk (Kd.V_below (by (with_reducible repeat (first | apply Kd.V_alloc | apply Kd.V_drewN | apply Kd.V_drew)); exact (Kd.V_mono (Kd.V_far (p := ⟨gb601, 1, none⟩) (Kd.V_far (p := ⟨gb601, 0, none⟩) (Kd.V_mono HO597.out (fun k_ hk => (⟨hk, hk.2⟩ : _ ∧ k_ ≠ gb601))) (fun _ hk => hk.2) (.slice Ao76 t595.length co76)) (fun _ hk => hk.2) (.slice Ao80 t598.length co80)) (fun _ h_ => h_.1))) hb); have n5_ := Aside0.mk (Kd.V_below (by (with_reducible repeat (first | apply Kd.V_alloc | apply Kd.V_drewN | apply Kd.V_drew)); exact (Kd.V_mono (Kd.V_far (p := ⟨gb601, 1, none⟩) (Kd.V_far (p := ⟨gb601, 0, none⟩) (Kd.V_mono HO600.out (fun k_ hk => (⟨hk, hk.2⟩ : _ ∧ k_ ≠ gb601))) (fun _ hk => hk.2) (.slice Ao76 t595.length co76)) (fun _ hk => hk.2) (.slice Ao80 t598.length co80)) (fun _ h_ => h_.1))) hb); have n6_ := Aside0.mk (blk_below (g := gb583) (o := .cells #[.slice none 0 0, .slice none 0 0] 46 (0, 0)) (by (with_reducible repeat (first | refine blk_drewN ?_ _ | refine blk_drew ?_ | refine blk_alloc ?_ _)); refine blk_far ?_ NB583_601.out _; (with_reducible repeat (first | refine blk_drewN ?_ _ | refine blk_drew ?_ | refine blk_alloc ?_ _)); refine blk_far ?_ NB583_601.out _; (with_reducible repeat (first | refine blk_drewN ?_ _ | refine blk_drew ?_ | refine blk_alloc ?_ _)); exact BK583.out) hb); have n7_ := Aside0.mk (blk_below (g := gb584) (o := .cells #[.slice Ao83 x585000_5.length co83, .slice Ao84 x585001_5.length co84] 46 (0, 0)) (by (with_reducible repeat (first | refine blk_drewN ?_ _ | refine blk_drew ?_ | refine blk_alloc ?_ _)); refine blk_far ?_ NB584_601.out _; (with_reducible repeat (first | refine blk_drewN ?_ _ | refine blk_drew ?_ | refine blk_alloc ?_ _)); refine blk_far ?_ NB584_601.out _; (with_reducible repeat (first | refine blk_drewN ?_ _ | refine blk_drew ?_ | refine blk_alloc ?_ _)); exact BK584.out) hb); have n8_ := Aside0.mk (blk_below (g := gb601) (o := .cells #[.slice Ao76 t595.length co76, .slice Ao80 t598.length co80] 46 (0, 0)) (by (with_reducible repeat (first | refine blk_drewN ?_ _ | refine blk_drew ?_ | refine blk_alloc ?_ _)); refine blk_put (cs := #[.slice Ao76 t595.length co76, .slice none 0 0]) ?_ 1 _ rfl; (with_reducible repeat (first | refine blk_drewN ?_ _ | refine blk_drew ?_ | refine blk_alloc ?_ _)); refine blk_put (cs := #[.slice none 0 0, .slice none 0 0]) ?_ 0 _ rfl; (with_reducible repeat (first | refine blk_drewN ?_ _ | refine blk_drew ?_ | refine blk_alloc ?_ _)); exact BK601.out) hb); have n9_ := Aside0.mk (below_step (zh HB.out) hb); clear HO_585000; clear HO_585001; clear HO591; clear HO594; clear HO597; clear HO600; clear BK583; clear BK584; clear BK601; clear HB; have HO_585000 := n0_; have HO_585001 := n1_; have HO591 := n2_; have HO594 := n3_; have HO597 := n4_; have HO600 := n5_; have BK583 := n6_; have BK584 := n7_; have BK601 := n8_; have HB := n9_; clear n0_ n1_ n2_ n3_ n4_ n5_ n6_ n7_ n8_ n9_; (try clear hb); (try clear hb2); (try clear hk); (try clear hi))))
                go_roundg kj35
                case measure => have := HK1.out; have := HK2.out; have := HJ8.out; have := HK4.out; have := HK5.out; have := HJ16.out; have := HJ35.out; omega
                case rel => exact ⟨(true), (wrap64 (x12_5 + 1)), (x585000_5), (x585001_5), (.slice Ao83 x585000_5.length co83), (.slice Ao84 x585001_5.length co84), (by first | rfl | (simp; done) | (simp [*]; done)), (by first | rfl | (simp; done) | (simp [*]; done)), H', ⟨by have := HK1.out; have := HK2.out; have := HJ8.out; have := HK4.out; have := HK5.out; have := HJ16.out; have := HJ35.out; omega⟩, ⟨by (with_reducible repeat (first | apply Kd.V_alloc | apply Kd.V_drewN | apply Kd.V_drew)); exact Kd.V_mono HO_585000.out (fun _ hk => ⟨hk.1.1.1.1, ⟨hk.1.1.1.2.1, hk.1.1.1.2.2⟩⟩)⟩, ⟨by (with_reducible repeat (first | apply Kd.V_alloc | apply Kd.V_drewN | apply Kd.V_drew)); exact Kd.V_mono HO_585001.out (fun _ hk => ⟨hk.1.1.1.1, ⟨hk.1.1.1.2.1, hk.1.1.1.2.2⟩⟩)⟩, ⟨zb BK583.out⟩, ⟨zb BK584.out⟩, ⟨zh HB.out⟩⟩
               subst c47
               have H1 : (spec_deSwap.l3 kj35 l0 a1 true x18_1 bz585 x10_2 x11_4 (wrap64 (x12_5 + 1)) l0 (l0.length : Int) x18_1 t595 t598) = some (r1, r2, r3) := by rw [if_pos rfl] at H; exact H
               clear H
               have H := H1
               clear H1
               have H' := Aside0.mk H
               clear H
               go_wp2_with (first | ((with_reducible refine gate_dst (N := 99) rfl ?_); refine Kd.R_lit (Kd.int .i64) _ 3 ?hg (N := 99) ?hd (xs := ([x18_1, x10_2] : List Int)) (inner := [.int .i64 x18_1, .int .i64 x10_2]) (ok := fun _ => True) (okp := fun _ => True) ?hr ?hp (fun _ hk => hk) trivial (Below.refl _ _) (Nat.le_refl _) (by simp) ?_; (case hd => rfl); (case hg => rfl); (case hr => first | (go_simp; done) | (go_simp; rfl)); (case hp => exact (Reps.one (show Kd.M (Kd.int .i64) _ _ _ x18_1 [.int .i64 x18_1] from rfl) (Reps.one (show Kd.M (Kd.int .i64) _ _ _ x10_2 [.int .i64 x10_2] from rfl) (Reps.none _ _)))); intro v590 w48 ho49 hb hg_ hnew_; clear hg_ hnew_; (first | rw [← Ny589.out] at ho49 | (simp only [Int.reduceToNat] at ho49; rw [← Ny589.out] at ho49)); have n0_ := Aside0.mk (Kd.V_elder' (by (with_reducible repeat (first | apply Kd.V_alloc | apply Kd.V_drewN | apply Kd.V_drew)); exact HO_585000.out) (Kd.R_base ho49) hb); have n1_ := Aside0.mk (Kd.V_elder' (by (with_reducible repeat (first | apply Kd.V_alloc | apply Kd.V_drewN | apply Kd.V_drew)); exact HO_585001.out) (Kd.R_base ho49) hb); have n2_ := Aside0.mk (Kd.R_lower (Kd.R_newM (M := fun k_ => (w.heap.size ≤ k_)) ho49 (below_size (zh HB.out)) (fun k_ h_ => h_)) (below_size (zh HB.out))); have n3_ := Aside0.mk (blk_below (g := gb583) (o := .cells #[.slice none 0 0, .slice none 0 0] 46 (0, 0)) (zb BK583.out) hb); have n4_ := Aside0.mk (blk_below (g := gb584) (o := .cells #[u585000, u585001] 46 (0, 0)) (zb BK584.out) hb); have n5_ := Aside0.mk (below_step (zh HB.out) hb); clear HO_585000; clear HO_585001; clear BK583; clear BK584; clear HB; have HO_585000 := n0_; have HO_585001 := n1_; have HO591 := n2_; have BK583 := n3_; have BK584 := n4_; have HB := n5_; clear n0_ n1_ n2_ n3_ n4_ n5_; clear hb ho49) | ((with_reducible refine gate_dst (N := 102) rfl ?_); refine Kd.R_lit (Kd.int .i64) _ 3 ?hg (N := 102) ?hd (xs := ([(Go.bits .xor .i64 (Go.bits .xor .i64 x18_1 (ji31)) (ji33)), (Go.bits .xor .i64 (Go.bits .xor .i64 x10_2 (ji31)) (ji33))] : List Int)) (inner := [.int .i64 (Go.bits .xor .i64 (Go.bits .xor .i64 x18_1 (ji31)) (ji33)), .int .i64 (Go.bits .xor .i64 (Go.bits .xor .i64 x10_2 (ji31)) (ji33))]) (ok := fun _ => True) (okp := fun _ => True) ?hr ?hp (fun _ hk => hk) trivial (Below.refl _ _) (Nat.le_refl _) (by simp) ?_; (case hd => rfl); (case hg => rfl); (case hr => first | (go_simp; done) | (go_simp; rfl)); (case hp => exact (Reps.one (show Kd.M (Kd.int .i64) _ _ _ (Go.bits .xor .i64 (Go.bits .xor .i64 x18_1 (ji31)) (ji33)) [.int .i64 (Go.bits .xor .i64 (Go.bits .xor .i64 x18_1 (ji31)) (ji33))] from rfl) (Reps.one (show Kd.M (Kd.int .i64) _ _ _ (Go.bits .xor .i64 (Go.bits .xor .i64 x10_2 (ji31)) (ji33)) [.int .i64 (Go.bits .xor .i64 (Go.bits .xor .i64 x10_2 (ji31)) (ji33))] from rfl) (Reps.none _ _)))); intro v593 w50 ho51 hb hg_ hnew_; clear hg_ hnew_; (first | rw [← Ny592.out] at ho51 | (simp only [Int.reduceToNat] at ho51; rw [← Ny592.out] at ho51)); have n0_ := Aside0.mk (Kd.V_elder' (by (with_reducible repeat (first | apply Kd.V_alloc | apply Kd.V_drewN | apply Kd.V_drew)); exact HO_585000.out) (Kd.R_base ho51) hb); have n1_ := Aside0.mk (Kd.V_elder' (by (with_reducible repeat (first | apply Kd.V_alloc | apply Kd.V_drewN | apply Kd.V_drew)); exact HO_585001.out) (Kd.R_base ho51) hb); have n2_ := Aside0.mk (Kd.R_elder' (zr HO591.out) (Kd.R_base ho51) hb); have n3_ := Aside0.mk (Kd.R_lower (Kd.R_new' (Kd.R_newM (M := fun k_ => (w.heap.size ≤ k_)) ho51 (below_size (zh HB.out)) (fun k_ h_ => h_)) (Kd.R_lt (zr HO591.out))) (below_size (zh HB.out))); have n4_ := Aside0.mk (blk_below (g := gb583) (o := .cells #[.slice none 0 0, .slice none 0 0] 46 (0, 0)) (zb BK583.out) hb); have n5_ := Aside0.mk (blk_below (g := gb584) (o := .cells #[u585000, u585001] 46 (0, 0)) (zb BK584.out) hb); have n6_ := Aside0.mk (below_step (zh HB.out) hb); clear HO_585000; clear HO_585001; clear HO591; clear BK583; clear BK584; clear HB; have HO_585000 := n0_; have HO_585001 := n1_; have HO591 := n2_; have HO594 := n3_; have BK583 := n4_; have BK584 := n5_; have HB := n6_; clear n0_ n1_ n2_ n3_ n4_ n5_ n6_; clear hb ho51; obtain ⟨Ao52, co52, eo52⟩ := Kd.R_slice HO591.out; subst eo52; obtain ⟨Ao53, co53, eo53⟩ := Kd.R_slice HO594.out; subst eo53) | (go_at_call 91; (with_reducible refine (spec_deTrade.calls kj35 _ _ y589 _ _ y592 t595 t598 _ ?side1 ?side2 ?side3 ?side4 A44.out).mono ?_); (case side1 => repeat (first | exact (Kd.R_reads' HO591.out).2.2 | (with_reducible refine Kd.C_alloc ?_ _) | (with_reducible refine Kd.C_drewN ?_ _) | (with_reducible refine Kd.C_drew ?_))); (case side2 => exact (Kd.R_reads' HO591.out).2.1); (case side3 => repeat (first | exact (Kd.R_reads' HO594.out).2.2 | (with_reducible refine Kd.C_alloc ?_ _) | (with_reducible refine Kd.C_drewN ?_ _) | (with_reducible refine Kd.C_drew ?_))); (case side4 => exact (Kd.R_reads' HO594.out).2.1); rintro e w54 ⟨v596, v599, rfl, ho0, ho1, hb⟩; have n0_ := Aside0.mk (Kd.V_below (by (with_reducible repeat (first | apply Kd.V_alloc | apply Kd.V_drewN | apply Kd.V_drew)); exact HO_585000.out) hb); have n1_ := Aside0.mk (Kd.V_below (by (with_reducible repeat (first | apply Kd.V_alloc | apply Kd.V_drewN | apply Kd.V_drew)); exact HO_585001.out) hb); have n2_ := Aside0.mk (Kd.R_below (zr HO591.out) hb); have n3_ := Aside0.mk (Kd.R_below (zr HO594.out) hb); have n4_ := Aside0.mk (Kd.V_lower (Kd.V_mono (ok' := fun k_ => (w.heap.size ≤ k_) ∧ some k_ ≠ (.slice Ao52 y589.length co52 : Value).ownBlock ∧ some k_ ≠ (.slice Ao53 y592.length co53 : Value).ownBlock ∧ k_ ≠ gb583 ∧ k_ ≠ gb584) ho0 (fun k_ hk_ => ⟨(Nat.le_trans (below_size (zh HB.out)) hk_), (Kd.fresh' (Kd.R_lt (zr HO591.out)) k_ hk_), (Kd.fresh' (Kd.R_lt (zr HO594.out)) k_ hk_), (Kd.freshB (g := gb583) (o := .cells #[.slice none 0 0, .slice none 0 0] 46 (0, 0)) (zb BK583.out) k_ hk_), (Kd.freshB (g := gb584) (o := .cells #[u585000, u585001] 46 (0, 0)) (zb BK584.out) k_ hk_)⟩)) (below_size (zh HB.out))); have n5_ := Aside0.mk (Kd.V_lower (Kd.V_mono (ok' := fun k_ => (w.heap.size ≤ k_) ∧ some k_ ≠ (.slice Ao52 y589.length co52 : Value).ownBlock ∧ some k_ ≠ (.slice Ao53 y592.length co53 : Value).ownBlock ∧ k_ ≠ gb583 ∧ k_ ≠ gb584) ho1 (fun k_ hk_ => ⟨(Nat.le_trans (below_size (zh HB.out)) hk_), (Kd.fresh' (Kd.R_lt (zr HO591.out)) k_ hk_), (Kd.fresh' (Kd.R_lt (zr HO594.out)) k_ hk_), (Kd.freshB (g := gb583) (o := .cells #[.slice none 0 0, .slice none 0 0] 46 (0, 0)) (zb BK583.out) k_ hk_), (Kd.freshB (g := gb584) (o := .cells #[u585000, u585001] 46 (0, 0)) (zb BK584.out) k_ hk_)⟩)) (below_size (zh HB.out))); have n6_ := Aside0.mk (blk_below (g := gb583) (o := .cells #[.slice none 0 0, .slice none 0 0] 46 (0, 0)) (zb BK583.out) hb); have n7_ := Aside0.mk (blk_below (g := gb584) (o := .cells #[u585000, u585001] 46 (0, 0)) (zb BK584.out) hb); have n8_ := Aside0.mk (below_step (zh HB.out) hb); clear HO_585000; clear HO_585001; clear HO591; clear HO594; clear BK583; clear BK584; clear HB; have HO_585000 := n0_; have HO_585001 := n1_; have HO591 := n2_; have HO594 := n3_; have HO597 := n4_; have HO600 := n5_; have BK583 := n6_; have BK584 := n7_; have HB := n8_; clear n0_ n1_ n2_ n3_ n4_ n5_ n6_ n7_ n8_; (try clear hb); (try clear hb2); (try clear hk); (try clear hi); (try clear ho0); (try clear ho1)) | ((with_reducible refine gate_dst (N := 15) rfl ?_); refine box_event ?hg (N := 15) ?hd (cs := #[.slice none 0 0, .slice none 0 0]) (t := 46) ?hr ?_; (case hd => rfl); (case hg => rfl); (case hr => first | (go_simp; done) | (go_simp; rfl)); intro gb601 hg w55 hbox hb; have n0_ := Aside0.mk (Kd.V_below (Kd.V_elderB (by (with_reducible repeat (first | apply Kd.V_alloc | apply Kd.V_drewN | apply Kd.V_drew)); exact HO_585000.out) gb601 (Nat.le_of_eq hg.symm)) hb); have n1_ := Aside0.mk (Kd.V_below (Kd.V_elderB (by (with_reducible repeat (first | apply Kd.V_alloc | apply Kd.V_drewN | apply Kd.V_drew)); exact HO_585001.out) gb601 (Nat.le_of_eq hg.symm)) hb); have n2_ := Aside0.mk (Kd.R_below (zr HO591.out) hb); have n3_ := Aside0.mk (Kd.R_below (zr HO594.out) hb); have n4_ := Aside0.mk (Kd.V_below (Kd.V_elderB (by (with_reducible repeat (first | apply Kd.V_alloc | apply Kd.V_drewN | apply Kd.V_drew)); exact HO597.out) gb601 (Nat.le_of_eq hg.symm)) hb); have n5_ := Aside0.mk (Kd.V_below (Kd.V_elderB (by (with_reducible repeat (first | apply Kd.V_alloc | apply Kd.V_drewN | apply Kd.V_drew)); exact HO600.out) gb601 (Nat.le_of_eq hg.symm)) hb); have n6_ := Aside0.mk (blk_below (g := gb583) (o := .cells #[.slice none 0 0, .slice none 0 0] 46 (0, 0)) (zb BK583.out) hb); have n7_ := Aside0.mk (blk_below (g := gb584) (o := .cells #[u585000, u585001] 46 (0, 0)) (zb BK584.out) hb); have n8_ := Aside0.mk (below_step (zh HB.out) hb); have n9_ := Aside0.mk (hbox); have n10_ := Aside0.mk ((by rw [hg]; exact (below_size (zh HB.out)) : w.heap.size ≤ gb601)); have n11_ := Aside0.mk ((by rw [hg]; exact (below_size (zh HB.out)) : w.heap.size ≤ gb601)); have n12_ := Aside0.mk ((by rw [hg]; exact Nat.ne_of_lt (blk_lt (g := gb583) (o := .cells #[.slice none 0 0, .slice none 0 0] 46 (0, 0)) (zb BK583.out)) : gb583 ≠ gb601)); have n13_ := Aside0.mk ((by rw [hg]; exact Nat.ne_of_gt (blk_lt (g := gb583) (o := .cells #[.slice none 0 0, .slice none 0 0] 46 (0, 0)) (zb BK583.out)) : gb601 ≠ gb583)); have n14_ := Aside0.mk ((by rw [hg]; exact Nat.ne_of_lt (blk_lt (g := gb584) (o := .cells #[u585000, u585001] 46 (0, 0)) (zb BK584.out)) : gb584 ≠ gb601)); have n15_ := Aside0.mk ((by rw [hg]; exact Nat.ne_of_gt (blk_lt (g := gb584) (o := .cells #[u585000, u585001] 46 (0, 0)) (zb BK584.out)) : gb601 ≠ gb584)); clear HO_585000; clear HO_585001; clear HO591; clear HO594; clear HO597; clear HO600; clear BK583; clear BK584; clear HB; have HO_585000 := n0_; have HO_585001 := n1_; have HO591 := n2_; have HO594 := n3_; have HO597 := n4_; have HO600 := n5_; have BK583 := n6_; have BK584 := n7_; have HB := n8_; have BK601 := n9_; have GW601 := n10_; have GE601 := n11_; have NB583_601 := n12_; have NB601_583 := n13_; have NB584_601 := n14_; have NB601_584 := n15_; clear n0_ n1_ n2_ n3_ n4_ n5_ n6_ n7_ n8_ n9_ n10_ n11_ n12_ n13_ n14_ n15_; clear hb hbox hg; obtain ⟨Ao56, co56, eo56⟩ := Kd.V_slice HO597.out; subst eo56; have hnb57 := NB601_583.out; have hnc57 := NB583_601.out; have hnb58 := NB601_584.out; have hnc58 := NB584_601.out; have hcz59_0 : w55.cell? ⟨gb601, 0, none⟩ = some (.slice none 0 0) := (blk_cell BK601.out 0).trans rfl; have hcz59_1 : w55.cell? ⟨gb601, 1, none⟩ = some (.slice none 0 0) := (blk_cell BK601.out 1).trans rfl; have hfz59_0 := blk_frozen BK601.out 0; have hfz59_1 := blk_frozen BK601.out 1; obtain ⟨Ao60, co60, eo60⟩ := Kd.V_slice HO600.out; subst eo60; have hnb61 := NB584_583.out; have hnc61 := NB583_584.out; have hcz62_0 : w55.cell? ⟨gb584, 0, none⟩ = some (u585000) := (blk_cell BK584.out 0).trans rfl; have hcz62_1 : w55.cell? ⟨gb584, 1, none⟩ = some (u585001) := (blk_cell BK584.out 1).trans rfl; have hfz62_0 := blk_frozen BK584.out 0; have hfz62_1 := blk_frozen BK584.out 1; obtain ⟨Ao63, co63, eo63⟩ := Kd.V_slice HO_585000.out; subst eo63; obtain ⟨Ao64, co64, eo64⟩ := Kd.V_slice HO_585001.out; subst eo64) | (go_at_call 92; (with_reducible refine (spec_deTradeBefore.calls kj35 _ _ t595 _ _ t598 _ _ x585000_5 _ _ x585001_5 true _ ?side1 ?side2 ?side3 ?side4 ?side5 ?side6 ?side7 ?side8 A46.out).mono ?_); (case side1 => refine (Kd.V_reads' (e := 71) (base := w.heap.size) (ok := fun k_ => (((w.heap.size ≤ k_) ∧ (some k_ ≠ (.slice Ao52 y589.length co52 : Value).ownBlock ∧ (some k_ ≠ (.slice Ao53 y592.length co53 : Value).ownBlock ∧ (k_ ≠ gb583 ∧ k_ ≠ gb584)))) ∧ k_ ≠ gb601)) (n := t595.length) (c := co56) ?_).2.2; exact (by (with_reducible repeat (first | apply Kd.V_alloc | apply Kd.V_drewN | apply Kd.V_drew)); exact (Kd.V_mono (Kd.V_far (p := ⟨gb601, 1, none⟩) (Kd.V_far (p := ⟨gb601, 0, none⟩) (Kd.V_mono HO597.out (fun k_ hk => (⟨hk, hk.2⟩ : _ ∧ k_ ≠ gb601))) (fun _ hk => hk.2) (.slice Ao56 t595.length co56)) (fun _ hk => hk.2) (.slice Ao60 t598.length co60)) (fun _ h_ => h_.1)))); (case side2 => exact (Kd.V_reads' HO597.out).2.1); (case side3 => refine (Kd.V_reads' (e := 71) (base := w.heap.size) (ok := fun k_ => (((w.heap.size ≤ k_) ∧ (some k_ ≠ (.slice Ao52 y589.length co52 : Value).ownBlock ∧ (some k_ ≠ (.slice Ao53 y592.length co53 : Value).ownBlock ∧ (k_ ≠ gb583 ∧ k_ ≠ gb584)))) ∧ k_ ≠ gb601)) (n := t598.length) (c := co60) ?_).2.2; exact (by (with_reducible repeat (first | apply Kd.V_alloc | apply Kd.V_drewN | apply Kd.V_drew)); exact (Kd.V_mono (Kd.V_far (p := ⟨gb601, 1, none⟩) (Kd.V_far (p := ⟨gb601, 0, none⟩) (Kd.V_mono HO600.out (fun k_ hk => (⟨hk, hk.2⟩ : _ ∧ k_ ≠ gb601))) (fun _ hk => hk.2) (.slice Ao56 t595.length co56)) (fun _ hk => hk.2) (.slice Ao60 t598.length co60)) (fun _ h_ => h_.1)))); (case side4 => exact (Kd.V_reads' HO600.out).2.1); (case side5 => refine (Kd.V_reads' (e := 71) (base := w.heap.size) (ok := fun k_ => (((((w.heap.size ≤ k_) ∧ (k_ ≠ gb583 ∧ k_ ≠ gb584)) ∧ some k_ ≠ (.slice Ao52 y589.length co52 : Value).ownBlock) ∧ some k_ ≠ (.slice Ao53 y592.length co53 : Value).ownBlock) ∧ k_ ≠ gb601)) (n := x585000_5.length) (c := co63) ?_).2.2; exact (by (with_reducible repeat (first | apply Kd.V_alloc | apply Kd.V_drewN | apply Kd.V_drew)); exact (Kd.V_mono (Kd.V_far (p := ⟨gb601, 1, none⟩) (Kd.V_far (p := ⟨gb601, 0, none⟩) (Kd.V_mono HO_585000.out (fun k_ hk => (⟨hk, hk.2⟩ : _ ∧ k_ ≠ gb601))) (fun _ hk => hk.2) (.slice Ao56 t595.length co56)) (fun _ hk => hk.2) (.slice Ao60 t598.length co60)) (fun _ h_ => h_.1)))); (case side6 => exact (Kd.V_reads' HO_585000.out).2.1); (case side7 => refine (Kd.V_reads' (e := 71) (base := w.heap.size) (ok := fun k_ => (((((w.heap.size ≤ k_) ∧ (k_ ≠ gb583 ∧ k_ ≠ gb584)) ∧ some k_ ≠ (.slice Ao52 y589.length co52 : Value).ownBlock) ∧ some k_ ≠ (.slice Ao53 y592.length co53 : Value).ownBlock) ∧ k_ ≠ gb601)) (n := x585001_5.length) (c := co64) ?_).2.2; exact (by (with_reducible repeat (first | apply Kd.V_alloc | apply Kd.V_drewN | apply Kd.V_drew)); exact (Kd.V_mono (Kd.V_far (p := ⟨gb601, 1, none⟩) (Kd.V_far (p := ⟨gb601, 0, none⟩) (Kd.V_mono HO_585001.out (fun k_ hk => (⟨hk, hk.2⟩ : _ ∧ k_ ≠ gb601))) (fun _ hk => hk.2) (.slice Ao56 t595.length co56)) (fun _ hk => hk.2) (.slice Ao60 t598.length co60)) (fun _ h_ => h_.1)))); (case side8 => exact (Kd.V_reads' HO_585001.out).2.1); rintro e w65 ⟨rfl, hb⟩; have n0_ := Aside0.mk (Kd.V_below (by (with_reducible repeat (first | apply Kd.V_alloc | apply Kd.V_drewN | apply Kd.V_drew)); exact (Kd.V_mono (Kd.V_far (p := ⟨gb601, 1, none⟩) (Kd.V_far (p := ⟨gb601, 0, none⟩) (Kd.V_mono HO_585000.out (fun k_ hk => (⟨hk, hk.2⟩ : _ ∧ k_ ≠ gb601))) (fun _ hk => hk.2) (.slice Ao56 t595.length co56)) (fun _ hk => hk.2) (.slice Ao60 t598.length co60)) (fun _ h_ => h_.1))) hb); have n1_ := Aside0.mk (Kd.V_below (by (with_reducible repeat (first | apply Kd.V_alloc | apply Kd.V_drewN | apply Kd.V_drew)); exact (Kd.V_mono (Kd.V_far (p := ⟨gb601, 1, none⟩) (Kd.V_far (p := ⟨gb601, 0, none⟩) (Kd.V_mono HO_585001.out (fun k_ hk => (⟨hk, hk.2⟩ : _ ∧ k_ ≠ gb601))) (fun _ hk => hk.2) (.slice Ao56 t595.length co56)) (fun _ hk => hk.2) (.slice Ao60 t598.length co60)) (fun _ h_ => h_.1))) hb); have n2_ := Aside0.mk (Kd.R_below (by (with_reducible repeat (first | apply Kd.R_alloc | apply Kd.R_drewN | apply Kd.R_drew)); exact (Kd.R_mono (Kd.R_far (p := ⟨gb601, 1, none⟩) (Kd.R_far (p := ⟨gb601, 0, none⟩) (Kd.R_types HO591.out BK601.out (by decide)) (fun _ hk => hk.2) (.slice Ao56 t595.length co56)) (fun _ hk => hk.2) (.slice Ao60 t598.length co60)) (fun _ h_ => h_.1))) hb); have n3_ := Aside0.mk (Kd.R_below (by (with_reducible repeat (first | apply Kd.R_alloc | apply Kd.R_drewN | apply Kd.R_drew)); exact (Kd.R_mono (Kd.R_far (p := ⟨gb601, 1, none⟩) (Kd.R_far (p := ⟨gb601, 0, none⟩) (Kd.R_types HO594.out BK601.out (by decide)) (fun _ hk => hk.2) (.slice Ao56 t595.length co56)) (fun _ hk => hk.2) (.slice Ao60 t598.length co60)) (fun _ h_ => h_.1))) hb); have n4_ := Aside0.mk (Kd.V_below (by (with_reducible repeat (first | apply Kd.V_alloc | apply Kd.V_drewN | apply Kd.V_drew)); exact (Kd.V_mono (Kd.V_far (p := ⟨gb601, 1, none⟩) (Kd.V_far (p := ⟨gb601, 0, none⟩) (Kd.V_mono HO597.out (fun k_ hk => (⟨hk, hk.2⟩ : _ ∧ k_ ≠ gb601))) (fun _ hk => hk.2) (.slice Ao56 t595.length co56)) (fun _ hk => hk.2) (.slice Ao60 t598.length co60)) (fun _ h_ => h_.1))) hb); have n5_ := Aside0.mk (Kd.V_below (by (with_reducible repeat (first | apply Kd.V_alloc | apply Kd.V_drewN | apply Kd.V_drew)); exact (Kd.V_mono (Kd.V_far (p := ⟨gb601, 1, none⟩) (Kd.V_far (p := ⟨gb601, 0, none⟩) (Kd.V_mono HO600.out (fun k_ hk => (⟨hk, hk.2⟩ : _ ∧ k_ ≠ gb601))) (fun _ hk => hk.2) (.slice Ao56 t595.length co56)) (fun _ hk => hk.2) (.slice Ao60 t598.length co60)) (fun _ h_ => h_.1))) hb); have n6_ := Aside0.mk (blk_below (g := gb583) (o := .cells #[.slice none 0 0, .slice none 0 0] 46 (0, 0)) (by (with_reducible repeat (first | refine blk_drewN ?_ _ | refine blk_drew ?_ | refine blk_alloc ?_ _)); refine blk_far ?_ NB583_601.out _; (with_reducible repeat (first | refine blk_drewN ?_ _ | refine blk_drew ?_ | refine blk_alloc ?_ _)); refine blk_far ?_ NB583_601.out _; (with_reducible repeat (first | refine blk_drewN ?_ _ | refine blk_drew ?_ | refine blk_alloc ?_ _)); exact BK583.out) hb); have n7_ := Aside0.mk (blk_below (g := gb584) (o := .cells #[.slice Ao63 x585000_5.length co63, .slice Ao64 x585001_5.length co64] 46 (0, 0)) (by (with_reducible repeat (first | refine blk_drewN ?_ _ | refine blk_drew ?_ | refine blk_alloc ?_ _)); refine blk_far ?_ NB584_601.out _; (with_reducible repeat (first | refine blk_drewN ?_ _ | refine blk_drew ?_ | refine blk_alloc ?_ _)); refine blk_far ?_ NB584_601.out _; (with_reducible repeat (first | refine blk_drewN ?_ _ | refine blk_drew ?_ | refine blk_alloc ?_ _)); exact BK584.out) hb); have n8_ := Aside0.mk (blk_below (g := gb601) (o := .cells #[.slice Ao56 t595.length co56, .slice Ao60 t598.length co60] 46 (0, 0)) (by (with_reducible repeat (first | refine blk_drewN ?_ _ | refine blk_drew ?_ | refine blk_alloc ?_ _)); refine blk_put (cs := #[.slice Ao56 t595.length co56, .slice none 0 0]) ?_ 1 _ rfl; (with_reducible repeat (first | refine blk_drewN ?_ _ | refine blk_drew ?_ | refine blk_alloc ?_ _)); refine blk_put (cs := #[.slice none 0 0, .slice none 0 0]) ?_ 0 _ rfl; (with_reducible repeat (first | refine blk_drewN ?_ _ | refine blk_drew ?_ | refine blk_alloc ?_ _)); exact BK601.out) hb); have n9_ := Aside0.mk (below_step (zh HB.out) hb); clear HO_585000; clear HO_585001; clear HO591; clear HO594; clear HO597; clear HO600; clear BK583; clear BK584; clear BK601; clear HB; have HO_585000 := n0_; have HO_585001 := n1_; have HO591 := n2_; have HO594 := n3_; have HO597 := n4_; have HO600 := n5_; have BK583 := n6_; have BK584 := n7_; have BK601 := n8_; have HB := n9_; clear n0_ n1_ n2_ n3_ n4_ n5_ n6_ n7_ n8_ n9_; (try clear hb); (try clear hb2); (try clear hk); (try clear hi); have hcz66_0 : w65.cell? ⟨gb601, 0, none⟩ = some (.slice Ao56 t595.length co56) := (blk_cell BK601.out 0).trans rfl; have hcz66_1 : w65.cell? ⟨gb601, 1, none⟩ = some (.slice Ao60 t598.length co60) := (blk_cell BK601.out 1).trans rfl; have hfz66_0 := blk_frozen BK601.out 0; have hfz66_1 := blk_frozen BK601.out 1; have hcz67_0 : w65.cell? ⟨gb584, 0, none⟩ = some (.slice Ao63 x585000_5.length co63) := (blk_cell BK584.out 0).trans rfl; have hcz67_1 : w65.cell? ⟨gb584, 1, none⟩ = some (.slice Ao64 x585001_5.length co64) := (blk_cell BK584.out 1).trans rfl; have hfz67_0 := blk_frozen BK584.out 0; have hfz67_1 := blk_frozen BK584.out 1))
               repeat (go_quiet (first | ((with_reducible refine gate_dst (N := 99) rfl ?_); refine Kd.R_lit (Kd.int .i64) _ 3 ?hg (N := 99) ?hd (xs := ([x18_1, x10_2] : List Int)) (inner := [.int .i64 x18_1, .int .i64 x10_2]) (ok := fun _ => True) (okp := fun _ => True) ?hr ?hp (fun _ hk => hk) trivial (Below.refl _ _) (Nat.le_refl _) (by simp) ?_; (case hd => rfl); (case hg => rfl); (case hr => first | (go_simp; done) | (go_simp; rfl)); (case hp => exact (Reps.one (show Kd.M (Kd.int .i64) _ _ _ x18_1 [.int .i64 x18_1] from rfl) (Reps.one (show Kd.M (Kd.int .i64) _ _ _ x10_2 [.int .i64 x10_2] from rfl) (Reps.none _ _)))); intro v590 w48 ho49 hb hg_ hnew_; clear hg_ hnew_; (first | rw [← Ny589.out] at ho49 | (simp only [Int.reduceToNat] at ho49; rw [← Ny589.out] at ho49)); have n0_ := Aside0.mk (Kd.V_elder' (by (with_reducible repeat (first | apply Kd.V_alloc | apply Kd.V_drewN | apply Kd.V_drew)); exact HO_585000.out) (Kd.R_base ho49) hb); have n1_ := Aside0.mk (Kd.V_elder' (by (with_reducible repeat (first | apply Kd.V_alloc | apply Kd.V_drewN | apply Kd.V_drew)); exact HO_585001.out) (Kd.R_base ho49) hb); have n2_ := Aside0.mk (Kd.R_lower (Kd.R_newM (M := fun k_ => (w.heap.size ≤ k_)) ho49 (below_size (zh HB.out)) (fun k_ h_ => h_)) (below_size (zh HB.out))); have n3_ := Aside0.mk (blk_below (g := gb583) (o := .cells #[.slice none 0 0, .slice none 0 0] 46 (0, 0)) (zb BK583.out) hb); have n4_ := Aside0.mk (blk_below (g := gb584) (o := .cells #[u585000, u585001] 46 (0, 0)) (zb BK584.out) hb); have n5_ := Aside0.mk (below_step (zh HB.out) hb); clear HO_585000; clear HO_585001; clear BK583; clear BK584; clear HB; have HO_585000 := n0_; have HO_585001 := n1_; have HO591 := n2_; have BK583 := n3_; have BK584 := n4_; have HB := n5_; clear n0_ n1_ n2_ n3_ n4_ n5_; clear hb ho49) | ((with_reducible refine gate_dst (N := 102) rfl ?_); refine Kd.R_lit (Kd.int .i64) _ 3 ?hg (N := 102) ?hd (xs := ([(Go.bits .xor .i64 (Go.bits .xor .i64 x18_1 (ji31)) (ji33)), (Go.bits .xor .i64 (Go.bits .xor .i64 x10_2 (ji31)) (ji33))] : List Int)) (inner := [.int .i64 (Go.bits .xor .i64 (Go.bits .xor .i64 x18_1 (ji31)) (ji33)), .int .i64 (Go.bits .xor .i64 (Go.bits .xor .i64 x10_2 (ji31)) (ji33))]) (ok := fun _ => True) (okp := fun _ => True) ?hr ?hp (fun _ hk => hk) trivial (Below.refl _ _) (Nat.le_refl _) (by simp) ?_; (case hd => rfl); (case hg => rfl); (case hr => first | (go_simp; done) | (go_simp; rfl)); (case hp => exact (Reps.one (show Kd.M (Kd.int .i64) _ _ _ (Go.bits .xor .i64 (Go.bits .xor .i64 x18_1 (ji31)) (ji33)) [.int .i64 (Go.bits .xor .i64 (Go.bits .xor .i64 x18_1 (ji31)) (ji33))] from rfl) (Reps.one (show Kd.M (Kd.int .i64) _ _ _ (Go.bits .xor .i64 (Go.bits .xor .i64 x10_2 (ji31)) (ji33)) [.int .i64 (Go.bits .xor .i64 (Go.bits .xor .i64 x10_2 (ji31)) (ji33))] from rfl) (Reps.none _ _)))); intro v593 w50 ho51 hb hg_ hnew_; clear hg_ hnew_; (first | rw [← Ny592.out] at ho51 | (simp only [Int.reduceToNat] at ho51; rw [← Ny592.out] at ho51)); have n0_ := Aside0.mk (Kd.V_elder' (by (with_reducible repeat (first | apply Kd.V_alloc | apply Kd.V_drewN | apply Kd.V_drew)); exact HO_585000.out) (Kd.R_base ho51) hb); have n1_ := Aside0.mk (Kd.V_elder' (by (with_reducible repeat (first | apply Kd.V_alloc | apply Kd.V_drewN | apply Kd.V_drew)); exact HO_585001.out) (Kd.R_base ho51) hb); have n2_ := Aside0.mk (Kd.R_elder' (zr HO591.out) (Kd.R_base ho51) hb); have n3_ := Aside0.mk (Kd.R_lower (Kd.R_new' (Kd.R_newM (M := fun k_ => (w.heap.size ≤ k_)) ho51 (below_size (zh HB.out)) (fun k_ h_ => h_)) (Kd.R_lt (zr HO591.out))) (below_size (zh HB.out))); have n4_ := Aside0.mk (blk_below (g := gb583) (o := .cells #[.slice none 0 0, .slice none 0 0] 46 (0, 0)) (zb BK583.out) hb); have n5_ := Aside0.mk (blk_below (g := gb584) (o := .cells #[u585000, u585001] 46 (0, 0)) (zb BK584.out) hb); have n6_ := Aside0.mk (below_step (zh HB.out) hb); clear HO_585000; clear HO_585001; clear HO591; clear BK583; clear BK584; clear HB; have HO_585000 := n0_; have HO_585001 := n1_; have HO591 := n2_; have HO594 := n3_; have BK583 := n4_; have BK584 := n5_; have HB := n6_; clear n0_ n1_ n2_ n3_ n4_ n5_ n6_; clear hb ho51; obtain ⟨Ao52, co52, eo52⟩ := Kd.R_slice HO591.out; subst eo52; obtain ⟨Ao53, co53, eo53⟩ := Kd.R_slice HO594.out; subst eo53) | (go_at_call 91; (with_reducible refine (spec_deTrade.calls kj35 _ _ y589 _ _ y592 t595 t598 _ ?side1 ?side2 ?side3 ?side4 A44.out).mono ?_); (case side1 => repeat (first | exact (Kd.R_reads' HO591.out).2.2 | (with_reducible refine Kd.C_alloc ?_ _) | (with_reducible refine Kd.C_drewN ?_ _) | (with_reducible refine Kd.C_drew ?_))); (case side2 => exact (Kd.R_reads' HO591.out).2.1); (case side3 => repeat (first | exact (Kd.R_reads' HO594.out).2.2 | (with_reducible refine Kd.C_alloc ?_ _) | (with_reducible refine Kd.C_drewN ?_ _) | (with_reducible refine Kd.C_drew ?_))); (case side4 => exact (Kd.R_reads' HO594.out).2.1); rintro e w54 ⟨v596, v599, rfl, ho0, ho1, hb⟩; have n0_ := Aside0.mk (Kd.V_below (by (with_reducible repeat (first | apply Kd.V_alloc | apply Kd.V_drewN | apply Kd.V_drew)); exact HO_585000.out) hb); have n1_ := Aside0.mk (Kd.V_below (by (with_reducible repeat (first | apply Kd.V_alloc | apply Kd.V_drewN | apply Kd.V_drew)); exact HO_585001.out) hb); have n2_ := Aside0.mk (Kd.R_below (zr HO591.out) hb); have n3_ := Aside0.mk (Kd.R_below (zr HO594.out) hb); have n4_ := Aside0.mk (Kd.V_lower (Kd.V_mono (ok' := fun k_ => (w.heap.size ≤ k_) ∧ some k_ ≠ (.slice Ao52 y589.length co52 : Value).ownBlock ∧ some k_ ≠ (.slice Ao53 y592.length co53 : Value).ownBlock ∧ k_ ≠ gb583 ∧ k_ ≠ gb584) ho0 (fun k_ hk_ => ⟨(Nat.le_trans (below_size (zh HB.out)) hk_), (Kd.fresh' (Kd.R_lt (zr HO591.out)) k_ hk_), (Kd.fresh' (Kd.R_lt (zr HO594.out)) k_ hk_), (Kd.freshB (g := gb583) (o := .cells #[.slice none 0 0, .slice none 0 0] 46 (0, 0)) (zb BK583.out) k_ hk_), (Kd.freshB (g := gb584) (o := .cells #[u585000, u585001] 46 (0, 0)) (zb BK584.out) k_ hk_)⟩)) (below_size (zh HB.out))); have n5_ := Aside0.mk (Kd.V_lower (Kd.V_mono (ok' := fun k_ => (w.heap.size ≤ k_) ∧ some k_ ≠ (.slice Ao52 y589.length co52 : Value).ownBlock ∧ some k_ ≠ (.slice Ao53 y592.length co53 : Value).ownBlock ∧ k_ ≠ gb583 ∧ k_ ≠ gb584) ho1 (fun k_ hk_ => ⟨(Nat.le_trans (below_size (zh HB.out)) hk_), (Kd.fresh' (Kd.R_lt (zr HO591.out)) k_ hk_), (Kd.fresh' (Kd.R_lt (zr HO594.out)) k_ hk_), (Kd.freshB (g := gb583) (o := .cells #[.slice none 0 0, .slice none 0 0] 46 (0, 0)) (zb BK583.out) k_ hk_), (Kd.freshB (g := gb584) (o := .cells #[u585000, u585001] 46 (0, 0)) (zb BK584.out) k_ hk_)⟩)) (below_size (zh HB.out))); have n6_ := Aside0.mk (blk_below (g := gb583) (o := .cells #[.slice none 0 0, .slice none 0 0] 46 (0, 0)) (zb BK583.out) hb); have n7_ := Aside0.mk (blk_below (g := gb584) (o := .cells #[u585000, u585001] 46 (0, 0)) (zb BK584.out) hb); have n8_ := Aside0.mk (below_step (zh HB.out) hb); clear HO_585000; clear HO_585001; clear HO591; clear HO594; clear BK583; clear BK584; clear HB; have HO_585000 := n0_; have HO_585001 := n1_; have HO591 := n2_; have HO594 := n3_; have HO597 := n4_; have HO600 := n5_; have BK583 := n6_; have BK584 := n7_; have HB := n8_; clear n0_ n1_ n2_ n3_ n4_ n5_ n6_ n7_ n8_; (try clear hb); (try clear hb2); (try clear hk); (try clear hi); (try clear ho0); (try clear ho1)) | (go_at_call 92; (with_reducible refine (spec_deTradeBefore.calls kj35 _ _ t595 _ _ t598 _ _ x585000_5 _ _ x585001_5 true _ ?side1 ?side2 ?side3 ?side4 ?side5 ?side6 ?side7 ?side8 A46.out).mono ?_); (case side1 => refine (Kd.V_reads' (e := 71) (base := w.heap.size) (ok := fun k_ => (((w.heap.size ≤ k_) ∧ (some k_ ≠ (.slice Ao52 y589.length co52 : Value).ownBlock ∧ (some k_ ≠ (.slice Ao53 y592.length co53 : Value).ownBlock ∧ (k_ ≠ gb583 ∧ k_ ≠ gb584)))) ∧ k_ ≠ gb601)) (n := t595.length) (c := co56) ?_).2.2; exact (by (with_reducible repeat (first | apply Kd.V_alloc | apply Kd.V_drewN | apply Kd.V_drew)); exact (Kd.V_mono (Kd.V_far (p := ⟨gb601, 1, none⟩) (Kd.V_far (p := ⟨gb601, 0, none⟩) (Kd.V_mono HO597.out (fun k_ hk => (⟨hk, hk.2⟩ : _ ∧ k_ ≠ gb601))) (fun _ hk => hk.2) (.slice Ao56 t595.length co56)) (fun _ hk => hk.2) (.slice Ao60 t598.length co60)) (fun _ h_ => h_.1)))); (case side2 => exact (Kd.V_reads' HO597.out).2.1); (case side3 => refine (Kd.V_reads' (e := 71) (base := w.heap.size) (ok := fun k_ => (((w.heap.size ≤ k_) ∧ (some k_ ≠ (.slice Ao52 y589.length co52 : Value).ownBlock ∧ (some k_ ≠ (.slice Ao53 y592.length co53 : Value).ownBlock ∧ (k_ ≠ gb583 ∧ k_ ≠ gb584)))) ∧ k_ ≠ gb601)) (n := t598.length) (c := co60) ?_).2.2; exact (by (with_reducible repeat (first | apply Kd.V_alloc | apply Kd.V_drewN | apply Kd.V_drew)); exact (Kd.V_mono (Kd.V_far (p := ⟨gb601, 1, none⟩) (Kd.V_far (p := ⟨gb601, 0, none⟩) (Kd.V_mono HO600.out (fun k_ hk => (⟨hk, hk.2⟩ : _ ∧ k_ ≠ gb601))) (fun _ hk => hk.2) (.slice Ao56 t595.length co56)) (fun _ hk => hk.2) (.slice Ao60 t598.length co60)) (fun _ h_ => h_.1)))); (case side4 => exact (Kd.V_reads' HO600.out).2.1); (case side5 => refine (Kd.V_reads' (e := 71) (base := w.heap.size) (ok := fun k_ => (((((w.heap.size ≤ k_) ∧ (k_ ≠ gb583 ∧ k_ ≠ gb584)) ∧ some k_ ≠ (.slice Ao52 y589.length co52 : Value).ownBlock) ∧ some k_ ≠ (.slice Ao53 y592.length co53 : Value).ownBlock) ∧ k_ ≠ gb601)) (n := x585000_5.length) (c := co63) ?_).2.2; exact (by (with_reducible repeat (first | apply Kd.V_alloc | apply Kd.V_drewN | apply Kd.V_drew)); exact (Kd.V_mono (Kd.V_far (p := ⟨gb601, 1, none⟩) (Kd.V_far (p := ⟨gb601, 0, none⟩) (Kd.V_mono HO_585000.out (fun k_ hk => (⟨hk, hk.2⟩ : _ ∧ k_ ≠ gb601))) (fun _ hk => hk.2) (.slice Ao56 t595.length co56)) (fun _ hk => hk.2) (.slice Ao60 t598.length co60)) (fun _ h_ => h_.1)))); (case side6 => exact (Kd.V_reads' HO_585000.out).2.1); (case side7 => refine (Kd.V_reads' (e := 71) (base := w.heap.size) (ok := fun k_ => (((((w.heap.size ≤ k_) ∧ (k_ ≠ gb583 ∧ k_ ≠ gb584)) ∧ some k_ ≠ (.slice Ao52 y589.length co52 : Value).ownBlock) ∧ some k_ ≠ (.slice Ao53 y592.length co53 : Value).ownBlock) ∧ k_ ≠ gb601)) (n := x585001_5.length) (c := co64) ?_).2.2; exact (by (with_reducible repeat (first | apply Kd.V_alloc | apply Kd.V_drewN | apply Kd.V_drew)); exact (Kd.V_mono (Kd.V_far (p := ⟨gb601, 1, none⟩) (Kd.V_far (p := ⟨gb601, 0, none⟩) (Kd.V_mono HO_585001.out (fun k_ hk => (⟨hk, hk.2⟩ : _ ∧ k_ ≠ gb601))) (fun _ hk => hk.2) (.slice Ao56 t595.length co56)) (fun _ hk => hk.2) (.slice Ao60 t598.length co60)) (fun _ h_ => h_.1)))); (case side8 => exact (Kd.V_reads' HO_585001.out).2.1); rintro e w65 ⟨rfl, hb⟩; have n0_ := Aside0.mk (Kd.V_below (by (with_reducible repeat (first | apply Kd.V_alloc | apply Kd.V_drewN | apply Kd.V_drew)); exact (Kd.V_mono (Kd.V_far (p := ⟨gb601, 1, none⟩) (Kd.V_far (p := ⟨gb601, 0, none⟩) (Kd.V_mono HO_585000.out (fun k_ hk => (⟨hk, hk.2⟩ : _ ∧ k_ ≠ gb601))) (fun _ hk => hk.2) (.slice Ao56 t595.length co56)) (fun _ hk => hk.2) (.slice Ao60 t598.length co60)) (fun _ h_ => h_.1))) hb); have n1_ := Aside0.mk (Kd.V_below (by (with_reducible repeat (first | apply Kd.V_alloc | apply Kd.V_drewN | apply Kd.V_drew)); exact (Kd.V_mono (Kd.V_far (p := ⟨gb601, 1, none⟩) (Kd.V_far (p := ⟨gb601, 0, none⟩) (Kd.V_mono HO_585001.out (fun k_ hk => (⟨hk, hk.2⟩ : _ ∧ k_ ≠ gb601))) (fun _ hk => hk.2) (.slice Ao56 t595.length co56)) (fun _ hk => hk.2) (.slice Ao60 t598.length co60)) (fun _ h_ => h_.1))) hb); have n2_ := Aside0.mk (Kd.R_below (by (with_reducible repeat (first | apply Kd.R_alloc | apply Kd.R_drewN | apply Kd.R_drew)); exact (Kd.R_mono (Kd.R_far (p := ⟨gb601, 1, none⟩) (Kd.R_far (p := ⟨gb601, 0, none⟩) (Kd.R_types HO591.out BK601.out (by decide)) (fun _ hk => hk.2) (.slice Ao56 t595.length co56)) (fun _ hk => hk.2) (.slice Ao60 t598.length co60)) (fun _ h_ => h_.1))) hb); have n3_ := Aside0.mk (Kd.R_below (by (with_reducible repeat (first | apply Kd.R_alloc | apply Kd.R_drewN | apply Kd.R_drew)); exact (Kd.R_mono (Kd.R_far (p := ⟨gb601, 1, none⟩) (Kd.R_far (p := ⟨gb601, 0, none⟩) (Kd.R_types HO594.out BK601.out (by decide)) (fun _ hk => hk.2) (.slice Ao56 t595.length co56)) (fun _ hk => hk.2) (.slice Ao60 t598.length co60)) (fun _ h_ => h_.1))) hb); have n4_ := Aside0.mk (Kd.V_below (by (with_reducible repeat (first | apply Kd.V_alloc | apply Kd.V_drewN | apply Kd.V_drew)); exact (Kd.V_mono (Kd.V_far (p := ⟨gb601, 1, none⟩) (Kd.V_far (p := ⟨gb601, 0, none⟩) (Kd.V_mono HO597.out (fun k_ hk => (⟨hk, hk.2⟩ : _ ∧ k_ ≠ gb601))) (fun _ hk => hk.2) (.slice Ao56 t595.length co56)) (fun _ hk => hk.2) (.slice Ao60 t598.length co60)) (fun _ h_ => h_.1))) hb); have n5_ := Aside0.mk (Kd.V_below (by (with_reducible repeat (first | apply Kd.V_alloc | apply Kd.V_drewN | apply Kd.V_drew)); exact (Kd.V_mono (Kd.V_far (p := ⟨gb601, 1, none⟩) (Kd.V_far (p := ⟨gb601, 0, none⟩) (Kd.V_mono HO600.out (fun k_ hk => (⟨hk, hk.2⟩ : _ ∧ k_ ≠ gb601))) (fun _ hk => hk.2) (.slice Ao56 t595.length co56)) (fun _ hk => hk.2) (.slice Ao60 t598.length co60)) (fun _ h_ => h_.1))) hb); have n6_ := Aside0.mk (blk_below (g := gb583) (o := .cells #[.slice none 0 0, .slice none 0 0] 46 (0, 0)) (by (with_reducible repeat (first | refine blk_drewN ?_ _ | refine blk_drew ?_ | refine blk_alloc ?_ _)); refine blk_far ?_ NB583_601.out _; (with_reducible repeat (first | refine blk_drewN ?_ _ | refine blk_drew ?_ | refine blk_alloc ?_ _)); refine blk_far ?_ NB583_601.out _; (with_reducible repeat (first | refine blk_drewN ?_ _ | refine blk_drew ?_ | refine blk_alloc ?_ _)); exact BK583.out) hb); have n7_ := Aside0.mk (blk_below (g := gb584) (o := .cells #[.slice Ao63 x585000_5.length co63, .slice Ao64 x585001_5.length co64] 46 (0, 0)) (by (with_reducible repeat (first | refine blk_drewN ?_ _ | refine blk_drew ?_ | refine blk_alloc ?_ _)); refine blk_far ?_ NB584_601.out _; (with_reducible repeat (first | refine blk_drewN ?_ _ | refine blk_drew ?_ | refine blk_alloc ?_ _)); refine blk_far ?_ NB584_601.out _; (with_reducible repeat (first | refine blk_drewN ?_ _ | refine blk_drew ?_ | refine blk_alloc ?_ _)); exact BK584.out) hb); have n8_ := Aside0.mk (blk_below (g := gb601) (o := .cells #[.slice Ao56 t595.length co56, .slice Ao60 t598.length co60] 46 (0, 0)) (by (with_reducible repeat (first | refine blk_drewN ?_ _ | refine blk_drew ?_ | refine blk_alloc ?_ _)); refine blk_put (cs := #[.slice Ao56 t595.length co56, .slice none 0 0]) ?_ 1 _ rfl; (with_reducible repeat (first | refine blk_drewN ?_ _ | refine blk_drew ?_ | refine blk_alloc ?_ _)); refine blk_put (cs := #[.slice none 0 0, .slice none 0 0]) ?_ 0 _ rfl; (with_reducible repeat (first | refine blk_drewN ?_ _ | refine blk_drew ?_ | refine blk_alloc ?_ _)); exact BK601.out) hb); have n9_ := Aside0.mk (below_step (zh HB.out) hb); clear HO_585000; clear HO_585001; clear HO591; clear HO594; clear HO597; clear HO600; clear BK583; clear BK584; clear BK601; clear HB; have HO_585000 := n0_; have HO_585001 := n1_; have HO591 := n2_; have HO594 := n3_; have HO597 := n4_; have HO600 := n5_; have BK583 := n6_; have BK584 := n7_; have BK601 := n8_; have HB := n9_; clear n0_ n1_ n2_ n3_ n4_ n5_ n6_ n7_ n8_ n9_; (try clear hb); (try clear hb2); (try clear hk); (try clear hi); have hcz66_0 : w65.cell? ⟨gb601, 0, none⟩ = some (.slice Ao56 t595.length co56) := (blk_cell BK601.out 0).trans rfl; have hcz66_1 : w65.cell? ⟨gb601, 1, none⟩ = some (.slice Ao60 t598.length co60) := (blk_cell BK601.out 1).trans rfl; have hfz66_0 := blk_frozen BK601.out 0; have hfz66_1 := blk_frozen BK601.out 1; have hcz67_0 : w65.cell? ⟨gb584, 0, none⟩ = some (.slice Ao63 x585000_5.length co63) := (blk_cell BK584.out 0).trans rfl; have hcz67_1 : w65.cell? ⟨gb584, 1, none⟩ = some (.slice Ao64 x585001_5.length co64) := (blk_cell BK584.out 1).trans rfl; have hfz67_0 := blk_frozen BK584.out 0; have hfz67_1 := blk_frozen BK584.out 1)); try go_wp2_with (first | ((with_reducible refine gate_dst (N := 99) rfl ?_); refine Kd.R_lit (Kd.int .i64) _ 3 ?hg (N := 99) ?hd (xs := ([x18_1, x10_2] : List Int)) (inner := [.int .i64 x18_1, .int .i64 x10_2]) (ok := fun _ => True) (okp := fun _ => True) ?hr ?hp (fun _ hk => hk) trivial (Below.refl _ _) (Nat.le_refl _) (by simp) ?_; (case hd => rfl); (case hg => rfl); (case hr => first | (go_simp; done) | (go_simp; rfl)); (case hp => exact (Reps.one (show Kd.M (Kd.int .i64) _ _ _ x18_1 [.int .i64 x18_1] from rfl) (Reps.one (show Kd.M (Kd.int .i64) _ _ _ x10_2 [.int .i64 x10_2] from rfl) (Reps.none _ _)))); intro v590 w48 ho49 hb hg_ hnew_; clear hg_ hnew_; (first | rw [← Ny589.out] at ho49 | (simp only [Int.reduceToNat] at ho49; rw [← Ny589.out] at ho49)); have n0_ := Aside0.mk (Kd.V_elder' (by (with_reducible repeat (first | apply Kd.V_alloc | apply Kd.V_drewN | apply Kd.V_drew)); exact HO_585000.out) (Kd.R_base ho49) hb); have n1_ := Aside0.mk (Kd.V_elder' (by (with_reducible repeat (first | apply Kd.V_alloc | apply Kd.V_drewN | apply Kd.V_drew)); exact HO_585001.out) (Kd.R_base ho49) hb); have n2_ := Aside0.mk (Kd.R_lower (Kd.R_newM (M := fun k_ => (w.heap.size ≤ k_)) ho49 (below_size (zh HB.out)) (fun k_ h_ => h_)) (below_size (zh HB.out))); have n3_ := Aside0.mk (blk_below (g := gb583) (o := .cells #[.slice none 0 0, .slice none 0 0] 46 (0, 0)) (zb BK583.out) hb); have n4_ := Aside0.mk (blk_below (g := gb584) (o := .cells #[u585000, u585001] 46 (0, 0)) (zb BK584.out) hb); have n5_ := Aside0.mk (below_step (zh HB.out) hb); clear HO_585000; clear HO_585001; clear BK583; clear BK584; clear HB; have HO_585000 := n0_; have HO_585001 := n1_; have HO591 := n2_; have BK583 := n3_; have BK584 := n4_; have HB := n5_; clear n0_ n1_ n2_ n3_ n4_ n5_; clear hb ho49) | ((with_reducible refine gate_dst (N := 102) rfl ?_); refine Kd.R_lit (Kd.int .i64) _ 3 ?hg (N := 102) ?hd (xs := ([(Go.bits .xor .i64 (Go.bits .xor .i64 x18_1 (ji31)) (ji33)), (Go.bits .xor .i64 (Go.bits .xor .i64 x10_2 (ji31)) (ji33))] : List Int)) (inner := [.int .i64 (Go.bits .xor .i64 (Go.bits .xor .i64 x18_1 (ji31)) (ji33)), .int .i64 (Go.bits .xor .i64 (Go.bits .xor .i64 x10_2 (ji31)) (ji33))]) (ok := fun _ => True) (okp := fun _ => True) ?hr ?hp (fun _ hk => hk) trivial (Below.refl _ _) (Nat.le_refl _) (by simp) ?_; (case hd => rfl); (case hg => rfl); (case hr => first | (go_simp; done) | (go_simp; rfl)); (case hp => exact (Reps.one (show Kd.M (Kd.int .i64) _ _ _ (Go.bits .xor .i64 (Go.bits .xor .i64 x18_1 (ji31)) (ji33)) [.int .i64 (Go.bits .xor .i64 (Go.bits .xor .i64 x18_1 (ji31)) (ji33))] from rfl) (Reps.one (show Kd.M (Kd.int .i64) _ _ _ (Go.bits .xor .i64 (Go.bits .xor .i64 x10_2 (ji31)) (ji33)) [.int .i64 (Go.bits .xor .i64 (Go.bits .xor .i64 x10_2 (ji31)) (ji33))] from rfl) (Reps.none _ _)))); intro v593 w50 ho51 hb hg_ hnew_; clear hg_ hnew_; (first | rw [← Ny592.out] at ho51 | (simp only [Int.reduceToNat] at ho51; rw [← Ny592.out] at ho51)); have n0_ := Aside0.mk (Kd.V_elder' (by (with_reducible repeat (first | apply Kd.V_alloc | apply Kd.V_drewN | apply Kd.V_drew)); exact HO_585000.out) (Kd.R_base ho51) hb); have n1_ := Aside0.mk (Kd.V_elder' (by (with_reducible repeat (first | apply Kd.V_alloc | apply Kd.V_drewN | apply Kd.V_drew)); exact HO_585001.out) (Kd.R_base ho51) hb); have n2_ := Aside0.mk (Kd.R_elder' (zr HO591.out) (Kd.R_base ho51) hb); have n3_ := Aside0.mk (Kd.R_lower (Kd.R_new' (Kd.R_newM (M := fun k_ => (w.heap.size ≤ k_)) ho51 (below_size (zh HB.out)) (fun k_ h_ => h_)) (Kd.R_lt (zr HO591.out))) (below_size (zh HB.out))); have n4_ := Aside0.mk (blk_below (g := gb583) (o := .cells #[.slice none 0 0, .slice none 0 0] 46 (0, 0)) (zb BK583.out) hb); have n5_ := Aside0.mk (blk_below (g := gb584) (o := .cells #[u585000, u585001] 46 (0, 0)) (zb BK584.out) hb); have n6_ := Aside0.mk (below_step (zh HB.out) hb); clear HO_585000; clear HO_585001; clear HO591; clear BK583; clear BK584; clear HB; have HO_585000 := n0_; have HO_585001 := n1_; have HO591 := n2_; have HO594 := n3_; have BK583 := n4_; have BK584 := n5_; have HB := n6_; clear n0_ n1_ n2_ n3_ n4_ n5_ n6_; clear hb ho51; obtain ⟨Ao52, co52, eo52⟩ := Kd.R_slice HO591.out; subst eo52; obtain ⟨Ao53, co53, eo53⟩ := Kd.R_slice HO594.out; subst eo53) | (go_at_call 91; (with_reducible refine (spec_deTrade.calls kj35 _ _ y589 _ _ y592 t595 t598 _ ?side1 ?side2 ?side3 ?side4 A44.out).mono ?_); (case side1 => repeat (first | exact (Kd.R_reads' HO591.out).2.2 | (with_reducible refine Kd.C_alloc ?_ _) | (with_reducible refine Kd.C_drewN ?_ _) | (with_reducible refine Kd.C_drew ?_))); (case side2 => exact (Kd.R_reads' HO591.out).2.1); (case side3 => repeat (first | exact (Kd.R_reads' HO594.out).2.2 | (with_reducible refine Kd.C_alloc ?_ _) | (with_reducible refine Kd.C_drewN ?_ _) | (with_reducible refine Kd.C_drew ?_))); (case side4 => exact (Kd.R_reads' HO594.out).2.1); rintro e w54 ⟨v596, v599, rfl, ho0, ho1, hb⟩; have n0_ := Aside0.mk (Kd.V_below (by (with_reducible repeat (first | apply Kd.V_alloc | apply Kd.V_drewN | apply Kd.V_drew)); exact HO_585000.out) hb); have n1_ := Aside0.mk (Kd.V_below (by (with_reducible repeat (first | apply Kd.V_alloc | apply Kd.V_drewN | apply Kd.V_drew)); exact HO_585001.out) hb); have n2_ := Aside0.mk (Kd.R_below (zr HO591.out) hb); have n3_ := Aside0.mk (Kd.R_below (zr HO594.out) hb); have n4_ := Aside0.mk (Kd.V_lower (Kd.V_mono (ok' := fun k_ => (w.heap.size ≤ k_) ∧ some k_ ≠ (.slice Ao52 y589.length co52 : Value).ownBlock ∧ some k_ ≠ (.slice Ao53 y592.length co53 : Value).ownBlock ∧ k_ ≠ gb583 ∧ k_ ≠ gb584) ho0 (fun k_ hk_ => ⟨(Nat.le_trans (below_size (zh HB.out)) hk_), (Kd.fresh' (Kd.R_lt (zr HO591.out)) k_ hk_), (Kd.fresh' (Kd.R_lt (zr HO594.out)) k_ hk_), (Kd.freshB (g := gb583) (o := .cells #[.slice none 0 0, .slice none 0 0] 46 (0, 0)) (zb BK583.out) k_ hk_), (Kd.freshB (g := gb584) (o := .cells #[u585000, u585001] 46 (0, 0)) (zb BK584.out) k_ hk_)⟩)) (below_size (zh HB.out))); have n5_ := Aside0.mk (Kd.V_lower (Kd.V_mono (ok' := fun k_ => (w.heap.size ≤ k_) ∧ some k_ ≠ (.slice Ao52 y589.length co52 : Value).ownBlock ∧ some k_ ≠ (.slice Ao53 y592.length co53 : Value).ownBlock ∧ k_ ≠ gb583 ∧ k_ ≠ gb584) ho1 (fun k_ hk_ => ⟨(Nat.le_trans (below_size (zh HB.out)) hk_), (Kd.fresh' (Kd.R_lt (zr HO591.out)) k_ hk_), (Kd.fresh' (Kd.R_lt (zr HO594.out)) k_ hk_), (Kd.freshB (g := gb583) (o := .cells #[.slice none 0 0, .slice none 0 0] 46 (0, 0)) (zb BK583.out) k_ hk_), (Kd.freshB (g := gb584) (o := .cells #[u585000, u585001] 46 (0, 0)) (zb BK584.out) k_ hk_)⟩)) (below_size (zh HB.out))); have n6_ := Aside0.mk (blk_below (g := gb583) (o := .cells #[.slice none 0 0, .slice none 0 0] 46 (0, 0)) (zb BK583.out) hb); have n7_ := Aside0.mk (blk_below (g := gb584) (o := .cells #[u585000, u585001] 46 (0, 0)) (zb BK584.out) hb); have n8_ := Aside0.mk (below_step (zh HB.out) hb); clear HO_585000; clear HO_585001; clear HO591; clear HO594; clear BK583; clear BK584; clear HB; have HO_585000 := n0_; have HO_585001 := n1_; have HO591 := n2_; have HO594 := n3_; have HO597 := n4_; have HO600 := n5_; have BK583 := n6_; have BK584 := n7_; have HB := n8_; clear n0_ n1_ n2_ n3_ n4_ n5_ n6_ n7_ n8_; (try clear hb); (try clear hb2); (try clear hk); (try clear hi); (try clear ho0); (try clear ho1)) | (go_at_call 92; (with_reducible refine (spec_deTradeBefore.calls kj35 _ _ t595 _ _ t598 _ _ x585000_5 _ _ x585001_5 true _ ?side1 ?side2 ?side3 ?side4 ?side5 ?side6 ?side7 ?side8 A46.out).mono ?_); (case side1 => refine (Kd.V_reads' (e := 71) (base := w.heap.size) (ok := fun k_ => (((w.heap.size ≤ k_) ∧ (some k_ ≠ (.slice Ao52 y589.length co52 : Value).ownBlock ∧ (some k_ ≠ (.slice Ao53 y592.length co53 : Value).ownBlock ∧ (k_ ≠ gb583 ∧ k_ ≠ gb584)))) ∧ k_ ≠ gb601)) (n := t595.length) (c := co56) ?_).2.2; exact (by (with_reducible repeat (first | apply Kd.V_alloc | apply Kd.V_drewN | apply Kd.V_drew)); exact (Kd.V_mono (Kd.V_far (p := ⟨gb601, 1, none⟩) (Kd.V_far (p := ⟨gb601, 0, none⟩) (Kd.V_mono HO597.out (fun k_ hk => (⟨hk, hk.2⟩ : _ ∧ k_ ≠ gb601))) (fun _ hk => hk.2) (.slice Ao56 t595.length co56)) (fun _ hk => hk.2) (.slice Ao60 t598.length co60)) (fun _ h_ => h_.1)))); (case side2 => exact (Kd.V_reads' HO597.out).2.1); (case side3 => refine (Kd.V_reads' (e := 71) (base := w.heap.size) (ok := fun k_ => (((w.heap.size ≤ k_) ∧ (some k_ ≠ (.slice Ao52 y589.length co52 : Value).ownBlock ∧ (some k_ ≠ (.slice Ao53 y592.length co53 : Value).ownBlock ∧ (k_ ≠ gb583 ∧ k_ ≠ gb584)))) ∧ k_ ≠ gb601)) (n := t598.length) (c := co60) ?_).2.2; exact (by (with_reducible repeat (first | apply Kd.V_alloc | apply Kd.V_drewN | apply Kd.V_drew)); exact (Kd.V_mono (Kd.V_far (p := ⟨gb601, 1, none⟩) (Kd.V_far (p := ⟨gb601, 0, none⟩) (Kd.V_mono HO600.out (fun k_ hk => (⟨hk, hk.2⟩ : _ ∧ k_ ≠ gb601))) (fun _ hk => hk.2) (.slice Ao56 t595.length co56)) (fun _ hk => hk.2) (.slice Ao60 t598.length co60)) (fun _ h_ => h_.1)))); (case side4 => exact (Kd.V_reads' HO600.out).2.1); (case side5 => refine (Kd.V_reads' (e := 71) (base := w.heap.size) (ok := fun k_ => (((((w.heap.size ≤ k_) ∧ (k_ ≠ gb583 ∧ k_ ≠ gb584)) ∧ some k_ ≠ (.slice Ao52 y589.length co52 : Value).ownBlock) ∧ some k_ ≠ (.slice Ao53 y592.length co53 : Value).ownBlock) ∧ k_ ≠ gb601)) (n := x585000_5.length) (c := co63) ?_).2.2; exact (by (with_reducible repeat (first | apply Kd.V_alloc | apply Kd.V_drewN | apply Kd.V_drew)); exact (Kd.V_mono (Kd.V_far (p := ⟨gb601, 1, none⟩) (Kd.V_far (p := ⟨gb601, 0, none⟩) (Kd.V_mono HO_585000.out (fun k_ hk => (⟨hk, hk.2⟩ : _ ∧ k_ ≠ gb601))) (fun _ hk => hk.2) (.slice Ao56 t595.length co56)) (fun _ hk => hk.2) (.slice Ao60 t598.length co60)) (fun _ h_ => h_.1)))); (case side6 => exact (Kd.V_reads' HO_585000.out).2.1); (case side7 => refine (Kd.V_reads' (e := 71) (base := w.heap.size) (ok := fun k_ => (((((w.heap.size ≤ k_) ∧ (k_ ≠ gb583 ∧ k_ ≠ gb584)) ∧ some k_ ≠ (.slice Ao52 y589.length co52 : Value).ownBlock) ∧ some k_ ≠ (.slice Ao53 y592.length co53 : Value).ownBlock) ∧ k_ ≠ gb601)) (n := x585001_5.length) (c := co64) ?_).2.2; exact (by (with_reducible repeat (first | apply Kd.V_alloc | apply Kd.V_drewN | apply Kd.V_drew)); exact (Kd.V_mono (Kd.V_far (p := ⟨gb601, 1, none⟩) (Kd.V_far (p := ⟨gb601, 0, none⟩) (Kd.V_mono HO_585001.out (fun k_ hk => (⟨hk, hk.2⟩ : _ ∧ k_ ≠ gb601))) (fun _ hk => hk.2) (.slice Ao56 t595.length co56)) (fun _ hk => hk.2) (.slice Ao60 t598.length co60)) (fun _ h_ => h_.1)))); (case side8 => exact (Kd.V_reads' HO_585001.out).2.1); rintro e w65 ⟨rfl, hb⟩; have n0_ := Aside0.mk (Kd.V_below (by (with_reducible repeat (first | apply Kd.V_alloc | apply Kd.V_drewN | apply Kd.V_drew)); exact (Kd.V_mono (Kd.V_far (p := ⟨gb601, 1, none⟩) (Kd.V_far (p := ⟨gb601, 0, none⟩) (Kd.V_mono HO_585000.out (fun k_ hk => (⟨hk, hk.2⟩ : _ ∧ k_ ≠ gb601))) (fun _ hk => hk.2) (.slice Ao56 t595.length co56)) (fun _ hk => hk.2) (.slice Ao60 t598.length co60)) (fun _ h_ => h_.1))) hb); have n1_ := Aside0.mk (Kd.V_below (by (with_reducible repeat (first | apply Kd.V_alloc | apply Kd.V_drewN | apply Kd.V_drew)); exact (Kd.V_mono (Kd.V_far (p := ⟨gb601, 1, none⟩) (Kd.V_far (p := ⟨gb601, 0, none⟩) (Kd.V_mono HO_585001.out (fun k_ hk => (⟨hk, hk.2⟩ : _ ∧ k_ ≠ gb601))) (fun _ hk => hk.2) (.slice Ao56 t595.length co56)) (fun _ hk => hk.2) (.slice Ao60 t598.length co60)) (fun _ h_ => h_.1))) hb); have n2_ := Aside0.mk (Kd.R_below (by (with_reducible repeat (first | apply Kd.R_alloc | apply Kd.R_drewN | apply Kd.R_drew)); exact (Kd.R_mono (Kd.R_far (p := ⟨gb601, 1, none⟩) (Kd.R_far (p := ⟨gb601, 0, none⟩) (Kd.R_types HO591.out BK601.out (by decide)) (fun _ hk => hk.2) (.slice Ao56 t595.length co56)) (fun _ hk => hk.2) (.slice Ao60 t598.length co60)) (fun _ h_ => h_.1))) hb); have n3_ := Aside0.mk (Kd.R_below (by (with_reducible repeat (first | apply Kd.R_alloc | apply Kd.R_drewN | apply Kd.R_drew)); exact (Kd.R_mono (Kd.R_far (p := ⟨gb601, 1, none⟩) (Kd.R_far (p := ⟨gb601, 0, none⟩) (Kd.R_types HO594.out BK601.out (by decide)) (fun _ hk => hk.2) (.slice Ao56 t595.length co56)) (fun _ hk => hk.2) (.slice Ao60 t598.length co60)) (fun _ h_ => h_.1))) hb); have n4_ := Aside0.mk (Kd.V_below (by (with_reducible repeat (first | apply Kd.V_alloc | apply Kd.V_drewN | apply Kd.V_drew)); exact (Kd.V_mono (Kd.V_far (p := ⟨gb601, 1, none⟩) (Kd.V_far (p := ⟨gb601, 0, none⟩) (Kd.V_mono HO597.out (fun k_ hk => (⟨hk, hk.2⟩ : _ ∧ k_ ≠ gb601))) (fun _ hk => hk.2) (.slice Ao56 t595.length co56)) (fun _ hk => hk.2) (.slice Ao60 t598.length co60)) (fun _ h_ => h_.1))) hb); have n5_ := Aside0.mk (Kd.V_below (by (with_reducible repeat (first | apply Kd.V_alloc | apply Kd.V_drewN | apply Kd.V_drew)); exact (Kd.V_mono (Kd.V_far (p := ⟨gb601, 1, none⟩) (Kd.V_far (p := ⟨gb601, 0, none⟩) (Kd.V_mono HO600.out (fun k_ hk => (⟨hk, hk.2⟩ : _ ∧ k_ ≠ gb601))) (fun _ hk => hk.2) (.slice Ao56 t595.length co56)) (fun _ hk => hk.2) (.slice Ao60 t598.length co60)) (fun _ h_ => h_.1))) hb); have n6_ := Aside0.mk (blk_below (g := gb583) (o := .cells #[.slice none 0 0, .slice none 0 0] 46 (0, 0)) (by (with_reducible repeat (first | refine blk_drewN ?_ _ | refine blk_drew ?_ | refine blk_alloc ?_ _)); refine blk_far ?_ NB583_601.out _; (with_reducible repeat (first | refine blk_drewN ?_ _ | refine blk_drew ?_ | refine blk_alloc ?_ _)); refine blk_far ?_ NB583_601.out _; (with_reducible repeat (first | refine blk_drewN ?_ _ | refine blk_drew ?_ | refine blk_alloc ?_ _)); exact BK583.out) hb); have n7_ := Aside0.mk (blk_below (g := gb584) (o := .cells #[.slice Ao63 x585000_5.length co63, .slice Ao64 x585001_5.length co64] 46 (0, 0)) (by (with_reducible repeat (first | refine blk_drewN ?_ _ | refine blk_drew ?_ | refine blk_alloc ?_ _)); refine blk_far ?_ NB584_601.out _; (with_reducible repeat (first | refine blk_drewN ?_ _ | refine blk_drew ?_ | refine blk_alloc ?_ _)); refine blk_far ?_ NB584_601.out _; (with_reducible repeat (first | refine blk_drewN ?_ _ | refine blk_drew ?_ | refine blk_alloc ?_ _)); exact BK584.out) hb); have n8_ := Aside0.mk (blk_below (g := gb601) (o := .cells #[.slice Ao56 t595.length co56, .slice Ao60 t598.length co60] 46 (0, 0)) (by (with_reducible repeat (first | refine blk_drewN ?_ _ | refine blk_drew ?_ | refine blk_alloc ?_ _)); refine blk_put (cs := #[.slice Ao56 t595.length co56, .slice none 0 0]) ?_ 1 _ rfl; (with_reducible repeat (first | refine blk_drewN ?_ _ | refine blk_drew ?_ | refine blk_alloc ?_ _)); refine blk_put (cs := #[.slice none 0 0, .slice none 0 0]) ?_ 0 _ rfl; (with_reducible repeat (first | refine blk_drewN ?_ _ | refine blk_drew ?_ | refine blk_alloc ?_ _)); exact BK601.out) hb); have n9_ := Aside0.mk (below_step (zh HB.out) hb); clear HO_585000; clear HO_585001; clear HO591; clear HO594; clear HO597; clear HO600; clear BK583; clear BK584; clear BK601; clear HB; have HO_585000 := n0_; have HO_585001 := n1_; have HO591 := n2_; have HO594 := n3_; have HO597 := n4_; have HO600 := n5_; have BK583 := n6_; have BK584 := n7_; have BK601 := n8_; have HB := n9_; clear n0_ n1_ n2_ n3_ n4_ n5_ n6_ n7_ n8_ n9_; (try clear hb); (try clear hb2); (try clear hk); (try clear hi); have hcz66_0 : w65.cell? ⟨gb601, 0, none⟩ = some (.slice Ao56 t595.length co56) := (blk_cell BK601.out 0).trans rfl; have hcz66_1 : w65.cell? ⟨gb601, 1, none⟩ = some (.slice Ao60 t598.length co60) := (blk_cell BK601.out 1).trans rfl; have hfz66_0 := blk_frozen BK601.out 0; have hfz66_1 := blk_frozen BK601.out 1; have hcz67_0 : w65.cell? ⟨gb584, 0, none⟩ = some (.slice Ao63 x585000_5.length co63) := (blk_cell BK584.out 0).trans rfl; have hcz67_1 : w65.cell? ⟨gb584, 1, none⟩ = some (.slice Ao64 x585001_5.length co64) := (blk_cell BK584.out 1).trans rfl; have hfz67_0 := blk_frozen BK584.out 0; have hfz67_1 := blk_frozen BK584.out 1)))
               go_roundg kj35
               case measure => have := HK1.out; have := HK2.out; have := HJ8.out; have := HK4.out; have := HK5.out; have := HJ16.out; have := HJ35.out; omega
               case rel => exact ⟨(true), (wrap64 (x12_5 + 1)), (t595), (t598), (.slice Ao56 t595.length co56), (.slice Ao60 t598.length co60), (by first | rfl | (simp; done) | (simp [*]; done)), (by first | rfl | (simp; done) | (simp [*]; done)), H', ⟨by have := HK1.out; have := HK2.out; have := HJ8.out; have := HK4.out; have := HK5.out; have := HJ16.out; have := HJ35.out; omega⟩, ⟨by (with_reducible repeat (first | apply Kd.V_alloc | apply Kd.V_drewN | apply Kd.V_drew)); exact Kd.V_mono (Kd.V_far (p := ⟨gb584, 1, none⟩) (Kd.V_far (p := ⟨gb584, 0, none⟩) (Kd.V_mono HO597.out (fun k_ hk => (⟨hk, hk.1.2.2.2.2⟩ : _ ∧ k_ ≠ gb584))) (fun _ hk => hk.2) (.slice Ao56 t595.length co56)) (fun _ hk => hk.2) (.slice Ao60 t598.length co60)) (fun _ hk => ⟨hk.1.1.1, ⟨hk.1.1.2.2.2.1, hk.1.1.2.2.2.2⟩⟩)⟩, ⟨by (with_reducible repeat (first | apply Kd.V_alloc | apply Kd.V_drewN | apply Kd.V_drew)); exact Kd.V_mono (Kd.V_far (p := ⟨gb584, 1, none⟩) (Kd.V_far (p := ⟨gb584, 0, none⟩) (Kd.V_mono HO600.out (fun k_ hk => (⟨hk, hk.1.2.2.2.2⟩ : _ ∧ k_ ≠ gb584))) (fun _ hk => hk.2) (.slice Ao56 t595.length co56)) (fun _ hk => hk.2) (.slice Ao60 t598.length co60)) (fun _ hk => ⟨hk.1.1.1, ⟨hk.1.1.2.2.2.1, hk.1.1.2.2.2.2⟩⟩)⟩, ⟨by (with_reducible repeat (first | refine blk_drewN ?_ _ | refine blk_drew ?_ | refine blk_alloc ?_ _)); refine blk_far ?_ NB583_584.out _; (with_reducible repeat (first | refine blk_drewN ?_ _ | refine blk_drew ?_ | refine blk_alloc ?_ _)); refine blk_far ?_ NB583_584.out _; (with_reducible repeat (first | refine blk_drewN ?_ _ | refine blk_drew ?_ | refine blk_alloc ?_ _)); exact BK583.out⟩, ⟨by (with_reducible repeat (first | refine blk_drewN ?_ _ | refine blk_drew ?_ | refine blk_alloc ?_ _)); refine blk_put (cs := #[.slice Ao56 t595.length co56, .slice Ao64 x585001_5.length co64]) ?_ 1 _ rfl; (with_reducible repeat (first | refine blk_drewN ?_ _ | refine blk_drew ?_ | refine blk_alloc ?_ _)); refine blk_put (cs := #[.slice Ao63 x585000_5.length co63, .slice Ao64 x585001_5.length co64]) ?_ 0 _ rfl; (with_reducible repeat (first | refine blk_drewN ?_ _ | refine blk_drew ?_ | refine blk_alloc ?_ _)); exact BK584.out⟩, ⟨zh HB.out⟩⟩
def spec_FirstSwap.j0 : Nat → Bool → Int → List (List Int) → Option ((List (List Int)) × (List (List Int)) × Bool)
 | 0, _, _, _ => none
 | k + 1, x11, x885000, x885001 => if x11 = true then (some (([] : List (List Int)), ([] : List (List Int)), false)) else ((spec_gmAll.f k x885000 x885001).bind fun t887 => ((spec_deSwap.f k t887 x885000).bind fun bt890 => (some (bt890.1, bt890.2.1, bt890.2.2))))
def spec_FirstSwap.f (k : Nat) (a0_0 : Int) (l0_1 : List (List Int)) : Option ((List (List Int)) × (List (List Int)) × Bool) := (spec_gmGood.f k a0_0 l0_1).bind fun t886 => (if t886 = true then (spec_FirstSwap.j0 k (decide (a0_0 > 6)) a0_0 l0_1) else (spec_FirstSwap.j0 k true a0_0 l0_1))
def spec_FirstSwap.T3 : Bool × List (List Nat × List Nat) := (true, [([], []), ([0], [0]), ([], []), ([2], [2]), ([1, 3, 1], [1, 3]), ([4], [4]), ([4], [4]), ([5, 4, 0, 1, 2, 3, 4, 5, 6], [5]), ([6, 7, 0, 1, 2, 3, 4, 5, 6, 7], [6])])
def spec_FirstSwap.B3 : List Nat := [0, 1, 0, 4, 15, 31, 31, 127, 255]
theorem spec_FirstSwap.tab3 : rtab .any (opsOf Try.f32 3) = spec_FirstSwap.T3 := by kernel_rfl
theorem spec_FirstSwap.bits3 : waitsOk spec_FirstSwap.T3.2 spec_FirstSwap.B3 = true := by kernel_rfl
set_option maxHeartbeats 8000000 in
set_option maxRecDepth 100000 in
theorem spec_FirstSwap.calls (k : Nat) (a0_0 : Int) (A0_1 : Option Addr) (c0_1 : Nat) (l0_1 : List (List Int)) (r1 : List (List Int)) (r2 : List (List Int)) (r3 : Bool) (w : World) (hr0_1 : Kd.C (Kd.slice 3 (Kd.int .i64)) w A0_1 l0_1.length l0_1) (hc0_1 : l0_1.length ≤ c0_1) (h : spec_FirstSwap.f k a0_0 l0_1 = some (r1, r2, r3)) :
  Calls Try.prog 32 #[.agg #[.int .i64 a0_0, .slice A0_1 l0_1.length c0_1]] w fun e w' => ∃ v0_ v1_ : Value, e = .returned (.tuple #[.agg #[v0_, v1_], .bool r3]) ∧ Kd.V (Kd.slice 3 (Kd.int .i64)) 71 w' w.heap.size (fun k_ => (w.heap.size ≤ k_)) v0_ r1 ∧ Kd.V (Kd.slice 3 (Kd.int .i64)) 71 w' w.heap.size (fun k_ => (w.heap.size ≤ k_)) v1_ r2 ∧ Below w.heap.size w w' := by
 have hu31 := Try.underlying31
 have hu46 := Try.underlying46
 have HR0_1 := Aside0.mk hr0_1
 have HC0_1 := Aside0.mk hc0_1
 clear hr0_1 hc0_1
 have HB := Aside0.mk (Below.refl w.heap.size w)
 have H : ((spec_gmGood.f k a0_0 l0_1).bind fun t886 => (if t886 = true then (spec_FirstSwap.j0 k (decide (a0_0 > 6)) a0_0 l0_1) else (spec_FirstSwap.j0 k true a0_0 l0_1))) = some (r1, r2, r3) := h
 clear h
 have HC2 := Aside0.mk H
 clear H
 go_enter Try.func32, Try.ntmps32
 go_upto_region 1 with (first | ((with_reducible refine gate_dst (N := 1) rfl ?_); refine box_event ?hg (N := 1) ?hd (cs := #[.int .i64 a0_0, .slice A0_1 l0_1.length c0_1]) (t := 31) ?hr ?_; (case hd => rfl); (case hg => rfl); (case hr => first | (go_simp; done) | (go_simp; rfl)); intro gb884 hg w3 hbox hb; have n2_ := Aside0.mk ((by rw [hg]; exact (below_size (zh HB.out)) : w.heap.size ≤ gb884)); replace HB := Aside0.mk (below_step (zh HB.out) hb); have BK884 := Aside0.mk hbox; have GW884 := n2_; have GE884 := n2_; clear n2_ hb hbox hg) | ((with_reducible refine gate_dst (N := 2) rfl ?_); refine box_event ?hg (N := 2) ?hd (cs := #[.slice none 0 0, .slice none 0 0]) (t := 46) ?hr ?_; (case hd => rfl); (case hg => rfl); (case hr => first | (go_simp; done) | (go_simp; rfl)); intro gb885 hg w4 hbox hb; have n0_ := Aside0.mk (blk_below (g := gb884) (o := .cells #[.int .i64 a0_0, .slice A0_1 l0_1.length c0_1] 31 (0, 0)) (zb BK884.out) hb); have n1_ := Aside0.mk (below_step (zh HB.out) hb); have n2_ := Aside0.mk (hbox); have n3_ := Aside0.mk ((by rw [hg]; exact (below_size (zh HB.out)) : w.heap.size ≤ gb885)); have n4_ := Aside0.mk ((by rw [hg]; exact (below_size (zh HB.out)) : w.heap.size ≤ gb885)); have n5_ := Aside0.mk ((by rw [hg]; exact Nat.ne_of_lt (blk_lt (g := gb884) (o := .cells #[.int .i64 a0_0, .slice A0_1 l0_1.length c0_1] 31 (0, 0)) (zb BK884.out)) : gb884 ≠ gb885)); have n6_ := Aside0.mk ((by rw [hg]; exact Nat.ne_of_gt (blk_lt (g := gb884) (o := .cells #[.int .i64 a0_0, .slice A0_1 l0_1.length c0_1] 31 (0, 0)) (zb BK884.out)) : gb885 ≠ gb884)); clear BK884; clear HB; have BK884 := n0_; have HB := n1_; have BK885 := n2_; have GW885 := n3_; have GE885 := n4_; have NB884_885 := n5_; have NB885_884 := n6_; clear n0_ n1_ n2_ n3_ n4_ n5_ n6_; clear hb hbox hg))
 (try simp only [Act.put, List.setIfInBounds_toArray, List.set_cons_zero, List.set_cons_succ])
 go_cut [11] (fun v11 wc => ∃ (kq : Nat) (x11_1 : Bool), v11 = .bool x11_1 ∧ Aside0 (spec_FirstSwap.j0 kq x11_1 a0_0 l0_1 = some (r1, r2, r3)) ∧ Aside0 (kq ≤ k) ∧ Aside0 (wc.heap[gb884]? = some (.cells #[.int .i64 a0_0, (.slice A0_1 l0_1.length c0_1)] 31 (0, 0))) ∧ Aside0 (wc.heap[gb885]? = some (.cells #[(.slice none 0 0), (.slice none 0 0)] 46 (0, 0))) ∧ Aside0 (Below w.heap.size w wc))
 case first =>
  have H := HC2.out
  clear HC2
  replace H := Option.bind_eq_some_iff.mp H
  obtain ⟨t886, A50, H⟩ := H
  replace H : (if t886 = true then (spec_FirstSwap.j0 k (decide (a0_0 > 6)) a0_0 l0_1) else (spec_FirstSwap.j0 k true a0_0 l0_1)) = some (r1, r2, r3) := H
  have A5 := Aside0.mk A50
  clear A50
  by_cases c6 : t886 = true
  ·subst c6
   have H1 : (spec_FirstSwap.j0 k (decide (a0_0 > 6)) a0_0 l0_1) = some (r1, r2, r3) := by rw [if_pos rfl] at H; exact H
   clear H
   have H := H1
   clear H1
   have H' := Aside0.mk H
   clear H
   have hnb7 := NB884_885.out
   have hnc7 := NB885_884.out
   have hcz8_0 : w4.cell? ⟨gb884, 0, none⟩ = some (.int .i64 a0_0) := (blk_cell BK884.out 0).trans rfl
   have hcz8_1 : w4.cell? ⟨gb884, 1, none⟩ = some (.slice A0_1 l0_1.length c0_1) := (blk_cell BK884.out 1).trans rfl
   have hfz8_0 := blk_frozen BK884.out 0
   have hfz8_1 := blk_frozen BK884.out 1
   go_wp2_with (first | ((with_reducible refine gate_callee (f := 50) rfl ?_); refine goesL_ (some 5) rfl rfl Try.func50 (by kernel_rfl) rfl #[.agg #[.int .i64 a0_0, .slice A0_1 l0_1.length c0_1]] rfl (by (try simp only [List.map_toArray, List.map_cons, List.map_nil]); first | done | rfl | (simp only [List.length_drop, List.length_take]; rfl)) ?_; (with_reducible refine (spec_gmGood.calls k a0_0 _ _ l0_1 true _ ?side1 ?side2 A5.out).mono ?_); (case side1 => repeat (first | exact (Kd.C_below HR0_1.out HB.out) | (with_reducible refine Kd.C_alloc ?_ _) | (with_reducible refine Kd.C_drewN ?_ _) | (with_reducible refine Kd.C_drew ?_))); (case side2 => exact HC0_1.out); rintro e w9 ⟨rfl, hb⟩; refine ⟨_, rfl, ?_⟩; have n0_ := Aside0.mk (blk_below (g := gb884) (o := .cells #[.int .i64 a0_0, .slice A0_1 l0_1.length c0_1] 31 (0, 0)) (zb BK884.out) hb); have n1_ := Aside0.mk (blk_below (g := gb885) (o := .cells #[.slice none 0 0, .slice none 0 0] 46 (0, 0)) (zb BK885.out) hb); have n2_ := Aside0.mk (below_step (zh HB.out) hb); clear BK884; clear BK885; clear HB; have BK884 := n0_; have BK885 := n1_; have HB := n2_; clear n0_ n1_ n2_; (try clear hb); (try clear hb2); (try clear hk); (try clear hi); have hcz10_0 : w9.cell? ⟨gb884, 0, none⟩ = some (.int .i64 a0_0) := (blk_cell BK884.out 0).trans rfl; have hcz10_1 : w9.cell? ⟨gb884, 1, none⟩ = some (.slice A0_1 l0_1.length c0_1) := (blk_cell BK884.out 1).trans rfl; have hfz10_0 := blk_frozen BK884.out 0; have hfz10_1 := blk_frozen BK884.out 1))
   go_meet
   case rel => exact ⟨_, (decide (a0_0 > 6)), (by first | rfl | (simp; done) | (simp [*]; done)), H', ⟨by first | omega | exact Nat.le_refl _⟩, ⟨zb BK884.out⟩, ⟨zb BK885.out⟩, ⟨zh HB.out⟩⟩
  ·replace c6 := Bool.eq_false_iff.mpr c6
   subst c6
   have H1 : (spec_FirstSwap.j0 k true a0_0 l0_1) = some (r1, r2, r3) := by rw [if_neg (show ¬ (false = true) by decide)] at H; exact H
   clear H
   have H := H1
   clear H1
   have H' := Aside0.mk H
   clear H
   have hnb11 := NB884_885.out
   have hnc11 := NB885_884.out
   have hcz12_0 : w4.cell? ⟨gb884, 0, none⟩ = some (.int .i64 a0_0) := (blk_cell BK884.out 0).trans rfl
   have hcz12_1 : w4.cell? ⟨gb884, 1, none⟩ = some (.slice A0_1 l0_1.length c0_1) := (blk_cell BK884.out 1).trans rfl
   have hfz12_0 := blk_frozen BK884.out 0
   have hfz12_1 := blk_frozen BK884.out 1
   go_wp2_with (first | ((with_reducible refine gate_callee (f := 50) rfl ?_); refine goesL_ (some 5) rfl rfl Try.func50 (by kernel_rfl) rfl #[.agg #[.int .i64 a0_0, .slice A0_1 l0_1.length c0_1]] rfl (by (try simp only [List.map_toArray, List.map_cons, List.map_nil]); first | done | rfl | (simp only [List.length_drop, List.length_take]; rfl)) ?_; (with_reducible refine (spec_gmGood.calls k a0_0 _ _ l0_1 false _ ?side1 ?side2 A5.out).mono ?_); (case side1 => repeat (first | exact (Kd.C_below HR0_1.out HB.out) | (with_reducible refine Kd.C_alloc ?_ _) | (with_reducible refine Kd.C_drewN ?_ _) | (with_reducible refine Kd.C_drew ?_))); (case side2 => exact HC0_1.out); rintro e w13 ⟨rfl, hb⟩; refine ⟨_, rfl, ?_⟩; have n0_ := Aside0.mk (blk_below (g := gb884) (o := .cells #[.int .i64 a0_0, .slice A0_1 l0_1.length c0_1] 31 (0, 0)) (zb BK884.out) hb); have n1_ := Aside0.mk (blk_below (g := gb885) (o := .cells #[.slice none 0 0, .slice none 0 0] 46 (0, 0)) (zb BK885.out) hb); have n2_ := Aside0.mk (below_step (zh HB.out) hb); clear BK884; clear BK885; clear HB; have BK884 := n0_; have BK885 := n1_; have HB := n2_; clear n0_ n1_ n2_; (try clear hb); (try clear hb2); (try clear hk); (try clear hi)))
   go_meet
   case rel => exact ⟨_, (true), (by first | rfl | (simp; done) | (simp [*]; done)), H', ⟨by first | omega | exact Nat.le_refl _⟩, ⟨zb BK884.out⟩, ⟨zb BK885.out⟩, ⟨zh HB.out⟩⟩
 case rest =>
  clear HC2
  try clear c1
  try clear p2
  try clear c3
  try clear c5
  try clear c6
  try clear c7
  try clear c11
  try clear hcz10_0
  try clear hcz10_1
  try clear hcz12_0
  try clear hcz12_1
  try clear hcz8_0
  try clear hcz8_1
  try clear hfz10_0
  try clear hfz10_1
  try clear hfz12_0
  try clear hfz12_1
  try clear hfz8_0
  try clear hfz8_1
  obtain ⟨kq, x11_1, rfl, HA, HJ1, BK884, BK885, HB⟩ := hcut
  cases kq with
  | zero => exact absurd HA.out (by simp [spec_FirstSwap.j0])
  | succ kj1 =>
   have H := HA.out
   clear HA
   simp only [spec_FirstSwap.j0] at H
   by_cases c14 : x11_1 = true
   ·subst c14
    have H1 : (some (([] : List (List Int)), ([] : List (List Int)), false)) = some (r1, r2, r3) := by rw [if_pos rfl] at H; exact H
    clear H
    have H := H1
    clear H1
    simp only [Option.some.injEq, Prod.mk.injEq] at H
    obtain ⟨rfl, rfl, rfl⟩ := H
    have hnb15 := NB885_884.out
    have hnc15 := NB884_885.out
    have hcz16_0 : wc.cell? ⟨gb885, 0, none⟩ = some (.slice none 0 0) := (blk_cell BK885.out 0).trans rfl
    have hcz16_1 : wc.cell? ⟨gb885, 1, none⟩ = some (.slice none 0 0) := (blk_cell BK885.out 1).trans rfl
    have hfz16_0 := blk_frozen BK885.out 0
    have hfz16_1 := blk_frozen BK885.out 1
    go_wp2
    refine bodyPost_ret (results_ct rfl _ _ gb885 46 #[.slice none 0 0, .slice none 0 0] (0, 0) _ rfl (by (with_reducible repeat (first | refine blk_drewN ?_ _ | refine blk_drew ?_ | refine blk_alloc ?_ _)); refine blk_put (cs := #[.slice none 0 0, .slice none 0 0]) ?_ 1 _ rfl; (with_reducible repeat (first | refine blk_drewN ?_ _ | refine blk_drew ?_ | refine blk_alloc ?_ _)); refine blk_put (cs := #[.slice none 0 0, .slice none 0 0]) ?_ 0 _ rfl; (with_reducible repeat (first | refine blk_drewN ?_ _ | refine blk_drew ?_ | refine blk_alloc ?_ _)); exact BK885.out) Try.underlying46 rfl (by kernel_rfl)) rfl ?_
    exact ⟨_, _, by first | rfl | (simp [*, errW_none, errW_some] <;> rfl), (Kd.V_nil _ _ _ _ _), (Kd.V_nil _ _ _ _ _), zh HB.out⟩
   replace c14 := Bool.eq_false_iff.mpr c14
   subst c14
   have H1 : ((spec_gmAll.f kj1 a0_0 l0_1).bind fun t887 => ((spec_deSwap.f kj1 t887 a0_0).bind fun bt890 => (some (bt890.1, bt890.2.1, bt890.2.2)))) = some (r1, r2, r3) := by rw [if_neg (show ¬ (false = true) by decide)] at H; exact H
   clear H
   have H := H1
   clear H1
   replace H := Option.bind_eq_some_iff.mp H
   obtain ⟨t887, A170, H⟩ := H
   replace H : ((spec_deSwap.f kj1 t887 a0_0).bind fun bt890 => (some (bt890.1, bt890.2.1, bt890.2.2))) = some (r1, r2, r3) := H
   have A17 := Aside0.mk A170
   clear A170
   replace H := Option.bind_eq_some_iff.mp H
   obtain ⟨⟨t890, t893, t896⟩, A180, H⟩ := H
   replace H : (some (t890, t893, t896)) = some (r1, r2, r3) := H
   have A18 := Aside0.mk A180
   clear A180
   simp only [Option.some.injEq, Prod.mk.injEq] at H
   obtain ⟨rfl, rfl, rfl⟩ := H
   try go_wp2
   have n0_ := Aside0.mk (blk_drew BK884.out)
   have n1_ := Aside0.mk (blk_drew BK885.out)
   have n2_ := Aside0.mk (below_drew1 HB.out)
   clear BK884
   clear BK885
   clear HB
   have BK884 := n0_
   have BK885 := n1_
   have HB := n2_
   clear n0_ n1_ n2_
   refine start_ (n := 9) (S := fun w' => w'.cell? ⟨gb884, 0, none⟩ = some (.int .i64 a0_0) ∧ w'.cell? ⟨gb884, 1, none⟩ = some (.slice A0_1 l0_1.length c0_1)) (ds := []) (tb 9 0) (by kernel_rfl) rfl rfl ⟨(blk_cell BK884.out 0).trans rfl, (blk_cell BK884.out 1).trans rfl⟩ (fun hHeld => ?_); refine with_tabW spec_FirstSwap.tab3 spec_FirstSwap.bits3 (fun HT_ HW_ => ?_)
   generalize wc.drew = w19 at BK884 BK885 HB hHeld ⊢
   refine zu (i := 2) (N := some 15) (tb 9 4) rfl rfl HT_ ?_
   refine take_ (i := 0) (N := some 13) (v := ?_) (a' := ?_) (tb 9 5) rfl rfl (take_ofW HT_.out HW_.out (by kernel_rfl)) (fun _ _ _ h => h) (Or.inl ⟨by rfl, ?_⟩) hHeld ?_ ?_
   rotate_left
   ·rintro w' ⟨s0, s1⟩
    go_simp
    with_reducible rfl
   rotate_left
   ·simp only [Act.put, List.setIfInBounds_toArray, List.set_cons_zero, List.set_cons_succ, i64_w, i32_w]
    rfl
   refine take_ (i := 3) (N := some 16) (v := ?_) (a' := ?_) (tb 9 13) rfl rfl (take_ofW HT_.out HW_.out (by kernel_rfl)) (fun _ _ _ h => h) (Or.inl ⟨by rfl, ?_⟩) hHeld ?_ ?_
   rotate_left
   ·rintro w' ⟨s0, s1⟩
    go_simp
    with_reducible rfl
   rotate_left
   ·simp only [Act.put, List.setIfInBounds_toArray, List.set_cons_zero, List.set_cons_succ, i64_w, i32_w]
    rfl
   refine one_ (i := 1) (N := some 14) (tb 9 15) rfl rfl (one_of HT_.out (by kernel_rfl)) (by decide) (fun K hK => ?_)
   refine goes_ Try.func39 (by kernel_rfl) rfl #[.agg #[.int .i64 a0_0, .slice A0_1 l0_1.length c0_1]] (by rfl) rfl rfl (by (try simp only [List.map_toArray, List.map_cons, List.map_nil]); first | done | rfl | (simp only [List.length_drop, List.length_take]; rfl)) ?_
   with_reducible refine (spec_gmAll.calls kj1 a0_0 _ _ l0_1 t887 _ ?side1 ?side2 A17.out).mono ?_
   (case side1 => repeat (first | exact (Kd.C_below HR0_1.out HB.out) | (with_reducible refine Kd.C_alloc ?_ _) | (with_reducible refine Kd.C_drewN ?_ _) | (with_reducible refine Kd.C_drew ?_)))
   (case side2 => exact HC0_1.out)
   rintro e w20 ⟨v888, rfl, ho0, hb⟩
   refine ⟨_, rfl, ?_⟩
   have n0_ := Aside0.mk (Kd.R_lower (Kd.R_newM (M := fun k_ => (w.heap.size ≤ k_)) ho0 (below_size (zh HB.out)) (fun k_ h_ => h_)) (below_size (zh HB.out)))
   have n1_ := Aside0.mk (blk_below (g := gb884) (o := .cells #[.int .i64 a0_0, .slice A0_1 l0_1.length c0_1] 31 (0, 0)) (zb BK884.out) hb)
   have n2_ := Aside0.mk (blk_below (g := gb885) (o := .cells #[.slice none 0 0, .slice none 0 0] 46 (0, 0)) (zb BK885.out) hb)
   have n3_ := Aside0.mk (below_step (zh HB.out) hb)
   clear BK884
   clear BK885
   clear HB
   have HO889 := n0_
   have BK884 := n1_
   have BK885 := n2_
   have HB := n3_
   clear n0_ n1_ n2_ n3_
   (try clear hb)
   (try clear hb2)
   (try clear hk)
   (try clear hi)
   (try clear ho0)
   obtain ⟨Ao21, co21, eo21⟩ := Kd.R_slice HO889.out
   (first | subst eo21 | (injection eo21 with f1_ f2_ f3_; have f4_ := f1_.symm; have f5_ := f3_.symm; clear f1_ f2_ f3_; subst f4_; subst f5_))
   refine hK.out _ _ ⟨(blk_cell BK884.out 0).trans rfl, (blk_cell BK884.out 1).trans rfl⟩ (fun hHeld => ?_)
   clear hK K
   refine norm_ (a' := ?_) ?_ ?_
   rotate_left
   ·show Act.put _ (some 14) _ = _
    simp only [Act.put, List.setIfInBounds_toArray, List.set_cons_zero, List.set_cons_succ, i64_w, i32_w]
    rfl
   refine one_ (i := 4) (N := some 17) (tb 9 31) rfl rfl (one_of HT_.out (by kernel_rfl)) (by decide) (fun K hK => ?_)
   refine goes_ Try.func60 (by kernel_rfl) rfl #[.slice Ao21 t887.length co21, .int .i64 a0_0] (by rfl) rfl rfl (by (try simp only [List.map_toArray, List.map_cons, List.map_nil]); first | done | rfl | (simp only [List.length_drop, List.length_take]; rfl)) ?_
   with_reducible refine (spec_deSwap.calls kj1 _ _ t887 a0_0 t890 t893 t896 _ ?side1 ?side2 A18.out).mono ?_
   (case side1 => repeat (first | exact (Kd.R_reads' HO889.out).2.2 | (with_reducible refine Kd.C_alloc ?_ _) | (with_reducible refine Kd.C_drewN ?_ _) | (with_reducible refine Kd.C_drew ?_)))
   (case side2 => exact (Kd.R_reads' HO889.out).2.1)
   rintro e w22 ⟨v891, v894, rfl, ho0, ho1, hb⟩
   refine ⟨_, rfl, ?_⟩
   have n0_ := Aside0.mk (Kd.R_below (zr HO889.out) hb)
   have n1_ := Aside0.mk (Kd.V_lower (Kd.V_mono (ok' := fun k_ => (w.heap.size ≤ k_) ∧ some k_ ≠ (.slice Ao21 t887.length co21 : Value).ownBlock ∧ k_ ≠ gb884 ∧ k_ ≠ gb885) ho0 (fun k_ hk_ => ⟨(Nat.le_trans (below_size (zh HB.out)) hk_), (Kd.fresh' (Kd.R_lt (zr HO889.out)) k_ hk_), (Kd.freshB (g := gb884) (o := .cells #[.int .i64 a0_0, .slice A0_1 l0_1.length c0_1] 31 (0, 0)) (zb BK884.out) k_ hk_), (Kd.freshB (g := gb885) (o := .cells #[.slice none 0 0, .slice none 0 0] 46 (0, 0)) (zb BK885.out) k_ hk_)⟩)) (below_size (zh HB.out)))
   have n2_ := Aside0.mk (Kd.V_lower (Kd.V_mono (ok' := fun k_ => (w.heap.size ≤ k_) ∧ some k_ ≠ (.slice Ao21 t887.length co21 : Value).ownBlock ∧ k_ ≠ gb884 ∧ k_ ≠ gb885) ho1 (fun k_ hk_ => ⟨(Nat.le_trans (below_size (zh HB.out)) hk_), (Kd.fresh' (Kd.R_lt (zr HO889.out)) k_ hk_), (Kd.freshB (g := gb884) (o := .cells #[.int .i64 a0_0, .slice A0_1 l0_1.length c0_1] 31 (0, 0)) (zb BK884.out) k_ hk_), (Kd.freshB (g := gb885) (o := .cells #[.slice none 0 0, .slice none 0 0] 46 (0, 0)) (zb BK885.out) k_ hk_)⟩)) (below_size (zh HB.out)))
   have n3_ := Aside0.mk (blk_below (g := gb884) (o := .cells #[.int .i64 a0_0, .slice A0_1 l0_1.length c0_1] 31 (0, 0)) (zb BK884.out) hb)
   have n4_ := Aside0.mk (blk_below (g := gb885) (o := .cells #[.slice none 0 0, .slice none 0 0] 46 (0, 0)) (zb BK885.out) hb)
   have n5_ := Aside0.mk (below_step (zh HB.out) hb)
   clear HO889
   clear BK884
   clear BK885
   clear HB
   have HO889 := n0_
   have HO892 := n1_
   have HO895 := n2_
   have BK884 := n3_
   have BK885 := n4_
   have HB := n5_
   clear n0_ n1_ n2_ n3_ n4_ n5_
   (try clear hb)
   (try clear hb2)
   (try clear hk)
   (try clear hi)
   (try clear ho0)
   (try clear ho1)
   obtain ⟨Ao23, co23, eo23⟩ := Kd.V_slice HO892.out
   (first | subst eo23 | (injection eo23 with f1_ f2_ f3_; have f4_ := f1_.symm; have f5_ := f3_.symm; clear f1_ f2_ f3_; subst f4_; subst f5_))
   obtain ⟨Ao25, co25, eo25⟩ := Kd.V_slice HO895.out
   (first | subst eo25 | (injection eo25 with f1_ f2_ f3_; have f4_ := f1_.symm; have f5_ := f3_.symm; clear f1_ f2_ f3_; subst f4_; subst f5_))
   refine hK.out _ _ ⟨(blk_cell BK884.out 0).trans rfl, (blk_cell BK884.out 1).trans rfl⟩ (fun hHeld => ?_)
   clear hK K
   refine norm_ (a' := ?_) ?_ ?_
   rotate_left
   ·show Act.put _ (some 17) _ = _
    simp only [Act.put, List.setIfInBounds_toArray, List.set_cons_zero, List.set_cons_succ, i64_w, i32_w]
    rfl
   refine zu (i := 5) (N := some 18) (tb 9 63) rfl rfl HT_ ?_
   refine zu (i := 6) (N := some 19) (tb 9 127) rfl rfl HT_ ?_
   refine one_ (i := 7) (N := none) (tb 9 255) rfl rfl (one_of HT_.out (by kernel_rfl)) (by decide) (fun K hK => ?_)
   have hs24 : w22.cell? ⟨gb885, 0, none⟩ = some (.slice none 0 0) := (blk_cell BK885.out 0).trans rfl
   have hfs24 := blk_frozen BK885.out 0
   have hns24_0 := NB884_885.out
   have hms24_0 := NB885_884.out
   have hs26 : w22.cell? ⟨gb885, 1, none⟩ = some (.slice none 0 0) := (blk_cell BK885.out 1).trans rfl
   have hfs26 := blk_frozen BK885.out 1
   have hns26_0 := NB884_885.out
   have hms26_0 := NB885_884.out
   refine skip_ (w1 := ?_) (by rfl) rfl ?_ ?_
   rotate_left
   ·go_simp
    rfl
   refine hK.out _ _ ⟨((cell_far (p := ⟨gb885, _, none⟩) NB884_885.out _).trans (((cell_far (p := ⟨gb885, _, none⟩) NB884_885.out _).trans (hHeld.1)))), ((cell_far (p := ⟨gb885, _, none⟩) NB884_885.out _).trans (((cell_far (p := ⟨gb885, _, none⟩) NB884_885.out _).trans (hHeld.2))))⟩ (fun hHeld => ?_)
   clear hK K
   refine zu (i := 8) (N := some 3) (tb 9 511) rfl rfl HT_ ?_
   refine done_ (done_of HT_.out (by kernel_rfl)) ?_
   try go_wp2
   refine bodyPost_ret (results_ct rfl _ _ gb885 46 #[.slice Ao23 t890.length co23, .slice Ao25 t893.length co25] (0, 0) _ rfl (by (with_reducible repeat (first | refine blk_drewN ?_ _ | refine blk_drew ?_ | refine blk_alloc ?_ _)); refine blk_put (cs := #[.slice Ao23 t890.length co23, .slice none 0 0]) ?_ 1 _ rfl; (with_reducible repeat (first | refine blk_drewN ?_ _ | refine blk_drew ?_ | refine blk_alloc ?_ _)); refine blk_put (cs := #[.slice none 0 0, .slice none 0 0]) ?_ 0 _ rfl; (with_reducible repeat (first | refine blk_drewN ?_ _ | refine blk_drew ?_ | refine blk_alloc ?_ _)); exact BK885.out) Try.underlying46 rfl (by kernel_rfl)) rfl ?_
   exact ⟨_, _, by first | rfl | (simp [*, errW_none, errW_some] <;> rfl), by (with_reducible repeat (first | apply Kd.V_alloc | apply Kd.V_drewN | apply Kd.V_drew)); exact Kd.V_mono (Kd.V_far (p := ⟨gb885, 1, none⟩) (Kd.V_far (p := ⟨gb885, 0, none⟩) (Kd.V_mono HO892.out (fun k_ hk => (⟨hk, hk.2.2.2⟩ : _ ∧ k_ ≠ gb885))) (fun _ hk => hk.2) (.slice Ao23 t890.length co23)) (fun _ hk => hk.2) (.slice Ao25 t893.length co25)) (fun _ hk => hk.1.1), by (with_reducible repeat (first | apply Kd.V_alloc | apply Kd.V_drewN | apply Kd.V_drew)); exact Kd.V_mono (Kd.V_far (p := ⟨gb885, 1, none⟩) (Kd.V_far (p := ⟨gb885, 0, none⟩) (Kd.V_mono HO895.out (fun k_ hk => (⟨hk, hk.2.2.2⟩ : _ ∧ k_ ≠ gb885))) (fun _ hk => hk.2) (.slice Ao23 t890.length co23)) (fun _ hk => hk.2) (.slice Ao25 t893.length co25)) (fun _ hk => hk.1.1), zh HB.out⟩
end Go.Proofs.Ytaacaifiiedoiaa.Q
end
section
namespace Go.Proofs.Ytaacaifiiedoiaa.Q
open Go.RowKit Go.Proofs.YtaacaifiiedoiaaW.PrintWords Go.Proofs.YtaacaifiiedoiaaW.PrintLast Go.Proofs.YtaacaifiiedoiaaW.PrintMore
set_option linter.unusedVariables false
set_option linter.unusedSimpArgs false
def idxO {α : Type} (p : α → Option Bool) : List α → Nat → Option Int
  | [], _ => some (-1)
  | x :: xs, k => (p x).bind fun b => if b = true then some (k : Int) else idxO p xs (k + 1)
def anyO {α : Type} (p : α → Option Bool) : List α → Option Bool
  | [] => some false
  | x :: xs => (p x).bind fun b => if b = true then some true else anyO p xs
theorem anyO_idxO {α : Type} (p : α → Option Bool) (xs : List α) : ∀ (k : Nat) (r : Bool), anyO p xs = some r → ∃ i, idxO p xs k = some i ∧ r = decide (0 ≤ i) := by
  induction xs with
  | nil => intro k r h; simp only [anyO, Option.some.injEq] at h; exact ⟨-1, rfl, by subst h; rfl⟩
  | cons x xs ih =>
    intro k r h
    simp only [anyO] at h
    obtain ⟨b, hb, h⟩ := Option.bind_eq_some_iff.mp h
    cases b with
    | true => rw [if_pos rfl] at h; exact ⟨k, by simp [idxO, hb], by simp only [Option.some.injEq] at h; subst h; simp⟩
    | false =>
      rw [if_neg (by simp)] at h
      obtain ⟨i, hi, hr⟩ := ih (k + 1) r h
      exact ⟨i, by simp [idxO, hb, hi], hr⟩
theorem idxO_step {α : Type} {p : α → Option Bool} {xs : List α} {k : Nat} {r : Int} {x : α} (h : idxO p (xs.drop k) k = some r) (hx : xs[k]? = some x) :
    ∃ b, p x = some b ∧ (b = true → r = k) ∧ (b = false → idxO p (xs.drop (k + 1)) (k + 1) = some r) := by
  rw [show xs.drop k = x :: xs.drop (k + 1) from by
    obtain ⟨hk, rfl⟩ := List.getElem?_eq_some_iff.1 hx; exact List.drop_eq_getElem_cons hk] at h
  simp only [idxO] at h
  obtain ⟨b, hb, h⟩ := Option.bind_eq_some_iff.mp h
  refine ⟨b, hb, ?_, ?_⟩
  · rintro rfl; rw [if_pos rfl] at h; exact (Option.some.inj h).symm
  · rintro rfl; rw [if_neg (by simp)] at h; exact h
def PredK {α : Type} (P : Program) (g : Nat) (lb : Array Value) (d : Kd α) (mkv : List Value → Value) (w : World) (p : α → Option Bool) : Prop :=
  ∀ (W : World) (x : α) (c : List Value) (b : Bool), Below w.heap.size w W → d.K w x c → p x = some b → Calls P g (#[mkv c] ++ lb) W fun e w' => e = .returned (.bool b) ∧ Below w.heap.size w w'
theorem anyO_some {α : Type} {p : α → Option Bool} {q : α → Bool} {xs : List α} (h : ∀ x ∈ xs, p x = some (q x)) : anyO p xs = some (xs.any q) := by
  induction xs with
  | nil => rfl
  | cons x xs ih =>
    simp only [anyO, h x (List.mem_cons_self ..), Option.bind_some]
    rw [ih (fun y hy => h y (List.mem_cons_of_mem _ hy))]
    rw [List.any_cons]
    cases q x <;> rfl
theorem ret_i {a b : Int} (h : a = b) : Ending.returned (.int .i64 a) = .returned (.int .i64 b) := by rw [h]
theorem ret_b {a b : Bool} (h : a = b) : Ending.returned (.bool a) = .returned (.bool b) := by rw [h]
set_option maxHeartbeats 1000000 in
theorem indexFunc_int (p : Int → Option Bool) (g : Nat) (lb : Array Value) (eg : ∀ args w, (callFunc g args).run Try.prog w = .ok (.enter g args) w)
    (A0 : Option Addr) (c0 : Nat) (l0 : List Int) (r : Int) (w : World) (hr0 : Kd.C (Kd.int .i64) w A0 l0.length l0) (hc0 : l0.length ≤ c0)
    (hp : PredK Try.prog g lb (Kd.int .i64) (fun c => c.getD 0 undef) w p) (h : idxO p l0 0 = some r) :
    Calls Try.prog 125 #[.slice A0 l0.length c0, .func (.func g) #[] lb] w fun e w' => e = .returned (.int .i64 r) ∧ Below w.heap.size w w' := by
  have hlen := hr0.2.1
  have HR0 := Aside0.mk hr0
  clear hr0
  have HP := Aside0.mk hp
  clear hp
  have H0 := Aside0.mk h
  clear h
  go_enter Try.func125, Try.ntmps125
  go_wp2
  go_loopg [5, 8] l0.length (fun gg _ s8 wr => ∃ kk : Nat, kk ≤ l0.length ∧ l0.length - kk ≤ gg ∧ s8 = .int .i64 kk ∧ Aside0 (Below w.heap.size w wr) ∧ Aside0 (idxO p (l0.drop kk) kk = some r))
  case atStart => exact ⟨0, Nat.zero_le _, by omega, rfl, ⟨Below.refl _ w⟩, H0⟩
  case round =>
    obtain ⟨kk, hkk, hg, rfl, BW, A⟩ := hrel
    by_cases hlt : kk < l0.length
    · have hltz : (kk : Int) < (l0.length : Int) := by omega
      obtain ⟨ad, c, e, _, hK, hcell⟩ := Kd.C_get HR0.out 0 (kk : Int) (by omega) hltz
      subst e
      have hK1 : c = [.int .i64 (l0.getD kk 0)] := hK
      subst hK1
      have l2 := (BW.out.cell (World.block_lt_of_cell? w _ (hcell 0 _ rfl))).trans (hcell 0 _ rfl)
      clear hcell
      obtain ⟨b, hb, h1, h2⟩ := idxO_step A.out (show l0[kk]? = some (l0.getD kk 0) by rw [List.getD_eq_getElem?_getD, List.getElem?_eq_getElem hlt]; rfl)
      have hcall := HP.out wr _ _ b BW.out hK hb
      have l3 : wr.cell? (ad.add kk) = some (.int .i64 (l0.getD kk 0)) := by simpa [show (Kd.int .i64).sz = 1 from rfl] using l2
      clear l2 hK
      generalize l0.getD kk 0 = y at l3 hcall hb
      have B := Aside0.mk hb
      clear hb
      cases b with
      | true =>
        have E := h1 rfl
        clear h1 h2
        have E' := Aside0.mk E
        clear E
        go_wp2_with (go_at_fn g; refine hcall.mono ?_; rintro e w' ⟨rfl, hb'⟩)
        go_ret
        exact ⟨ret_i E'.out.symm, hb'⟩
      | false =>
        have E := Aside0.mk (h2 rfl)
        clear h1 h2
        go_wp2_with (go_at_fn g; refine hcall.mono ?_; rintro e w' ⟨rfl, hb'⟩)
        go_roundg (l0.length - (kk + 1))
        case measure => omega
        case rel => exact ⟨kk + 1, by omega, by omega, by go_num, ⟨hb'⟩, E⟩
    · have hltz : ¬ (kk : Int) < (l0.length : Int) := by omega
      have : kk = l0.length := by omega
      subst this
      go_wp2
      go_ret
      refine ⟨?_, BW.out⟩
      have h3 := A.out
      rw [List.drop_length] at h3
      have h4 : (-1 : Int) = r := by simpa [idxO] using h3
      exact ret_i h4
set_option maxHeartbeats 1000000 in
theorem containsFunc_int (p : Int → Option Bool) (g : Nat) (lb : Array Value) (eg : ∀ args w, (callFunc g args).run Try.prog w = .ok (.enter g args) w)
    (A0 : Option Addr) (c0 : Nat) (l0 : List Int) (r : Bool) (w : World) (hr0 : Kd.C (Kd.int .i64) w A0 l0.length l0) (hc0 : l0.length ≤ c0)
    (hp : PredK Try.prog g lb (Kd.int .i64) (fun c => c.getD 0 undef) w p) (h : anyO p l0 = some r) :
    Calls Try.prog 110 #[.slice A0 l0.length c0, .func (.func g) #[] lb] w fun e w' => e = .returned (.bool r) ∧ Below w.heap.size w w' := by
  obtain ⟨i, hi, rfl⟩ := anyO_idxO p l0 0 r h
  have hcon := indexFunc_int p g lb eg A0 c0 l0 i w hr0 hc0 hp hi
  clear hr0 hp h hi
  go_enter Try.func110, Try.ntmps110
  go_wp2_with (go_at_call 125; refine hcon.mono ?_; rintro e w' ⟨rfl, hb'⟩)
  go_ret
  exact ⟨rfl, hb'⟩
def impl_areIn_1.f (lo hi n : Int) : Option Bool := (impl_within.f n lo hi).bind fun b => some (!b)
set_option maxHeartbeats 1000000 in
theorem impl_areIn_1.pred (lo hi : Int) (b1 b2 : Nat) (w : World) (h1 : w.cell? ⟨b1, 0, none⟩ = some (.int .i64 lo)) (h2 : w.cell? ⟨b2, 0, none⟩ = some (.int .i64 hi)) :
    PredK Try.prog 131 #[.pointer (some ⟨b1, 0, none⟩), .pointer (some ⟨b2, 0, none⟩)] (Kd.int .i64) (fun c => c.getD 0 undef) w (impl_areIn_1.f lo hi) := by
  intro W x c b hb hK hp
  have hK1 : c = [.int .i64 x] := hK
  subst hK1
  show Calls Try.prog 131 #[.int .i64 x, .pointer (some ⟨b1, 0, none⟩), .pointer (some ⟨b2, 0, none⟩)] W _
  have q1 := (hb.cell (World.block_lt_of_cell? w _ h1)).trans h1
  have q2 := (hb.cell (World.block_lt_of_cell? w _ h2)).trans h2
  obtain ⟨t, ht, hr⟩ := Option.bind_eq_some_iff.mp hp
  have hr' : (!t) = b := Option.some.inj hr
  have hB := Aside0.mk hb
  have hT := Aside0.mk ht
  have hE := Aside0.mk hr'
  clear h1 h2 hb hK hp hr hr' ht
  go_enter Try.func131, Try.ntmps131
  go_wp2_with (go_at_call 43; refine (impl_within.calls _ _ _ _ _ hT.out).mono ?_; rintro e w' ⟨rfl, nd, rfl⟩)
  go_ret
  exact ⟨ret_b hE.out, pw_below_drewN hB.out _⟩
set_option maxHeartbeats 1000000 in
def impl_areIn.f (l0 : List Int) (a1 a2 : Int) : Option Bool := (anyO (impl_areIn_1.f a1 a2) l0).bind fun b => some (!b)
set_option maxHeartbeats 1000000 in
theorem impl_areIn.calls (A0 : Option Addr) (c0 : Nat) (l0 : List Int) (a1 a2 : Int) (r : Bool) (w : World) (hr0 : Kd.C (Kd.int .i64) w A0 l0.length l0) (hc0 : l0.length ≤ c0) (h : impl_areIn.f l0 a1 a2 = some r) :
    Calls Try.prog 122 #[.slice A0 l0.length c0, .int .i64 a1, .int .i64 a2] w fun e w' => e = .returned (.bool r) ∧ Below w.heap.size w w' := by
  have eg : ∀ args w, (callFunc 131 args).run Try.prog w = .ok (.enter 131 args) w := enters_of Try.func131 (by kernel_rfl) rfl
  obtain ⟨t, ht, hr⟩ := Option.bind_eq_some_iff.mp h
  have hE := Aside0.mk (show (!t) = r from Option.some.inj hr)
  have hT := Aside0.mk ht
  have HR := Aside0.mk hr0
  clear h hr ht hr0
  go_enter Try.func122, Try.ntmps122
  go_wp2_with fail
  refine (containsFunc_int (impl_areIn_1.f a1 a2) 131 #[.pointer (some ⟨w.heap.size, 0, none⟩), .pointer (some ⟨w.heap.size + 1, 0, none⟩)] eg A0 c0 l0 t _ ?_ hc0 ?_ hT.out).mono ?_
  · exact Kd.C_below HR.out (((Below.refl _ w).alloc (Nat.le_refl _) _).alloc (by simp) _)
  · exact impl_areIn_1.pred a1 a2 _ _ _ (by go_simp) (by go_simp)
  · rintro e w' ⟨rfl, hb⟩
    go_wp2
    go_ret
    exact ⟨ret_b hE.out, (((Below.refl _ w).alloc (Nat.le_refl _) _).alloc (by simp) _).trans (hb.mono (by simp; omega))⟩
set_option maxHeartbeats 1000000 in
theorem impl_votesBy_11.pred (mask : Int) (b1 : Nat) (w : World) (h1 : w.cell? ⟨b1, 0, none⟩ = some (.int .i64 mask)) :
    PredK Try.prog 111 #[.pointer (some ⟨b1, 0, none⟩)] (Kd.int .i64) (fun c => c.getD 0 undef) w (fun m => some (Go.bits .and .i64 mask m == m)) := by
  intro W x c b hb hK hp
  have hK1 : c = [.int .i64 x] := hK
  subst hK1
  show Calls Try.prog 111 #[.int .i64 x, .pointer (some ⟨b1, 0, none⟩)] W _
  have q1 := (hb.cell (World.block_lt_of_cell? w _ h1)).trans h1
  have hB := Aside0.mk hb
  have hE := Aside0.mk (Option.some.inj hp)
  clear h1 hb hK hp
  go_enter Try.func111, Try.ntmps111
  go_wp2
  go_ret
  exact ⟨ret_b hE.out, hB.out⟩
set_option maxHeartbeats 1000000 in
theorem impl_votesBy_1.pred (l : List Int) (A : Option Addr) (c b1 : Nat) (w : World) (h1 : w.cell? ⟨b1, 0, none⟩ = some (.slice A l.length c)) (hC : Kd.C (Kd.int .i64) w A l.length l) (hc : l.length ≤ c) :
    PredI Try.prog 109 #[] #[.pointer (some ⟨b1, 0, none⟩)] w (fun mask => anyO (fun m => some (Go.bits .and .i64 mask m == m)) l) := by
  intro W x b hb hp
  show Calls Try.prog 109 #[.int .i64 x, .pointer (some ⟨b1, 0, none⟩)] W _
  have eg : ∀ args w, (callFunc 111 args).run Try.prog w = .ok (.enter 111 args) w := enters_of Try.func111 (by kernel_rfl) rfl
  have q1 := (hb.cell (World.block_lt_of_cell? w _ h1)).trans h1
  have hR := Aside0.mk (Kd.C_below hC hb)
  have hE := Aside0.mk hp
  clear h1 hb hC hp
  have q2 : (W.alloc (.cells #[.int .i64 x] 3)).cell? ⟨b1, 0, none⟩ = some (.slice A l.length c) := (Below.cell ((Below.refl _ W).alloc (Nat.le_refl _) _) (World.block_lt_of_cell? W _ q1)).trans q1
  go_enter Try.func109, Try.ntmps109
  go_wp2_with fail
  refine (containsFunc_int (fun m => some (Go.bits .and .i64 x m == m)) 111 #[.pointer (some ⟨W.heap.size, 0, none⟩)] eg A c l b _ ?_ hc ?_ hE.out).mono ?_
  · exact Kd.C_below hR.out ((Below.refl _ W).alloc (Nat.le_refl _) _)
  · exact impl_votesBy_11.pred x _ _ (by go_simp)
  · rintro e w' ⟨rfl, hb⟩
    go_wp2
    go_ret
    exact ⟨rfl, ((Below.refl _ W).alloc (Nat.le_refl _) _).trans (hb.mono (by simp))⟩
def votesOf_votesBy.f (k : Nat) (a0 : Int) (l1 : List Int) : Option (Int × List Bool) := impl_votesOf.f k a0 (fun mask => anyO (fun m => some (Go.bits .and .i64 mask m == m)) l1)
theorem votesOf_votesBy.calls (k : Nat) (a0 : Int) (A1 : Option Addr) (c1 : Nat) (l1 : List Int) (r1 : Int) (r2 : List Bool) (w : World) (hr1 : Kd.C (Kd.int .i64) w A1 l1.length l1) (hc1 : l1.length ≤ c1) (gb : Nat) (hcell : w.cell? ⟨gb, 0, none⟩ = some (.slice A1 l1.length c1)) (h : votesOf_votesBy.f k a0 l1 = some (r1, r2)) :
    Calls Try.prog 108 #[.int .i64 a0, .func (.func 109) #[] #[.pointer (some ⟨gb, 0, none⟩)]] w fun e w' => ∃ v1_ : Value, e = .returned (.agg #[.int .i64 r1, v1_]) ∧ Kd.R Kd.bool 4 w' w.heap.size (fun _ => True) v1_ r2 ∧ Below w.heap.size w w' :=
  impl_votesOf.calls k a0 _ 109 #[] #[.pointer (some ⟨gb, 0, none⟩)] (enters_of Try.func109 (by kernel_rfl) rfl) r1 r2 w (impl_votesBy_1.pred l1 A1 c1 gb w hcell hr1 hc1) h
end Go.Proofs.Ytaacaifiiedoiaa.Q
end

/- Part 6 of the proof of FnExactFirstSwap: what it leans on (no condition). -/
import Derived.Test.YtaacaifiiedoiaaKFnExactFirstSwap5
import Derived.ProofKit
import Derived.OpenShut
import Derived.ShutString
import Derived.ChangeOld
import Derived.SizedLaws
import Derived.Deep.Slices
import Derived.Deep.Strs
section
namespace Go.Proofs.Ytaacaifiiedoiaa.Q
open Go.RowKit Go.Proofs.YtaacaifiiedoiaaW.PrintWords Go.Proofs.YtaacaifiiedoiaaW.PrintLast Go.Proofs.YtaacaifiiedoiaaW.PrintMore
attribute [local go_sem] max2_int min2_int max_two min_two max_three min_three max_four min_four
set_option linter.unusedVariables false
set_option linter.unusedSimpArgs false
section
variable (a1 : Int → Int → Int → Int → Option Bool)
mutual
def impl_votes_firstOfTwo.l0 : Nat → List Int → List Int → Int → Int → Int → List Bool → Option ((List (List Int)) × (List (List Int)) × Bool)
 | 0, _, _, _, _, _, _ => none
 | k + 1, x6, x16, x17, x18, x649000, x649001 => if x18 < x17 then (if 0 ≤ x18 then (if x18 < (x16.length : Int) then (if x18 ≤ (x6.length : Int) then ((some (x6.drop (x18 : Int).toNat : List Int)).bind fun y654 => (impl_votes_firstOfTwo.l1 k x6 (rd x16 x18) x16 x17 x18 y654 (y654.length : Int) 0 x649000 x649001)) else (none)) else (none)) else (none)) else (some (([] : List (List Int)), ([] : List (List Int)), false))
def impl_votes_firstOfTwo.l1 : Nat → List Int → Int → List Int → Int → Int → List Int → Int → Int → Int → List Bool → Option ((List (List Int)) × (List (List Int)) × Bool)
 | 0, _, _, _, _, _, _, _, _, _, _ => none
 | k + 1, x6, x8, x16, x17, x18, x25, x26, x27, x649000, x649001 => if x27 < x26 then (if 0 ≤ x27 then (if x27 < (x25.length : Int) then (if 0 ≤ x8 then (if x8 < (x649001.length : Int) then (if rdOf false x649001 x8 = true then (if 0 ≤ (rd x25 x27) then (if (rd x25 x27) < (x649001.length : Int) then (impl_votes_firstOfTwo.j2 k x6 x8 (rd x25 x27) x16 x17 x18 x25 x26 x27 (!(rdOf false x649001 (rd x25 x27))) x649000 x649001) else (none)) else (none)) else (impl_votes_firstOfTwo.j2 k x6 x8 (rd x25 x27) x16 x17 x18 x25 x26 x27 true x649000 x649001)) else (none)) else (none)) else (none)) else (none)) else (impl_votes_firstOfTwo.l0 k x6 x16 x17 (wrap64 (x18 + 1)) x649000 x649001)
def impl_votes_firstOfTwo.j2 : Nat → List Int → Int → Int → List Int → Int → Int → List Int → Int → Int → Bool → Int → List Bool → Option ((List (List Int)) × (List (List Int)) × Bool)
 | 0, _, _, _, _, _, _, _, _, _, _, _, _ => none
 | k + 1, x6, x8, x10, x16, x17, x18, x25, x26, x27, x44, x649000, x649001 => if x44 = true then (impl_votes_firstOfTwo.l1 k x6 x8 x16 x17 x18 x25 x26 (wrap64 (x27 + 1)) x649000 x649001) else (impl_votes_firstOfTwo.l2 k x6 x8 x10 x16 x17 x18 x25 x26 x27 x6 (x6.length : Int) 0 x649000 x649001)
def impl_votes_firstOfTwo.l2 : Nat → List Int → Int → Int → List Int → Int → Int → List Int → Int → Int → List Int → Int → Int → Int → List Bool → Option ((List (List Int)) × (List (List Int)) × Bool)
 | 0, _, _, _, _, _, _, _, _, _, _, _, _, _, _ => none
 | k + 1, x6, x8, x10, x16, x17, x18, x25, x26, x27, x45, x46, x47, x649000, x649001 => if x47 < x46 then (if 0 ≤ x47 then (if x47 < (x45.length : Int) then (if 0 ≤ (rd x45 x47) then (if (rd x45 x47) < (x649001.length : Int) then (if rdOf false x649001 (rd x45 x47) = true then (impl_votes_firstOfTwo.j4 k x6 x8 x10 x47 (rd x45 x47) x16 x17 x18 x25 x26 x27 x45 x46 x47 true x649000 x649001) else (if (Go.bits .and .i64 (rd x45 x47) (Go.bits .and .i64 x8 x10)) = (Go.bits .and .i64 x8 x10) then (impl_votes_firstOfTwo.j4 k x6 x8 x10 x47 (rd x45 x47) x16 x17 x18 x25 x26 x27 x45 x46 x47 ((Go.bits .andNot .i64 (rd x45 x47) (Go.bits .or .i64 x8 x10)) != 0) x649000 x649001) else (impl_votes_firstOfTwo.j4 k x6 x8 x10 x47 (rd x45 x47) x16 x17 x18 x25 x26 x27 x45 x46 x47 true x649000 x649001))) else (none)) else (none)) else (none)) else (none)) else (impl_votes_firstOfTwo.l1 k x6 x8 x16 x17 x18 x25 x26 (wrap64 (x27 + 1)) x649000 x649001)
def impl_votes_firstOfTwo.j4 : Nat → List Int → Int → Int → Int → Int → List Int → Int → Int → List Int → Int → Int → List Int → Int → Int → Bool → Int → List Bool → Option ((List (List Int)) × (List (List Int)) × Bool)
 | 0, _, _, _, _, _, _, _, _, _, _, _, _, _, _, _, _, _ => none
 | k + 1, x6, x8, x10, x11, x12, x16, x17, x18, x25, x26, x27, x45, x46, x47, x75, x649000, x649001 => if x75 = true then (impl_votes_firstOfTwo.l2 k x6 x8 x10 x16 x17 x18 x25 x26 x27 x45 x46 (wrap64 (x47 + 1)) x649000 x649001) else (if 0 ≤ (Go.bits .or .i64 (Go.bits .and .i64 x8 x10) (Go.bits .andNot .i64 (Go.bits .or .i64 x8 x10) x12)) then (if (Go.bits .or .i64 (Go.bits .and .i64 x8 x10) (Go.bits .andNot .i64 (Go.bits .or .i64 x8 x10) x12)) < (x649001.length : Int) then (if (rdOf false x649001 (Go.bits .or .i64 (Go.bits .and .i64 x8 x10) (Go.bits .andNot .i64 (Go.bits .or .i64 x8 x10) x12)) = true) then (impl_votes_firstOfTwo.l2 k x6 x8 x10 x16 x17 x18 x25 x26 x27 x45 x46 (wrap64 (x47 + 1)) x649000 x649001) else (if 0 ≤ x11 then (if x11 ≤ (x6.length : Int) then ((slices_Contains_int_int.f k (x6.drop (x11 : Int).toNat) (Go.bits .or .i64 (Go.bits .and .i64 x8 x10) (Go.bits .andNot .i64 (Go.bits .or .i64 x8 x10) x12))).bind fun t668 => (if t668 = true then ((a1 x8 x10 x12 (Go.bits .or .i64 (Go.bits .and .i64 x8 x10) (Go.bits .andNot .i64 (Go.bits .or .i64 x8 x10) x12))).bind fun t669 => (if t669 = true then ((impl_pairs.f k (([x8, x10] : List Int)) (([x12, Go.bits .or .i64 (Go.bits .and .i64 x8 x10) (Go.bits .andNot .i64 (Go.bits .or .i64 x8 x10) x12)] : List Int))).bind fun bt676 => (some (bt676.1, bt676.2, true))) else (impl_votes_firstOfTwo.l2 k x6 x8 x10 x16 x17 x18 x25 x26 x27 x45 x46 (wrap64 (x47 + 1)) x649000 x649001))) else (impl_votes_firstOfTwo.l2 k x6 x8 x10 x16 x17 x18 x25 x26 x27 x45 x46 (wrap64 (x47 + 1)) x649000 x649001))) else (none)) else (none))) else (none)) else (none))
end
def impl_votes_firstOfTwo.f (k : Nat) (a0_0 : Int) (l0_1 : List Bool) (a1 : Int → Int → Int → Int → Option Bool) : Option ((List (List Int)) × (List (List Int)) × Bool) := (impl_votes_ordered.f k a0_0 l0_1).bind fun t650 => (impl_votes_firstOfTwo.l0 a1 k t650 t650 (t650.length : Int) 0 a0_0 l0_1)
set_option maxHeartbeats 8000000 in
set_option maxRecDepth 100000 in
theorem impl_votes_firstOfTwo.calls (k : Nat) (a0_0 : Int) (A0_1 : Option Addr) (c0_1 : Nat) (l0_1 : List Bool) (a1 : Int → Int → Int → Int → Option Bool) (g_ : Nat) (fa_ lb_ : Array Value) (eg_ : ∀ args w, (callFunc g_ args).run Try.prog w = .ok (.enter g_ args) w) (r1 : List (List Int)) (r2 : List (List Int)) (r3 : Bool) (w : World) (hp0_ : PredI4 Try.prog g_ fa_ lb_ w a1) (hr0_1 : Kd.C Kd.bool w A0_1 l0_1.length l0_1) (hc0_1 : l0_1.length ≤ c0_1) (h : impl_votes_firstOfTwo.f k a0_0 l0_1 a1 = some (r1, r2, r3)) :
  Calls Try.prog 64 #[.agg #[.int .i64 a0_0, .slice A0_1 l0_1.length c0_1], .func (.func g_) fa_ lb_] w fun e w' => ∃ v0_ v1_ : Value, e = .returned (.tuple #[.agg #[v0_, v1_], .bool r3]) ∧ ∃ ow_ : Nat → Bool, Kd.S (Kd.slice 3 (Kd.int .i64)) 71 w' w.heap.size (fun k_ => ow_ k_ = true) v0_ r1 ∧ Kd.S (Kd.slice 3 (Kd.int .i64)) 71 w' w.heap.size (fun k_ => ow_ k_ = false) v1_ r2 ∧ Below w.heap.size w w' := by
 have hp_ := Aside0.mk hp0_
 clear hp0_
 have hu62 := Try.underlying62
 have hu46 := Try.underlying46
 have HR0_1 := Aside0.mk hr0_1
 have HC0_1 := Aside0.mk hc0_1
 clear hr0_1 hc0_1
 have HB := Aside0.mk (Below.refl w.heap.size w)
 have H : ((impl_votes_ordered.f k a0_0 l0_1).bind fun t650 => (impl_votes_firstOfTwo.l0 a1 k t650 t650 (t650.length : Int) 0 a0_0 l0_1)) = some (r1, r2, r3) := h
 clear h
 replace H := Option.bind_eq_some_iff.mp H
 obtain ⟨t650, A30, H⟩ := H
 replace H : (impl_votes_firstOfTwo.l0 a1 k t650 t650 (t650.length : Int) 0 a0_0 l0_1) = some (r1, r2, r3) := H
 have A3 := Aside0.mk A30
 clear A30
 have H' := Aside0.mk H
 clear H
 go_enter Try.func64, Try.ntmps64
 go_wp2_with (first | ((with_reducible refine gate_dst (N := 2) rfl ?_); refine box_event ?hg (N := 2) ?hd (cs := #[.int .i64 a0_0, .slice A0_1 l0_1.length c0_1]) (t := 62) ?hr ?_; (case hd => rfl); (case hg => rfl); (case hr => first | (go_simp; done) | (go_simp; rfl)); intro gb648 hg w4 hbox hb; have n2_ := Aside0.mk ((by rw [hg]; exact (below_size (zh HB.out)) : w.heap.size ≤ gb648)); replace HB := Aside0.mk (below_step (zh HB.out) hb); have BK648 := Aside0.mk hbox; have GW648 := n2_; have GE648 := n2_; clear n2_ hb hbox hg) | ((with_reducible refine gate_dst (N := 4) rfl ?_); refine box_event ?hg (N := 4) ?hd (cs := #[.slice none 0 0, .slice none 0 0]) (t := 46) ?hr ?_; (case hd => rfl); (case hg => rfl); (case hr => first | (go_simp; done) | (go_simp; rfl)); intro gb649 hg w5 hbox hb; have n0_ := Aside0.mk (blk_below (g := gb648) (o := .cells #[.int .i64 a0_0, .slice A0_1 l0_1.length c0_1] 62 (0, 0)) (zb BK648.out) hb); have n1_ := Aside0.mk (below_step (zh HB.out) hb); have n2_ := Aside0.mk (hbox); have n3_ := Aside0.mk ((by rw [hg]; exact (below_size (zh HB.out)) : w.heap.size ≤ gb649)); have n4_ := Aside0.mk ((by rw [hg]; exact (below_size (zh HB.out)) : w.heap.size ≤ gb649)); have n5_ := Aside0.mk ((by rw [hg]; exact Nat.ne_of_lt (blk_lt (g := gb648) (o := .cells #[.int .i64 a0_0, .slice A0_1 l0_1.length c0_1] 62 (0, 0)) (zb BK648.out)) : gb648 ≠ gb649)); have n6_ := Aside0.mk ((by rw [hg]; exact Nat.ne_of_gt (blk_lt (g := gb648) (o := .cells #[.int .i64 a0_0, .slice A0_1 l0_1.length c0_1] 62 (0, 0)) (zb BK648.out)) : gb649 ≠ gb648)); clear BK648; clear HB; have BK648 := n0_; have HB := n1_; have BK649 := n2_; have GW649 := n3_; have GE649 := n4_; have NB648_649 := n5_; have NB649_648 := n6_; clear n0_ n1_ n2_ n3_ n4_ n5_ n6_; clear hb hbox hg; have hnb6 := NB648_649.out; have hnc6 := NB649_648.out; have hcz7_0 : w5.cell? ⟨gb648, 0, none⟩ = some (.int .i64 a0_0) := (blk_cell BK648.out 0).trans rfl; have hcz7_1 : w5.cell? ⟨gb648, 1, none⟩ = some (.slice A0_1 l0_1.length c0_1) := (blk_cell BK648.out 1).trans rfl; have hfz7_0 := blk_frozen BK648.out 0; have hfz7_1 := blk_frozen BK648.out 1) | ((with_reducible refine gate_callee (f := 96) rfl ?_); refine goesL_ (some 15) rfl rfl Try.func96 (by kernel_rfl) rfl #[.agg #[.int .i64 a0_0, .slice A0_1 l0_1.length c0_1]] rfl (by (try simp only [List.map_toArray, List.map_cons, List.map_nil]); first | done | rfl | (simp only [List.length_drop, List.length_take]; rfl)) ?_; (with_reducible refine (impl_votes_ordered.calls k a0_0 _ _ l0_1 t650 _ ?side1 ?side2 A3.out).mono ?_); (case side1 => repeat (first | exact (Kd.C_below HR0_1.out HB.out) | (with_reducible refine Kd.C_alloc ?_ _) | (with_reducible refine Kd.C_drewN ?_ _) | (with_reducible refine Kd.C_drew ?_))); (case side2 => exact HC0_1.out); rintro e w8 ⟨v651, rfl, ho0, hb⟩; refine ⟨_, rfl, ?_⟩; have n0_ := Aside0.mk (Kd.R_lower ho0 (below_size (zh HB.out))); have n1_ := Aside0.mk (blk_below (g := gb648) (o := .cells #[.int .i64 a0_0, .slice A0_1 l0_1.length c0_1] 62 (0, 0)) (zb BK648.out) hb); have n2_ := Aside0.mk (blk_below (g := gb649) (o := .cells #[.slice none 0 0, .slice none 0 0] 46 (0, 0)) (zb BK649.out) hb); have n3_ := Aside0.mk (below_step (zh HB.out) hb); clear BK648; clear BK649; clear HB; have HO652 := n0_; have BK648 := n1_; have BK649 := n2_; have HB := n3_; clear n0_ n1_ n2_ n3_; (try clear hb); (try clear hb2); (try clear hk); (try clear hi); (try clear ho0); obtain ⟨Ao9, co9, eo9⟩ := Kd.R_slice HO652.out; subst eo9))
 go_loopg [18] k (fun kq v18 w' => ∃ (x18_1 : Int), v18 = .int .i64 x18_1 ∧ Aside0 (impl_votes_firstOfTwo.l0 a1 kq t650 t650 (t650.length : Int) x18_1 a0_0 l0_1 = some (r1, r2, r3)) ∧ Aside0 (kq ≤ k) ∧ Aside0 (Kd.R (Kd.int .i64) 3 w' w.heap.size (fun _ => True) (.slice Ao9 t650.length co9) t650) ∧ Aside0 (Kd.R (Kd.int .i64) 3 w' w.heap.size (fun _ => True) (.slice Ao9 t650.length co9) t650) ∧ Aside0 (w'.heap[gb648]? = some (.cells #[.int .i64 a0_0, (.slice A0_1 l0_1.length c0_1)] 62 (0, 0))) ∧ Aside0 (w'.heap[gb649]? = some (.cells #[(.slice none 0 0), (.slice none 0 0)] 46 (0, 0))) ∧ Aside0 (Below w.heap.size w w'))
 case atStart => exact ⟨(0), (by first | rfl | (simp; done) | (simp [*]; done)), H', ⟨Nat.le_refl _⟩, ⟨zr HO652.out⟩, ⟨zr HO652.out⟩, ⟨zb BK648.out⟩, ⟨zb BK649.out⟩, ⟨zh HB.out⟩⟩
 case round =>
  clear H'
  try clear p2
  try clear c6
  try clear c9
  try clear hcz7_0
  try clear hcz7_1
  try clear hfz7_0
  try clear hfz7_1
  obtain ⟨x18_1, rfl, HA, HK1, HO_6, HO_16, BK648, BK649, HB⟩ := hrel
  cases gk with
  | zero => exact absurd HA.out (by simp [impl_votes_firstOfTwo.l0])
  | succ k1 =>
   have H := HA.out
   clear HA
   simp only [impl_votes_firstOfTwo.l0] at H
   by_cases c10 : x18_1 < (t650.length : Int)
   ·rw [if_pos c10] at H
    have c10b0 : decide (x18_1 < (t650.length : Int)) = true := decide_eq_true c10
    clear c10
    by_cases c11 : 0 ≤ x18_1
    ·rw [if_pos c11] at H
     have c11b0 : decide (0 ≤ x18_1) = true := decide_eq_true c11
     clear c11
     by_cases c12 : x18_1 < (t650.length : Int)
     ·rw [if_pos c12] at H
      have c12b0 : decide (x18_1 < (t650.length : Int)) = true := decide_eq_true c12
      clear c12
      have c13b0 := eq_true (of_decide_eq_true (by first | (with_reducible assumption) | assumption) : 0 ≤ x18_1)
      by_cases c14 : x18_1 ≤ (t650.length : Int)
      ·rw [if_pos c14] at H
       have c14b0 := eq_true c14
       have c14b1 : decide (x18_1 ≤ (t650.length : Int)) = true := decide_eq_true c14
       clear c14
       obtain ⟨y654, hy654⟩ : ∃ y_ : List Int, y_ = (t650.drop (x18_1 : Int).toNat) := ⟨_, rfl⟩
       replace H : (impl_votes_firstOfTwo.l1 a1 k1 t650 (rd t650 x18_1) t650 (t650.length : Int) x18_1 y654 (y654.length : Int) 0 a0_0 l0_1) = some (r1, r2, r3) := by first | (rw [hy654]; with_reducible exact H) | (have H2_ := (Option.bind_some _ _).symm.trans H; rw [hy654]; with_reducible exact H2_) | (have H2_ := (Option.bind_some _ _).symm.trans H; with_reducible exact H2_) | with_reducible exact H | (rw [hy654]; exact H) | exact H
       have Ny654 := Aside0.mk hy654
       clear hy654
       have H' := Aside0.mk H
       clear H
       have p653 : 0 ≤ (x18_1 : Int) := of_decide_eq_true (by first | (with_reducible assumption) | assumption)
       have q653 : x18_1 < (t650.length : Int) := of_decide_eq_true (by first | (with_reducible assumption) | assumption)
       obtain ⟨ad653, e653, hx653_0⟩ := Kd.at_int (Kd.R_reads' HO_16.out).2.2 x18_1 p653 q653
       cases e653
       replace p653 := eq_true p653
       replace q653 := eq_true q653
       have q15 : (x18_1 : Int) ≤ ((t650.length : Int) : Int) := of_decide_eq_true (by first | (with_reducible assumption) | assumption)
       obtain ⟨i015, hi015, _, hsz15, _⟩ := info_parts info3
       have hroom15 : t650.length ≤ co9 := (Kd.R_reads' HO_6.out).2.1
       have hC15 : Kd.C (Kd.int .i64) _ (some ad653) t650.length t650 := (Kd.R_reads' HO_6.out).2.2
       have q015 : (0 : Int) ≤ (x18_1 : Int) := of_decide_eq_true (by first | (with_reducible assumption) | assumption)
       have hcut15 := cut_from (P := Try.prog) 71 3 .i64 Try.underlying71 hi015 1 hsz15 (some ad653) t650.length co9 x18_1 q015 q15
       have hr15 := Kd.C_drop (m := (x18_1 : Int).toNat) (c := co9) hC15 (by omega) hroom15
       obtain ⟨A657, hA15⟩ : ∃ A1, A1 = (if co9 = (x18_1 : Int).toNat then (some ad653) else ((some ad653) : Option Addr).map (·.add ((x18_1 : Int).toNat * 1))) := ⟨_, rfl⟩
       obtain ⟨c15, hc15⟩ : ∃ c1, c1 = co9 - (x18_1 : Int).toNat := ⟨_, rfl⟩
       have hy15 : y654.length = t650.length - (x18_1 : Int).toNat := (by rw [Ny654.out, List.length_drop] <;> omega)
       rw [show (t650).drop (x18_1 : Int).toNat = y654 from Ny654.out.symm] at hr15
       replace hr15 : Kd.C (Kd.int .i64) _ A657 y654.length y654 := (by rw [hA15]; exact hr15)
       rw [← hy15, ← hA15, ← hc15] at hcut15
       have HR657 := Aside0.mk hr15
       have HC657 := Aside0.mk (show y654.length ≤ c15 from by rw [hy15, hc15]; exact Nat.sub_le_sub_right hroom15 _)
       clear hr15 hC15 hroom15 hi015 hsz15 hc15
       have KY15 := Aside0.mk hy15
       have KA15 := Aside0.mk hA15
       clear hy15 hA15
       have KL15 := Aside0.mk (show (x18_1 : Int).toNat ≤ t650.length from by omega)
       replace q15 := eq_true q15
       go_wp2
       go_loopg [27] k1 (fun kq v27 w' => ∃ (x27_2 : Int), v27 = .int .i64 x27_2 ∧ Aside0 (impl_votes_firstOfTwo.l1 a1 kq t650 (rd t650 x18_1) t650 (t650.length : Int) x18_1 y654 (y654.length : Int) x27_2 a0_0 l0_1 = some (r1, r2, r3)) ∧ Aside0 (kq ≤ k1) ∧ Aside0 (Kd.R (Kd.int .i64) 3 w' w.heap.size (fun _ => True) (.slice (some ad653) t650.length co9) t650) ∧ Aside0 (Kd.R (Kd.int .i64) 3 w' w.heap.size (fun _ => True) (.slice (some ad653) t650.length co9) t650) ∧ Aside0 (w'.heap[gb648]? = some (.cells #[.int .i64 a0_0, (.slice A0_1 l0_1.length c0_1)] 62 (0, 0))) ∧ Aside0 (w'.heap[gb649]? = some (.cells #[(.slice none 0 0), (.slice none 0 0)] 46 (0, 0))) ∧ Aside0 (Kd.C (Kd.int .i64) w' A657 y654.length y654) ∧ Aside0 (Below w.heap.size w w'))
       case atStart => exact ⟨(0), (by first | rfl | (simp; done) | (simp [*]; done)), H', ⟨Nat.le_refl _⟩, ⟨zr HO_6.out⟩, ⟨zr HO_16.out⟩, ⟨zb BK648.out⟩, ⟨zb BK649.out⟩, ⟨by repeat (first | (with_reducible exact HR657.out) | (with_reducible refine Kd.C_alloc ?_ _) | (with_reducible refine Kd.C_drewN ?_ _) | (with_reducible refine Kd.C_drew ?_) | exact HR657.out)⟩, ⟨zh HB.out⟩⟩
       case round =>
        clear H'
        try clear c1
        try clear q1
        try clear p2
        try clear c6
        try clear p6
        try clear q6
        try clear hx6
        try clear c9
        try clear c10
        try clear c10b0
        try clear c11
        try clear c11b0
        try clear c12
        try clear c12b0
        try clear c13
        try clear c13b0
        try clear c14
        try clear c14b0
        try clear c14b1
        try clear c15
        try clear q15
        try clear hcz7_0
        try clear hcz7_1
        try clear hfz7_0
        try clear hfz7_1
        try clear hx653_0
        try clear p2
        try clear p653
        try clear q015
        try clear q15
        try clear q653
        obtain ⟨x27_2, rfl, HA, HK2, HO_6, HO_16, BK648, BK649, HR657, HB⟩ := hrel
        cases gk with
        | zero => exact absurd HA.out (by simp [impl_votes_firstOfTwo.l1])
        | succ k2 =>
         have H := HA.out
         clear HA
         simp only [impl_votes_firstOfTwo.l1] at H
         by_cases c16 : x27_2 < (y654.length : Int)
         ·rw [if_pos c16] at H
          have c16b0 : decide (x27_2 < (y654.length : Int)) = true := decide_eq_true c16
          clear c16
          by_cases c17 : 0 ≤ x27_2
          ·rw [if_pos c17] at H
           have c17b0 : decide (0 ≤ x27_2) = true := decide_eq_true c17
           clear c17
           by_cases c18 : x27_2 < (y654.length : Int)
           ·rw [if_pos c18] at H
            have c18b0 : decide (x27_2 < (y654.length : Int)) = true := decide_eq_true c18
            clear c18
            have HC19 := Aside0.mk H
            clear H
            have p658 : 0 ≤ (x27_2 : Int) := of_decide_eq_true (by first | (with_reducible assumption) | assumption)
            have q658 : x27_2 < (y654.length : Int) := of_decide_eq_true (by first | (with_reducible assumption) | assumption)
            obtain ⟨ad658, e658, hx658_0⟩ := Kd.at_int HR657.out x27_2 p658 q658
            cases e658
            (try replace hx658_0 := (HB.out.cell (World.block_lt_of_cell? w _ hx658_0)).trans hx658_0)
            replace p658 := eq_true p658
            replace q658 := eq_true q658
            go_upto_region 8 with (fail)
            go_cut [44] (fun v44 wc => ∃ (kq : Nat) (x44_18 : Bool), v44 = .bool x44_18 ∧ Aside0 (impl_votes_firstOfTwo.j2 a1 kq t650 (rd t650 x18_1) (rd y654 x27_2) t650 (t650.length : Int) x18_1 y654 (y654.length : Int) x27_2 x44_18 a0_0 l0_1 = some (r1, r2, r3)) ∧ Aside0 (kq ≤ k2) ∧ Aside0 (Kd.R (Kd.int .i64) 3 wc w.heap.size (fun _ => True) (.slice (some ad653) t650.length co9) t650) ∧ Aside0 (Kd.R (Kd.int .i64) 3 wc w.heap.size (fun _ => True) (.slice (some ad653) t650.length co9) t650) ∧ Aside0 (wc.heap[gb648]? = some (.cells #[.int .i64 a0_0, (.slice A0_1 l0_1.length c0_1)] 62 (0, 0))) ∧ Aside0 (wc.heap[gb649]? = some (.cells #[(.slice none 0 0), (.slice none 0 0)] 46 (0, 0))) ∧ Aside0 (Kd.C (Kd.int .i64) wc (some ad658) y654.length y654) ∧ Aside0 (Below w.heap.size w wc))
            case first =>
             have H := HC19.out
             clear HC19
             by_cases c20 : 0 ≤ (rd t650 x18_1)
             ·rw [if_pos c20] at H
              have c20b0 : decide (0 ≤ (rd t650 x18_1)) = true := decide_eq_true c20
              clear c20
              (first | rw [c20b0] | (simp only [i64_w, i32_w]; rw [c20b0]) | skip)
              by_cases c21 : (rd t650 x18_1) < (l0_1.length : Int)
              ·rw [if_pos c21] at H
               have c21b0 : decide ((rd t650 x18_1) < (l0_1.length : Int)) = true := decide_eq_true c21
               clear c21
               obtain ⟨bq22, hbq22⟩ : ∃ b_ : Bool, b_ = (rdOf false l0_1 (rd t650 x18_1)) := ⟨_, rfl⟩
               replace H : (if bq22 = true then (if 0 ≤ (rd y654 x27_2) then (if (rd y654 x27_2) < (l0_1.length : Int) then (impl_votes_firstOfTwo.j2 a1 k2 t650 (rd t650 x18_1) (rd y654 x27_2) t650 (t650.length : Int) x18_1 y654 (y654.length : Int) x27_2 (!(rdOf false l0_1 (rd y654 x27_2))) a0_0 l0_1) else (none)) else (none)) else (impl_votes_firstOfTwo.j2 a1 k2 t650 (rd t650 x18_1) (rd y654 x27_2) t650 (t650.length : Int) x18_1 y654 (y654.length : Int) x27_2 true a0_0 l0_1)) = some (r1, r2, r3) := by rw [← hbq22] at H; exact H
               have Nbq22 := Aside0.mk hbq22
               clear hbq22
               by_cases c23 : bq22 = true
               ·subst c23
                have H1 : (if 0 ≤ (rd y654 x27_2) then (if (rd y654 x27_2) < (l0_1.length : Int) then (impl_votes_firstOfTwo.j2 a1 k2 t650 (rd t650 x18_1) (rd y654 x27_2) t650 (t650.length : Int) x18_1 y654 (y654.length : Int) x27_2 (!(rdOf false l0_1 (rd y654 x27_2))) a0_0 l0_1) else (none)) else (none)) = some (r1, r2, r3) := by rw [if_pos rfl] at H; exact H
                clear H
                have H := H1
                clear H1
                by_cases c24 : 0 ≤ (rd y654 x27_2)
                ·rw [if_pos c24] at H
                 have c24b0 : decide (0 ≤ (rd y654 x27_2)) = true := decide_eq_true c24
                 clear c24
                 by_cases c25 : (rd y654 x27_2) < (l0_1.length : Int)
                 ·rw [if_pos c25] at H
                  have c25b0 : decide ((rd y654 x27_2) < (l0_1.length : Int)) = true := decide_eq_true c25
                  clear c25
                  have H' := Aside0.mk H
                  clear H
                  have hnb26 := NB648_649.out
                  have hnc26 := NB649_648.out
                  have hcz27_0 : wr.cell? ⟨gb648, 0, none⟩ = some (.int .i64 a0_0) := (blk_cell BK648.out 0).trans rfl
                  have hcz27_1 : wr.cell? ⟨gb648, 1, none⟩ = some (.slice A0_1 l0_1.length c0_1) := (blk_cell BK648.out 1).trans rfl
                  have hfz27_0 := blk_frozen BK648.out 0
                  have hfz27_1 := blk_frozen BK648.out 1
                  have p659 : 0 ≤ ((rd t650 x18_1) : Int) := of_decide_eq_true (by first | (with_reducible assumption) | assumption)
                  have q659 : (rd t650 x18_1) < (l0_1.length : Int) := of_decide_eq_true (by first | (with_reducible assumption) | assumption)
                  obtain ⟨ad659, e659, hx659_0⟩ := Kd.at_bool HR0_1.out (rd t650 x18_1) p659 q659
                  (try rw [← Nbq22.out] at hx659_0)
                  cases e659
                  (try replace hx659_0 := (HB.out.cell (World.block_lt_of_cell? w _ hx659_0)).trans hx659_0)
                  replace p659 := eq_true p659
                  replace q659 := eq_true q659
                  have p660 : 0 ≤ ((rd y654 x27_2) : Int) := of_decide_eq_true (by first | (with_reducible assumption) | assumption)
                  have q660 : (rd y654 x27_2) < (l0_1.length : Int) := of_decide_eq_true (by first | (with_reducible assumption) | assumption)
                  obtain ⟨ad660, e660, hx660_0⟩ := Kd.at_bool HR0_1.out (rd y654 x27_2) p660 q660
                  (try rw [← Nbq22.out] at hx660_0)
                  obtain rfl : ad659 = ad660 := (by injection e660)
                  (try replace hx660_0 := (HB.out.cell (World.block_lt_of_cell? w _ hx660_0)).trans hx660_0)
                  replace p660 := eq_true p660
                  replace q660 := eq_true q660
                  go_wp2
                  go_meet
                  case rel => exact ⟨_, (!(rdOf false l0_1 (rd y654 x27_2))), (by first | rfl | (simp; done) | (simp [*]; done)), H', ⟨by have := HK1.out; have := HK2.out; first | omega | exact Nat.le_refl _⟩, ⟨zr HO_6.out⟩, ⟨zr HO_16.out⟩, ⟨zb BK648.out⟩, ⟨zb BK649.out⟩, ⟨by repeat (first | (with_reducible exact HR657.out) | (with_reducible refine Kd.C_alloc ?_ _) | (with_reducible refine Kd.C_drewN ?_ _) | (with_reducible refine Kd.C_drew ?_) | exact HR657.out)⟩, ⟨zh HB.out⟩⟩
                 ·rw [if_neg c25] at H
                  exact absurd H (by simp)
                ·rw [if_neg c24] at H
                 exact absurd H (by simp)
               ·replace c23 := Bool.eq_false_iff.mpr c23
                subst c23
                have H1 : (impl_votes_firstOfTwo.j2 a1 k2 t650 (rd t650 x18_1) (rd y654 x27_2) t650 (t650.length : Int) x18_1 y654 (y654.length : Int) x27_2 true a0_0 l0_1) = some (r1, r2, r3) := by rw [if_neg (show ¬ (false = true) by decide)] at H; exact H
                clear H
                have H := H1
                clear H1
                have H' := Aside0.mk H
                clear H
                have hnb28 := NB648_649.out
                have hnc28 := NB649_648.out
                have hcz29_0 : wr.cell? ⟨gb648, 0, none⟩ = some (.int .i64 a0_0) := (blk_cell BK648.out 0).trans rfl
                have hcz29_1 : wr.cell? ⟨gb648, 1, none⟩ = some (.slice A0_1 l0_1.length c0_1) := (blk_cell BK648.out 1).trans rfl
                have hfz29_0 := blk_frozen BK648.out 0
                have hfz29_1 := blk_frozen BK648.out 1
                have p659 : 0 ≤ ((rd t650 x18_1) : Int) := of_decide_eq_true (by first | (with_reducible assumption) | assumption)
                have q659 : (rd t650 x18_1) < (l0_1.length : Int) := of_decide_eq_true (by first | (with_reducible assumption) | assumption)
                obtain ⟨ad659, e659, hx659_0⟩ := Kd.at_bool HR0_1.out (rd t650 x18_1) p659 q659
                (try rw [← Nbq22.out] at hx659_0)
                cases e659
                (try replace hx659_0 := (HB.out.cell (World.block_lt_of_cell? w _ hx659_0)).trans hx659_0)
                replace p659 := eq_true p659
                replace q659 := eq_true q659
                go_wp2
                go_meet
                case rel => exact ⟨_, (true), (by first | rfl | (simp; done) | (simp [*]; done)), H', ⟨by have := HK1.out; have := HK2.out; first | omega | exact Nat.le_refl _⟩, ⟨zr HO_6.out⟩, ⟨zr HO_16.out⟩, ⟨zb BK648.out⟩, ⟨zb BK649.out⟩, ⟨by repeat (first | (with_reducible exact HR657.out) | (with_reducible refine Kd.C_alloc ?_ _) | (with_reducible refine Kd.C_drewN ?_ _) | (with_reducible refine Kd.C_drew ?_) | exact HR657.out)⟩, ⟨zh HB.out⟩⟩
              ·rw [if_neg c21] at H
               exact absurd H (by simp)
             ·rw [if_neg c20] at H
              exact absurd H (by simp)
            case rest =>
             clear HC19
             try clear c1
             try clear q1
             try clear c2
             try clear p2
             try clear q2
             try clear c6
             try clear p6
             try clear q6
             try clear hx6
             try clear c9
             try clear c10
             try clear c10b0
             try clear c11
             try clear c11b0
             try clear c12
             try clear c12b0
             try clear c13
             try clear c13b0
             try clear c14
             try clear c14b0
             try clear c14b1
             try clear c15
             try clear q15
             try clear c16
             try clear c16b0
             try clear c17
             try clear c17b0
             try clear c18
             try clear c18b0
             try clear c20
             try clear c20b0
             try clear c21
             try clear c21b0
             try clear q22
             try clear c23
             try clear c24
             try clear c24b0
             try clear c25
             try clear c25b0
             try clear c26
             try clear c28
             try clear hcz27_0
             try clear hcz27_1
             try clear hcz29_0
             try clear hcz29_1
             try clear hcz7_0
             try clear hcz7_1
             try clear hfz27_0
             try clear hfz27_1
             try clear hfz29_0
             try clear hfz29_1
             try clear hfz7_0
             try clear hfz7_1
             try clear hx653_0
             try clear hx658_0
             try clear hx659_0
             try clear hx660_0
             try clear p2
             try clear p6
             try clear p653
             try clear p658
             try clear p659
             try clear p660
             try clear q015
             try clear q1
             try clear q15
             try clear q6
             try clear q653
             try clear q658
             try clear q659
             try clear q660
             obtain ⟨kq, x44_18, rfl, HA, HJ18, HO_6, HO_16, BK648, BK649, HR657, HB⟩ := hcut
             cases kq with
             | zero => exact absurd HA.out (by simp [impl_votes_firstOfTwo.j2])
             | succ kj18 =>
              have H := HA.out
              clear HA
              simp only [impl_votes_firstOfTwo.j2] at H
              by_cases c30 : x44_18 = true
              ·subst c30
               have H1 : (impl_votes_firstOfTwo.l1 a1 kj18 t650 (rd t650 x18_1) t650 (t650.length : Int) x18_1 y654 (y654.length : Int) (wrap64 (x27_2 + 1)) a0_0 l0_1) = some (r1, r2, r3) := by rw [if_pos rfl] at H; exact H
               clear H
               have H := H1
               clear H1
               have H' := Aside0.mk H
               clear H
               go_wp2
               go_roundg kj18
               case measure => have := HK1.out; have := HK2.out; have := HJ18.out; omega
               case rel => exact ⟨(wrap64 (x27_2 + 1)), (by first | rfl | (simp; done) | (simp [*]; done)), H', ⟨by have := HK1.out; have := HK2.out; have := HJ18.out; omega⟩, ⟨zr HO_6.out⟩, ⟨zr HO_16.out⟩, ⟨zb BK648.out⟩, ⟨zb BK649.out⟩, ⟨by repeat (first | (with_reducible exact HR657.out) | (with_reducible refine Kd.C_alloc ?_ _) | (with_reducible refine Kd.C_drewN ?_ _) | (with_reducible refine Kd.C_drew ?_) | exact HR657.out)⟩, ⟨zh HB.out⟩⟩
              ·replace c30 := Bool.eq_false_iff.mpr c30
               subst c30
               have H1 : (impl_votes_firstOfTwo.l2 a1 kj18 t650 (rd t650 x18_1) (rd y654 x27_2) t650 (t650.length : Int) x18_1 y654 (y654.length : Int) x27_2 t650 (t650.length : Int) 0 a0_0 l0_1) = some (r1, r2, r3) := by rw [if_neg (show ¬ (false = true) by decide)] at H; exact H
               clear H
               have H := H1
               clear H1
               have H' := Aside0.mk H
               clear H
               go_wp2
               go_loopg [47] kj18 (fun kq v47 w' => ∃ (x47_4 : Int), v47 = .int .i64 x47_4 ∧ Aside0 (impl_votes_firstOfTwo.l2 a1 kq t650 (rd t650 x18_1) (rd y654 x27_2) t650 (t650.length : Int) x18_1 y654 (y654.length : Int) x27_2 t650 (t650.length : Int) x47_4 a0_0 l0_1 = some (r1, r2, r3)) ∧ Aside0 (kq ≤ kj18) ∧ Aside0 (Kd.R (Kd.int .i64) 3 w' w.heap.size (fun _ => True) (.slice (some ad653) t650.length co9) t650) ∧ Aside0 (Kd.R (Kd.int .i64) 3 w' w.heap.size (fun _ => True) (.slice (some ad653) t650.length co9) t650) ∧ Aside0 (Kd.R (Kd.int .i64) 3 w' w.heap.size (fun _ => True) (.slice (some ad653) t650.length co9) t650) ∧ Aside0 (w'.heap[gb648]? = some (.cells #[.int .i64 a0_0, (.slice A0_1 l0_1.length c0_1)] 62 (0, 0))) ∧ Aside0 (w'.heap[gb649]? = some (.cells #[(.slice none 0 0), (.slice none 0 0)] 46 (0, 0))) ∧ Aside0 (Kd.C (Kd.int .i64) w' (some ad658) y654.length y654) ∧ Aside0 (Below w.heap.size w w'))
               case atStart => exact ⟨(0), (by first | rfl | (simp; done) | (simp [*]; done)), H', ⟨Nat.le_refl _⟩, ⟨zr HO_6.out⟩, ⟨zr HO_16.out⟩, ⟨zr HO_6.out⟩, ⟨zb BK648.out⟩, ⟨zb BK649.out⟩, ⟨by repeat (first | (with_reducible exact HR657.out) | (with_reducible refine Kd.C_alloc ?_ _) | (with_reducible refine Kd.C_drewN ?_ _) | (with_reducible refine Kd.C_drew ?_) | exact HR657.out)⟩, ⟨zh HB.out⟩⟩
               case round =>
                clear H'
                try clear c1
                try clear q1
                try clear c2
                try clear p2
                try clear q2
                try clear c3
                try clear c6
                try clear p6
                try clear q6
                try clear hx6
                try clear c9
                try clear c10
                try clear c10b0
                try clear c11
                try clear c11b0
                try clear c12
                try clear c12b0
                try clear c13
                try clear c13b0
                try clear c14
                try clear c14b0
                try clear c14b1
                try clear c15
                try clear q15
                try clear c16
                try clear c16b0
                try clear c17
                try clear c17b0
                try clear c18
                try clear c18b0
                try clear c20
                try clear c20b0
                try clear c21
                try clear c21b0
                try clear q22
                try clear c23
                try clear c24
                try clear c24b0
                try clear c25
                try clear c25b0
                try clear c26
                try clear c28
                try clear c30
                try clear hcz27_0
                try clear hcz27_1
                try clear hcz29_0
                try clear hcz29_1
                try clear hcz7_0
                try clear hcz7_1
                try clear hfz27_0
                try clear hfz27_1
                try clear hfz29_0
                try clear hfz29_1
                try clear hfz7_0
                try clear hfz7_1
                try clear hx653_0
                try clear hx658_0
                try clear hx659_0
                try clear hx660_0
                try clear p2
                try clear p6
                try clear p653
                try clear p658
                try clear p659
                try clear p660
                try clear q015
                try clear q1
                try clear q15
                try clear q2
                try clear q22
                try clear q6
                try clear q653
                try clear q658
                try clear q659
                try clear q660
                obtain ⟨x47_4, rfl, HA, HK4, HO_6, HO_16, HO_45, BK648, BK649, HR657, HB⟩ := hrel
                cases gk with
                | zero => exact absurd HA.out (by simp [impl_votes_firstOfTwo.l2])
                | succ k4 =>
                 have H := HA.out
                 clear HA
                 simp only [impl_votes_firstOfTwo.l2] at H
                 by_cases c31 : x47_4 < (t650.length : Int)
                 ·rw [if_pos c31] at H
                  have c31b0 : decide (x47_4 < (t650.length : Int)) = true := decide_eq_true c31
                  clear c31
                  by_cases c32 : 0 ≤ x47_4
                  ·rw [if_pos c32] at H
                   have c32b0 : decide (0 ≤ x47_4) = true := decide_eq_true c32
                   clear c32
                   by_cases c33 : x47_4 < (t650.length : Int)
                   ·rw [if_pos c33] at H
                    have c33b0 : decide (x47_4 < (t650.length : Int)) = true := decide_eq_true c33
                    clear c33
                    have HC34 := Aside0.mk H
                    clear H
                    have p661 : 0 ≤ (x47_4 : Int) := of_decide_eq_true (by first | (with_reducible assumption) | assumption)
                    have q661 : x47_4 < (t650.length : Int) := of_decide_eq_true (by first | (with_reducible assumption) | assumption)
                    obtain ⟨ad661, e661, hx661_0⟩ := Kd.at_int (Kd.R_reads' HO_45.out).2.2 x47_4 p661 q661
                    obtain rfl : ad653 = ad661 := (by injection e661)
                    replace p661 := eq_true p661
                    replace q661 := eq_true q661
                    go_upto_region 12 with (fail)
                    go_cut [75] (fun v75 wc => ∃ (kq : Nat) (x75_33 : Bool), v75 = .bool x75_33 ∧ Aside0 (impl_votes_firstOfTwo.j4 a1 kq t650 (rd t650 x18_1) (rd y654 x27_2) x47_4 (rd t650 x47_4) t650 (t650.length : Int) x18_1 y654 (y654.length : Int) x27_2 t650 (t650.length : Int) x47_4 x75_33 a0_0 l0_1 = some (r1, r2, r3)) ∧ Aside0 (kq ≤ k4) ∧ Aside0 (Kd.R (Kd.int .i64) 3 wc w.heap.size (fun _ => True) (.slice (some ad653) t650.length co9) t650) ∧ Aside0 (Kd.R (Kd.int .i64) 3 wc w.heap.size (fun _ => True) (.slice (some ad653) t650.length co9) t650) ∧ Aside0 (Kd.R (Kd.int .i64) 3 wc w.heap.size (fun _ => True) (.slice (some ad653) t650.length co9) t650) ∧ Aside0 (wc.heap[gb648]? = some (.cells #[.int .i64 a0_0, (.slice A0_1 l0_1.length c0_1)] 62 (0, 0))) ∧ Aside0 (wc.heap[gb649]? = some (.cells #[(.slice none 0 0), (.slice none 0 0)] 46 (0, 0))) ∧ Aside0 (Kd.C (Kd.int .i64) wc (some ad658) y654.length y654) ∧ Aside0 (Below w.heap.size w wc))
                    case first =>
                     have H := HC34.out
                     clear HC34
                     by_cases c35 : 0 ≤ (rd t650 x47_4)
                     ·rw [if_pos c35] at H
                      have c35b0 : decide (0 ≤ (rd t650 x47_4)) = true := decide_eq_true c35
                      clear c35
                      (first | rw [c35b0] | (simp only [i64_w, i32_w]; rw [c35b0]) | skip)
                      by_cases c36 : (rd t650 x47_4) < (l0_1.length : Int)
                      ·rw [if_pos c36] at H
                       have c36b0 : decide ((rd t650 x47_4) < (l0_1.length : Int)) = true := decide_eq_true c36
                       clear c36
                       obtain ⟨bq37, hbq37⟩ : ∃ b_ : Bool, b_ = (rdOf false l0_1 (rd t650 x47_4)) := ⟨_, rfl⟩
                       replace H : (if bq37 = true then (impl_votes_firstOfTwo.j4 a1 k4 t650 (rd t650 x18_1) (rd y654 x27_2) x47_4 (rd t650 x47_4) t650 (t650.length : Int) x18_1 y654 (y654.length : Int) x27_2 t650 (t650.length : Int) x47_4 true a0_0 l0_1) else (if (Go.bits .and .i64 (rd t650 x47_4) (Go.bits .and .i64 (rd t650 x18_1) (rd y654 x27_2))) = (Go.bits .and .i64 (rd t650 x18_1) (rd y654 x27_2)) then (impl_votes_firstOfTwo.j4 a1 k4 t650 (rd t650 x18_1) (rd y654 x27_2) x47_4 (rd t650 x47_4) t650 (t650.length : Int) x18_1 y654 (y654.length : Int) x27_2 t650 (t650.length : Int) x47_4 ((Go.bits .andNot .i64 (rd t650 x47_4) (Go.bits .or .i64 (rd t650 x18_1) (rd y654 x27_2))) != 0) a0_0 l0_1) else (impl_votes_firstOfTwo.j4 a1 k4 t650 (rd t650 x18_1) (rd y654 x27_2) x47_4 (rd t650 x47_4) t650 (t650.length : Int) x18_1 y654 (y654.length : Int) x27_2 t650 (t650.length : Int) x47_4 true a0_0 l0_1))) = some (r1, r2, r3) := by rw [← hbq37] at H; exact H
                       have Nbq37 := Aside0.mk hbq37
                       clear hbq37
                       by_cases c38 : bq37 = true
                       ·subst c38
                        have H1 : (impl_votes_firstOfTwo.j4 a1 k4 t650 (rd t650 x18_1) (rd y654 x27_2) x47_4 (rd t650 x47_4) t650 (t650.length : Int) x18_1 y654 (y654.length : Int) x27_2 t650 (t650.length : Int) x47_4 true a0_0 l0_1) = some (r1, r2, r3) := by rw [if_pos rfl] at H; exact H
                        clear H
                        have H := H1
                        clear H1
                        have H' := Aside0.mk H
                        clear H
                        have hnb39 := NB648_649.out
                        have hnc39 := NB649_648.out
                        have hcz40_0 : wr.cell? ⟨gb648, 0, none⟩ = some (.int .i64 a0_0) := (blk_cell BK648.out 0).trans rfl
                        have hcz40_1 : wr.cell? ⟨gb648, 1, none⟩ = some (.slice A0_1 l0_1.length c0_1) := (blk_cell BK648.out 1).trans rfl
                        have hfz40_0 := blk_frozen BK648.out 0
                        have hfz40_1 := blk_frozen BK648.out 1
                        have p662 : 0 ≤ ((rd t650 x47_4) : Int) := of_decide_eq_true (by first | (with_reducible assumption) | assumption)
                        have q662 : (rd t650 x47_4) < (l0_1.length : Int) := of_decide_eq_true (by first | (with_reducible assumption) | assumption)
                        obtain ⟨ad662, e662, hx662_0⟩ := Kd.at_bool HR0_1.out (rd t650 x47_4) p662 q662
                        (try rw [← Nbq37.out] at hx662_0)
                        cases e662
                        (try replace hx662_0 := (HB.out.cell (World.block_lt_of_cell? w _ hx662_0)).trans hx662_0)
                        replace p662 := eq_true p662
                        replace q662 := eq_true q662
                        go_wp2
                        go_meet
                        case rel => exact ⟨_, (true), (by first | rfl | (simp; done) | (simp [*]; done)), H', ⟨by have := HK1.out; have := HK2.out; have := HJ18.out; have := HK4.out; first | omega | exact Nat.le_refl _⟩, ⟨zr HO_6.out⟩, ⟨zr HO_16.out⟩, ⟨zr HO_45.out⟩, ⟨zb BK648.out⟩, ⟨zb BK649.out⟩, ⟨by repeat (first | (with_reducible exact HR657.out) | (with_reducible refine Kd.C_alloc ?_ _) | (with_reducible refine Kd.C_drewN ?_ _) | (with_reducible refine Kd.C_drew ?_) | exact HR657.out)⟩, ⟨zh HB.out⟩⟩
                       ·replace c38 := Bool.eq_false_iff.mpr c38
                        subst c38
                        have H1 : (if (Go.bits .and .i64 (rd t650 x47_4) (Go.bits .and .i64 (rd t650 x18_1) (rd y654 x27_2))) = (Go.bits .and .i64 (rd t650 x18_1) (rd y654 x27_2)) then (impl_votes_firstOfTwo.j4 a1 k4 t650 (rd t650 x18_1) (rd y654 x27_2) x47_4 (rd t650 x47_4) t650 (t650.length : Int) x18_1 y654 (y654.length : Int) x27_2 t650 (t650.length : Int) x47_4 ((Go.bits .andNot .i64 (rd t650 x47_4) (Go.bits .or .i64 (rd t650 x18_1) (rd y654 x27_2))) != 0) a0_0 l0_1) else (impl_votes_firstOfTwo.j4 a1 k4 t650 (rd t650 x18_1) (rd y654 x27_2) x47_4 (rd t650 x47_4) t650 (t650.length : Int) x18_1 y654 (y654.length : Int) x27_2 t650 (t650.length : Int) x47_4 true a0_0 l0_1)) = some (r1, r2, r3) := by rw [if_neg (show ¬ (false = true) by decide)] at H; exact H
                        clear H
                        have H := H1
                        clear H1
                        by_cases c41 : (Go.bits .and .i64 (rd t650 x47_4) (Go.bits .and .i64 (rd t650 x18_1) (rd y654 x27_2))) = (Go.bits .and .i64 (rd t650 x18_1) (rd y654 x27_2))
                        ·rw [if_pos c41] at H
                         have c41b0 : ((Go.bits .and .i64 (rd t650 x47_4) (Go.bits .and .i64 (rd t650 x18_1) (rd y654 x27_2))) == (Go.bits .and .i64 (rd t650 x18_1) (rd y654 x27_2))) = true := beq_iff_eq.mpr c41
                         have c41b1 : ((Go.bits .and .i64 (rd t650 x47_4) (Go.bits .and .i64 (rd t650 x18_1) (rd y654 x27_2))) != (Go.bits .and .i64 (rd t650 x18_1) (rd y654 x27_2))) = false := bne_eq_false_iff_eq.mpr c41
                         clear c41
                         have H' := Aside0.mk H
                         clear H
                         have hnb42 := NB648_649.out
                         have hnc42 := NB649_648.out
                         have hcz43_0 : wr.cell? ⟨gb648, 0, none⟩ = some (.int .i64 a0_0) := (blk_cell BK648.out 0).trans rfl
                         have hcz43_1 : wr.cell? ⟨gb648, 1, none⟩ = some (.slice _ l0_1.length c0_1) := (blk_cell BK648.out 1).trans rfl
                         have hfz43_0 := blk_frozen BK648.out 0
                         have hfz43_1 := blk_frozen BK648.out 1
                         have p662 : 0 ≤ ((rd t650 x47_4) : Int) := of_decide_eq_true (by first | (with_reducible assumption) | assumption)
                         have q662 : (rd t650 x47_4) < (l0_1.length : Int) := of_decide_eq_true (by first | (with_reducible assumption) | assumption)
                         obtain ⟨ad662, e662, hx662_0⟩ := Kd.at_bool HR0_1.out (rd t650 x47_4) p662 q662
                         (try rw [← Nbq37.out] at hx662_0)
                         cases e662
                         (try replace hx662_0 := (HB.out.cell (World.block_lt_of_cell? w _ hx662_0)).trans hx662_0)
                         replace p662 := eq_true p662
                         replace q662 := eq_true q662
                         go_wp2
                         go_meet
                         case rel => exact ⟨_, (((Go.bits .andNot .i64 (rd t650 x47_4) (Go.bits .or .i64 (rd t650 x18_1) (rd y654 x27_2))) != 0)), (by first | rfl | (simp; done) | (simp [*]; done)), H', ⟨by have := HK1.out; have := HK2.out; have := HJ18.out; have := HK4.out; first | omega | exact Nat.le_refl _⟩, ⟨zr HO_6.out⟩, ⟨zr HO_16.out⟩, ⟨zr HO_45.out⟩, ⟨zb BK648.out⟩, ⟨zb BK649.out⟩, ⟨by repeat (first | (with_reducible exact HR657.out) | (with_reducible refine Kd.C_alloc ?_ _) | (with_reducible refine Kd.C_drewN ?_ _) | (with_reducible refine Kd.C_drew ?_) | exact HR657.out)⟩, ⟨zh HB.out⟩⟩
                        ·rw [if_neg c41] at H
                         have c41b0 : ((Go.bits .and .i64 (rd t650 x47_4) (Go.bits .and .i64 (rd t650 x18_1) (rd y654 x27_2))) == (Go.bits .and .i64 (rd t650 x18_1) (rd y654 x27_2))) = false := beq_eq_false_iff_ne.mpr c41
                         have c41b1 : ((Go.bits .and .i64 (rd t650 x47_4) (Go.bits .and .i64 (rd t650 x18_1) (rd y654 x27_2))) != (Go.bits .and .i64 (rd t650 x18_1) (rd y654 x27_2))) = true := bne_iff_ne.mpr c41
                         have H' := Aside0.mk H
                         clear H
                         have hnb44 := NB648_649.out
                         have hnc44 := NB649_648.out
                         have hcz45_0 : wr.cell? ⟨gb648, 0, none⟩ = some (.int .i64 a0_0) := (blk_cell BK648.out 0).trans rfl
                         have hcz45_1 : wr.cell? ⟨gb648, 1, none⟩ = some (.slice _ l0_1.length c0_1) := (blk_cell BK648.out 1).trans rfl
                         have hfz45_0 := blk_frozen BK648.out 0
                         have hfz45_1 := blk_frozen BK648.out 1
                         have p662 : 0 ≤ ((rd t650 x47_4) : Int) := of_decide_eq_true (by first | (with_reducible assumption) | assumption)
                         have q662 : (rd t650 x47_4) < (l0_1.length : Int) := of_decide_eq_true (by first | (with_reducible assumption) | assumption)
                         obtain ⟨ad662, e662, hx662_0⟩ := Kd.at_bool HR0_1.out (rd t650 x47_4) p662 q662
                         (try rw [← Nbq37.out] at hx662_0)
                         cases e662
                         (try replace hx662_0 := (HB.out.cell (World.block_lt_of_cell? w _ hx662_0)).trans hx662_0)
                         replace p662 := eq_true p662
                         replace q662 := eq_true q662
                         go_wp2
                         go_meet
                         case rel => exact ⟨_, (true), (by first | rfl | (simp; done) | (simp [*]; done)), H', ⟨by have := HK1.out; have := HK2.out; have := HJ18.out; have := HK4.out; first | omega | exact Nat.le_refl _⟩, ⟨zr HO_6.out⟩, ⟨zr HO_16.out⟩, ⟨zr HO_45.out⟩, ⟨zb BK648.out⟩, ⟨zb BK649.out⟩, ⟨by repeat (first | (with_reducible exact HR657.out) | (with_reducible refine Kd.C_alloc ?_ _) | (with_reducible refine Kd.C_drewN ?_ _) | (with_reducible refine Kd.C_drew ?_) | exact HR657.out)⟩, ⟨zh HB.out⟩⟩
                      ·rw [if_neg c36] at H
                       exact absurd H (by simp)
                     ·rw [if_neg c35] at H
                      exact absurd H (by simp)
                    case rest =>
                     clear HC34
                     try clear c1
                     try clear q1
                     try clear c2
                     try clear p2
                     try clear q2
                     try clear c3
                     try clear q3
                     try clear c4
                     try clear c6
                     try clear p6
                     try clear q6
                     try clear hx6
                     try clear c9
                     try clear c10
                     try clear c10b0
                     try clear c11
                     try clear c11b0
                     try clear c12
                     try clear c12b0
                     try clear c13
                     try clear c13b0
                     try clear c14
                     try clear c14b0
                     try clear c14b1
                     try clear c15
                     try clear q15
                     try clear c16
                     try clear c16b0
                     try clear c17
                     try clear c17b0
                     try clear c18
                     try clear c18b0
                     try clear c20
                     try clear c20b0
                     try clear c21
                     try clear c21b0
                     try clear q22
                     try clear c23
                     try clear c24
                     try clear c24b0
                     try clear c25
                     try clear c25b0
                     try clear c26
                     try clear c28
                     try clear c30
                     try clear c31
                     try clear c31b0
                     try clear c32
                     try clear c32b0
                     try clear c33
                     try clear c33b0
                     try clear c35
                     try clear c35b0
                     try clear c36
                     try clear c36b0
                     try clear q37
                     try clear c38
                     try clear c39
                     try clear c41
                     try clear c41b0
                     try clear c41b1
                     try clear c42
                     try clear c44
                     try clear hcz27_0
                     try clear hcz27_1
                     try clear hcz29_0
                     try clear hcz29_1
                     try clear hcz40_0
                     try clear hcz40_1
                     try clear hcz43_0
                     try clear hcz43_1
                     try clear hcz45_0
                     try clear hcz45_1
                     try clear hcz7_0
                     try clear hcz7_1
                     try clear hfz27_0
                     try clear hfz27_1
                     try clear hfz29_0
                     try clear hfz29_1
                     try clear hfz40_0
                     try clear hfz40_1
                     try clear hfz43_0
                     try clear hfz43_1
                     try clear hfz45_0
                     try clear hfz45_1
                     try clear hfz7_0
                     try clear hfz7_1
                     try clear hx653_0
                     try clear hx658_0
                     try clear hx659_0
                     try clear hx660_0
                     try clear hx661_0
                     try clear hx662_0
                     try clear p2
                     try clear p6
                     try clear p653
                     try clear p658
                     try clear p659
                     try clear p660
                     try clear p661
                     try clear p662
                     try clear q015
                     try clear q1
                     try clear q15
                     try clear q2
                     try clear q22
                     try clear q6
                     try clear q653
                     try clear q658
                     try clear q659
                     try clear q660
                     try clear q661
                     try clear q662
                     obtain ⟨kq, x75_33, rfl, HA, HJ33, HO_6, HO_16, HO_45, BK648, BK649, HR657, HB⟩ := hcut
                     cases kq with
                     | zero => exact absurd HA.out (by simp [impl_votes_firstOfTwo.j4])
                     | succ kj33 =>
                      have H := HA.out
                      clear HA
                      simp only [impl_votes_firstOfTwo.j4] at H
                      by_cases c46 : x75_33 = true
                      ·subst c46
                       have H1 : (impl_votes_firstOfTwo.l2 a1 kj33 t650 (rd t650 x18_1) (rd y654 x27_2) t650 (t650.length : Int) x18_1 y654 (y654.length : Int) x27_2 t650 (t650.length : Int) (wrap64 (x47_4 + 1)) a0_0 l0_1) = some (r1, r2, r3) := by rw [if_pos rfl] at H; exact H
                       clear H
                       have H := H1
                       clear H1
                       have H' := Aside0.mk H
                       clear H
                       go_wp2
                       go_roundg kj33
                       case measure => have := HK1.out; have := HK2.out; have := HJ18.out; have := HK4.out; have := HJ33.out; omega
                       case rel => exact ⟨(wrap64 (x47_4 + 1)), (by first | rfl | (simp; done) | (simp [*]; done)), H', ⟨by have := HK1.out; have := HK2.out; have := HJ18.out; have := HK4.out; have := HJ33.out; omega⟩, ⟨zr HO_6.out⟩, ⟨zr HO_16.out⟩, ⟨zr HO_45.out⟩, ⟨zb BK648.out⟩, ⟨zb BK649.out⟩, ⟨by repeat (first | (with_reducible exact HR657.out) | (with_reducible refine Kd.C_alloc ?_ _) | (with_reducible refine Kd.C_drewN ?_ _) | (with_reducible refine Kd.C_drew ?_) | exact HR657.out)⟩, ⟨zh HB.out⟩⟩
                      ·replace c46 := Bool.eq_false_iff.mpr c46
                       subst c46
                       have H1 : (if 0 ≤ (Go.bits .or .i64 (Go.bits .and .i64 (rd t650 x18_1) (rd y654 x27_2)) (Go.bits .andNot .i64 (Go.bits .or .i64 (rd t650 x18_1) (rd y654 x27_2)) (rd t650 x47_4))) then (if (Go.bits .or .i64 (Go.bits .and .i64 (rd t650 x18_1) (rd y654 x27_2)) (Go.bits .andNot .i64 (Go.bits .or .i64 (rd t650 x18_1) (rd y654 x27_2)) (rd t650 x47_4))) < (l0_1.length : Int) then (if (rdOf false l0_1 (Go.bits .or .i64 (Go.bits .and .i64 (rd t650 x18_1) (rd y654 x27_2)) (Go.bits .andNot .i64 (Go.bits .or .i64 (rd t650 x18_1) (rd y654 x27_2)) (rd t650 x47_4))) = true) then (impl_votes_firstOfTwo.l2 a1 kj33 t650 (rd t650 x18_1) (rd y654 x27_2) t650 (t650.length : Int) x18_1 y654 (y654.length : Int) x27_2 t650 (t650.length : Int) (wrap64 (x47_4 + 1)) a0_0 l0_1) else (if 0 ≤ x47_4 then (if x47_4 ≤ (t650.length : Int) then ((slices_Contains_int_int.f kj33 (t650.drop (x47_4 : Int).toNat) (Go.bits .or .i64 (Go.bits .and .i64 (rd t650 x18_1) (rd y654 x27_2)) (Go.bits .andNot .i64 (Go.bits .or .i64 (rd t650 x18_1) (rd y654 x27_2)) (rd t650 x47_4)))).bind fun t668 => (if t668 = true then ((a1 (rd t650 x18_1) (rd y654 x27_2) (rd t650 x47_4) (Go.bits .or .i64 (Go.bits .and .i64 (rd t650 x18_1) (rd y654 x27_2)) (Go.bits .andNot .i64 (Go.bits .or .i64 (rd t650 x18_1) (rd y654 x27_2)) (rd t650 x47_4)))).bind fun t669 => (if t669 = true then ((impl_pairs.f kj33 (([(rd t650 x18_1), (rd y654 x27_2)] : List Int)) (([(rd t650 x47_4), Go.bits .or .i64 (Go.bits .and .i64 (rd t650 x18_1) (rd y654 x27_2)) (Go.bits .andNot .i64 (Go.bits .or .i64 (rd t650 x18_1) (rd y654 x27_2)) (rd t650 x47_4))] : List Int))).bind fun bt676 => (some (bt676.1, bt676.2, true))) else (impl_votes_firstOfTwo.l2 a1 kj33 t650 (rd t650 x18_1) (rd y654 x27_2) t650 (t650.length : Int) x18_1 y654 (y654.length : Int) x27_2 t650 (t650.length : Int) (wrap64 (x47_4 + 1)) a0_0 l0_1))) else (impl_votes_firstOfTwo.l2 a1 kj33 t650 (rd t650 x18_1) (rd y654 x27_2) t650 (t650.length : Int) x18_1 y654 (y654.length : Int) x27_2 t650 (t650.length : Int) (wrap64 (x47_4 + 1)) a0_0 l0_1))) else (none)) else (none))) else (none)) else (none)) = some (r1, r2, r3) := by rw [if_neg (show ¬ (false = true) by decide)] at H; exact H
                       clear H
                       have H := H1
                       clear H1
                       by_cases c47 : 0 ≤ (Go.bits .or .i64 (Go.bits .and .i64 (rd t650 x18_1) (rd y654 x27_2)) (Go.bits .andNot .i64 (Go.bits .or .i64 (rd t650 x18_1) (rd y654 x27_2)) (rd t650 x47_4)))
                       ·rw [if_pos c47] at H
                        have c47b0 : decide (0 ≤ (Go.bits .or .i64 (Go.bits .and .i64 (rd t650 x18_1) (rd y654 x27_2)) (Go.bits .andNot .i64 (Go.bits .or .i64 (rd t650 x18_1) (rd y654 x27_2)) (rd t650 x47_4)))) = true := decide_eq_true c47
                        clear c47
                        by_cases c48 : (Go.bits .or .i64 (Go.bits .and .i64 (rd t650 x18_1) (rd y654 x27_2)) (Go.bits .andNot .i64 (Go.bits .or .i64 (rd t650 x18_1) (rd y654 x27_2)) (rd t650 x47_4))) < (l0_1.length : Int)
                        ·rw [if_pos c48] at H
                         have c48b0 : decide ((Go.bits .or .i64 (Go.bits .and .i64 (rd t650 x18_1) (rd y654 x27_2)) (Go.bits .andNot .i64 (Go.bits .or .i64 (rd t650 x18_1) (rd y654 x27_2)) (rd t650 x47_4))) < (l0_1.length : Int)) = true := decide_eq_true c48
                         clear c48
                         obtain ⟨bq49, hbq49⟩ : ∃ b_ : Bool, b_ = (rdOf false l0_1 (Go.bits .or .i64 (Go.bits .and .i64 (rd t650 x18_1) (rd y654 x27_2)) (Go.bits .andNot .i64 (Go.bits .or .i64 (rd t650 x18_1) (rd y654 x27_2)) (rd t650 x47_4)))) := ⟨_, rfl⟩
                         replace H : (if (bq49 = true) then (impl_votes_firstOfTwo.l2 a1 kj33 t650 (rd t650 x18_1) (rd y654 x27_2) t650 (t650.length : Int) x18_1 y654 (y654.length : Int) x27_2 t650 (t650.length : Int) (wrap64 (x47_4 + 1)) a0_0 l0_1) else (if 0 ≤ x47_4 then (if x47_4 ≤ (t650.length : Int) then ((slices_Contains_int_int.f kj33 (t650.drop (x47_4 : Int).toNat) (Go.bits .or .i64 (Go.bits .and .i64 (rd t650 x18_1) (rd y654 x27_2)) (Go.bits .andNot .i64 (Go.bits .or .i64 (rd t650 x18_1) (rd y654 x27_2)) (rd t650 x47_4)))).bind fun t668 => (if t668 = true then ((a1 (rd t650 x18_1) (rd y654 x27_2) (rd t650 x47_4) (Go.bits .or .i64 (Go.bits .and .i64 (rd t650 x18_1) (rd y654 x27_2)) (Go.bits .andNot .i64 (Go.bits .or .i64 (rd t650 x18_1) (rd y654 x27_2)) (rd t650 x47_4)))).bind fun t669 => (if t669 = true then ((impl_pairs.f kj33 (([(rd t650 x18_1), (rd y654 x27_2)] : List Int)) (([(rd t650 x47_4), Go.bits .or .i64 (Go.bits .and .i64 (rd t650 x18_1) (rd y654 x27_2)) (Go.bits .andNot .i64 (Go.bits .or .i64 (rd t650 x18_1) (rd y654 x27_2)) (rd t650 x47_4))] : List Int))).bind fun bt676 => (some (bt676.1, bt676.2, true))) else (impl_votes_firstOfTwo.l2 a1 kj33 t650 (rd t650 x18_1) (rd y654 x27_2) t650 (t650.length : Int) x18_1 y654 (y654.length : Int) x27_2 t650 (t650.length : Int) (wrap64 (x47_4 + 1)) a0_0 l0_1))) else (impl_votes_firstOfTwo.l2 a1 kj33 t650 (rd t650 x18_1) (rd y654 x27_2) t650 (t650.length : Int) x18_1 y654 (y654.length : Int) x27_2 t650 (t650.length : Int) (wrap64 (x47_4 + 1)) a0_0 l0_1))) else (none)) else (none))) = some (r1, r2, r3) := by rw [← hbq49] at H; exact H
                         have Nbq49 := Aside0.mk hbq49
                         clear hbq49
                         by_cases c50 : (bq49 = true)
                         ·subst c50
                          have H1 : (impl_votes_firstOfTwo.l2 a1 kj33 t650 (rd t650 x18_1) (rd y654 x27_2) t650 (t650.length : Int) x18_1 y654 (y654.length : Int) x27_2 t650 (t650.length : Int) (wrap64 (x47_4 + 1)) a0_0 l0_1) = some (r1, r2, r3) := by rw [if_pos rfl] at H; exact H
                          clear H
                          have H := H1
                          clear H1
                          have H' := Aside0.mk H
                          clear H
                          have hnb51 := NB648_649.out
                          have hnc51 := NB649_648.out
                          have hcz52_0 : wc.cell? ⟨gb648, 0, none⟩ = some (.int .i64 a0_0) := (blk_cell BK648.out 0).trans rfl
                          have hcz52_1 : wc.cell? ⟨gb648, 1, none⟩ = some (.slice A0_1 l0_1.length c0_1) := (blk_cell BK648.out 1).trans rfl
                          have hfz52_0 := blk_frozen BK648.out 0
                          have hfz52_1 := blk_frozen BK648.out 1
                          have p663 : 0 ≤ ((Go.bits .or .i64 (Go.bits .and .i64 (rd t650 x18_1) (rd y654 x27_2)) (Go.bits .andNot .i64 (Go.bits .or .i64 (rd t650 x18_1) (rd y654 x27_2)) (rd t650 x47_4))) : Int) := of_decide_eq_true (by first | (with_reducible assumption) | assumption)
                          have q663 : (Go.bits .or .i64 (Go.bits .and .i64 (rd t650 x18_1) (rd y654 x27_2)) (Go.bits .andNot .i64 (Go.bits .or .i64 (rd t650 x18_1) (rd y654 x27_2)) (rd t650 x47_4))) < (l0_1.length : Int) := of_decide_eq_true (by first | (with_reducible assumption) | assumption)
                          obtain ⟨ad663, e663, hx663_0⟩ := Kd.at_bool HR0_1.out (Go.bits .or .i64 (Go.bits .and .i64 (rd t650 x18_1) (rd y654 x27_2)) (Go.bits .andNot .i64 (Go.bits .or .i64 (rd t650 x18_1) (rd y654 x27_2)) (rd t650 x47_4))) p663 q663
                          (try rw [← Nbq49.out] at hx663_0)
                          cases e663
                          (try replace hx663_0 := (HB.out.cell (World.block_lt_of_cell? w _ hx663_0)).trans hx663_0)
                          replace p663 := eq_true p663
                          replace q663 := eq_true q663
                          go_wp2
                          go_roundg kj33
                          case measure => have := HK1.out; have := HK2.out; have := HJ18.out; have := HK4.out; have := HJ33.out; omega
                          case rel => exact ⟨(wrap64 (x47_4 + 1)), (by first | rfl | (simp; done) | (simp [*]; done)), H', ⟨by have := HK1.out; have := HK2.out; have := HJ18.out; have := HK4.out; have := HJ33.out; omega⟩, ⟨zr HO_6.out⟩, ⟨zr HO_16.out⟩, ⟨zr HO_45.out⟩, ⟨zb BK648.out⟩, ⟨zb BK649.out⟩, ⟨by repeat (first | (with_reducible exact HR657.out) | (with_reducible refine Kd.C_alloc ?_ _) | (with_reducible refine Kd.C_drewN ?_ _) | (with_reducible refine Kd.C_drew ?_) | exact HR657.out)⟩, ⟨zh HB.out⟩⟩
                         ·replace c50 := Bool.eq_false_iff.mpr c50
                          subst c50
                          have H1 : (if 0 ≤ x47_4 then (if x47_4 ≤ (t650.length : Int) then ((slices_Contains_int_int.f kj33 (t650.drop (x47_4 : Int).toNat) (Go.bits .or .i64 (Go.bits .and .i64 (rd t650 x18_1) (rd y654 x27_2)) (Go.bits .andNot .i64 (Go.bits .or .i64 (rd t650 x18_1) (rd y654 x27_2)) (rd t650 x47_4)))).bind fun t668 => (if t668 = true then ((a1 (rd t650 x18_1) (rd y654 x27_2) (rd t650 x47_4) (Go.bits .or .i64 (Go.bits .and .i64 (rd t650 x18_1) (rd y654 x27_2)) (Go.bits .andNot .i64 (Go.bits .or .i64 (rd t650 x18_1) (rd y654 x27_2)) (rd t650 x47_4)))).bind fun t669 => (if t669 = true then ((impl_pairs.f kj33 (([(rd t650 x18_1), (rd y654 x27_2)] : List Int)) (([(rd t650 x47_4), Go.bits .or .i64 (Go.bits .and .i64 (rd t650 x18_1) (rd y654 x27_2)) (Go.bits .andNot .i64 (Go.bits .or .i64 (rd t650 x18_1) (rd y654 x27_2)) (rd t650 x47_4))] : List Int))).bind fun bt676 => (some (bt676.1, bt676.2, true))) else (impl_votes_firstOfTwo.l2 a1 kj33 t650 (rd t650 x18_1) (rd y654 x27_2) t650 (t650.length : Int) x18_1 y654 (y654.length : Int) x27_2 t650 (t650.length : Int) (wrap64 (x47_4 + 1)) a0_0 l0_1))) else (impl_votes_firstOfTwo.l2 a1 kj33 t650 (rd t650 x18_1) (rd y654 x27_2) t650 (t650.length : Int) x18_1 y654 (y654.length : Int) x27_2 t650 (t650.length : Int) (wrap64 (x47_4 + 1)) a0_0 l0_1))) else (none)) else (none)) = some (r1, r2, r3) := by rw [if_neg (show ¬ (false = true) by decide)] at H; exact H
                          clear H
                          have H := H1
                          clear H1
                          by_cases c53 : 0 ≤ x47_4
                          ·rw [if_pos c53] at H
                           have c53b0 := eq_true c53
                           have c53b1 : decide (0 ≤ x47_4) = true := decide_eq_true c53
                           clear c53
                           by_cases c54 : x47_4 ≤ (t650.length : Int)
                           ·rw [if_pos c54] at H
                            have c54b0 := eq_true c54
                            have c54b1 : decide (x47_4 ≤ (t650.length : Int)) = true := decide_eq_true c54
                            clear c54
                            obtain ⟨y664, hy664⟩ : ∃ y_ : List Int, y_ = (t650.drop (x47_4 : Int).toNat) := ⟨_, rfl⟩
                            replace H : ((slices_Contains_int_int.f kj33 y664 (Go.bits .or .i64 (Go.bits .and .i64 (rd t650 x18_1) (rd y654 x27_2)) (Go.bits .andNot .i64 (Go.bits .or .i64 (rd t650 x18_1) (rd y654 x27_2)) (rd t650 x47_4)))).bind fun t668 => (if t668 = true then ((a1 (rd t650 x18_1) (rd y654 x27_2) (rd t650 x47_4) (Go.bits .or .i64 (Go.bits .and .i64 (rd t650 x18_1) (rd y654 x27_2)) (Go.bits .andNot .i64 (Go.bits .or .i64 (rd t650 x18_1) (rd y654 x27_2)) (rd t650 x47_4)))).bind fun t669 => (if t669 = true then ((impl_pairs.f kj33 (([(rd t650 x18_1), (rd y654 x27_2)] : List Int)) (([(rd t650 x47_4), Go.bits .or .i64 (Go.bits .and .i64 (rd t650 x18_1) (rd y654 x27_2)) (Go.bits .andNot .i64 (Go.bits .or .i64 (rd t650 x18_1) (rd y654 x27_2)) (rd t650 x47_4))] : List Int))).bind fun bt676 => (some (bt676.1, bt676.2, true))) else (impl_votes_firstOfTwo.l2 a1 kj33 t650 (rd t650 x18_1) (rd y654 x27_2) t650 (t650.length : Int) x18_1 y654 (y654.length : Int) x27_2 t650 (t650.length : Int) (wrap64 (x47_4 + 1)) a0_0 l0_1))) else (impl_votes_firstOfTwo.l2 a1 kj33 t650 (rd t650 x18_1) (rd y654 x27_2) t650 (t650.length : Int) x18_1 y654 (y654.length : Int) x27_2 t650 (t650.length : Int) (wrap64 (x47_4 + 1)) a0_0 l0_1))) = some (r1, r2, r3) := by first | (rw [hy664]; with_reducible exact H) | (have H2_ := (Option.bind_some _ _).symm.trans H; rw [hy664]; with_reducible exact H2_) | (have H2_ := (Option.bind_some _ _).symm.trans H; with_reducible exact H2_) | with_reducible exact H | (rw [hy664]; exact H) | exact H
                            have Ny664 := Aside0.mk hy664
                            clear hy664
                            replace H := Option.bind_eq_some_iff.mp H
                            obtain ⟨t668, A550, H⟩ := H
                            replace H : (if t668 = true then ((a1 (rd t650 x18_1) (rd y654 x27_2) (rd t650 x47_4) (Go.bits .or .i64 (Go.bits .and .i64 (rd t650 x18_1) (rd y654 x27_2)) (Go.bits .andNot .i64 (Go.bits .or .i64 (rd t650 x18_1) (rd y654 x27_2)) (rd t650 x47_4)))).bind fun t669 => (if t669 = true then ((impl_pairs.f kj33 (([(rd t650 x18_1), (rd y654 x27_2)] : List Int)) (([(rd t650 x47_4), Go.bits .or .i64 (Go.bits .and .i64 (rd t650 x18_1) (rd y654 x27_2)) (Go.bits .andNot .i64 (Go.bits .or .i64 (rd t650 x18_1) (rd y654 x27_2)) (rd t650 x47_4))] : List Int))).bind fun bt676 => (some (bt676.1, bt676.2, true))) else (impl_votes_firstOfTwo.l2 a1 kj33 t650 (rd t650 x18_1) (rd y654 x27_2) t650 (t650.length : Int) x18_1 y654 (y654.length : Int) x27_2 t650 (t650.length : Int) (wrap64 (x47_4 + 1)) a0_0 l0_1))) else (impl_votes_firstOfTwo.l2 a1 kj33 t650 (rd t650 x18_1) (rd y654 x27_2) t650 (t650.length : Int) x18_1 y654 (y654.length : Int) x27_2 t650 (t650.length : Int) (wrap64 (x47_4 + 1)) a0_0 l0_1)) = some (r1, r2, r3) := H
                            have A55 := Aside0.mk A550
                            clear A550
                            by_cases c56 : t668 = true
                            ·subst c56
                             have H1 : ((a1 (rd t650 x18_1) (rd y654 x27_2) (rd t650 x47_4) (Go.bits .or .i64 (Go.bits .and .i64 (rd t650 x18_1) (rd y654 x27_2)) (Go.bits .andNot .i64 (Go.bits .or .i64 (rd t650 x18_1) (rd y654 x27_2)) (rd t650 x47_4)))).bind fun t669 => (if t669 = true then ((impl_pairs.f kj33 (([(rd t650 x18_1), (rd y654 x27_2)] : List Int)) (([(rd t650 x47_4), Go.bits .or .i64 (Go.bits .and .i64 (rd t650 x18_1) (rd y654 x27_2)) (Go.bits .andNot .i64 (Go.bits .or .i64 (rd t650 x18_1) (rd y654 x27_2)) (rd t650 x47_4))] : List Int))).bind fun bt676 => (some (bt676.1, bt676.2, true))) else (impl_votes_firstOfTwo.l2 a1 kj33 t650 (rd t650 x18_1) (rd y654 x27_2) t650 (t650.length : Int) x18_1 y654 (y654.length : Int) x27_2 t650 (t650.length : Int) (wrap64 (x47_4 + 1)) a0_0 l0_1))) = some (r1, r2, r3) := by rw [if_pos rfl] at H; exact H
                             clear H
                             have H := H1
                             clear H1
                             replace H := Option.bind_eq_some_iff.mp H
                             obtain ⟨t669, A570, H⟩ := H
                             replace H : (if t669 = true then ((impl_pairs.f kj33 (([(rd t650 x18_1), (rd y654 x27_2)] : List Int)) (([(rd t650 x47_4), Go.bits .or .i64 (Go.bits .and .i64 (rd t650 x18_1) (rd y654 x27_2)) (Go.bits .andNot .i64 (Go.bits .or .i64 (rd t650 x18_1) (rd y654 x27_2)) (rd t650 x47_4))] : List Int))).bind fun bt676 => (some (bt676.1, bt676.2, true))) else (impl_votes_firstOfTwo.l2 a1 kj33 t650 (rd t650 x18_1) (rd y654 x27_2) t650 (t650.length : Int) x18_1 y654 (y654.length : Int) x27_2 t650 (t650.length : Int) (wrap64 (x47_4 + 1)) a0_0 l0_1)) = some (r1, r2, r3) := H
                             have A57 := Aside0.mk A570
                             clear A570
                             by_cases c58 : t669 = true
                             ·subst c58
                              have H1 : ((impl_pairs.f kj33 (([(rd t650 x18_1), (rd y654 x27_2)] : List Int)) (([(rd t650 x47_4), Go.bits .or .i64 (Go.bits .and .i64 (rd t650 x18_1) (rd y654 x27_2)) (Go.bits .andNot .i64 (Go.bits .or .i64 (rd t650 x18_1) (rd y654 x27_2)) (rd t650 x47_4))] : List Int))).bind fun bt676 => (some (bt676.1, bt676.2, true))) = some (r1, r2, r3) := by rw [if_pos rfl] at H; exact H
                              clear H
                              have H := H1
                              clear H1
                              obtain ⟨y670, hy670⟩ : ∃ y_ : List Int, y_ = (([(rd t650 x18_1), (rd y654 x27_2)] : List Int)) := ⟨_, rfl⟩
                              replace H : ((impl_pairs.f kj33 y670 (([(rd t650 x47_4), Go.bits .or .i64 (Go.bits .and .i64 (rd t650 x18_1) (rd y654 x27_2)) (Go.bits .andNot .i64 (Go.bits .or .i64 (rd t650 x18_1) (rd y654 x27_2)) (rd t650 x47_4))] : List Int))).bind fun bt676 => (some (bt676.1, bt676.2, true))) = some (r1, r2, r3) := by first | (rw [hy670]; with_reducible exact H) | (have H2_ := (Option.bind_some _ _).symm.trans H; rw [hy670]; with_reducible exact H2_) | (have H2_ := (Option.bind_some _ _).symm.trans H; with_reducible exact H2_) | with_reducible exact H | (rw [hy670]; exact H) | exact H
                              have Ny670 := Aside0.mk hy670
                              clear hy670
                              obtain ⟨y673, hy673⟩ : ∃ y_ : List Int, y_ = (([(rd t650 x47_4), Go.bits .or .i64 (Go.bits .and .i64 (rd t650 x18_1) (rd y654 x27_2)) (Go.bits .andNot .i64 (Go.bits .or .i64 (rd t650 x18_1) (rd y654 x27_2)) (rd t650 x47_4))] : List Int)) := ⟨_, rfl⟩
                              replace H : ((impl_pairs.f kj33 y670 y673).bind fun bt676 => (some (bt676.1, bt676.2, true))) = some (r1, r2, r3) := by first | (rw [hy673]; with_reducible exact H) | (have H2_ := (Option.bind_some _ _).symm.trans H; rw [hy673]; with_reducible exact H2_) | (have H2_ := (Option.bind_some _ _).symm.trans H; with_reducible exact H2_) | with_reducible exact H | (rw [hy673]; exact H) | exact H
                              have Ny673 := Aside0.mk hy673
                              clear hy673
                              replace H := Option.bind_eq_some_iff.mp H
                              obtain ⟨⟨t676, t679⟩, A590, H⟩ := H
                              replace H : (some (t676, t679, true)) = some (r1, r2, r3) := H
                              have A59 := Aside0.mk A590
                              clear A590
                              simp only [Option.some.injEq, Prod.mk.injEq] at H
                              obtain ⟨rfl, rfl, rfl⟩ := H
                              have hnb60 := NB648_649.out
                              have hnc60 := NB649_648.out
                              have hcz61_0 : wc.cell? ⟨gb648, 0, none⟩ = some (.int .i64 a0_0) := (blk_cell BK648.out 0).trans rfl
                              have hcz61_1 : wc.cell? ⟨gb648, 1, none⟩ = some (.slice _ l0_1.length c0_1) := (blk_cell BK648.out 1).trans rfl
                              have hfz61_0 := blk_frozen BK648.out 0
                              have hfz61_1 := blk_frozen BK648.out 1
                              have p663 : 0 ≤ ((Go.bits .or .i64 (Go.bits .and .i64 (rd t650 x18_1) (rd y654 x27_2)) (Go.bits .andNot .i64 (Go.bits .or .i64 (rd t650 x18_1) (rd y654 x27_2)) (rd t650 x47_4))) : Int) := of_decide_eq_true (by first | (with_reducible assumption) | assumption)
                              have q663 : (Go.bits .or .i64 (Go.bits .and .i64 (rd t650 x18_1) (rd y654 x27_2)) (Go.bits .andNot .i64 (Go.bits .or .i64 (rd t650 x18_1) (rd y654 x27_2)) (rd t650 x47_4))) < (l0_1.length : Int) := of_decide_eq_true (by first | (with_reducible assumption) | assumption)
                              obtain ⟨ad663, e663, hx663_0⟩ := Kd.at_bool HR0_1.out (Go.bits .or .i64 (Go.bits .and .i64 (rd t650 x18_1) (rd y654 x27_2)) (Go.bits .andNot .i64 (Go.bits .or .i64 (rd t650 x18_1) (rd y654 x27_2)) (rd t650 x47_4))) p663 q663
                              (try rw [← Nbq49.out] at hx663_0)
                              cases e663
                              (try replace hx663_0 := (HB.out.cell (World.block_lt_of_cell? w _ hx663_0)).trans hx663_0)
                              replace p663 := eq_true p663
                              replace q663 := eq_true q663
                              have q62 : (x47_4 : Int) ≤ ((t650.length : Int) : Int) := of_decide_eq_true (by first | (with_reducible assumption) | assumption)
                              obtain ⟨i062, hi062, _, hsz62, _⟩ := info_parts info3
                              have hroom62 : t650.length ≤ co9 := (Kd.R_reads' HO_6.out).2.1
                              have hC62 : Kd.C (Kd.int .i64) _ (some ad653) t650.length t650 := (Kd.R_reads' HO_6.out).2.2
                              have q062 : (0 : Int) ≤ (x47_4 : Int) := of_decide_eq_true (by first | (with_reducible assumption) | assumption)
                              have hcut62 := cut_from (P := Try.prog) 71 3 .i64 Try.underlying71 hi062 1 hsz62 (some ad653) t650.length co9 x47_4 q062 q62
                              have hr62 := Kd.C_drop (m := (x47_4 : Int).toNat) (c := co9) hC62 (by omega) hroom62
                              obtain ⟨A62, hA62⟩ : ∃ A1, A1 = (if co9 = (x47_4 : Int).toNat then (some ad653) else ((some ad653) : Option Addr).map (·.add ((x47_4 : Int).toNat * 1))) := ⟨_, rfl⟩
                              obtain ⟨c62, hc62⟩ : ∃ c1, c1 = co9 - (x47_4 : Int).toNat := ⟨_, rfl⟩
                              have hy62 : y664.length = t650.length - (x47_4 : Int).toNat := (by rw [Ny664.out, List.length_drop] <;> omega)
                              rw [show (t650).drop (x47_4 : Int).toNat = y664 from Ny664.out.symm] at hr62
                              replace hr62 : Kd.C (Kd.int .i64) _ A62 y664.length y664 := (by rw [hA62]; exact hr62)
                              rw [← hy62, ← hA62, ← hc62] at hcut62
                              have HR667 := Aside0.mk hr62
                              have HC667 := Aside0.mk (show y664.length ≤ c62 from by rw [hy62, hc62]; exact Nat.sub_le_sub_right hroom62 _)
                              clear hr62 hC62 hroom62 hi062 hsz62 hc62
                              have KY62 := Aside0.mk hy62
                              have KA62 := Aside0.mk hA62
                              clear hy62 hA62
                              have KL62 := Aside0.mk (show (x47_4 : Int).toNat ≤ t650.length from by omega)
                              replace q62 := eq_true q62
                              go_wp2_with (first | (go_at_call 97; (with_reducible refine (slices_Contains_int_int.calls kj33 _ _ y664 (Go.bits .or .i64 (Go.bits .and .i64 (rd t650 x18_1) (rd y654 x27_2)) (Go.bits .andNot .i64 (Go.bits .or .i64 (rd t650 x18_1) (rd y654 x27_2)) (rd t650 x47_4))) true _ ?side1 ?side2 A55.out).mono ?_); (case side1 => repeat (first | exact (by repeat (first | (with_reducible exact HR667.out) | (with_reducible refine Kd.C_alloc ?_ _) | (with_reducible refine Kd.C_drewN ?_ _) | (with_reducible refine Kd.C_drew ?_) | exact HR667.out)) | (with_reducible refine Kd.C_alloc ?_ _) | (with_reducible refine Kd.C_drewN ?_ _) | (with_reducible refine Kd.C_drew ?_))); (case side2 => exact HC667.out); rintro e w' ⟨rfl, ⟨nd, rfl⟩⟩; (try (rw [drewN_self wc]; generalize hq_ : World.drewN wc _ = wc; have nz_ : Aside0 (Kd.C (Kd.int .i64) wc (some ad658) y654.length y654) := ⟨by rw [← hq_]; exact Kd.C_drewN HR657.out _⟩; have n0_ : Aside0 (Kd.R (Kd.int .i64) 3 wc w.heap.size (fun _ => True) (.slice (some ad653) t650.length co9) t650) := ⟨by rw [← hq_]; exact (zr HO_16.out)⟩; have n1_ : Aside0 (Kd.R (Kd.int .i64) 3 wc w.heap.size (fun _ => True) (.slice (some ad653) t650.length co9) t650) := ⟨by rw [← hq_]; exact (zr HO_45.out)⟩; have n2_ : Aside0 (Kd.R (Kd.int .i64) 3 wc w.heap.size (fun _ => True) (.slice (some ad653) t650.length co9) t650) := ⟨by rw [← hq_]; exact (zr HO_6.out)⟩; have n3_ : Aside0 (wc.heap[gb648]? = some (.cells #[.int .i64 a0_0, .slice (some ad663) l0_1.length c0_1] 62 (0, 0))) := ⟨by rw [← hq_]; exact (zb BK648.out)⟩; have n4_ : Aside0 (wc.heap[gb649]? = some (.cells #[.slice none 0 0, .slice none 0 0] 46 (0, 0))) := ⟨by rw [← hq_]; exact (zb BK649.out)⟩; have n5_ : Aside0 (Below w.heap.size w wc) := ⟨by rw [← hq_]; exact (zh HB.out)⟩; have n6_ : Aside0 (Kd.C (Kd.int .i64) wc A62 y664.length y664) := ⟨by rw [← hq_]; exact (by repeat (first | (with_reducible exact HR667.out) | (with_reducible refine Kd.C_alloc ?_ _) | (with_reducible refine Kd.C_drewN ?_ _) | (with_reducible refine Kd.C_drew ?_) | exact HR667.out))⟩; clear HO_16 HO_45 HO_6 BK648 BK649 HB HR667 HR657 hq_; have HR657 := nz_; clear nz_; have HO_16 := n0_; have HO_45 := n1_; have HO_6 := n2_; have BK648 := n3_; have BK649 := n4_; have HB := n5_; have HR667 := n6_; clear n0_ n1_ n2_ n3_ n4_ n5_ n6_))))
                              rw [← Array.append_assoc]
                              refine (hp_.out _ (rd t650 x18_1) (rd y654 x27_2) (rd t650 x47_4) (Go.bits .or .i64 (Go.bits .and .i64 (rd t650 x18_1) (rd y654 x27_2)) (Go.bits .andNot .i64 (Go.bits .or .i64 (rd t650 x18_1) (rd y654 x27_2)) (rd t650 x47_4))) true (zh HB.out) A57.out).mono ?_
                              rename_i K_ hK_
                              rintro e w63 ⟨rfl, hb⟩
                              (have n0_ := Aside0.mk (Kd.R_below (zr HO_6.out) hb); have n1_ := Aside0.mk (Kd.R_below (zr HO_16.out) hb); have n2_ := Aside0.mk (Kd.R_below (zr HO_45.out) hb); have n3_ := Aside0.mk (blk_below (g := gb648) (o := .cells #[.int .i64 a0_0, .slice (some ad663) l0_1.length c0_1] 62 (0, 0)) (zb BK648.out) hb); have n4_ := Aside0.mk (blk_below (g := gb649) (o := .cells #[.slice none 0 0, .slice none 0 0] 46 (0, 0)) (zb BK649.out) hb); have n5_ := Aside0.mk (Kd.C_below (by repeat (first | (with_reducible exact HR657.out) | (with_reducible refine Kd.C_alloc ?_ _) | (with_reducible refine Kd.C_drewN ?_ _) | (with_reducible refine Kd.C_drew ?_) | exact HR657.out)) hb); have n6_ := Aside0.mk (Kd.C_below (by repeat (first | (with_reducible exact HR667.out) | (with_reducible refine Kd.C_alloc ?_ _) | (with_reducible refine Kd.C_drewN ?_ _) | (with_reducible refine Kd.C_drew ?_) | exact HR667.out)) hb); have n7_ := Aside0.mk (below_step (zh HB.out) hb); clear HO_6; clear HO_16; clear HO_45; clear BK648; clear BK649; clear HR657; clear HR667; clear HB; have HO_6 := n0_; have HO_16 := n1_; have HO_45 := n2_; have BK648 := n3_; have BK649 := n4_; have HR657 := n5_; have HR667 := n6_; have HB := n7_; clear n0_ n1_ n2_ n3_ n4_ n5_ n6_ n7_; (try clear hb); (try clear hb2); (try clear hk); (try clear hi))
                              refine hK_ _ _ ?_
                              clear hK_ K_
                              go_wp2_with (first | ((with_reducible refine gate_dst (N := 108) rfl ?_); refine Kd.R_lit (Kd.int .i64) _ 3 ?hg (N := 108) ?hd (xs := ([(rd t650 x18_1), (rd y654 x27_2)] : List Int)) (inner := [.int .i64 (rd t650 x18_1), .int .i64 (rd y654 x27_2)]) (ok := fun _ => True) (okp := fun _ => True) ?hr ?hp (fun _ hk => hk) trivial (Below.refl _ _) (Nat.le_refl _) (by simp) ?_; (case hd => rfl); (case hg => rfl); (case hr => first | (go_simp; done) | (go_simp; rfl)); (case hp => exact (Reps.one (show Kd.M (Kd.int .i64) _ _ _ (rd t650 x18_1) [.int .i64 (rd t650 x18_1)] from rfl) (Reps.one (show Kd.M (Kd.int .i64) _ _ _ (rd y654 x27_2) [.int .i64 (rd y654 x27_2)] from rfl) (Reps.none _ _)))); intro v671 w64 ho65 hb hg_ hnew_; clear hg_ hnew_; (first | rw [← Ny670.out] at ho65 | (simp only [Int.reduceToNat] at ho65; rw [← Ny670.out] at ho65)); have n0_ := Aside0.mk (Kd.R_elder' (zr HO_6.out) (Kd.R_base ho65) hb); have n1_ := Aside0.mk (Kd.R_elder' (zr HO_16.out) (Kd.R_base ho65) hb); have n2_ := Aside0.mk (Kd.R_elder' (zr HO_45.out) (Kd.R_base ho65) hb); have n3_ := Aside0.mk (Kd.R_lower (Kd.R_new' (Kd.R_new' (Kd.R_new' ho65 (Kd.R_lt (zr HO_6.out))) (Kd.R_lt (zr HO_16.out))) (Kd.R_lt (zr HO_45.out))) (below_size (zh HB.out))); have n4_ := Aside0.mk (blk_below (g := gb648) (o := .cells #[.int .i64 a0_0, .slice (some ad663) l0_1.length c0_1] 62 (0, 0)) (zb BK648.out) hb); have n5_ := Aside0.mk (blk_below (g := gb649) (o := .cells #[.slice none 0 0, .slice none 0 0] 46 (0, 0)) (zb BK649.out) hb); have n6_ := Aside0.mk (Kd.C_below (by repeat (first | (with_reducible exact HR657.out) | (with_reducible refine Kd.C_alloc ?_ _) | (with_reducible refine Kd.C_drewN ?_ _) | (with_reducible refine Kd.C_drew ?_) | exact HR657.out)) hb); have n7_ := Aside0.mk (Kd.C_below (by repeat (first | (with_reducible exact HR667.out) | (with_reducible refine Kd.C_alloc ?_ _) | (with_reducible refine Kd.C_drewN ?_ _) | (with_reducible refine Kd.C_drew ?_) | exact HR667.out)) hb); have n8_ := Aside0.mk (below_step (zh HB.out) hb); clear HO_6; clear HO_16; clear HO_45; clear BK648; clear BK649; clear HR657; clear HR667; clear HB; have HO_6 := n0_; have HO_16 := n1_; have HO_45 := n2_; have HO672 := n3_; have BK648 := n4_; have BK649 := n5_; have HR657 := n6_; have HR667 := n7_; have HB := n8_; clear n0_ n1_ n2_ n3_ n4_ n5_ n6_ n7_ n8_; clear hb ho65) | ((with_reducible refine gate_dst (N := 111) rfl ?_); refine Kd.R_lit (Kd.int .i64) _ 3 ?hg (N := 111) ?hd (xs := ([(rd t650 x47_4), Go.bits .or .i64 (Go.bits .and .i64 (rd t650 x18_1) (rd y654 x27_2)) (Go.bits .andNot .i64 (Go.bits .or .i64 (rd t650 x18_1) (rd y654 x27_2)) (rd t650 x47_4))] : List Int)) (inner := [.int .i64 (rd t650 x47_4), .int .i64 (Go.bits .or .i64 (Go.bits .and .i64 (rd t650 x18_1) (rd y654 x27_2)) (Go.bits .andNot .i64 (Go.bits .or .i64 (rd t650 x18_1) (rd y654 x27_2)) (rd t650 x47_4)))]) (ok := fun _ => True) (okp := fun _ => True) ?hr ?hp (fun _ hk => hk) trivial (Below.refl _ _) (Nat.le_refl _) (by simp) ?_; (case hd => rfl); (case hg => rfl); (case hr => first | (go_simp; done) | (go_simp; rfl)); (case hp => exact (Reps.one (show Kd.M (Kd.int .i64) _ _ _ (rd t650 x47_4) [.int .i64 (rd t650 x47_4)] from rfl) (Reps.one (show Kd.M (Kd.int .i64) _ _ _ (Go.bits .or .i64 (Go.bits .and .i64 (rd t650 x18_1) (rd y654 x27_2)) (Go.bits .andNot .i64 (Go.bits .or .i64 (rd t650 x18_1) (rd y654 x27_2)) (rd t650 x47_4))) [.int .i64 (Go.bits .or .i64 (Go.bits .and .i64 (rd t650 x18_1) (rd y654 x27_2)) (Go.bits .andNot .i64 (Go.bits .or .i64 (rd t650 x18_1) (rd y654 x27_2)) (rd t650 x47_4)))] from rfl) (Reps.none _ _)))); intro v674 w66 ho67 hb hg_ hnew_; clear hg_ hnew_; (first | rw [← Ny673.out] at ho67 | (simp only [Int.reduceToNat] at ho67; rw [← Ny673.out] at ho67)); have n0_ := Aside0.mk (Kd.R_elder' (zr HO_6.out) (Kd.R_base ho67) hb); have n1_ := Aside0.mk (Kd.R_elder' (zr HO_16.out) (Kd.R_base ho67) hb); have n2_ := Aside0.mk (Kd.R_elder' (zr HO_45.out) (Kd.R_base ho67) hb); have n3_ := Aside0.mk (Kd.R_elder' (zr HO672.out) (Kd.R_base ho67) hb); have n4_ := Aside0.mk (Kd.R_lower (Kd.R_new' (Kd.R_new' (Kd.R_new' (Kd.R_new' ho67 (Kd.R_lt (zr HO_6.out))) (Kd.R_lt (zr HO_16.out))) (Kd.R_lt (zr HO_45.out))) (Kd.R_lt (zr HO672.out))) (below_size (zh HB.out))); have n5_ := Aside0.mk (blk_below (g := gb648) (o := .cells #[.int .i64 a0_0, .slice (some ad663) l0_1.length c0_1] 62 (0, 0)) (zb BK648.out) hb); have n6_ := Aside0.mk (blk_below (g := gb649) (o := .cells #[.slice none 0 0, .slice none 0 0] 46 (0, 0)) (zb BK649.out) hb); have n7_ := Aside0.mk (Kd.C_below (by repeat (first | (with_reducible exact HR657.out) | (with_reducible refine Kd.C_alloc ?_ _) | (with_reducible refine Kd.C_drewN ?_ _) | (with_reducible refine Kd.C_drew ?_) | exact HR657.out)) hb); have n8_ := Aside0.mk (Kd.C_below (by repeat (first | (with_reducible exact HR667.out) | (with_reducible refine Kd.C_alloc ?_ _) | (with_reducible refine Kd.C_drewN ?_ _) | (with_reducible refine Kd.C_drew ?_) | exact HR667.out)) hb); have n9_ := Aside0.mk (below_step (zh HB.out) hb); clear HO_6; clear HO_16; clear HO_45; clear HO672; clear BK648; clear BK649; clear HR657; clear HR667; clear HB; have HO_6 := n0_; have HO_16 := n1_; have HO_45 := n2_; have HO672 := n3_; have HO675 := n4_; have BK648 := n5_; have BK649 := n6_; have HR657 := n7_; have HR667 := n8_; have HB := n9_; clear n0_ n1_ n2_ n3_ n4_ n5_ n6_ n7_ n8_ n9_; clear hb ho67; obtain ⟨Ao68, co68, eo68⟩ := Kd.R_slice HO672.out; subst eo68; obtain ⟨Ao69, co69, eo69⟩ := Kd.R_slice HO675.out; subst eo69) | ((with_reducible refine gate_callee (f := 98) rfl ?_); refine goesL_ (some 112) rfl rfl Try.func98 (by kernel_rfl) rfl #[.slice Ao68 y670.length co68, .slice Ao69 y673.length co69] rfl (by (try simp only [List.map_toArray, List.map_cons, List.map_nil]); first | done | rfl | (simp only [List.length_drop, List.length_take]; rfl)) ?_; (with_reducible refine (impl_pairs.calls kj33 _ _ y670 _ _ y673 t676 t679 _ ?side1 ?side2 ?side3 ?side4 A59.out).mono ?_); (case side1 => repeat (first | exact (Kd.R_reads' HO672.out).2.2 | (with_reducible refine Kd.C_alloc ?_ _) | (with_reducible refine Kd.C_drewN ?_ _) | (with_reducible refine Kd.C_drew ?_))); (case side2 => exact (Kd.R_reads' HO672.out).2.1); (case side3 => repeat (first | exact (Kd.R_reads' HO675.out).2.2 | (with_reducible refine Kd.C_alloc ?_ _) | (with_reducible refine Kd.C_drewN ?_ _) | (with_reducible refine Kd.C_drew ?_))); (case side4 => exact (Kd.R_reads' HO675.out).2.1); rintro e w70 ⟨v677, v680, rfl, ow_, ho0, ho1, hb⟩; refine ⟨_, rfl, ?_⟩; have n0_ := Aside0.mk (Kd.R_below (zr HO_6.out) hb); have n1_ := Aside0.mk (Kd.R_below (zr HO_16.out) hb); have n2_ := Aside0.mk (Kd.R_below (zr HO_45.out) hb); have n3_ := Aside0.mk (Kd.R_below (zr HO672.out) hb); have n4_ := Aside0.mk (Kd.R_below (zr HO675.out) hb); have n5_ := Aside0.mk (Kd.S_lower (Kd.S_new' (Kd.S_new' (Kd.S_new' (Kd.S_new' (Kd.S_new' ho0 (Kd.R_lt (zr HO_6.out))) (Kd.R_lt (zr HO_16.out))) (Kd.R_lt (zr HO_45.out))) (Kd.R_lt (zr HO672.out))) (Kd.R_lt (zr HO675.out))) (below_size (zh HB.out))); have n6_ := Aside0.mk (Kd.S_lower (Kd.S_new' (Kd.S_new' (Kd.S_new' (Kd.S_new' (Kd.S_new' ho1 (Kd.R_lt (zr HO_6.out))) (Kd.R_lt (zr HO_16.out))) (Kd.R_lt (zr HO_45.out))) (Kd.R_lt (zr HO672.out))) (Kd.R_lt (zr HO675.out))) (below_size (zh HB.out))); have n7_ := Aside0.mk (blk_below (g := gb648) (o := .cells #[.int .i64 a0_0, .slice (some ad663) l0_1.length c0_1] 62 (0, 0)) (zb BK648.out) hb); have n8_ := Aside0.mk (blk_below (g := gb649) (o := .cells #[.slice none 0 0, .slice none 0 0] 46 (0, 0)) (zb BK649.out) hb); have n9_ := Aside0.mk (Kd.C_below (by repeat (first | (with_reducible exact HR657.out) | (with_reducible refine Kd.C_alloc ?_ _) | (with_reducible refine Kd.C_drewN ?_ _) | (with_reducible refine Kd.C_drew ?_) | exact HR657.out)) hb); have n10_ := Aside0.mk (Kd.C_below (by repeat (first | (with_reducible exact HR667.out) | (with_reducible refine Kd.C_alloc ?_ _) | (with_reducible refine Kd.C_drewN ?_ _) | (with_reducible refine Kd.C_drew ?_) | exact HR667.out)) hb); have n11_ := Aside0.mk (below_step (zh HB.out) hb); clear HO_6; clear HO_16; clear HO_45; clear HO672; clear HO675; clear BK648; clear BK649; clear HR657; clear HR667; clear HB; have HO_6 := n0_; have HO_16 := n1_; have HO_45 := n2_; have HO672 := n3_; have HO675 := n4_; have HO678 := n5_; have HO681 := n6_; have BK648 := n7_; have BK649 := n8_; have HR657 := n9_; have HR667 := n10_; have HB := n11_; clear n0_ n1_ n2_ n3_ n4_ n5_ n6_ n7_ n8_ n9_ n10_ n11_; (try clear hb); (try clear hb2); (try clear hk); (try clear hi); (try clear ho0); (try clear ho1); obtain ⟨Ao71, co71, eo71⟩ := Kd.S_slice HO678.out; subst eo71; have hcz72_0 : w70.cell? ⟨gb649, 0, none⟩ = some (.slice none 0 0) := (blk_cell BK649.out 0).trans rfl; have hcz72_1 : w70.cell? ⟨gb649, 1, none⟩ = some (.slice none 0 0) := (blk_cell BK649.out 1).trans rfl; have hfz72_0 := blk_frozen BK649.out 0; have hfz72_1 := blk_frozen BK649.out 1; obtain ⟨Ao73, co73, eo73⟩ := Kd.S_slice HO681.out; subst eo73))
                              refine bodyPost_ret (results_ct rfl _ _ gb649 46 #[.slice Ao71 t676.length co71, .slice Ao73 t679.length co73] (0, 0) _ rfl (by (with_reducible repeat (first | refine blk_drewN ?_ _ | refine blk_drew ?_ | refine blk_alloc ?_ _)); refine blk_put (cs := #[.slice Ao71 t676.length co71, .slice none 0 0]) ?_ 1 _ rfl; (with_reducible repeat (first | refine blk_drewN ?_ _ | refine blk_drew ?_ | refine blk_alloc ?_ _)); refine blk_put (cs := #[.slice none 0 0, .slice none 0 0]) ?_ 0 _ rfl; (with_reducible repeat (first | refine blk_drewN ?_ _ | refine blk_drew ?_ | refine blk_alloc ?_ _)); exact BK649.out) Try.underlying46 rfl (by kernel_rfl)) rfl ?_
                              exact ⟨_, _, by first | rfl | (simp [*, errW_none, errW_some] <;> rfl), ow_, by (with_reducible repeat (first | apply Kd.S_alloc | apply Kd.S_drewN | apply Kd.S_drew)); exact Kd.S_mono (Kd.S_far (p := ⟨gb649, 1, none⟩) (Kd.S_far (p := ⟨gb649, 0, none⟩) (Kd.S_types HO678.out BK649.out (by decide)) (fun _ hk => hk.2) (.slice Ao71 t676.length co71)) (fun _ hk => hk.2) (.slice Ao73 t679.length co73)) (fun _ hk => hk.1.1.1.1.1.1), by (with_reducible repeat (first | apply Kd.S_alloc | apply Kd.S_drewN | apply Kd.S_drew)); exact Kd.S_mono (Kd.S_far (p := ⟨gb649, 1, none⟩) (Kd.S_far (p := ⟨gb649, 0, none⟩) (Kd.S_types HO681.out BK649.out (by decide)) (fun _ hk => hk.2) (.slice Ao71 t676.length co71)) (fun _ hk => hk.2) (.slice Ao73 t679.length co73)) (fun _ hk => hk.1.1.1.1.1.1), zh HB.out⟩
                             ·replace c58 := Bool.eq_false_iff.mpr c58
                              subst c58
                              have H1 : (impl_votes_firstOfTwo.l2 a1 kj33 t650 (rd t650 x18_1) (rd y654 x27_2) t650 (t650.length : Int) x18_1 y654 (y654.length : Int) x27_2 t650 (t650.length : Int) (wrap64 (x47_4 + 1)) a0_0 l0_1) = some (r1, r2, r3) := by rw [if_neg (show ¬ (false = true) by decide)] at H; exact H
                              clear H
                              have H := H1
                              clear H1
                              have H' := Aside0.mk H
                              clear H
                              have hnb74 := NB648_649.out
                              have hnc74 := NB649_648.out
                              have hcz75_0 : wc.cell? ⟨gb648, 0, none⟩ = some (.int .i64 a0_0) := (blk_cell BK648.out 0).trans rfl
                              have hcz75_1 : wc.cell? ⟨gb648, 1, none⟩ = some (.slice _ l0_1.length c0_1) := (blk_cell BK648.out 1).trans rfl
                              have hfz75_0 := blk_frozen BK648.out 0
                              have hfz75_1 := blk_frozen BK648.out 1
                              have p663 : 0 ≤ ((Go.bits .or .i64 (Go.bits .and .i64 (rd t650 x18_1) (rd y654 x27_2)) (Go.bits .andNot .i64 (Go.bits .or .i64 (rd t650 x18_1) (rd y654 x27_2)) (rd t650 x47_4))) : Int) := of_decide_eq_true (by first | (with_reducible assumption) | assumption)
                              have q663 : (Go.bits .or .i64 (Go.bits .and .i64 (rd t650 x18_1) (rd y654 x27_2)) (Go.bits .andNot .i64 (Go.bits .or .i64 (rd t650 x18_1) (rd y654 x27_2)) (rd t650 x47_4))) < (l0_1.length : Int) := of_decide_eq_true (by first | (with_reducible assumption) | assumption)
                              obtain ⟨ad663, e663, hx663_0⟩ := Kd.at_bool HR0_1.out (Go.bits .or .i64 (Go.bits .and .i64 (rd t650 x18_1) (rd y654 x27_2)) (Go.bits .andNot .i64 (Go.bits .or .i64 (rd t650 x18_1) (rd y654 x27_2)) (rd t650 x47_4))) p663 q663
                              (try rw [← Nbq49.out] at hx663_0)
                              cases e663
                              (try replace hx663_0 := (HB.out.cell (World.block_lt_of_cell? w _ hx663_0)).trans hx663_0)
                              replace p663 := eq_true p663
                              replace q663 := eq_true q663
                              have q76 : (x47_4 : Int) ≤ ((t650.length : Int) : Int) := of_decide_eq_true (by first | (with_reducible assumption) | assumption)
                              obtain ⟨i076, hi076, _, hsz76, _⟩ := info_parts info3
                              have hroom76 : t650.length ≤ co9 := (Kd.R_reads' HO_6.out).2.1
                              have hC76 : Kd.C (Kd.int .i64) _ (some ad653) t650.length t650 := (Kd.R_reads' HO_6.out).2.2
                              have q076 : (0 : Int) ≤ (x47_4 : Int) := of_decide_eq_true (by first | (with_reducible assumption) | assumption)
                              have hcut76 := cut_from (P := Try.prog) 71 3 .i64 Try.underlying71 hi076 1 hsz76 (some ad653) t650.length co9 x47_4 q076 q76
                              have hr76 := Kd.C_drop (m := (x47_4 : Int).toNat) (c := co9) hC76 (by omega) hroom76
                              obtain ⟨A76, hA76⟩ : ∃ A1, A1 = (if co9 = (x47_4 : Int).toNat then (some ad653) else ((some ad653) : Option Addr).map (·.add ((x47_4 : Int).toNat * 1))) := ⟨_, rfl⟩
                              obtain ⟨c76, hc76⟩ : ∃ c1, c1 = co9 - (x47_4 : Int).toNat := ⟨_, rfl⟩
                              have hy76 : y664.length = t650.length - (x47_4 : Int).toNat := (by rw [Ny664.out, List.length_drop] <;> omega)
                              rw [show (t650).drop (x47_4 : Int).toNat = y664 from Ny664.out.symm] at hr76
                              replace hr76 : Kd.C (Kd.int .i64) _ A76 y664.length y664 := (by rw [hA76]; exact hr76)
                              rw [← hy76, ← hA76, ← hc76] at hcut76
                              have HR667 := Aside0.mk hr76
                              have HC667 := Aside0.mk (show y664.length ≤ c76 from by rw [hy76, hc76]; exact Nat.sub_le_sub_right hroom76 _)
                              clear hr76 hC76 hroom76 hi076 hsz76 hc76
                              have KY76 := Aside0.mk hy76
                              have KA76 := Aside0.mk hA76
                              clear hy76 hA76
                              have KL76 := Aside0.mk (show (x47_4 : Int).toNat ≤ t650.length from by omega)
                              replace q76 := eq_true q76
                              go_wp2_with (first | (go_at_call 97; (with_reducible refine (slices_Contains_int_int.calls kj33 _ _ y664 (Go.bits .or .i64 (Go.bits .and .i64 (rd t650 x18_1) (rd y654 x27_2)) (Go.bits .andNot .i64 (Go.bits .or .i64 (rd t650 x18_1) (rd y654 x27_2)) (rd t650 x47_4))) true _ ?side1 ?side2 A55.out).mono ?_); (case side1 => repeat (first | exact (by repeat (first | (with_reducible exact HR667.out) | (with_reducible refine Kd.C_alloc ?_ _) | (with_reducible refine Kd.C_drewN ?_ _) | (with_reducible refine Kd.C_drew ?_) | exact HR667.out)) | (with_reducible refine Kd.C_alloc ?_ _) | (with_reducible refine Kd.C_drewN ?_ _) | (with_reducible refine Kd.C_drew ?_))); (case side2 => exact HC667.out); rintro e w' ⟨rfl, ⟨nd, rfl⟩⟩))
                              rw [← Array.append_assoc]
                              refine (hp_.out _ (rd t650 x18_1) (rd y654 x27_2) (rd t650 x47_4) (Go.bits .or .i64 (Go.bits .and .i64 (rd t650 x18_1) (rd y654 x27_2)) (Go.bits .andNot .i64 (Go.bits .or .i64 (rd t650 x18_1) (rd y654 x27_2)) (rd t650 x47_4))) false (zh HB.out) A57.out).mono ?_
                              rename_i K_ hK_
                              rintro e w77 ⟨rfl, hb⟩
                              (have n0_ := Aside0.mk (Kd.R_below (zr HO_6.out) hb); have n1_ := Aside0.mk (Kd.R_below (zr HO_16.out) hb); have n2_ := Aside0.mk (Kd.R_below (zr HO_45.out) hb); have n3_ := Aside0.mk (blk_below (g := gb648) (o := .cells #[.int .i64 a0_0, .slice (some ad663) l0_1.length c0_1] 62 (0, 0)) (zb BK648.out) hb); have n4_ := Aside0.mk (blk_below (g := gb649) (o := .cells #[.slice none 0 0, .slice none 0 0] 46 (0, 0)) (zb BK649.out) hb); have n5_ := Aside0.mk (Kd.C_below (Kd.C_drewN HR657.out _) hb); have n6_ := Aside0.mk (Kd.C_below (Kd.C_drewN HR667.out _) hb); have n7_ := Aside0.mk (below_step (zh HB.out) hb); clear HO_6; clear HO_16; clear HO_45; clear BK648; clear BK649; clear HR657; clear HR667; clear HB; have HO_6 := n0_; have HO_16 := n1_; have HO_45 := n2_; have BK648 := n3_; have BK649 := n4_; have HR657 := n5_; have HR667 := n6_; have HB := n7_; clear n0_ n1_ n2_ n3_ n4_ n5_ n6_ n7_; (try clear hb); (try clear hb2); (try clear hk); (try clear hi))
                              refine hK_ _ _ ?_
                              clear hK_ K_
                              go_wp2
                              go_roundg kj33
                              case measure => have := HK1.out; have := HK2.out; have := HJ18.out; have := HK4.out; have := HJ33.out; omega
                              case rel => exact ⟨(wrap64 (x47_4 + 1)), (by first | rfl | (simp; done) | (simp [*]; done)), H', ⟨by have := HK1.out; have := HK2.out; have := HJ18.out; have := HK4.out; have := HJ33.out; omega⟩, ⟨zr HO_6.out⟩, ⟨zr HO_16.out⟩, ⟨zr HO_45.out⟩, ⟨zb BK648.out⟩, ⟨zb BK649.out⟩, ⟨by repeat (first | (with_reducible exact HR657.out) | (with_reducible refine Kd.C_alloc ?_ _) | (with_reducible refine Kd.C_drewN ?_ _) | (with_reducible refine Kd.C_drew ?_) | exact HR657.out)⟩, ⟨zh HB.out⟩⟩
                            ·replace c56 := Bool.eq_false_iff.mpr c56
                             subst c56
                             have H1 : (impl_votes_firstOfTwo.l2 a1 kj33 t650 (rd t650 x18_1) (rd y654 x27_2) t650 (t650.length : Int) x18_1 y654 (y654.length : Int) x27_2 t650 (t650.length : Int) (wrap64 (x47_4 + 1)) a0_0 l0_1) = some (r1, r2, r3) := by rw [if_neg (show ¬ (false = true) by decide)] at H; exact H
                             clear H
                             have H := H1
                             clear H1
                             have H' := Aside0.mk H
                             clear H
                             have hnb78 := NB648_649.out
                             have hnc78 := NB649_648.out
                             have hcz79_0 : wc.cell? ⟨gb648, 0, none⟩ = some (.int .i64 a0_0) := (blk_cell BK648.out 0).trans rfl
                             have hcz79_1 : wc.cell? ⟨gb648, 1, none⟩ = some (.slice _ l0_1.length c0_1) := (blk_cell BK648.out 1).trans rfl
                             have hfz79_0 := blk_frozen BK648.out 0
                             have hfz79_1 := blk_frozen BK648.out 1
                             have p663 : 0 ≤ ((Go.bits .or .i64 (Go.bits .and .i64 (rd t650 x18_1) (rd y654 x27_2)) (Go.bits .andNot .i64 (Go.bits .or .i64 (rd t650 x18_1) (rd y654 x27_2)) (rd t650 x47_4))) : Int) := of_decide_eq_true (by first | (with_reducible assumption) | assumption)
                             have q663 : (Go.bits .or .i64 (Go.bits .and .i64 (rd t650 x18_1) (rd y654 x27_2)) (Go.bits .andNot .i64 (Go.bits .or .i64 (rd t650 x18_1) (rd y654 x27_2)) (rd t650 x47_4))) < (l0_1.length : Int) := of_decide_eq_true (by first | (with_reducible assumption) | assumption)
                             obtain ⟨ad663, e663, hx663_0⟩ := Kd.at_bool HR0_1.out (Go.bits .or .i64 (Go.bits .and .i64 (rd t650 x18_1) (rd y654 x27_2)) (Go.bits .andNot .i64 (Go.bits .or .i64 (rd t650 x18_1) (rd y654 x27_2)) (rd t650 x47_4))) p663 q663
                             (try rw [← Nbq49.out] at hx663_0)
                             cases e663
                             (try replace hx663_0 := (HB.out.cell (World.block_lt_of_cell? w _ hx663_0)).trans hx663_0)
                             replace p663 := eq_true p663
                             replace q663 := eq_true q663
                             have q80 : (x47_4 : Int) ≤ ((t650.length : Int) : Int) := of_decide_eq_true (by first | (with_reducible assumption) | assumption)
                             obtain ⟨i080, hi080, _, hsz80, _⟩ := info_parts info3
                             have hroom80 : t650.length ≤ co9 := (Kd.R_reads' HO_6.out).2.1
                             have hC80 : Kd.C (Kd.int .i64) _ (some ad653) t650.length t650 := (Kd.R_reads' HO_6.out).2.2
                             have q080 : (0 : Int) ≤ (x47_4 : Int) := of_decide_eq_true (by first | (with_reducible assumption) | assumption)
                             have hcut80 := cut_from (P := Try.prog) 71 3 .i64 Try.underlying71 hi080 1 hsz80 (some ad653) t650.length co9 x47_4 q080 q80
                             have hr80 := Kd.C_drop (m := (x47_4 : Int).toNat) (c := co9) hC80 (by omega) hroom80
                             obtain ⟨A80, hA80⟩ : ∃ A1, A1 = (if co9 = (x47_4 : Int).toNat then (some ad653) else ((some ad653) : Option Addr).map (·.add ((x47_4 : Int).toNat * 1))) := ⟨_, rfl⟩
                             obtain ⟨c80, hc80⟩ : ∃ c1, c1 = co9 - (x47_4 : Int).toNat := ⟨_, rfl⟩
                             have hy80 : y664.length = t650.length - (x47_4 : Int).toNat := (by rw [Ny664.out, List.length_drop] <;> omega)
                             rw [show (t650).drop (x47_4 : Int).toNat = y664 from Ny664.out.symm] at hr80
                             replace hr80 : Kd.C (Kd.int .i64) _ A80 y664.length y664 := (by rw [hA80]; exact hr80)
                             rw [← hy80, ← hA80, ← hc80] at hcut80
                             have HR667 := Aside0.mk hr80
                             have HC667 := Aside0.mk (show y664.length ≤ c80 from by rw [hy80, hc80]; exact Nat.sub_le_sub_right hroom80 _)
                             clear hr80 hC80 hroom80 hi080 hsz80 hc80
                             have KY80 := Aside0.mk hy80
                             have KA80 := Aside0.mk hA80
                             clear hy80 hA80
                             have KL80 := Aside0.mk (show (x47_4 : Int).toNat ≤ t650.length from by omega)
                             replace q80 := eq_true q80
                             go_wp2_with (first | (go_at_call 97; (with_reducible refine (slices_Contains_int_int.calls kj33 _ _ y664 (Go.bits .or .i64 (Go.bits .and .i64 (rd t650 x18_1) (rd y654 x27_2)) (Go.bits .andNot .i64 (Go.bits .or .i64 (rd t650 x18_1) (rd y654 x27_2)) (rd t650 x47_4))) false _ ?side1 ?side2 A55.out).mono ?_); (case side1 => repeat (first | exact (by repeat (first | (with_reducible exact HR667.out) | (with_reducible refine Kd.C_alloc ?_ _) | (with_reducible refine Kd.C_drewN ?_ _) | (with_reducible refine Kd.C_drew ?_) | exact HR667.out)) | (with_reducible refine Kd.C_alloc ?_ _) | (with_reducible refine Kd.C_drewN ?_ _) | (with_reducible refine Kd.C_drew ?_))); (case side2 => exact HC667.out); rintro e w' ⟨rfl, ⟨nd, rfl⟩⟩))
                             go_roundg kj33
                             case measure => have := HK1.out; have := HK2.out; have := HJ18.out; have := HK4.out; have := HJ33.out; omega
                             case rel => exact ⟨(wrap64 (x47_4 + 1)), (by first | rfl | (simp; done) | (simp [*]; done)), H', ⟨by have := HK1.out; have := HK2.out; have := HJ18.out; have := HK4.out; have := HJ33.out; omega⟩, ⟨zr HO_6.out⟩, ⟨zr HO_16.out⟩, ⟨zr HO_45.out⟩, ⟨zb BK648.out⟩, ⟨zb BK649.out⟩, ⟨by repeat (first | (with_reducible exact HR657.out) | (with_reducible refine Kd.C_alloc ?_ _) | (with_reducible refine Kd.C_drewN ?_ _) | (with_reducible refine Kd.C_drew ?_) | exact HR657.out)⟩, ⟨zh HB.out⟩⟩
                           ·rw [if_neg c54] at H
                            exact absurd H (by simp)
                          ·rw [if_neg c53] at H
                           exact absurd H (by simp)
                        ·rw [if_neg c48] at H
                         exact absurd H (by simp)
                       ·rw [if_neg c47] at H
                        exact absurd H (by simp)
                   ·rw [if_neg c33] at H
                    exact absurd H (by simp)
                  ·rw [if_neg c32] at H
                   exact absurd H (by simp)
                 ·rw [if_neg c31] at H
                  have c31b0 : decide (x47_4 < (t650.length : Int)) = false := decide_eq_false c31
                  clear c31
                  have H' := Aside0.mk H
                  clear H
                  go_wp2
                  go_roundg k4
                  case measure => have := HK1.out; have := HK2.out; have := HJ18.out; have := HK4.out; omega
                  case rel => exact ⟨(wrap64 (x27_2 + 1)), (by first | rfl | (simp; done) | (simp [*]; done)), H', ⟨by have := HK1.out; have := HK2.out; have := HJ18.out; have := HK4.out; omega⟩, ⟨zr HO_6.out⟩, ⟨zr HO_16.out⟩, ⟨zb BK648.out⟩, ⟨zb BK649.out⟩, ⟨by repeat (first | (with_reducible exact HR657.out) | (with_reducible refine Kd.C_alloc ?_ _) | (with_reducible refine Kd.C_drewN ?_ _) | (with_reducible refine Kd.C_drew ?_) | exact HR657.out)⟩, ⟨zh HB.out⟩⟩
           ·rw [if_neg c18] at H
            exact absurd H (by simp)
          ·rw [if_neg c17] at H
           exact absurd H (by simp)
         ·rw [if_neg c16] at H
          have c16b0 : decide (x27_2 < (y654.length : Int)) = false := decide_eq_false c16
          clear c16
          have H' := Aside0.mk H
          clear H
          go_wp2
          go_roundg k2
          case measure => have := HK1.out; have := HK2.out; omega
          case rel => exact ⟨(wrap64 (x18_1 + 1)), (by first | rfl | (simp; done) | (simp [*]; done)), H', ⟨by have := HK1.out; have := HK2.out; omega⟩, ⟨zr HO_6.out⟩, ⟨zr HO_16.out⟩, ⟨zb BK648.out⟩, ⟨zb BK649.out⟩, ⟨zh HB.out⟩⟩
      ·rw [if_neg c14] at H
       exact absurd H (by simp)
     ·rw [if_neg c12] at H
      exact absurd H (by simp)
    ·rw [if_neg c11] at H
     exact absurd H (by simp)
   ·rw [if_neg c10] at H
    have c10b0 : decide (x18_1 < (t650.length : Int)) = false := decide_eq_false c10
    clear c10
    simp only [Option.some.injEq, Prod.mk.injEq] at H
    obtain ⟨rfl, rfl, rfl⟩ := H
    have hnb81 := NB649_648.out
    have hnc81 := NB648_649.out
    have hcz82_0 : wr.cell? ⟨gb649, 0, none⟩ = some (.slice none 0 0) := (blk_cell BK649.out 0).trans rfl
    have hcz82_1 : wr.cell? ⟨gb649, 1, none⟩ = some (.slice none 0 0) := (blk_cell BK649.out 1).trans rfl
    have hfz82_0 := blk_frozen BK649.out 0
    have hfz82_1 := blk_frozen BK649.out 1
    go_wp2
    refine bodyPost_ret (results_ct rfl _ _ gb649 46 #[.slice none 0 0, .slice none 0 0] (0, 0) _ rfl (by (with_reducible repeat (first | refine blk_drewN ?_ _ | refine blk_drew ?_ | refine blk_alloc ?_ _)); refine blk_put (cs := #[.slice none 0 0, .slice none 0 0]) ?_ 1 _ rfl; (with_reducible repeat (first | refine blk_drewN ?_ _ | refine blk_drew ?_ | refine blk_alloc ?_ _)); refine blk_put (cs := #[.slice none 0 0, .slice none 0 0]) ?_ 0 _ rfl; (with_reducible repeat (first | refine blk_drewN ?_ _ | refine blk_drew ?_ | refine blk_alloc ?_ _)); exact BK649.out) Try.underlying46 rfl (by kernel_rfl)) rfl ?_
    exact ⟨_, _, by first | rfl | (simp [*, errW_none, errW_some] <;> rfl), fun _ => true, by first | exact Kd.S_nil _ _ _ _ _ | exact Kd.N_nil _ _ _ _ _ | exact Kd.V_nil _ _ _ _ _ | exact Kd.Q_nil _ _ _ _ _ | exact Kd.R_nil _ _ _ _ _, by first | exact Kd.S_nil _ _ _ _ _ | exact Kd.N_nil _ _ _ _ _ | exact Kd.V_nil _ _ _ _ _ | exact Kd.Q_nil _ _ _ _ _ | exact Kd.R_nil _ _ _ _ _, zh HB.out⟩
end
end Go.Proofs.Ytaacaifiiedoiaa.Q
end
section
namespace Go.Proofs.Ytaacaifiiedoiaa.Q
open Go.RowKit Go.Proofs.YtaacaifiiedoiaaW.PrintWords Go.Proofs.YtaacaifiiedoiaaW.PrintLast Go.Proofs.YtaacaifiiedoiaaW.PrintMore
set_option linter.unusedVariables false
set_option linter.unusedSimpArgs false
theorem isSwap.pred (w : World) : PredI4 Try.prog 65 #[] #[] w impl_isSwap.f := by
  intro W x y z u b hb hp
  show Calls Try.prog 65 #[.int .i64 x, .int .i64 y, .int .i64 z, .int .i64 u] W _
  exact (impl_isSwap.calls x y z u b W hp).mono fun _ _ ⟨he, hd⟩ => ⟨he, hd.below⟩
def firstOfSwaps.f (k : Nat) (a0_0 : Int) (l0_1 : List Bool) : Option ((List (List Int)) × (List (List Int)) × Bool) := impl_votes_firstOfTwo.f k a0_0 l0_1 impl_isSwap.f
theorem firstOfSwaps.calls (k : Nat) (a0_0 : Int) (A0_1 : Option Addr) (c0_1 : Nat) (l0_1 : List Bool) (r1 : List (List Int)) (r2 : List (List Int)) (r3 : Bool) (w : World) (hr0_1 : Kd.C Kd.bool w A0_1 l0_1.length l0_1) (hc0_1 : l0_1.length ≤ c0_1) (h : firstOfSwaps.f k a0_0 l0_1 = some (r1, r2, r3)) :
    Calls Try.prog 64 #[.agg #[.int .i64 a0_0, .slice A0_1 l0_1.length c0_1], .func (.func 65) #[] #[]] w fun e w' => ∃ v0_ v1_ : Value, e = .returned (.tuple #[.agg #[v0_, v1_], .bool r3]) ∧ ∃ ow_ : Nat → Bool, Kd.S (Kd.slice 3 (Kd.int .i64)) 71 w' w.heap.size (fun k_ => ow_ k_ = true) v0_ r1 ∧ Kd.S (Kd.slice 3 (Kd.int .i64)) 71 w' w.heap.size (fun k_ => ow_ k_ = false) v1_ r2 ∧ Below w.heap.size w w' :=
  impl_votes_firstOfTwo.calls k a0_0 A0_1 c0_1 l0_1 _ 65 #[] #[] (enters_of Try.func65 (by kernel_rfl) rfl) r1 r2 r3 w (isSwap.pred w) hr0_1 hc0_1 h
end Go.Proofs.Ytaacaifiiedoiaa.Q
end
section
namespace Go.Proofs.Ytaacaifiiedoiaa.Q
open Go.RowKit Go.Proofs.YtaacaifiiedoiaaW.PrintWords Go.Proofs.YtaacaifiiedoiaaW.PrintLast Go.Proofs.YtaacaifiiedoiaaW.PrintMore
attribute [local go_sem] max2_int min2_int max_two min_two max_three min_three max_four min_four
set_option linter.unusedVariables false
set_option linter.unusedSimpArgs false
def impl_FirstSwap.f (k : Nat) (a0_0 : Int) (l0_1 : List (List Int)) : Option ((List (List Int)) × (List (List Int)) × Bool) := (impl_isTradedGame.f k a0_0 l0_1).bind fun t688 => (if t688 = true then ((impl_Game_votes.f k a0_0 l0_1).bind fun bt689 => ((firstOfSwaps.f k bt689.1 bt689.2).bind fun bt693 => (some (bt693.1, bt693.2.1, bt693.2.2)))) else (some (([] : List (List Int)), ([] : List (List Int)), false)))
set_option maxHeartbeats 8000000 in
set_option maxRecDepth 100000 in
theorem impl_FirstSwap.calls (k : Nat) (a0_0 : Int) (A0_1 : Option Addr) (c0_1 : Nat) (l0_1 : List (List Int)) (r1 : List (List Int)) (r2 : List (List Int)) (r3 : Bool) (w : World) (hr0_1 : Kd.C (Kd.slice 3 (Kd.int .i64)) w A0_1 l0_1.length l0_1) (hc0_1 : l0_1.length ≤ c0_1) (h : impl_FirstSwap.f k a0_0 l0_1 = some (r1, r2, r3)) :
  Calls Try.prog 33 #[.agg #[.int .i64 a0_0, .slice A0_1 l0_1.length c0_1]] w fun e w' => ∃ v0_ v1_ : Value, e = .returned (.tuple #[.agg #[v0_, v1_], .bool r3]) ∧ ∃ ow_ : Nat → Bool, Kd.S (Kd.slice 3 (Kd.int .i64)) 71 w' w.heap.size (fun k_ => ow_ k_ = true) v0_ r1 ∧ Kd.S (Kd.slice 3 (Kd.int .i64)) 71 w' w.heap.size (fun k_ => ow_ k_ = false) v1_ r2 ∧ Below w.heap.size w w' := by
 have hu31 := Try.underlying31
 have hu46 := Try.underlying46
 have HR0_1 := Aside0.mk hr0_1
 have HC0_1 := Aside0.mk hc0_1
 clear hr0_1 hc0_1
 have HB := Aside0.mk (Below.refl w.heap.size w)
 have H : ((impl_isTradedGame.f k a0_0 l0_1).bind fun t688 => (if t688 = true then ((impl_Game_votes.f k a0_0 l0_1).bind fun bt689 => ((firstOfSwaps.f k bt689.1 bt689.2).bind fun bt693 => (some (bt693.1, bt693.2.1, bt693.2.2)))) else (some (([] : List (List Int)), ([] : List (List Int)), false)))) = some (r1, r2, r3) := h
 clear h
 replace H := Option.bind_eq_some_iff.mp H
 obtain ⟨t688, A20, H⟩ := H
 replace H : (if t688 = true then ((impl_Game_votes.f k a0_0 l0_1).bind fun bt689 => ((firstOfSwaps.f k bt689.1 bt689.2).bind fun bt693 => (some (bt693.1, bt693.2.1, bt693.2.2)))) else (some (([] : List (List Int)), ([] : List (List Int)), false))) = some (r1, r2, r3) := H
 have A2 := Aside0.mk A20
 clear A20
 by_cases c3 : t688 = true
 rotate_left
 ·replace c3 := Bool.eq_false_iff.mpr c3
  subst c3
  have H1 : (some (([] : List (List Int)), ([] : List (List Int)), false)) = some (r1, r2, r3) := by rw [if_neg (show ¬ (false = true) by decide)] at H; exact H
  clear H
  have H := H1
  clear H1
  simp only [Option.some.injEq, Prod.mk.injEq] at H
  obtain ⟨rfl, rfl, rfl⟩ := H
  go_enter Try.func33, Try.ntmps33
  go_wp2_with (first | ((with_reducible refine gate_dst (N := 1) rfl ?_); refine box_event ?hg (N := 1) ?hd (cs := #[.int .i64 a0_0, .slice A0_1 l0_1.length c0_1]) (t := 31) ?hr ?_; (case hd => rfl); (case hg => rfl); (case hr => first | (go_simp; done) | (go_simp; rfl)); intro gb686 hg w18 hbox hb; have n2_ := Aside0.mk ((by rw [hg]; exact (below_size (zh HB.out)) : w.heap.size ≤ gb686)); replace HB := Aside0.mk (below_step (zh HB.out) hb); have BK686 := Aside0.mk hbox; have GW686 := n2_; have GE686 := n2_; clear n2_ hb hbox hg) | ((with_reducible refine gate_dst (N := 2) rfl ?_); refine box_event ?hg (N := 2) ?hd (cs := #[.slice none 0 0, .slice none 0 0]) (t := 46) ?hr ?_; (case hd => rfl); (case hg => rfl); (case hr => first | (go_simp; done) | (go_simp; rfl)); intro gb687 hg w19 hbox hb; have n0_ := Aside0.mk (blk_below (g := gb686) (o := .cells #[.int .i64 a0_0, .slice A0_1 l0_1.length c0_1] 31 (0, 0)) (zb BK686.out) hb); have n1_ := Aside0.mk (below_step (zh HB.out) hb); have n2_ := Aside0.mk (hbox); have n3_ := Aside0.mk ((by rw [hg]; exact (below_size (zh HB.out)) : w.heap.size ≤ gb687)); have n4_ := Aside0.mk ((by rw [hg]; exact (below_size (zh HB.out)) : w.heap.size ≤ gb687)); have n5_ := Aside0.mk ((by rw [hg]; exact Nat.ne_of_lt (blk_lt (g := gb686) (o := .cells #[.int .i64 a0_0, .slice A0_1 l0_1.length c0_1] 31 (0, 0)) (zb BK686.out)) : gb686 ≠ gb687)); have n6_ := Aside0.mk ((by rw [hg]; exact Nat.ne_of_gt (blk_lt (g := gb686) (o := .cells #[.int .i64 a0_0, .slice A0_1 l0_1.length c0_1] 31 (0, 0)) (zb BK686.out)) : gb687 ≠ gb686)); clear BK686; clear HB; have BK686 := n0_; have HB := n1_; have BK687 := n2_; have GW687 := n3_; have GE687 := n4_; have NB686_687 := n5_; have NB687_686 := n6_; clear n0_ n1_ n2_ n3_ n4_ n5_ n6_; clear hb hbox hg; have hnb20 := NB686_687.out; have hnc20 := NB687_686.out; have hcz21_0 : w19.cell? ⟨gb686, 0, none⟩ = some (.int .i64 a0_0) := (blk_cell BK686.out 0).trans rfl; have hcz21_1 : w19.cell? ⟨gb686, 1, none⟩ = some (.slice A0_1 l0_1.length c0_1) := (blk_cell BK686.out 1).trans rfl; have hfz21_0 := blk_frozen BK686.out 0; have hfz21_1 := blk_frozen BK686.out 1) | ((with_reducible refine gate_callee (f := 61) rfl ?_); refine goesL_ (some 5) rfl rfl Try.func61 (by kernel_rfl) rfl #[.agg #[.int .i64 a0_0, .slice A0_1 l0_1.length c0_1]] rfl (by (try simp only [List.map_toArray, List.map_cons, List.map_nil]); first | done | rfl | (simp only [List.length_drop, List.length_take]; rfl)) ?_; (with_reducible refine (impl_isTradedGame.calls k a0_0 _ _ l0_1 false _ ?side1 ?side2 A2.out).mono ?_); (case side1 => repeat (first | exact (Kd.C_below HR0_1.out HB.out) | (with_reducible refine Kd.C_alloc ?_ _) | (with_reducible refine Kd.C_drewN ?_ _) | (with_reducible refine Kd.C_drew ?_))); (case side2 => exact HC0_1.out); rintro e w22 ⟨rfl, hb⟩; refine ⟨_, rfl, ?_⟩; have n0_ := Aside0.mk (blk_below (g := gb686) (o := .cells #[.int .i64 a0_0, .slice A0_1 l0_1.length c0_1] 31 (0, 0)) (zb BK686.out) hb); have n1_ := Aside0.mk (blk_below (g := gb687) (o := .cells #[.slice none 0 0, .slice none 0 0] 46 (0, 0)) (zb BK687.out) hb); have n2_ := Aside0.mk (below_step (zh HB.out) hb); clear BK686; clear BK687; clear HB; have BK686 := n0_; have BK687 := n1_; have HB := n2_; clear n0_ n1_ n2_; (try clear hb); (try clear hb2); (try clear hk); (try clear hi); have hcz23_0 : w22.cell? ⟨gb687, 0, none⟩ = some (.slice none 0 0) := (blk_cell BK687.out 0).trans rfl; have hcz23_1 : w22.cell? ⟨gb687, 1, none⟩ = some (.slice none 0 0) := (blk_cell BK687.out 1).trans rfl; have hfz23_0 := blk_frozen BK687.out 0; have hfz23_1 := blk_frozen BK687.out 1))
  refine bodyPost_ret (results_ct rfl _ _ gb687 46 #[.slice none 0 0, .slice none 0 0] (0, 0) _ rfl (by (with_reducible repeat (first | refine blk_drewN ?_ _ | refine blk_drew ?_ | refine blk_alloc ?_ _)); refine blk_put (cs := #[.slice none 0 0, .slice none 0 0]) ?_ 1 _ rfl; (with_reducible repeat (first | refine blk_drewN ?_ _ | refine blk_drew ?_ | refine blk_alloc ?_ _)); refine blk_put (cs := #[.slice none 0 0, .slice none 0 0]) ?_ 0 _ rfl; (with_reducible repeat (first | refine blk_drewN ?_ _ | refine blk_drew ?_ | refine blk_alloc ?_ _)); exact BK687.out) Try.underlying46 rfl (by kernel_rfl)) rfl ?_
  exact ⟨_, _, by first | rfl | (simp [*, errW_none, errW_some] <;> rfl), fun _ => true, by first | exact Kd.S_nil _ _ _ _ _ | exact Kd.N_nil _ _ _ _ _ | exact Kd.V_nil _ _ _ _ _ | exact Kd.Q_nil _ _ _ _ _ | exact Kd.R_nil _ _ _ _ _, by first | exact Kd.S_nil _ _ _ _ _ | exact Kd.N_nil _ _ _ _ _ | exact Kd.V_nil _ _ _ _ _ | exact Kd.Q_nil _ _ _ _ _ | exact Kd.R_nil _ _ _ _ _, zh HB.out⟩
 subst c3
 have H1 : ((impl_Game_votes.f k a0_0 l0_1).bind fun bt689 => ((firstOfSwaps.f k bt689.1 bt689.2).bind fun bt693 => (some (bt693.1, bt693.2.1, bt693.2.2)))) = some (r1, r2, r3) := by rw [if_pos rfl] at H; exact H
 clear H
 have H := H1
 clear H1
 replace H := Option.bind_eq_some_iff.mp H
 obtain ⟨⟨t689, t690⟩, A40, H⟩ := H
 replace H : ((firstOfSwaps.f k t689 t690).bind fun bt693 => (some (bt693.1, bt693.2.1, bt693.2.2))) = some (r1, r2, r3) := H
 have A4 := Aside0.mk A40
 clear A40
 replace H := Option.bind_eq_some_iff.mp H
 obtain ⟨⟨t693, t696, t699⟩, A50, H⟩ := H
 replace H : (some (t693, t696, t699)) = some (r1, r2, r3) := H
 have A5 := Aside0.mk A50
 clear A50
 simp only [Option.some.injEq, Prod.mk.injEq] at H
 obtain ⟨rfl, rfl, rfl⟩ := H
 go_enter Try.func33, Try.ntmps33
 go_wp2_with (first | ((with_reducible refine gate_dst (N := 1) rfl ?_); refine box_event ?hg (N := 1) ?hd (cs := #[.int .i64 a0_0, .slice A0_1 l0_1.length c0_1]) (t := 31) ?hr ?_; (case hd => rfl); (case hg => rfl); (case hr => first | (go_simp; done) | (go_simp; rfl)); intro gb686 hg w6 hbox hb; have n2_ := Aside0.mk ((by rw [hg]; exact (below_size (zh HB.out)) : w.heap.size ≤ gb686)); replace HB := Aside0.mk (below_step (zh HB.out) hb); have BK686 := Aside0.mk hbox; have GW686 := n2_; have GE686 := n2_; clear n2_ hb hbox hg) | ((with_reducible refine gate_dst (N := 2) rfl ?_); refine box_event ?hg (N := 2) ?hd (cs := #[.slice none 0 0, .slice none 0 0]) (t := 46) ?hr ?_; (case hd => rfl); (case hg => rfl); (case hr => first | (go_simp; done) | (go_simp; rfl)); intro gb687 hg w7 hbox hb; have n0_ := Aside0.mk (blk_below (g := gb686) (o := .cells #[.int .i64 a0_0, .slice A0_1 l0_1.length c0_1] 31 (0, 0)) (zb BK686.out) hb); have n1_ := Aside0.mk (below_step (zh HB.out) hb); have n2_ := Aside0.mk (hbox); have n3_ := Aside0.mk ((by rw [hg]; exact (below_size (zh HB.out)) : w.heap.size ≤ gb687)); have n4_ := Aside0.mk ((by rw [hg]; exact (below_size (zh HB.out)) : w.heap.size ≤ gb687)); have n5_ := Aside0.mk ((by rw [hg]; exact Nat.ne_of_lt (blk_lt (g := gb686) (o := .cells #[.int .i64 a0_0, .slice A0_1 l0_1.length c0_1] 31 (0, 0)) (zb BK686.out)) : gb686 ≠ gb687)); have n6_ := Aside0.mk ((by rw [hg]; exact Nat.ne_of_gt (blk_lt (g := gb686) (o := .cells #[.int .i64 a0_0, .slice A0_1 l0_1.length c0_1] 31 (0, 0)) (zb BK686.out)) : gb687 ≠ gb686)); clear BK686; clear HB; have BK686 := n0_; have HB := n1_; have BK687 := n2_; have GW687 := n3_; have GE687 := n4_; have NB686_687 := n5_; have NB687_686 := n6_; clear n0_ n1_ n2_ n3_ n4_ n5_ n6_; clear hb hbox hg; have hnb8 := NB686_687.out; have hnc8 := NB687_686.out; have hcz9_0 : w7.cell? ⟨gb686, 0, none⟩ = some (.int .i64 a0_0) := (blk_cell BK686.out 0).trans rfl; have hcz9_1 : w7.cell? ⟨gb686, 1, none⟩ = some (.slice A0_1 l0_1.length c0_1) := (blk_cell BK686.out 1).trans rfl; have hfz9_0 := blk_frozen BK686.out 0; have hfz9_1 := blk_frozen BK686.out 1) | ((with_reducible refine gate_callee (f := 61) rfl ?_); refine goesL_ (some 5) rfl rfl Try.func61 (by kernel_rfl) rfl #[.agg #[.int .i64 a0_0, .slice A0_1 l0_1.length c0_1]] rfl (by (try simp only [List.map_toArray, List.map_cons, List.map_nil]); first | done | rfl | (simp only [List.length_drop, List.length_take]; rfl)) ?_; (with_reducible refine (impl_isTradedGame.calls k a0_0 _ _ l0_1 true _ ?side1 ?side2 A2.out).mono ?_); (case side1 => repeat (first | exact (Kd.C_below HR0_1.out HB.out) | (with_reducible refine Kd.C_alloc ?_ _) | (with_reducible refine Kd.C_drewN ?_ _) | (with_reducible refine Kd.C_drew ?_))); (case side2 => exact HC0_1.out); rintro e w10 ⟨rfl, hb⟩; refine ⟨_, rfl, ?_⟩; have n0_ := Aside0.mk (blk_below (g := gb686) (o := .cells #[.int .i64 a0_0, .slice A0_1 l0_1.length c0_1] 31 (0, 0)) (zb BK686.out) hb); have n1_ := Aside0.mk (blk_below (g := gb687) (o := .cells #[.slice none 0 0, .slice none 0 0] 46 (0, 0)) (zb BK687.out) hb); have n2_ := Aside0.mk (below_step (zh HB.out) hb); clear BK686; clear BK687; clear HB; have BK686 := n0_; have BK687 := n1_; have HB := n2_; clear n0_ n1_ n2_; (try clear hb); (try clear hb2); (try clear hk); (try clear hi); have hcz11_0 : w10.cell? ⟨gb686, 0, none⟩ = some (.int .i64 a0_0) := (blk_cell BK686.out 0).trans rfl; have hcz11_1 : w10.cell? ⟨gb686, 1, none⟩ = some (.slice A0_1 l0_1.length c0_1) := (blk_cell BK686.out 1).trans rfl; have hfz11_0 := blk_frozen BK686.out 0; have hfz11_1 := blk_frozen BK686.out 1) | ((with_reducible refine gate_callee (f := 45) rfl ?_); refine goesL_ (some 9) rfl rfl Try.func45 (by kernel_rfl) rfl #[.agg #[.int .i64 a0_0, .slice A0_1 l0_1.length c0_1]] rfl (by (try simp only [List.map_toArray, List.map_cons, List.map_nil]); first | done | rfl | (simp only [List.length_drop, List.length_take]; rfl)) ?_; (with_reducible refine (impl_Game_votes.calls k a0_0 _ _ l0_1 t689 t690 _ ?side1 ?side2 A4.out).mono ?_); (case side1 => repeat (first | exact (Kd.C_below HR0_1.out HB.out) | (with_reducible refine Kd.C_alloc ?_ _) | (with_reducible refine Kd.C_drewN ?_ _) | (with_reducible refine Kd.C_drew ?_))); (case side2 => exact HC0_1.out); rintro e w12 ⟨v691, rfl, ho0, hb⟩; refine ⟨_, rfl, ?_⟩; have n0_ := Aside0.mk (Kd.R_lower ho0 (below_size (zh HB.out))); have n1_ := Aside0.mk (blk_below (g := gb686) (o := .cells #[.int .i64 a0_0, .slice A0_1 l0_1.length c0_1] 31 (0, 0)) (zb BK686.out) hb); have n2_ := Aside0.mk (blk_below (g := gb687) (o := .cells #[.slice none 0 0, .slice none 0 0] 46 (0, 0)) (zb BK687.out) hb); have n3_ := Aside0.mk (below_step (zh HB.out) hb); clear BK686; clear BK687; clear HB; have HO692 := n0_; have BK686 := n1_; have BK687 := n2_; have HB := n3_; clear n0_ n1_ n2_ n3_; (try clear hb); (try clear hb2); (try clear hk); (try clear hi); (try clear ho0); obtain ⟨Ao13, co13, eo13⟩ := Kd.R_slice HO692.out; subst eo13) | ((with_reducible refine gate_callee (f := 64) rfl ?_); refine goesL_ (some 10) rfl rfl Try.func64 (by kernel_rfl) rfl #[.agg #[.int .i64 t689, .slice Ao13 t690.length co13], .func (.func 65) #[] #[]] rfl (by (try simp only [List.map_toArray, List.map_cons, List.map_nil]); first | done | rfl | (simp only [List.length_drop, List.length_take]; rfl)) ?_; (with_reducible refine (firstOfSwaps.calls k t689 _ _ t690 t693 t696 t699 _ ?side1 ?side2 A5.out).mono ?_); (case side1 => repeat (first | exact (Kd.R_reads' HO692.out).2.2 | (with_reducible refine Kd.C_alloc ?_ _) | (with_reducible refine Kd.C_drewN ?_ _) | (with_reducible refine Kd.C_drew ?_))); (case side2 => exact (Kd.R_reads' HO692.out).2.1); rintro e w14 ⟨v694, v697, rfl, ow_, ho0, ho1, hb⟩; refine ⟨_, rfl, ?_⟩; have n0_ := Aside0.mk (Kd.R_below (zr HO692.out) hb); have n1_ := Aside0.mk (Kd.S_lower ho0 (below_size (zh HB.out))); have n2_ := Aside0.mk (Kd.S_lower ho1 (below_size (zh HB.out))); have n3_ := Aside0.mk (blk_below (g := gb686) (o := .cells #[.int .i64 a0_0, .slice A0_1 l0_1.length c0_1] 31 (0, 0)) (zb BK686.out) hb); have n4_ := Aside0.mk (blk_below (g := gb687) (o := .cells #[.slice none 0 0, .slice none 0 0] 46 (0, 0)) (zb BK687.out) hb); have n5_ := Aside0.mk (below_step (zh HB.out) hb); clear HO692; clear BK686; clear BK687; clear HB; have HO692 := n0_; have HO695 := n1_; have HO698 := n2_; have BK686 := n3_; have BK687 := n4_; have HB := n5_; clear n0_ n1_ n2_ n3_ n4_ n5_; (try clear hb); (try clear hb2); (try clear hk); (try clear hi); (try clear ho0); (try clear ho1); obtain ⟨Ao15, co15, eo15⟩ := Kd.S_slice HO695.out; subst eo15; have hcz16_0 : w14.cell? ⟨gb687, 0, none⟩ = some (.slice none 0 0) := (blk_cell BK687.out 0).trans rfl; have hcz16_1 : w14.cell? ⟨gb687, 1, none⟩ = some (.slice none 0 0) := (blk_cell BK687.out 1).trans rfl; have hfz16_0 := blk_frozen BK687.out 0; have hfz16_1 := blk_frozen BK687.out 1; obtain ⟨Ao17, co17, eo17⟩ := Kd.S_slice HO698.out; subst eo17))
 refine bodyPost_ret (results_ct rfl _ _ gb687 46 #[.slice Ao15 t693.length co15, .slice Ao17 t696.length co17] (0, 0) _ rfl (by (with_reducible repeat (first | refine blk_drewN ?_ _ | refine blk_drew ?_ | refine blk_alloc ?_ _)); refine blk_put (cs := #[.slice Ao15 t693.length co15, .slice none 0 0]) ?_ 1 _ rfl; (with_reducible repeat (first | refine blk_drewN ?_ _ | refine blk_drew ?_ | refine blk_alloc ?_ _)); refine blk_put (cs := #[.slice none 0 0, .slice none 0 0]) ?_ 0 _ rfl; (with_reducible repeat (first | refine blk_drewN ?_ _ | refine blk_drew ?_ | refine blk_alloc ?_ _)); exact BK687.out) Try.underlying46 rfl (by kernel_rfl)) rfl ?_
 exact ⟨_, _, by first | rfl | (simp [*, errW_none, errW_some] <;> rfl), ow_, by (with_reducible repeat (first | apply Kd.S_alloc | apply Kd.S_drewN | apply Kd.S_drew)); exact Kd.S_mono (Kd.S_far (p := ⟨gb687, 1, none⟩) (Kd.S_far (p := ⟨gb687, 0, none⟩) (Kd.S_types HO695.out BK687.out (by decide)) (fun _ hk => hk.2) (.slice Ao15 t693.length co15)) (fun _ hk => hk.2) (.slice Ao17 t696.length co17)) (fun _ hk => hk.1), by (with_reducible repeat (first | apply Kd.S_alloc | apply Kd.S_drewN | apply Kd.S_drew)); exact Kd.S_mono (Kd.S_far (p := ⟨gb687, 1, none⟩) (Kd.S_far (p := ⟨gb687, 0, none⟩) (Kd.S_types HO698.out BK687.out (by decide)) (fun _ hk => hk.2) (.slice Ao15 t693.length co15)) (fun _ hk => hk.2) (.slice Ao17 t696.length co17)) (fun _ hk => hk.1), zh HB.out⟩
end Go.Proofs.Ytaacaifiiedoiaa.Q
end
section
namespace Go.Proofs.Ytaacaifiiedoiaa.Q
open Go.RowKit Go.Proofs.YtaacaifiiedoiaaW.PrintWords Go.Proofs.YtaacaifiiedoiaaW.PrintLast Go.Proofs.YtaacaifiiedoiaaW.PrintMore
set_option linter.unusedVariables false
set_option linter.unusedSimpArgs false
theorem stHeldFirstSwap (k : Nat) {B B2 : Option Addr} {d n d2 n2 : Nat} {y y2 : List (List Int)} (q : Int) (W : World) (h : n = y.length ∧ n ≤ d ∧ Kd.C (Kd.slice 3 (Kd.int .i64)) W B y.length y) (h' : n2 = y2.length ∧ n2 ≤ d2 ∧ Kd.C (Kd.slice 3 (Kd.int .i64)) W B2 y2.length y2) (h2 : laws_heldTrade.f k y y2 1 = some q) :
    Calls Try.prog 31 #[.agg #[.slice B n d, .slice B2 n2 d2], .int .i64 1] W fun e w' => e = .returned (.int .i64 q) ∧ Below W.heap.size W w' := by
  obtain ⟨rfl, h1, hC⟩ := h
  obtain ⟨rfl, h3, hC2⟩ := h'
  exact laws_heldTrade.calls k B d y B2 d2 y2 1 q W hC h1 hC2 h3 h2
def laws_FnExactFirstSwap.f (k : Nat) (a : Int) (l : List (List Int)) : Option Bool :=
  (laws_szGame.f k a l 1048576).bind fun q => if q < 0 then some true else (laws_toGame.f k a l).bind fun p => (spec_FirstSwap.f k p.1 p.2).bind fun s => (impl_FirstSwap.f k p.1 p.2).bind fun g => (laws_eqTrade.f k g.1 g.2.1 s.1 s.2.1).bind fun t => if t = true then (if g.2.2 = s.2.2 then (laws_eqGame.f k p.1 p.2 p.1 p.2).bind fun e => if e = true then (laws_markIntSS.f k p.2 1).bind fun x => if x.1 < 0 then none else (laws_markIntSS.f k g.1 1).bind fun n => (laws_markIntSS.f k g.2.1 n.1).bind fun n2 => (laws_heldTrade.f k n.2 n2.2 1).bind fun q => if q < 0 then none else if q = n2.1 then some true else none else none else none) else none
set_option maxRecDepth 100000 in
set_option maxHeartbeats 8000000 in
theorem laws_FnExactFirstSwap_walk (k : Nat) (a : Int) (A : Option Addr) (c : Nat) (l : List (List Int)) (r : Bool) (w : World) (hC0 : Kd.C (Kd.slice 3 (Kd.int .i64)) w A l.length l) (hc : l.length ≤ c) (h : laws_FnExactFirstSwap.f k a l = some r) :
    Calls Try.prog 8 #[.agg #[.int .i64 a, .slice A l.length c]] w fun e w' => e = .returned (.bool r) ∧ Below w.heap.size w w' := by
  have HC := Aside0.mk hC0
  have u1 := Try.underlying24
  have u2 := Try.underlying31
  have u3 := Try.underlying46
  clear hC0
  replace h := Option.bind_eq_some_iff.mp h
  obtain ⟨q0, hq0, h⟩ := h
  have HQ0 := Aside0.mk hq0
  clear hq0
  by_cases c0 : q0 < 0
  · rw [if_pos c0] at h
    obtain rfl := Option.some.inj h
    have c0b : decide (q0 < 0) = true := decide_eq_true c0
    clear h
    go_enter Try.func8, Try.ntmps8
    go_wp2_with (go_at_call 9; refine (laws_szGame.calls k a A c l 1048576 q0 _ ?hC hc HQ0.out).mono ?_; (case hC => exact Kd.C_alloc HC.out _); rintro e u1_ ⟨rfl, hb⟩; have BA := Aside0.mk (blk_below (blk_new w (.cells #[.int .i64 a, .slice A l.length c] 24 (0, 0))) hb); have HB0 := Aside0.mk (((Below.refl w.heap.size w).alloc (Nat.le_refl _) (.cells #[.int .i64 a, .slice A l.length c] 24 (0, 0))).trans (hb.mono (by simp))); clear hb; have hA0 := (blk_cell BA.out 0).trans rfl; have hA1 := (blk_cell BA.out 1).trans rfl)
    go_ret
    exact ⟨rfl, HB0.out⟩
  rw [if_neg c0] at h
  have c0b : decide (q0 < 0) = false := decide_eq_false c0
  replace h := Option.bind_eq_some_iff.mp h
  obtain ⟨⟨m, p⟩, hp, h⟩ := h
  replace h := Option.bind_eq_some_iff.mp h
  obtain ⟨⟨s, s2, sb⟩, hs, h⟩ := h
  replace h := Option.bind_eq_some_iff.mp h
  obtain ⟨⟨g, g2, gb⟩, hg, h⟩ := h
  replace h := Option.bind_eq_some_iff.mp h
  obtain ⟨t, ht, h⟩ := h
  dsimp only at hs hg ht h
  by_cases c1 : t = true
  case neg => rw [if_neg c1] at h; cases h
  rw [if_pos c1] at h
  subst c1
  by_cases c2 : gb = sb
  case neg => rw [if_neg c2] at h; cases h
  rw [if_pos c2] at h
  subst c2
  replace h := Option.bind_eq_some_iff.mp h
  obtain ⟨t, hep, h⟩ := h
  by_cases c1 : t = true
  case neg => rw [if_neg c1] at h; cases h
  rw [if_pos c1] at h
  subst c1
  replace h := Option.bind_eq_some_iff.mp h
  obtain ⟨⟨x1, xm⟩, hx, h⟩ := h
  dsimp only at hep hx h
  by_cases c3 : x1 < 0
  case pos => rw [if_pos c3] at h; cases h
  rw [if_neg c3] at h
  have c3b : decide (x1 < 0) = false := decide_eq_false c3
  replace h := Option.bind_eq_some_iff.mp h
  obtain ⟨⟨n1, nm⟩, hn, h⟩ := h
  replace h := Option.bind_eq_some_iff.mp h
  obtain ⟨⟨n3, nm2⟩, hn2, h⟩ := h
  replace h := Option.bind_eq_some_iff.mp h
  obtain ⟨q, hh, h⟩ := h
  dsimp only at hn hn2 hh h
  by_cases c4 : q < 0
  case pos => rw [if_pos c4] at h; cases h
  rw [if_neg c4] at h
  have c4b : decide (q < 0) = false := decide_eq_false c4
  by_cases c5 : q = n3
  case neg => rw [if_neg c5] at h; cases h
  rw [if_pos c5] at h
  subst c5
  obtain rfl := Option.some.inj h
  have gg : (gb != gb) = false := by simp
  have HP := Aside0.mk hp
  have HS := Aside0.mk hs
  have HG := Aside0.mk hg
  have HT := Aside0.mk ht
  have HE := Aside0.mk hep
  have HX := Aside0.mk hx
  have HN := Aside0.mk hn
  have HN2 := Aside0.mk hn2
  have HH := Aside0.mk hh
  clear h hp hs hg ht hep hx hn hn2 hh
  go_enter Try.func8, Try.ntmps8
  go_wp2_with (go_at_call 9; refine (laws_szGame.calls k a A c l 1048576 q0 _ ?hC hc HQ0.out).mono ?_; (case hC => exact Kd.C_alloc HC.out _); rintro e u1_ ⟨rfl, hb⟩; have BA := Aside0.mk (blk_below (blk_new w (.cells #[.int .i64 a, .slice A l.length c] 24 (0, 0))) hb); have HB0 := Aside0.mk (((Below.refl w.heap.size w).alloc (Nat.le_refl _) (.cells #[.int .i64 a, .slice A l.length c] 24 (0, 0))).trans (hb.mono (by simp))); clear hb; have hA0 := (blk_cell BA.out 0).trans rfl; have hA1 := (blk_cell BA.out 1).trans rfl)
  go_wp2_with (go_at_call 11; refine (laws_toGame.calls k a A c l m p _ (Kd.C_below HC.out HB0.out) hc HP.out).mono ?_; rintro e u2_ ⟨v, rfl, hR, hb⟩; obtain ⟨D, d, rfl⟩ := Kd.S_slice hR; have HD := Aside0.mk (Kd.S_reads' hR); clear hR; have nBA_ := Aside0.mk (blk_below BA.out hb); have nHB0_ := Aside0.mk (HB0.out.trans (hb.mono HB0.out.size)); clear hA0 hA1; clear BA HB0; have BA := nBA_; have HB0 := nHB0_; clear hb nBA_ nHB0_; have hA0 := (blk_cell BA.out 0).trans rfl; have hA1 := (blk_cell BA.out 1).trans rfl)
  go_wp2_with (go_at_call 32; refine (spec_FirstSwap.calls k m D d p s s2 gb _ HD.out.2.2 HD.out.2.1 HS.out).mono ?_; rintro e w1 ⟨v, v2, rfl, hV, hV2, hb⟩; obtain ⟨As, cs, rfl⟩ := Kd.V_slice hV; obtain ⟨Bs, ds, rfl⟩ := Kd.V_slice hV2; have HW := Aside0.mk (Kd.V_reads' hV); have HY := Aside0.mk (Kd.V_reads' hV2); clear HD hV hV2; have nBA_ := Aside0.mk (blk_below BA.out hb); have nHB0_ := Aside0.mk (HB0.out.trans (hb.mono HB0.out.size)); clear hA0 hA1; clear BA HB0; have BA := nBA_; have HB0 := nHB0_; clear hb nBA_ nHB0_; have hA0 := (blk_cell BA.out 0).trans rfl; have hA1 := (blk_cell BA.out 1).trans rfl; have HA := Aside0.mk (blk_lt BA.out); have HCA := Aside0.mk (Kd.C_below HC.out HB0.out); have nBA_ := Aside0.mk (blk_alloc BA.out (.cells #[.slice As s.length cs, .slice Bs s2.length ds] 46 (0, 0))); clear BA; have BA := nBA_; clear nBA_ hA0 hA1; have BW := Aside0.mk (blk_new w1 (.cells #[.slice As s.length cs, .slice Bs s2.length ds] 46 (0, 0))); have hA0 := (blk_cell BA.out 0).trans rfl; have hA1 := (blk_cell BA.out 1).trans rfl; have hW0 := (blk_cell BW.out 0).trans rfl; have hW1 := (blk_cell BW.out 1).trans rfl)
  go_wp2_with (go_at_call 11; refine (laws_toGame.calls k a A c l m p _ (Kd.C_alloc HCA.out _) hc HP.out).mono ?_; rintro e w2 ⟨v, rfl, hR, hb⟩; obtain ⟨X, cx, rfl⟩ := Kd.S_slice hR; have HX0 := Aside0.mk hR; have B1 := Aside0.mk (((Below.refl w1.heap.size w1).alloc (Nat.le_refl _) (.cells #[.slice As s.length cs, .slice Bs s2.length ds] 46 (0, 0))).trans (hb.mono (by simp))); have HZ0 := Aside0.mk (show w1.heap.size + 1 ≤ w2.heap.size from Nat.le_trans (by simp) hb.size); have nBA_ := Aside0.mk (blk_alloc (blk_below BA.out hb) (.cells #[.int .i64 m, .slice X p.length cx] 31 (0, 0))); have nBW_ := Aside0.mk (blk_alloc (blk_below BW.out hb) (.cells #[.int .i64 m, .slice X p.length cx] 31 (0, 0))); clear hA0 hA1 hW0 hW1; clear BA BW hb hR; have BA := nBA_; have BW := nBW_; clear nBA_ nBW_; have BX := Aside0.mk (blk_new w2 (.cells #[.int .i64 m, .slice X p.length cx] 31 (0, 0))); have hA0 := (blk_cell BA.out 0).trans rfl; have hA1 := (blk_cell BA.out 1).trans rfl; have hW0 := (blk_cell BW.out 0).trans rfl; have hW1 := (blk_cell BW.out 1).trans rfl; have hX0 := (blk_cell BX.out 0).trans rfl; have hX1 := (blk_cell BX.out 1).trans rfl)
  go_wp2_with (go_at_call 33; refine (impl_FirstSwap.calls k m X cx p g g2 gb _ (Kd.C_alloc (Kd.S_reads' HX0.out).2.2 _) (Kd.S_reads' HX0.out).2.1 HG.out).mono ?_; rintro e w3 ⟨v, v2, rfl, ow, hS, hS2, hb⟩; obtain ⟨G, cg, rfl⟩ := Kd.S_slice hS; obtain ⟨J, cj, rfl⟩ := Kd.S_slice hS2; have nHX0_ := Aside0.mk (Kd.S_alloc (Kd.S_below (Kd.S_mono (Kd.S_bound (Kd.S_alloc HX0.out (.cells #[.int .i64 m, .slice X p.length cx] 31 (0, 0)))) (ok' := fun z => z < w2.heap.size + 1 ∧ w1.heap.size + 1 ≤ z) (fun z hz => ⟨Nat.lt_of_lt_of_le hz.2.2.1 (by simp), Nat.le_trans (by simp) hz.2.1⟩)) hb) (.cells #[.slice G g.length cg, .slice J g2.length cj] 46 (0, 0))); have HG0 := Aside0.mk (Kd.S_alloc (Kd.S_mono (Kd.S_bound hS) (ok' := fun z => (w2.heap.size + 1 ≤ z ∧ z < w3.heap.size) ∧ ow z = true) (fun z hz => ⟨⟨Nat.le_trans (by simp) hz.2.1, hz.2.2.1⟩, hz.1⟩)) (.cells #[.slice G g.length cg, .slice J g2.length cj] 46 (0, 0))); have HJ0 := Aside0.mk (Kd.S_alloc (Kd.S_mono (Kd.S_bound hS2) (ok' := fun z => (w2.heap.size + 1 ≤ z ∧ z < w3.heap.size) ∧ ow z = false) (fun z hz => ⟨⟨Nat.le_trans (by simp) hz.2.1, hz.2.2.1⟩, hz.1⟩)) (.cells #[.slice G g.length cg, .slice J g2.length cj] 46 (0, 0))); have nB1_ := Aside0.mk (((B1.out.alloc B1.out.size (.cells #[.int .i64 m, .slice X p.length cx] 31 (0, 0))).trans (hb.mono (Nat.le_trans B1.out.size (by simp)))).alloc (Nat.le_trans B1.out.size (Nat.le_trans (by simp) hb.size)) (.cells #[.slice G g.length cg, .slice J g2.length cj] 46 (0, 0))); have HZ := Aside0.mk (show w2.heap.size + 1 ≤ w3.heap.size from Nat.le_trans (by simp) hb.size); have nBA_ := Aside0.mk (blk_alloc (blk_below BA.out hb) (.cells #[.slice G g.length cg, .slice J g2.length cj] 46 (0, 0))); have nBW_ := Aside0.mk (blk_alloc (blk_below BW.out hb) (.cells #[.slice G g.length cg, .slice J g2.length cj] 46 (0, 0))); have nBX_ := Aside0.mk (blk_alloc (blk_below BX.out hb) (.cells #[.slice G g.length cg, .slice J g2.length cj] 46 (0, 0))); clear hA0 hA1 hW0 hW1 hX0 hX1; clear BA BW BX HX0 B1 hb hS hS2; have BA := nBA_; have BW := nBW_; have BX := nBX_; have HX0 := nHX0_; have B1 := nB1_; clear nBA_ nBW_ nBX_ nHX0_ nB1_; have BG := Aside0.mk (blk_new w3 (.cells #[.slice G g.length cg, .slice J g2.length cj] 46 (0, 0))); have hA0 := (blk_cell BA.out 0).trans rfl; have hA1 := (blk_cell BA.out 1).trans rfl; have hW0 := (blk_cell BW.out 0).trans rfl; have hW1 := (blk_cell BW.out 1).trans rfl; have hX0 := (blk_cell BX.out 0).trans rfl; have hX1 := (blk_cell BX.out 1).trans rfl; have hG0 := (blk_cell BG.out 0).trans rfl; have hG1 := (blk_cell BG.out 1).trans rfl)
  go_wp2_with (go_at_call 29; refine (laws_eqTrade.calls k G cg g J cj g2 As cs s Bs ds s2 true _ (Kd.S_reads' HG0.out).2.2 (Kd.S_reads' HG0.out).2.1 (Kd.S_reads' HJ0.out).2.2 (Kd.S_reads' HJ0.out).2.1 (Kd.C_below HW.out.2.2 B1.out) HW.out.2.1 (Kd.C_below HY.out.2.2 B1.out) HY.out.2.1 HT.out).mono ?_; rintro e w4 ⟨rfl, hb⟩; have nBA_ := Aside0.mk (blk_below BA.out hb); have nBW_ := Aside0.mk (blk_below BW.out hb); have nBX_ := Aside0.mk (blk_below BX.out hb); have nBG_ := Aside0.mk (blk_below BG.out hb); have nHX0_ := Aside0.mk (Kd.S_below HX0.out hb); have nHG0_ := Aside0.mk (Kd.S_below HG0.out hb); have nHJ0_ := Aside0.mk (Kd.S_below HJ0.out hb); have nB1_ := Aside0.mk (B1.out.trans (hb.mono B1.out.size)); clear hA0 hA1 hW0 hW1 hX0 hX1 hG0 hG1; clear BA BW BX BG HX0 HG0 HJ0 B1; have BA := nBA_; have BW := nBW_; have BX := nBX_; have BG := nBG_; have HX0 := nHX0_; have HG0 := nHG0_; have HJ0 := nHJ0_; have B1 := nB1_; clear hb nBA_ nBW_ nBX_ nBG_ nHX0_ nHG0_ nHJ0_ nB1_; have hA0 := (blk_cell BA.out 0).trans rfl; have hA1 := (blk_cell BA.out 1).trans rfl; have hW0 := (blk_cell BW.out 0).trans rfl; have hW1 := (blk_cell BW.out 1).trans rfl; have hX0 := (blk_cell BX.out 0).trans rfl; have hX1 := (blk_cell BX.out 1).trans rfl; have hG0 := (blk_cell BG.out 0).trans rfl; have hG1 := (blk_cell BG.out 1).trans rfl)
  refine start_ (n := 5) (S := fun w' => w'.cell? ⟨w2.heap.size, 0, none⟩ = some (.int .i64 m) ∧ w'.cell? ⟨w2.heap.size, 1, none⟩ = some (.slice X p.length cx) ∧ w'.cell? ⟨w.heap.size, 0, none⟩ = some (.int .i64 a) ∧ w'.cell? ⟨w.heap.size, 1, none⟩ = some (.slice A l.length c)) (ds := []) #[false, false, false, false, false] (by kernel_rfl) rfl rfl ⟨(blk_cell (blk_drew BX.out) 0).trans rfl, (blk_cell (blk_drew BX.out) 1).trans rfl, (blk_cell (blk_drew BA.out) 0).trans rfl, (blk_cell (blk_drew BA.out) 1).trans rfl⟩ (fun hHeld => ?_)
  have hb : Below w4.heap.size w4 w4.drew := (Below.refl _ w4).drew
  generalize w4.drew = w5 at hb hHeld ⊢
  have nBA_ := Aside0.mk (blk_below BA.out hb)
  have nBW_ := Aside0.mk (blk_below BW.out hb)
  have nBX_ := Aside0.mk (blk_below BX.out hb)
  have nBG_ := Aside0.mk (blk_below BG.out hb)
  have nHX0_ := Aside0.mk (Kd.S_below HX0.out hb)
  have nHG0_ := Aside0.mk (Kd.S_below HG0.out hb)
  have nHJ0_ := Aside0.mk (Kd.S_below HJ0.out hb)
  have nB1_ := Aside0.mk (B1.out.trans (hb.mono B1.out.size))
  clear hA0 hA1 hW0 hW1 hX0 hX1 hG0 hG1
  clear BA BW BX BG HX0 HG0 HJ0 B1
  have BA := nBA_
  have BW := nBW_
  have BX := nBX_
  have BG := nBG_
  have HX0 := nHX0_
  have HG0 := nHG0_
  have HJ0 := nHJ0_
  have B1 := nB1_
  clear hb nBA_ nBW_ nBX_ nBG_ nHX0_ nHG0_ nHJ0_ nB1_
  have hA0 := (blk_cell BA.out 0).trans rfl
  have hA1 := (blk_cell BA.out 1).trans rfl
  have hW0 := (blk_cell BW.out 0).trans rfl
  have hW1 := (blk_cell BW.out 1).trans rfl
  have hX0 := (blk_cell BX.out 0).trans rfl
  have hX1 := (blk_cell BX.out 1).trans rfl
  have hG0 := (blk_cell BG.out 0).trans rfl
  have hG1 := (blk_cell BG.out 1).trans rfl
  refine take_ (i := 0) (N := some 41) (v := ?_) (a' := ?_) #[true, false, false, false, false] rfl rfl (by kernel_rfl) (fun _ _ _ h => h) (Or.inl ⟨by rfl, ?_⟩) hHeld ?_ ?_
  rotate_left
  · rintro w' ⟨s0, s1, s2, s3⟩
    go_simp
    with_reducible rfl
  rotate_left
  · simp only [Act.put, List.setIfInBounds_toArray, List.set_cons_zero, List.set_cons_succ, i64_w, i32_w]
    rfl
  refine take_ (i := 1) (N := some 42) (v := ?_) (a' := ?_) #[true, true, false, false, false] rfl rfl (by kernel_rfl) (fun _ _ _ h => h) (Or.inl ⟨by rfl, ?_⟩) hHeld ?_ ?_
  rotate_left
  · rintro w' ⟨s0, s1, s2, s3⟩
    go_simp
    with_reducible rfl
  rotate_left
  · simp only [Act.put, List.setIfInBounds_toArray, List.set_cons_zero, List.set_cons_succ, i64_w, i32_w]
    rfl
  refine one_ (i := 2) (N := some 43) #[true, true, true, false, false] rfl rfl (by kernel_rfl) (by decide) (fun K hK => ?_)
  refine goes_ Try.func11 (by kernel_rfl) rfl #[.agg #[.int .i64 a, .slice A l.length c]] (by rfl) rfl rfl (by (try simp only [List.map_toArray, List.map_cons, List.map_nil]); first | done | rfl) ?_
  refine (laws_toGame.calls k a A c l m p _ (Kd.C_below HCA.out B1.out) hc HP.out).mono ?_
  rintro e w6 ⟨v, rfl, hD, hb⟩
  refine ⟨_, rfl, ?_⟩
  obtain ⟨D, d, rfl⟩ := Kd.S_slice hD
  have HD := Aside0.mk (Kd.S_reads' hD)
  clear hD
  have nBA_ := Aside0.mk (blk_below BA.out hb)
  have nBW_ := Aside0.mk (blk_below BW.out hb)
  have nBX_ := Aside0.mk (blk_below BX.out hb)
  have nBG_ := Aside0.mk (blk_below BG.out hb)
  have nHX0_ := Aside0.mk (Kd.S_below HX0.out hb)
  have nHG0_ := Aside0.mk (Kd.S_below HG0.out hb)
  have nHJ0_ := Aside0.mk (Kd.S_below HJ0.out hb)
  have nB1_ := Aside0.mk (B1.out.trans (hb.mono B1.out.size))
  clear hA0 hA1 hW0 hW1 hX0 hX1 hG0 hG1
  clear BA BW BX BG HX0 HG0 HJ0 B1
  have BA := nBA_
  have BW := nBW_
  have BX := nBX_
  have BG := nBG_
  have HX0 := nHX0_
  have HG0 := nHG0_
  have HJ0 := nHJ0_
  have B1 := nB1_
  clear hb nBA_ nBW_ nBX_ nBG_ nHX0_ nHG0_ nHJ0_ nB1_
  have hA0 := (blk_cell BA.out 0).trans rfl
  have hA1 := (blk_cell BA.out 1).trans rfl
  have hW0 := (blk_cell BW.out 0).trans rfl
  have hW1 := (blk_cell BW.out 1).trans rfl
  have hX0 := (blk_cell BX.out 0).trans rfl
  have hX1 := (blk_cell BX.out 1).trans rfl
  have hG0 := (blk_cell BG.out 0).trans rfl
  have hG1 := (blk_cell BG.out 1).trans rfl
  refine hK.out _ _ ⟨(blk_cell BX.out 0).trans rfl, (blk_cell BX.out 1).trans rfl, (blk_cell BA.out 0).trans rfl, (blk_cell BA.out 1).trans rfl⟩ (fun hHeld => ?_)
  clear hK K
  refine norm_ (a' := ?_) ?_ ?_
  rotate_left
  · show Act.put _ (some 43) _ = _
    simp only [Act.put, List.setIfInBounds_toArray, List.set_cons_zero, List.set_cons_succ, i64_w, i32_w]
    rfl
  refine one_ (i := 3) (N := some 44) #[true, true, true, true, false] rfl rfl (by kernel_rfl) (by decide) (fun K hK => ?_)
  refine goes_ Try.func14 (by kernel_rfl) rfl #[.agg #[.int .i64 m, .slice X p.length cx], .agg #[.int .i64 m, .slice D p.length d]] (by rfl) rfl rfl (by (try simp only [List.map_toArray, List.map_cons, List.map_nil]); first | done | rfl) ?_
  refine (laws_eqGame.calls k m X cx p m D d p true _ (Kd.S_reads' HX0.out).2.2 (Kd.S_reads' HX0.out).2.1 HD.out.2.2 HD.out.2.1 HE.out).mono ?_
  rintro e w7 ⟨rfl, hb⟩
  refine ⟨_, rfl, ?_⟩
  clear HD
  have nBA_ := Aside0.mk (blk_below BA.out hb)
  have nBW_ := Aside0.mk (blk_below BW.out hb)
  have nBX_ := Aside0.mk (blk_below BX.out hb)
  have nBG_ := Aside0.mk (blk_below BG.out hb)
  have nHX0_ := Aside0.mk (Kd.S_below HX0.out hb)
  have nHG0_ := Aside0.mk (Kd.S_below HG0.out hb)
  have nHJ0_ := Aside0.mk (Kd.S_below HJ0.out hb)
  have nB1_ := Aside0.mk (B1.out.trans (hb.mono B1.out.size))
  clear hA0 hA1 hW0 hW1 hX0 hX1 hG0 hG1
  clear BA BW BX BG HX0 HG0 HJ0 B1
  have BA := nBA_
  have BW := nBW_
  have BX := nBX_
  have BG := nBG_
  have HX0 := nHX0_
  have HG0 := nHG0_
  have HJ0 := nHJ0_
  have B1 := nB1_
  clear hb nBA_ nBW_ nBX_ nBG_ nHX0_ nHG0_ nHJ0_ nB1_
  have hA0 := (blk_cell BA.out 0).trans rfl
  have hA1 := (blk_cell BA.out 1).trans rfl
  have hW0 := (blk_cell BW.out 0).trans rfl
  have hW1 := (blk_cell BW.out 1).trans rfl
  have hX0 := (blk_cell BX.out 0).trans rfl
  have hX1 := (blk_cell BX.out 1).trans rfl
  have hG0 := (blk_cell BG.out 0).trans rfl
  have hG1 := (blk_cell BG.out 1).trans rfl
  refine hK.out _ _ ⟨(blk_cell BX.out 0).trans rfl, (blk_cell BX.out 1).trans rfl, (blk_cell BA.out 0).trans rfl, (blk_cell BA.out 1).trans rfl⟩ (fun hHeld => ?_)
  clear hK K
  refine norm_ (a' := ?_) ?_ ?_
  rotate_left
  · show Act.put _ (some 44) _ = _
    simp only [Act.put, List.setIfInBounds_toArray, List.set_cons_zero, List.set_cons_succ, i64_w, i32_w]
    rfl
  refine pure_ (i := 4) (N := some 45) (v := ?_) (a' := ?_) #[true, true, true, true, true] rfl rfl (by kernel_rfl) (fun _ _ _ h => h) (Or.inl ⟨by rfl, ?_⟩) ?_ ?_
  rotate_left
  · intro w'
    go_simp
    with_reducible rfl
  rotate_left
  · simp only [Act.put, List.setIfInBounds_toArray, List.set_cons_zero, List.set_cons_succ, i64_w, i32_w]
    rfl
  refine done_ (by kernel_rfl) ?_
  clear hHeld
  go_wp2_with (go_at_call 15; refine (laws_markGame.calls k m X cx p 1 x1 xm (fun z => z < w2.heap.size + 1 ∧ w1.heap.size + 1 ≤ z) w1 _ B1.out (Kd.S_lower HX0.out (by first | exact (Nat.le_refl _) | simp)) HX.out).mono ?_; rintro e w8 ⟨rfl, -, -, hb, hk⟩; have nHG0_ := Aside0.mk (Kd.S_step HG0.out (fun z hz hlt => hk.2 z hlt (fun h => absurd h.1 (Nat.not_lt.2 hz.1.1)))); have nHJ0_ := Aside0.mk (Kd.S_step HJ0.out (fun z hz hlt => hk.2 z hlt (fun h => absurd h.1 (Nat.not_lt.2 hz.1.1)))); have nBA_ := Aside0.mk ((hk.2 _ (blk_lt BA.out) (fun hz => absurd (Nat.lt_of_lt_of_le HA.out (Nat.le_trans (Nat.le_succ _) hz.2)) (Nat.lt_irrefl _))).trans BA.out); have nBW_ := Aside0.mk ((hk.2 _ (blk_lt BW.out) (fun hz => absurd hz.2 (Nat.not_succ_le_self _))).trans BW.out); have nBG_ := Aside0.mk ((hk.2 _ (blk_lt BG.out) (fun hz => absurd (Nat.lt_of_lt_of_le hz.1 HZ.out) (Nat.lt_irrefl _))).trans BG.out); clear hA0 hA1 hW0 hW1 hX0 hX1 hG0 hG1; clear BA BW BX BG HX0 HG0 HJ0 B1; have BA := nBA_; have BW := nBW_; have BG := nBG_; have HG0 := nHG0_; have HJ0 := nHJ0_; have B1 := Aside0.mk hb; clear nBA_ nBW_ nBG_ nHG0_ nHJ0_ hb hk; have hA0 := (blk_cell BA.out 0).trans rfl; have hA1 := (blk_cell BA.out 1).trans rfl; have hW0 := (blk_cell BW.out 0).trans rfl; have hW1 := (blk_cell BW.out 1).trans rfl; have hG0 := (blk_cell BG.out 0).trans rfl; have hG1 := (blk_cell BG.out 1).trans rfl)
  go_wp2_with (go_at_call 29; refine (laws_eqTrade.calls k G cg g J cj g2 As cs s Bs ds s2 true _ (Kd.S_reads' HG0.out).2.2 (Kd.S_reads' HG0.out).2.1 (Kd.S_reads' HJ0.out).2.2 (Kd.S_reads' HJ0.out).2.1 (Kd.C_below HW.out.2.2 B1.out) HW.out.2.1 (Kd.C_below HY.out.2.2 B1.out) HY.out.2.1 HT.out).mono ?_; rintro e w9 ⟨rfl, hb⟩; have nBA_ := Aside0.mk (blk_below BA.out hb); have nBW_ := Aside0.mk (blk_below BW.out hb); have nBG_ := Aside0.mk (blk_below BG.out hb); have nHG0_ := Aside0.mk (Kd.S_below HG0.out hb); have nHJ0_ := Aside0.mk (Kd.S_below HJ0.out hb); have nB1_ := Aside0.mk (B1.out.trans (hb.mono B1.out.size)); clear hA0 hA1 hW0 hW1 hG0 hG1; clear BA BW BG HG0 HJ0 B1; have BA := nBA_; have BW := nBW_; have BG := nBG_; have HG0 := nHG0_; have HJ0 := nHJ0_; have B1 := nB1_; clear hb nBA_ nBW_ nBG_ nHG0_ nHJ0_ nB1_; have hA0 := (blk_cell BA.out 0).trans rfl; have hA1 := (blk_cell BA.out 1).trans rfl; have hW0 := (blk_cell BW.out 0).trans rfl; have hW1 := (blk_cell BW.out 1).trans rfl; have hG0 := (blk_cell BG.out 0).trans rfl; have hG1 := (blk_cell BG.out 1).trans rfl)
  go_wp2_with (go_at_call 30; refine (laws_markTrade.calls k G cg g J cj g2 1 n1 q nm nm2 (fun z => (w2.heap.size + 1 ≤ z ∧ z < w3.heap.size) ∧ ow z = true) (fun z => (w2.heap.size + 1 ≤ z ∧ z < w3.heap.size) ∧ ow z = false) (fun z hz hy => Bool.noConfusion (hz.2.symm.trans hy.2)) w1 _ B1.out (Kd.S_lower HG0.out (Nat.le_trans (Nat.le_succ _) (Nat.le_trans HZ0.out (by simp)))) (Kd.S_lower HJ0.out (Nat.le_trans (Nat.le_succ _) (Nat.le_trans HZ0.out (by simp)))) HN.out HN2.out).mono ?_; rintro e w10 ⟨rfl, hS, hS2, -, -, hb, hk⟩; have HM := Aside0.mk (Kd.S_reads' hS); have HL := Aside0.mk (Kd.S_reads' hS2); have nBA_ := Aside0.mk ((hk.2 _ (blk_lt BA.out) (fun hy => have hz := hy.elim And.left And.left; absurd (Nat.lt_of_lt_of_le HA.out (Nat.le_trans (Nat.le_succ _) (Nat.le_trans HZ0.out (Nat.le_trans (Nat.le_succ _) hz.1)))) (Nat.lt_irrefl _))).trans BA.out); have nBW_ := Aside0.mk ((hk.2 _ (blk_lt BW.out) (fun hy => have hz := hy.elim And.left And.left; absurd (Nat.le_trans HZ0.out (Nat.le_trans (Nat.le_succ _) hz.1)) (Nat.not_succ_le_self _))).trans BW.out); have nBG_ := Aside0.mk ((hk.2 _ (blk_lt BG.out) (fun hy => have hz := hy.elim And.left And.left; absurd hz.2 (Nat.lt_irrefl _))).trans BG.out); clear hA0 hA1 hW0 hW1 hG0 hG1; clear BA BW BG HG0 HJ0 B1; have BA := nBA_; have BW := nBW_; have BG := nBG_; have B1 := Aside0.mk hb; clear nBA_ nBW_ nBG_ hb hk hS hS2; have hA0 := (blk_cell BA.out 0).trans rfl; have hA1 := (blk_cell BA.out 1).trans rfl; have hW0 := (blk_cell BW.out 0).trans rfl; have hW1 := (blk_cell BW.out 1).trans rfl; have hG0 := (blk_cell BG.out 0).trans rfl; have hG1 := (blk_cell BG.out 1).trans rfl)
  go_wp2_with (go_at_call 31; refine (stHeldFirstSwap k q _ HM.out HL.out HH.out).mono ?_; rintro e w11 ⟨rfl, hb⟩; have nBA_ := Aside0.mk (blk_below BA.out hb); have nBW_ := Aside0.mk (blk_below BW.out hb); have nBG_ := Aside0.mk (blk_below BG.out hb); have nHM_ := Aside0.mk (And.intro HM.out.1 (And.intro HM.out.2.1 (Kd.C_below HM.out.2.2 hb))); have nHL_ := Aside0.mk (And.intro HL.out.1 (And.intro HL.out.2.1 (Kd.C_below HL.out.2.2 hb))); have nB1_ := Aside0.mk (B1.out.trans (hb.mono B1.out.size)); clear hA0 hA1 hW0 hW1 hG0 hG1; clear BA BW BG HM HL B1; have BA := nBA_; have BW := nBW_; have BG := nBG_; have HM := nHM_; have HL := nHL_; have B1 := nB1_; clear hb nBA_ nBW_ nBG_ nHM_ nHL_ nB1_; have hA0 := (blk_cell BA.out 0).trans rfl; have hA1 := (blk_cell BA.out 1).trans rfl; have hW0 := (blk_cell BW.out 0).trans rfl; have hW1 := (blk_cell BW.out 1).trans rfl; have hG0 := (blk_cell BG.out 0).trans rfl; have hG1 := (blk_cell BG.out 1).trans rfl)
  go_wp2_with (go_at_call 11; refine (laws_toGame.calls k a A c l m p _ (Kd.C_below HCA.out B1.out) hc HP.out).mono ?_; rintro e w12 ⟨v, rfl, hR, hb⟩; obtain ⟨D, d, rfl⟩ := Kd.S_slice hR; have HD := Aside0.mk (Kd.S_reads' hR); clear hR; have nBA_ := Aside0.mk (blk_below BA.out hb); have nBW_ := Aside0.mk (blk_below BW.out hb); have nBG_ := Aside0.mk (blk_below BG.out hb); have nHM_ := Aside0.mk (And.intro HM.out.1 (And.intro HM.out.2.1 (Kd.C_below HM.out.2.2 hb))); have nHL_ := Aside0.mk (And.intro HL.out.1 (And.intro HL.out.2.1 (Kd.C_below HL.out.2.2 hb))); have nB1_ := Aside0.mk (B1.out.trans (hb.mono B1.out.size)); clear hA0 hA1 hW0 hW1 hG0 hG1; clear BA BW BG HM HL B1; have BA := nBA_; have BW := nBW_; have BG := nBG_; have HM := nHM_; have HL := nHL_; have B1 := nB1_; clear hb nBA_ nBW_ nBG_ nHM_ nHL_ nB1_; have hA0 := (blk_cell BA.out 0).trans rfl; have hA1 := (blk_cell BA.out 1).trans rfl; have hW0 := (blk_cell BW.out 0).trans rfl; have hW1 := (blk_cell BW.out 1).trans rfl; have hG0 := (blk_cell BG.out 0).trans rfl; have hG1 := (blk_cell BG.out 1).trans rfl)
  go_wp2_with (go_at_call 33; refine (impl_FirstSwap.calls k m D d p g g2 gb _ HD.out.2.2 HD.out.2.1 HG.out).mono ?_; rintro e w13 ⟨v, v2, rfl, ow2_, hR, hR2, hb⟩; obtain ⟨E, f, rfl⟩ := Kd.S_slice hR; obtain ⟨E2, f2, rfl⟩ := Kd.S_slice hR2; clear HD; have HD := Aside0.mk (And.intro (Kd.S_reads' hR).1 (And.intro (Kd.S_reads' hR).2.1 (Kd.C_alloc (Kd.S_reads' hR).2.2 (.cells #[.slice E g.length f, .slice E2 g2.length f2] 46 (0, 0))))); have HD2 := Aside0.mk (And.intro (Kd.S_reads' hR2).1 (And.intro (Kd.S_reads' hR2).2.1 (Kd.C_alloc (Kd.S_reads' hR2).2.2 (.cells #[.slice E g.length f, .slice E2 g2.length f2] 46 (0, 0))))); clear hR hR2; have nBA_ := Aside0.mk (blk_alloc (blk_below BA.out hb) (.cells #[.slice E g.length f, .slice E2 g2.length f2] 46 (0, 0))); have nBW_ := Aside0.mk (blk_alloc (blk_below BW.out hb) (.cells #[.slice E g.length f, .slice E2 g2.length f2] 46 (0, 0))); have nBG_ := Aside0.mk (blk_alloc (blk_below BG.out hb) (.cells #[.slice E g.length f, .slice E2 g2.length f2] 46 (0, 0))); have nHM_ := Aside0.mk (And.intro HM.out.1 (And.intro HM.out.2.1 (Kd.C_alloc (Kd.C_below HM.out.2.2 hb) (.cells #[.slice E g.length f, .slice E2 g2.length f2] 46 (0, 0))))); have nHL_ := Aside0.mk (And.intro HL.out.1 (And.intro HL.out.2.1 (Kd.C_alloc (Kd.C_below HL.out.2.2 hb) (.cells #[.slice E g.length f, .slice E2 g2.length f2] 46 (0, 0))))); have nB1_ := Aside0.mk ((B1.out.trans (hb.mono B1.out.size)).alloc (Nat.le_trans B1.out.size hb.size) (.cells #[.slice E g.length f, .slice E2 g2.length f2] 46 (0, 0))); clear hA0 hA1 hW0 hW1 hG0 hG1; clear BA BW BG HM HL B1 hb; have BA := nBA_; have BW := nBW_; have BG := nBG_; have HM := nHM_; have HL := nHL_; have B1 := nB1_; clear nBA_ nBW_ nBG_ nHM_ nHL_ nB1_; have BH := Aside0.mk (blk_new w13 (.cells #[.slice E g.length f, .slice E2 g2.length f2] 46 (0, 0))); have hA0 := (blk_cell BA.out 0).trans rfl; have hA1 := (blk_cell BA.out 1).trans rfl; have hW0 := (blk_cell BW.out 0).trans rfl; have hW1 := (blk_cell BW.out 1).trans rfl; have hG0 := (blk_cell BG.out 0).trans rfl; have hG1 := (blk_cell BG.out 1).trans rfl; have hH0 := (blk_cell BH.out 0).trans rfl; have hH1 := (blk_cell BH.out 1).trans rfl)
  go_wp2_with (go_at_call 29; refine (laws_eqTrade.calls k E f g E2 f2 g2 As cs s Bs ds s2 true _ HD.out.2.2 HD.out.2.1 HD2.out.2.2 HD2.out.2.1 (Kd.C_below HW.out.2.2 B1.out) HW.out.2.1 (Kd.C_below HY.out.2.2 B1.out) HY.out.2.1 HT.out).mono ?_; rintro e w14 ⟨rfl, hb⟩; clear HD HD2; have nBA_ := Aside0.mk (blk_below BA.out hb); have nBW_ := Aside0.mk (blk_below BW.out hb); have nBG_ := Aside0.mk (blk_below BG.out hb); have nBH_ := Aside0.mk (blk_below BH.out hb); have nHM_ := Aside0.mk (And.intro HM.out.1 (And.intro HM.out.2.1 (Kd.C_below HM.out.2.2 hb))); have nHL_ := Aside0.mk (And.intro HL.out.1 (And.intro HL.out.2.1 (Kd.C_below HL.out.2.2 hb))); have nB1_ := Aside0.mk (B1.out.trans (hb.mono B1.out.size)); clear hA0 hA1 hW0 hW1 hG0 hG1 hH0 hH1; clear BA BW BG BH HM HL B1; have BA := nBA_; have BW := nBW_; have BG := nBG_; have BH := nBH_; have HM := nHM_; have HL := nHL_; have B1 := nB1_; clear hb nBA_ nBW_ nBG_ nBH_ nHM_ nHL_ nB1_; have hA0 := (blk_cell BA.out 0).trans rfl; have hA1 := (blk_cell BA.out 1).trans rfl; have hW0 := (blk_cell BW.out 0).trans rfl; have hW1 := (blk_cell BW.out 1).trans rfl; have hG0 := (blk_cell BG.out 0).trans rfl; have hG1 := (blk_cell BG.out 1).trans rfl; have hH0 := (blk_cell BH.out 0).trans rfl; have hH1 := (blk_cell BH.out 1).trans rfl)
  go_wp2_with (go_at_call 31; refine (stHeldFirstSwap k q _ HM.out HL.out HH.out).mono ?_; rintro e w15 ⟨rfl, hb⟩; have nBA_ := Aside0.mk (blk_below BA.out hb); have nBW_ := Aside0.mk (blk_below BW.out hb); have nBG_ := Aside0.mk (blk_below BG.out hb); have nBH_ := Aside0.mk (blk_below BH.out hb); have nHM_ := Aside0.mk (And.intro HM.out.1 (And.intro HM.out.2.1 (Kd.C_below HM.out.2.2 hb))); have nHL_ := Aside0.mk (And.intro HL.out.1 (And.intro HL.out.2.1 (Kd.C_below HL.out.2.2 hb))); have nB1_ := Aside0.mk (B1.out.trans (hb.mono B1.out.size)); clear hA0 hA1 hW0 hW1 hG0 hG1 hH0 hH1; clear BA BW BG BH HM HL B1; have BA := nBA_; have BW := nBW_; have BG := nBG_; have BH := nBH_; have HM := nHM_; have HL := nHL_; have B1 := nB1_; clear hb nBA_ nBW_ nBG_ nBH_ nHM_ nHL_ nB1_; have hA0 := (blk_cell BA.out 0).trans rfl; have hA1 := (blk_cell BA.out 1).trans rfl; have hW0 := (blk_cell BW.out 0).trans rfl; have hW1 := (blk_cell BW.out 1).trans rfl; have hG0 := (blk_cell BG.out 0).trans rfl; have hG1 := (blk_cell BG.out 1).trans rfl; have hH0 := (blk_cell BH.out 0).trans rfl; have hH1 := (blk_cell BH.out 1).trans rfl)
  go_ret
  exact ⟨rfl, HB0.out.trans (B1.out.mono HB0.out.size)⟩
theorem laws_FnExactFirstSwap.calls (k : Nat) (a0_0 : Int) (A0_1 : Option Addr) (c0_1 : Nat) (l0_1 : List (List Int)) (r : Bool) (w : World) (hr0_1 : Kd.C (Kd.slice 3 (Kd.int .i64)) w A0_1 l0_1.length l0_1) (hc0_1 : l0_1.length ≤ c0_1) (h : laws_FnExactFirstSwap.f k a0_0 l0_1 = some r) :
    Calls Try.prog 8 #[.agg #[.int .i64 a0_0, .slice A0_1 l0_1.length c0_1]] w fun e w' => e = .returned (.bool r) ∧ Below w.heap.size w w' := by
  exact laws_FnExactFirstSwap_walk k a0_0 A0_1 c0_1 l0_1 r w hr0_1 hc0_1 h
end Go.Proofs.Ytaacaifiiedoiaa.Q
end
section
namespace Go.Proofs.Ytaacaifiiedoiaa.Q
open Go.RowKit Go.Proofs.YtaacaifiiedoiaaW.PrintWords Go.Proofs.YtaacaifiiedoiaaW.PrintLast Go.Proofs.YtaacaifiiedoiaaW.PrintMore
set_option linter.unusedVariables false
set_option linter.unusedSimpArgs false
open Go.ChangeShapes Go.WideShapes Go.ChangeAt Go.Deep
section
variable {H : Type} {enc : TypeId × Value → H} {P : Program} {W : World} {α β γ : Type}
def Opens (enc : TypeId × Value → H) (P : Program) (W : World) (t : TypeId) (d : Kd α) (G : α → Prop) : Prop :=
  ∀ (fuel : Nat) (cs : List Value) (y : DataW H × List MemPlace), DataW.trod enc P W 0 (fun _ => true) true fuel t cs = some y → ∃ x, d.K W x cs ∧ G x
def I64 (x : Int) : Prop := -9223372036854775808 ≤ x ∧ x ≤ 9223372036854775807
theorem opens_int {t : TypeId} (ht : P.underlying t = some (.int .i64)) : Opens enc P W t (Kd.int .i64) I64 := by
  intro fuel cs y h
  obtain ⟨n, rfl, _, hw⟩ := DataW.trod_int ht h
  exact ⟨n, rfl, Go.bounds_i64 hw⟩
theorem opens_slice [Inhabited α] {t e : TypeId} {d : Kd α} {G : α → Prop} (ht : P.underlying t = some (.slice e)) (he : P.cellsOf e = d.sz) (h : Opens enc P W e d G) :
    Opens enc P W t (Kd.slice e d) (fun xs => ∀ x ∈ xs, G x) := by
  intro fuel cs y hr
  rcases Deep.open_slice ht hr with ⟨rfl, _⟩ | ⟨a, len, cap, m, n, D, Pl, rfl, _, hlc, hcm, hm, _, hel⟩
  · exact ⟨[], ⟨none, 0, rfl, Nat.le_refl _, rfl, by simp, fun hp => absurd hp (by simp)⟩, fun x hx => by cases hx⟩
  · have hm' : len ≤ m := by rw [hm]; simp; omega
    have key : ∀ i, i < len → ∃ x, (∃ cs', d.K W x cs' ∧ ∀ j u, cs'[j]? = some u → W.cell? (a.add (i * d.sz + j)) = some u) ∧ G x := by
      intro i hi
      obtain ⟨cs', h1, h2⟩ := hel i (by omega)
      obtain ⟨x, hx, hG⟩ := h _ _ _ h2
      obtain ⟨_, hl, hc⟩ := World.cells?_some h1
      refine ⟨x, ⟨cs', hx, fun j u hu => ?_⟩, hG⟩
      have hj : j < P.cellsOf e := by rw [← hl]; exact (List.getElem?_eq_some_iff.1 hu).1
      have h3 := hc j hj
      rw [Deep.add_add, he] at h3
      rw [h3, hu]
    obtain ⟨f, hf⟩ := Deep.choose_lt key
    have hlen : ((List.range len).map f).length = len := by simp
    refine ⟨(List.range len).map f, ⟨some a, cap, by rw [hlen], by rw [hlen]; exact hlc, rfl, ?_, fun _ => ⟨a, rfl, fun j p hj => ?_⟩⟩, fun x hx => ?_⟩
    · rw [hlen]; unfold maxLen at hcm; omega
    · obtain ⟨hj1, hj2⟩ := List.getElem?_eq_some_iff.1 hj
      have hjl : j < len := by rw [hlen] at hj1; exact hj1
      have : p = f j := by rw [← hj2]; simp
      subst this
      obtain ⟨⟨cs', hK, hc⟩, _⟩ := hf j hjl
      exact ⟨cs', d.K_len hK, hK, hc⟩
    · obtain ⟨i, hi, rfl⟩ := List.mem_map.1 hx
      exact (hf i (List.mem_range.1 hi)).2
theorem opens_pair {t : TypeId} {f0 f1 : Field} {d0 : Kd α} {d1 : Kd β} {G0 : α → Prop} {G1 : β → Prop} (ht : P.underlying t = some (.struct #[f0, f1])) (hC : P.cellsOf t = d0.sz + d1.sz)
    (o0 : f0.offset = 0) (o1 : f1.offset = d0.sz) (c0 : P.cellsOf f0.type = d0.sz) (c1 : P.cellsOf f1.type = d1.sz) (h0 : Opens enc P W f0.type d0 G0) (h1 : Opens enc P W f1.type d1 G1) :
    Opens enc P W t (Kd.pair d0 d1) (fun x => G0 x.1 ∧ G1 x.2) := by
  intro fuel cs y hr
  obtain ⟨y0, y1, n, _, hl, r0, r1⟩ := trod_struct2 ht hr
  rw [o0, c0] at r0
  rw [o1, c1] at r1
  obtain ⟨x0, k0, g0⟩ := h0 _ _ _ r0
  obtain ⟨x1, k1, g1⟩ := h1 _ _ _ r1
  refine ⟨(x0, x1), ⟨_, _, ?_, k0, k1⟩, g0, g1⟩
  rw [List.drop_zero, List.take_of_length_le (l := cs.drop d0.sz) (by rw [List.length_drop, hl, hC]; omega), List.take_append_drop]
theorem open_struct {r : Reach} {b0 : Nat} {t : TypeId} {fs : Array Field} {d : Kd α} {G : α → Prop} {v : Value} {y : DataW H} {p : List MemPlace} (ht : P.underlying t = some (.struct fs)) (hv : Value.okWide P W r b0 t v)
    (hr : DataW.Trod enc P W 0 (fun _ => true) true t v y p) (h : Opens enc P W t d G) : ∃ x cs, v = .agg cs ∧ d.K W x cs.toList ∧ G x := by
  obtain ⟨cs, rfl, _⟩ := okWide_struct ht hv
  obtain ⟨fuel, hf⟩ := hr
  obtain ⟨x, k, g⟩ := h _ _ _ hf
  exact ⟨x, cs, rfl, k, g⟩
end
end Go.Proofs.Ytaacaifiiedoiaa.Q
end
section
namespace Go.Proofs.Ytaacaifiiedoiaa.Q
open Go.RowKit Go.Proofs.YtaacaifiiedoiaaW.PrintWords Go.Proofs.YtaacaifiiedoiaaW.PrintLast Go.Proofs.YtaacaifiiedoiaaW.PrintMore
set_option linter.unusedVariables false
set_option linter.unusedSimpArgs false
theorem wraps_i64 (n : Int) (h0 : 0 ≤ n) (h1 : n < 2 ^ 62) : IntKind.i64.wrap n = n := by rw [IntKind.wrap_i64]; omega
theorem and_nat (a b : Nat) (ha : a < 2 ^ 62) (hb : b < 2 ^ 62) : Go.bits .and .i64 (a : Int) (b : Int) = ((a &&& b : Nat) : Int) := (Go.bits_nat .i64 62 (by decide) wraps_i64 a b ha hb).1
theorem or_nat (a b : Nat) (ha : a < 2 ^ 62) (hb : b < 2 ^ 62) : Go.bits .or .i64 (a : Int) (b : Int) = ((a ||| b : Nat) : Int) := (Go.bits_nat .i64 62 (by decide) wraps_i64 a b ha hb).2
theorem shr_nat (a n : Nat) (hn : n ≤ 64) : shr .i64 (a : Int) (n : Int) = ((a >>> n : Nat) : Int) := by
  unfold shr
  rw [Int.toNat_natCast, show min n IntKind.i64.bits = n from Nat.min_eq_left hn, Nat.shiftRight_eq_div_pow]
  simp
theorem shl_one_nat (n : Nat) (hn : n ≤ 16) : shl .i64 1 (n : Int) = ((2 ^ n : Nat) : Int) := by
  rw [shl_one (n : Int) ⟨by omega, by omega⟩, Int.toNat_natCast]; simp
theorem and_one_nat (a : Nat) (ha : a < 2 ^ 62) : Go.bits .and .i64 (a : Int) 1 = ((a % 2 : Nat) : Int) := by
  have := and_nat a 1 ha (by decide)
  rw [Nat.and_one_is_mod] at this
  exact this
theorem tmod_two (a : Nat) : Int.tmod (a : Int) 2 = ((a % 2 : Nat) : Int) := by
  rw [Int.tmod_eq_emod_of_nonneg (by omega)]; omega
theorem shr_lt (a i : Nat) (ha : a < 2 ^ 62) : a >>> i < 2 ^ 62 := by
  rw [Nat.shiftRight_eq_div_pow]
  exact Nat.lt_of_le_of_lt (Nat.div_le_self _ _) ha
def bitsL (m : Nat) : Nat → Nat → List Int
  | _, 0 => []
  | i, n + 1 => if m >>> i % 2 = 1 then (i : Int) :: bitsL m (i + 1) n else bitsL m (i + 1) n
def setL (m : Nat) : List Int := bitsL m 0 16
theorem bitsL_zero (m i n : Nat) (h : m >>> i = 0) : bitsL m i n = [] := by
  induction n generalizing i with
  | zero => rfl
  | succ n ih =>
    rw [bitsL, h, if_neg (by decide)]
    exact ih (i + 1) (by rw [Nat.shiftRight_succ, h])
theorem bitsL_len (m i n : Nat) : (bitsL m i n).length ≤ n := by
  induction n generalizing i with
  | zero => simp [bitsL]
  | succ n ih =>
    rw [bitsL]
    split
    · simp; exact ih _
    · exact Nat.le_succ_of_le (ih _)
theorem setOf_ev (m : Nat) (hm : m < 65536) : Ev (fun k => impl_setOf.f k (m : Int)) (setL m) := by
  unfold impl_setOf.f
  have key : ∀ (n i : Nat) (acc : List Int), i + n = 16 → acc.length ≤ i → Ev (fun k => impl_setOf.l0 k (m : Int) acc (i : Int)) (acc ++ bitsL m i n) := by
    intro n
    induction n with
    | zero =>
      intro i acc hi ha
      refine ev_succ ?_
      simp only [impl_setOf.l0, shr_nat m i (by omega)]
      refine ev_pos (by omega) (ev_neg ?_ (ev_eqv (Ev.now acc) (by simp [bitsL])))
      rw [show i = 16 by omega, Nat.shiftRight_eq_div_pow, Nat.div_eq_of_lt hm]; decide
    | succ n ih =>
      intro i acc hi ha
      refine ev_succ ?_
      simp only [impl_setOf.l0, shr_nat m i (by omega), and_one_nat _ (shr_lt m i (by omega))]
      refine ev_pos (by omega) ?_
      by_cases h0 : m >>> i = 0
      · exact ev_neg (by rw [h0]; decide) (ev_eqv (Ev.now acc) (by rw [bitsL_zero m i _ h0]; simp))
      · refine ev_pos (Int.ofNat_lt.2 (Nat.pos_of_ne_zero h0)) ?_
        rw [wrap_succ (n := 16) (by omega) (by decide), bitsL]
        by_cases h1 : m >>> i % 2 = 1
        · refine ev_pos (by omega) (ev_pos (by omega) (ev_eqv (ih (i + 1) (acc ++ [(i : Int)]) (by omega) (by simp; omega)) ?_))
          rw [if_pos h1]; simp
        · refine ev_neg (by omega) (ev_eqv (ih (i + 1) acc (by omega) (by omega)) ?_)
          rw [if_neg h1]
  exact key 16 0 [] (by omega) (by simp)
theorem voList_ev (m : Nat) (hm : m < 65536) : Ev (fun k => spec_voList.f k (m : Int)) (setL m) := by
  unfold spec_voList.f
  have key : ∀ (n i : Nat) (acc : List Int), i + n = 16 → acc.length ≤ i → Ev (fun k => spec_voList.l0 k (m : Int) acc (i : Int)) (acc ++ bitsL m i n) := by
    intro n
    induction n with
    | zero =>
      intro i acc hi ha
      refine ev_succ ?_
      simp only [spec_voList.l0, shr_nat m i (by omega)]
      refine ev_pos (by omega) (ev_neg ?_ (ev_eqv (Ev.now acc) (by simp [bitsL])))
      rw [show i = 16 by omega, Nat.shiftRight_eq_div_pow, Nat.div_eq_of_lt hm]; decide
    | succ n ih =>
      intro i acc hi ha
      refine ev_succ ?_
      simp only [spec_voList.l0, shr_nat m i (by omega), tmod_two]
      refine ev_pos (by omega) ?_
      by_cases h0 : m >>> i = 0
      · exact ev_neg (by rw [h0]; decide) (ev_eqv (Ev.now acc) (by rw [bitsL_zero m i _ h0]; simp))
      · refine ev_pos (Int.ofNat_lt.2 (Nat.pos_of_ne_zero h0)) ?_
        rw [wrap_succ (n := 16) (by omega) (by decide), bitsL]
        by_cases h1 : m >>> i % 2 = 1
        · refine ev_pos (by omega) (ev_pos (by omega) (ev_eqv (ih (i + 1) (acc ++ [(i : Int)]) (by omega) (by simp; omega)) ?_))
          rw [if_pos h1]; simp
        · refine ev_neg (by omega) (ev_eqv (ih (i + 1) acc (by omega) (by omega)) ?_)
          rw [if_neg h1]
  exact key 16 0 [] (by omega) (by simp)
theorem toIntS_ev (l : List Int) (hl : l.length ≤ 1152921504606) : Ev (fun k => laws_toIntS.f k l) l := by
  unfold laws_toIntS.f
  refine ev_pos (by omega) (ev_pos (by omega) ?_)
  rw [Int.toNat_natCast]
  have key : ∀ (d i : Nat), i + d = l.length → Ev (fun k => laws_toIntS.l0 k l (l.take i ++ List.replicate (l.length - i) 0) (i : Int)) l := by
    intro d
    induction d with
    | zero =>
      intro i hi
      refine ev_succ ?_
      simp only [laws_toIntS.l0]
      refine ev_neg (by omega) (ev_eqv (Ev.now _) ?_)
      rw [show i = l.length by omega]; simp
    | succ d ih =>
      intro i hi
      have h1 : i < l.length := by omega
      refine ev_succ ?_
      simp only [laws_toIntS.l0]
      refine ev_pos (by omega) (ev_pos (by omega) (ev_pos (by rw [List.length_append, List.length_take, List.length_replicate]; omega) ?_))
      rw [wrap_succ h1 (by omega), Int.toNat_natCast, rd_get h1]
      have e : (l.take i ++ List.replicate (l.length - i) 0).set i l[i] = l.take (i + 1) ++ List.replicate (l.length - (i + 1)) 0 := by
        rw [List.set_append_right _ _ (by rw [List.length_take]; omega), List.length_take, Nat.min_eq_left (by omega), Nat.sub_self, show l.length - i = (l.length - (i + 1)) + 1 by omega, List.replicate_succ, List.set_cons_zero, List.take_succ_eq_append_getElem h1, List.append_assoc]
        rfl
      rw [e]
      exact ih (i + 1) (by omega)
  exact key l.length 0 (by omega)
def maskN (m : Nat) : List Int → Nat
  | [] => m
  | x :: l => maskN (m ||| 2 ^ x.toNat) l
theorem maskOf_ev (l : List Int) (hl : l.length ≤ 1152921504606) (h : ∀ x ∈ l, 0 ≤ x ∧ x ≤ 15) : Ev (fun k => impl_maskOf.f k l) (maskN 0 l : Int) ∧ Ev (fun k => spec_voBits.f k l) (maskN 0 l : Int) := by
  unfold impl_maskOf.f spec_voBits.f
  have key : ∀ (d i m : Nat), i + d = l.length → m < 65536 → Ev (fun k => impl_maskOf.l0 k (m : Int) l (l.length : Int) (i : Int)) (maskN m (l.drop i) : Int) ∧ Ev (fun k => spec_voBits.l0 k (m : Int) l (l.length : Int) (i : Int)) (maskN m (l.drop i) : Int) := by
    intro d
    induction d with
    | zero =>
      intro i m hi hm
      refine ⟨ev_succ ?_, ev_succ ?_⟩
      all_goals
        simp only [impl_maskOf.l0, spec_voBits.l0]
        refine ev_neg (by omega) (ev_eqv (Ev.now _) ?_)
        rw [List.drop_of_length_le (by omega)]; rfl
    | succ d ih =>
      intro i m hi hm
      have h1 : i < l.length := by omega
      have hx := h l[i] (List.getElem_mem h1)
      obtain ⟨q, hq⟩ := Int.eq_ofNat_of_zero_le hx.1
      have hq16 : q ≤ 15 := by omega
      have hp : 2 ^ q < 65536 := Nat.pow_lt_pow_right (n := 16) (by decide) (by omega)
      have ih' := ih (i + 1) (m ||| 2 ^ q) (by omega) (Nat.or_lt_two_pow (n := 16) hm hp)
      rw [List.drop_eq_getElem_cons h1, maskN, hq, Int.toNat_natCast]
      refine ⟨ev_succ ?_, ev_succ ?_⟩
      all_goals
        simp only [impl_maskOf.l0, spec_voBits.l0]
        refine ev_pos (by omega) (ev_pos (by omega) (ev_pos (by omega) (ev_pos (by rw [rd_get h1]; omega) ?_)))
        rw [rd_get h1, hq, shl_one_nat q (by omega), or_nat m (2 ^ q) (by omega) (by omega), wrap_succ h1 (by omega)]
      · exact ih'.1
      · exact ih'.2
  exact key l.length 0 0 (by omega) (by decide)
def incFrom : Option Int → List Int → Bool
  | _, [] => true
  | p, x :: l => (match p with | none => true | some y => decide (y < x)) && incFrom (some x) l
def incB (l : List Int) : Bool := incFrom none l
def isSetB (l : List Int) (n : Int) : Bool := l.all (inB · 0 (n - 1)) && incB l
def prev (l : List Int) : Nat → Option Int
  | 0 => none
  | i + 1 => l[i]?
theorem isIncreasing_ev (l : List Int) (hl : l.length ≤ 1152921504606) : Ev (fun k => impl_isIncreasing.f k l) (incB l) := by
  unfold impl_isIncreasing.f
  have key : ∀ (d i : Nat), i + d = l.length → Ev (fun k => impl_isIncreasing.l0 k l (l.length : Int) (i : Int)) (incFrom (prev l i) (l.drop i)) := by
    intro d
    induction d with
    | zero =>
      intro i hi
      refine ev_succ ?_
      simp only [impl_isIncreasing.l0]
      refine ev_neg (by omega) (ev_eqv (Ev.now _) ?_)
      rw [List.drop_of_length_le (by omega)]; rfl
    | succ d ih =>
      intro i hi
      have h1 : i < l.length := by omega
      have ih' := ih (i + 1) (by omega)
      have hp : prev l (i + 1) = some l[i] := by rw [prev, List.getElem?_eq_getElem h1]
      rw [hp] at ih'
      refine ev_succ ?_
      simp only [impl_isIncreasing.l0]
      refine ev_pos (by omega) ?_
      rw [wrap_succ h1 (by omega), List.drop_eq_getElem_cons h1]
      cases i with
      | zero => exact ev_neg (by omega) (ev_eqv ih' (by simp [incFrom, prev]))
      | succ i =>
        have h2 : i < l.length := by omega
        rw [wrap_pred h2 (by omega), rd_get h1, rd_get h2]
        refine ev_pos (by omega) (ev_pos (by omega) (ev_pos (by omega) (ev_pos (by omega) (ev_pos (by omega) ?_))))
        have e : prev l (i + 1) = some l[i] := by rw [prev, List.getElem?_eq_getElem h2]
        rw [e, incFrom]
        by_cases c : l[i + 1] ≤ l[i]
        · exact ev_pos c (ev_eqv (Ev.now _) (by rw [decide_eq_false (by omega)]; rfl))
        · exact ev_neg c (ev_eqv ih' (by rw [decide_eq_true (by omega)]; rfl))
  exact key l.length 0 (by omega)
theorem l1Rising_ev (l : List Int) (lo hi : Int) (hl : l.length ≤ 1152921504606) : Ev (fun k => spec_l1Rising.f k l lo hi) (l.all (inB · lo hi) && incB l) := by
  unfold spec_l1Rising.f
  have key : ∀ (d i : Nat), i + d = l.length → Ev (fun k => spec_l1Rising.l0 k l lo hi l (l.length : Int) (i : Int)) ((l.drop i).all (inB · lo hi) && incFrom (prev l i) (l.drop i)) := by
    intro d
    induction d with
    | zero =>
      intro i hi
      refine ev_succ ?_
      simp only [spec_l1Rising.l0]
      refine ev_neg (by omega) (ev_eqv (Ev.now _) ?_)
      rw [List.drop_of_length_le (by omega)]; rfl
    | succ d ih =>
      intro i hi
      have h1 : i < l.length := by omega
      have ih' := ih (i + 1) (by omega)
      have hp : prev l (i + 1) = some l[i] := by rw [prev, List.getElem?_eq_getElem h1]
      rw [hp] at ih'
      refine ev_succ ?_
      simp only [spec_l1Rising.l0, l1In_eq, Option.bind_some]
      refine ev_pos (by omega) (ev_pos (by omega) (ev_pos (by omega) ?_))
      rw [wrap_succ h1 (by omega), List.drop_eq_getElem_cons h1, rd_get h1, List.all_cons]
      refine ev_bool (fun hb => ?_) (fun hb => ev_eqv (Ev.now _) (by rw [hb]; rfl))
      rw [hb]
      cases i with
      | zero => exact ev_neg (by omega) (ev_eqv ih' (by simp [incFrom, prev]))
      | succ i =>
        have h2 : i < l.length := by omega
        rw [wrap_pred h2 (by omega), rd_get h2]
        refine ev_pos (by omega) (ev_pos (by omega) (ev_pos (by omega) ?_))
        have e : prev l (i + 1) = some l[i] := by rw [prev, List.getElem?_eq_getElem h2]
        rw [e, incFrom]
        by_cases c : l[i] ≥ l[i + 1]
        · exact ev_pos c (ev_eqv (Ev.now _) (by rw [decide_eq_false (by omega)]; simp))
        · exact ev_neg c (ev_eqv ih' (by rw [decide_eq_true (by omega)]; rfl))
  exact key l.length 0 (by omega)
theorem any_not_all {α : Type} (l : List α) (p : α → Bool) : (!l.any fun x => !p x) = l.all p := by
  induction l with
  | nil => rfl
  | cons x l ih => rw [List.any_cons, List.all_cons, ← ih]; cases p x <;> simp
theorem areIn_eq (l : List Int) (lo hi : Int) : impl_areIn.f l lo hi = some (l.all (inB · lo hi)) := by
  unfold impl_areIn.f
  rw [anyO_some (q := fun x => !inB x lo hi) (fun x _ => by unfold impl_areIn_1.f; rw [within_eq]; rfl)]
  rw [Option.bind_some, any_not_all]
theorem isSet_ev (l : List Int) (n : Int) (hn : -1000000 ≤ n ∧ n ≤ 1000000) (hl : l.length ≤ 1152921504606) : Ev (fun k => impl_isSet.f k l n) (isSetB l n) := by
  unfold impl_isSet.f isSetB
  rw [wrap64_id (by omega)]
  simp only [areIn_eq, Option.bind_some]
  refine ev_bool (fun hb => ?_) (fun hb => ev_eqv (Ev.now _) (by rw [hb]; rfl))
  rw [hb]
  exact Ev.bind (isIncreasing_ev l hl) (Ev.now _)
theorem voSet_ev (l : List Int) (n : Int) (hn : -1000000 ≤ n ∧ n ≤ 1000000) (hl : l.length ≤ 1152921504606) : Ev (fun k => spec_voSet.f k n l) (isSetB l n) := by
  unfold spec_voSet.f isSetB
  rw [wrap64_id (by omega)]
  exact Ev.bind (l1Rising_ev l 0 (n - 1) hl) (Ev.now _)
theorem isSetB_mem {l : List Int} {n : Int} (h : isSetB l n = true) : ∀ x ∈ l, 0 ≤ x ∧ x ≤ n - 1 := by
  intro x hx
  unfold isSetB at h
  rw [Bool.and_eq_true, List.all_eq_true] at h
  exact inB_iff.1 (h.1 x hx)
theorem ev_anyO {α : Type} (p : Nat → α → Option Bool) (q : α → Bool) : ∀ l : List α, (∀ x ∈ l, Ev (fun k => p k x) (q x)) → Ev (fun k => anyO (p k) l) (l.any q)
  | [], _ => Ev.now _
  | x :: xs, h => by
    simp only [anyO, List.any_cons]
    refine Ev.bind (h x (List.mem_cons_self ..)) (ev_bool (fun e => ?_) (fun e => ?_))
    · rw [e]; exact Ev.now _
    · rw [e]; exact ev_anyO p q xs (fun y hy => h y (List.mem_cons_of_mem _ hy))
def allR (P : Nat → Bool) (n i : Nat) : Bool := ((List.range n).drop i).all P
theorem allR_end (P : Nat → Bool) (n : Nat) : allR P n n = true := by
  unfold allR
  rw [List.drop_of_length_le (by simp)]; rfl
theorem allR_step (P : Nat → Bool) (n i : Nat) (h : i < n) : allR P n i = (P i && allR P n (i + 1)) := by
  unfold allR
  rw [all_drop P (List.range n) i (by simpa using h), List.getElem_range]
theorem allR_iff (P : Nat → Bool) (n : Nat) : allR P n 0 = true ↔ ∀ i, i < n → P i = true := by
  unfold allR
  rw [List.drop_zero, List.all_eq_true]
  exact ⟨fun h i hi => h i (List.mem_range.2 hi), fun h i hi => h i (List.mem_range.1 hi)⟩
def mk (l : List (List Int)) (i : Nat) : Nat := maskN 0 (l.getD i [])
def rises (l : List (List Int)) (i : Nat) : Bool := decide (i = 0) || lexB (l.getD (i - 1) []) (l.getD i [])
def apartS (l : List (List Int)) (i : Nat) : Bool := allR (fun h => !(mk l i &&& mk l h == mk l i) && !(mk l i &&& mk l h == mk l h)) i 0
def apartI (l : List (List Int)) (i : Nat) : Bool := allR (fun h => decide (h = i) || !(mk l i &&& mk l h == mk l h)) l.length 0
theorem maskN_lt2 (n : Nat) (l : List Int) : ∀ m, m < 2 ^ n → (∀ x ∈ l, 0 ≤ x ∧ x ≤ (n : Int) - 1) → maskN m l < 2 ^ n := by
  induction l with
  | nil => intro m hm _; exact hm
  | cons x l ih =>
    intro m hm h
    refine ih _ ?_ (fun y hy => h y (List.mem_cons_of_mem _ hy))
    have hx := h x (List.mem_cons_self ..)
    exact Nat.or_lt_two_pow hm (Nat.pow_lt_pow_right (by decide) (by omega))
def SetsOk (m : Int) (l : List (List Int)) : Prop := (1 ≤ m ∧ m ≤ 9) ∧ ∀ x ∈ l, isSetB x m = true ∧ x.length ≤ 1048576
theorem SetsOk.elem {m : Int} {l : List (List Int)} (h : SetsOk m l) {x : List Int} (hx : x ∈ l) : ∀ y ∈ x, 0 ≤ y ∧ y ≤ (9 : Nat) - 1 := fun y hy => by
  have := isSetB_mem (h.2 x hx).1 y hy
  have := h.1
  omega
theorem SetsOk.lt {m : Int} {l : List (List Int)} (h : SetsOk m l) {i : Nat} (hi : i < l.length) : mk l i < 512 := by
  unfold mk
  rw [getD_get hi]
  exact maskN_lt2 9 _ 0 (by decide) (h.elem (List.getElem_mem hi))
theorem SetsOk.masks {m : Int} {l : List (List Int)} (h : SetsOk m l) {i : Nat} (hi : i < l.length) : Ev (fun k => impl_maskOf.f k l[i]) (mk l i : Int) ∧ Ev (fun k => spec_voBits.f k l[i]) (mk l i : Int) := by
  have hx := List.getElem_mem hi
  have := maskOf_ev l[i] (Nat.le_trans (h.2 _ hx).2 (by decide)) (fun y hy => by have := h.elem hx y hy; omega)
  unfold mk
  rw [getD_get hi]
  exact this
theorem and_eq_nat {a b c : Nat} (ha : a < 512) (hb : b < 512) : (Go.bits .and .i64 (a : Int) (b : Int) = (c : Int)) ↔ ((a &&& b == c) = true) := by
  rw [and_nat a b (by omega) (by omega), beq_iff_eq]
  omega
theorem wrap_pred2 {i : Nat} (h : i < 1152921504606846976) (h0 : 0 < i) : wrap64 ((i : Int) - 1) = ((i - 1 : Nat) : Int) := by unfold wrap64; omega
def gmOk (m : Int) (l : List (List Int)) : Bool := inB m 1 9 && (decide (l ≠ []) && ((l.all fun s => decide (s ≠ []) && isSetB s m) && allR (fun i => rises l i && apartI l i) l.length 0))
theorem SetsOk.of {m : Int} {l : List (List Int)} (hm : inB m 1 9 = true) (hs : (l.all fun s => decide (s ≠ []) && isSetB s m) = true) (hb : ∀ x ∈ l, x.length ≤ 1048576) : SetsOk m l := by
  refine ⟨inB_iff.1 hm, fun x hx => ⟨?_, hb x hx⟩⟩
  have := List.all_eq_true.1 hs x hx
  rw [Bool.and_eq_true] at this
  exact this.2
def chains9 : List (List Nat) := [[0, 1, 3, 7, 15, 31, 63, 127, 255, 511], [2, 6, 14, 30, 62, 126, 254, 510], [4, 5, 13, 29, 61, 125, 253, 509], [8, 9, 11, 27, 59, 123, 251, 507], [16, 17, 19, 23, 55, 119, 247, 503], [32, 33, 35, 39, 47, 111, 239, 495], [64, 65, 67, 71, 79, 95, 223, 479], [128, 129, 131, 135, 143, 159, 191, 447], [256, 257, 259, 263, 271, 287, 319, 383], [10, 26, 58, 122, 250, 506], [12, 28, 60, 124, 252, 508], [18, 22, 54, 118, 246, 502], [20, 21, 53, 117, 245, 501], [24, 25, 57, 121, 249, 505], [34, 38, 46, 110, 238, 494], [36, 37, 45, 109, 237, 493], [40, 41, 43, 107, 235, 491], [48, 49, 51, 115, 243, 499], [66, 70, 78, 94, 222, 478], [68, 69, 77, 93, 221, 477], [72, 73, 75, 91, 219, 475], [80, 81, 83, 87, 215, 471], [96, 97, 99, 103, 231, 487], [130, 134, 142, 158, 190, 446], [132, 133, 141, 157, 189, 445], [136, 137, 139, 155, 187, 443], [144, 145, 147, 151, 183, 439], [160, 161, 163, 167, 175, 431], [192, 193, 195, 199, 207, 463], [258, 262, 270, 286, 318, 382], [260, 261, 269, 285, 317, 381], [264, 265, 267, 283, 315, 379], [272, 273, 275, 279, 311, 375], [288, 289, 291, 295, 303, 367], [320, 321, 323, 327, 335, 351], [384, 385, 387, 391, 399, 415], [42, 106, 234, 490], [44, 108, 236, 492], [50, 114, 242, 498], [52, 116, 244, 500], [56, 120, 248, 504], [74, 90, 218, 474], [76, 92, 220, 476], [82, 86, 214, 470], [84, 85, 213, 469], [88, 89, 217, 473], [98, 102, 230, 486], [100, 101, 229, 485], [104, 105, 233, 489], [112, 113, 241, 497], [138, 154, 186, 442], [140, 156, 188, 444], [146, 150, 182, 438], [148, 149, 181, 437], [152, 153, 185, 441], [162, 166, 174, 430], [164, 165, 173, 429], [168, 169, 171, 427], [176, 177, 179, 435], [194, 198, 206, 462], [196, 197, 205, 461], [200, 201, 203, 459], [208, 209, 211, 467], [224, 225, 227, 483], [266, 282, 314, 378], [268, 284, 316, 380], [274, 278, 310, 374], [276, 277, 309, 373], [280, 281, 313, 377], [290, 294, 302, 366], [292, 293, 301, 365], [296, 297, 299, 363], [304, 305, 307, 371], [322, 326, 334, 350], [324, 325, 333, 349], [328, 329, 331, 347], [336, 337, 339, 343], [352, 353, 355, 359], [386, 390, 398, 414], [388, 389, 397, 413], [392, 393, 395, 411], [400, 401, 403, 407], [416, 417, 419, 423], [448, 449, 451, 455], [170, 426], [172, 428], [178, 434], [180, 436], [184, 440], [202, 458], [204, 460], [210, 466], [212, 468], [216, 472], [226, 482], [228, 484], [232, 488], [240, 496], [298, 362], [300, 364], [306, 370], [308, 372], [312, 376], [330, 346], [332, 348], [338, 342], [340, 341], [344, 345], [354, 358], [356, 357], [360, 361], [368, 369], [394, 410], [396, 412], [402, 406], [404, 405], [408, 409], [418, 422], [420, 421], [424, 425], [432, 433], [450, 454], [452, 453], [456, 457], [464, 465], [480, 481]]
set_option maxRecDepth 100000 in
theorem chains9_len : chains9.length = 126 := by kernel_rfl
set_option maxRecDepth 100000 in
theorem chains9_all : ((List.range 512).all fun m => chains9.any fun c => c.contains m) = true := by kernel_rfl
set_option maxRecDepth 100000 in
theorem chains9_each : (chains9.all fun c => c.all fun a => c.all fun b => (a &&& b == a) || (a &&& b == b)) = true := by kernel_rfl
theorem pigeon : ∀ (n : Nat) (l : List Nat), l.Nodup → (∀ x ∈ l, x < n) → l.length ≤ n
  | 0, [], _, _ => Nat.le_refl _
  | 0, x :: l, _, h => absurd (h x (List.mem_cons_self ..)) (by omega)
  | n + 1, l, hd, h => by
    by_cases hm : n ∈ l
    · have := pigeon n (l.erase n) (hd.erase n) (fun x hx => by
        have h1 := h x (List.mem_of_mem_erase hx)
        have h2 : x ≠ n := fun e => (List.Nodup.not_mem_erase hd) (e ▸ hx)
        omega)
      rw [List.length_erase_of_mem hm] at this
      omega
    · exact Nat.le_trans (pigeon n l hd (fun x hx => by
        have h1 := h x hx
        have h2 : x ≠ n := fun e => hm (e ▸ hx)
        omega)) (Nat.le_succ n)
theorem antichain9 (l : List Nat) (h : ∀ x ∈ l, x < 512) (ha : l.Pairwise fun a b => a &&& b ≠ a ∧ a &&& b ≠ b) : l.length ≤ 126 := by
  have hf : ∀ m, m < 512 → ∃ c ∈ chains9, m ∈ c := fun m hm => by
    have := List.all_eq_true.1 chains9_all m (List.mem_range.2 hm)
    obtain ⟨c, hc, hmc⟩ := List.any_eq_true.1 this
    exact ⟨c, hc, by simpa using hmc⟩
  let f := fun m => chains9.findIdx fun c => c.contains m
  have hlt : ∀ m, m < 512 → f m < 126 := fun m hm => by
    obtain ⟨c, hc, hmc⟩ := hf m hm
    rw [← chains9_len]
    exact List.findIdx_lt_length_of_exists ⟨c, hc, by simpa using hmc⟩
  have heq : ∀ a b, a < 512 → b < 512 → f a = f b → a &&& b = a ∨ a &&& b = b := fun a b hA hB e => by
    have la : f a < chains9.length := by rw [chains9_len]; exact hlt a hA
    have lb : f b < chains9.length := by rw [chains9_len]; exact hlt b hB
    have h1 : (chains9[f a]).contains a = true := List.findIdx_getElem (w := la)
    have h2 : (chains9[f b]).contains b = true := List.findIdx_getElem (w := lb)
    have h3 : chains9[f b] = chains9[f a] := by simp only [e]
    rw [h3] at h2
    have := List.all_eq_true.1 (List.all_eq_true.1 (List.all_eq_true.1 chains9_each _ (List.getElem_mem la)) a (by simpa using h1)) b (by simpa using h2)
    simpa using this
  have hn : (l.map f).Nodup := by
    rw [List.Nodup, List.pairwise_map]
    refine ha.imp_of_mem fun {a b} hA hB hab e => ?_
    rcases heq a b (h a hA) (h b hB) e with h1 | h1
    · exact hab.1 h1
    · exact hab.2 h1
  have := pigeon 126 (l.map f) hn (fun x hx => by
    obtain ⟨m, hm, rfl⟩ := List.mem_map.1 hx
    exact hlt m (h m hm))
  rwa [List.length_map] at this
theorem areSets_ev (l : List (List Int)) (n : Int) (hn : -1000000 ≤ n ∧ n ≤ 1000000) (hl : ∀ x ∈ l, x.length ≤ 1048576) : Ev (fun k => impl_areSets.f k l n) (l.all fun s => decide (s ≠ []) && isSetB s n) := by
  unfold impl_areSets.f
  refine ev_eqv (Ev.bind (ev_anyO (fun k => impl_areSets_1.f k n) (fun s => !(decide (s ≠ []) && isSetB s n)) l (fun x hx => ?_)) (Ev.now _)) (any_not_all _ _)
  unfold impl_areSets_1.f
  by_cases h : x = []
  · subst h; exact ev_pos (by simp) (Ev.now _)
  · have : x.length ≠ 0 := fun e => h (List.length_eq_zero_iff.1 e)
    refine ev_neg (by omega) (ev_eqv (Ev.bind (isSet_ev x n hn (Nat.le_trans (hl x hx) (by decide))) (Ev.now _)) ?_)
    rw [decide_eq_true h, Bool.true_and]
theorem IsGame_l0 (m : Int) (l : List (List Int)) (hl : l.length ≤ 1048576) (h : SetsOk m l) : Ev (fun k => impl_IsGame.l0 k l (l.length : Int) 0 m l) (allR (fun i => rises l i && apartI l i) l.length 0) := by
  refine ev_range l.length (fun k i => impl_IsGame.l0 k l (l.length : Int) (i : Int) m l) (fun i => allR (fun i => rises l i && apartI l i) l.length i) ?_ ?_ 0 (Nat.zero_le _)
  · refine ev_succ ?_
    simp only [impl_IsGame.l0]
    exact ev_neg (by omega) (ev_eqv (Ev.now _) (allR_end _ _).symm)
  · intro i hi ih
    rw [allR_step _ _ _ hi]
    have inner : rises l i = true → Ev (fun k => impl_IsGame.l1 k (i : Int) l[i] l (l.length : Int) (i : Int) l (l.length : Int) 0 m l) ((rises l i && apartI l i) && allR (fun i => rises l i && apartI l i) l.length (i + 1)) := by
      intro hr
      rw [hr, Bool.true_and]
      refine ev_range l.length (fun k h => impl_IsGame.l1 k (i : Int) l[i] l (l.length : Int) (i : Int) l (l.length : Int) (h : Int) m l) (fun h => allR (fun h => decide (h = i) || !(mk l i &&& mk l h == mk l h)) l.length h && allR (fun i => rises l i && apartI l i) l.length (i + 1)) ?_ ?_ 0 (Nat.zero_le _)
      · refine ev_succ ?_
        simp only [impl_IsGame.l1]
        refine ev_neg (by omega) ?_
        rw [allR_end, Bool.true_and, wrap_succ hi (by omega)]
        exact ih
      · intro j hj ihj
        refine ev_succ ?_
        simp only [impl_IsGame.l1]
        refine ev_pos (by omega) (ev_pos (by omega) (ev_pos (by omega) ?_))
        rw [rdL1_get hj, wrap_succ hj (by omega), allR_step _ _ _ hj]
        by_cases e : j = i
        · refine ev_pos (by omega) ?_
          rw [decide_eq_true e]
          exact ihj
        · refine ev_neg (by omega) (Ev.bind (h.masks hi).1 (Ev.bind (h.masks hj).1 ?_))
          rw [decide_eq_false e]
          by_cases c : (mk l i &&& mk l j == mk l j) = true
          · refine ev_pos ((and_eq_nat (h.lt hi) (h.lt hj)).2 c) ?_
            rw [c]; exact Ev.now _
          · refine ev_neg (fun x => c ((and_eq_nat (h.lt hi) (h.lt hj)).1 x)) ?_
            rw [Bool.not_eq_true] at c
            rw [c]; exact ihj
    refine ev_succ ?_
    simp only [impl_IsGame.l0]
    refine ev_pos (by omega) (ev_pos (by omega) (ev_pos (by omega) ?_))
    rw [rdL1_get hi]
    by_cases h0 : i = 0
    · subst h0
      refine ev_neg (by omega) (ev_succ ?_)
      simp only [impl_IsGame.j2]
      exact ev_neg (by simp) (inner (by simp [rises]))
    · have hp : i - 1 < l.length := by omega
      refine ev_pos (by omega) ?_
      rw [wrap_pred2 (by omega) (by omega)]
      refine ev_pos (by omega) (ev_pos (by omega) ?_)
      rw [rdL1_get hp]
      refine Ev.bind (Compare_ev _ _ (Nat.le_trans (h.2 _ (List.getElem_mem hp)).2 (by decide))) (ev_succ ?_)
      simp only [impl_IsGame.j2]
      have hr : rises l i = lexB l[i - 1] l[i] := by unfold rises; rw [decide_eq_false h0, Bool.false_or, getD_get hp, getD_get hi]
      rw [cmpL_ge, ← hr]
      cases hq : rises l i
      · exact ev_pos (by simp) (Ev.now _)
      · refine ev_neg (by simp) ?_
        have := inner hq
        rw [hq] at this
        exact this
theorem gmGood_l0 (m : Int) (l : List (List Int)) (hl : l.length ≤ 1048576) (h : SetsOk m l) : Ev (fun k => spec_gmGood.l0 k l (l.length : Int) 0 m l) (allR (fun i => rises l i && apartS l i) l.length 0) := by
  refine ev_range l.length (fun k i => spec_gmGood.l0 k l (l.length : Int) (i : Int) m l) (fun i => allR (fun i => rises l i && apartS l i) l.length i) ?_ ?_ 0 (Nat.zero_le _)
  · refine ev_succ ?_
    simp only [spec_gmGood.l0]
    exact ev_neg (by omega) (ev_eqv (Ev.now _) (allR_end _ _).symm)
  · intro i hi ih
    rw [allR_step _ _ _ hi]
    have inner : rises l i = true → Ev (fun k => spec_gmGood.l1 k (mk l i : Int) l (l.length : Int) (i : Int) (l.take i) ((l.take i).length : Int) 0 m l) ((rises l i && apartS l i) && allR (fun i => rises l i && apartS l i) l.length (i + 1)) := by
      intro hr
      rw [hr, Bool.true_and]
      have ht : (l.take i).length = i := by rw [List.length_take]; omega
      rw [ht]
      refine ev_range i (fun k h => spec_gmGood.l1 k (mk l i : Int) l (l.length : Int) (i : Int) (l.take i) (i : Int) (h : Int) m l) (fun h => allR (fun h => !(mk l i &&& mk l h == mk l i) && !(mk l i &&& mk l h == mk l h)) i h && allR (fun i => rises l i && apartS l i) l.length (i + 1)) ?_ ?_ 0 (Nat.zero_le _)
      · refine ev_succ ?_
        simp only [spec_gmGood.l1]
        refine ev_neg (by omega) ?_
        rw [allR_end, Bool.true_and, wrap_succ hi (by omega)]
        exact ih
      · intro j hj ihj
        have hjl : j < l.length := by omega
        have hjt : j < (l.take i).length := by omega
        refine ev_succ ?_
        simp only [spec_gmGood.l1]
        refine ev_pos (by omega) (ev_pos (by omega) (ev_pos (by omega) ?_))
        rw [rdL1_get hjt, List.getElem_take, wrap_succ hj (by omega), allR_step _ _ _ hj]
        refine Ev.bind (h.masks hjl).2 ?_
        by_cases c : (mk l i &&& mk l j == mk l i) = true
        · refine ev_pos ((and_eq_nat (h.lt hi) (h.lt hjl)).2 c) ?_
          rw [c]; exact Ev.now _
        · refine ev_neg (fun x => c ((and_eq_nat (h.lt hi) (h.lt hjl)).1 x)) ?_
          rw [Bool.not_eq_true] at c
          rw [c]
          by_cases c2 : (mk l i &&& mk l j == mk l j) = true
          · refine ev_pos ((and_eq_nat (h.lt hi) (h.lt hjl)).2 c2) ?_
            rw [c2]; exact Ev.now _
          · refine ev_neg (fun x => c2 ((and_eq_nat (h.lt hi) (h.lt hjl)).1 x)) ?_
            rw [Bool.not_eq_true] at c2
            rw [c2]; exact ihj
    have step : rises l i = true → Ev (fun k => spec_gmGood.j1 k (i : Int) l[i] l (l.length : Int) (i : Int) false m l) ((rises l i && apartS l i) && allR (fun i => rises l i && apartS l i) l.length (i + 1)) := by
      intro hr
      refine ev_succ ?_
      simp only [spec_gmGood.j1]
      refine ev_neg (by simp) (Ev.bind (h.masks hi).2 (ev_pos (by omega) (ev_pos (by omega) ?_)))
      simp only [Int.toNat_natCast, Option.bind_some]
      exact inner hr
    refine ev_succ ?_
    simp only [spec_gmGood.l0]
    refine ev_pos (by omega) (ev_pos (by omega) (ev_pos (by omega) ?_))
    rw [rdL1_get hi]
    by_cases h0 : i = 0
    · subst h0
      exact ev_neg (by omega) (step (by simp [rises]))
    · have hp : i - 1 < l.length := by omega
      refine ev_pos (by omega) ?_
      rw [wrap_pred2 (by omega) (by omega)]
      refine ev_pos (by omega) (ev_pos (by omega) ?_)
      rw [rdL1_get hp]
      have hr : rises l i = lexB l[i - 1] l[i] := by unfold rises; rw [decide_eq_false h0, Bool.false_or, getD_get hp, getD_get hi]
      refine Ev.bind (voBefore_ev _ _ (Nat.le_trans (h.2 _ (List.getElem_mem hp)).2 (by decide))) ?_
      rw [← hr]
      cases hq : rises l i
      · refine ev_succ ?_
        simp only [spec_gmGood.j1]
        exact ev_pos (by simp) (Ev.now _)
      · have := step hq
        rw [hq] at this
        exact this
theorem apart_same (l : List (List Int)) : allR (fun i => rises l i && apartS l i) l.length 0 = allR (fun i => rises l i && apartI l i) l.length 0 := by
  rw [Bool.eq_iff_iff, allR_iff, allR_iff]
  constructor
  · intro h i hi
    have hi' := h i hi
    rw [Bool.and_eq_true] at hi' ⊢
    refine ⟨hi'.1, (allR_iff _ _).2 fun j hj => ?_⟩
    rcases Nat.lt_trichotomy j i with c | c | c
    · have := (allR_iff _ _).1 hi'.2 j c
      rw [Bool.and_eq_true] at this
      rw [this.2, Bool.or_true]
    · rw [decide_eq_true c, Bool.true_or]
    · have hj' := h j hj
      rw [Bool.and_eq_true] at hj'
      have := (allR_iff _ _).1 hj'.2 i c
      rw [Bool.and_eq_true] at this
      rw [Nat.and_comm, this.1, Bool.or_true]
  · intro h i hi
    have hi' := h i hi
    rw [Bool.and_eq_true] at hi' ⊢
    refine ⟨hi'.1, (allR_iff _ _).2 fun j hj => ?_⟩
    have hjl : j < l.length := by omega
    have h1 := (allR_iff _ _).1 hi'.2 j hjl
    have hj' := h j hjl
    rw [Bool.and_eq_true] at hj'
    have h2 := (allR_iff _ _).1 hj'.2 i hi
    rw [decide_eq_false (by omega), Bool.false_or] at h1 h2
    rw [Nat.and_comm] at h2
    rw [h1, h2]; rfl
theorem few_sets {m : Int} {l : List (List Int)} (h : SetsOk m l) (ha : allR (fun i => rises l i && apartI l i) l.length 0 = true) : l.length ≤ 126 := by
  have hlen : ((List.range l.length).map (mk l)).length = l.length := by simp
  rw [← hlen]
  refine antichain9 _ (fun x hx => ?_) ?_
  · obtain ⟨i, hi, rfl⟩ := List.mem_map.1 hx
    exact h.lt (List.mem_range.1 hi)
  · rw [List.pairwise_map]
    refine List.pairwise_lt_range.imp_of_mem fun {i j} hi hj hij => ?_
    have key : ∀ i j, i < l.length → j < l.length → i ≠ j → mk l i &&& mk l j ≠ mk l j := fun i j hi hj hne => by
      have := (allR_iff _ _).1 ha i hi
      rw [Bool.and_eq_true] at this
      have := (allR_iff _ _).1 this.2 j hj
      rw [decide_eq_false (by omega), Bool.false_or] at this
      simpa using this
    have hi' := List.mem_range.1 hi
    have hj' := List.mem_range.1 hj
    exact ⟨by rw [Nat.and_comm]; exact key j i hj' hi' (by omega), key i j hi' hj' (by omega)⟩
theorem IsGame_ev (m : Int) (l : List (List Int)) (hl : l.length ≤ 1048576) (hb : ∀ x ∈ l, x.length ≤ 1048576) : Ev (fun k => impl_IsGame.f k m l) (gmOk m l) := by
  unfold impl_IsGame.f gmOk
  simp only [within_eq, Option.bind_some]
  refine ev_bool (fun hm => ?_) (fun hm => ?_)
  · rw [hm]
    have hm' := inB_iff.1 hm
    by_cases h0 : l = []
    · subst h0
      refine ev_pos rfl (ev_succ ?_)
      simp only [impl_IsGame.j0]
      exact ev_pos (by simp) (Ev.now _)
    · have : l.length ≠ 0 := fun e => h0 (List.length_eq_zero_iff.1 e)
      refine ev_neg (by omega) (Ev.bind (areSets_ev l m (by omega) hb) (ev_succ ?_))
      rw [decide_eq_true h0]
      simp only [impl_IsGame.j0]
      cases hs : l.all fun s => decide (s ≠ []) && isSetB s m
      · exact ev_pos (by simp) (Ev.now _)
      · exact ev_neg (by simp) (IsGame_l0 m l hl (SetsOk.of hm hs hb))
  · rw [hm]
    refine ev_succ ?_
    simp only [impl_IsGame.j0]
    exact ev_pos (by simp) (Ev.now _)
theorem gmSets_l0 (m : Int) (l : List (List Int)) (hm : 1 ≤ m ∧ m ≤ 9) (hl : l.length ≤ 1048576) (hb : ∀ x ∈ l, x.length ≤ 1048576) : Ev (fun k => spec_gmSets.l0 k m l (l.length : Int) 0) (l.all fun s => decide (s ≠ []) && isSetB s m) := by
  have := ev_range l.length (fun k i => spec_gmSets.l0 k m l (l.length : Int) (i : Int)) (fun i => (l.drop i).all fun s => decide (s ≠ []) && isSetB s m) ?_ ?_ 0 (Nat.zero_le _)
  · simpa using this
  · refine ev_succ ?_
    simp only [spec_gmSets.l0]
    exact ev_neg (by omega) (ev_eqv (Ev.now _) (by rw [drop_end]; rfl))
  · intro i hi ih
    refine ev_succ ?_
    simp only [spec_gmSets.l0]
    refine ev_pos (by omega) (ev_pos (by omega) (ev_pos (by omega) ?_))
    rw [rdL1_get hi, wrap_succ hi (by omega), all_drop _ _ _ hi]
    by_cases h0 : l[i] = []
    · refine ev_pos (by rw [h0]; rfl) (ev_eqv (Ev.now _) ?_)
      rw [decide_eq_false (by simpa using h0)]; rfl
    · have : l[i].length ≠ 0 := fun e => h0 (List.length_eq_zero_iff.1 e)
      refine ev_neg (by omega) (Ev.bind (voSet_ev l[i] m (by omega) (Nat.le_trans (hb _ (List.getElem_mem hi)) (by decide))) ?_)
      rw [decide_eq_true h0, Bool.true_and]
      exact ev_bool (fun h => by rw [h]; exact ih) (fun h => by rw [h]; exact Ev.now _)
theorem gmGood_ev (m : Int) (l : List (List Int)) (hl : l.length ≤ 1048576) (hb : ∀ x ∈ l, x.length ≤ 1048576) : Ev (fun k => spec_gmGood.f k m l) (gmOk m l) := by
  unfold spec_gmGood.f
  have hS : Ev (fun k => spec_gmSets.f k m l 126) (inB m 1 9 && (inB (l.length : Int) 1 126 && l.all fun s => decide (s ≠ []) && isSetB s m)) := by
    unfold spec_gmSets.f
    simp only [l1In_eq, Option.bind_some]
    refine ev_bool (fun hm => ?_) (fun hm => ?_)
    · rw [hm]
      refine ev_succ ?_
      simp only [spec_gmSets.j0]
      cases hn : inB (l.length : Int) 1 126
      · exact ev_pos (by simp) (Ev.now _)
      · exact ev_neg (by simp) (gmSets_l0 m l (inB_iff.1 hm) hl hb)
    · rw [hm]
      refine ev_succ ?_
      simp only [spec_gmSets.j0]
      exact ev_pos (by simp) (Ev.now _)
  refine Ev.bind hS (ev_bool (fun h => ?_) (fun h => ?_))
  · rw [Bool.and_eq_true, Bool.and_eq_true] at h
    refine ev_eqv (gmGood_l0 m l hl (SetsOk.of h.1 h.2.2 hb)) ?_
    have hn := inB_iff.1 h.2.1
    unfold gmOk
    rw [h.1, h.2.2, decide_eq_true (show l ≠ [] from fun e => by subst e; simp at hn), apart_same]; rfl
  · refine ev_eqv (Ev.now _) ?_
    symm
    rw [← Bool.not_eq_true]
    intro hg
    unfold gmOk at hg
    rw [Bool.and_eq_true, Bool.and_eq_true, Bool.and_eq_true] at hg
    obtain ⟨hm, h0, hs, ha⟩ := hg
    have := few_sets (SetsOk.of hm hs hb) ha
    have h0' : l.length ≠ 0 := fun e => (of_decide_eq_true h0) (List.length_eq_zero_iff.1 e)
    rw [hm, hs, show inB (l.length : Int) 1 126 = true from inB_iff.2 (by omega)] at h
    cases h
def setsM (q : Nat → Bool) (N : Nat) : List (List Int) := ((List.range N).filter q).map setL
theorem setsM_len (q : Nat → Bool) (N : Nat) : (setsM q N).length ≤ N := by unfold setsM; rw [List.length_map]; exact Nat.le_trans (List.length_filter_le _ _) (by simp)
theorem setsM_mem {q : Nat → Bool} {N : Nat} {x : List Int} (h : x ∈ setsM q N) : x.length ≤ 16 := by
  obtain ⟨m, _, rfl⟩ := List.mem_map.1 h
  exact bitsL_len _ _ _
theorem setsM_succ (q : Nat → Bool) (i : Nat) : setsM q (i + 1) = setsM q i ++ if q i = true then [setL i] else [] := by
  unfold setsM
  rw [List.range_succ, List.filter_append, List.map_append]
  congr 1
  by_cases h : q i = true
  · rw [if_pos h, List.filter_cons_of_pos h]; rfl
  · rw [if_neg h, List.filter_cons_of_neg h]; rfl
theorem sets_fix (n : Int) (l : List Bool) (N : Nat) (hN : l.length = N) (hN2 : N ≤ 512) (p : Int → Option Bool) (q : Nat → Bool) (h : ∀ m, m < N → p (m : Int) = some (q m)) : Ev (fun k => impl_votes_sets.f k n l p) (sortL lexB (setsM q N)) := by
  unfold impl_votes_sets.f
  rw [hN]
  refine ev_range N (fun k i => impl_votes_sets.l0 p k (setsM q i) (N : Int) (i : Int)) (fun _ => sortL lexB (setsM q N)) ?_ ?_ 0 (Nat.zero_le _)
  · refine ev_succ ?_
    simp only [impl_votes_sets.l0]
    refine ev_neg (by omega) (ev_bindS (show sortSets.f (setsM q N) = some (sortL lexB (setsM q N)) by
      unfold sortSets.f
      rw [if_pos]
      rw [Bool.and_eq_true]
      exact ⟨decide_eq_true (by have := setsM_len q N; omega), List.all_eq_true.2 fun x hx => decide_eq_true (Nat.le_trans (setsM_mem hx) (by decide))⟩) (Ev.now _))
  · intro i hi ih
    refine ev_succ ?_
    simp only [impl_votes_sets.l0]
    rw [wrap_succ hi (by omega)]
    rw [setsM_succ] at ih
    refine ev_pos (by omega) (ev_bindS (h i hi) (ev_bool (fun e => ?_) (fun e => ?_)))
    · rw [if_pos e] at ih
      exact Ev.bind (setOf_ev i (by omega)) (ev_pos (by have := setsM_len q i; omega) ih)
    · rw [if_neg (by rw [e]; decide), List.append_nil] at ih
      exact ih
def mkSS : Int → List (List Int) → List (List Int)
  | _, [] => []
  | m, x :: xs => iotaL m x.length :: mkSS (m + x.length) xs
def totS : Int → List (List Int) → Int
  | m, [] => m
  | m, x :: xs => totS (m + x.length) xs
theorem mkSS_len : ∀ (l : List (List Int)) (m : Int), (mkSS m l).length = l.length
  | [], _ => rfl
  | x :: xs, m => by unfold mkSS; rw [List.length_cons, List.length_cons, mkSS_len xs]
theorem totS_ge : ∀ (l : List (List Int)) (m : Int), m ≤ totS m l
  | [], m => Int.le_refl m
  | x :: xs, m => by
    have := totS_ge xs (m + x.length)
    unfold totS
    omega
theorem markIntSS_l0 : ∀ (rest pre : List (List Int)) (m : Int), pre.length + rest.length ≤ 1048576 → (∀ x ∈ rest, x.length ≤ 1048576) → 0 ≤ m → m + 1048576 * rest.length ≤ 1152921504606846976 → Ev (fun k => laws_markIntSS.l0 k (pre ++ rest) m (pre.length : Int)) (totS m rest, pre ++ mkSS m rest)
  | [], pre, m, hl, hx, h0, hm => by
    refine ev_succ ?_
    simp only [laws_markIntSS.l0, List.append_nil]
    exact ev_neg (by omega) (ev_eqv (Ev.now _) (by simp [totS, mkSS]))
  | x :: xs, pre, m, hl, hx, h0, hm => by
    have hxl := hx x (List.mem_cons_self ..)
    rw [List.length_cons] at hl hm
    have ih := markIntSS_l0 xs (pre ++ [iotaL m x.length]) (m + x.length) (by rw [List.length_append, List.length_singleton]; omega) (fun y hy => hx y (List.mem_cons_of_mem _ hy)) (by omega) (by omega)
    refine ev_succ ?_
    simp only [laws_markIntSS.l0, Int.toNat_natCast]
    refine ev_pos (by rw [List.length_append, List.length_cons]; omega) (ev_pos (by omega) ?_)
    rw [show (pre ++ x :: xs).getD pre.length [] = x from by simp [List.getD_eq_getElem?_getD]]
    refine Ev.bind (markIntS_ev x m (by omega) (by omega)) ?_
    simp only [show (pre ++ x :: xs).set pre.length (iotaL m x.length) = (pre ++ [iotaL m x.length]) ++ xs from by simp, show wrap64 ((pre.length : Int) + 1) = (((pre ++ [iotaL m x.length]).length : Nat) : Int) from by rw [List.length_append, List.length_singleton]; unfold wrap64; omega]
    exact ev_eqv ih (by simp [totS, mkSS])
theorem markIntSS_ev (l : List (List Int)) (hl : l.length ≤ 1048576) (hx : ∀ x ∈ l, x.length ≤ 1048576) : Ev (fun k => laws_markIntSS.f k l 1) (totS 1 l, mkSS 1 l) := by
  have := markIntSS_l0 l [] 1 (by simpa using hl) hx (by decide) (by omega)
  exact this
theorem heldIntSS_l0 : ∀ (rest pre : List (List Int)) (m : Int), pre.length + rest.length ≤ 1048576 → (∀ x ∈ rest, x.length ≤ 1048576) → 0 ≤ m → m + 1048576 * rest.length ≤ 1152921504606846976 → Ev (fun k => laws_heldIntSS.l0 k (pre ++ mkSS m rest) m (pre.length : Int)) (totS m rest)
  | [], pre, m, hl, hx, h0, hm => by
    refine ev_succ ?_
    simp only [laws_heldIntSS.l0, mkSS, List.append_nil]
    exact ev_neg (by omega) (Ev.now _)
  | x :: xs, pre, m, hl, hx, h0, hm => by
    have hxl := hx x (List.mem_cons_self ..)
    rw [List.length_cons] at hl hm
    have ih := heldIntSS_l0 xs (pre ++ [iotaL m x.length]) (m + x.length) (by rw [List.length_append, List.length_singleton]; omega) (fun y hy => hx y (List.mem_cons_of_mem _ hy)) (by omega) (by omega)
    rw [show (pre ++ [iotaL m x.length]) ++ mkSS (m + x.length) xs = pre ++ mkSS m (x :: xs) from by simp [mkSS]] at ih
    have hlt : pre.length < (pre ++ mkSS m (x :: xs)).length := by rw [List.length_append, mkSS_len, List.length_cons]; omega
    refine ev_succ ?_
    simp only [laws_heldIntSS.l0]
    refine ev_pos (by omega) (ev_pos (by omega) ?_)
    rw [rdL1_get hlt, show (pre ++ mkSS m (x :: xs))[pre.length]'hlt = iotaL m x.length from by simp [mkSS]]
    refine Ev.bind (heldIntS_ev m x.length (by omega) (by omega)) (ev_neg (by omega) ?_)
    rw [show wrap64 ((pre.length : Int) + 1) = (((pre ++ [iotaL m x.length]).length : Nat) : Int) from by rw [List.length_append, List.length_singleton]; unfold wrap64; omega]
    exact ih
theorem eqSS_ev (a b : List (List Int)) (ha : a.length ≤ 1152921504606) (hx : ∀ x ∈ a, x.length ≤ 1152921504606) : Ev (fun k => laws_eqIntSS.f k a b) (decide (a = b)) := by
  unfold laws_eqIntSS.f
  by_cases hl : a.length = b.length
  · refine ev_pos (by omega) ?_
    refine ev_range a.length (fun k i => laws_eqIntSS.l0 k a b (i : Int)) (fun i => decide (a.drop i = b.drop i)) ?_ ?_ 0 (Nat.zero_le _)
    · refine ev_succ ?_
      simp only [laws_eqIntSS.l0]
      refine ev_neg (by omega) (ev_eqv (Ev.now _) ?_)
      rw [List.drop_of_length_le (by omega), List.drop_of_length_le (by omega)]; simp
    · intro i hi ih
      have h2 : i < b.length := by omega
      refine ev_succ ?_
      simp only [laws_eqIntSS.l0]
      refine ev_pos (by omega) (ev_pos (by omega) (ev_pos (by omega) ?_))
      rw [rdL1_get hi, rdL1_get h2, wrap_succ hi (by omega), eq_drop a b i hi h2]
      refine Ev.bind (eqIntS_ev a[i] b[i] (Nat.le_trans (hx _ (List.getElem_mem hi)) (by decide))) (ev_bool (fun h => ?_) (fun h => ?_))
      · rw [h]; exact ih
      · rw [h]; exact Ev.now _
  · refine ev_neg (by omega) (ev_eqv (Ev.now false) ?_)
    exact (decide_eq_false fun e => hl (by rw [e])).symm
theorem rdOf_get {xs : List Bool} {i : Nat} (h : i < xs.length) : rdOf false xs (i : Int) = xs[i] := by unfold rdOf; rw [Int.toNat_natCast]; exact getD_get h
def tabB (g : Nat → Bool) (n : Nat) : List Bool := (List.range n).map g
theorem tabB_len (g : Nat → Bool) (n : Nat) : (tabB g n).length = n := by simp [tabB]
theorem tabB_get (g : Nat → Bool) (n i : Nat) (h : i < (tabB g n).length) : (tabB g n)[i] = g i := by simp [tabB]
theorem tabB_succ (g : Nat → Bool) (n : Nat) : tabB g (n + 1) = tabB g n ++ [g n] := by simp [tabB, List.range_succ]
theorem tabB_set (g : Nat → Bool) (i : Nat) (b b' : Bool) (l : List Bool) : (tabB g i ++ b :: l).set i b' = tabB g i ++ b' :: l := by
  rw [List.set_append_right _ _ (by rw [tabB_len]; omega), tabB_len, Nat.sub_self]; rfl
theorem tabB_rd (g : Nat → Bool) (i : Nat) (b : Bool) (l : List Bool) : rdOf false (tabB g i ++ b :: l) (i : Int) = b := by
  rw [rdOf_get (by rw [List.length_append, tabB_len, List.length_cons]; omega), List.getElem_append_right (by rw [tabB_len]; omega)]
  simp [tabB_len]
theorem tabB_next (g : Nat → Bool) (i : Nat) (l : List Bool) : tabB g i ++ g i :: l = tabB g (i + 1) ++ l := by rw [tabB_succ, List.append_assoc]; rfl
def winB (l : List (List Int)) (i : Nat) : Bool := l.any fun s => i &&& maskN 0 s == maskN 0 s
def winT (m : Int) (l : List (List Int)) : List Bool := tabB (winB l) (2 ^ m.toNat)
theorem and_self_nat {a b : Nat} (ha : a < 512) (hb : b < 512) : (Go.bits .and .i64 (a : Int) (b : Int) == (b : Int)) = (a &&& b == b) := by
  rw [Bool.eq_iff_iff, ← and_eq_nat ha hb, beq_iff_eq]
theorem pow_le512 {m : Int} (h : 1 ≤ m ∧ m ≤ 9) : 2 ^ m.toNat ≤ 512 := Nat.pow_le_pow_right (n := 2) (by decide) (show m.toNat ≤ 9 by omega)
theorem voAll_nat {m : Int} (h : 1 ≤ m ∧ m ≤ 9) : spec_voAll.f m = some (((2 ^ m.toNat - 1 : Nat) : Int)) := by
  rw [voAll_eq m (by omega)]
  have : 1 ≤ 2 ^ m.toNat := Nat.one_le_two_pow
  congr 1
  rw [Int.ofNat_sub this]; simp
theorem gmWins_l1 (n i : Nat) (m : Int) (l : List (List Int)) (hl : l.length ≤ 1048576) (h : SetsOk m l) (hi : i < n) (hn : n ≤ 512) (r : List Bool) (ih : Ev (fun k => spec_gmWins.l0 k l (tabB (winB l) (i + 1) ++ List.replicate (n - (i + 1)) false) (n : Int) ((i + 1 : Nat) : Int)) r) :
    ∀ j, j ≤ l.length → Ev (fun k => spec_gmWins.l1 k l (tabB (winB l) i ++ ((l.take j).any fun s => i &&& maskN 0 s == maskN 0 s) :: List.replicate (n - (i + 1)) false) (i : Int) (n : Int) (i : Int) l (l.length : Int) (j : Int)) r := by
  have hlen : ∀ b : Bool, (tabB (winB l) i ++ b :: List.replicate (n - (i + 1)) false).length = n := fun b => by rw [List.length_append, tabB_len, List.length_cons, List.length_replicate]; omega
  refine ev_range l.length (fun k j => spec_gmWins.l1 k l (tabB (winB l) i ++ ((l.take j).any fun s => i &&& maskN 0 s == maskN 0 s) :: List.replicate (n - (i + 1)) false) (i : Int) (n : Int) (i : Int) l (l.length : Int) (j : Int)) (fun _ => r) ?_ ?_
  · refine ev_succ ?_
    simp only [spec_gmWins.l1]
    refine ev_neg (Int.lt_irrefl _) ?_
    rw [List.take_length, wrap_succ hi (Nat.le_trans hn (by decide))]
    have e : (l.any fun s => i &&& maskN 0 s == maskN 0 s) = winB l i := by unfold winB; rfl
    rw [e, tabB_next]
    exact ih
  · intro j hj ihj
    refine ev_succ ?_
    simp only [spec_gmWins.l1]
    refine ev_pos (by omega) (ev_pos (by omega) (ev_pos (by omega) ?_))
    rw [rdL1_get hj, wrap_succ hj (Nat.le_trans hl (by decide))]
    have hm := (h.masks hj).2
    have hk : mk l j = maskN 0 l[j] := by unfold mk; rw [getD_get hj]
    have hlt := h.lt hj
    rw [hk] at hm hlt
    refine Ev.bind hm (ev_pos (by omega) (ev_pos (by rw [hlen]; omega) ?_))
    rw [tabB_rd, Int.toNat_natCast, tabB_set, tabB_set, and_self_nat (by omega) hlt]
    rw [List.take_succ_eq_append_getElem hj, List.any_append] at ihj
    simp only [List.any_cons, List.any_nil, Bool.or_false] at ihj
    refine ev_bool (fun e => ?_) (fun e => ?_)
    · rw [e, Bool.true_or] at ihj; exact ihj
    · rw [e, Bool.false_or] at ihj; exact ihj
theorem gmWins_l0 (n : Nat) (m : Int) (l : List (List Int)) (hl : l.length ≤ 1048576) (h : SetsOk m l) (hn : n ≤ 512) :
    Ev (fun k => spec_gmWins.l0 k l (List.replicate n false) (n : Int) 0) (tabB (winB l) n) := by
  have := ev_range n (fun k i => spec_gmWins.l0 k l (tabB (winB l) i ++ List.replicate (n - i) false) (n : Int) (i : Int)) (fun _ => tabB (winB l) n) ?_ ?_ 0 (Nat.zero_le _)
  · simpa [tabB] using this
  · refine ev_succ ?_
    simp only [spec_gmWins.l0]
    exact ev_neg (Int.lt_irrefl _) (ev_eqv (Ev.now _) (by simp))
  · intro i hi ih
    refine ev_succ ?_
    simp only [spec_gmWins.l0]
    refine ev_pos (by omega) ?_
    have := gmWins_l1 n i m l hl h hi hn _ ih 0 (Nat.zero_le _)
    rw [show n - i = (n - (i + 1)) + 1 by omega, List.replicate_succ]
    simpa using this
theorem gmWins_ev (m : Int) (l : List (List Int)) (hl : l.length ≤ 1048576) (h : SetsOk m l) : Ev (fun k => spec_gmWins.f k m l) (winT m l) := by
  have hp := pow_le512 h.1
  have h1 : 1 ≤ 2 ^ m.toNat := Nat.one_le_two_pow
  have hw : wrap64 (((2 ^ m.toNat - 1 : Nat) : Int) + 1) = ((2 ^ m.toNat : Nat) : Int) := by
    generalize 2 ^ m.toNat = n at hp h1
    unfold wrap64; omega
  have hl0 := gmWins_l0 (2 ^ m.toNat) m l hl h hp
  unfold spec_gmWins.f winT
  refine ev_bindS (voAll_nat h.1) ?_
  generalize 2 ^ m.toNat = n at *
  rw [hw]
  have hn2 : (n : Int).toNat ≤ 281474976710656 := by rw [Int.toNat_natCast]; exact Nat.le_trans hp (by decide)
  refine ev_pos (Int.natCast_nonneg n) (ev_pos hn2 (ev_bindS rfl ?_))
  simp only [Int.toNat_natCast, List.length_replicate]
  exact hl0
def aN (a b : Nat) : Nat := a ^^^ (a &&& b)
def wOf (s t u : Nat) : Nat := (s &&& t) ||| aN (s ||| t) u
def betw (s t u : Nat) : Bool := u &&& (s &&& t) == s &&& t && aN u (s ||| t) == 0
theorem setL_mask_K : ((List.range 512).all fun m => maskN 0 (setL m) == m) = true := by decide +kernel
def ordL (N : Nat) : List Nat := (sortL lexB (setsM (fun _ => true) N)).map (maskN 0)
theorem setL_in_K : ((List.range 512).all fun m => (setL m).all fun x => decide (0 ≤ x ∧ x ≤ 15)) = true := by decide +kernel
theorem setL_mask (m : Nat) (hm : m < 512) : maskN 0 (setL m) = m := by
  have := List.all_eq_true.1 setL_mask_K m (List.mem_range.2 hm)
  simpa using this
theorem ordL_perm (N : Nat) (hN : N ≤ 512) : (ordL N).Perm (List.range N) := by
  unfold ordL
  refine ((sortL_perm lexB _).map (maskN 0)).trans ?_
  unfold setsM
  rw [List.filter_eq_self.2 (fun _ _ => rfl), List.map_map, show (List.range N).map (maskN 0 ∘ setL) = (List.range N).map id from List.map_congr_left fun m hm => setL_mask m (by have := List.mem_range.1 hm; omega), List.map_id]
theorem ordL_len (N : Nat) (hN : N ≤ 512) : (ordL N).length = N := by rw [(ordL_perm N hN).length_eq, List.length_range]
theorem ordL_lt (N : Nat) (hN : N ≤ 512) {x : Nat} (h : x ∈ ordL N) : x < N := List.mem_range.1 ((ordL_perm N hN).mem_iff.1 h)
def cI (l : List Nat) : List Int := l.map fun (m : Nat) => (m : Int)
theorem cI_len (l : List Nat) : (cI l).length = l.length := by unfold cI; rw [List.length_map]
theorem rd_cI {l : List Nat} {i : Nat} (h : i < l.length) : rd (cI l) (i : Int) = (l[i] : Int) := by
  rw [rd_get (by rw [cI_len]; exact h)]
  unfold cI
  rw [List.getElem_map]
theorem ordered_ev (g : Nat → Bool) (n : Nat) (hn : n ≤ 9) : Ev (fun k => impl_votes_ordered.f k (n : Int) (tabB g (2 ^ n))) (cI (ordL (2 ^ n))) := by
  have hN : 2 ^ n ≤ 512 := Nat.pow_le_pow_right (by decide) hn
  unfold impl_votes_ordered.f setsAll.f
  refine Ev.bind (sets_fix (n : Int) (tabB g (2 ^ n)) (2 ^ n) (tabB_len _ _) hN (fun _ => some true) (fun _ => true) (fun _ _ => rfl)) ?_
  have hp := sortL_perm lexB (setsM (fun _ => true) (2 ^ n))
  have hin : ∀ x ∈ sortL lexB (setsM (fun _ => true) (2 ^ n)), x.length ≤ 16 ∧ ∀ y ∈ x, 0 ≤ y ∧ y ≤ 15 := by
    intro x hx
    obtain ⟨m, hm, rfl⟩ := List.mem_map.1 (hp.mem_iff.1 hx)
    have hm2 := List.mem_range.1 (List.mem_filter.1 hm).1
    refine ⟨bitsL_len _ _ _, fun y hy => ?_⟩
    exact of_decide_eq_true (List.all_eq_true.1 (List.all_eq_true.1 setL_in_K m (List.mem_range.2 (by omega))) y hy)
  have hl : (sortL lexB (setsM (fun _ => true) (2 ^ n))).length ≤ 512 := by rw [hp.length_eq]; exact Nat.le_trans (setsM_len _ _) hN
  unfold ordL cI
  generalize sortL lexB (setsM (fun _ => true) (2 ^ n)) = S at hin hl
  rw [List.map_map]
  refine ev_range S.length (fun k i => impl_votes_ordered.l0 k ((S.take i).map ((fun (m : Nat) => (m : Int)) ∘ maskN 0)) S (S.length : Int) (i : Int)) (fun _ => S.map ((fun (m : Nat) => (m : Int)) ∘ maskN 0)) ?_ ?_ 0 (Nat.zero_le _)
  · refine ev_succ ?_
    simp only [impl_votes_ordered.l0, List.take_length]
    exact ev_neg (by omega) (Ev.now _)
  · intro i hi ih
    obtain ⟨h1, h2⟩ := hin _ (List.getElem_mem hi)
    refine ev_succ ?_
    simp only [impl_votes_ordered.l0]
    rw [rdL1_get hi, wrap_succ hi (by omega)]
    rw [List.take_succ_eq_append_getElem hi, List.map_append] at ih
    exact ev_pos (by omega) (ev_pos (by omega) (ev_pos (by omega) (Ev.bind (maskOf_ev S[i] (by omega) h2).1 (ev_pos (by rw [List.length_map, List.length_take]; omega) ih))))
theorem index_ex (l : List Int) (x : Int) (hl : l.length ≤ 1000) : ∃ v : Int, (v ≥ 0 ↔ x ∈ l) ∧ Ev (fun k => slices_Index_int_int.f k l x) v := by
  unfold slices_Index_int_int.f
  have key : ∀ d i : Nat, i + d = l.length → ∃ v : Int, (v ≥ 0 ↔ x ∈ l.drop i) ∧ Ev (fun k => slices_Index_int_int.l0 k l x (l.length : Int) (i : Int)) v := by
    intro d
    induction d with
    | zero =>
      intro i hi
      refine ⟨-1, ?_, ev_succ ?_⟩
      · rw [List.drop_of_length_le (by omega)]; simp
      · simp only [slices_Index_int_int.l0]
        exact ev_neg (by omega) (Ev.now _)
    | succ d ih =>
      intro i hi
      have hil : i < l.length := by omega
      obtain ⟨v, h1, h2⟩ := ih (i + 1) (by omega)
      rw [List.drop_eq_getElem_cons hil]
      by_cases e : x = l[i]
      · refine ⟨(i : Int), ?_, ev_succ ?_⟩
        · rw [e]; exact ⟨fun _ => List.mem_cons_self .., fun _ => by omega⟩
        · simp only [slices_Index_int_int.l0]
          rw [rd_get hil]
          exact ev_pos (by omega) (ev_pos (by omega) (ev_pos (by omega) (ev_pos e (Ev.now _))))
      · refine ⟨v, ?_, ev_succ ?_⟩
        · rw [h1, List.mem_cons]; simp [e]
        · simp only [slices_Index_int_int.l0]
          rw [rd_get hil, wrap_succ hil (by omega)]
          exact ev_pos (by omega) (ev_pos (by omega) (ev_pos (by omega) (ev_neg e h2)))
  obtain ⟨v, h1, h2⟩ := key l.length 0 (Nat.zero_add _)
  exact ⟨v, by simpa using h1, h2⟩
theorem contains_ev (l : List Nat) (x : Nat) (hl : l.length ≤ 1000) : Ev (fun k => slices_Contains_int_int.f k (cI l) (x : Int)) (l.contains x) := by
  obtain ⟨v, h1, h2⟩ := index_ex (cI l) (x : Int) (by rw [cI_len]; exact hl)
  unfold slices_Contains_int_int.f
  refine Ev.bind h2 (ev_eqv (Ev.now _) ?_)
  rw [Bool.eq_iff_iff, decide_eq_true_eq, h1, List.contains_iff_mem]
  unfold cI
  rw [List.mem_map]
  constructor
  · rintro ⟨a, ha, h⟩
    have e : a = x := by omega
    rw [← e]; exact ha
  · intro h
    exact ⟨x, h, rfl⟩
theorem wOf_lt {n s t u : Nat} (hs : s < 2 ^ n) (ht : t < 2 ^ n) : wOf s t u < 2 ^ n := by
  unfold wOf aN
  exact Nat.or_lt_two_pow (Nat.and_lt_two_pow _ ht) (Nat.xor_lt_two_pow (Nat.or_lt_two_pow hs ht) (Nat.lt_of_le_of_lt Nat.and_le_left (Nat.or_lt_two_pow hs ht)))
theorem andNot_nat (a b : Nat) (ha : a < 2 ^ 62) (hb : b < 2 ^ 62) : Go.bits .andNot .i64 (a : Int) (b : Int) = ((a ^^^ (a &&& b) : Nat) : Int) := by
  have ha' : a % 2 ^ 64 = a := Nat.mod_eq_of_lt (by omega)
  have hb' : b % 2 ^ 64 = b := Nat.mod_eq_of_lt (by omega)
  have e : a &&& (2 ^ 64 - (b + 1)) = a ^^^ (a &&& b) := by
    refine Nat.eq_of_testBit_eq fun i => ?_
    rw [Nat.testBit_and, Nat.testBit_xor, Nat.testBit_and, Nat.testBit_two_pow_sub_succ (by omega)]
    by_cases hi : i < 64
    · cases a.testBit i <;> cases b.testBit i <;> simp [hi]
    · have : a.testBit i = false := Nat.testBit_lt_two_pow (Nat.lt_of_lt_of_le (show a < 2 ^ 64 by omega) (Nat.pow_le_pow_right (by decide) (by omega)))
      simp [this]
  have h : Go.bits .andNot .i64 (a : Int) (b : Int) = IntKind.i64.wrap ((a &&& (2 ^ 64 - 1 - b % 2 ^ 64) : Nat) : Int) := by
    show IntKind.i64.wrap ((BitVec.ofInt 64 (a : Int) &&& ~~~ (BitVec.ofInt 64 (b : Int))).toNat : Int) = _
    rw [BitVec.ofInt_natCast, BitVec.ofInt_natCast, BitVec.toNat_and, BitVec.toNat_not, BitVec.toNat_ofNat, BitVec.toNat_ofNat, ha']
  rw [h, hb', show 2 ^ 64 - 1 - b = 2 ^ 64 - (b + 1) by omega, e]
  have : a ^^^ (a &&& b) < 2 ^ 62 := Nat.xor_lt_two_pow ha (Nat.and_lt_two_pow _ hb)
  exact wraps_i64 _ (by omega) (by exact_mod_cast this)
def bitB (m i : Nat) : Bool := m >>> i % 2 == 1
theorem tmod_bit (m i : Nat) (hi : i ≤ 64) : Int.tmod (shr .i64 (m : Int) (i : Int)) 2 = 0 ↔ bitB m i = false := by
  rw [shr_nat _ _ hi, tmod_two]
  unfold bitB
  rw [beq_eq_false_iff_ne]
  omega
theorem tmod_bit1 (m i : Nat) (hi : i ≤ 64) : Int.tmod (shr .i64 (m : Int) (i : Int)) 2 = 1 ↔ bitB m i = true := by
  rw [shr_nat _ _ hi, tmod_two]
  unfold bitB
  rw [beq_iff_eq]
  omega
theorem fin512 {P : Nat → Nat → Prop} [∀ m i, Decidable (P m i)] (h : ((List.range 512).all fun m => (List.range 9).all fun i => decide (P m i)) = true) : ∀ m i, m < 512 → i < 9 → P m i := fun m i hm hi =>
  of_decide_eq_true (List.all_eq_true.1 (List.all_eq_true.1 h m (List.mem_range.2 hm)) i (List.mem_range.2 hi))
theorem bit_le : ∀ m i, m < 512 → i < 9 → bitB m i = true → 2 ^ i ≤ m := fin512 (by decide +kernel)
theorem rdOf_tab {g : Nat → Bool} {N i : Nat} (h : i < N) : rdOf false (tabB g N) (i : Int) = g i := by
  rw [rdOf_get (by rw [tabB_len]; exact h), tabB_get]
theorem pow_lt9 {i n : Nat} (h : i < n) (hn : n ≤ 9) : 2 ^ i < 2 ^ n ∧ 2 ^ n ≤ 512 :=
  ⟨Nat.pow_lt_pow_right (by decide) h, Nat.pow_le_pow_right (n := 2) (by decide) hn⟩
def oneB (m : Nat) : Bool := m != 0 && m &&& (m - 1) == 0
def nearB (a b : Nat) : Bool := oneB (aN a b) && oneB (aN b a)
def swapB (s t u w : Nat) : Bool := nearB s u && nearB t w || nearB s w && nearB t u
def cross (s t i j : Nat) : Bool := bitB s i && !bitB t i && !bitB s j && bitB t j
theorem isSwap1_K : ((List.range 64).all fun a => (List.range 64).all fun b => impl_isSwap_1.f (a : Int) (b : Int) == some (nearB a b)) = true := by decide +kernel
theorem near_K : ((List.range 64).all fun s => (List.range 64).all fun u => !nearB s u || (List.range 6).any fun i => (List.range 6).any fun j => bitB s i && !bitB s j && u == s ^^^ 2 ^ i ^^^ 2 ^ j) = true := by decide +kernel
theorem bet_K : ((List.range 64).all fun s => (List.range 64).all fun t => (List.range 6).all fun i => (List.range 6).all fun j => !(bitB s i && !bitB s j && betw s t (s ^^^ 2 ^ i ^^^ 2 ^ j)) || (cross s t i j && wOf s t (s ^^^ 2 ^ i ^^^ 2 ^ j) == t ^^^ 2 ^ i ^^^ 2 ^ j)) = true := by decide +kernel
theorem swapC_K : ((List.range 64).all fun s => (List.range 64).all fun t => (List.range 6).all fun i => (List.range 6).all fun j => !cross s t i j ||
    (betw s t (s ^^^ 2 ^ i ^^^ 2 ^ j) && wOf s t (s ^^^ 2 ^ i ^^^ 2 ^ j) == t ^^^ 2 ^ i ^^^ 2 ^ j && betw s t (t ^^^ 2 ^ i ^^^ 2 ^ j) && wOf s t (t ^^^ 2 ^ i ^^^ 2 ^ j) == s ^^^ 2 ^ i ^^^ 2 ^ j && swapB s t (s ^^^ 2 ^ i ^^^ 2 ^ j) (t ^^^ 2 ^ i ^^^ 2 ^ j) && swapB s t (t ^^^ 2 ^ i ^^^ 2 ^ j) (s ^^^ 2 ^ i ^^^ 2 ^ j))) = true := by decide +kernel
def posS (x : List Int) : List (List Int) → Nat
  | [] => 0
  | y :: ys => if lexB y x = true then posS x ys + 1 else 0
theorem posS_cons (x y : List Int) (ys : List (List Int)) : posS x (y :: ys) = if lexB y x = true then posS x ys + 1 else 0 := rfl
theorem insS_pos (x : List Int) : ∀ l, l.take (posS x l) ++ [x] ++ l.drop (posS x l) = insL lexB x l
  | [] => rfl
  | y :: ys => by
    have ih := insS_pos x ys
    unfold posS insL
    by_cases h : lexB y x = true
    · simp only [if_pos h, List.take_succ_cons, List.drop_succ_cons, List.cons_append]; rw [ih]
    · simp only [if_neg h]; rfl
theorem rdN_get {xs : List (List Int)} {i : Nat} (h : i < xs.length) : rdOf [] xs (i : Int) = xs[i] := by unfold rdOf; rw [Int.toNat_natCast]; exact getD_get h
theorem voSorted_l1 (x : List Int) (x8 : List (List Int)) (x9 x10 : Int) (l r : List (List Int)) (hl : l.length ≤ 1048576) (hx : ∀ y ∈ l, y.length ≤ 1048576) (ih : Ev (fun k => spec_voSorted.l0 k (insL lexB x l) x8 x9 (wrap64 (x10 + 1))) r) :
    ∀ (d i : Nat), i + d = l.length → i + posS x (l.drop i) = posS x l → Ev (fun k => spec_voSorted.l1 k l x (i : Int) x8 x9 x10) r
  | 0, i, hi, hp => by
    have hi' : i = l.length := by omega
    have e : posS x l = i := by rw [← hp, hi', List.drop_length]; rfl
    have ih' := ih
    rw [← insS_pos, e] at ih'
    refine ev_succ ?_
    simp only [spec_voSorted.l1, Option.bind_some, List.nil_append, List.length_nil, Nat.zero_add, Int.toNat_natCast, List.length_append, List.length_take, List.length_drop, List.length_cons]
    exact ev_neg (by omega) (ev_pos (by omega) (ev_pos (by omega) (ev_pos (by omega) (ev_pos (by omega) (ev_pos (by omega) ih')))))
  | d + 1, i, hi, hp => by
    have hlt : i < l.length := by omega
    refine ev_succ ?_
    simp only [spec_voSorted.l1, Option.bind_some, List.nil_append, List.length_nil, Nat.zero_add, Int.toNat_natCast, List.length_append, List.length_take, List.length_drop, List.length_cons]
    rw [List.drop_eq_getElem_cons hlt] at hp
    refine ev_pos (by omega) (ev_pos (by omega) ?_)
    rw [rdN_get hlt]
    refine Ev.bind (voBefore_ev _ _ (Nat.le_trans (hx _ (List.getElem_mem hlt)) (by decide))) (ev_bool (fun e => ?_) (fun e => ?_))
    · rw [wrap_succ hlt (by omega)]
      rw [posS_cons, if_pos e] at hp
      exact voSorted_l1 x x8 x9 x10 l r hl hx ih d (i + 1) (by omega) (by rw [← hp]; omega)
    · have e2 : posS x l = i := by
        rw [← hp, posS_cons, if_neg (by rw [e]; decide)]; rfl
      have ih' := ih
      rw [← insS_pos, e2] at ih'
      exact ev_pos (by omega) (ev_pos (by omega) (ev_pos (by omega) (ev_pos (by omega) ih')))
theorem foldS_step (l : List (List Int)) (i : Nat) (h : i < l.length) : (l.take (i + 1)).foldl (fun out x => insL lexB x out) [] = insL lexB l[i] ((l.take i).foldl (fun out x => insL lexB x out) []) := by
  rw [List.take_succ_eq_append_getElem h, List.foldl_append]; rfl
theorem voSorted_ev (l : List (List Int)) (hl : l.length ≤ 1048576) (hx : ∀ y ∈ l, y.length ≤ 1048576) : Ev (fun k => spec_voSorted.f k l) (sortL lexB l) := by
  unfold spec_voSorted.f
  have := ev_range l.length (fun k i => spec_voSorted.l0 k ((l.take i).foldl (fun out x => insL lexB x out) []) l (l.length : Int) (i : Int)) (fun _ => sortL lexB l) ?_ ?_ 0 (Nat.zero_le _)
  · exact this
  · refine ev_succ ?_
    simp only [spec_voSorted.l0, List.take_length]
    exact ev_neg (by omega) (Ev.now _)
  · intro i hi ih
    refine ev_succ ?_
    simp only [spec_voSorted.l0]
    refine ev_pos (by omega) (ev_pos (by omega) (ev_pos (by omega) ?_))
    rw [rdN_get hi]
    have hp := foldl_perm lexB (l.take i) []
    rw [List.append_nil] at hp
    have hlen : ((l.take i).foldl (fun out x => insL lexB x out) []).length ≤ l.length := by rw [hp.length_eq, List.length_take]; omega
    have := voSorted_l1 l[i] l (l.length : Int) (i : Int) _ (sortL lexB l) (Nat.le_trans hlen hl) (fun y hy => hx y (List.mem_of_mem_take (hp.mem_iff.1 hy))) ?_ _ 0 (Nat.zero_add _) (by simp)
    · exact this
    · rw [wrap_succ hi (by omega), ← foldS_step l i hi]; exact ih
theorem xorN (a b : Nat) (ha : a < 2 ^ 62) (hb : b < 2 ^ 62) : Go.bits .xor .i64 (a : Int) (b : Int) = ((a ^^^ b : Nat) : Int) := by
  have ha' : a % 2 ^ 64 = a := Nat.mod_eq_of_lt (by omega)
  have hb' : b % 2 ^ 64 = b := Nat.mod_eq_of_lt (by omega)
  have h : Go.bits .xor .i64 (a : Int) (b : Int) = IntKind.i64.wrap ((a ^^^ b : Nat) : Int) := by
    show IntKind.i64.wrap ((BitVec.ofInt 64 (a : Int) ^^^ (BitVec.ofInt 64 (b : Int))).toNat : Int) = _
    rw [BitVec.ofInt_natCast, BitVec.ofInt_natCast, BitVec.toNat_xor, BitVec.toNat_ofNat, BitVec.toNat_ofNat, ha', hb']
  rw [h]
  have : a ^^^ b < 2 ^ 62 := Nat.xor_lt_two_pow ha hb
  exact wraps_i64 _ (by omega) (by exact_mod_cast this)
def Fnd (f : Nat → Option (List (List Int) × List (List Int) × Bool)) (e : Bool) : Prop := ∃ r : List (List Int) × List (List Int) × Bool, r.2.2 = e ∧ Ev f r
section
variable {f g : Nat → Option (List (List Int) × List (List Int) × Bool)} {e : Bool}
theorem Fnd.pos {c : Prop} [Decidable c] (h : c) (k : Fnd f e) : Fnd (fun n => if c then f n else g n) e := by obtain ⟨r, h1, h2⟩ := k; exact ⟨r, h1, ev_pos h h2⟩
theorem Fnd.neg {c : Prop} [Decidable c] (h : ¬ c) (k : Fnd g e) : Fnd (fun n => if c then f n else g n) e := by obtain ⟨r, h1, h2⟩ := k; exact ⟨r, h1, ev_neg h h2⟩
theorem Fnd.succ (k : Fnd (fun n => g (n + 1)) e) : Fnd g e := by obtain ⟨r, h1, h2⟩ := k; exact ⟨r, h1, ev_succ h2⟩
theorem Fnd.bool {c : Bool} (h1 : c = true → Fnd f e) (h2 : c = false → Fnd g e) : Fnd (fun n => if c = true then f n else g n) e := by
  cases c
  · exact Fnd.neg (by decide) (h2 rfl)
  · exact Fnd.pos rfl (h1 rfl)
theorem Fnd.bind {α : Type} {x : Nat → Option α} {a : α} {f : Nat → α → Option (List (List Int) × List (List Int) × Bool)} (h : Ev x a) (k : Fnd (fun n => f n a) e) : Fnd (fun n => (x n).bind (f n)) e := by obtain ⟨r, h1, h2⟩ := k; exact ⟨r, h1, Ev.bind h h2⟩
theorem Fnd.eqv {e' : Bool} (h : Fnd f e) (he : e = e') : Fnd f e' := he ▸ h
end
theorem deTrade_l1 (x5 : List (List Int)) (h5 : x5.length ≤ 1000) (h5x : ∀ x ∈ x5, x.length ≤ 16) (ls : List Nat) (hl : ls.length ≤ 1000) (h : ∀ m ∈ ls, m < 512) :
    Ev (fun k => spec_deTrade.l1 k x5 [] (ls.map fun (m : Nat) => (m : Int)) ((ls.map fun (m : Nat) => (m : Int)).length : Int) 0) (sortL lexB x5, sortL lexB (ls.map setL)) := by
  rw [List.length_map]
  refine ev_range ls.length (fun k i => spec_deTrade.l1 k x5 ((ls.take i).map setL) (ls.map fun (m : Nat) => (m : Int)) (ls.length : Int) (i : Int)) (fun _ => (sortL lexB x5, sortL lexB (ls.map setL))) ?_ ?_ 0 (Nat.zero_le _)
  · refine ev_succ ?_
    simp only [spec_deTrade.l1, List.take_length]
    refine ev_neg (by omega) (Ev.bind (voSorted_ev x5 (by omega) (fun y hy => Nat.le_trans (h5x y hy) (by decide))) (Ev.bind (voSorted_ev _ (by rw [List.length_map]; omega) (fun y hy => ?_)) (Ev.now _)))
    obtain ⟨m, _, rfl⟩ := List.mem_map.1 hy
    exact Nat.le_trans (bitsL_len _ _ _) (by decide)
  · intro i hi ih
    refine ev_succ ?_
    simp only [spec_deTrade.l1, List.length_map]
    rw [rd_get (by rw [List.length_map]; exact hi), List.getElem_map, wrap_succ hi (by omega)]
    rw [List.take_succ_eq_append_getElem hi, List.map_append] at ih
    exact ev_pos (by omega) (ev_pos (by omega) (ev_pos (by omega) (Ev.bind (voList_ev _ (by have := h _ (List.getElem_mem hi); omega)) (ev_pos (by rw [List.length_take]; omega) ih))))
theorem deTrade_ev (ws ls : List Nat) (hw : ws.length ≤ 1000) (hl : ls.length ≤ 1000) (h1 : ∀ m ∈ ws, m < 512) (h2 : ∀ m ∈ ls, m < 512) :
    Ev (fun k => spec_deTrade.f k (ws.map fun (m : Nat) => (m : Int)) (ls.map fun (m : Nat) => (m : Int))) (sortL lexB (ws.map setL), sortL lexB (ls.map setL)) := by
  unfold spec_deTrade.f
  rw [List.length_map]
  refine ev_range ws.length (fun k i => spec_deTrade.l0 k (ls.map fun (m : Nat) => (m : Int)) ((ws.take i).map setL) (ws.map fun (m : Nat) => (m : Int)) (ws.length : Int) (i : Int)) (fun _ => (sortL lexB (ws.map setL), sortL lexB (ls.map setL))) ?_ ?_ 0 (Nat.zero_le _)
  · refine ev_succ ?_
    simp only [spec_deTrade.l0, List.take_length]
    refine ev_neg (by omega) (deTrade_l1 _ (by rw [List.length_map]; omega) (fun x hx => ?_) ls hl h2)
    obtain ⟨m, _, rfl⟩ := List.mem_map.1 hx
    exact bitsL_len _ _ _
  · intro i hi ih
    refine ev_succ ?_
    simp only [spec_deTrade.l0, List.length_map]
    rw [rd_get (by rw [List.length_map]; exact hi), List.getElem_map, wrap_succ hi (by omega)]
    rw [List.take_succ_eq_append_getElem hi, List.map_append] at ih
    exact ev_pos (by omega) (ev_pos (by omega) (ev_pos (by omega) (Ev.bind (voList_ev _ (by have := h1 _ (List.getElem_mem hi); omega)) (ev_pos (by rw [List.length_take]; omega) ih))))
def TwoL (b : List (List Int)) : Prop := b.length = 2 ∧ ∀ x ∈ b, x.length ≤ 16
theorem TwoL.of (s t : Nat) : TwoL (sortL lexB ([s, t].map setL)) := by
  have hp := sortL_perm lexB ([s, t].map setL)
  refine ⟨by rw [hp.length_eq]; rfl, fun x hx => ?_⟩
  obtain ⟨m, _, rfl⟩ := List.mem_map.1 (hp.mem_iff.1 hx)
  exact bitsL_len _ _ _
def pSw (g : Nat → Bool) (s t i j : Nat) : Bool := cross s t i j && (!g (s ^^^ 2 ^ i ^^^ 2 ^ j) && !g (t ^^^ 2 ^ i ^^^ 2 ^ j))
theorem xor2_lt {n s i j : Nat} (hs : s < 2 ^ n) (hi : i < n) (hj : j < n) : s ^^^ 2 ^ i ^^^ 2 ^ j < 2 ^ n := Nat.xor_lt_two_pow (Nat.xor_lt_two_pow hs (Nat.pow_lt_pow_right (by decide) hi)) (Nat.pow_lt_pow_right (by decide) hj)
theorem xor2_shl {n s i j : Nat} (hn : n ≤ 9) (hs : s < 2 ^ n) (hi : i < n) (hj : j < n) : Go.bits .xor .i64 (Go.bits .xor .i64 (s : Int) (shl .i64 1 (i : Int))) (shl .i64 1 (j : Int)) = ((s ^^^ 2 ^ i ^^^ 2 ^ j : Nat) : Int) := by
  have hi2 := pow_lt9 hi hn
  have hj2 := pow_lt9 hj hn
  rw [shl_one_nat i (by omega), shl_one_nat j (by omega), xorN s (2 ^ i) (by omega) (by omega), xorN (s ^^^ 2 ^ i) (2 ^ j) ?_ (by omega)]
  exact Nat.lt_of_lt_of_le (Nat.xor_lt_two_pow hs (Nat.pow_lt_pow_right (by decide) hi)) (by have : 2 ^ n ≤ 512 := hi2.2; omega)
theorem isSwap_eq (s t u w : Nat) (h : s < 64 ∧ t < 64 ∧ u < 64 ∧ w < 64) : impl_isSwap.f (s : Int) (t : Int) (u : Int) (w : Int) = some (swapB s t u w) := by
  have e : ∀ a b : Nat, a < 64 → b < 64 → impl_isSwap_1.f (a : Int) (b : Int) = some (nearB a b) := fun a b ha hb => by
    have := List.all_eq_true.1 (List.all_eq_true.1 isSwap1_K a (List.mem_range.2 ha)) b (List.mem_range.2 hb)
    exact eq_of_beq this
  unfold impl_isSwap.f swapB
  rw [e s u h.1 h.2.2.1, e t w h.2.1 h.2.2.2, e s w h.1 h.2.2.2, e t u h.2.1 h.2.2.1]
  cases nearB s u <;> cases nearB t w <;> cases nearB s w <;> cases nearB t u <;> rfl
def lexG : List (List Int) → List (List Int) → Bool
  | [], [] => false
  | [], _ :: _ => true
  | _ :: _, [] => false
  | x :: xs, y :: ys => if x = y then lexG xs ys else lexB x y
theorem lexG_irrefl : ∀ a, lexG a a = false
  | [] => rfl
  | x :: xs => by rw [lexG, if_pos rfl]; exact lexG_irrefl xs
theorem lexG_trans : ∀ a b c, lexG a b = true → lexG b c = true → lexG a c = true
  | [], [], _, h, _ => by cases h
  | [], _ :: _, [], _, h => by cases h
  | [], _ :: _, _ :: _, _, _ => rfl
  | _ :: _, [], _, h, _ => by cases h
  | _ :: _, _ :: _, [], _, h => by cases h
  | x :: xs, y :: ys, z :: zs, h1, h2 => by
    rw [lexG] at h1 h2 ⊢
    by_cases e1 : x = y
    · subst e1
      rw [if_pos rfl] at h1
      by_cases e2 : x = z
      · subst e2
        rw [if_pos rfl] at h2 ⊢
        exact lexG_trans xs ys zs h1 h2
      · rw [if_neg e2] at h2 ⊢; exact h2
    · rw [if_neg e1] at h1
      by_cases e2 : y = z
      · subst e2
        rw [if_neg e1]; exact h1
      · rw [if_neg e2] at h2
        have h3 := lexB_trans _ _ _ h1 h2
        rw [if_neg (fun e => by subst e; rw [lexB_irrefl] at h3; cases h3)]
        exact h3
theorem lexG_total : ∀ a b, lexG a b = false → lexG b a = false → a = b
  | [], [], _, _ => rfl
  | [], _ :: _, h, _ => by cases h
  | _ :: _, [], _, h => by cases h
  | x :: xs, y :: ys, h1, h2 => by
    rw [lexG] at h1 h2
    by_cases e : x = y
    · subst e
      rw [if_pos rfl] at h1 h2
      rw [lexG_total xs ys h1 h2]
    · rw [if_neg e] at h1
      rw [if_neg (fun q => e q.symm)] at h2
      exact absurd (lexB_total _ _ h1 h2) e
def resT (o : Option (List (List Int) × List (List Int))) : List (List Int) × List (List Int) × Bool := match o with
  | some p => (p.1, p.2, true)
  | none => ([], [], false)
def prT (s t u w : Nat) : List (List Int) × List (List Int) := ([setL s, setL t], [setL u, setL w])
def inQ (g : Nat → Bool) (Q : Nat → Nat → Nat → Nat → Bool) (s t u : Nat) (r : List Nat) : Bool := (!g u && betw s t u) && (!g (wOf s t u) && ((u :: r).contains (wOf s t u) && Q s t u (wOf s t u)))
def inT (g : Nat → Bool) (Q : Nat → Nat → Nat → Nat → Bool) (s t : Nat) (rest : Option (List (List Int) × List (List Int))) : List Nat → Option (List (List Int) × List (List Int))
  | [] => rest
  | u :: r => if inQ g Q s t u r = true then some (prT s t u (wOf s t u)) else inT g Q s t rest r
def outT (g : Nat → Bool) (Q : Nat → Nat → Nat → Nat → Bool) (O : List Nat) (s : Nat) (rest : Option (List (List Int) × List (List Int))) : List Nat → Option (List (List Int) × List (List Int))
  | [] => rest
  | t :: r => if (g s && g t) = true then inT g Q s t (outT g Q O s rest r) O else outT g Q O s rest r
def allT (g : Nat → Bool) (Q : Nat → Nat → Nat → Nat → Bool) (O : List Nat) : List Nat → Option (List (List Int) × List (List Int))
  | [] => none
  | s :: r => outT g Q O s (allT g Q O r) (s :: r)
theorem pairs_ev (s t u w : Nat) (h : s < 512 ∧ t < 512 ∧ u < 512 ∧ w < 512) : Ev (fun k => impl_pairs.f k [(s : Int), (t : Int)] [(u : Int), (w : Int)]) (prT s t u w) := by
  have w1 : wrap64 (0 + 1) = 1 := by unfold wrap64; omega
  have w2 : wrap64 (1 + 1) = 2 := by unfold wrap64; omega
  have r1 : rd [(s : Int), (t : Int)] 0 = (s : Int) := rfl
  have r2 : rd [(u : Int), (w : Int)] 0 = (u : Int) := rfl
  have r3 : rd [(s : Int), (t : Int)] 1 = (t : Int) := rfl
  have r4 : rd [(u : Int), (w : Int)] 1 = (w : Int) := rfl
  unfold impl_pairs.f
  refine ev_succ ?_
  simp only [impl_pairs.l0, w1, r1, r2]
  refine ev_pos (by simp) (ev_pos (by simp) (ev_pos (by simp) (Ev.bind (setOf_ev s (by omega)) (ev_pos (by simp) (ev_pos (by simp) (Ev.bind (setOf_ev u (by omega)) (ev_pos (by simp) (ev_succ ?_))))))))
  simp only [impl_pairs.l0, w2, r3, r4]
  refine ev_pos (by simp) (ev_pos (by simp) (ev_pos (by simp) (Ev.bind (setOf_ev t (by omega)) (ev_pos (by simp) (ev_pos (by simp) (Ev.bind (setOf_ev w (by omega)) (ev_pos (by simp) (ev_succ ?_))))))))
  simp only [impl_pairs.l0]
  exact ev_neg (by simp) (ev_eqv (Ev.now _) rfl)
section
variable (P : Int → Int → Int → Int → Option Bool) (Q : Nat → Nat → Nat → Nat → Bool) (hP : ∀ s t u w : Nat, s < 64 ∧ t < 64 ∧ u < 64 ∧ w < 64 → P s t u w = some (Q s t u w)) (g : Nat → Bool) (n : Nat) (hn : n ≤ 6) (O : List Nat) (hO : O.length ≤ 64) (hOl : ∀ x ∈ O, x < 2 ^ n)
section
variable (s t : Nat) (hs : s < 2 ^ n) (ht : t < 2 ^ n) (x18 x27 x26 : Int) (x25 : List Int)
include hP hn hO hOl hs ht
theorem ft_j4 (k : Nat) (hk : k < O.length) (x75 : Bool) (h75 : x75 = !(!g O[k] && betw s t O[k])) (rs : Option (List (List Int) × List (List Int)))
    (hnx : Ev (fun r => impl_votes_firstOfTwo.l2 P r (cI O) (s : Int) (t : Int) (cI O) (O.length : Int) x18 x25 x26 x27 (cI O) (O.length : Int) (wrap64 ((k : Int) + 1)) (n : Int) (tabB g (2 ^ n))) (resT rs)) :
    Ev (fun r => impl_votes_firstOfTwo.j4 P r (cI O) (s : Int) (t : Int) (k : Int) ((O[k] : Nat) : Int) (cI O) (O.length : Int) x18 x25 x26 x27 (cI O) (O.length : Int) (k : Int) x75 (n : Int) (tabB g (2 ^ n))) (resT (if inQ g Q s t O[k] (O.drop (k + 1)) = true then some (prT s t O[k] (wOf s t O[k])) else rs)) := by
  have hp : 2 ^ n ≤ 64 := Nat.le_trans (Nat.pow_le_pow_right (n := 2) (by decide) hn) (by decide)
  have hu : O[k] < 2 ^ n := hOl _ (List.getElem_mem hk)
  have hdr : O.drop k = O[k] :: O.drop (k + 1) := List.drop_eq_getElem_cons hk
  have hlen : (O.drop k).length ≤ 64 := by rw [List.length_drop]; omega
  have hd : (cI O).drop (k : Int).toNat = cI (O.drop k) := by unfold cI; rw [Int.toNat_natCast, List.map_drop]
  rw [hdr] at hd hlen
  unfold inQ
  generalize O[k] = u at hu h75 hd hlen
  have hw := wOf_lt (u := u) hs ht
  have hst : s ||| t < 2 ^ n := Nat.or_lt_two_pow hs ht
  have hsa : s &&& t < 2 ^ n := Nat.and_lt_two_pow _ ht
  have hx : aN (s ||| t) u < 2 ^ n := Nat.xor_lt_two_pow hst (Nat.lt_of_le_of_lt Nat.and_le_left hst)
  have e : Go.bits .or .i64 (Go.bits .and .i64 (s : Int) (t : Int)) (Go.bits .andNot .i64 (Go.bits .or .i64 (s : Int) (t : Int)) (u : Int)) = ((wOf s t u : Nat) : Int) := by
    rw [and_nat s t (by omega) (by omega), or_nat s t (by omega) (by omega), andNot_nat (s ||| t) u (by omega) (by omega)]
    exact or_nat (s &&& t) (aN (s ||| t) u) (by omega) (by omega)
  refine ev_succ ?_
  simp only [impl_votes_firstOfTwo.j4, e]
  refine ev_bool (fun e1 => ?_) (fun e1 => ?_)
  · refine ev_eqv hnx ?_
    rw [h75] at e1
    rw [show (!g u && betw s t u) = false from by cases h : (!g u && betw s t u) with
      | false => rfl
      | true => rw [h] at e1; cases e1]
    simp
  · have hb : (!g u && betw s t u) = true := by
      rw [h75] at e1
      cases h : (!g u && betw s t u) with
      | true => rfl
      | false => rw [h] at e1; cases e1
    rw [hb, Bool.true_and, tabB_len, rdOf_tab hw]
    refine ev_pos (Int.natCast_nonneg _) (ev_pos (Int.ofNat_lt.2 hw) (ev_bool (fun e2 => ?_) (fun e2 => ?_)))
    · exact ev_eqv hnx (by rw [e2]; simp)
    · rw [e2, Bool.not_false, Bool.true_and]
      refine ev_pos (by omega) (ev_pos (by rw [cI_len]; omega) ?_)
      rw [hd]
      refine Ev.bind (contains_ev (u :: O.drop (k + 1)) (wOf s t u) (by omega)) (ev_bool (fun e3 => ?_) (fun e3 => ?_))
      · rw [e3, Bool.true_and]
        refine ev_bindS (hP s t u (wOf s t u) ⟨by omega, by omega, by omega, by omega⟩) (ev_bool (fun e4 => ?_) (fun e4 => ?_))
        · rw [e4, if_pos rfl]
          exact Ev.bind (pairs_ev s t u (wOf s t u) ⟨by omega, by omega, by omega, by omega⟩) (Ev.now _)
        · exact ev_eqv hnx (by rw [e4]; simp)
      · exact ev_eqv hnx (by rw [e3]; simp)
theorem ft_l2 (rest : Option (List (List Int) × List (List Int))) (hnx : Ev (fun r => impl_votes_firstOfTwo.l1 P r (cI O) (s : Int) (cI O) (O.length : Int) x18 x25 x26 (wrap64 (x27 + 1)) (n : Int) (tabB g (2 ^ n))) (resT rest)) :
    ∀ d k : Nat, k + d = O.length → Ev (fun r => impl_votes_firstOfTwo.l2 P r (cI O) (s : Int) (t : Int) (cI O) (O.length : Int) x18 x25 x26 x27 (cI O) (O.length : Int) (k : Int) (n : Int) (tabB g (2 ^ n))) (resT (inT g Q s t rest (O.drop k))) := by
  have hp : 2 ^ n ≤ 64 := Nat.le_trans (Nat.pow_le_pow_right (n := 2) (by decide) hn) (by decide)
  intro d
  induction d with
  | zero =>
    intro k hk
    obtain rfl : k = O.length := by omega
    refine ev_succ ?_
    simp only [impl_votes_firstOfTwo.l2]
    rw [List.drop_length]
    exact ev_neg (Int.lt_irrefl _) hnx
  | succ d ih =>
    intro k hk
    have hkl : k < O.length := by omega
    have hih := ih (k + 1) (by omega)
    have hw : wrap64 ((k : Int) + 1) = ((k + 1 : Nat) : Int) := wrap_succ hkl (by omega)
    rw [← hw] at hih
    have hj := fun x75 h75 => ft_j4 P Q hP g n hn O hO hOl s t hs ht x18 x27 x26 x25 k hkl x75 h75 _ hih
    have hu : O[k] < 2 ^ n := hOl _ (List.getElem_mem hkl)
    have hr : rd (cI O) (k : Int) = ((O[k] : Nat) : Int) := rd_cI hkl
    rw [List.drop_eq_getElem_cons hkl]
    refine ev_succ ?_
    simp only [impl_votes_firstOfTwo.l2, hr, inT]
    generalize O[k] = u at hu hj
    have hst : s ||| t < 2 ^ n := Nat.or_lt_two_pow hs ht
    have hsa : s &&& t < 2 ^ n := Nat.and_lt_two_pow _ ht
    rw [tabB_len, rdOf_tab hu, cI_len]
    refine ev_pos (by omega) (ev_pos (by omega) (ev_pos (by omega) (ev_pos (Int.natCast_nonneg _) (ev_pos (Int.ofNat_lt.2 hu) (ev_bool (fun e1 => ?_) (fun e1 => ?_))))))
    · exact hj true (by rw [e1]; rfl)
    · rw [and_nat s t (by omega) (by omega), and_nat u (s &&& t) (by omega) (by omega), or_nat s t (by omega) (by omega), andNot_nat u (s ||| t) (by omega) (by omega)]
      by_cases e2 : u &&& (s &&& t) = s &&& t
      · refine ev_pos (by rw [e2]) (hj _ ?_)
        rw [e1]
        unfold betw aN
        rw [e2]
        simp only [Bool.not_false, Bool.true_and, beq_self_eq_true]
        rw [Bool.eq_iff_iff]
        simp
      · refine ev_neg (by omega) (hj true ?_)
        rw [e1]
        unfold betw
        rw [show (u &&& (s &&& t) == s &&& t) = false from by simpa using e2]
        rfl
end
include hP hn hO hOl
theorem ft_l1 (s : Nat) (hs : s < 2 ^ n) (x18 : Int) (T : List Nat) (hT : T.length ≤ 64) (hTl : ∀ x ∈ T, x < 2 ^ n) (rest : Option (List (List Int) × List (List Int)))
    (hnx : Ev (fun r => impl_votes_firstOfTwo.l0 P r (cI O) (cI O) (O.length : Int) (wrap64 (x18 + 1)) (n : Int) (tabB g (2 ^ n))) (resT rest)) :
    ∀ d j : Nat, j + d = T.length → Ev (fun r => impl_votes_firstOfTwo.l1 P r (cI O) (s : Int) (cI O) (O.length : Int) x18 (cI T) (T.length : Int) (j : Int) (n : Int) (tabB g (2 ^ n))) (resT (outT g Q O s rest (T.drop j))) := by
  intro d
  induction d with
  | zero =>
    intro j hj
    obtain rfl : j = T.length := by omega
    refine ev_succ ?_
    simp only [impl_votes_firstOfTwo.l1]
    rw [List.drop_length]
    exact ev_neg (Int.lt_irrefl _) hnx
  | succ d ih =>
    intro j hj
    have hjl : j < T.length := by omega
    have hih := ih (j + 1) (by omega)
    have hw : wrap64 ((j : Int) + 1) = ((j + 1 : Nat) : Int) := wrap_succ hjl (by omega)
    rw [← hw] at hih
    have ht : T[j] < 2 ^ n := hTl _ (List.getElem_mem hjl)
    have hr : rd (cI T) (j : Int) = ((T[j] : Nat) : Int) := rd_cI hjl
    have h2 : ∀ x44 : Bool, x44 = !(g s && g T[j]) → Ev (fun r => impl_votes_firstOfTwo.j2 P r (cI O) (s : Int) ((T[j] : Nat) : Int) (cI O) (O.length : Int) x18 (cI T) (T.length : Int) (j : Int) x44 (n : Int) (tabB g (2 ^ n))) (resT (outT g Q O s rest (T[j] :: T.drop (j + 1)))) := by
      intro x44 hx
      refine ev_succ ?_
      simp only [impl_votes_firstOfTwo.j2, outT]
      refine ev_bool (fun e => ?_) (fun e => ?_)
      · refine ev_eqv hih ?_
        have : (g s && g T[j]) = false := by
          rw [hx] at e
          cases h : (g s && g T[j]) with
          | false => rfl
          | true => rw [h] at e; cases e
        rw [this]; rfl
      · have : (g s && g T[j]) = true := by
          rw [hx] at e
          cases h : (g s && g T[j]) with
          | true => rfl
          | false => rw [h] at e; cases e
        rw [cI_len]
        refine ev_eqv (ft_l2 P Q hP g n hn O hO hOl s T[j] hs ht x18 (j : Int) (T.length : Int) (cI T) _ hih O.length 0 (Nat.zero_add _)) ?_
        rw [this, if_pos rfl, List.drop_zero]
    rw [List.drop_eq_getElem_cons hjl]
    refine ev_succ ?_
    simp only [impl_votes_firstOfTwo.l1, hr]
    rw [tabB_len, rdOf_tab hs, rdOf_tab ht, cI_len]
    refine ev_pos (by omega) (ev_pos (by omega) (ev_pos (by omega) (ev_pos (Int.natCast_nonneg _) (ev_pos (Int.ofNat_lt.2 hs) (ev_bool (fun e => ?_) (fun e => ?_))))))
    · exact ev_pos (Int.natCast_nonneg _) (ev_pos (Int.ofNat_lt.2 ht) (h2 _ (by rw [e]; simp)))
    · exact h2 _ (by rw [e]; simp)
theorem ft_l0 : ∀ d i : Nat, i + d = O.length → Ev (fun k => impl_votes_firstOfTwo.l0 P k (cI O) (cI O) (O.length : Int) (i : Int) (n : Int) (tabB g (2 ^ n))) (resT (allT g Q O (O.drop i))) := by
  intro d
  induction d with
  | zero =>
    intro i hi
    obtain rfl : i = O.length := by omega
    refine ev_succ ?_
    simp only [impl_votes_firstOfTwo.l0]
    rw [List.drop_length]
    exact ev_neg (Int.lt_irrefl _) (Ev.now _)
  | succ d ih =>
    intro i hi
    have hil : i < O.length := by omega
    have hih := ih (i + 1) (by omega)
    have hw : wrap64 ((i : Int) + 1) = ((i + 1 : Nat) : Int) := wrap_succ hil (by omega)
    rw [← hw] at hih
    have hr : rd (cI O) (i : Int) = ((O[i] : Nat) : Int) := rd_cI hil
    have hd : (cI O).drop (i : Int).toNat = cI (O.drop i) := by unfold cI; rw [Int.toNat_natCast, List.map_drop]
    have h1 := ft_l1 P Q hP g n hn O hO hOl O[i] (hOl _ (List.getElem_mem hil)) (i : Int) (O.drop i) (by rw [List.length_drop]; omega) (fun x hx => hOl x (List.mem_of_mem_drop hx)) _ hih (O.drop i).length 0 (Nat.zero_add _)
    refine ev_succ ?_
    simp only [impl_votes_firstOfTwo.l0, hr, hd, Option.bind_some, cI_len]
    refine ev_pos (by omega) (ev_pos (by omega) (ev_pos (by omega) (ev_pos (by omega) (ev_eqv h1 ?_))))
    rw [List.drop_zero, List.drop_eq_getElem_cons hil]
    rfl
end
theorem firstOf_ev (P : Int → Int → Int → Int → Option Bool) (Q : Nat → Nat → Nat → Nat → Bool) (hP : ∀ s t u w : Nat, s < 64 ∧ t < 64 ∧ u < 64 ∧ w < 64 → P s t u w = some (Q s t u w)) (g : Nat → Bool) (n : Nat) (hn : n ≤ 6) :
    Ev (fun k => impl_votes_firstOfTwo.f k (n : Int) (tabB g (2 ^ n)) P) (resT (allT g Q (ordL (2 ^ n)) (ordL (2 ^ n)))) := by
  have hp : 2 ^ n ≤ 64 := Nat.le_trans (Nat.pow_le_pow_right (n := 2) (by decide) hn) (by decide)
  have hO : (ordL (2 ^ n)).length ≤ 64 := by rw [ordL_len _ (by omega)]; omega
  have hOl : ∀ x ∈ ordL (2 ^ n), x < 2 ^ n := fun x hx => ordL_lt _ (by omega) hx
  unfold impl_votes_firstOfTwo.f
  refine Ev.bind (ordered_ev g n (by omega)) ?_
  rw [cI_len]
  generalize ordL (2 ^ n) = O at hO hOl
  have := ft_l0 P Q hP g n hn O hO hOl O.length 0 (Nat.zero_add _)
  rw [List.drop_zero] at this
  exact this
def trdS (s t a b : Nat) : List (List Int) × List (List Int) := (sortL lexB ([s, t].map setL), sortL lexB ([a, b].map setL))
def keyT (p : List (List Int) × List (List Int)) : List (List Int) := p.1 ++ p.2
def tk (o : Option (List (List Int) × List (List Int))) (c : List (List Int) × List (List Int)) : Option (List (List Int) × List (List Int)) := match o with
  | none => some c
  | some b => if lexG (keyT c) (keyT b) = true then some c else some b
def lb2 : List (List Int) → List (List Int) → Int
  | x :: xs, y :: ys => if lexB x y = true then 1 else if lexB y x = true then -1 else lb2 xs ys
  | _, _ => 0
theorem lb2_pos : ∀ a b : List (List Int), a.length = b.length → (lb2 a b > 0 ↔ lexG a b = true) ∧ (lb2 a b = 0 ↔ a = b)
  | [], [], _ => by simp [lb2, lexG]
  | [], _ :: _, h => by simp at h
  | _ :: _, [], h => by simp at h
  | x :: xs, y :: ys, h => by
    have ih := lb2_pos xs ys (by simpa using h)
    unfold lb2 lexG
    cases e1 : lexB x y with
    | true =>
      have hne : x ≠ y := fun e => by subst e; rw [lexB_irrefl] at e1; cases e1
      simp [hne]
    | false =>
      cases e2 : lexB y x with
      | true =>
        have hne : x ≠ y := fun e => by subst e; rw [lexB_irrefl] at e2; cases e2
        simp [hne]
      | false =>
        obtain rfl := lexB_total x y e1 e2
        simpa using ih
theorem lexG_app : ∀ a c b d : List (List Int), a.length = c.length → lexG (a ++ b) (c ++ d) = (lexG a c || (decide (a = c) && lexG b d))
  | [], [], b, d, _ => by simp [lexG]
  | [], _ :: _, _, _, h => by simp at h
  | _ :: _, [], _, _, h => by simp at h
  | x :: xs, y :: ys, b, d, h => by
    have ih := lexG_app xs ys b d (by simpa using h)
    simp only [List.cons_append, lexG]
    by_cases e : x = y
    · subst e; rw [if_pos rfl, if_pos rfl, ih]; simp
    · rw [if_neg e, if_neg e]; simp [e]
theorem deListBefore_ev (a b : List (List Int)) (hl : a.length = b.length) (h16 : a.length ≤ 16) (ha : ∀ x ∈ a, x.length ≤ 16) (hb : ∀ x ∈ b, x.length ≤ 16) : Ev (fun k => spec_deListBefore.f k a b) (lb2 a b) := by
  unfold spec_deListBefore.f
  refine ev_range a.length (fun k i => spec_deListBefore.l0 k a b (a.length : Int) (i : Int)) (fun i => lb2 (a.drop i) (b.drop i)) ?_ ?_ 0 (Nat.zero_le _)
  · refine ev_succ ?_
    simp only [spec_deListBefore.l0]
    refine ev_neg (by omega) (ev_eqv (Ev.now _) ?_)
    rw [List.drop_length]; unfold lb2; rfl
  · intro i hi ih
    have hib : i < b.length := by omega
    have h1 := voBefore_ev a[i] b[i] (Nat.le_trans (ha _ (List.getElem_mem hi)) (by decide))
    have h2 := voBefore_ev b[i] a[i] (Nat.le_trans (hb _ (List.getElem_mem hib)) (by decide))
    refine ev_succ ?_
    simp only [spec_deListBefore.l0]
    rw [rdL1_get hi, rdL1_get hib, wrap_succ hi (by omega), List.drop_eq_getElem_cons hi, List.drop_eq_getElem_cons hib]
    unfold lb2
    refine ev_pos (by omega) (ev_pos (by omega) (ev_pos (by omega) (ev_pos (by omega) (Ev.bind h1 (ev_bool (fun e1 => ?_) (fun e1 => ?_))))))
    · rw [if_pos e1]; exact Ev.now _
    · rw [if_neg (by rw [e1]; decide)]
      refine Ev.bind h2 (ev_bool (fun e2 => ?_) (fun e2 => ?_))
      · rw [if_pos e2]; exact Ev.now _
      · rw [if_neg (by rw [e2]; decide)]; exact ih
theorem deTradeBefore_ev (a b c d : List (List Int)) (ha : TwoL a) (hb : TwoL b) (hc : TwoL c) (hd : TwoL d) : Ev (fun k => spec_deTradeBefore.f k a b c d) (lexG (a ++ b) (c ++ d)) := by
  have l1 : a.length = c.length := ha.1.trans hc.1.symm
  have l2 : b.length = d.length := hb.1.trans hd.1.symm
  obtain ⟨p1, p2⟩ := lb2_pos a c l1
  obtain ⟨q1, q2⟩ := lb2_pos b d l2
  rw [lexG_app a c b d l1]
  unfold spec_deTradeBefore.f
  refine Ev.bind (deListBefore_ev a c l1 (by have := ha.1; omega) ha.2 hc.2) ?_
  by_cases e : lb2 a c > 0
  · exact ev_pos e (ev_eqv (Ev.now _) (by rw [p1.1 e]; rfl))
  · refine ev_neg e ?_
    have e' : lexG a c = false := by cases h : lexG a c with
      | false => rfl
      | true => exact absurd (p1.2 h) e
    rw [e', Bool.false_or]
    by_cases e2 : lb2 a c = 0
    · refine ev_pos e2 (Ev.bind (deListBefore_ev b d l2 (by have := hb.1; omega) hb.2 hd.2) (ev_eqv (Ev.now _) ?_))
      rw [decide_eq_true (p2.1 e2), Bool.true_and, Bool.eq_iff_iff, decide_eq_true_eq]
      exact q1
    · refine ev_neg e2 (ev_eqv (Ev.now _) ?_)
      rw [decide_eq_false (fun h => e2 (p2.2 h))]; rfl
def OkO (o : Option (List (List Int) × List (List Int))) : Prop := ∀ p, o = some p → TwoL p.1 ∧ TwoL p.2
theorem OkO.tk {o : Option (List (List Int) × List (List Int))} (h : OkO o) (s t a b : Nat) : OkO (tk o (trdS s t a b)) := by
  have h0 : TwoL (trdS s t a b).1 ∧ TwoL (trdS s t a b).2 := ⟨TwoL.of s t, TwoL.of a b⟩
  intro p hp
  unfold Q.tk at hp
  split at hp
  · obtain rfl := Option.some.inj hp; exact h0
  · split at hp
    · obtain rfl := Option.some.inj hp; exact h0
    · obtain rfl := Option.some.inj hp; exact h _ rfl
def loopO (st : Nat → Option (List (List Int) × List (List Int)) → Option (List (List Int) × List (List Int))) : Nat → Nat → Option (List (List Int) × List (List Int)) → Option (List (List Int) × List (List Int))
  | 0, _, o => o
  | d + 1, j, o => loopO st d (j + 1) (st j o)
def stJ (g : Nat → Bool) (s t i j : Nat) (o : Option (List (List Int) × List (List Int))) : Option (List (List Int) × List (List Int)) := if pSw g s t i j = true then tk o (trdS s t (s ^^^ 2 ^ i ^^^ 2 ^ j) (t ^^^ 2 ^ i ^^^ 2 ^ j)) else o
def stI (g : Nat → Bool) (n s t i : Nat) (o : Option (List (List Int) × List (List Int))) : Option (List (List Int) × List (List Int)) := loopO (stJ g s t i) n 0 o
def stT (g : Nat → Bool) (n s t : Nat) (o : Option (List (List Int) × List (List Int))) : Option (List (List Int) × List (List Int)) := if (g s && g t) = true then loopO (stI g n s t) n 0 o else o
def stS (g : Nat → Bool) (n s : Nat) (o : Option (List (List Int) × List (List Int))) : Option (List (List Int) × List (List Int)) := loopO (stT g n s) s 0 o
section
variable (g : Nat → Bool) (n : Nat) (hn : n ≤ 6) (s t : Nat) (hs : s < 2 ^ n) (ht : t < 2 ^ n) (x9 : Bool) (x16 : List Bool) (x17 x18 : Int)
include hn hs ht
theorem ss_j6 (i j : Nat) (hi : i < n) (hj : j < n) (F : Option (List (List Int) × List (List Int)) → List (List Int) × List (List Int) × Bool) (x96 : Bool) (o : Option (List (List Int) × List (List Int))) (hok : OkO o)
    (hnx : ∀ o, OkO o → Ev (fun k => spec_deSwap.l3 k (tabB g (2 ^ n)) (n : Int) o.isSome (s : Int) x9 (t : Int) (i : Int) (wrap64 ((j : Int) + 1)) x16 x17 x18 (resT o).1 (resT o).2.1) (F o)) :
    Ev (fun k => spec_deSwap.j6 k (tabB g (2 ^ n)) (n : Int) o.isSome (s : Int) x9 (t : Int) (i : Int) (j : Int) ((s ^^^ 2 ^ i ^^^ 2 ^ j : Nat) : Int) ((t ^^^ 2 ^ i ^^^ 2 ^ j : Nat) : Int) x16 x17 x18 x96 (resT o).1 (resT o).2.1) (F (if x96 = true then o else tk o (trdS s t (s ^^^ 2 ^ i ^^^ 2 ^ j) (t ^^^ 2 ^ i ^^^ 2 ^ j)))) := by
  have hp : 2 ^ n ≤ 64 := Nat.le_trans (Nat.pow_le_pow_right (n := 2) (by decide) hn) (by decide)
  refine ev_succ ?_
  simp only [spec_deSwap.j6]
  refine ev_bool (fun e => ?_) (fun e => ?_)
  · rw [if_pos e]; exact hnx o hok
  · rw [if_neg (by rw [e]; decide)]
    have hd := deTrade_ev [s, t] [s ^^^ 2 ^ i ^^^ 2 ^ j, t ^^^ 2 ^ i ^^^ 2 ^ j] (by simp) (by simp) (fun m hm => by
      rcases List.mem_cons.1 hm with rfl | h
      · omega
      · rw [List.mem_singleton] at h; omega) (fun m hm => by
      have h1 := xor2_lt hs hi hj
      have h2 := xor2_lt ht hi hj
      rcases List.mem_cons.1 hm with rfl | h
      · omega
      · rw [List.mem_singleton] at h; omega)
    refine Ev.bind hd ?_
    have hO := hok.tk s t (s ^^^ 2 ^ i ^^^ 2 ^ j) (t ^^^ 2 ^ i ^^^ 2 ^ j)
    have hN := hnx (some (trdS s t (s ^^^ 2 ^ i ^^^ 2 ^ j) (t ^^^ 2 ^ i ^^^ 2 ^ j))) (fun p hp => by obtain rfl := Option.some.inj hp; exact ⟨TwoL.of s t, TwoL.of _ _⟩)
    cases o with
    | none => exact ev_neg (by decide) hN
    | some b =>
      refine ev_pos rfl ?_
      obtain ⟨hb1, hb2⟩ := hok b rfl
      refine Ev.bind (deTradeBefore_ev _ _ b.1 b.2 (TwoL.of s t) (TwoL.of (s ^^^ 2 ^ i ^^^ 2 ^ j) (t ^^^ 2 ^ i ^^^ 2 ^ j)) hb1 hb2) ?_
      refine ev_bool (fun e2 => ?_) (fun e2 => ?_)
      · rw [show tk (some b) (trdS s t (s ^^^ 2 ^ i ^^^ 2 ^ j) (t ^^^ 2 ^ i ^^^ 2 ^ j)) = some (trdS s t (s ^^^ 2 ^ i ^^^ 2 ^ j) (t ^^^ 2 ^ i ^^^ 2 ^ j)) from if_pos e2]
        exact hN
      · rw [show tk (some b) (trdS s t (s ^^^ 2 ^ i ^^^ 2 ^ j) (t ^^^ 2 ^ i ^^^ 2 ^ j)) = some b from if_neg (by rw [show lexG (keyT (trdS s t (s ^^^ 2 ^ i ^^^ 2 ^ j) (t ^^^ 2 ^ i ^^^ 2 ^ j))) (keyT b) = false from e2]; decide)]
        exact hnx (some b) hok
theorem ss_j5 (i j : Nat) (hi : i < n) (hj : j < n) (F : Option (List (List Int) × List (List Int)) → List (List Int) × List (List Int) × Bool) (x72 : Bool) (h72 : x72 = !cross s t i j) (o : Option (List (List Int) × List (List Int))) (hok : OkO o)
    (hnx : ∀ o, OkO o → Ev (fun k => spec_deSwap.l3 k (tabB g (2 ^ n)) (n : Int) o.isSome (s : Int) x9 (t : Int) (i : Int) (wrap64 ((j : Int) + 1)) x16 x17 x18 (resT o).1 (resT o).2.1) (F o)) :
    Ev (fun k => spec_deSwap.j5 k (tabB g (2 ^ n)) (n : Int) o.isSome (s : Int) x9 (t : Int) (i : Int) (j : Int) x16 x17 x18 x72 (resT o).1 (resT o).2.1) (F (stJ g s t i j o)) := by
  have h1 := xor2_lt hs hi hj
  have h2 := xor2_lt ht hi hj
  unfold stJ
  refine ev_succ ?_
  simp only [spec_deSwap.j5]
  rw [xor2_shl (by omega) hs hi hj, xor2_shl (by omega) ht hi hj, tabB_len, rdOf_tab h1, rdOf_tab h2]
  refine ev_bool (fun e => ?_) (fun e => ?_)
  · have : cross s t i j = false := by rw [h72] at e; simpa using e
    rw [if_neg (by unfold pSw; rw [this]; simp)]
    exact hnx o hok
  · have hc : cross s t i j = true := by rw [h72] at e; simpa using e
    refine ev_pos (by omega) (ev_pos (by omega) (ev_pos (Int.natCast_nonneg _) (ev_pos (Int.ofNat_lt.2 h1) (ev_bool (fun e2 => ?_) (fun e2 => ?_)))))
    · refine ev_eqv (ss_j6 g n hn s t hs ht x9 x16 x17 x18 i j hi hj F true o hok hnx) ?_
      rw [if_pos rfl, if_neg (by unfold pSw; rw [hc, e2]; simp)]
    · refine ev_pos (Int.natCast_nonneg _) (ev_pos (Int.ofNat_lt.2 h2) ?_)
      refine ev_eqv (ss_j6 g n hn s t hs ht x9 x16 x17 x18 i j hi hj F _ o hok hnx) ?_
      unfold pSw
      rw [hc, e2]
      cases g (t ^^^ 2 ^ i ^^^ 2 ^ j) <;> rfl
theorem ss_l3 (i : Nat) (hi : i < n) (F : Option (List (List Int) × List (List Int)) → List (List Int) × List (List Int) × Bool)
    (hnx : ∀ o, OkO o → Ev (fun k => spec_deSwap.l2 k (tabB g (2 ^ n)) (n : Int) o.isSome (s : Int) x9 (t : Int) (wrap64 ((i : Int) + 1)) x16 x17 x18 (resT o).1 (resT o).2.1) (F o)) :
    ∀ d j o, j + d = n → OkO o → Ev (fun k => spec_deSwap.l3 k (tabB g (2 ^ n)) (n : Int) o.isSome (s : Int) x9 (t : Int) (i : Int) (j : Int) x16 x17 x18 (resT o).1 (resT o).2.1) (F (loopO (stJ g s t i) d j o)) := by
  intro d
  induction d with
  | zero =>
    intro j o hj hok
    obtain rfl : j = n := by omega
    refine ev_succ ?_
    simp only [spec_deSwap.l3]
    exact ev_neg (Int.lt_irrefl _) (hnx o hok)
  | succ d ih =>
    intro j o hj hok
    have hjn : j < n := by omega
    have hw : wrap64 ((j : Int) + 1) = ((j + 1 : Nat) : Int) := wrap_succ hjn (by omega)
    have hnx2 : ∀ o, OkO o → Ev (fun k => spec_deSwap.l3 k (tabB g (2 ^ n)) (n : Int) o.isSome (s : Int) x9 (t : Int) (i : Int) (wrap64 ((j : Int) + 1)) x16 x17 x18 (resT o).1 (resT o).2.1) (F (loopO (stJ g s t i) d (j + 1) o)) := by
      intro o h; rw [hw]; exact ih (j + 1) o (by omega) h
    have h5 := fun x72 h72 => ss_j5 g n hn s t hs ht x9 x16 x17 x18 i j hi hjn (fun o => F (loopO (stJ g s t i) d (j + 1) o)) x72 h72 o hok hnx2
    refine ev_succ ?_
    simp only [spec_deSwap.l3, loopO]
    refine ev_pos (by omega) (ev_pos (by omega) ?_)
    by_cases e1 : bitB s i = false
    · exact ev_pos ((tmod_bit s i (by omega)).2 e1) (h5 true (by simp [cross, e1]))
    refine ev_neg (fun h => e1 ((tmod_bit s i (by omega)).1 h)) ?_
    by_cases e2 : bitB t i = true
    · exact ev_pos ((tmod_bit1 t i (by omega)).2 e2) (h5 true (by simp [cross, e2]))
    refine ev_neg (fun h => e2 ((tmod_bit1 t i (by omega)).1 h)) (ev_pos (by omega) ?_)
    by_cases e3 : bitB s j = true
    · exact ev_pos ((tmod_bit1 s j (by omega)).2 e3) (h5 true (by simp [cross, e3]))
    refine ev_neg (fun h => e3 ((tmod_bit1 s j (by omega)).1 h)) (h5 _ ?_)
    rw [Bool.eq_iff_iff, beq_iff_eq, tmod_bit t j (by omega)]
    simp [cross, eq_true_of_ne_false e1, eq_false_of_ne_true e2, eq_false_of_ne_true e3]
theorem ss_l2 (F : Option (List (List Int) × List (List Int)) → List (List Int) × List (List Int) × Bool)
    (hnx : ∀ o, OkO o → Ev (fun k => spec_deSwap.l1 k (tabB g (2 ^ n)) (n : Int) o.isSome (s : Int) x9 (wrap64 ((t : Int) + 1)) x16 x17 x18 (resT o).1 (resT o).2.1) (F o)) :
    ∀ d i o, i + d = n → OkO o → Ev (fun k => spec_deSwap.l2 k (tabB g (2 ^ n)) (n : Int) o.isSome (s : Int) x9 (t : Int) (i : Int) x16 x17 x18 (resT o).1 (resT o).2.1) (F (loopO (stI g n s t) d i o)) := by
  intro d
  induction d with
  | zero =>
    intro i o hi hok
    obtain rfl : i = n := by omega
    refine ev_succ ?_
    simp only [spec_deSwap.l2]
    exact ev_neg (Int.lt_irrefl _) (hnx o hok)
  | succ d ih =>
    intro i o hi hok
    have hin : i < n := by omega
    have hw : wrap64 ((i : Int) + 1) = ((i + 1 : Nat) : Int) := wrap_succ hin (by omega)
    refine ev_succ ?_
    simp only [spec_deSwap.l2, loopO]
    refine ev_pos (by omega) (ss_l3 g n hn s t hs ht x9 x16 x17 x18 i hin (fun o => F (loopO (stI g n s t) d (i + 1) o)) (fun o h => ?_) n 0 o (Nat.zero_add _) hok)
    rw [hw]; exact ih (i + 1) o (by omega) h
end
theorem ss_l1 (g : Nat → Bool) (n : Nat) (hn : n ≤ 6) (s : Nat) (hs : s < 2 ^ n) (x16 : List Bool) (x17 x18 : Int) (F : Option (List (List Int) × List (List Int)) → List (List Int) × List (List Int) × Bool)
    (hnx : ∀ o, OkO o → Ev (fun k => spec_deSwap.l0 k (tabB g (2 ^ n)) (n : Int) o.isSome x16 x17 (wrap64 (x18 + 1)) (resT o).1 (resT o).2.1) (F o)) :
    ∀ d t o, t + d = s → OkO o → Ev (fun k => spec_deSwap.l1 k (tabB g (2 ^ n)) (n : Int) o.isSome (s : Int) (g s) (t : Int) x16 x17 x18 (resT o).1 (resT o).2.1) (F (loopO (stT g n s) d t o)) := by
  have hp : 2 ^ n ≤ 64 := Nat.le_trans (Nat.pow_le_pow_right (n := 2) (by decide) hn) (by decide)
  intro d
  induction d with
  | zero =>
    intro t o ht hok
    obtain rfl : t = s := by omega
    refine ev_succ ?_
    simp only [spec_deSwap.l1]
    exact ev_neg (Int.lt_irrefl _) (hnx o hok)
  | succ d ih =>
    intro t o ht hok
    have hts : t < s := by omega
    have htn : t < 2 ^ n := by omega
    have hw : wrap64 ((t : Int) + 1) = ((t + 1 : Nat) : Int) := wrap_succ hts (by omega)
    have hn2 : ∀ o, OkO o → Ev (fun k => spec_deSwap.l1 k (tabB g (2 ^ n)) (n : Int) o.isSome (s : Int) (g s) (wrap64 ((t : Int) + 1)) x16 x17 x18 (resT o).1 (resT o).2.1) (F (loopO (stT g n s) d (t + 1) o)) := by
      intro o h; rw [hw]; exact ih (t + 1) o (by omega) h
    have hj : ∀ x36 : Bool, x36 = !(g s && g t) → Ev (fun k => spec_deSwap.j2 k (tabB g (2 ^ n)) (n : Int) o.isSome (s : Int) (g s) (t : Int) x16 x17 x18 x36 (resT o).1 (resT o).2.1) (F (loopO (stT g n s) d (t + 1) (stT g n s t o))) := by
      intro x36 hx
      unfold stT
      refine ev_succ ?_
      simp only [spec_deSwap.j2]
      refine ev_bool (fun e => ?_) (fun e => ?_)
      · have : (g s && g t) = false := by
          rw [hx] at e
          cases hg : (g s && g t) with
          | false => rfl
          | true => rw [hg] at e; cases e
        rw [this, if_neg (by decide)]
        exact hn2 o hok
      · have : (g s && g t) = true := by
          rw [hx] at e
          cases hg : (g s && g t) with
          | true => rfl
          | false => rw [hg] at e; cases e
        rw [this, if_pos rfl]
        exact ss_l2 g n hn s t hs htn (g s) x16 x17 x18 (fun o => F (loopO (stT g n s) d (t + 1) o)) hn2 n 0 o (Nat.zero_add _) hok
    refine ev_succ ?_
    simp only [spec_deSwap.l1, loopO]
    rw [tabB_len, rdOf_tab htn]
    refine ev_pos (by omega) (ev_bool (fun e => ?_) (fun e => ?_))
    · exact ev_pos (by omega) (ev_pos (Int.ofNat_lt.2 htn) (hj _ (by rw [e]; simp)))
    · exact hj _ (by rw [e]; simp)
theorem deSwapR_ev (g : Nat → Bool) (n : Nat) (hn : n ≤ 6) : Ev (fun k => spec_deSwap.f k (tabB g (2 ^ n)) (n : Int)) (resT (loopO (stS g n) (2 ^ n) 0 none)) := by
  have hp : 2 ^ n ≤ 64 := Nat.le_trans (Nat.pow_le_pow_right (n := 2) (by decide) hn) (by decide)
  unfold spec_deSwap.f
  rw [tabB_len]
  have key : ∀ (d s : Nat) o, s + d = 2 ^ n → OkO o → Ev (fun k => spec_deSwap.l0 k (tabB g (2 ^ n)) (n : Int) o.isSome (tabB g (2 ^ n)) ((2 ^ n : Nat) : Int) (s : Int) (resT o).1 (resT o).2.1) (resT (loopO (stS g n) d s o)) := by
    intro d
    induction d with
    | zero =>
      intro s o hs hok
      obtain rfl : s = 2 ^ n := by omega
      refine ev_succ ?_
      simp only [spec_deSwap.l0]
      refine ev_neg (Int.lt_irrefl _) (ev_eqv (Ev.now _) ?_)
      cases o <;> rfl
    | succ d ih =>
      intro s o hs hok
      have hsn : s < 2 ^ n := by omega
      refine ev_succ ?_
      simp only [spec_deSwap.l0, loopO]
      rw [tabB_len, rdOf_tab hsn]
      refine ev_pos (Int.ofNat_lt.2 hsn) (ev_pos (Int.natCast_nonneg _) (ev_pos (Int.ofNat_lt.2 hsn) ?_))
      refine ss_l1 g n hn s hsn _ _ _ (fun o => resT (loopO (stS g n) d (s + 1) o)) (fun o h => ?_) s 0 o (Nat.zero_add _) hok
      rw [wrap_succ hsn (by omega)]
      exact ih (s + 1) o (by omega) h
  exact key (2 ^ n) 0 none (Nat.zero_add _) (fun p hp => by cases hp)
end Go.Proofs.Ytaacaifiiedoiaa.Q
end

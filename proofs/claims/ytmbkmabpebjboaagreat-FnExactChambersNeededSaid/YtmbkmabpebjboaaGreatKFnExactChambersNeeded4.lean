/- Part 4 of the proof of FnExactChambersNeeded: what it leans on (no condition). -/
import Derived.Test.YtmbkmabpebjboaaGreatKFnExactChambersNeeded3
import Derived.Shelf.SlSortCmp.WholeK
section
namespace Go.Proofs.YtmbkmabpebjboaaGreat.Q
open Go.RowKit Go.Proofs.YtmbkmabpebjboaaGreatW.PrintWords Go.Proofs.YtmbkmabpebjboaaGreatW.PrintLast Go.Proofs.YtmbkmabpebjboaaGreatW.PrintMore
attribute [local go_sem] max2_int min2_int max_two min_two max_three min_three max_four min_four
set_option linter.unusedVariables false
set_option linter.unusedSimpArgs false
def impl_pairs.l0 : Nat → List Int → List Int → Int → Int → List (List Int) → List (List Int) → Option ((List (List Int)) × (List (List Int)))
 | 0, _, _, _, _, _, _ => none
 | k + 1, x0, x1, x9, x10, x371000, x371001 => if x10 < x9 then (if 0 ≤ x10 then (if x10 < (x0.length : Int) then ((impl_setOf.f k (rd x0 x10)).bind fun t372 => (if x371000.length < 5864062014805 then (if x10 < (x1.length : Int) then ((impl_setOf.f k (rd x1 x10)).bind fun t379 => (if x371001.length < 5864062014805 then (impl_pairs.l0 k x0 x1 x9 (wrap64 (x10 + 1)) (x371000 ++ [t372]) (x371001 ++ [t379])) else (none))) else (none)) else (none))) else (none)) else (none)) else (some (x371000, x371001))
def impl_pairs.f (k : Nat) (l0 : List Int) (l1 : List Int) : Option ((List (List Int)) × (List (List Int))) := impl_pairs.l0 k l0 l1 (l0.length : Int) 0 ([] : List (List Int)) ([] : List (List Int))
def impl_pairs.T5 : Bool × List (List Nat × List Nat) := (true, [([], []), ([0], [0]), ([], []), ([], []), ([2, 3], [2, 3]), ([4], [4]), ([5], [5]), ([6], [6]), ([1, 7, 6], [1, 7]), ([0, 1, 2, 3, 4, 5, 6, 7, 8], []), ([9, 8, 8, 0, 1, 2, 3, 4, 5, 6, 7, 8], [8, 9])])
def impl_pairs.B5 : List Nat := [0, 1, 0, 0, 12, 28, 60, 124, 255, 511, 1023]
theorem impl_pairs.tab5 : rtab .any (opsOf Tryz.f134 5) = impl_pairs.T5 := by kernel_rfl
theorem impl_pairs.bits5 : waitsOk impl_pairs.T5.2 impl_pairs.B5 = true := by kernel_rfl
def impl_pairs.T6 : Bool × List (List Nat × List Nat) := (true, [([], []), ([0], [0]), ([], []), ([], []), ([2, 3], [2, 3]), ([4], [4]), ([5], [5]), ([6], [6]), ([1, 7, 6], [1, 7]), ([0, 1, 2, 3, 4, 5, 6, 7, 8], []), ([9, 8, 8, 0, 1, 2, 3, 4, 5, 6, 7, 8], [8, 9])])
def impl_pairs.B6 : List Nat := [0, 1, 0, 0, 12, 28, 60, 124, 255, 511, 1023]
theorem impl_pairs.tab6 : rtab .any (opsOf Tryz.f134 6) = impl_pairs.T6 := by kernel_rfl
theorem impl_pairs.bits6 : waitsOk impl_pairs.T6.2 impl_pairs.B6 = true := by kernel_rfl
set_option maxHeartbeats 8000000 in
set_option maxRecDepth 100000 in
theorem impl_pairs.calls (k : Nat) (A0 : Option Addr) (c0 : Nat) (l0 : List Int) (A1 : Option Addr) (c1 : Nat) (l1 : List Int) (r1 : List (List Int)) (r2 : List (List Int)) (w : World) (hr0 : Kd.C (Kd.int .i64) w A0 l0.length l0) (hc0 : l0.length ≤ c0) (hr1 : Kd.C (Kd.int .i64) w A1 l1.length l1) (hc1 : l1.length ≤ c1) (h : impl_pairs.f k l0 l1 = some (r1, r2)) :
  Calls Tryz.prog 134 #[.slice A0 l0.length c0, .slice A1 l1.length c1] w fun e w' => ∃ v0_ v1_ : Value, e = .returned (.agg #[v0_, v1_]) ∧ ∃ ow_ : Nat → Bool, Kd.S (Kd.slice 3 (Kd.int .i64)) 65 w' w.heap.size (fun k_ => ow_ k_ = true) v0_ r1 ∧ Kd.S (Kd.slice 3 (Kd.int .i64)) 65 w' w.heap.size (fun k_ => ow_ k_ = false) v1_ r2 ∧ Below w.heap.size w w' := by
 have hu86 := Tryz.underlying86
 have HR0 := Aside0.mk hr0
 have HC0 := Aside0.mk hc0
 clear hr0 hc0
 have HR1 := Aside0.mk hr1
 have HC1 := Aside0.mk hc1
 clear hr1 hc1
 have HB := Aside0.mk (Below.refl w.heap.size w)
 have H : (impl_pairs.l0 k l0 l1 (l0.length : Int) 0 ([] : List (List Int)) ([] : List (List Int))) = some (r1, r2) := h
 clear h
 have H' := Aside0.mk H
 clear H
 go_enter Tryz.func134, Tryz.ntmps134
 go_wp2_with (first | ((with_reducible refine gate_dst (N := 4) rfl ?_); refine zq 4 #[.slice none 0 0, .slice none 0 0] 86 ?_; intro gb369 hg w3 hbox hb; have n2_ := Aside0.mk ((by rw [hg]; exact (below_size (zh HB.out)) : w.heap.size ≤ gb369)); replace HB := Aside0.mk (below_step (zh HB.out) hb); have BK369 := Aside0.mk hbox; have GW369 := n2_; have GE369 := n2_; clear n2_ hb hbox hg) | ((with_reducible refine gate_dst (N := 5) rfl ?_); refine zq 5 #[.slice none 0 0, .slice none 0 0] 86 ?_; intro gb370 hg w4 hbox hb; have n0_ := Aside0.mk (blk_below (g := gb369) (o := .cells #[.slice none 0 0, .slice none 0 0] 86 (0, 0)) (zb BK369.out) hb); have n1_ := Aside0.mk (below_step (zh HB.out) hb); have n2_ := Aside0.mk (hbox); have n3_ := Aside0.mk ((by rw [hg]; exact (below_size (zh HB.out)) : w.heap.size ≤ gb370)); have n4_ := Aside0.mk ((by rw [hg]; exact (below_size (zh HB.out)) : w.heap.size ≤ gb370)); have n5_ := Aside0.mk ((by rw [hg]; exact Nat.ne_of_lt (blk_lt (g := gb369) (o := .cells #[.slice none 0 0, .slice none 0 0] 86 (0, 0)) (zb BK369.out)) : gb369 ≠ gb370)); have n6_ := Aside0.mk ((by rw [hg]; exact Nat.ne_of_gt (blk_lt (g := gb369) (o := .cells #[.slice none 0 0, .slice none 0 0] 86 (0, 0)) (zb BK369.out)) : gb370 ≠ gb369)); clear BK369; clear HB; have BK369 := n0_; have HB := n1_; have BK370 := n2_; have GW370 := n3_; have GE370 := n4_; have NB369_370 := n5_; have NB370_369 := n6_; clear n0_ n1_ n2_ n3_ n4_ n5_ n6_; clear hb hbox hg; have hnb5 := NB370_369.out; have hnc5 := NB369_370.out; have hcz6_0 : w4.cell? ⟨gb370, 0, none⟩ = some (.slice none 0 0) := (blk_cell BK370.out 0).trans rfl; have hcz6_1 : w4.cell? ⟨gb370, 1, none⟩ = some (.slice none 0 0) := (blk_cell BK370.out 1).trans rfl; have hfz6_0 := blk_frozen BK370.out 0; have hfz6_1 := blk_frozen BK370.out 1))
 go_loopg [10] k (fun kq v10 w' => ∃ (x10_1 : Int) (x371000_1 : List (List Int)) (x371001_1 : List (List Int)) (u371000 : Value) (u371001 : Value) (ow_ : Nat → Bool), v10 = .int .i64 x10_1 ∧ Aside0 (impl_pairs.l0 kq l0 l1 (l0.length : Int) x10_1 x371000_1 x371001_1 = some (r1, r2)) ∧ Aside0 (kq ≤ k) ∧ Aside0 (Kd.S (Kd.slice 3 (Kd.int .i64)) 65 w' w.heap.size (fun k_ => ow_ k_ = true) u371000 x371000_1) ∧ Aside0 (Kd.S (Kd.slice 3 (Kd.int .i64)) 65 w' w.heap.size (fun k_ => ow_ k_ = false) u371001 x371001_1) ∧ Aside0 (w'.heap[gb369]? = some (.cells #[(.slice none 0 0), (.slice none 0 0)] 86 (0, 0))) ∧ Aside0 (w'.heap[gb370]? = some (.cells #[u371000, u371001] 86 (0, 0))) ∧ Aside0 (Below w.heap.size w w'))
 case atStart => exact ⟨(0), (([] : List (List Int))), (([] : List (List Int))), (.slice none 0 0), (.slice none 0 0), (fun _ => true), (by first | rfl | (simp; done) | (simp [*]; done)), H', ⟨Nat.le_refl _⟩, ⟨by first | exact Kd.S_nil _ _ _ _ _ | exact Kd.N_nil _ _ _ _ _ | exact Kd.V_nil _ _ _ _ _ | exact Kd.Q_nil _ _ _ _ _ | exact Kd.R_nil _ _ _ _ _⟩, ⟨by first | exact Kd.S_nil _ _ _ _ _ | exact Kd.N_nil _ _ _ _ _ | exact Kd.V_nil _ _ _ _ _ | exact Kd.Q_nil _ _ _ _ _ | exact Kd.R_nil _ _ _ _ _⟩, ⟨zf2 BK369.out NB369_370.out NB369_370.out⟩, ⟨by (with_reducible repeat (first | refine blk_drewN ?_ _ | refine blk_drew ?_ | refine blk_alloc ?_ _)); refine blk_put (cs := #[.slice none 0 0, .slice none 0 0]) ?_ 1 _ rfl; (with_reducible repeat (first | refine blk_drewN ?_ _ | refine blk_drew ?_ | refine blk_alloc ?_ _)); refine blk_put (cs := #[.slice none 0 0, .slice none 0 0]) ?_ 0 _ rfl; (with_reducible repeat (first | refine blk_drewN ?_ _ | refine blk_drew ?_ | refine blk_alloc ?_ _)); exact BK370.out⟩, ⟨zh HB.out⟩⟩
 case round =>
  clear H'
  try clear c1
  try clear p2
  try clear c5
  try clear hcz6_0
  try clear hcz6_1
  try clear hfz6_0
  try clear hfz6_1
  obtain ⟨x10_1, x371000_1, x371001_1, u371000, u371001, ow_, rfl, HA, HK1, HO_371000, HO_371001, BK369, BK370, HB⟩ := hrel
  cases gk with
  | zero => exact absurd HA.out (by simp [impl_pairs.l0])
  | succ k1 =>
   have H := HA.out
   clear HA
   simp only [impl_pairs.l0] at H
   by_cases c7 : x10_1 < (l0.length : Int)
   rotate_left
   ·rw [if_neg c7] at H
    have c7b0 : decide (x10_1 < (l0.length : Int)) = false := decide_eq_false c7
    clear c7
    simp only [Option.some.injEq, Prod.mk.injEq] at H
    obtain ⟨rfl, rfl⟩ := H
    have hnb28 := NB370_369.out
    have hnc28 := NB369_370.out
    have hcz29_0 : wr.cell? ⟨gb370, 0, none⟩ = some (u371000) := (blk_cell BK370.out 0).trans rfl
    have hcz29_1 : wr.cell? ⟨gb370, 1, none⟩ = some (u371001) := (blk_cell BK370.out 1).trans rfl
    have hfz29_0 := blk_frozen BK370.out 0
    have hfz29_1 := blk_frozen BK370.out 1
    obtain ⟨Ao30, co30, eo30⟩ := Kd.S_slice HO_371000.out
    subst eo30
    have hcz31_0 : wr.cell? ⟨gb369, 0, none⟩ = some (.slice none 0 0) := (blk_cell BK369.out 0).trans rfl
    have hcz31_1 : wr.cell? ⟨gb369, 1, none⟩ = some (.slice none 0 0) := (blk_cell BK369.out 1).trans rfl
    have hfz31_0 := blk_frozen BK369.out 0
    have hfz31_1 := blk_frozen BK369.out 1
    obtain ⟨Ao32, co32, eo32⟩ := Kd.S_slice HO_371001.out
    subst eo32
    go_wp2
    refine bodyPost_ret (results_cell_row rfl _ _ gb369 86 #[.slice Ao30 x371000_1.length co30, .slice Ao32 x371001_1.length co32] (0, 0) _ rfl (by (with_reducible repeat (first | refine blk_drewN ?_ _ | refine blk_drew ?_ | refine blk_alloc ?_ _)); refine blk_put (cs := #[.slice Ao30 x371000_1.length co30, .slice none 0 0]) ?_ 1 _ rfl; (with_reducible repeat (first | refine blk_drewN ?_ _ | refine blk_drew ?_ | refine blk_alloc ?_ _)); refine blk_put (cs := #[.slice none 0 0, .slice none 0 0]) ?_ 0 _ rfl; (with_reducible repeat (first | refine blk_drewN ?_ _ | refine blk_drew ?_ | refine blk_alloc ?_ _)); exact BK369.out) Tryz.underlying86 rfl (by kernel_rfl)) rfl ?_
    exact ⟨_, _, by first | rfl | (simp [*, errW_none, errW_some] <;> rfl), ow_, by (with_reducible repeat (first | apply Kd.S_alloc | apply Kd.S_drewN | apply Kd.S_drew)); exact Kd.S_mono (Kd.S_far (p := ⟨gb369, 1, none⟩) (Kd.S_far (p := ⟨gb369, 0, none⟩) (Kd.S_types HO_371000.out BK369.out (by decide)) (fun _ hk => hk.2) (.slice Ao30 x371000_1.length co30)) (fun _ hk => hk.2) (.slice Ao32 x371001_1.length co32)) (fun _ hk => hk.1), by (with_reducible repeat (first | apply Kd.S_alloc | apply Kd.S_drewN | apply Kd.S_drew)); exact Kd.S_mono (Kd.S_far (p := ⟨gb369, 1, none⟩) (Kd.S_far (p := ⟨gb369, 0, none⟩) (Kd.S_types HO_371001.out BK369.out (by decide)) (fun _ hk => hk.2) (.slice Ao30 x371000_1.length co30)) (fun _ hk => hk.2) (.slice Ao32 x371001_1.length co32)) (fun _ hk => hk.1), zh HB.out⟩
   rw [if_pos c7] at H
   have c7b0 : decide (x10_1 < (l0.length : Int)) = true := decide_eq_true c7
   clear c7
   by_cases c8 : 0 ≤ x10_1
   rotate_left
   ·rw [if_neg c8] at H
    exact absurd H (by simp)
   rw [if_pos c8] at H
   have c8b0 : decide (0 ≤ x10_1) = true := decide_eq_true c8
   clear c8
   by_cases c9 : x10_1 < (l0.length : Int)
   rotate_left
   ·rw [if_neg c9] at H
    exact absurd H (by simp)
   rw [if_pos c9] at H
   have c9b0 : decide (x10_1 < (l0.length : Int)) = true := decide_eq_true c9
   clear c9
   replace H := Option.bind_eq_some_iff.mp H
   obtain ⟨t372, A100, H⟩ := H
   replace H : (if x371000_1.length < 5864062014805 then (if x10_1 < (l1.length : Int) then ((impl_setOf.f k1 (rd l1 x10_1)).bind fun t379 => (if x371001_1.length < 5864062014805 then (impl_pairs.l0 k1 l0 l1 (l0.length : Int) (wrap64 (x10_1 + 1)) (x371000_1 ++ [t372]) (x371001_1 ++ [t379])) else (none))) else (none)) else (none)) = some (r1, r2) := H
   have A10 := Aside0.mk A100
   clear A100
   by_cases c11 : x371000_1.length < 5864062014805
   rotate_left
   ·rw [if_neg c11] at H
    exact absurd H (by simp)
   rw [if_pos c11] at H
   have LMc11 := Aside0.mk c11
   clear c11
   obtain ⟨y375, hy375⟩ : ∃ y_ : List (List Int), y_ = (x371000_1 ++ [t372]) := ⟨_, rfl⟩
   replace H : (if x10_1 < (l1.length : Int) then ((impl_setOf.f k1 (rd l1 x10_1)).bind fun t379 => (if x371001_1.length < 5864062014805 then (impl_pairs.l0 k1 l0 l1 (l0.length : Int) (wrap64 (x10_1 + 1)) y375 (x371001_1 ++ [t379])) else (none))) else (none)) = some (r1, r2) := by first | (rw [hy375]; with_reducible exact H) | (have H2_ := (Option.bind_some _ _).symm.trans H; rw [hy375]; with_reducible exact H2_) | (have H2_ := (Option.bind_some _ _).symm.trans H; with_reducible exact H2_) | with_reducible exact H | (rw [hy375]; exact H) | exact H
   have Ny375 := Aside0.mk hy375
   clear hy375
   by_cases c12 : x10_1 < (l1.length : Int)
   rotate_left
   ·rw [if_neg c12] at H
    exact absurd H (by simp)
   rw [if_pos c12] at H
   have c12b0 : decide (x10_1 < (l1.length : Int)) = true := decide_eq_true c12
   clear c12
   replace H := Option.bind_eq_some_iff.mp H
   obtain ⟨t379, A130, H⟩ := H
   replace H : (if x371001_1.length < 5864062014805 then (impl_pairs.l0 k1 l0 l1 (l0.length : Int) (wrap64 (x10_1 + 1)) y375 (x371001_1 ++ [t379])) else (none)) = some (r1, r2) := H
   have A13 := Aside0.mk A130
   clear A130
   by_cases c14 : x371001_1.length < 5864062014805
   rotate_left
   ·rw [if_neg c14] at H
    exact absurd H (by simp)
   rw [if_pos c14] at H
   have LMc14 := Aside0.mk c14
   clear c14
   obtain ⟨y382, hy382⟩ : ∃ y_ : List (List Int), y_ = (x371001_1 ++ [t379]) := ⟨_, rfl⟩
   replace H : (impl_pairs.l0 k1 l0 l1 (l0.length : Int) (wrap64 (x10_1 + 1)) y375 y382) = some (r1, r2) := by first | (rw [hy382]; with_reducible exact H) | (have H2_ := (Option.bind_some _ _).symm.trans H; rw [hy382]; with_reducible exact H2_) | (have H2_ := (Option.bind_some _ _).symm.trans H; with_reducible exact H2_) | with_reducible exact H | (rw [hy382]; exact H) | exact H
   have Ny382 := Aside0.mk hy382
   clear hy382
   have H' := Aside0.mk H
   clear H
   try go_wp2
   have n0_ := Aside0.mk (Kd.S_drew HO_371000.out)
   have n1_ := Aside0.mk (Kd.S_drew HO_371001.out)
   have n2_ := Aside0.mk (blk_drew BK369.out)
   have n3_ := Aside0.mk (blk_drew BK370.out)
   have n4_ := Aside0.mk (below_drew1 HB.out)
   clear HO_371000
   clear HO_371001
   clear BK369
   clear BK370
   clear HB
   have HO_371000 := n0_
   have HO_371001 := n1_
   have BK369 := n2_
   have BK370 := n3_
   have HB := n4_
   clear n0_ n1_ n2_ n3_ n4_
   have p371 : 0 ≤ (x10_1 : Int) := zk
   have q371 : x10_1 < (l0.length : Int) := zk
   obtain ⟨ad371, e371, hx371_0⟩ := Kd.at_int HR0.out x10_1 p371 q371
   have hw371_0 := hx371_0
   cases e371
   replace hx371_0 := zx HB.out hx371_0
   replace p371 := eq_true p371
   replace q371 := eq_true q371
   refine start_ (n := 11) (S := fun w' => w'.cell? ⟨gb370, 0, none⟩ = some (u371000) ∧ w'.cell? ⟨gb370, 1, none⟩ = some (u371001) ∧ w'.cell? (ad371.add (x10_1).toNat) = some (.int .i64 (rd l0 x10_1))) (ds := [10]) (tb 11 0) (by kernel_rfl) rfl rfl ⟨(blk_cell BK370.out 0).trans rfl, (blk_cell BK370.out 1).trans rfl, ((HB.out.cell (World.block_lt_of_cell? w _ hw371_0)).trans hw371_0)⟩ (fun hHeld => ?_); refine with_tabW impl_pairs.tab5 impl_pairs.bits5 (fun HT_ HW_ => ?_)
   generalize wr.drew = w15 at HO_371000 HO_371001 BK369 BK370 HB hx371_0 hHeld ⊢
   refine zu (i := 0) (N := some 13) (tb 11 1) rfl rfl HT_ ?_
   refine zu (i := 2) (N := some 15) (tb 11 5) rfl rfl HT_ ?_
   refine zu (i := 3) (N := some 16) (tb 11 13) rfl rfl HT_ ?_
   refine zu (i := 4) (N := some 17) (tb 11 29) rfl rfl HT_ ?_
   refine zt (i := 1) (N := some 14) (tb 11 31) rfl rfl (take_ofW HT_.out HW_.out (by kernel_rfl)) hHeld ?_
   refine zt (i := 5) (N := some 18) (tb 11 63) rfl rfl (take_ofW HT_.out HW_.out (by kernel_rfl)) hHeld ?_
   refine one_ (i := 6) (N := some 19) (tb 11 127) rfl rfl (one_of HT_.out (by kernel_rfl)) (by decide) (fun K hK => ?_)
   refine goes_ Tryz.func158 (by kernel_rfl) rfl #[.int .i64 (rd l0 x10_1)] (by rfl) rfl rfl (by (try simp only [List.map_toArray, List.map_cons, List.map_nil]); first | done | rfl | (simp only [List.length_drop, List.length_take]; rfl)) ?_
   with_reducible refine (impl_setOf.calls k1 (rd l0 x10_1) t372 _ A10.out).mono ?_
   rintro e w16 ⟨v373, rfl, ho0, hb⟩
   refine ⟨_, rfl, ?_⟩
   have n0_ := Aside0.mk (Kd.S_elder' (by (with_reducible repeat (first | apply Kd.S_alloc | apply Kd.S_drewN | apply Kd.S_drew)); exact HO_371000.out) (Kd.R_base ho0) hb)
   have n1_ := Aside0.mk (Kd.S_elder' (by (with_reducible repeat (first | apply Kd.S_alloc | apply Kd.S_drewN | apply Kd.S_drew)); exact HO_371001.out) (Kd.R_base ho0) hb)
   have n2_ := Aside0.mk (Kd.R_lower ho0 (below_size (zh HB.out)))
   have n3_ := Aside0.mk (blk_below (g := gb369) (o := .cells #[.slice none 0 0, .slice none 0 0] 86 (0, 0)) (zb BK369.out) hb)
   have n4_ := Aside0.mk (blk_below (g := gb370) (o := .cells #[u371000, u371001] 86 (0, 0)) (zb BK370.out) hb)
   have n5_ := Aside0.mk (below_step (zh HB.out) hb)
   clear HO_371000
   clear HO_371001
   clear BK369
   clear BK370
   clear HB
   have HO_371000 := n0_
   have HO_371001 := n1_
   have HO374 := n2_
   have BK369 := n3_
   have BK370 := n4_
   have HB := n5_
   clear n0_ n1_ n2_ n3_ n4_ n5_
   (try clear hb)
   (try clear hb2)
   (try clear hk)
   (try clear hi)
   (try clear ho0)
   obtain ⟨Ao18, co18, eo18⟩ := Kd.R_slice HO374.out
   (first | subst eo18 | (injection eo18 with f1_ f2_ f3_; have f4_ := f1_.symm; have f5_ := f3_.symm; clear f1_ f2_ f3_; subst f4_; subst f5_))
   refine hK.out _ _ ⟨(blk_cell BK370.out 0).trans rfl, (blk_cell BK370.out 1).trans rfl, ((HB.out.cell (World.block_lt_of_cell? w _ hw371_0)).trans hw371_0)⟩ (fun hHeld => ?_)
   clear hK K
   refine zn1 ?_
   refine one_ (i := 7) (N := some 20) (tb 11 255) rfl rfl (one_of HT_.out (by kernel_rfl)) (by decide) (fun K hK => ?_)
   refine value_ (w1 := ?_) (v := ?_) (by rfl) rfl ?_ ?_
   rotate_left 2
   ·go_simp
    constructor
    ·rfl
    ·rfl
   refine hK.out _ _ ⟨(blk_cell (blk_alloc BK370.out _) 0).trans rfl, (blk_cell (blk_alloc BK370.out _) 1).trans rfl, (World.cell?_alloc_lt _ _ _ (World.block_lt_of_cell? _ _ (((HB.out.cell (World.block_lt_of_cell? w _ hw371_0)).trans hw371_0)))).trans (((HB.out.cell (World.block_lt_of_cell? w _ hw371_0)).trans hw371_0))⟩ (fun hHeld => ?_)
   clear hK K
   refine zn1 ?_
   refine one_ (i := 8) (N := some 21) (tb 11 511) rfl rfl (one_of HT_.out (by kernel_rfl)) (by decide) (fun K hK => ?_)
   refine Kd.S_append_step (Kd.slice 3 (Kd.int .i64)) (w0 := w) w.heap.size (by rfl) (.tmp 14) (.tmp 20) 22 65 (.slice none 0 0) 24 rfl Tryz.underlying22 info65 rfl (by decide) (by omega) u371000 x371000_1 t372 [.slice Ao18 t372.length co18] (fun k_ => ow2 (ow_) w16.heap.size (.slice Ao18 t372.length co18) true k_ = true) (fun k_ => some k_ = (.slice Ao18 t372.length co18 : Value).ownBlock) rfl rfl ?aP (fun k_ hk_ => ⟨ow2_row hk_, ((Kd.R_apart' HO374.out (Kd.S_typed HO_371000.out) (by decide)).1 k_ hk_.symm).2⟩) ?aF ?aO ?aB ?aS ?aL ?_
   (case aP => exact Kd.M_row (Kd.R_tight rfl HO374.out))
   (case aB => exact (zh HB.out))
   (case aF => exact (fun k_ hk => ow2_new hk))
   (case aO => exact (by (with_reducible repeat (first | apply Kd.S_alloc | apply Kd.S_drewN | apply Kd.S_drew)); exact ow2_a HO_371000.out))
   (case aS => exact (below_size (zh HB.out)))
   (case aL => have := LMc11.out; omega)
   intro v376 w17 ho hb hg hat
   rw [← Ny375.out] at ho
   have n0_ := Aside0.mk (ow2_b (by decide) HO_371001.out (fun k hk => (S_ownOk HO_371000.out k hk).1) hg)
   have n1_ := Aside0.mk (blk_grown (g := gb369) (o := .cells #[.slice none 0 0, .slice none 0 0] 86 (0, 0)) (zb BK369.out) hg (Kd.S_ne HO_371000.out BK369.out (by decide)))
   have n2_ := Aside0.mk (blk_grown (g := gb370) (o := .cells #[u371000, u371001] 86 (0, 0)) (zb BK370.out) hg (Kd.S_ne HO_371000.out BK370.out (by decide)))
   have n3_ := Aside0.mk (hb)
   have n4_ := Aside0.mk (ho)
   clear HO_371001
   clear BK369
   clear BK370
   clear HB
   clear HO_371000
   clear HO374
   have HO_371001 := n0_
   have BK369 := n1_
   have BK370 := n2_
   have HB := n3_
   have HO377 := n4_
   clear n0_ n1_ n2_ n3_ n4_
   clear ho hb hg hat
   obtain ⟨Ao19, co19, eo19⟩ := Kd.S_slice HO377.out
   (first | subst eo19 | (injection eo19 with f1_ f2_ f3_; have f4_ := f1_.symm; have f5_ := f3_.symm; clear f1_ f2_ f3_; subst f4_; subst f5_))
   refine hK.out _ _ ⟨(blk_cell BK370.out 0).trans rfl, (blk_cell BK370.out 1).trans rfl, ((HB.out.cell (World.block_lt_of_cell? w _ hw371_0)).trans hw371_0)⟩ (fun hHeld => ?_)
   clear hK K
   refine zn1 ?_
   refine zu (i := 9) (N := some 22) (tb 11 1023) rfl rfl HT_ ?_
   refine last_ (i := 10) (N := none) (tb 11 2047) rfl rfl (one_of HT_.out (by kernel_rfl)) (by decide) (fun K hK => ?_)
   have hs20 : w17.cell? ⟨gb370, 0, none⟩ = some (u371000) := (blk_cell BK370.out 0).trans rfl
   have hfs20 := blk_frozen BK370.out 0
   have hns20_0 := NB369_370.out
   have hms20_0 := NB370_369.out
   refine skip_ (w1 := ?_) (by rfl) rfl ?_ ?_
   rotate_left
   ·go_simp
    rfl
   refine hK.out _ _ ?_
   clear hK K
   refine done_ (done_of HT_.out (by kernel_rfl)) ?_
   try go_wp2
   have n0_ : Aside0 (Kd.S (Kd.slice 3 (Kd.int .i64)) 65 (w17.setCell ⟨gb370, 0, none⟩ (.slice Ao19 y375.length co19)) w.heap.size (fun k_ => ow2 (ow_) w16.heap.size (.slice Ao18 t372.length co18) true k_ = false) u371001 x371001_1) := ⟨by (with_reducible repeat (first | apply Kd.S_alloc | apply Kd.S_drewN | apply Kd.S_drew)); exact Kd.S_mono (Kd.S_far (p := ⟨gb370, 0, none⟩) (Kd.S_types HO_371001.out BK370.out (by decide)) (fun _ hk => hk.2) (.slice Ao19 y375.length co19)) (fun _ hk => hk.1)⟩
   have n1_ : Aside0 (Kd.S (Kd.slice 3 (Kd.int .i64)) 65 (w17.setCell ⟨gb370, 0, none⟩ (.slice Ao19 y375.length co19)) w.heap.size (fun k_ => ow2 (ow_) w16.heap.size (.slice Ao18 t372.length co18) true k_ = true) (.slice Ao19 y375.length co19) y375) := ⟨by (with_reducible repeat (first | apply Kd.S_alloc | apply Kd.S_drewN | apply Kd.S_drew)); exact Kd.S_mono (Kd.S_far (p := ⟨gb370, 0, none⟩) (Kd.S_types HO377.out BK370.out (by decide)) (fun _ hk => hk.2) (.slice Ao19 y375.length co19)) (fun _ hk => hk.1)⟩
   have n2_ : Aside0 ((w17.setCell ⟨gb370, 0, none⟩ (.slice Ao19 y375.length co19)).heap[gb369]? = some (.cells #[.slice none 0 0, .slice none 0 0] 86 (0, 0))) := ⟨zf1 BK369.out NB369_370.out⟩
   have n3_ : Aside0 ((w17.setCell ⟨gb370, 0, none⟩ (.slice Ao19 y375.length co19)).heap[gb370]? = some (.cells #[.slice Ao19 y375.length co19, u371001] 86 (0, 0))) := ⟨by (with_reducible repeat (first | refine blk_drewN ?_ _ | refine blk_drew ?_ | refine blk_alloc ?_ _)); refine blk_put (cs := #[u371000, u371001]) ?_ 0 _ rfl; (with_reducible repeat (first | refine blk_drewN ?_ _ | refine blk_drew ?_ | refine blk_alloc ?_ _)); exact BK370.out⟩
   have n4_ : Aside0 (Below w.heap.size w (w17.setCell ⟨gb370, 0, none⟩ (.slice Ao19 y375.length co19))) := ⟨zh HB.out⟩
   (try clear HO_371001)
   (try clear HO377)
   (try clear BK369)
   (try clear BK370)
   (try clear HB)
   generalize (w17.setCell ⟨gb370, 0, none⟩ (.slice Ao19 y375.length co19)) = w21 at n0_ n1_ n2_ n3_ n4_ ⊢
   have HO_371001 := n0_
   have HO377 := n1_
   have BK369 := n2_
   have BK370 := n3_
   have HB := n4_
   clear n0_ n1_ n2_ n3_ n4_
   have n0_ := Aside0.mk (Kd.S_drew HO_371001.out)
   have n1_ := Aside0.mk (Kd.S_drew HO377.out)
   have n2_ := Aside0.mk (blk_drew BK369.out)
   have n3_ := Aside0.mk (blk_drew BK370.out)
   have n4_ := Aside0.mk (below_drew1 HB.out)
   clear HO_371001
   clear HO377
   clear BK369
   clear BK370
   clear HB
   have HO_371001 := n0_
   have HO377 := n1_
   have BK369 := n2_
   have BK370 := n3_
   have HB := n4_
   clear n0_ n1_ n2_ n3_ n4_
   have p378 : 0 ≤ (x10_1 : Int) := zk
   have q378 : x10_1 < (l1.length : Int) := zk
   obtain ⟨ad378, e378, hx378_0⟩ := Kd.at_int HR1.out x10_1 p378 q378
   have hw378_0 := hx378_0
   cases e378
   replace hx378_0 := zx HB.out hx378_0
   replace p378 := eq_true p378
   replace q378 := eq_true q378
   refine start_ (n := 11) (S := fun w' => w'.cell? ⟨gb370, 0, none⟩ = some (.slice Ao19 y375.length co19) ∧ w'.cell? ⟨gb370, 1, none⟩ = some (u371001) ∧ w'.cell? (ad378.add (x10_1).toNat) = some (.int .i64 (rd l1 x10_1))) (ds := [10]) (tb 11 0) (by kernel_rfl) rfl rfl ⟨(blk_cell BK370.out 0).trans rfl, (blk_cell BK370.out 1).trans rfl, ((HB.out.cell (World.block_lt_of_cell? w _ hw378_0)).trans hw378_0)⟩ (fun hHeld => ?_); refine with_tabW impl_pairs.tab6 impl_pairs.bits6 (fun HT_ HW_ => ?_)
   generalize w21.drew = w22 at HO_371001 HO377 BK369 BK370 HB hx378_0 hHeld ⊢
   refine zu (i := 0) (N := some 23) (tb 11 1) rfl rfl HT_ ?_
   refine zu (i := 2) (N := some 25) (tb 11 5) rfl rfl HT_ ?_
   refine zu (i := 3) (N := some 26) (tb 11 13) rfl rfl HT_ ?_
   refine zu (i := 4) (N := some 27) (tb 11 29) rfl rfl HT_ ?_
   refine zt (i := 1) (N := some 24) (tb 11 31) rfl rfl (take_ofW HT_.out HW_.out (by kernel_rfl)) hHeld ?_
   refine zt (i := 5) (N := some 28) (tb 11 63) rfl rfl (take_ofW HT_.out HW_.out (by kernel_rfl)) hHeld ?_
   refine one_ (i := 6) (N := some 29) (tb 11 127) rfl rfl (one_of HT_.out (by kernel_rfl)) (by decide) (fun K hK => ?_)
   refine goes_ Tryz.func158 (by kernel_rfl) rfl #[.int .i64 (rd l1 x10_1)] (by rfl) rfl rfl (by (try simp only [List.map_toArray, List.map_cons, List.map_nil]); first | done | rfl | (simp only [List.length_drop, List.length_take]; rfl)) ?_
   with_reducible refine (impl_setOf.calls k1 (rd l1 x10_1) t379 _ A13.out).mono ?_
   rintro e w23 ⟨v380, rfl, ho0, hb⟩
   refine ⟨_, rfl, ?_⟩
   have n0_ := Aside0.mk (Kd.S_elder' (by (with_reducible repeat (first | apply Kd.S_alloc | apply Kd.S_drewN | apply Kd.S_drew)); exact HO_371001.out) (Kd.R_base ho0) hb)
   have n1_ := Aside0.mk (Kd.S_elder' (by (with_reducible repeat (first | apply Kd.S_alloc | apply Kd.S_drewN | apply Kd.S_drew)); exact HO377.out) (Kd.R_base ho0) hb)
   have n2_ := Aside0.mk (Kd.R_lower ho0 (below_size (zh HB.out)))
   have n3_ := Aside0.mk (blk_below (g := gb369) (o := .cells #[.slice none 0 0, .slice none 0 0] 86 (0, 0)) (zb BK369.out) hb)
   have n4_ := Aside0.mk (blk_below (g := gb370) (o := .cells #[.slice Ao19 y375.length co19, u371001] 86 (0, 0)) (zb BK370.out) hb)
   have n5_ := Aside0.mk (below_step (zh HB.out) hb)
   clear HO_371001
   clear HO377
   clear BK369
   clear BK370
   clear HB
   have HO_371001 := n0_
   have HO377 := n1_
   have HO381 := n2_
   have BK369 := n3_
   have BK370 := n4_
   have HB := n5_
   clear n0_ n1_ n2_ n3_ n4_ n5_
   (try clear hb)
   (try clear hb2)
   (try clear hk)
   (try clear hi)
   (try clear ho0)
   obtain ⟨Ao25, co25, eo25⟩ := Kd.R_slice HO381.out
   (first | subst eo25 | (injection eo25 with f1_ f2_ f3_; have f4_ := f1_.symm; have f5_ := f3_.symm; clear f1_ f2_ f3_; subst f4_; subst f5_))
   refine hK.out _ _ ⟨(blk_cell BK370.out 0).trans rfl, (blk_cell BK370.out 1).trans rfl, ((HB.out.cell (World.block_lt_of_cell? w _ hw378_0)).trans hw378_0)⟩ (fun hHeld => ?_)
   clear hK K
   refine zn1 ?_
   refine one_ (i := 7) (N := some 30) (tb 11 255) rfl rfl (one_of HT_.out (by kernel_rfl)) (by decide) (fun K hK => ?_)
   refine value_ (w1 := ?_) (v := ?_) (by rfl) rfl ?_ ?_
   rotate_left 2
   ·go_simp
    constructor
    ·rfl
    ·rfl
   refine hK.out _ _ ⟨(blk_cell (blk_alloc BK370.out _) 0).trans rfl, (blk_cell (blk_alloc BK370.out _) 1).trans rfl, (World.cell?_alloc_lt _ _ _ (World.block_lt_of_cell? _ _ (((HB.out.cell (World.block_lt_of_cell? w _ hw378_0)).trans hw378_0)))).trans (((HB.out.cell (World.block_lt_of_cell? w _ hw378_0)).trans hw378_0))⟩ (fun hHeld => ?_)
   clear hK K
   refine zn1 ?_
   refine one_ (i := 8) (N := some 31) (tb 11 511) rfl rfl (one_of HT_.out (by kernel_rfl)) (by decide) (fun K hK => ?_)
   refine Kd.S_append_step (Kd.slice 3 (Kd.int .i64)) (w0 := w) w.heap.size (by rfl) (.tmp 24) (.tmp 30) 22 65 (.slice none 0 0) 24 rfl Tryz.underlying22 info65 rfl (by decide) (by omega) u371001 x371001_1 t379 [.slice Ao25 t379.length co25] (fun k_ => ow2 (ow2 (ow_) w16.heap.size (.slice Ao18 t372.length co18) true) w23.heap.size (.slice Ao25 t379.length co25) false k_ = false) (fun k_ => some k_ = (.slice Ao25 t379.length co25 : Value).ownBlock) rfl rfl ?aP (fun k_ hk_ => ⟨ow2_row hk_, ((Kd.R_apart' HO381.out (Kd.S_typed HO_371001.out) (by decide)).1 k_ hk_.symm).2⟩) ?aF ?aO ?aB ?aS ?aL ?_
   (case aP => exact Kd.M_row (Kd.R_tight rfl HO381.out))
   (case aB => exact (zh HB.out))
   (case aF => exact (fun k_ hk => ow2_new hk))
   (case aO => exact (by (with_reducible repeat (first | apply Kd.S_alloc | apply Kd.S_drewN | apply Kd.S_drew)); exact ow2_a HO_371001.out))
   (case aS => exact (below_size (zh HB.out)))
   (case aL => have := LMc14.out; omega)
   intro v383 w24 ho hb hg hat
   rw [← Ny382.out] at ho
   have n0_ := Aside0.mk (blk_grown (g := gb369) (o := .cells #[.slice none 0 0, .slice none 0 0] 86 (0, 0)) (zb BK369.out) hg (Kd.S_ne HO_371001.out BK369.out (by decide)))
   have n1_ := Aside0.mk (blk_grown (g := gb370) (o := .cells #[.slice Ao19 y375.length co19, u371001] 86 (0, 0)) (zb BK370.out) hg (Kd.S_ne HO_371001.out BK370.out (by decide)))
   have n2_ := Aside0.mk (ow2_b (by decide) HO377.out (fun k hk => (S_ownOk HO_371001.out k hk).1) hg)
   have n3_ := Aside0.mk (hb)
   have n4_ := Aside0.mk (ho)
   clear BK369
   clear BK370
   clear HO377
   clear HB
   clear HO_371001
   clear HO381
   have BK369 := n0_
   have BK370 := n1_
   have HO377 := n2_
   have HB := n3_
   have HO384 := n4_
   clear n0_ n1_ n2_ n3_ n4_
   clear ho hb hg hat
   obtain ⟨Ao26, co26, eo26⟩ := Kd.S_slice HO384.out
   (first | subst eo26 | (injection eo26 with f1_ f2_ f3_; have f4_ := f1_.symm; have f5_ := f3_.symm; clear f1_ f2_ f3_; subst f4_; subst f5_))
   refine hK.out _ _ ⟨(blk_cell BK370.out 0).trans rfl, (blk_cell BK370.out 1).trans rfl, ((HB.out.cell (World.block_lt_of_cell? w _ hw378_0)).trans hw378_0)⟩ (fun hHeld => ?_)
   clear hK K
   refine zn1 ?_
   refine zu (i := 9) (N := some 32) (tb 11 1023) rfl rfl HT_ ?_
   refine last_ (i := 10) (N := none) (tb 11 2047) rfl rfl (one_of HT_.out (by kernel_rfl)) (by decide) (fun K hK => ?_)
   have hs27 : w24.cell? ⟨gb370, 1, none⟩ = some (u371001) := (blk_cell BK370.out 1).trans rfl
   have hfs27 := blk_frozen BK370.out 1
   have hns27_0 := NB369_370.out
   have hms27_0 := NB370_369.out
   refine skip_ (w1 := ?_) (by rfl) rfl ?_ ?_
   rotate_left
   ·go_simp
    rfl
   refine hK.out _ _ ?_
   clear hK K
   refine done_ (done_of HT_.out (by kernel_rfl)) ?_
   try go_wp2
   go_roundg k1
   case measure => have := HK1.out; omega
   case rel => exact ⟨(wrap64 (x10_1 + 1)), (y375), (y382), (.slice Ao19 y375.length co19), (.slice Ao26 y382.length co26), (ow2 (ow2 (ow_) w16.heap.size (.slice Ao18 t372.length co18) true) w23.heap.size (.slice Ao25 t379.length co25) false), (by first | rfl | (simp; done) | (simp [*]; done)), H', ⟨by have := HK1.out; omega⟩, ⟨by (with_reducible repeat (first | apply Kd.S_alloc | apply Kd.S_drewN | apply Kd.S_drew)); exact Kd.S_mono (Kd.S_far (p := ⟨gb370, 1, none⟩) (Kd.S_types HO377.out BK370.out (by decide)) (fun _ hk => hk.2) (.slice Ao26 y382.length co26)) (fun _ hk => hk.1)⟩, ⟨by (with_reducible repeat (first | apply Kd.S_alloc | apply Kd.S_drewN | apply Kd.S_drew)); exact Kd.S_mono (Kd.S_far (p := ⟨gb370, 1, none⟩) (Kd.S_types HO384.out BK370.out (by decide)) (fun _ hk => hk.2) (.slice Ao26 y382.length co26)) (fun _ hk => hk.1)⟩, ⟨zf1 BK369.out NB369_370.out⟩, ⟨by (with_reducible repeat (first | refine blk_drewN ?_ _ | refine blk_drew ?_ | refine blk_alloc ?_ _)); refine blk_put (cs := #[.slice Ao19 y375.length co19, u371001]) ?_ 1 _ rfl; (with_reducible repeat (first | refine blk_drewN ?_ _ | refine blk_drew ?_ | refine blk_alloc ?_ _)); exact BK370.out⟩, ⟨zh HB.out⟩⟩
end Go.Proofs.YtmbkmabpebjboaaGreat.Q
end
section
namespace Go.Proofs.YtmbkmabpebjboaaGreat.Q
open Go.RowKit Go.Proofs.YtmbkmabpebjboaaGreatW.PrintWords Go.Proofs.YtmbkmabpebjboaaGreatW.PrintLast Go.Proofs.YtmbkmabpebjboaaGreatW.PrintMore
set_option linter.unusedVariables false
set_option linter.unusedSimpArgs false
theorem ordered_1.pred (w : World) : PredI Tryz.prog 156 #[] #[] w (fun _ => some true) := by
  intro W x b hb hp
  obtain rfl := Option.some.inj hp
  show Calls Tryz.prog 156 #[.int .i64 x] W _
  clear hp
  go_enter Tryz.func156, Tryz.ntmps156
  go_wp2
  go_ret
  exact ⟨rfl, Below.refl _ _⟩
def setsAll.f (k : Nat) (a0_0 : Int) (l0_1 : List Bool) : Option (List (List Int)) := impl_votes_sets.f k a0_0 l0_1 (fun _ => some true)
theorem setsAll.calls (k : Nat) (a0_0 : Int) (A0_1 : Option Addr) (c0_1 : Nat) (l0_1 : List Bool) (r : List (List Int)) (w : World) (hr0_1 : Kd.C Kd.bool w A0_1 l0_1.length l0_1) (hc0_1 : l0_1.length ≤ c0_1) (h : setsAll.f k a0_0 l0_1 = some r) :
    Calls Tryz.prog 144 #[.agg #[.int .i64 a0_0, .slice A0_1 l0_1.length c0_1], .func (.func 156) #[] #[]] w fun e w' => ∃ v0_ : Value, e = .returned v0_ ∧ Kd.S (Kd.slice 3 (Kd.int .i64)) 65 w' w.heap.size (fun _ => True) v0_ r ∧ Below w.heap.size w w' :=
  impl_votes_sets.calls k a0_0 A0_1 c0_1 l0_1 _ 156 #[] #[] (enters_of Tryz.func156 (by kernel_rfl) rfl) r w (ordered_1.pred w) hr0_1 hc0_1 h
end Go.Proofs.YtmbkmabpebjboaaGreat.Q
end
section
namespace Go.Proofs.YtmbkmabpebjboaaGreat.Q
open Go.RowKit Go.Proofs.YtmbkmabpebjboaaGreatW.PrintWords Go.Proofs.YtmbkmabpebjboaaGreatW.PrintLast Go.Proofs.YtmbkmabpebjboaaGreatW.PrintMore
attribute [local go_sem] max2_int min2_int max_two min_two max_three min_three max_four min_four
set_option linter.unusedVariables false
set_option linter.unusedSimpArgs false
def impl_votes_ordered.l0 : Nat → List Int → List (List Int) → Int → Int → Option (List Int)
 | 0, _, _, _, _ => none
 | k + 1, x3, x8, x9, x10 => if x10 < x9 then (if 0 ≤ x10 then (if x10 < (x8.length : Int) then ((impl_maskOf.f k (rd_L1 x8 x10)).bind fun t363 => (if x3.length < 17592186044416 then (impl_votes_ordered.l0 k (x3 ++ [t363]) x8 x9 (wrap64 (x10 + 1))) else (none))) else (none)) else (none)) else (some x3)
def impl_votes_ordered.f (k : Nat) (a0_0 : Int) (l0_1 : List Bool) : Option (List Int) := (setsAll.f k a0_0 l0_1).bind fun t359 => (impl_votes_ordered.l0 k (([] : List Int)) t359 (t359.length : Int) 0)
set_option maxHeartbeats 8000000 in
set_option maxRecDepth 100000 in
theorem impl_votes_ordered.calls (k : Nat) (a0_0 : Int) (A0_1 : Option Addr) (c0_1 : Nat) (l0_1 : List Bool) (r : List Int) (w : World) (hr0_1 : Kd.C Kd.bool w A0_1 l0_1.length l0_1) (hc0_1 : l0_1.length ≤ c0_1) (h : impl_votes_ordered.f k a0_0 l0_1 = some r) :
  Calls Tryz.prog 132 #[.agg #[.int .i64 a0_0, .slice A0_1 l0_1.length c0_1]] w fun e w' => ∃ v0_ : Value, e = .returned (v0_) ∧ Kd.R (Kd.int .i64) 3 w' w.heap.size (fun _ => True) v0_ r ∧ Below w.heap.size w w' := by
 have hu61 := Tryz.underlying61
 have HR0_1 := Aside0.mk hr0_1
 have HC0_1 := Aside0.mk hc0_1
 clear hr0_1 hc0_1
 have HB := Aside0.mk (Below.refl w.heap.size w)
 have H : ((setsAll.f k a0_0 l0_1).bind fun t359 => (impl_votes_ordered.l0 k (([] : List Int)) t359 (t359.length : Int) 0)) = some r := h
 clear h
 obtain ⟨y356, hy356⟩ : ∃ y_ : List Int, y_ = (([] : List Int)) := ⟨_, rfl⟩
 replace H : ((setsAll.f k a0_0 l0_1).bind fun t359 => (impl_votes_ordered.l0 k y356 t359 (t359.length : Int) 0)) = some r := by first | (rw [hy356]; with_reducible exact H) | (have H2_ := (Option.bind_some _ _).symm.trans H; rw [hy356]; with_reducible exact H2_) | (have H2_ := (Option.bind_some _ _).symm.trans H; with_reducible exact H2_) | with_reducible exact H | (rw [hy356]; exact H) | exact H
 have Ny356 := Aside0.mk hy356
 clear hy356
 replace H := Option.bind_eq_some_iff.mp H
 obtain ⟨t359, A20, H⟩ := H
 replace H : (impl_votes_ordered.l0 k y356 t359 (t359.length : Int) 0) = some r := H
 have A2 := Aside0.mk A20
 clear A20
 have H' := Aside0.mk H
 clear H
 go_enter Tryz.func132, Tryz.ntmps132
 go_wp2_with (first | ((with_reducible refine gate_dst (N := 1) rfl ?_); refine zq 1 #[.int .i64 a0_0, .slice A0_1 l0_1.length c0_1] 61 ?_; intro gb355 hg w3 hbox hb; have n2_ := Aside0.mk ((by rw [hg]; exact (below_size (zh HB.out)) : w.heap.size ≤ gb355)); replace HB := Aside0.mk (below_step (zh HB.out) hb); have BK355 := Aside0.mk hbox; have GW355 := n2_; have GE355 := n2_; clear n2_ hb hbox hg) | ((with_reducible refine gate_dst (N := 6) rfl ?_); refine Kd.R_lit (Kd.int .i64) _ 3 ?hg (N := 6) ?hd (xs := ([] : List Int)) (inner := []) (ok := fun _ => True) (okp := fun _ => True) ?hr ?hp (fun _ hk => hk) trivial (Below.refl _ _) (Nat.le_refl _) (by simp) ?_; (case hd => rfl); (case hg => rfl); (case hr => first | (go_simp; done) | (go_simp; rfl)); (case hp => exact (Reps.none _ _)); intro v357 w4 ho5 hb hg_ hnew_; clear hg_ hnew_; (first | rw [← Ny356.out] at ho5 | (simp only [Int.reduceToNat] at ho5; rw [← Ny356.out] at ho5)); have n0_ := Aside0.mk (Kd.R_lower ho5 (below_size (zh HB.out))); have n1_ := Aside0.mk (blk_below (g := gb355) (o := .cells #[.int .i64 a0_0, .slice A0_1 l0_1.length c0_1] 61 (0, 0)) (zb BK355.out) hb); have n2_ := Aside0.mk (below_step (zh HB.out) hb); clear BK355; clear HB; have HO358 := n0_; have BK355 := n1_; have HB := n2_; clear n0_ n1_ n2_; clear hb ho5; have hcz6_0 : w4.cell? ⟨gb355, 0, none⟩ = some (.int .i64 a0_0) := (blk_cell BK355.out 0).trans rfl; have hcz6_1 : w4.cell? ⟨gb355, 1, none⟩ = some (.slice A0_1 l0_1.length c0_1) := (blk_cell BK355.out 1).trans rfl; have hfz6_0 := blk_frozen BK355.out 0; have hfz6_1 := blk_frozen BK355.out 1) | ((with_reducible refine gate_callee (f := 144) rfl ?_); refine zl 8 Tryz.func144 #[.agg #[.int .i64 a0_0, .slice A0_1 l0_1.length c0_1], .func (.func 156) #[] #[]] ?_; (with_reducible refine (setsAll.calls k a0_0 _ _ l0_1 t359 _ ?side1 ?side2 A2.out).mono ?_); (case side1 => repeat (first | exact (Kd.C_below HR0_1.out HB.out) | (with_reducible refine Kd.C_alloc ?_ _) | (with_reducible refine Kd.C_drewN ?_ _) | (with_reducible refine Kd.C_drew ?_))); (case side2 => exact HC0_1.out); rintro e w7 ⟨v360, rfl, ho0, hb⟩; refine ⟨_, rfl, ?_⟩; have n0_ := Aside0.mk (Kd.R_below (zr HO358.out) hb); have n1_ := Aside0.mk (Kd.S_lower (Kd.S_new' ho0 (Kd.R_lt (zr HO358.out))) (below_size (zh HB.out))); have n2_ := Aside0.mk (blk_below (g := gb355) (o := .cells #[.int .i64 a0_0, .slice A0_1 l0_1.length c0_1] 61 (0, 0)) (zb BK355.out) hb); have n3_ := Aside0.mk (below_step (zh HB.out) hb); clear HO358; clear BK355; clear HB; have HO358 := n0_; have HO361 := n1_; have BK355 := n2_; have HB := n3_; clear n0_ n1_ n2_ n3_; (try clear hb); (try clear hb2); (try clear hk); (try clear hi); (try clear ho0); obtain ⟨Ao8, co8, eo8⟩ := Kd.S_slice HO361.out; subst eo8))
 go_loopg [3, 10] k (fun kq v3 v10 w' => ∃ (x3_1 : List Int) (x10_1 : Int), v10 = .int .i64 x10_1 ∧ Aside0 (impl_votes_ordered.l0 kq x3_1 t359 (t359.length : Int) x10_1 = some r) ∧ Aside0 (kq ≤ k) ∧ Aside0 (Kd.R (Kd.int .i64) 3 w' w.heap.size (fun _ => True) v3 x3_1) ∧ Aside0 (Kd.S (Kd.slice 3 (Kd.int .i64)) 65 w' w.heap.size (fun k_ => some k_ ≠ (v3 : Value).ownBlock) (.slice Ao8 t359.length co8) t359) ∧ Aside0 (w'.heap[gb355]? = some (.cells #[.int .i64 a0_0, (.slice A0_1 l0_1.length c0_1)] 61 (0, 0))) ∧ Aside0 (Below w.heap.size w w'))
 case atStart => exact ⟨(y356), (0), (by first | rfl | (simp; done) | (simp [*]; done)), H', ⟨Nat.le_refl _⟩, ⟨zr HO358.out⟩, ⟨by (with_reducible repeat (first | apply Kd.S_alloc | apply Kd.S_drewN | apply Kd.S_drew)); exact Kd.S_mono HO361.out (fun _ hk => hk.2)⟩, ⟨zb BK355.out⟩, ⟨zh HB.out⟩⟩
 case round =>
  clear H'
  try clear c1
  try clear c2
  try clear p2
  try clear hcz6_0
  try clear hcz6_1
  try clear hfz6_0
  try clear hfz6_1
  obtain ⟨x3_1, x10_1, rfl, HA, HK1, HO_3, HO_8, BK355, HB⟩ := hrel
  cases gk with
  | zero => exact absurd HA.out (by simp [impl_votes_ordered.l0])
  | succ k1 =>
   have H := HA.out
   clear HA
   simp only [impl_votes_ordered.l0] at H
   by_cases c9 : x10_1 < (t359.length : Int)
   rotate_left
   ·rw [if_neg c9] at H
    have c9b0 : decide (x10_1 < (t359.length : Int)) = false := decide_eq_false c9
    clear c9
    obtain rfl := Option.some.inj H
    go_wp2
    go_ret
    exact ⟨_, by first | rfl | (simp [*, errW_none, errW_some] <;> rfl), by (with_reducible repeat (first | apply Kd.R_alloc | apply Kd.R_drewN | apply Kd.R_drew)); exact HO_3.out, zh HB.out⟩
   rw [if_pos c9] at H
   have c9b0 : decide (x10_1 < (t359.length : Int)) = true := decide_eq_true c9
   clear c9
   by_cases c10 : 0 ≤ x10_1
   rotate_left
   ·rw [if_neg c10] at H
    exact absurd H (by simp)
   rw [if_pos c10] at H
   have c10b0 : decide (0 ≤ x10_1) = true := decide_eq_true c10
   clear c10
   by_cases c11 : x10_1 < (t359.length : Int)
   rotate_left
   ·rw [if_neg c11] at H
    exact absurd H (by simp)
   rw [if_pos c11] at H
   have c11b0 : decide (x10_1 < (t359.length : Int)) = true := decide_eq_true c11
   clear c11
   replace H := Option.bind_eq_some_iff.mp H
   obtain ⟨t363, A120, H⟩ := H
   replace H : (if x3_1.length < 17592186044416 then (impl_votes_ordered.l0 k1 (x3_1 ++ [t363]) t359 (t359.length : Int) (wrap64 (x10_1 + 1))) else (none)) = some r := H
   have A12 := Aside0.mk A120
   clear A120
   by_cases c13 : x3_1.length < 17592186044416
   rotate_left
   ·rw [if_neg c13] at H
    exact absurd H (by simp)
   rw [if_pos c13] at H
   have LMc13 := Aside0.mk c13
   clear c13
   obtain ⟨y364, hy364⟩ : ∃ y_ : List Int, y_ = (x3_1 ++ [t363]) := ⟨_, rfl⟩
   replace H : (impl_votes_ordered.l0 k1 y364 t359 (t359.length : Int) (wrap64 (x10_1 + 1))) = some r := by first | (rw [hy364]; with_reducible exact H) | (have H2_ := (Option.bind_some _ _).symm.trans H; rw [hy364]; with_reducible exact H2_) | (have H2_ := (Option.bind_some _ _).symm.trans H; with_reducible exact H2_) | with_reducible exact H | (rw [hy364]; exact H) | exact H
   have Ny364 := Aside0.mk hy364
   clear hy364
   have H' := Aside0.mk H
   clear H
   have p362 : 0 ≤ (x10_1 : Int) := zk
   have q362 : x10_1 < (t359.length : Int) := zk
   obtain ⟨ad362, A362_0, c362_0, e362, hx362_0, hl362_0, hi362_0⟩ := at_L1 (Kd.S_reads' HO_8.out).2.2 x10_1 p362 q362
   cases e362
   obtain ⟨ce362, hce362, hMe362, hcc362⟩ := Kd.S_get HO_8.out [] x10_1 p362 (by first | exact q362 | exact zk | (have e_ := (Kd.S_reads' HO_8.out).1; omega))
   obtain ⟨ve362_0, rfl, ge362_0⟩ := hMe362
   have hv362_0 := hcc362 0 _ rfl
   rw [Nat.add_zero, show ((Kd.slice 3 (Kd.int .i64))).sz = 1 from rfl, Nat.mul_one] at hv362_0
   replace hv362_0 := Option.some.inj (hv362_0.symm.trans hx362_0)
   rw [hv362_0] at ge362_0
   have HL362_0 := Aside0.mk (show Kd.R (Kd.int .i64) 3 _ _ _ _ (rd_L1 t359 x10_1) from ge362_0)
   clear hv362_0 ge362_0
   clear hcc362 hce362
   have HR362_0 := Aside0.mk hi362_0
   have HC362_0 := Aside0.mk hl362_0
   clear hi362_0 hl362_0
   replace p362 := eq_true p362
   replace q362 := eq_true q362
   go_wp2_with (first | ((with_reducible refine gate_callee (f := 91) rfl ?_); refine zl 16 Tryz.func91 #[.slice A362_0 (rd_L1 t359 x10_1).length c362_0] ?_; (with_reducible refine (impl_maskOf.calls k1 _ _ (rd_L1 t359 x10_1) t363 _ ?side1 ?side2 A12.out).mono ?_); (case side1 => repeat (first | exact (by repeat (first | (with_reducible exact HR362_0.out) | (with_reducible refine Kd.C_alloc ?_ _) | (with_reducible refine Kd.C_drewN ?_ _) | (with_reducible refine Kd.C_drew ?_) | exact HR362_0.out)) | (with_reducible refine Kd.C_alloc ?_ _) | (with_reducible refine Kd.C_drewN ?_ _) | (with_reducible refine Kd.C_drew ?_))); (case side2 => exact HC362_0.out); rintro e w' ⟨rfl, ⟨nd, rfl⟩⟩; refine ⟨_, rfl, ?_⟩) | ((with_reducible refine gate_builtin (b := .append) (xs := #[.tmp 14, .tmp 17]) rfl ?_); at_builtin; refine Kd.R_append (Kd.int .i64) (w0 := w) w.heap.size rfl (.tmp 14) (.tmp 17) 65 3 (.int .i64 0) 8 rfl Tryz.underlying65 info3 rfl (by decide) (by omega) u3 x3_1 t363 [.int .i64 t363] (fun _ => True) (fun _ => False) rfl rfl ?aP (fun _ hk => hk.elim) ?aF ?aO ?aB ?aS ?aL ?_; (case aP => exact rfl); (case aB => exact (zh HB.out)); (case aF => exact (fun _ _ => trivial)); (case aO => exact (zr HO_3.out)); (case aS => exact (below_size (zh HB.out))); (case aL => have := LMc13.out; omega); intro v365 w14 ho hb hg hat; rw [← Ny364.out] at ho; have n0_ := Aside0.mk (Kd.S_after (ok := (fun _ => True)) (by (with_reducible repeat (first | apply Kd.S_alloc | apply Kd.S_drewN | apply Kd.S_drew)); exact Kd.S_mono HO_8.out (fun _ hk => ⟨trivial, hk⟩)) hg hat); have n1_ := Aside0.mk (blk_grown (g := gb355) (o := .cells #[.int .i64 a0_0, .slice A0_1 l0_1.length c0_1] 61 (0, 0)) (zb BK355.out) hg (Kd.R_ne HO_3.out BK355.out (by decide))); have n2_ := Aside0.mk (Kd.R_after (ok := (fun k_ => some k_ ≠ (.slice (some ad362) t359.length co8 : Value).ownBlock)) (by (with_reducible repeat (first | apply Kd.R_alloc | apply Kd.R_drewN | apply Kd.R_drew)); exact Kd.R_mono HL362_0.out (fun _ hk => ⟨hk.2, hk.1⟩)) hg hat); have n3_ := Aside0.mk (hb); have n4_ := Aside0.mk (ho); clear HO_8; clear BK355; clear HL362_0; clear HB; clear HO_3; have HO_8 := n0_; have BK355 := n1_; have HL362_0 := n2_; have HB := n3_; have HO366 := n4_; clear n0_ n1_ n2_ n3_ n4_; clear ho hb hg hat))
   go_roundg k1
   case measure => have := HK1.out; omega
   case rel => exact ⟨(y364), (wrap64 (x10_1 + 1)), (by first | rfl | (simp; done) | (simp [*]; done)), H', ⟨by have := HK1.out; omega⟩, ⟨zr HO366.out⟩, ⟨by (with_reducible repeat (first | apply Kd.S_alloc | apply Kd.S_drewN | apply Kd.S_drew)); exact Kd.S_mono HO_8.out (fun _ hk => hk.2)⟩, ⟨zb BK355.out⟩, ⟨zh HB.out⟩⟩
section
variable (a1 : Int → Int → Int → Int → Option Bool)
mutual
def impl_votes_firstOfTwo.l0 : Nat → List Int → List Int → Int → Int → Int → List Bool → Option ((List (List Int)) × (List (List Int)) × Bool)
 | 0, _, _, _, _, _, _ => none
 | k + 1, x6, x16, x17, x18, x386000, x386001 => if x18 < x17 then (if 0 ≤ x18 then (if x18 < (x16.length : Int) then (if x18 ≤ (x6.length : Int) then ((some (x6.drop (x18 : Int).toNat : List Int)).bind fun y391 => (impl_votes_firstOfTwo.l1 k x6 (rd x16 x18) x16 x17 x18 y391 (y391.length : Int) 0 x386000 x386001)) else (none)) else (none)) else (none)) else (some (([] : List (List Int)), ([] : List (List Int)), false))
def impl_votes_firstOfTwo.l1 : Nat → List Int → Int → List Int → Int → Int → List Int → Int → Int → Int → List Bool → Option ((List (List Int)) × (List (List Int)) × Bool)
 | 0, _, _, _, _, _, _, _, _, _, _ => none
 | k + 1, x6, x8, x16, x17, x18, x25, x26, x27, x386000, x386001 => if x27 < x26 then (if 0 ≤ x27 then (if x27 < (x25.length : Int) then (if 0 ≤ x8 then (if x8 < (x386001.length : Int) then (if rdOf false x386001 x8 = true then (if 0 ≤ (rd x25 x27) then (if (rd x25 x27) < (x386001.length : Int) then (impl_votes_firstOfTwo.j2 k x6 x8 (rd x25 x27) x16 x17 x18 x25 x26 x27 (!(rdOf false x386001 (rd x25 x27))) x386000 x386001) else (none)) else (none)) else (impl_votes_firstOfTwo.j2 k x6 x8 (rd x25 x27) x16 x17 x18 x25 x26 x27 true x386000 x386001)) else (none)) else (none)) else (none)) else (none)) else (impl_votes_firstOfTwo.l0 k x6 x16 x17 (wrap64 (x18 + 1)) x386000 x386001)
def impl_votes_firstOfTwo.j2 : Nat → List Int → Int → Int → List Int → Int → Int → List Int → Int → Int → Bool → Int → List Bool → Option ((List (List Int)) × (List (List Int)) × Bool)
 | 0, _, _, _, _, _, _, _, _, _, _, _, _ => none
 | k + 1, x6, x8, x10, x16, x17, x18, x25, x26, x27, x44, x386000, x386001 => if x44 = true then (impl_votes_firstOfTwo.l1 k x6 x8 x16 x17 x18 x25 x26 (wrap64 (x27 + 1)) x386000 x386001) else (impl_votes_firstOfTwo.l2 k x6 x8 x10 x16 x17 x18 x25 x26 x27 x6 (x6.length : Int) 0 x386000 x386001)
def impl_votes_firstOfTwo.l2 : Nat → List Int → Int → Int → List Int → Int → Int → List Int → Int → Int → List Int → Int → Int → Int → List Bool → Option ((List (List Int)) × (List (List Int)) × Bool)
 | 0, _, _, _, _, _, _, _, _, _, _, _, _, _, _ => none
 | k + 1, x6, x8, x10, x16, x17, x18, x25, x26, x27, x45, x46, x47, x386000, x386001 => if x47 < x46 then (if 0 ≤ x47 then (if x47 < (x45.length : Int) then (if 0 ≤ (rd x45 x47) then (if (rd x45 x47) < (x386001.length : Int) then (if rdOf false x386001 (rd x45 x47) = true then (impl_votes_firstOfTwo.j4 k x6 x8 x10 x47 (rd x45 x47) x16 x17 x18 x25 x26 x27 x45 x46 x47 true x386000 x386001) else (if (Go.bits .and .i64 (rd x45 x47) (Go.bits .and .i64 x8 x10)) = (Go.bits .and .i64 x8 x10) then (impl_votes_firstOfTwo.j4 k x6 x8 x10 x47 (rd x45 x47) x16 x17 x18 x25 x26 x27 x45 x46 x47 ((Go.bits .andNot .i64 (rd x45 x47) (Go.bits .or .i64 x8 x10)) != 0) x386000 x386001) else (impl_votes_firstOfTwo.j4 k x6 x8 x10 x47 (rd x45 x47) x16 x17 x18 x25 x26 x27 x45 x46 x47 true x386000 x386001))) else (none)) else (none)) else (none)) else (none)) else (impl_votes_firstOfTwo.l1 k x6 x8 x16 x17 x18 x25 x26 (wrap64 (x27 + 1)) x386000 x386001)
def impl_votes_firstOfTwo.j4 : Nat → List Int → Int → Int → Int → Int → List Int → Int → Int → List Int → Int → Int → List Int → Int → Int → Bool → Int → List Bool → Option ((List (List Int)) × (List (List Int)) × Bool)
 | 0, _, _, _, _, _, _, _, _, _, _, _, _, _, _, _, _, _ => none
 | k + 1, x6, x8, x10, x11, x12, x16, x17, x18, x25, x26, x27, x45, x46, x47, x75, x386000, x386001 => if x75 = true then (impl_votes_firstOfTwo.l2 k x6 x8 x10 x16 x17 x18 x25 x26 x27 x45 x46 (wrap64 (x47 + 1)) x386000 x386001) else (if 0 ≤ (Go.bits .or .i64 (Go.bits .and .i64 x8 x10) (Go.bits .andNot .i64 (Go.bits .or .i64 x8 x10) x12)) then (if (Go.bits .or .i64 (Go.bits .and .i64 x8 x10) (Go.bits .andNot .i64 (Go.bits .or .i64 x8 x10) x12)) < (x386001.length : Int) then (if (rdOf false x386001 (Go.bits .or .i64 (Go.bits .and .i64 x8 x10) (Go.bits .andNot .i64 (Go.bits .or .i64 x8 x10) x12)) = true) then (impl_votes_firstOfTwo.l2 k x6 x8 x10 x16 x17 x18 x25 x26 x27 x45 x46 (wrap64 (x47 + 1)) x386000 x386001) else (if 0 ≤ x11 then (if x11 ≤ (x6.length : Int) then ((slices_Contains_int_int.f k (x6.drop (x11 : Int).toNat) (Go.bits .or .i64 (Go.bits .and .i64 x8 x10) (Go.bits .andNot .i64 (Go.bits .or .i64 x8 x10) x12))).bind fun t405 => (if t405 = true then ((a1 x8 x10 x12 (Go.bits .or .i64 (Go.bits .and .i64 x8 x10) (Go.bits .andNot .i64 (Go.bits .or .i64 x8 x10) x12))).bind fun t406 => (if t406 = true then ((impl_pairs.f k (([x8, x10] : List Int)) (([x12, Go.bits .or .i64 (Go.bits .and .i64 x8 x10) (Go.bits .andNot .i64 (Go.bits .or .i64 x8 x10) x12)] : List Int))).bind fun bt413 => (some (bt413.1, bt413.2, true))) else (impl_votes_firstOfTwo.l2 k x6 x8 x10 x16 x17 x18 x25 x26 x27 x45 x46 (wrap64 (x47 + 1)) x386000 x386001))) else (impl_votes_firstOfTwo.l2 k x6 x8 x10 x16 x17 x18 x25 x26 x27 x45 x46 (wrap64 (x47 + 1)) x386000 x386001))) else (none)) else (none))) else (none)) else (none))
end
def impl_votes_firstOfTwo.f (k : Nat) (a0_0 : Int) (l0_1 : List Bool) (a1 : Int → Int → Int → Int → Option Bool) : Option ((List (List Int)) × (List (List Int)) × Bool) := (impl_votes_ordered.f k a0_0 l0_1).bind fun t387 => (impl_votes_firstOfTwo.l0 a1 k t387 t387 (t387.length : Int) 0 a0_0 l0_1)
set_option maxHeartbeats 8000000 in
set_option maxRecDepth 100000 in
theorem impl_votes_firstOfTwo.calls (k : Nat) (a0_0 : Int) (A0_1 : Option Addr) (c0_1 : Nat) (l0_1 : List Bool) (a1 : Int → Int → Int → Int → Option Bool) (g_ : Nat) (fa_ lb_ : Array Value) (eg_ : ∀ args w, (callFunc g_ args).run Tryz.prog w = .ok (.enter g_ args) w) (r1 : List (List Int)) (r2 : List (List Int)) (r3 : Bool) (w : World) (hp0_ : PredI4 Tryz.prog g_ fa_ lb_ w a1) (hr0_1 : Kd.C Kd.bool w A0_1 l0_1.length l0_1) (hc0_1 : l0_1.length ≤ c0_1) (h : impl_votes_firstOfTwo.f k a0_0 l0_1 a1 = some (r1, r2, r3)) :
  Calls Tryz.prog 103 #[.agg #[.int .i64 a0_0, .slice A0_1 l0_1.length c0_1], .func (.func g_) fa_ lb_] w fun e w' => ∃ v0_ v1_ : Value, e = .returned (.tuple #[.agg #[v0_, v1_], .bool r3]) ∧ ∃ ow_ : Nat → Bool, Kd.S (Kd.slice 3 (Kd.int .i64)) 65 w' w.heap.size (fun k_ => ow_ k_ = true) v0_ r1 ∧ Kd.S (Kd.slice 3 (Kd.int .i64)) 65 w' w.heap.size (fun k_ => ow_ k_ = false) v1_ r2 ∧ Below w.heap.size w w' := by
 have hp_ := Aside0.mk hp0_
 clear hp0_
 have hu61 := Tryz.underlying61
 have hu86 := Tryz.underlying86
 have HR0_1 := Aside0.mk hr0_1
 have HC0_1 := Aside0.mk hc0_1
 clear hr0_1 hc0_1
 have HB := Aside0.mk (Below.refl w.heap.size w)
 have H : ((impl_votes_ordered.f k a0_0 l0_1).bind fun t387 => (impl_votes_firstOfTwo.l0 a1 k t387 t387 (t387.length : Int) 0 a0_0 l0_1)) = some (r1, r2, r3) := h
 clear h
 replace H := Option.bind_eq_some_iff.mp H
 obtain ⟨t387, A30, H⟩ := H
 replace H : (impl_votes_firstOfTwo.l0 a1 k t387 t387 (t387.length : Int) 0 a0_0 l0_1) = some (r1, r2, r3) := H
 have A3 := Aside0.mk A30
 clear A30
 have H' := Aside0.mk H
 clear H
 go_enter Tryz.func103, Tryz.ntmps103
 go_wp2_with (first | ((with_reducible refine gate_dst (N := 2) rfl ?_); refine zq 2 #[.int .i64 a0_0, .slice A0_1 l0_1.length c0_1] 61 ?_; intro gb385 hg w4 hbox hb; have n2_ := Aside0.mk ((by rw [hg]; exact (below_size (zh HB.out)) : w.heap.size ≤ gb385)); replace HB := Aside0.mk (below_step (zh HB.out) hb); have BK385 := Aside0.mk hbox; have GW385 := n2_; have GE385 := n2_; clear n2_ hb hbox hg) | ((with_reducible refine gate_dst (N := 4) rfl ?_); refine zq 4 #[.slice none 0 0, .slice none 0 0] 86 ?_; intro gb386 hg w5 hbox hb; have n0_ := Aside0.mk (blk_below (g := gb385) (o := .cells #[.int .i64 a0_0, .slice A0_1 l0_1.length c0_1] 61 (0, 0)) (zb BK385.out) hb); have n1_ := Aside0.mk (below_step (zh HB.out) hb); have n2_ := Aside0.mk (hbox); have n3_ := Aside0.mk ((by rw [hg]; exact (below_size (zh HB.out)) : w.heap.size ≤ gb386)); have n4_ := Aside0.mk ((by rw [hg]; exact (below_size (zh HB.out)) : w.heap.size ≤ gb386)); have n5_ := Aside0.mk ((by rw [hg]; exact Nat.ne_of_lt (blk_lt (g := gb385) (o := .cells #[.int .i64 a0_0, .slice A0_1 l0_1.length c0_1] 61 (0, 0)) (zb BK385.out)) : gb385 ≠ gb386)); have n6_ := Aside0.mk ((by rw [hg]; exact Nat.ne_of_gt (blk_lt (g := gb385) (o := .cells #[.int .i64 a0_0, .slice A0_1 l0_1.length c0_1] 61 (0, 0)) (zb BK385.out)) : gb386 ≠ gb385)); clear BK385; clear HB; have BK385 := n0_; have HB := n1_; have BK386 := n2_; have GW386 := n3_; have GE386 := n4_; have NB385_386 := n5_; have NB386_385 := n6_; clear n0_ n1_ n2_ n3_ n4_ n5_ n6_; clear hb hbox hg; have hnb6 := NB385_386.out; have hnc6 := NB386_385.out; have hcz7_0 : w5.cell? ⟨gb385, 0, none⟩ = some (.int .i64 a0_0) := (blk_cell BK385.out 0).trans rfl; have hcz7_1 : w5.cell? ⟨gb385, 1, none⟩ = some (.slice A0_1 l0_1.length c0_1) := (blk_cell BK385.out 1).trans rfl; have hfz7_0 := blk_frozen BK385.out 0; have hfz7_1 := blk_frozen BK385.out 1) | ((with_reducible refine gate_callee (f := 132) rfl ?_); refine zl 15 Tryz.func132 #[.agg #[.int .i64 a0_0, .slice A0_1 l0_1.length c0_1]] ?_; (with_reducible refine (impl_votes_ordered.calls k a0_0 _ _ l0_1 t387 _ ?side1 ?side2 A3.out).mono ?_); (case side1 => repeat (first | exact (Kd.C_below HR0_1.out HB.out) | (with_reducible refine Kd.C_alloc ?_ _) | (with_reducible refine Kd.C_drewN ?_ _) | (with_reducible refine Kd.C_drew ?_))); (case side2 => exact HC0_1.out); rintro e w8 ⟨v388, rfl, ho0, hb⟩; refine ⟨_, rfl, ?_⟩; have n0_ := Aside0.mk (Kd.R_lower ho0 (below_size (zh HB.out))); have n1_ := Aside0.mk (blk_below (g := gb385) (o := .cells #[.int .i64 a0_0, .slice A0_1 l0_1.length c0_1] 61 (0, 0)) (zb BK385.out) hb); have n2_ := Aside0.mk (blk_below (g := gb386) (o := .cells #[.slice none 0 0, .slice none 0 0] 86 (0, 0)) (zb BK386.out) hb); have n3_ := Aside0.mk (below_step (zh HB.out) hb); clear BK385; clear BK386; clear HB; have HO389 := n0_; have BK385 := n1_; have BK386 := n2_; have HB := n3_; clear n0_ n1_ n2_ n3_; (try clear hb); (try clear hb2); (try clear hk); (try clear hi); (try clear ho0); obtain ⟨Ao9, co9, eo9⟩ := Kd.R_slice HO389.out; subst eo9))
 go_loopg [18] k (fun kq v18 w' => ∃ (x18_1 : Int), v18 = .int .i64 x18_1 ∧ Aside0 (impl_votes_firstOfTwo.l0 a1 kq t387 t387 (t387.length : Int) x18_1 a0_0 l0_1 = some (r1, r2, r3)) ∧ Aside0 (kq ≤ k) ∧ Aside0 (Kd.R (Kd.int .i64) 3 w' w.heap.size (fun _ => True) (.slice Ao9 t387.length co9) t387) ∧ Aside0 (Kd.R (Kd.int .i64) 3 w' w.heap.size (fun _ => True) (.slice Ao9 t387.length co9) t387) ∧ Aside0 (w'.heap[gb385]? = some (.cells #[.int .i64 a0_0, (.slice A0_1 l0_1.length c0_1)] 61 (0, 0))) ∧ Aside0 (w'.heap[gb386]? = some (.cells #[(.slice none 0 0), (.slice none 0 0)] 86 (0, 0))) ∧ Aside0 (Below w.heap.size w w'))
 case atStart => exact ⟨(0), (by first | rfl | (simp; done) | (simp [*]; done)), H', ⟨Nat.le_refl _⟩, ⟨zr HO389.out⟩, ⟨zr HO389.out⟩, ⟨zb BK385.out⟩, ⟨zb BK386.out⟩, ⟨zh HB.out⟩⟩
 case round =>
  clear H'
  try clear c1
  try clear p2
  try clear c6
  try clear hcz7_0
  try clear hcz7_1
  try clear hfz7_0
  try clear hfz7_1
  obtain ⟨x18_1, rfl, HA, HK1, HO_6, HO_16, BK385, BK386, HB⟩ := hrel
  cases gk with
  | zero => exact absurd HA.out (by simp [impl_votes_firstOfTwo.l0])
  | succ k1 =>
   have H := HA.out
   clear HA
   simp only [impl_votes_firstOfTwo.l0] at H
   by_cases c10 : x18_1 < (t387.length : Int)
   ·rw [if_pos c10] at H
    have c10b0 : decide (x18_1 < (t387.length : Int)) = true := decide_eq_true c10
    clear c10
    by_cases c11 : 0 ≤ x18_1
    ·rw [if_pos c11] at H
     have c11b0 : decide (0 ≤ x18_1) = true := decide_eq_true c11
     clear c11
     by_cases c12 : x18_1 < (t387.length : Int)
     ·rw [if_pos c12] at H
      have c12b0 : decide (x18_1 < (t387.length : Int)) = true := decide_eq_true c12
      clear c12
      have c13b0 := eq_true (zk : 0 ≤ x18_1)
      by_cases c14 : x18_1 ≤ (t387.length : Int)
      ·rw [if_pos c14] at H
       have c14b0 := eq_true c14
       have c14b1 : decide (x18_1 ≤ (t387.length : Int)) = true := decide_eq_true c14
       clear c14
       obtain ⟨y391, hy391⟩ : ∃ y_ : List Int, y_ = (t387.drop (x18_1 : Int).toNat) := ⟨_, rfl⟩
       replace H : (impl_votes_firstOfTwo.l1 a1 k1 t387 (rd t387 x18_1) t387 (t387.length : Int) x18_1 y391 (y391.length : Int) 0 a0_0 l0_1) = some (r1, r2, r3) := by first | (rw [hy391]; with_reducible exact H) | (have H2_ := (Option.bind_some _ _).symm.trans H; rw [hy391]; with_reducible exact H2_) | (have H2_ := (Option.bind_some _ _).symm.trans H; with_reducible exact H2_) | with_reducible exact H | (rw [hy391]; exact H) | exact H
       have Ny391 := Aside0.mk hy391
       clear hy391
       have H' := Aside0.mk H
       clear H
       have p390 : 0 ≤ (x18_1 : Int) := zk
       have q390 : x18_1 < (t387.length : Int) := zk
       obtain ⟨ad390, e390, hx390_0⟩ := Kd.at_int (Kd.R_reads' HO_16.out).2.2 x18_1 p390 q390
       cases e390
       replace p390 := eq_true p390
       replace q390 := eq_true q390
       have q15 : (x18_1 : Int) ≤ ((t387.length : Int) : Int) := zk
       obtain ⟨i015, hi015, _, hsz15, _⟩ := info_parts info3
       have hroom15 : t387.length ≤ co9 := (Kd.R_reads' HO_6.out).2.1
       have hC15 : Kd.C (Kd.int .i64) _ (some ad390) t387.length t387 := (Kd.R_reads' HO_6.out).2.2
       have q015 : (0 : Int) ≤ (x18_1 : Int) := zk
       have hcut15 := cut_from (P := Tryz.prog) 65 3 .i64 Tryz.underlying65 hi015 1 hsz15 (some ad390) t387.length co9 x18_1 q015 q15
       have hr15 := Kd.C_drop (m := (x18_1 : Int).toNat) (c := co9) hC15 (by omega) hroom15
       obtain ⟨A394, hA15⟩ : ∃ A1, A1 = (if co9 = (x18_1 : Int).toNat then (some ad390) else ((some ad390) : Option Addr).map (·.add ((x18_1 : Int).toNat * 1))) := ⟨_, rfl⟩
       obtain ⟨c15, hc15⟩ : ∃ c1, c1 = co9 - (x18_1 : Int).toNat := ⟨_, rfl⟩
       have hy15 : y391.length = t387.length - (x18_1 : Int).toNat := (by rw [Ny391.out, List.length_drop] <;> omega)
       rw [show (t387).drop (x18_1 : Int).toNat = y391 from Ny391.out.symm] at hr15
       replace hr15 : Kd.C (Kd.int .i64) _ A394 y391.length y391 := (by rw [hA15]; exact hr15)
       rw [← hy15, ← hA15, ← hc15] at hcut15
       have HR394 := Aside0.mk hr15
       have HC394 := Aside0.mk (show y391.length ≤ c15 from by rw [hy15, hc15]; exact Nat.sub_le_sub_right hroom15 _)
       clear hr15 hC15 hroom15 hi015 hsz15 hc15
       have KY15 := Aside0.mk hy15
       have KA15 := Aside0.mk hA15
       clear hy15 hA15
       have KL15 := Aside0.mk (show (x18_1 : Int).toNat ≤ t387.length from by omega)
       replace q15 := eq_true q15
       go_wp2
       go_loopg [27] k1 (fun kq v27 w' => ∃ (x27_2 : Int), v27 = .int .i64 x27_2 ∧ Aside0 (impl_votes_firstOfTwo.l1 a1 kq t387 (rd t387 x18_1) t387 (t387.length : Int) x18_1 y391 (y391.length : Int) x27_2 a0_0 l0_1 = some (r1, r2, r3)) ∧ Aside0 (kq ≤ k1) ∧ Aside0 (Kd.R (Kd.int .i64) 3 w' w.heap.size (fun _ => True) (.slice (some ad390) t387.length co9) t387) ∧ Aside0 (Kd.R (Kd.int .i64) 3 w' w.heap.size (fun _ => True) (.slice (some ad390) t387.length co9) t387) ∧ Aside0 (w'.heap[gb385]? = some (.cells #[.int .i64 a0_0, (.slice A0_1 l0_1.length c0_1)] 61 (0, 0))) ∧ Aside0 (w'.heap[gb386]? = some (.cells #[(.slice none 0 0), (.slice none 0 0)] 86 (0, 0))) ∧ Aside0 (Kd.C (Kd.int .i64) w' A394 y391.length y391) ∧ Aside0 (Below w.heap.size w w'))
       case atStart => exact ⟨(0), (by first | rfl | (simp; done) | (simp [*]; done)), H', ⟨Nat.le_refl _⟩, ⟨zr HO_6.out⟩, ⟨zr HO_16.out⟩, ⟨zb BK385.out⟩, ⟨zb BK386.out⟩, ⟨by repeat (first | (with_reducible exact HR394.out) | (with_reducible refine Kd.C_alloc ?_ _) | (with_reducible refine Kd.C_drewN ?_ _) | (with_reducible refine Kd.C_drew ?_) | exact HR394.out)⟩, ⟨zh HB.out⟩⟩
       case round =>
        clear H'
        try clear c1
        try clear q1
        try clear p2
        try clear p3
        try clear q3
        try clear hx3
        try clear c6
        try clear c10
        try clear c10b0
        try clear c11
        try clear c11b0
        try clear c12
        try clear c12b0
        try clear c13
        try clear c13b0
        try clear c14
        try clear c14b0
        try clear c14b1
        try clear c15
        try clear q15
        try clear hcz7_0
        try clear hcz7_1
        try clear hfz7_0
        try clear hfz7_1
        try clear hx390_0
        try clear p2
        try clear p390
        try clear q015
        try clear q15
        try clear q390
        obtain ⟨x27_2, rfl, HA, HK2, HO_6, HO_16, BK385, BK386, HR394, HB⟩ := hrel
        cases gk with
        | zero => exact absurd HA.out (by simp [impl_votes_firstOfTwo.l1])
        | succ k2 =>
         have H := HA.out
         clear HA
         simp only [impl_votes_firstOfTwo.l1] at H
         by_cases c16 : x27_2 < (y391.length : Int)
         ·rw [if_pos c16] at H
          have c16b0 : decide (x27_2 < (y391.length : Int)) = true := decide_eq_true c16
          clear c16
          by_cases c17 : 0 ≤ x27_2
          ·rw [if_pos c17] at H
           have c17b0 : decide (0 ≤ x27_2) = true := decide_eq_true c17
           clear c17
           by_cases c18 : x27_2 < (y391.length : Int)
           ·rw [if_pos c18] at H
            have c18b0 : decide (x27_2 < (y391.length : Int)) = true := decide_eq_true c18
            clear c18
            have HC19 := Aside0.mk H
            clear H
            have p395 : 0 ≤ (x27_2 : Int) := zk
            have q395 : x27_2 < (y391.length : Int) := zk
            obtain ⟨ad395, e395, hx395_0⟩ := Kd.at_int HR394.out x27_2 p395 q395
            cases e395
            (try replace hx395_0 := zx HB.out hx395_0)
            replace p395 := eq_true p395
            replace q395 := eq_true q395
            go_upto_region 8 with (fail)
            go_cut [44] (fun v44 wc => ∃ (kq : Nat) (x44_18 : Bool), v44 = .bool x44_18 ∧ Aside0 (impl_votes_firstOfTwo.j2 a1 kq t387 (rd t387 x18_1) (rd y391 x27_2) t387 (t387.length : Int) x18_1 y391 (y391.length : Int) x27_2 x44_18 a0_0 l0_1 = some (r1, r2, r3)) ∧ Aside0 (kq ≤ k2) ∧ Aside0 (Kd.R (Kd.int .i64) 3 wc w.heap.size (fun _ => True) (.slice (some ad390) t387.length co9) t387) ∧ Aside0 (Kd.R (Kd.int .i64) 3 wc w.heap.size (fun _ => True) (.slice (some ad390) t387.length co9) t387) ∧ Aside0 (wc.heap[gb385]? = some (.cells #[.int .i64 a0_0, (.slice A0_1 l0_1.length c0_1)] 61 (0, 0))) ∧ Aside0 (wc.heap[gb386]? = some (.cells #[(.slice none 0 0), (.slice none 0 0)] 86 (0, 0))) ∧ Aside0 (Kd.C (Kd.int .i64) wc (some ad395) y391.length y391) ∧ Aside0 (Below w.heap.size w wc))
            case first =>
             have H := HC19.out
             clear HC19
             by_cases c20 : 0 ≤ (rd t387 x18_1)
             ·rw [if_pos c20] at H
              have c20b0 : decide (0 ≤ (rd t387 x18_1)) = true := decide_eq_true c20
              clear c20
              (first | rw [c20b0] | (simp only [i64_w, i32_w]; rw [c20b0]) | skip)
              by_cases c21 : (rd t387 x18_1) < (l0_1.length : Int)
              ·rw [if_pos c21] at H
               have c21b0 : decide ((rd t387 x18_1) < (l0_1.length : Int)) = true := decide_eq_true c21
               clear c21
               obtain ⟨bq22, hbq22⟩ : ∃ b_ : Bool, b_ = (rdOf false l0_1 (rd t387 x18_1)) := ⟨_, rfl⟩
               replace H : (if bq22 = true then (if 0 ≤ (rd y391 x27_2) then (if (rd y391 x27_2) < (l0_1.length : Int) then (impl_votes_firstOfTwo.j2 a1 k2 t387 (rd t387 x18_1) (rd y391 x27_2) t387 (t387.length : Int) x18_1 y391 (y391.length : Int) x27_2 (!(rdOf false l0_1 (rd y391 x27_2))) a0_0 l0_1) else (none)) else (none)) else (impl_votes_firstOfTwo.j2 a1 k2 t387 (rd t387 x18_1) (rd y391 x27_2) t387 (t387.length : Int) x18_1 y391 (y391.length : Int) x27_2 true a0_0 l0_1)) = some (r1, r2, r3) := by rw [← hbq22] at H; exact H
               have Nbq22 := Aside0.mk hbq22
               clear hbq22
               by_cases c23 : bq22 = true
               ·subst c23
                have H1 : (if 0 ≤ (rd y391 x27_2) then (if (rd y391 x27_2) < (l0_1.length : Int) then (impl_votes_firstOfTwo.j2 a1 k2 t387 (rd t387 x18_1) (rd y391 x27_2) t387 (t387.length : Int) x18_1 y391 (y391.length : Int) x27_2 (!(rdOf false l0_1 (rd y391 x27_2))) a0_0 l0_1) else (none)) else (none)) = some (r1, r2, r3) := by rw [if_pos rfl] at H; exact H
                clear H
                have H := H1
                clear H1
                by_cases c24 : 0 ≤ (rd y391 x27_2)
                ·rw [if_pos c24] at H
                 have c24b0 : decide (0 ≤ (rd y391 x27_2)) = true := decide_eq_true c24
                 clear c24
                 by_cases c25 : (rd y391 x27_2) < (l0_1.length : Int)
                 ·rw [if_pos c25] at H
                  have c25b0 : decide ((rd y391 x27_2) < (l0_1.length : Int)) = true := decide_eq_true c25
                  clear c25
                  have H' := Aside0.mk H
                  clear H
                  have hnb26 := NB385_386.out
                  have hnc26 := NB386_385.out
                  have hcz27_0 : wr.cell? ⟨gb385, 0, none⟩ = some (.int .i64 a0_0) := (blk_cell BK385.out 0).trans rfl
                  have hcz27_1 : wr.cell? ⟨gb385, 1, none⟩ = some (.slice A0_1 l0_1.length c0_1) := (blk_cell BK385.out 1).trans rfl
                  have hfz27_0 := blk_frozen BK385.out 0
                  have hfz27_1 := blk_frozen BK385.out 1
                  have p396 : 0 ≤ ((rd t387 x18_1) : Int) := zk
                  have q396 : (rd t387 x18_1) < (l0_1.length : Int) := zk
                  obtain ⟨ad396, e396, hx396_0⟩ := Kd.at_bool HR0_1.out (rd t387 x18_1) p396 q396
                  (try rw [← Nbq22.out] at hx396_0)
                  cases e396
                  (try replace hx396_0 := zx HB.out hx396_0)
                  replace p396 := eq_true p396
                  replace q396 := eq_true q396
                  have p397 : 0 ≤ ((rd y391 x27_2) : Int) := zk
                  have q397 : (rd y391 x27_2) < (l0_1.length : Int) := zk
                  obtain ⟨ad397, e397, hx397_0⟩ := Kd.at_bool HR0_1.out (rd y391 x27_2) p397 q397
                  (try rw [← Nbq22.out] at hx397_0)
                  obtain rfl : ad396 = ad397 := (by injection e397)
                  (try replace hx397_0 := zx HB.out hx397_0)
                  replace p397 := eq_true p397
                  replace q397 := eq_true q397
                  go_wp2
                  go_meet
                  case rel => exact ⟨_, (!(rdOf false l0_1 (rd y391 x27_2))), (by first | rfl | (simp; done) | (simp [*]; done)), H', ⟨by have := HK1.out; have := HK2.out; first | omega | exact Nat.le_refl _⟩, ⟨zr HO_6.out⟩, ⟨zr HO_16.out⟩, ⟨zb BK385.out⟩, ⟨zb BK386.out⟩, ⟨by repeat (first | (with_reducible exact HR394.out) | (with_reducible refine Kd.C_alloc ?_ _) | (with_reducible refine Kd.C_drewN ?_ _) | (with_reducible refine Kd.C_drew ?_) | exact HR394.out)⟩, ⟨zh HB.out⟩⟩
                 ·rw [if_neg c25] at H
                  exact absurd H (by simp)
                ·rw [if_neg c24] at H
                 exact absurd H (by simp)
               ·replace c23 := Bool.eq_false_iff.mpr c23
                subst c23
                have H1 : (impl_votes_firstOfTwo.j2 a1 k2 t387 (rd t387 x18_1) (rd y391 x27_2) t387 (t387.length : Int) x18_1 y391 (y391.length : Int) x27_2 true a0_0 l0_1) = some (r1, r2, r3) := by rw [if_neg (show ¬ (false = true) by decide)] at H; exact H
                clear H
                have H := H1
                clear H1
                have H' := Aside0.mk H
                clear H
                have hnb28 := NB385_386.out
                have hnc28 := NB386_385.out
                have hcz29_0 : wr.cell? ⟨gb385, 0, none⟩ = some (.int .i64 a0_0) := (blk_cell BK385.out 0).trans rfl
                have hcz29_1 : wr.cell? ⟨gb385, 1, none⟩ = some (.slice A0_1 l0_1.length c0_1) := (blk_cell BK385.out 1).trans rfl
                have hfz29_0 := blk_frozen BK385.out 0
                have hfz29_1 := blk_frozen BK385.out 1
                have p396 : 0 ≤ ((rd t387 x18_1) : Int) := zk
                have q396 : (rd t387 x18_1) < (l0_1.length : Int) := zk
                obtain ⟨ad396, e396, hx396_0⟩ := Kd.at_bool HR0_1.out (rd t387 x18_1) p396 q396
                (try rw [← Nbq22.out] at hx396_0)
                cases e396
                (try replace hx396_0 := zx HB.out hx396_0)
                replace p396 := eq_true p396
                replace q396 := eq_true q396
                go_wp2
                go_meet
                case rel => exact ⟨_, (true), (by first | rfl | (simp; done) | (simp [*]; done)), H', ⟨by have := HK1.out; have := HK2.out; first | omega | exact Nat.le_refl _⟩, ⟨zr HO_6.out⟩, ⟨zr HO_16.out⟩, ⟨zb BK385.out⟩, ⟨zb BK386.out⟩, ⟨by repeat (first | (with_reducible exact HR394.out) | (with_reducible refine Kd.C_alloc ?_ _) | (with_reducible refine Kd.C_drewN ?_ _) | (with_reducible refine Kd.C_drew ?_) | exact HR394.out)⟩, ⟨zh HB.out⟩⟩
              ·rw [if_neg c21] at H
               exact absurd H (by simp)
             ·rw [if_neg c20] at H
              exact absurd H (by simp)
            case rest =>
             clear HC19
             try clear c1
             try clear q1
             try clear c2
             try clear p2
             try clear q2
             try clear p3
             try clear q3
             try clear hx3
             try clear c6
             try clear c10
             try clear c10b0
             try clear c11
             try clear c11b0
             try clear c12
             try clear c12b0
             try clear c13
             try clear c13b0
             try clear c14
             try clear c14b0
             try clear c14b1
             try clear c15
             try clear q15
             try clear c16
             try clear c16b0
             try clear c17
             try clear c17b0
             try clear c18
             try clear c18b0
             try clear c20
             try clear c20b0
             try clear c21
             try clear c21b0
             try clear q22
             try clear c23
             try clear c24
             try clear c24b0
             try clear c25
             try clear c25b0
             try clear c26
             try clear c28
             try clear hcz27_0
             try clear hcz27_1
             try clear hcz29_0
             try clear hcz29_1
             try clear hcz7_0
             try clear hcz7_1
             try clear hfz27_0
             try clear hfz27_1
             try clear hfz29_0
             try clear hfz29_1
             try clear hfz7_0
             try clear hfz7_1
             try clear hx390_0
             try clear hx395_0
             try clear hx396_0
             try clear hx397_0
             try clear p2
             try clear p3
             try clear p390
             try clear p395
             try clear p396
             try clear p397
             try clear q015
             try clear q1
             try clear q15
             try clear q3
             try clear q390
             try clear q395
             try clear q396
             try clear q397
             obtain ⟨kq, x44_18, rfl, HA, HJ18, HO_6, HO_16, BK385, BK386, HR394, HB⟩ := hcut
             cases kq with
             | zero => exact absurd HA.out (by simp [impl_votes_firstOfTwo.j2])
             | succ kj18 =>
              have H := HA.out
              clear HA
              simp only [impl_votes_firstOfTwo.j2] at H
              by_cases c30 : x44_18 = true
              ·subst c30
               have H1 : (impl_votes_firstOfTwo.l1 a1 kj18 t387 (rd t387 x18_1) t387 (t387.length : Int) x18_1 y391 (y391.length : Int) (wrap64 (x27_2 + 1)) a0_0 l0_1) = some (r1, r2, r3) := by rw [if_pos rfl] at H; exact H
               clear H
               have H := H1
               clear H1
               have H' := Aside0.mk H
               clear H
               go_wp2
               go_roundg kj18
               case measure => have := HK1.out; have := HK2.out; have := HJ18.out; omega
               case rel => exact ⟨(wrap64 (x27_2 + 1)), (by first | rfl | (simp; done) | (simp [*]; done)), H', ⟨by have := HK1.out; have := HK2.out; have := HJ18.out; omega⟩, ⟨zr HO_6.out⟩, ⟨zr HO_16.out⟩, ⟨zb BK385.out⟩, ⟨zb BK386.out⟩, ⟨by repeat (first | (with_reducible exact HR394.out) | (with_reducible refine Kd.C_alloc ?_ _) | (with_reducible refine Kd.C_drewN ?_ _) | (with_reducible refine Kd.C_drew ?_) | exact HR394.out)⟩, ⟨zh HB.out⟩⟩
              ·replace c30 := Bool.eq_false_iff.mpr c30
               subst c30
               have H1 : (impl_votes_firstOfTwo.l2 a1 kj18 t387 (rd t387 x18_1) (rd y391 x27_2) t387 (t387.length : Int) x18_1 y391 (y391.length : Int) x27_2 t387 (t387.length : Int) 0 a0_0 l0_1) = some (r1, r2, r3) := by rw [if_neg (show ¬ (false = true) by decide)] at H; exact H
               clear H
               have H := H1
               clear H1
               have H' := Aside0.mk H
               clear H
               go_wp2
               go_loopg [47] kj18 (fun kq v47 w' => ∃ (x47_4 : Int), v47 = .int .i64 x47_4 ∧ Aside0 (impl_votes_firstOfTwo.l2 a1 kq t387 (rd t387 x18_1) (rd y391 x27_2) t387 (t387.length : Int) x18_1 y391 (y391.length : Int) x27_2 t387 (t387.length : Int) x47_4 a0_0 l0_1 = some (r1, r2, r3)) ∧ Aside0 (kq ≤ kj18) ∧ Aside0 (Kd.R (Kd.int .i64) 3 w' w.heap.size (fun _ => True) (.slice (some ad390) t387.length co9) t387) ∧ Aside0 (Kd.R (Kd.int .i64) 3 w' w.heap.size (fun _ => True) (.slice (some ad390) t387.length co9) t387) ∧ Aside0 (Kd.R (Kd.int .i64) 3 w' w.heap.size (fun _ => True) (.slice (some ad390) t387.length co9) t387) ∧ Aside0 (w'.heap[gb385]? = some (.cells #[.int .i64 a0_0, (.slice A0_1 l0_1.length c0_1)] 61 (0, 0))) ∧ Aside0 (w'.heap[gb386]? = some (.cells #[(.slice none 0 0), (.slice none 0 0)] 86 (0, 0))) ∧ Aside0 (Kd.C (Kd.int .i64) w' (some ad395) y391.length y391) ∧ Aside0 (Below w.heap.size w w'))
               case atStart => exact ⟨(0), (by first | rfl | (simp; done) | (simp [*]; done)), H', ⟨Nat.le_refl _⟩, ⟨zr HO_6.out⟩, ⟨zr HO_16.out⟩, ⟨zr HO_6.out⟩, ⟨zb BK385.out⟩, ⟨zb BK386.out⟩, ⟨by repeat (first | (with_reducible exact HR394.out) | (with_reducible refine Kd.C_alloc ?_ _) | (with_reducible refine Kd.C_drewN ?_ _) | (with_reducible refine Kd.C_drew ?_) | exact HR394.out)⟩, ⟨zh HB.out⟩⟩
               case round =>
                clear H'
                try clear c1
                try clear q1
                try clear c2
                try clear p2
                try clear q2
                try clear c3
                try clear p3
                try clear q3
                try clear hx3
                try clear c6
                try clear p6
                try clear c10
                try clear c10b0
                try clear c11
                try clear c11b0
                try clear c12
                try clear c12b0
                try clear c13
                try clear c13b0
                try clear c14
                try clear c14b0
                try clear c14b1
                try clear c15
                try clear q15
                try clear c16
                try clear c16b0
                try clear c17
                try clear c17b0
                try clear c18
                try clear c18b0
                try clear c20
                try clear c20b0
                try clear c21
                try clear c21b0
                try clear q22
                try clear c23
                try clear c24
                try clear c24b0
                try clear c25
                try clear c25b0
                try clear c26
                try clear c28
                try clear c30
                try clear hcz27_0
                try clear hcz27_1
                try clear hcz29_0
                try clear hcz29_1
                try clear hcz7_0
                try clear hcz7_1
                try clear hfz27_0
                try clear hfz27_1
                try clear hfz29_0
                try clear hfz29_1
                try clear hfz7_0
                try clear hfz7_1
                try clear hx390_0
                try clear hx395_0
                try clear hx396_0
                try clear hx397_0
                try clear p2
                try clear p3
                try clear p390
                try clear p395
                try clear p396
                try clear p397
                try clear q015
                try clear q1
                try clear q15
                try clear q2
                try clear q22
                try clear q3
                try clear q390
                try clear q395
                try clear q396
                try clear q397
                obtain ⟨x47_4, rfl, HA, HK4, HO_6, HO_16, HO_45, BK385, BK386, HR394, HB⟩ := hrel
                cases gk with
                | zero => exact absurd HA.out (by simp [impl_votes_firstOfTwo.l2])
                | succ k4 =>
                 have H := HA.out
                 clear HA
                 simp only [impl_votes_firstOfTwo.l2] at H
                 by_cases c31 : x47_4 < (t387.length : Int)
                 ·rw [if_pos c31] at H
                  have c31b0 : decide (x47_4 < (t387.length : Int)) = true := decide_eq_true c31
                  clear c31
                  by_cases c32 : 0 ≤ x47_4
                  ·rw [if_pos c32] at H
                   have c32b0 : decide (0 ≤ x47_4) = true := decide_eq_true c32
                   clear c32
                   by_cases c33 : x47_4 < (t387.length : Int)
                   ·rw [if_pos c33] at H
                    have c33b0 : decide (x47_4 < (t387.length : Int)) = true := decide_eq_true c33
                    clear c33
                    have HC34 := Aside0.mk H
                    clear H
                    have p398 : 0 ≤ (x47_4 : Int) := zk
                    have q398 : x47_4 < (t387.length : Int) := zk
                    obtain ⟨ad398, e398, hx398_0⟩ := Kd.at_int (Kd.R_reads' HO_45.out).2.2 x47_4 p398 q398
                    obtain rfl : ad390 = ad398 := (by injection e398)
                    replace p398 := eq_true p398
                    replace q398 := eq_true q398
                    go_upto_region 12 with (fail)
                    go_cut [75] (fun v75 wc => ∃ (kq : Nat) (x75_33 : Bool), v75 = .bool x75_33 ∧ Aside0 (impl_votes_firstOfTwo.j4 a1 kq t387 (rd t387 x18_1) (rd y391 x27_2) x47_4 (rd t387 x47_4) t387 (t387.length : Int) x18_1 y391 (y391.length : Int) x27_2 t387 (t387.length : Int) x47_4 x75_33 a0_0 l0_1 = some (r1, r2, r3)) ∧ Aside0 (kq ≤ k4) ∧ Aside0 (Kd.R (Kd.int .i64) 3 wc w.heap.size (fun _ => True) (.slice (some ad390) t387.length co9) t387) ∧ Aside0 (Kd.R (Kd.int .i64) 3 wc w.heap.size (fun _ => True) (.slice (some ad390) t387.length co9) t387) ∧ Aside0 (Kd.R (Kd.int .i64) 3 wc w.heap.size (fun _ => True) (.slice (some ad390) t387.length co9) t387) ∧ Aside0 (wc.heap[gb385]? = some (.cells #[.int .i64 a0_0, (.slice A0_1 l0_1.length c0_1)] 61 (0, 0))) ∧ Aside0 (wc.heap[gb386]? = some (.cells #[(.slice none 0 0), (.slice none 0 0)] 86 (0, 0))) ∧ Aside0 (Kd.C (Kd.int .i64) wc (some ad395) y391.length y391) ∧ Aside0 (Below w.heap.size w wc))
                    case first =>
                     have H := HC34.out
                     clear HC34
                     by_cases c35 : 0 ≤ (rd t387 x47_4)
                     ·rw [if_pos c35] at H
                      have c35b0 : decide (0 ≤ (rd t387 x47_4)) = true := decide_eq_true c35
                      clear c35
                      (first | rw [c35b0] | (simp only [i64_w, i32_w]; rw [c35b0]) | skip)
                      by_cases c36 : (rd t387 x47_4) < (l0_1.length : Int)
                      ·rw [if_pos c36] at H
                       have c36b0 : decide ((rd t387 x47_4) < (l0_1.length : Int)) = true := decide_eq_true c36
                       clear c36
                       obtain ⟨bq37, hbq37⟩ : ∃ b_ : Bool, b_ = (rdOf false l0_1 (rd t387 x47_4)) := ⟨_, rfl⟩
                       replace H : (if bq37 = true then (impl_votes_firstOfTwo.j4 a1 k4 t387 (rd t387 x18_1) (rd y391 x27_2) x47_4 (rd t387 x47_4) t387 (t387.length : Int) x18_1 y391 (y391.length : Int) x27_2 t387 (t387.length : Int) x47_4 true a0_0 l0_1) else (if (Go.bits .and .i64 (rd t387 x47_4) (Go.bits .and .i64 (rd t387 x18_1) (rd y391 x27_2))) = (Go.bits .and .i64 (rd t387 x18_1) (rd y391 x27_2)) then (impl_votes_firstOfTwo.j4 a1 k4 t387 (rd t387 x18_1) (rd y391 x27_2) x47_4 (rd t387 x47_4) t387 (t387.length : Int) x18_1 y391 (y391.length : Int) x27_2 t387 (t387.length : Int) x47_4 ((Go.bits .andNot .i64 (rd t387 x47_4) (Go.bits .or .i64 (rd t387 x18_1) (rd y391 x27_2))) != 0) a0_0 l0_1) else (impl_votes_firstOfTwo.j4 a1 k4 t387 (rd t387 x18_1) (rd y391 x27_2) x47_4 (rd t387 x47_4) t387 (t387.length : Int) x18_1 y391 (y391.length : Int) x27_2 t387 (t387.length : Int) x47_4 true a0_0 l0_1))) = some (r1, r2, r3) := by rw [← hbq37] at H; exact H
                       have Nbq37 := Aside0.mk hbq37
                       clear hbq37
                       by_cases c38 : bq37 = true
                       ·subst c38
                        have H1 : (impl_votes_firstOfTwo.j4 a1 k4 t387 (rd t387 x18_1) (rd y391 x27_2) x47_4 (rd t387 x47_4) t387 (t387.length : Int) x18_1 y391 (y391.length : Int) x27_2 t387 (t387.length : Int) x47_4 true a0_0 l0_1) = some (r1, r2, r3) := by rw [if_pos rfl] at H; exact H
                        clear H
                        have H := H1
                        clear H1
                        have H' := Aside0.mk H
                        clear H
                        have hnb39 := NB385_386.out
                        have hnc39 := NB386_385.out
                        have hcz40_0 : wr.cell? ⟨gb385, 0, none⟩ = some (.int .i64 a0_0) := (blk_cell BK385.out 0).trans rfl
                        have hcz40_1 : wr.cell? ⟨gb385, 1, none⟩ = some (.slice A0_1 l0_1.length c0_1) := (blk_cell BK385.out 1).trans rfl
                        have hfz40_0 := blk_frozen BK385.out 0
                        have hfz40_1 := blk_frozen BK385.out 1
                        have p399 : 0 ≤ ((rd t387 x47_4) : Int) := zk
                        have q399 : (rd t387 x47_4) < (l0_1.length : Int) := zk
                        obtain ⟨ad399, e399, hx399_0⟩ := Kd.at_bool HR0_1.out (rd t387 x47_4) p399 q399
                        (try rw [← Nbq37.out] at hx399_0)
                        cases e399
                        (try replace hx399_0 := zx HB.out hx399_0)
                        replace p399 := eq_true p399
                        replace q399 := eq_true q399
                        go_wp2
                        go_meet
                        case rel => exact ⟨_, (true), (by first | rfl | (simp; done) | (simp [*]; done)), H', ⟨by have := HK1.out; have := HK2.out; have := HJ18.out; have := HK4.out; first | omega | exact Nat.le_refl _⟩, ⟨zr HO_6.out⟩, ⟨zr HO_16.out⟩, ⟨zr HO_45.out⟩, ⟨zb BK385.out⟩, ⟨zb BK386.out⟩, ⟨by repeat (first | (with_reducible exact HR394.out) | (with_reducible refine Kd.C_alloc ?_ _) | (with_reducible refine Kd.C_drewN ?_ _) | (with_reducible refine Kd.C_drew ?_) | exact HR394.out)⟩, ⟨zh HB.out⟩⟩
                       ·replace c38 := Bool.eq_false_iff.mpr c38
                        subst c38
                        have H1 : (if (Go.bits .and .i64 (rd t387 x47_4) (Go.bits .and .i64 (rd t387 x18_1) (rd y391 x27_2))) = (Go.bits .and .i64 (rd t387 x18_1) (rd y391 x27_2)) then (impl_votes_firstOfTwo.j4 a1 k4 t387 (rd t387 x18_1) (rd y391 x27_2) x47_4 (rd t387 x47_4) t387 (t387.length : Int) x18_1 y391 (y391.length : Int) x27_2 t387 (t387.length : Int) x47_4 ((Go.bits .andNot .i64 (rd t387 x47_4) (Go.bits .or .i64 (rd t387 x18_1) (rd y391 x27_2))) != 0) a0_0 l0_1) else (impl_votes_firstOfTwo.j4 a1 k4 t387 (rd t387 x18_1) (rd y391 x27_2) x47_4 (rd t387 x47_4) t387 (t387.length : Int) x18_1 y391 (y391.length : Int) x27_2 t387 (t387.length : Int) x47_4 true a0_0 l0_1)) = some (r1, r2, r3) := by rw [if_neg (show ¬ (false = true) by decide)] at H; exact H
                        clear H
                        have H := H1
                        clear H1
                        by_cases c41 : (Go.bits .and .i64 (rd t387 x47_4) (Go.bits .and .i64 (rd t387 x18_1) (rd y391 x27_2))) = (Go.bits .and .i64 (rd t387 x18_1) (rd y391 x27_2))
                        ·rw [if_pos c41] at H
                         have c41b0 : ((Go.bits .and .i64 (rd t387 x47_4) (Go.bits .and .i64 (rd t387 x18_1) (rd y391 x27_2))) == (Go.bits .and .i64 (rd t387 x18_1) (rd y391 x27_2))) = true := beq_iff_eq.mpr c41
                         have c41b1 : ((Go.bits .and .i64 (rd t387 x47_4) (Go.bits .and .i64 (rd t387 x18_1) (rd y391 x27_2))) != (Go.bits .and .i64 (rd t387 x18_1) (rd y391 x27_2))) = false := bne_eq_false_iff_eq.mpr c41
                         clear c41
                         have H' := Aside0.mk H
                         clear H
                         have hnb42 := NB385_386.out
                         have hnc42 := NB386_385.out
                         have hcz43_0 : wr.cell? ⟨gb385, 0, none⟩ = some (.int .i64 a0_0) := (blk_cell BK385.out 0).trans rfl
                         have hcz43_1 : wr.cell? ⟨gb385, 1, none⟩ = some (.slice _ l0_1.length c0_1) := (blk_cell BK385.out 1).trans rfl
                         have hfz43_0 := blk_frozen BK385.out 0
                         have hfz43_1 := blk_frozen BK385.out 1
                         have p399 : 0 ≤ ((rd t387 x47_4) : Int) := zk
                         have q399 : (rd t387 x47_4) < (l0_1.length : Int) := zk
                         obtain ⟨ad399, e399, hx399_0⟩ := Kd.at_bool HR0_1.out (rd t387 x47_4) p399 q399
                         (try rw [← Nbq37.out] at hx399_0)
                         cases e399
                         (try replace hx399_0 := zx HB.out hx399_0)
                         replace p399 := eq_true p399
                         replace q399 := eq_true q399
                         go_wp2
                         go_meet
                         case rel => exact ⟨_, (((Go.bits .andNot .i64 (rd t387 x47_4) (Go.bits .or .i64 (rd t387 x18_1) (rd y391 x27_2))) != 0)), (by first | rfl | (simp; done) | (simp [*]; done)), H', ⟨by have := HK1.out; have := HK2.out; have := HJ18.out; have := HK4.out; first | omega | exact Nat.le_refl _⟩, ⟨zr HO_6.out⟩, ⟨zr HO_16.out⟩, ⟨zr HO_45.out⟩, ⟨zb BK385.out⟩, ⟨zb BK386.out⟩, ⟨by repeat (first | (with_reducible exact HR394.out) | (with_reducible refine Kd.C_alloc ?_ _) | (with_reducible refine Kd.C_drewN ?_ _) | (with_reducible refine Kd.C_drew ?_) | exact HR394.out)⟩, ⟨zh HB.out⟩⟩
                        ·rw [if_neg c41] at H
                         have c41b0 : ((Go.bits .and .i64 (rd t387 x47_4) (Go.bits .and .i64 (rd t387 x18_1) (rd y391 x27_2))) == (Go.bits .and .i64 (rd t387 x18_1) (rd y391 x27_2))) = false := beq_eq_false_iff_ne.mpr c41
                         have c41b1 : ((Go.bits .and .i64 (rd t387 x47_4) (Go.bits .and .i64 (rd t387 x18_1) (rd y391 x27_2))) != (Go.bits .and .i64 (rd t387 x18_1) (rd y391 x27_2))) = true := bne_iff_ne.mpr c41
                         have H' := Aside0.mk H
                         clear H
                         have hnb44 := NB385_386.out
                         have hnc44 := NB386_385.out
                         have hcz45_0 : wr.cell? ⟨gb385, 0, none⟩ = some (.int .i64 a0_0) := (blk_cell BK385.out 0).trans rfl
                         have hcz45_1 : wr.cell? ⟨gb385, 1, none⟩ = some (.slice _ l0_1.length c0_1) := (blk_cell BK385.out 1).trans rfl
                         have hfz45_0 := blk_frozen BK385.out 0
                         have hfz45_1 := blk_frozen BK385.out 1
                         have p399 : 0 ≤ ((rd t387 x47_4) : Int) := zk
                         have q399 : (rd t387 x47_4) < (l0_1.length : Int) := zk
                         obtain ⟨ad399, e399, hx399_0⟩ := Kd.at_bool HR0_1.out (rd t387 x47_4) p399 q399
                         (try rw [← Nbq37.out] at hx399_0)
                         cases e399
                         (try replace hx399_0 := zx HB.out hx399_0)
                         replace p399 := eq_true p399
                         replace q399 := eq_true q399
                         go_wp2
                         go_meet
                         case rel => exact ⟨_, (true), (by first | rfl | (simp; done) | (simp [*]; done)), H', ⟨by have := HK1.out; have := HK2.out; have := HJ18.out; have := HK4.out; first | omega | exact Nat.le_refl _⟩, ⟨zr HO_6.out⟩, ⟨zr HO_16.out⟩, ⟨zr HO_45.out⟩, ⟨zb BK385.out⟩, ⟨zb BK386.out⟩, ⟨by repeat (first | (with_reducible exact HR394.out) | (with_reducible refine Kd.C_alloc ?_ _) | (with_reducible refine Kd.C_drewN ?_ _) | (with_reducible refine Kd.C_drew ?_) | exact HR394.out)⟩, ⟨zh HB.out⟩⟩
                      ·rw [if_neg c36] at H
                       exact absurd H (by simp)
                     ·rw [if_neg c35] at H
                      exact absurd H (by simp)
                    case rest =>
                     clear HC34
                     try clear c1
                     try clear q1
                     try clear c2
                     try clear p2
                     try clear q2
                     try clear c3
                     try clear p3
                     try clear q3
                     try clear hx3
                     try clear c4
                     try clear c6
                     try clear p6
                     try clear c10
                     try clear c10b0
                     try clear c11
                     try clear c11b0
                     try clear c12
                     try clear c12b0
                     try clear c13
                     try clear c13b0
                     try clear c14
                     try clear c14b0
                     try clear c14b1
                     try clear c15
                     try clear q15
                     try clear c16
                     try clear c16b0
                     try clear c17
                     try clear c17b0
                     try clear c18
                     try clear c18b0
                     try clear c20
                     try clear c20b0
                     try clear c21
                     try clear c21b0
                     try clear q22
                     try clear c23
                     try clear c24
                     try clear c24b0
                     try clear c25
                     try clear c25b0
                     try clear c26
                     try clear c28
                     try clear c30
                     try clear c31
                     try clear c31b0
                     try clear c32
                     try clear c32b0
                     try clear c33
                     try clear c33b0
                     try clear c35
                     try clear c35b0
                     try clear c36
                     try clear c36b0
                     try clear q37
                     try clear c38
                     try clear c39
                     try clear p39
                     try clear q39
                     try clear hx39
                     try clear c41
                     try clear c41b0
                     try clear c41b1
                     try clear c42
                     try clear c44
                     try clear hcz27_0
                     try clear hcz27_1
                     try clear hcz29_0
                     try clear hcz29_1
                     try clear hcz40_0
                     try clear hcz40_1
                     try clear hcz43_0
                     try clear hcz43_1
                     try clear hcz45_0
                     try clear hcz45_1
                     try clear hcz7_0
                     try clear hcz7_1
                     try clear hfz27_0
                     try clear hfz27_1
                     try clear hfz29_0
                     try clear hfz29_1
                     try clear hfz40_0
                     try clear hfz40_1
                     try clear hfz43_0
                     try clear hfz43_1
                     try clear hfz45_0
                     try clear hfz45_1
                     try clear hfz7_0
                     try clear hfz7_1
                     try clear hx390_0
                     try clear hx395_0
                     try clear hx396_0
                     try clear hx397_0
                     try clear hx398_0
                     try clear hx399_0
                     try clear p2
                     try clear p3
                     try clear p390
                     try clear p395
                     try clear p396
                     try clear p397
                     try clear p398
                     try clear p399
                     try clear p6
                     try clear q015
                     try clear q1
                     try clear q15
                     try clear q2
                     try clear q22
                     try clear q3
                     try clear q390
                     try clear q395
                     try clear q396
                     try clear q397
                     try clear q398
                     try clear q399
                     obtain ⟨kq, x75_33, rfl, HA, HJ33, HO_6, HO_16, HO_45, BK385, BK386, HR394, HB⟩ := hcut
                     cases kq with
                     | zero => exact absurd HA.out (by simp [impl_votes_firstOfTwo.j4])
                     | succ kj33 =>
                      have H := HA.out
                      clear HA
                      simp only [impl_votes_firstOfTwo.j4] at H
                      by_cases c46 : x75_33 = true
                      ·subst c46
                       have H1 : (impl_votes_firstOfTwo.l2 a1 kj33 t387 (rd t387 x18_1) (rd y391 x27_2) t387 (t387.length : Int) x18_1 y391 (y391.length : Int) x27_2 t387 (t387.length : Int) (wrap64 (x47_4 + 1)) a0_0 l0_1) = some (r1, r2, r3) := by rw [if_pos rfl] at H; exact H
                       clear H
                       have H := H1
                       clear H1
                       have H' := Aside0.mk H
                       clear H
                       go_wp2
                       go_roundg kj33
                       case measure => have := HK1.out; have := HK2.out; have := HJ18.out; have := HK4.out; have := HJ33.out; omega
                       case rel => exact ⟨(wrap64 (x47_4 + 1)), (by first | rfl | (simp; done) | (simp [*]; done)), H', ⟨by have := HK1.out; have := HK2.out; have := HJ18.out; have := HK4.out; have := HJ33.out; omega⟩, ⟨zr HO_6.out⟩, ⟨zr HO_16.out⟩, ⟨zr HO_45.out⟩, ⟨zb BK385.out⟩, ⟨zb BK386.out⟩, ⟨by repeat (first | (with_reducible exact HR394.out) | (with_reducible refine Kd.C_alloc ?_ _) | (with_reducible refine Kd.C_drewN ?_ _) | (with_reducible refine Kd.C_drew ?_) | exact HR394.out)⟩, ⟨zh HB.out⟩⟩
                      ·replace c46 := Bool.eq_false_iff.mpr c46
                       subst c46
                       have H1 : (if 0 ≤ (Go.bits .or .i64 (Go.bits .and .i64 (rd t387 x18_1) (rd y391 x27_2)) (Go.bits .andNot .i64 (Go.bits .or .i64 (rd t387 x18_1) (rd y391 x27_2)) (rd t387 x47_4))) then (if (Go.bits .or .i64 (Go.bits .and .i64 (rd t387 x18_1) (rd y391 x27_2)) (Go.bits .andNot .i64 (Go.bits .or .i64 (rd t387 x18_1) (rd y391 x27_2)) (rd t387 x47_4))) < (l0_1.length : Int) then (if (rdOf false l0_1 (Go.bits .or .i64 (Go.bits .and .i64 (rd t387 x18_1) (rd y391 x27_2)) (Go.bits .andNot .i64 (Go.bits .or .i64 (rd t387 x18_1) (rd y391 x27_2)) (rd t387 x47_4))) = true) then (impl_votes_firstOfTwo.l2 a1 kj33 t387 (rd t387 x18_1) (rd y391 x27_2) t387 (t387.length : Int) x18_1 y391 (y391.length : Int) x27_2 t387 (t387.length : Int) (wrap64 (x47_4 + 1)) a0_0 l0_1) else (if 0 ≤ x47_4 then (if x47_4 ≤ (t387.length : Int) then ((slices_Contains_int_int.f kj33 (t387.drop (x47_4 : Int).toNat) (Go.bits .or .i64 (Go.bits .and .i64 (rd t387 x18_1) (rd y391 x27_2)) (Go.bits .andNot .i64 (Go.bits .or .i64 (rd t387 x18_1) (rd y391 x27_2)) (rd t387 x47_4)))).bind fun t405 => (if t405 = true then ((a1 (rd t387 x18_1) (rd y391 x27_2) (rd t387 x47_4) (Go.bits .or .i64 (Go.bits .and .i64 (rd t387 x18_1) (rd y391 x27_2)) (Go.bits .andNot .i64 (Go.bits .or .i64 (rd t387 x18_1) (rd y391 x27_2)) (rd t387 x47_4)))).bind fun t406 => (if t406 = true then ((impl_pairs.f kj33 (([(rd t387 x18_1), (rd y391 x27_2)] : List Int)) (([(rd t387 x47_4), Go.bits .or .i64 (Go.bits .and .i64 (rd t387 x18_1) (rd y391 x27_2)) (Go.bits .andNot .i64 (Go.bits .or .i64 (rd t387 x18_1) (rd y391 x27_2)) (rd t387 x47_4))] : List Int))).bind fun bt413 => (some (bt413.1, bt413.2, true))) else (impl_votes_firstOfTwo.l2 a1 kj33 t387 (rd t387 x18_1) (rd y391 x27_2) t387 (t387.length : Int) x18_1 y391 (y391.length : Int) x27_2 t387 (t387.length : Int) (wrap64 (x47_4 + 1)) a0_0 l0_1))) else (impl_votes_firstOfTwo.l2 a1 kj33 t387 (rd t387 x18_1) (rd y391 x27_2) t387 (t387.length : Int) x18_1 y391 (y391.length : Int) x27_2 t387 (t387.length : Int) (wrap64 (x47_4 + 1)) a0_0 l0_1))) else (none)) else (none))) else (none)) else (none)) = some (r1, r2, r3) := by rw [if_neg (show ¬ (false = true) by decide)] at H; exact H
                       clear H
                       have H := H1
                       clear H1
                       by_cases c47 : 0 ≤ (Go.bits .or .i64 (Go.bits .and .i64 (rd t387 x18_1) (rd y391 x27_2)) (Go.bits .andNot .i64 (Go.bits .or .i64 (rd t387 x18_1) (rd y391 x27_2)) (rd t387 x47_4)))
                       ·rw [if_pos c47] at H
                        have c47b0 : decide (0 ≤ (Go.bits .or .i64 (Go.bits .and .i64 (rd t387 x18_1) (rd y391 x27_2)) (Go.bits .andNot .i64 (Go.bits .or .i64 (rd t387 x18_1) (rd y391 x27_2)) (rd t387 x47_4)))) = true := decide_eq_true c47
                        clear c47
                        by_cases c48 : (Go.bits .or .i64 (Go.bits .and .i64 (rd t387 x18_1) (rd y391 x27_2)) (Go.bits .andNot .i64 (Go.bits .or .i64 (rd t387 x18_1) (rd y391 x27_2)) (rd t387 x47_4))) < (l0_1.length : Int)
                        ·rw [if_pos c48] at H
                         have c48b0 : decide ((Go.bits .or .i64 (Go.bits .and .i64 (rd t387 x18_1) (rd y391 x27_2)) (Go.bits .andNot .i64 (Go.bits .or .i64 (rd t387 x18_1) (rd y391 x27_2)) (rd t387 x47_4))) < (l0_1.length : Int)) = true := decide_eq_true c48
                         clear c48
                         obtain ⟨bq49, hbq49⟩ : ∃ b_ : Bool, b_ = (rdOf false l0_1 (Go.bits .or .i64 (Go.bits .and .i64 (rd t387 x18_1) (rd y391 x27_2)) (Go.bits .andNot .i64 (Go.bits .or .i64 (rd t387 x18_1) (rd y391 x27_2)) (rd t387 x47_4)))) := ⟨_, rfl⟩
                         replace H : (if (bq49 = true) then (impl_votes_firstOfTwo.l2 a1 kj33 t387 (rd t387 x18_1) (rd y391 x27_2) t387 (t387.length : Int) x18_1 y391 (y391.length : Int) x27_2 t387 (t387.length : Int) (wrap64 (x47_4 + 1)) a0_0 l0_1) else (if 0 ≤ x47_4 then (if x47_4 ≤ (t387.length : Int) then ((slices_Contains_int_int.f kj33 (t387.drop (x47_4 : Int).toNat) (Go.bits .or .i64 (Go.bits .and .i64 (rd t387 x18_1) (rd y391 x27_2)) (Go.bits .andNot .i64 (Go.bits .or .i64 (rd t387 x18_1) (rd y391 x27_2)) (rd t387 x47_4)))).bind fun t405 => (if t405 = true then ((a1 (rd t387 x18_1) (rd y391 x27_2) (rd t387 x47_4) (Go.bits .or .i64 (Go.bits .and .i64 (rd t387 x18_1) (rd y391 x27_2)) (Go.bits .andNot .i64 (Go.bits .or .i64 (rd t387 x18_1) (rd y391 x27_2)) (rd t387 x47_4)))).bind fun t406 => (if t406 = true then ((impl_pairs.f kj33 (([(rd t387 x18_1), (rd y391 x27_2)] : List Int)) (([(rd t387 x47_4), Go.bits .or .i64 (Go.bits .and .i64 (rd t387 x18_1) (rd y391 x27_2)) (Go.bits .andNot .i64 (Go.bits .or .i64 (rd t387 x18_1) (rd y391 x27_2)) (rd t387 x47_4))] : List Int))).bind fun bt413 => (some (bt413.1, bt413.2, true))) else (impl_votes_firstOfTwo.l2 a1 kj33 t387 (rd t387 x18_1) (rd y391 x27_2) t387 (t387.length : Int) x18_1 y391 (y391.length : Int) x27_2 t387 (t387.length : Int) (wrap64 (x47_4 + 1)) a0_0 l0_1))) else (impl_votes_firstOfTwo.l2 a1 kj33 t387 (rd t387 x18_1) (rd y391 x27_2) t387 (t387.length : Int) x18_1 y391 (y391.length : Int) x27_2 t387 (t387.length : Int) (wrap64 (x47_4 + 1)) a0_0 l0_1))) else (none)) else (none))) = some (r1, r2, r3) := by rw [← hbq49] at H; exact H
                         have Nbq49 := Aside0.mk hbq49
                         clear hbq49
                         by_cases c50 : (bq49 = true)
                         ·subst c50
                          have H1 : (impl_votes_firstOfTwo.l2 a1 kj33 t387 (rd t387 x18_1) (rd y391 x27_2) t387 (t387.length : Int) x18_1 y391 (y391.length : Int) x27_2 t387 (t387.length : Int) (wrap64 (x47_4 + 1)) a0_0 l0_1) = some (r1, r2, r3) := by rw [if_pos rfl] at H; exact H
                          clear H
                          have H := H1
                          clear H1
                          have H' := Aside0.mk H
                          clear H
                          have hnb51 := NB385_386.out
                          have hnc51 := NB386_385.out
                          have hcz52_0 : wc.cell? ⟨gb385, 0, none⟩ = some (.int .i64 a0_0) := (blk_cell BK385.out 0).trans rfl
                          have hcz52_1 : wc.cell? ⟨gb385, 1, none⟩ = some (.slice A0_1 l0_1.length c0_1) := (blk_cell BK385.out 1).trans rfl
                          have hfz52_0 := blk_frozen BK385.out 0
                          have hfz52_1 := blk_frozen BK385.out 1
                          have p400 : 0 ≤ ((Go.bits .or .i64 (Go.bits .and .i64 (rd t387 x18_1) (rd y391 x27_2)) (Go.bits .andNot .i64 (Go.bits .or .i64 (rd t387 x18_1) (rd y391 x27_2)) (rd t387 x47_4))) : Int) := zk
                          have q400 : (Go.bits .or .i64 (Go.bits .and .i64 (rd t387 x18_1) (rd y391 x27_2)) (Go.bits .andNot .i64 (Go.bits .or .i64 (rd t387 x18_1) (rd y391 x27_2)) (rd t387 x47_4))) < (l0_1.length : Int) := zk
                          obtain ⟨ad400, e400, hx400_0⟩ := Kd.at_bool HR0_1.out (Go.bits .or .i64 (Go.bits .and .i64 (rd t387 x18_1) (rd y391 x27_2)) (Go.bits .andNot .i64 (Go.bits .or .i64 (rd t387 x18_1) (rd y391 x27_2)) (rd t387 x47_4))) p400 q400
                          (try rw [← Nbq49.out] at hx400_0)
                          cases e400
                          (try replace hx400_0 := zx HB.out hx400_0)
                          replace p400 := eq_true p400
                          replace q400 := eq_true q400
                          go_wp2
                          go_roundg kj33
                          case measure => have := HK1.out; have := HK2.out; have := HJ18.out; have := HK4.out; have := HJ33.out; omega
                          case rel => exact ⟨(wrap64 (x47_4 + 1)), (by first | rfl | (simp; done) | (simp [*]; done)), H', ⟨by have := HK1.out; have := HK2.out; have := HJ18.out; have := HK4.out; have := HJ33.out; omega⟩, ⟨zr HO_6.out⟩, ⟨zr HO_16.out⟩, ⟨zr HO_45.out⟩, ⟨zb BK385.out⟩, ⟨zb BK386.out⟩, ⟨by repeat (first | (with_reducible exact HR394.out) | (with_reducible refine Kd.C_alloc ?_ _) | (with_reducible refine Kd.C_drewN ?_ _) | (with_reducible refine Kd.C_drew ?_) | exact HR394.out)⟩, ⟨zh HB.out⟩⟩
                         ·replace c50 := Bool.eq_false_iff.mpr c50
                          subst c50
                          have H1 : (if 0 ≤ x47_4 then (if x47_4 ≤ (t387.length : Int) then ((slices_Contains_int_int.f kj33 (t387.drop (x47_4 : Int).toNat) (Go.bits .or .i64 (Go.bits .and .i64 (rd t387 x18_1) (rd y391 x27_2)) (Go.bits .andNot .i64 (Go.bits .or .i64 (rd t387 x18_1) (rd y391 x27_2)) (rd t387 x47_4)))).bind fun t405 => (if t405 = true then ((a1 (rd t387 x18_1) (rd y391 x27_2) (rd t387 x47_4) (Go.bits .or .i64 (Go.bits .and .i64 (rd t387 x18_1) (rd y391 x27_2)) (Go.bits .andNot .i64 (Go.bits .or .i64 (rd t387 x18_1) (rd y391 x27_2)) (rd t387 x47_4)))).bind fun t406 => (if t406 = true then ((impl_pairs.f kj33 (([(rd t387 x18_1), (rd y391 x27_2)] : List Int)) (([(rd t387 x47_4), Go.bits .or .i64 (Go.bits .and .i64 (rd t387 x18_1) (rd y391 x27_2)) (Go.bits .andNot .i64 (Go.bits .or .i64 (rd t387 x18_1) (rd y391 x27_2)) (rd t387 x47_4))] : List Int))).bind fun bt413 => (some (bt413.1, bt413.2, true))) else (impl_votes_firstOfTwo.l2 a1 kj33 t387 (rd t387 x18_1) (rd y391 x27_2) t387 (t387.length : Int) x18_1 y391 (y391.length : Int) x27_2 t387 (t387.length : Int) (wrap64 (x47_4 + 1)) a0_0 l0_1))) else (impl_votes_firstOfTwo.l2 a1 kj33 t387 (rd t387 x18_1) (rd y391 x27_2) t387 (t387.length : Int) x18_1 y391 (y391.length : Int) x27_2 t387 (t387.length : Int) (wrap64 (x47_4 + 1)) a0_0 l0_1))) else (none)) else (none)) = some (r1, r2, r3) := by rw [if_neg (show ¬ (false = true) by decide)] at H; exact H
                          clear H
                          have H := H1
                          clear H1
                          by_cases c53 : 0 ≤ x47_4
                          ·rw [if_pos c53] at H
                           have c53b0 := eq_true c53
                           have c53b1 : decide (0 ≤ x47_4) = true := decide_eq_true c53
                           clear c53
                           by_cases c54 : x47_4 ≤ (t387.length : Int)
                           ·rw [if_pos c54] at H
                            have c54b0 := eq_true c54
                            have c54b1 : decide (x47_4 ≤ (t387.length : Int)) = true := decide_eq_true c54
                            clear c54
                            obtain ⟨y401, hy401⟩ : ∃ y_ : List Int, y_ = (t387.drop (x47_4 : Int).toNat) := ⟨_, rfl⟩
                            replace H : ((slices_Contains_int_int.f kj33 y401 (Go.bits .or .i64 (Go.bits .and .i64 (rd t387 x18_1) (rd y391 x27_2)) (Go.bits .andNot .i64 (Go.bits .or .i64 (rd t387 x18_1) (rd y391 x27_2)) (rd t387 x47_4)))).bind fun t405 => (if t405 = true then ((a1 (rd t387 x18_1) (rd y391 x27_2) (rd t387 x47_4) (Go.bits .or .i64 (Go.bits .and .i64 (rd t387 x18_1) (rd y391 x27_2)) (Go.bits .andNot .i64 (Go.bits .or .i64 (rd t387 x18_1) (rd y391 x27_2)) (rd t387 x47_4)))).bind fun t406 => (if t406 = true then ((impl_pairs.f kj33 (([(rd t387 x18_1), (rd y391 x27_2)] : List Int)) (([(rd t387 x47_4), Go.bits .or .i64 (Go.bits .and .i64 (rd t387 x18_1) (rd y391 x27_2)) (Go.bits .andNot .i64 (Go.bits .or .i64 (rd t387 x18_1) (rd y391 x27_2)) (rd t387 x47_4))] : List Int))).bind fun bt413 => (some (bt413.1, bt413.2, true))) else (impl_votes_firstOfTwo.l2 a1 kj33 t387 (rd t387 x18_1) (rd y391 x27_2) t387 (t387.length : Int) x18_1 y391 (y391.length : Int) x27_2 t387 (t387.length : Int) (wrap64 (x47_4 + 1)) a0_0 l0_1))) else (impl_votes_firstOfTwo.l2 a1 kj33 t387 (rd t387 x18_1) (rd y391 x27_2) t387 (t387.length : Int) x18_1 y391 (y391.length : Int) x27_2 t387 (t387.length : Int) (wrap64 (x47_4 + 1)) a0_0 l0_1))) = some (r1, r2, r3) := by first | (rw [hy401]; with_reducible exact H) | (have H2_ := (Option.bind_some _ _).symm.trans H; rw [hy401]; with_reducible exact H2_) | (have H2_ := (Option.bind_some _ _).symm.trans H; with_reducible exact H2_) | with_reducible exact H | (rw [hy401]; exact H) | exact H
                            have Ny401 := Aside0.mk hy401
                            clear hy401
                            replace H := Option.bind_eq_some_iff.mp H
                            obtain ⟨t405, A550, H⟩ := H
                            replace H : (if t405 = true then ((a1 (rd t387 x18_1) (rd y391 x27_2) (rd t387 x47_4) (Go.bits .or .i64 (Go.bits .and .i64 (rd t387 x18_1) (rd y391 x27_2)) (Go.bits .andNot .i64 (Go.bits .or .i64 (rd t387 x18_1) (rd y391 x27_2)) (rd t387 x47_4)))).bind fun t406 => (if t406 = true then ((impl_pairs.f kj33 (([(rd t387 x18_1), (rd y391 x27_2)] : List Int)) (([(rd t387 x47_4), Go.bits .or .i64 (Go.bits .and .i64 (rd t387 x18_1) (rd y391 x27_2)) (Go.bits .andNot .i64 (Go.bits .or .i64 (rd t387 x18_1) (rd y391 x27_2)) (rd t387 x47_4))] : List Int))).bind fun bt413 => (some (bt413.1, bt413.2, true))) else (impl_votes_firstOfTwo.l2 a1 kj33 t387 (rd t387 x18_1) (rd y391 x27_2) t387 (t387.length : Int) x18_1 y391 (y391.length : Int) x27_2 t387 (t387.length : Int) (wrap64 (x47_4 + 1)) a0_0 l0_1))) else (impl_votes_firstOfTwo.l2 a1 kj33 t387 (rd t387 x18_1) (rd y391 x27_2) t387 (t387.length : Int) x18_1 y391 (y391.length : Int) x27_2 t387 (t387.length : Int) (wrap64 (x47_4 + 1)) a0_0 l0_1)) = some (r1, r2, r3) := H
                            have A55 := Aside0.mk A550
                            clear A550
                            by_cases c56 : t405 = true
                            ·subst c56
                             have H1 : ((a1 (rd t387 x18_1) (rd y391 x27_2) (rd t387 x47_4) (Go.bits .or .i64 (Go.bits .and .i64 (rd t387 x18_1) (rd y391 x27_2)) (Go.bits .andNot .i64 (Go.bits .or .i64 (rd t387 x18_1) (rd y391 x27_2)) (rd t387 x47_4)))).bind fun t406 => (if t406 = true then ((impl_pairs.f kj33 (([(rd t387 x18_1), (rd y391 x27_2)] : List Int)) (([(rd t387 x47_4), Go.bits .or .i64 (Go.bits .and .i64 (rd t387 x18_1) (rd y391 x27_2)) (Go.bits .andNot .i64 (Go.bits .or .i64 (rd t387 x18_1) (rd y391 x27_2)) (rd t387 x47_4))] : List Int))).bind fun bt413 => (some (bt413.1, bt413.2, true))) else (impl_votes_firstOfTwo.l2 a1 kj33 t387 (rd t387 x18_1) (rd y391 x27_2) t387 (t387.length : Int) x18_1 y391 (y391.length : Int) x27_2 t387 (t387.length : Int) (wrap64 (x47_4 + 1)) a0_0 l0_1))) = some (r1, r2, r3) := by rw [if_pos rfl] at H; exact H
                             clear H
                             have H := H1
                             clear H1
                             replace H := Option.bind_eq_some_iff.mp H
                             obtain ⟨t406, A570, H⟩ := H
                             replace H : (if t406 = true then ((impl_pairs.f kj33 (([(rd t387 x18_1), (rd y391 x27_2)] : List Int)) (([(rd t387 x47_4), Go.bits .or .i64 (Go.bits .and .i64 (rd t387 x18_1) (rd y391 x27_2)) (Go.bits .andNot .i64 (Go.bits .or .i64 (rd t387 x18_1) (rd y391 x27_2)) (rd t387 x47_4))] : List Int))).bind fun bt413 => (some (bt413.1, bt413.2, true))) else (impl_votes_firstOfTwo.l2 a1 kj33 t387 (rd t387 x18_1) (rd y391 x27_2) t387 (t387.length : Int) x18_1 y391 (y391.length : Int) x27_2 t387 (t387.length : Int) (wrap64 (x47_4 + 1)) a0_0 l0_1)) = some (r1, r2, r3) := H
                             have A57 := Aside0.mk A570
                             clear A570
                             by_cases c58 : t406 = true
                             ·subst c58
                              have H1 : ((impl_pairs.f kj33 (([(rd t387 x18_1), (rd y391 x27_2)] : List Int)) (([(rd t387 x47_4), Go.bits .or .i64 (Go.bits .and .i64 (rd t387 x18_1) (rd y391 x27_2)) (Go.bits .andNot .i64 (Go.bits .or .i64 (rd t387 x18_1) (rd y391 x27_2)) (rd t387 x47_4))] : List Int))).bind fun bt413 => (some (bt413.1, bt413.2, true))) = some (r1, r2, r3) := by rw [if_pos rfl] at H; exact H
                              clear H
                              have H := H1
                              clear H1
                              obtain ⟨y407, hy407⟩ : ∃ y_ : List Int, y_ = (([(rd t387 x18_1), (rd y391 x27_2)] : List Int)) := ⟨_, rfl⟩
                              replace H : ((impl_pairs.f kj33 y407 (([(rd t387 x47_4), Go.bits .or .i64 (Go.bits .and .i64 (rd t387 x18_1) (rd y391 x27_2)) (Go.bits .andNot .i64 (Go.bits .or .i64 (rd t387 x18_1) (rd y391 x27_2)) (rd t387 x47_4))] : List Int))).bind fun bt413 => (some (bt413.1, bt413.2, true))) = some (r1, r2, r3) := by first | (rw [hy407]; with_reducible exact H) | (have H2_ := (Option.bind_some _ _).symm.trans H; rw [hy407]; with_reducible exact H2_) | (have H2_ := (Option.bind_some _ _).symm.trans H; with_reducible exact H2_) | with_reducible exact H | (rw [hy407]; exact H) | exact H
                              have Ny407 := Aside0.mk hy407
                              clear hy407
                              obtain ⟨y410, hy410⟩ : ∃ y_ : List Int, y_ = (([(rd t387 x47_4), Go.bits .or .i64 (Go.bits .and .i64 (rd t387 x18_1) (rd y391 x27_2)) (Go.bits .andNot .i64 (Go.bits .or .i64 (rd t387 x18_1) (rd y391 x27_2)) (rd t387 x47_4))] : List Int)) := ⟨_, rfl⟩
                              replace H : ((impl_pairs.f kj33 y407 y410).bind fun bt413 => (some (bt413.1, bt413.2, true))) = some (r1, r2, r3) := by first | (rw [hy410]; with_reducible exact H) | (have H2_ := (Option.bind_some _ _).symm.trans H; rw [hy410]; with_reducible exact H2_) | (have H2_ := (Option.bind_some _ _).symm.trans H; with_reducible exact H2_) | with_reducible exact H | (rw [hy410]; exact H) | exact H
                              have Ny410 := Aside0.mk hy410
                              clear hy410
                              replace H := Option.bind_eq_some_iff.mp H
                              obtain ⟨⟨t413, t416⟩, A590, H⟩ := H
                              replace H : (some (t413, t416, true)) = some (r1, r2, r3) := H
                              have A59 := Aside0.mk A590
                              clear A590
                              simp only [Option.some.injEq, Prod.mk.injEq] at H
                              obtain ⟨rfl, rfl, rfl⟩ := H
                              have hnb60 := NB385_386.out
                              have hnc60 := NB386_385.out
                              have hcz61_0 : wc.cell? ⟨gb385, 0, none⟩ = some (.int .i64 a0_0) := (blk_cell BK385.out 0).trans rfl
                              have hcz61_1 : wc.cell? ⟨gb385, 1, none⟩ = some (.slice _ l0_1.length c0_1) := (blk_cell BK385.out 1).trans rfl
                              have hfz61_0 := blk_frozen BK385.out 0
                              have hfz61_1 := blk_frozen BK385.out 1
                              have p400 : 0 ≤ ((Go.bits .or .i64 (Go.bits .and .i64 (rd t387 x18_1) (rd y391 x27_2)) (Go.bits .andNot .i64 (Go.bits .or .i64 (rd t387 x18_1) (rd y391 x27_2)) (rd t387 x47_4))) : Int) := zk
                              have q400 : (Go.bits .or .i64 (Go.bits .and .i64 (rd t387 x18_1) (rd y391 x27_2)) (Go.bits .andNot .i64 (Go.bits .or .i64 (rd t387 x18_1) (rd y391 x27_2)) (rd t387 x47_4))) < (l0_1.length : Int) := zk
                              obtain ⟨ad400, e400, hx400_0⟩ := Kd.at_bool HR0_1.out (Go.bits .or .i64 (Go.bits .and .i64 (rd t387 x18_1) (rd y391 x27_2)) (Go.bits .andNot .i64 (Go.bits .or .i64 (rd t387 x18_1) (rd y391 x27_2)) (rd t387 x47_4))) p400 q400
                              (try rw [← Nbq49.out] at hx400_0)
                              cases e400
                              (try replace hx400_0 := zx HB.out hx400_0)
                              replace p400 := eq_true p400
                              replace q400 := eq_true q400
                              have q62 : (x47_4 : Int) ≤ ((t387.length : Int) : Int) := zk
                              obtain ⟨i062, hi062, _, hsz62, _⟩ := info_parts info3
                              have hroom62 : t387.length ≤ co9 := (Kd.R_reads' HO_6.out).2.1
                              have hC62 : Kd.C (Kd.int .i64) _ (some ad390) t387.length t387 := (Kd.R_reads' HO_6.out).2.2
                              have q062 : (0 : Int) ≤ (x47_4 : Int) := zk
                              have hcut62 := cut_from (P := Tryz.prog) 65 3 .i64 Tryz.underlying65 hi062 1 hsz62 (some ad390) t387.length co9 x47_4 q062 q62
                              have hr62 := Kd.C_drop (m := (x47_4 : Int).toNat) (c := co9) hC62 (by omega) hroom62
                              obtain ⟨A62, hA62⟩ : ∃ A1, A1 = (if co9 = (x47_4 : Int).toNat then (some ad390) else ((some ad390) : Option Addr).map (·.add ((x47_4 : Int).toNat * 1))) := ⟨_, rfl⟩
                              obtain ⟨c62, hc62⟩ : ∃ c1, c1 = co9 - (x47_4 : Int).toNat := ⟨_, rfl⟩
                              have hy62 : y401.length = t387.length - (x47_4 : Int).toNat := (by rw [Ny401.out, List.length_drop] <;> omega)
                              rw [show (t387).drop (x47_4 : Int).toNat = y401 from Ny401.out.symm] at hr62
                              replace hr62 : Kd.C (Kd.int .i64) _ A62 y401.length y401 := (by rw [hA62]; exact hr62)
                              rw [← hy62, ← hA62, ← hc62] at hcut62
                              have HR404 := Aside0.mk hr62
                              have HC404 := Aside0.mk (show y401.length ≤ c62 from by rw [hy62, hc62]; exact Nat.sub_le_sub_right hroom62 _)
                              clear hr62 hC62 hroom62 hi062 hsz62 hc62
                              have KY62 := Aside0.mk hy62
                              have KA62 := Aside0.mk hA62
                              clear hy62 hA62
                              have KL62 := Aside0.mk (show (x47_4 : Int).toNat ≤ t387.length from by omega)
                              replace q62 := eq_true q62
                              go_wp2_with (first | (go_at_call 133; (with_reducible refine (slices_Contains_int_int.calls kj33 _ _ y401 (Go.bits .or .i64 (Go.bits .and .i64 (rd t387 x18_1) (rd y391 x27_2)) (Go.bits .andNot .i64 (Go.bits .or .i64 (rd t387 x18_1) (rd y391 x27_2)) (rd t387 x47_4))) true _ ?side1 ?side2 A55.out).mono ?_); (case side1 => repeat (first | exact (by repeat (first | (with_reducible exact HR404.out) | (with_reducible refine Kd.C_alloc ?_ _) | (with_reducible refine Kd.C_drewN ?_ _) | (with_reducible refine Kd.C_drew ?_) | exact HR404.out)) | (with_reducible refine Kd.C_alloc ?_ _) | (with_reducible refine Kd.C_drewN ?_ _) | (with_reducible refine Kd.C_drew ?_))); (case side2 => exact HC404.out); rintro e w' ⟨rfl, ⟨nd, rfl⟩⟩; (try (rw [drewN_self wc]; generalize hq_ : World.drewN wc _ = wc; have nz_ : Aside0 (Kd.C (Kd.int .i64) wc (some ad395) y391.length y391) := ⟨by rw [← hq_]; exact Kd.C_drewN HR394.out _⟩; have n0_ : Aside0 (Kd.R (Kd.int .i64) 3 wc w.heap.size (fun _ => True) (.slice (some ad390) t387.length co9) t387) := ⟨by rw [← hq_]; exact (zr HO_16.out)⟩; have n1_ : Aside0 (Kd.R (Kd.int .i64) 3 wc w.heap.size (fun _ => True) (.slice (some ad390) t387.length co9) t387) := ⟨by rw [← hq_]; exact (zr HO_45.out)⟩; have n2_ : Aside0 (Kd.R (Kd.int .i64) 3 wc w.heap.size (fun _ => True) (.slice (some ad390) t387.length co9) t387) := ⟨by rw [← hq_]; exact (zr HO_6.out)⟩; have n3_ : Aside0 (wc.heap[gb385]? = some (.cells #[.int .i64 a0_0, .slice (some ad400) l0_1.length c0_1] 61 (0, 0))) := ⟨by rw [← hq_]; exact (zb BK385.out)⟩; have n4_ : Aside0 (wc.heap[gb386]? = some (.cells #[.slice none 0 0, .slice none 0 0] 86 (0, 0))) := ⟨by rw [← hq_]; exact (zb BK386.out)⟩; have n5_ : Aside0 (Below w.heap.size w wc) := ⟨by rw [← hq_]; exact (zh HB.out)⟩; have n6_ : Aside0 (Kd.C (Kd.int .i64) wc A62 y401.length y401) := ⟨by rw [← hq_]; exact (by repeat (first | (with_reducible exact HR404.out) | (with_reducible refine Kd.C_alloc ?_ _) | (with_reducible refine Kd.C_drewN ?_ _) | (with_reducible refine Kd.C_drew ?_) | exact HR404.out))⟩; clear HO_16 HO_45 HO_6 BK385 BK386 HB HR404 HR394 hq_; have HR394 := nz_; clear nz_; have HO_16 := n0_; have HO_45 := n1_; have HO_6 := n2_; have BK385 := n3_; have BK386 := n4_; have HB := n5_; have HR404 := n6_; clear n0_ n1_ n2_ n3_ n4_ n5_ n6_))))
                              rw [← Array.append_assoc]
                              refine (hp_.out _ (rd t387 x18_1) (rd y391 x27_2) (rd t387 x47_4) (Go.bits .or .i64 (Go.bits .and .i64 (rd t387 x18_1) (rd y391 x27_2)) (Go.bits .andNot .i64 (Go.bits .or .i64 (rd t387 x18_1) (rd y391 x27_2)) (rd t387 x47_4))) true (zh HB.out) A57.out).mono ?_
                              rename_i K_ hK_
                              rintro e w63 ⟨rfl, hb⟩
                              (have n0_ := Aside0.mk (Kd.R_below (zr HO_6.out) hb); have n1_ := Aside0.mk (Kd.R_below (zr HO_16.out) hb); have n2_ := Aside0.mk (Kd.R_below (zr HO_45.out) hb); have n3_ := Aside0.mk (blk_below (g := gb385) (o := .cells #[.int .i64 a0_0, .slice (some ad400) l0_1.length c0_1] 61 (0, 0)) (zb BK385.out) hb); have n4_ := Aside0.mk (blk_below (g := gb386) (o := .cells #[.slice none 0 0, .slice none 0 0] 86 (0, 0)) (zb BK386.out) hb); have n5_ := Aside0.mk (Kd.C_below (by repeat (first | (with_reducible exact HR394.out) | (with_reducible refine Kd.C_alloc ?_ _) | (with_reducible refine Kd.C_drewN ?_ _) | (with_reducible refine Kd.C_drew ?_) | exact HR394.out)) hb); have n6_ := Aside0.mk (Kd.C_below (by repeat (first | (with_reducible exact HR404.out) | (with_reducible refine Kd.C_alloc ?_ _) | (with_reducible refine Kd.C_drewN ?_ _) | (with_reducible refine Kd.C_drew ?_) | exact HR404.out)) hb); have n7_ := Aside0.mk (below_step (zh HB.out) hb); clear HO_6; clear HO_16; clear HO_45; clear BK385; clear BK386; clear HR394; clear HR404; clear HB; have HO_6 := n0_; have HO_16 := n1_; have HO_45 := n2_; have BK385 := n3_; have BK386 := n4_; have HR394 := n5_; have HR404 := n6_; have HB := n7_; clear n0_ n1_ n2_ n3_ n4_ n5_ n6_ n7_; (try clear hb); (try clear hb2); (try clear hk); (try clear hi))
                              refine hK_ _ _ ?_
                              clear hK_ K_
                              go_wp2_with (first | ((with_reducible refine gate_dst (N := 108) rfl ?_); refine Kd.R_lit (Kd.int .i64) _ 3 ?hg (N := 108) ?hd (xs := ([(rd t387 x18_1), (rd y391 x27_2)] : List Int)) (inner := [.int .i64 (rd t387 x18_1), .int .i64 (rd y391 x27_2)]) (ok := fun _ => True) (okp := fun _ => True) ?hr ?hp (fun _ hk => hk) trivial (Below.refl _ _) (Nat.le_refl _) (by simp) ?_; (case hd => rfl); (case hg => rfl); (case hr => first | (go_simp; done) | (go_simp; rfl)); (case hp => exact (Reps.one (show Kd.M (Kd.int .i64) _ _ _ (rd t387 x18_1) [.int .i64 (rd t387 x18_1)] from rfl) (Reps.one (show Kd.M (Kd.int .i64) _ _ _ (rd y391 x27_2) [.int .i64 (rd y391 x27_2)] from rfl) (Reps.none _ _)))); intro v408 w64 ho65 hb hg_ hnew_; clear hg_ hnew_; (first | rw [← Ny407.out] at ho65 | (simp only [Int.reduceToNat] at ho65; rw [← Ny407.out] at ho65)); have n0_ := Aside0.mk (Kd.R_elder' (zr HO_6.out) (Kd.R_base ho65) hb); have n1_ := Aside0.mk (Kd.R_elder' (zr HO_16.out) (Kd.R_base ho65) hb); have n2_ := Aside0.mk (Kd.R_elder' (zr HO_45.out) (Kd.R_base ho65) hb); have n3_ := Aside0.mk (Kd.R_lower (Kd.R_new' (Kd.R_new' (Kd.R_new' ho65 (Kd.R_lt (zr HO_6.out))) (Kd.R_lt (zr HO_16.out))) (Kd.R_lt (zr HO_45.out))) (below_size (zh HB.out))); have n4_ := Aside0.mk (blk_below (g := gb385) (o := .cells #[.int .i64 a0_0, .slice (some ad400) l0_1.length c0_1] 61 (0, 0)) (zb BK385.out) hb); have n5_ := Aside0.mk (blk_below (g := gb386) (o := .cells #[.slice none 0 0, .slice none 0 0] 86 (0, 0)) (zb BK386.out) hb); have n6_ := Aside0.mk (Kd.C_below (by repeat (first | (with_reducible exact HR394.out) | (with_reducible refine Kd.C_alloc ?_ _) | (with_reducible refine Kd.C_drewN ?_ _) | (with_reducible refine Kd.C_drew ?_) | exact HR394.out)) hb); have n7_ := Aside0.mk (Kd.C_below (by repeat (first | (with_reducible exact HR404.out) | (with_reducible refine Kd.C_alloc ?_ _) | (with_reducible refine Kd.C_drewN ?_ _) | (with_reducible refine Kd.C_drew ?_) | exact HR404.out)) hb); have n8_ := Aside0.mk (below_step (zh HB.out) hb); clear HO_6; clear HO_16; clear HO_45; clear BK385; clear BK386; clear HR394; clear HR404; clear HB; have HO_6 := n0_; have HO_16 := n1_; have HO_45 := n2_; have HO409 := n3_; have BK385 := n4_; have BK386 := n5_; have HR394 := n6_; have HR404 := n7_; have HB := n8_; clear n0_ n1_ n2_ n3_ n4_ n5_ n6_ n7_ n8_; clear hb ho65) | ((with_reducible refine gate_dst (N := 111) rfl ?_); refine Kd.R_lit (Kd.int .i64) _ 3 ?hg (N := 111) ?hd (xs := ([(rd t387 x47_4), Go.bits .or .i64 (Go.bits .and .i64 (rd t387 x18_1) (rd y391 x27_2)) (Go.bits .andNot .i64 (Go.bits .or .i64 (rd t387 x18_1) (rd y391 x27_2)) (rd t387 x47_4))] : List Int)) (inner := [.int .i64 (rd t387 x47_4), .int .i64 (Go.bits .or .i64 (Go.bits .and .i64 (rd t387 x18_1) (rd y391 x27_2)) (Go.bits .andNot .i64 (Go.bits .or .i64 (rd t387 x18_1) (rd y391 x27_2)) (rd t387 x47_4)))]) (ok := fun _ => True) (okp := fun _ => True) ?hr ?hp (fun _ hk => hk) trivial (Below.refl _ _) (Nat.le_refl _) (by simp) ?_; (case hd => rfl); (case hg => rfl); (case hr => first | (go_simp; done) | (go_simp; rfl)); (case hp => exact (Reps.one (show Kd.M (Kd.int .i64) _ _ _ (rd t387 x47_4) [.int .i64 (rd t387 x47_4)] from rfl) (Reps.one (show Kd.M (Kd.int .i64) _ _ _ (Go.bits .or .i64 (Go.bits .and .i64 (rd t387 x18_1) (rd y391 x27_2)) (Go.bits .andNot .i64 (Go.bits .or .i64 (rd t387 x18_1) (rd y391 x27_2)) (rd t387 x47_4))) [.int .i64 (Go.bits .or .i64 (Go.bits .and .i64 (rd t387 x18_1) (rd y391 x27_2)) (Go.bits .andNot .i64 (Go.bits .or .i64 (rd t387 x18_1) (rd y391 x27_2)) (rd t387 x47_4)))] from rfl) (Reps.none _ _)))); intro v411 w66 ho67 hb hg_ hnew_; clear hg_ hnew_; (first | rw [← Ny410.out] at ho67 | (simp only [Int.reduceToNat] at ho67; rw [← Ny410.out] at ho67)); have n0_ := Aside0.mk (Kd.R_elder' (zr HO_6.out) (Kd.R_base ho67) hb); have n1_ := Aside0.mk (Kd.R_elder' (zr HO_16.out) (Kd.R_base ho67) hb); have n2_ := Aside0.mk (Kd.R_elder' (zr HO_45.out) (Kd.R_base ho67) hb); have n3_ := Aside0.mk (Kd.R_elder' (zr HO409.out) (Kd.R_base ho67) hb); have n4_ := Aside0.mk (Kd.R_lower (Kd.R_new' (Kd.R_new' (Kd.R_new' (Kd.R_new' ho67 (Kd.R_lt (zr HO_6.out))) (Kd.R_lt (zr HO_16.out))) (Kd.R_lt (zr HO_45.out))) (Kd.R_lt (zr HO409.out))) (below_size (zh HB.out))); have n5_ := Aside0.mk (blk_below (g := gb385) (o := .cells #[.int .i64 a0_0, .slice (some ad400) l0_1.length c0_1] 61 (0, 0)) (zb BK385.out) hb); have n6_ := Aside0.mk (blk_below (g := gb386) (o := .cells #[.slice none 0 0, .slice none 0 0] 86 (0, 0)) (zb BK386.out) hb); have n7_ := Aside0.mk (Kd.C_below (by repeat (first | (with_reducible exact HR394.out) | (with_reducible refine Kd.C_alloc ?_ _) | (with_reducible refine Kd.C_drewN ?_ _) | (with_reducible refine Kd.C_drew ?_) | exact HR394.out)) hb); have n8_ := Aside0.mk (Kd.C_below (by repeat (first | (with_reducible exact HR404.out) | (with_reducible refine Kd.C_alloc ?_ _) | (with_reducible refine Kd.C_drewN ?_ _) | (with_reducible refine Kd.C_drew ?_) | exact HR404.out)) hb); have n9_ := Aside0.mk (below_step (zh HB.out) hb); clear HO_6; clear HO_16; clear HO_45; clear HO409; clear BK385; clear BK386; clear HR394; clear HR404; clear HB; have HO_6 := n0_; have HO_16 := n1_; have HO_45 := n2_; have HO409 := n3_; have HO412 := n4_; have BK385 := n5_; have BK386 := n6_; have HR394 := n7_; have HR404 := n8_; have HB := n9_; clear n0_ n1_ n2_ n3_ n4_ n5_ n6_ n7_ n8_ n9_; clear hb ho67; obtain ⟨Ao68, co68, eo68⟩ := Kd.R_slice HO409.out; subst eo68; obtain ⟨Ao69, co69, eo69⟩ := Kd.R_slice HO412.out; subst eo69) | ((with_reducible refine gate_callee (f := 134) rfl ?_); refine zl 112 Tryz.func134 #[.slice Ao68 y407.length co68, .slice Ao69 y410.length co69] ?_; (with_reducible refine (impl_pairs.calls kj33 _ _ y407 _ _ y410 t413 t416 _ ?side1 ?side2 ?side3 ?side4 A59.out).mono ?_); (case side1 => repeat (first | exact (Kd.R_reads' HO409.out).2.2 | (with_reducible refine Kd.C_alloc ?_ _) | (with_reducible refine Kd.C_drewN ?_ _) | (with_reducible refine Kd.C_drew ?_))); (case side2 => exact (Kd.R_reads' HO409.out).2.1); (case side3 => repeat (first | exact (Kd.R_reads' HO412.out).2.2 | (with_reducible refine Kd.C_alloc ?_ _) | (with_reducible refine Kd.C_drewN ?_ _) | (with_reducible refine Kd.C_drew ?_))); (case side4 => exact (Kd.R_reads' HO412.out).2.1); rintro e w70 ⟨v414, v417, rfl, ow_, ho0, ho1, hb⟩; refine ⟨_, rfl, ?_⟩; have n0_ := Aside0.mk (Kd.R_below (zr HO_6.out) hb); have n1_ := Aside0.mk (Kd.R_below (zr HO_16.out) hb); have n2_ := Aside0.mk (Kd.R_below (zr HO_45.out) hb); have n3_ := Aside0.mk (Kd.R_below (zr HO409.out) hb); have n4_ := Aside0.mk (Kd.R_below (zr HO412.out) hb); have n5_ := Aside0.mk (Kd.S_lower (Kd.S_new' (Kd.S_new' (Kd.S_new' (Kd.S_new' (Kd.S_new' ho0 (Kd.R_lt (zr HO_6.out))) (Kd.R_lt (zr HO_16.out))) (Kd.R_lt (zr HO_45.out))) (Kd.R_lt (zr HO409.out))) (Kd.R_lt (zr HO412.out))) (below_size (zh HB.out))); have n6_ := Aside0.mk (Kd.S_lower (Kd.S_new' (Kd.S_new' (Kd.S_new' (Kd.S_new' (Kd.S_new' ho1 (Kd.R_lt (zr HO_6.out))) (Kd.R_lt (zr HO_16.out))) (Kd.R_lt (zr HO_45.out))) (Kd.R_lt (zr HO409.out))) (Kd.R_lt (zr HO412.out))) (below_size (zh HB.out))); have n7_ := Aside0.mk (blk_below (g := gb385) (o := .cells #[.int .i64 a0_0, .slice (some ad400) l0_1.length c0_1] 61 (0, 0)) (zb BK385.out) hb); have n8_ := Aside0.mk (blk_below (g := gb386) (o := .cells #[.slice none 0 0, .slice none 0 0] 86 (0, 0)) (zb BK386.out) hb); have n9_ := Aside0.mk (Kd.C_below (by repeat (first | (with_reducible exact HR394.out) | (with_reducible refine Kd.C_alloc ?_ _) | (with_reducible refine Kd.C_drewN ?_ _) | (with_reducible refine Kd.C_drew ?_) | exact HR394.out)) hb); have n10_ := Aside0.mk (Kd.C_below (by repeat (first | (with_reducible exact HR404.out) | (with_reducible refine Kd.C_alloc ?_ _) | (with_reducible refine Kd.C_drewN ?_ _) | (with_reducible refine Kd.C_drew ?_) | exact HR404.out)) hb); have n11_ := Aside0.mk (below_step (zh HB.out) hb); clear HO_6; clear HO_16; clear HO_45; clear HO409; clear HO412; clear BK385; clear BK386; clear HR394; clear HR404; clear HB; have HO_6 := n0_; have HO_16 := n1_; have HO_45 := n2_; have HO409 := n3_; have HO412 := n4_; have HO415 := n5_; have HO418 := n6_; have BK385 := n7_; have BK386 := n8_; have HR394 := n9_; have HR404 := n10_; have HB := n11_; clear n0_ n1_ n2_ n3_ n4_ n5_ n6_ n7_ n8_ n9_ n10_ n11_; (try clear hb); (try clear hb2); (try clear hk); (try clear hi); (try clear ho0); (try clear ho1); obtain ⟨Ao71, co71, eo71⟩ := Kd.S_slice HO415.out; subst eo71; have hcz72_0 : w70.cell? ⟨gb386, 0, none⟩ = some (.slice none 0 0) := (blk_cell BK386.out 0).trans rfl; have hcz72_1 : w70.cell? ⟨gb386, 1, none⟩ = some (.slice none 0 0) := (blk_cell BK386.out 1).trans rfl; have hfz72_0 := blk_frozen BK386.out 0; have hfz72_1 := blk_frozen BK386.out 1; obtain ⟨Ao73, co73, eo73⟩ := Kd.S_slice HO418.out; subst eo73))
                              refine bodyPost_ret (results_ct rfl _ _ gb386 86 #[.slice Ao71 t413.length co71, .slice Ao73 t416.length co73] (0, 0) _ rfl (by (with_reducible repeat (first | refine blk_drewN ?_ _ | refine blk_drew ?_ | refine blk_alloc ?_ _)); refine blk_put (cs := #[.slice Ao71 t413.length co71, .slice none 0 0]) ?_ 1 _ rfl; (with_reducible repeat (first | refine blk_drewN ?_ _ | refine blk_drew ?_ | refine blk_alloc ?_ _)); refine blk_put (cs := #[.slice none 0 0, .slice none 0 0]) ?_ 0 _ rfl; (with_reducible repeat (first | refine blk_drewN ?_ _ | refine blk_drew ?_ | refine blk_alloc ?_ _)); exact BK386.out) Tryz.underlying86 rfl (by kernel_rfl)) rfl ?_
                              exact ⟨_, _, by first | rfl | (simp [*, errW_none, errW_some] <;> rfl), ow_, by (with_reducible repeat (first | apply Kd.S_alloc | apply Kd.S_drewN | apply Kd.S_drew)); exact Kd.S_mono (Kd.S_far (p := ⟨gb386, 1, none⟩) (Kd.S_far (p := ⟨gb386, 0, none⟩) (Kd.S_types HO415.out BK386.out (by decide)) (fun _ hk => hk.2) (.slice Ao71 t413.length co71)) (fun _ hk => hk.2) (.slice Ao73 t416.length co73)) (fun _ hk => hk.1.1.1.1.1.1), by (with_reducible repeat (first | apply Kd.S_alloc | apply Kd.S_drewN | apply Kd.S_drew)); exact Kd.S_mono (Kd.S_far (p := ⟨gb386, 1, none⟩) (Kd.S_far (p := ⟨gb386, 0, none⟩) (Kd.S_types HO418.out BK386.out (by decide)) (fun _ hk => hk.2) (.slice Ao71 t413.length co71)) (fun _ hk => hk.2) (.slice Ao73 t416.length co73)) (fun _ hk => hk.1.1.1.1.1.1), zh HB.out⟩
                             ·replace c58 := Bool.eq_false_iff.mpr c58
                              subst c58
                              have H1 : (impl_votes_firstOfTwo.l2 a1 kj33 t387 (rd t387 x18_1) (rd y391 x27_2) t387 (t387.length : Int) x18_1 y391 (y391.length : Int) x27_2 t387 (t387.length : Int) (wrap64 (x47_4 + 1)) a0_0 l0_1) = some (r1, r2, r3) := by rw [if_neg (show ¬ (false = true) by decide)] at H; exact H
                              clear H
                              have H := H1
                              clear H1
                              have H' := Aside0.mk H
                              clear H
                              have hnb74 := NB385_386.out
                              have hnc74 := NB386_385.out
                              have hcz75_0 : wc.cell? ⟨gb385, 0, none⟩ = some (.int .i64 a0_0) := (blk_cell BK385.out 0).trans rfl
                              have hcz75_1 : wc.cell? ⟨gb385, 1, none⟩ = some (.slice _ l0_1.length c0_1) := (blk_cell BK385.out 1).trans rfl
                              have hfz75_0 := blk_frozen BK385.out 0
                              have hfz75_1 := blk_frozen BK385.out 1
                              have p400 : 0 ≤ ((Go.bits .or .i64 (Go.bits .and .i64 (rd t387 x18_1) (rd y391 x27_2)) (Go.bits .andNot .i64 (Go.bits .or .i64 (rd t387 x18_1) (rd y391 x27_2)) (rd t387 x47_4))) : Int) := zk
                              have q400 : (Go.bits .or .i64 (Go.bits .and .i64 (rd t387 x18_1) (rd y391 x27_2)) (Go.bits .andNot .i64 (Go.bits .or .i64 (rd t387 x18_1) (rd y391 x27_2)) (rd t387 x47_4))) < (l0_1.length : Int) := zk
                              obtain ⟨ad400, e400, hx400_0⟩ := Kd.at_bool HR0_1.out (Go.bits .or .i64 (Go.bits .and .i64 (rd t387 x18_1) (rd y391 x27_2)) (Go.bits .andNot .i64 (Go.bits .or .i64 (rd t387 x18_1) (rd y391 x27_2)) (rd t387 x47_4))) p400 q400
                              (try rw [← Nbq49.out] at hx400_0)
                              cases e400
                              (try replace hx400_0 := zx HB.out hx400_0)
                              replace p400 := eq_true p400
                              replace q400 := eq_true q400
                              have q76 : (x47_4 : Int) ≤ ((t387.length : Int) : Int) := zk
                              obtain ⟨i076, hi076, _, hsz76, _⟩ := info_parts info3
                              have hroom76 : t387.length ≤ co9 := (Kd.R_reads' HO_6.out).2.1
                              have hC76 : Kd.C (Kd.int .i64) _ (some ad390) t387.length t387 := (Kd.R_reads' HO_6.out).2.2
                              have q076 : (0 : Int) ≤ (x47_4 : Int) := zk
                              have hcut76 := cut_from (P := Tryz.prog) 65 3 .i64 Tryz.underlying65 hi076 1 hsz76 (some ad390) t387.length co9 x47_4 q076 q76
                              have hr76 := Kd.C_drop (m := (x47_4 : Int).toNat) (c := co9) hC76 (by omega) hroom76
                              obtain ⟨A76, hA76⟩ : ∃ A1, A1 = (if co9 = (x47_4 : Int).toNat then (some ad390) else ((some ad390) : Option Addr).map (·.add ((x47_4 : Int).toNat * 1))) := ⟨_, rfl⟩
                              obtain ⟨c76, hc76⟩ : ∃ c1, c1 = co9 - (x47_4 : Int).toNat := ⟨_, rfl⟩
                              have hy76 : y401.length = t387.length - (x47_4 : Int).toNat := (by rw [Ny401.out, List.length_drop] <;> omega)
                              rw [show (t387).drop (x47_4 : Int).toNat = y401 from Ny401.out.symm] at hr76
                              replace hr76 : Kd.C (Kd.int .i64) _ A76 y401.length y401 := (by rw [hA76]; exact hr76)
                              rw [← hy76, ← hA76, ← hc76] at hcut76
                              have HR404 := Aside0.mk hr76
                              have HC404 := Aside0.mk (show y401.length ≤ c76 from by rw [hy76, hc76]; exact Nat.sub_le_sub_right hroom76 _)
                              clear hr76 hC76 hroom76 hi076 hsz76 hc76
                              have KY76 := Aside0.mk hy76
                              have KA76 := Aside0.mk hA76
                              clear hy76 hA76
                              have KL76 := Aside0.mk (show (x47_4 : Int).toNat ≤ t387.length from by omega)
                              replace q76 := eq_true q76
                              go_wp2_with (first | (go_at_call 133; (with_reducible refine (slices_Contains_int_int.calls kj33 _ _ y401 (Go.bits .or .i64 (Go.bits .and .i64 (rd t387 x18_1) (rd y391 x27_2)) (Go.bits .andNot .i64 (Go.bits .or .i64 (rd t387 x18_1) (rd y391 x27_2)) (rd t387 x47_4))) true _ ?side1 ?side2 A55.out).mono ?_); (case side1 => repeat (first | exact (by repeat (first | (with_reducible exact HR404.out) | (with_reducible refine Kd.C_alloc ?_ _) | (with_reducible refine Kd.C_drewN ?_ _) | (with_reducible refine Kd.C_drew ?_) | exact HR404.out)) | (with_reducible refine Kd.C_alloc ?_ _) | (with_reducible refine Kd.C_drewN ?_ _) | (with_reducible refine Kd.C_drew ?_))); (case side2 => exact HC404.out); rintro e w' ⟨rfl, ⟨nd, rfl⟩⟩))
                              rw [← Array.append_assoc]
                              refine (hp_.out _ (rd t387 x18_1) (rd y391 x27_2) (rd t387 x47_4) (Go.bits .or .i64 (Go.bits .and .i64 (rd t387 x18_1) (rd y391 x27_2)) (Go.bits .andNot .i64 (Go.bits .or .i64 (rd t387 x18_1) (rd y391 x27_2)) (rd t387 x47_4))) false (zh HB.out) A57.out).mono ?_
                              rename_i K_ hK_
                              rintro e w77 ⟨rfl, hb⟩
                              (have n0_ := Aside0.mk (Kd.R_below (zr HO_6.out) hb); have n1_ := Aside0.mk (Kd.R_below (zr HO_16.out) hb); have n2_ := Aside0.mk (Kd.R_below (zr HO_45.out) hb); have n3_ := Aside0.mk (blk_below (g := gb385) (o := .cells #[.int .i64 a0_0, .slice (some ad400) l0_1.length c0_1] 61 (0, 0)) (zb BK385.out) hb); have n4_ := Aside0.mk (blk_below (g := gb386) (o := .cells #[.slice none 0 0, .slice none 0 0] 86 (0, 0)) (zb BK386.out) hb); have n5_ := Aside0.mk (Kd.C_below (Kd.C_drewN HR394.out _) hb); have n6_ := Aside0.mk (Kd.C_below (Kd.C_drewN HR404.out _) hb); have n7_ := Aside0.mk (below_step (zh HB.out) hb); clear HO_6; clear HO_16; clear HO_45; clear BK385; clear BK386; clear HR394; clear HR404; clear HB; have HO_6 := n0_; have HO_16 := n1_; have HO_45 := n2_; have BK385 := n3_; have BK386 := n4_; have HR394 := n5_; have HR404 := n6_; have HB := n7_; clear n0_ n1_ n2_ n3_ n4_ n5_ n6_ n7_; (try clear hb); (try clear hb2); (try clear hk); (try clear hi))
                              refine hK_ _ _ ?_
                              clear hK_ K_
                              go_wp2
                              go_roundg kj33
                              case measure => have := HK1.out; have := HK2.out; have := HJ18.out; have := HK4.out; have := HJ33.out; omega
                              case rel => exact ⟨(wrap64 (x47_4 + 1)), (by first | rfl | (simp; done) | (simp [*]; done)), H', ⟨by have := HK1.out; have := HK2.out; have := HJ18.out; have := HK4.out; have := HJ33.out; omega⟩, ⟨zr HO_6.out⟩, ⟨zr HO_16.out⟩, ⟨zr HO_45.out⟩, ⟨zb BK385.out⟩, ⟨zb BK386.out⟩, ⟨by repeat (first | (with_reducible exact HR394.out) | (with_reducible refine Kd.C_alloc ?_ _) | (with_reducible refine Kd.C_drewN ?_ _) | (with_reducible refine Kd.C_drew ?_) | exact HR394.out)⟩, ⟨zh HB.out⟩⟩
                            ·replace c56 := Bool.eq_false_iff.mpr c56
                             subst c56
                             have H1 : (impl_votes_firstOfTwo.l2 a1 kj33 t387 (rd t387 x18_1) (rd y391 x27_2) t387 (t387.length : Int) x18_1 y391 (y391.length : Int) x27_2 t387 (t387.length : Int) (wrap64 (x47_4 + 1)) a0_0 l0_1) = some (r1, r2, r3) := by rw [if_neg (show ¬ (false = true) by decide)] at H; exact H
                             clear H
                             have H := H1
                             clear H1
                             have H' := Aside0.mk H
                             clear H
                             have hnb78 := NB385_386.out
                             have hnc78 := NB386_385.out
                             have hcz79_0 : wc.cell? ⟨gb385, 0, none⟩ = some (.int .i64 a0_0) := (blk_cell BK385.out 0).trans rfl
                             have hcz79_1 : wc.cell? ⟨gb385, 1, none⟩ = some (.slice _ l0_1.length c0_1) := (blk_cell BK385.out 1).trans rfl
                             have hfz79_0 := blk_frozen BK385.out 0
                             have hfz79_1 := blk_frozen BK385.out 1
                             have p400 : 0 ≤ ((Go.bits .or .i64 (Go.bits .and .i64 (rd t387 x18_1) (rd y391 x27_2)) (Go.bits .andNot .i64 (Go.bits .or .i64 (rd t387 x18_1) (rd y391 x27_2)) (rd t387 x47_4))) : Int) := zk
                             have q400 : (Go.bits .or .i64 (Go.bits .and .i64 (rd t387 x18_1) (rd y391 x27_2)) (Go.bits .andNot .i64 (Go.bits .or .i64 (rd t387 x18_1) (rd y391 x27_2)) (rd t387 x47_4))) < (l0_1.length : Int) := zk
                             obtain ⟨ad400, e400, hx400_0⟩ := Kd.at_bool HR0_1.out (Go.bits .or .i64 (Go.bits .and .i64 (rd t387 x18_1) (rd y391 x27_2)) (Go.bits .andNot .i64 (Go.bits .or .i64 (rd t387 x18_1) (rd y391 x27_2)) (rd t387 x47_4))) p400 q400
                             (try rw [← Nbq49.out] at hx400_0)
                             cases e400
                             (try replace hx400_0 := zx HB.out hx400_0)
                             replace p400 := eq_true p400
                             replace q400 := eq_true q400
                             have q80 : (x47_4 : Int) ≤ ((t387.length : Int) : Int) := zk
                             obtain ⟨i080, hi080, _, hsz80, _⟩ := info_parts info3
                             have hroom80 : t387.length ≤ co9 := (Kd.R_reads' HO_6.out).2.1
                             have hC80 : Kd.C (Kd.int .i64) _ (some ad390) t387.length t387 := (Kd.R_reads' HO_6.out).2.2
                             have q080 : (0 : Int) ≤ (x47_4 : Int) := zk
                             have hcut80 := cut_from (P := Tryz.prog) 65 3 .i64 Tryz.underlying65 hi080 1 hsz80 (some ad390) t387.length co9 x47_4 q080 q80
                             have hr80 := Kd.C_drop (m := (x47_4 : Int).toNat) (c := co9) hC80 (by omega) hroom80
                             obtain ⟨A80, hA80⟩ : ∃ A1, A1 = (if co9 = (x47_4 : Int).toNat then (some ad390) else ((some ad390) : Option Addr).map (·.add ((x47_4 : Int).toNat * 1))) := ⟨_, rfl⟩
                             obtain ⟨c80, hc80⟩ : ∃ c1, c1 = co9 - (x47_4 : Int).toNat := ⟨_, rfl⟩
                             have hy80 : y401.length = t387.length - (x47_4 : Int).toNat := (by rw [Ny401.out, List.length_drop] <;> omega)
                             rw [show (t387).drop (x47_4 : Int).toNat = y401 from Ny401.out.symm] at hr80
                             replace hr80 : Kd.C (Kd.int .i64) _ A80 y401.length y401 := (by rw [hA80]; exact hr80)
                             rw [← hy80, ← hA80, ← hc80] at hcut80
                             have HR404 := Aside0.mk hr80
                             have HC404 := Aside0.mk (show y401.length ≤ c80 from by rw [hy80, hc80]; exact Nat.sub_le_sub_right hroom80 _)
                             clear hr80 hC80 hroom80 hi080 hsz80 hc80
                             have KY80 := Aside0.mk hy80
                             have KA80 := Aside0.mk hA80
                             clear hy80 hA80
                             have KL80 := Aside0.mk (show (x47_4 : Int).toNat ≤ t387.length from by omega)
                             replace q80 := eq_true q80
                             go_wp2_with (first | (go_at_call 133; (with_reducible refine (slices_Contains_int_int.calls kj33 _ _ y401 (Go.bits .or .i64 (Go.bits .and .i64 (rd t387 x18_1) (rd y391 x27_2)) (Go.bits .andNot .i64 (Go.bits .or .i64 (rd t387 x18_1) (rd y391 x27_2)) (rd t387 x47_4))) false _ ?side1 ?side2 A55.out).mono ?_); (case side1 => repeat (first | exact (by repeat (first | (with_reducible exact HR404.out) | (with_reducible refine Kd.C_alloc ?_ _) | (with_reducible refine Kd.C_drewN ?_ _) | (with_reducible refine Kd.C_drew ?_) | exact HR404.out)) | (with_reducible refine Kd.C_alloc ?_ _) | (with_reducible refine Kd.C_drewN ?_ _) | (with_reducible refine Kd.C_drew ?_))); (case side2 => exact HC404.out); rintro e w' ⟨rfl, ⟨nd, rfl⟩⟩))
                             go_roundg kj33
                             case measure => have := HK1.out; have := HK2.out; have := HJ18.out; have := HK4.out; have := HJ33.out; omega
                             case rel => exact ⟨(wrap64 (x47_4 + 1)), (by first | rfl | (simp; done) | (simp [*]; done)), H', ⟨by have := HK1.out; have := HK2.out; have := HJ18.out; have := HK4.out; have := HJ33.out; omega⟩, ⟨zr HO_6.out⟩, ⟨zr HO_16.out⟩, ⟨zr HO_45.out⟩, ⟨zb BK385.out⟩, ⟨zb BK386.out⟩, ⟨by repeat (first | (with_reducible exact HR394.out) | (with_reducible refine Kd.C_alloc ?_ _) | (with_reducible refine Kd.C_drewN ?_ _) | (with_reducible refine Kd.C_drew ?_) | exact HR394.out)⟩, ⟨zh HB.out⟩⟩
                           ·rw [if_neg c54] at H
                            exact absurd H (by simp)
                          ·rw [if_neg c53] at H
                           exact absurd H (by simp)
                        ·rw [if_neg c48] at H
                         exact absurd H (by simp)
                       ·rw [if_neg c47] at H
                        exact absurd H (by simp)
                   ·rw [if_neg c33] at H
                    exact absurd H (by simp)
                  ·rw [if_neg c32] at H
                   exact absurd H (by simp)
                 ·rw [if_neg c31] at H
                  have c31b0 : decide (x47_4 < (t387.length : Int)) = false := decide_eq_false c31
                  clear c31
                  have H' := Aside0.mk H
                  clear H
                  go_wp2
                  go_roundg k4
                  case measure => have := HK1.out; have := HK2.out; have := HJ18.out; have := HK4.out; omega
                  case rel => exact ⟨(wrap64 (x27_2 + 1)), (by first | rfl | (simp; done) | (simp [*]; done)), H', ⟨by have := HK1.out; have := HK2.out; have := HJ18.out; have := HK4.out; omega⟩, ⟨zr HO_6.out⟩, ⟨zr HO_16.out⟩, ⟨zb BK385.out⟩, ⟨zb BK386.out⟩, ⟨by repeat (first | (with_reducible exact HR394.out) | (with_reducible refine Kd.C_alloc ?_ _) | (with_reducible refine Kd.C_drewN ?_ _) | (with_reducible refine Kd.C_drew ?_) | exact HR394.out)⟩, ⟨zh HB.out⟩⟩
           ·rw [if_neg c18] at H
            exact absurd H (by simp)
          ·rw [if_neg c17] at H
           exact absurd H (by simp)
         ·rw [if_neg c16] at H
          have c16b0 : decide (x27_2 < (y391.length : Int)) = false := decide_eq_false c16
          clear c16
          have H' := Aside0.mk H
          clear H
          go_wp2
          go_roundg k2
          case measure => have := HK1.out; have := HK2.out; omega
          case rel => exact ⟨(wrap64 (x18_1 + 1)), (by first | rfl | (simp; done) | (simp [*]; done)), H', ⟨by have := HK1.out; have := HK2.out; omega⟩, ⟨zr HO_6.out⟩, ⟨zr HO_16.out⟩, ⟨zb BK385.out⟩, ⟨zb BK386.out⟩, ⟨zh HB.out⟩⟩
      ·rw [if_neg c14] at H
       exact absurd H (by simp)
     ·rw [if_neg c12] at H
      exact absurd H (by simp)
    ·rw [if_neg c11] at H
     exact absurd H (by simp)
   ·rw [if_neg c10] at H
    have c10b0 : decide (x18_1 < (t387.length : Int)) = false := decide_eq_false c10
    clear c10
    simp only [Option.some.injEq, Prod.mk.injEq] at H
    obtain ⟨rfl, rfl, rfl⟩ := H
    have hnb81 := NB386_385.out
    have hnc81 := NB385_386.out
    have hcz82_0 : wr.cell? ⟨gb386, 0, none⟩ = some (.slice none 0 0) := (blk_cell BK386.out 0).trans rfl
    have hcz82_1 : wr.cell? ⟨gb386, 1, none⟩ = some (.slice none 0 0) := (blk_cell BK386.out 1).trans rfl
    have hfz82_0 := blk_frozen BK386.out 0
    have hfz82_1 := blk_frozen BK386.out 1
    go_wp2
    refine bodyPost_ret (results_ct rfl _ _ gb386 86 #[.slice none 0 0, .slice none 0 0] (0, 0) _ rfl (by (with_reducible repeat (first | refine blk_drewN ?_ _ | refine blk_drew ?_ | refine blk_alloc ?_ _)); refine blk_put (cs := #[.slice none 0 0, .slice none 0 0]) ?_ 1 _ rfl; (with_reducible repeat (first | refine blk_drewN ?_ _ | refine blk_drew ?_ | refine blk_alloc ?_ _)); refine blk_put (cs := #[.slice none 0 0, .slice none 0 0]) ?_ 0 _ rfl; (with_reducible repeat (first | refine blk_drewN ?_ _ | refine blk_drew ?_ | refine blk_alloc ?_ _)); exact BK386.out) Tryz.underlying86 rfl (by kernel_rfl)) rfl ?_
    exact ⟨_, _, by first | rfl | (simp [*, errW_none, errW_some] <;> rfl), fun _ => true, by first | exact Kd.S_nil _ _ _ _ _ | exact Kd.N_nil _ _ _ _ _ | exact Kd.V_nil _ _ _ _ _ | exact Kd.Q_nil _ _ _ _ _ | exact Kd.R_nil _ _ _ _ _, by first | exact Kd.S_nil _ _ _ _ _ | exact Kd.N_nil _ _ _ _ _ | exact Kd.V_nil _ _ _ _ _ | exact Kd.Q_nil _ _ _ _ _ | exact Kd.R_nil _ _ _ _ _, zh HB.out⟩
end
end Go.Proofs.YtmbkmabpebjboaaGreat.Q
end
section
namespace Go.Proofs.YtmbkmabpebjboaaGreat.Q
open Go.RowKit Go.Proofs.YtmbkmabpebjboaaGreatW.PrintWords Go.Proofs.YtmbkmabpebjboaaGreatW.PrintLast Go.Proofs.YtmbkmabpebjboaaGreatW.PrintMore
set_option linter.unusedVariables false
set_option linter.unusedSimpArgs false
theorem firstTrade_1.pred (w : World) : PredI4 Tryz.prog 104 #[] #[] w (fun _ _ _ _ => some true) := by
  intro W x y z u b hb hp
  obtain rfl := Option.some.inj hp
  show Calls Tryz.prog 104 #[.int .i64 x, .int .i64 y, .int .i64 z, .int .i64 u] W _
  clear hp
  go_enter Tryz.func104, Tryz.ntmps104
  go_wp2
  go_ret
  exact ⟨rfl, Below.refl _ _⟩
def firstOfAny.f (k : Nat) (a0_0 : Int) (l0_1 : List Bool) : Option ((List (List Int)) × (List (List Int)) × Bool) := impl_votes_firstOfTwo.f k a0_0 l0_1 (fun _ _ _ _ => some true)
theorem firstOfAny.calls (k : Nat) (a0_0 : Int) (A0_1 : Option Addr) (c0_1 : Nat) (l0_1 : List Bool) (r1 : List (List Int)) (r2 : List (List Int)) (r3 : Bool) (w : World) (hr0_1 : Kd.C Kd.bool w A0_1 l0_1.length l0_1) (hc0_1 : l0_1.length ≤ c0_1) (h : firstOfAny.f k a0_0 l0_1 = some (r1, r2, r3)) :
    Calls Tryz.prog 103 #[.agg #[.int .i64 a0_0, .slice A0_1 l0_1.length c0_1], .func (.func 104) #[] #[]] w fun e w' => ∃ v0_ v1_ : Value, e = .returned (.tuple #[.agg #[v0_, v1_], .bool r3]) ∧ ∃ ow_ : Nat → Bool, Kd.S (Kd.slice 3 (Kd.int .i64)) 65 w' w.heap.size (fun k_ => ow_ k_ = true) v0_ r1 ∧ Kd.S (Kd.slice 3 (Kd.int .i64)) 65 w' w.heap.size (fun k_ => ow_ k_ = false) v1_ r2 ∧ Below w.heap.size w w' :=
  impl_votes_firstOfTwo.calls k a0_0 A0_1 c0_1 l0_1 _ 104 #[] #[] (enters_of Tryz.func104 (by kernel_rfl) rfl) r1 r2 r3 w (firstTrade_1.pred w) hr0_1 hc0_1 h
end Go.Proofs.YtmbkmabpebjboaaGreat.Q
end
section
namespace Go.Proofs.YtmbkmabpebjboaaGreat.Q
open Go.RowKit Go.Proofs.YtmbkmabpebjboaaGreatW.PrintWords Go.Proofs.YtmbkmabpebjboaaGreatW.PrintLast Go.Proofs.YtmbkmabpebjboaaGreatW.PrintMore
attribute [local go_sem] max2_int min2_int max_two min_two max_three min_three max_four min_four
set_option linter.unusedVariables false
set_option linter.unusedSimpArgs false
def impl_votes_firstTrade.f (k : Nat) (a0_0 : Int) (l0_1 : List Bool) : Option ((List (List Int)) × (List (List Int)) × Bool) := (firstOfAny.f k a0_0 l0_1).bind fun bt421 => (some (bt421.1, bt421.2.1, bt421.2.2))
set_option maxHeartbeats 8000000 in
set_option maxRecDepth 100000 in
theorem impl_votes_firstTrade.calls (k : Nat) (a0_0 : Int) (A0_1 : Option Addr) (c0_1 : Nat) (l0_1 : List Bool) (r1 : List (List Int)) (r2 : List (List Int)) (r3 : Bool) (w : World) (hr0_1 : Kd.C Kd.bool w A0_1 l0_1.length l0_1) (hc0_1 : l0_1.length ≤ c0_1) (h : impl_votes_firstTrade.f k a0_0 l0_1 = some (r1, r2, r3)) :
  Calls Tryz.prog 59 #[.agg #[.int .i64 a0_0, .slice A0_1 l0_1.length c0_1]] w fun e w' => ∃ v0_ v1_ : Value, e = .returned (.tuple #[.agg #[v0_, v1_], .bool r3]) ∧ ∃ ow_ : Nat → Bool, Kd.S (Kd.slice 3 (Kd.int .i64)) 65 w' w.heap.size (fun k_ => ow_ k_ = true) v0_ r1 ∧ Kd.S (Kd.slice 3 (Kd.int .i64)) 65 w' w.heap.size (fun k_ => ow_ k_ = false) v1_ r2 ∧ Below w.heap.size w w' := by
 have hu61 := Tryz.underlying61
 have hu86 := Tryz.underlying86
 have HR0_1 := Aside0.mk hr0_1
 have HC0_1 := Aside0.mk hc0_1
 clear hr0_1 hc0_1
 have HB := Aside0.mk (Below.refl w.heap.size w)
 have H : ((firstOfAny.f k a0_0 l0_1).bind fun bt421 => (some (bt421.1, bt421.2.1, bt421.2.2))) = some (r1, r2, r3) := h
 clear h
 replace H := Option.bind_eq_some_iff.mp H
 obtain ⟨⟨t421, t424, t427⟩, A20, H⟩ := H
 replace H : (some (t421, t424, t427)) = some (r1, r2, r3) := H
 have A2 := Aside0.mk A20
 clear A20
 simp only [Option.some.injEq, Prod.mk.injEq] at H
 obtain ⟨rfl, rfl, rfl⟩ := H
 go_enter Tryz.func59, Tryz.ntmps59
 go_wp2_with (first | ((with_reducible refine gate_dst (N := 1) rfl ?_); refine zq 1 #[.int .i64 a0_0, .slice A0_1 l0_1.length c0_1] 61 ?_; intro gb419 hg w3 hbox hb; have n2_ := Aside0.mk ((by rw [hg]; exact (below_size (zh HB.out)) : w.heap.size ≤ gb419)); replace HB := Aside0.mk (below_step (zh HB.out) hb); have BK419 := Aside0.mk hbox; have GW419 := n2_; have GE419 := n2_; clear n2_ hb hbox hg) | ((with_reducible refine gate_dst (N := 2) rfl ?_); refine zq 2 #[.slice none 0 0, .slice none 0 0] 86 ?_; intro gb420 hg w4 hbox hb; have n0_ := Aside0.mk (blk_below (g := gb419) (o := .cells #[.int .i64 a0_0, .slice A0_1 l0_1.length c0_1] 61 (0, 0)) (zb BK419.out) hb); have n1_ := Aside0.mk (below_step (zh HB.out) hb); have n2_ := Aside0.mk (hbox); have n3_ := Aside0.mk ((by rw [hg]; exact (below_size (zh HB.out)) : w.heap.size ≤ gb420)); have n4_ := Aside0.mk ((by rw [hg]; exact (below_size (zh HB.out)) : w.heap.size ≤ gb420)); have n5_ := Aside0.mk ((by rw [hg]; exact Nat.ne_of_lt (blk_lt (g := gb419) (o := .cells #[.int .i64 a0_0, .slice A0_1 l0_1.length c0_1] 61 (0, 0)) (zb BK419.out)) : gb419 ≠ gb420)); have n6_ := Aside0.mk ((by rw [hg]; exact Nat.ne_of_gt (blk_lt (g := gb419) (o := .cells #[.int .i64 a0_0, .slice A0_1 l0_1.length c0_1] 61 (0, 0)) (zb BK419.out)) : gb420 ≠ gb419)); clear BK419; clear HB; have BK419 := n0_; have HB := n1_; have BK420 := n2_; have GW420 := n3_; have GE420 := n4_; have NB419_420 := n5_; have NB420_419 := n6_; clear n0_ n1_ n2_ n3_ n4_ n5_ n6_; clear hb hbox hg; have hnb5 := NB419_420.out; have hnc5 := NB420_419.out; have hcz6_0 : w4.cell? ⟨gb419, 0, none⟩ = some (.int .i64 a0_0) := (blk_cell BK419.out 0).trans rfl; have hcz6_1 : w4.cell? ⟨gb419, 1, none⟩ = some (.slice A0_1 l0_1.length c0_1) := (blk_cell BK419.out 1).trans rfl; have hfz6_0 := blk_frozen BK419.out 0; have hfz6_1 := blk_frozen BK419.out 1) | ((with_reducible refine gate_callee (f := 103) rfl ?_); refine zl 5 Tryz.func103 #[.agg #[.int .i64 a0_0, .slice A0_1 l0_1.length c0_1], .func (.func 104) #[] #[]] ?_; (with_reducible refine (firstOfAny.calls k a0_0 _ _ l0_1 t421 t424 t427 _ ?side1 ?side2 A2.out).mono ?_); (case side1 => repeat (first | exact (Kd.C_below HR0_1.out HB.out) | (with_reducible refine Kd.C_alloc ?_ _) | (with_reducible refine Kd.C_drewN ?_ _) | (with_reducible refine Kd.C_drew ?_))); (case side2 => exact HC0_1.out); rintro e w7 ⟨v422, v425, rfl, ow_, ho0, ho1, hb⟩; refine ⟨_, rfl, ?_⟩; have n0_ := Aside0.mk (Kd.S_lower ho0 (below_size (zh HB.out))); have n1_ := Aside0.mk (Kd.S_lower ho1 (below_size (zh HB.out))); have n2_ := Aside0.mk (blk_below (g := gb419) (o := .cells #[.int .i64 a0_0, .slice A0_1 l0_1.length c0_1] 61 (0, 0)) (zb BK419.out) hb); have n3_ := Aside0.mk (blk_below (g := gb420) (o := .cells #[.slice none 0 0, .slice none 0 0] 86 (0, 0)) (zb BK420.out) hb); have n4_ := Aside0.mk (below_step (zh HB.out) hb); clear BK419; clear BK420; clear HB; have HO423 := n0_; have HO426 := n1_; have BK419 := n2_; have BK420 := n3_; have HB := n4_; clear n0_ n1_ n2_ n3_ n4_; (try clear hb); (try clear hb2); (try clear hk); (try clear hi); (try clear ho0); (try clear ho1); obtain ⟨Ao8, co8, eo8⟩ := Kd.S_slice HO423.out; subst eo8; have hcz9_0 : w7.cell? ⟨gb420, 0, none⟩ = some (.slice none 0 0) := (blk_cell BK420.out 0).trans rfl; have hcz9_1 : w7.cell? ⟨gb420, 1, none⟩ = some (.slice none 0 0) := (blk_cell BK420.out 1).trans rfl; have hfz9_0 := blk_frozen BK420.out 0; have hfz9_1 := blk_frozen BK420.out 1; obtain ⟨Ao10, co10, eo10⟩ := Kd.S_slice HO426.out; subst eo10))
 refine bodyPost_ret (results_ct rfl _ _ gb420 86 #[.slice Ao8 t421.length co8, .slice Ao10 t424.length co10] (0, 0) _ rfl (by (with_reducible repeat (first | refine blk_drewN ?_ _ | refine blk_drew ?_ | refine blk_alloc ?_ _)); refine blk_put (cs := #[.slice Ao8 t421.length co8, .slice none 0 0]) ?_ 1 _ rfl; (with_reducible repeat (first | refine blk_drewN ?_ _ | refine blk_drew ?_ | refine blk_alloc ?_ _)); refine blk_put (cs := #[.slice none 0 0, .slice none 0 0]) ?_ 0 _ rfl; (with_reducible repeat (first | refine blk_drewN ?_ _ | refine blk_drew ?_ | refine blk_alloc ?_ _)); exact BK420.out) Tryz.underlying86 rfl (by kernel_rfl)) rfl ?_
 exact ⟨_, _, by first | rfl | (simp [*, errW_none, errW_some] <;> rfl), ow_, by (with_reducible repeat (first | apply Kd.S_alloc | apply Kd.S_drewN | apply Kd.S_drew)); exact Kd.S_mono (Kd.S_far (p := ⟨gb420, 1, none⟩) (Kd.S_far (p := ⟨gb420, 0, none⟩) (Kd.S_types HO423.out BK420.out (by decide)) (fun _ hk => hk.2) (.slice Ao8 t421.length co8)) (fun _ hk => hk.2) (.slice Ao10 t424.length co10)) (fun _ hk => hk.1), by (with_reducible repeat (first | apply Kd.S_alloc | apply Kd.S_drewN | apply Kd.S_drew)); exact Kd.S_mono (Kd.S_far (p := ⟨gb420, 1, none⟩) (Kd.S_far (p := ⟨gb420, 0, none⟩) (Kd.S_types HO426.out BK420.out (by decide)) (fun _ hk => hk.2) (.slice Ao8 t421.length co8)) (fun _ hk => hk.2) (.slice Ao10 t424.length co10)) (fun _ hk => hk.1), zh HB.out⟩
end Go.Proofs.YtmbkmabpebjboaaGreat.Q
end
section
namespace Go.Proofs.YtmbkmabpebjboaaGreat.Q
open Go.RowKit Go.Proofs.YtmbkmabpebjboaaGreatW.PrintWords Go.Proofs.YtmbkmabpebjboaaGreatW.PrintLast Go.Proofs.YtmbkmabpebjboaaGreatW.PrintMore
set_option linter.unusedVariables false
set_option linter.unusedSimpArgs false
set_option maxHeartbeats 1000000 in
theorem impl_allGames_1.pred (t : Int) (b1 : Nat) (w : World) (h1 : w.cell? ⟨b1, 0, none⟩ = some (.int .i64 t)) : PredI Tryz.prog 97 #[] #[.pointer (some ⟨b1, 0, none⟩)] w (fun mask => impl_has.f t mask) := by
  intro W x b hb hp
  show Calls Tryz.prog 97 #[.int .i64 x, .pointer (some ⟨b1, 0, none⟩)] W _
  have q1 := (hb.cell (World.block_lt_of_cell? w _ h1)).trans h1
  have hE := Aside0.mk hp
  clear h1 hb hp
  go_enter Tryz.func97, Tryz.ntmps97
  go_wp2_with (go_at_call 98; refine (impl_has.calls t x b _ hE.out).mono ?_; rintro e w' ⟨rfl, hq⟩; have HQ := Aside0.mk hq; clear hq)
  go_ret
  exact ⟨rfl, HQ.out.below⟩
def votesOf_allGames.f (k : Nat) (a0 t : Int) : Option (Int × List Bool) := impl_votesOf.f k a0 (fun mask => impl_has.f t mask)
theorem votesOf_allGames.mono : ∀ a0 t k, LeO (votesOf_allGames.f k a0 t) (votesOf_allGames.f (k + 1) a0 t) := fun a0 t k => impl_votesOf.mono a0 _ k
theorem votesOf_allGames.calls (k : Nat) (a0 t : Int) (r1 : Int) (r2 : List Bool) (w : World) (gb : Nat) (hcell : w.cell? ⟨gb, 0, none⟩ = some (.int .i64 t)) (h : votesOf_allGames.f k a0 t = some (r1, r2)) :
    Calls Tryz.prog 92 #[.int .i64 a0, .func (.func 97) #[] #[.pointer (some ⟨gb, 0, none⟩)]] w fun e w' => ∃ v1_ : Value, e = .returned (.agg #[.int .i64 r1, v1_]) ∧ Kd.R Kd.bool 4 w' w.heap.size (fun _ => True) v1_ r2 ∧ Below w.heap.size w w' :=
  impl_votesOf.calls k a0 _ 97 #[] #[.pointer (some ⟨gb, 0, none⟩)] (enters_of Tryz.func97 (by kernel_rfl) rfl) r1 r2 w (impl_allGames_1.pred t gb w hcell) h
theorem isLeast.predL (k : Nat) (n : Int) (A : Option Addr) (c : Nat) (l : List Bool) (w : World) (hC : Kd.C Kd.bool w A l.length l) (hc : l.length ≤ c) : PredI Tryz.prog 145 #[.agg #[.int .i64 n, .slice A l.length c]] #[] w (impl_votes_isLeast.f k n l) :=
  fun W x b hb hp => impl_votes_isLeast.calls k n A c l x b W (Kd.C_below hC hb) hc hp
def impl_votes_least.f (k : Nat) (n : Int) (l : List Bool) : Option (List (List Int)) := impl_votes_sets.f k n l (impl_votes_isLeast.f k n l)
theorem sets_pmono {p q : Int → Option Bool} (h : ∀ x, LeO (p x) (q x)) : ∀ k x5 x10 x11, LeO (impl_votes_sets.l0 p k x5 x10 x11) (impl_votes_sets.l0 q k x5 x10 x11)
  | 0, _, _, _ => fun r h => by simp [impl_votes_sets.l0] at h
  | k + 1, x5, x10, x11 => by
    unfold impl_votes_sets.l0
    refine LeO.ite (LeO.bind (h _) fun _ => LeO.ite (LeO.bind (LeO.refl _) fun _ => LeO.ite (sets_pmono h k _ _ _) (LeO.refl _)) (sets_pmono h k _ _ _)) (LeO.refl _)
theorem impl_votes_least.mono : ∀ n l k, LeO (impl_votes_least.f k n l) (impl_votes_least.f (k + 1) n l) := by
  intro n l k r hr
  have h1 := impl_votes_sets.mono n l (impl_votes_isLeast.f k n l) k r hr
  unfold impl_votes_least.f impl_votes_sets.f at *
  exact sets_pmono (fun x => impl_votes_isLeast.mono n l x k) _ _ _ _ _ h1
set_option maxHeartbeats 1000000 in
theorem impl_votes_least.calls (k : Nat) (n : Int) (A : Option Addr) (c : Nat) (l : List Bool) (r : List (List Int)) (w : World) (hC : Kd.C Kd.bool w A l.length l) (hc : l.length ≤ c) (h : impl_votes_least.f k n l = some r) :
    Calls Tryz.prog 128 #[.agg #[.int .i64 n, .slice A l.length c]] w fun e w' => ∃ v0_ : Value, e = .returned v0_ ∧ Kd.S (Kd.slice 3 (Kd.int .i64)) 65 w' w.heap.size (fun _ => True) v0_ r ∧ Below w.heap.size w w' := by
  have HC := Aside0.mk hC
  have HH := Aside0.mk h
  have u1 := Tryz.underlying61
  clear hC h
  go_enter Tryz.func128, Tryz.ntmps128
  go_wp2_with fail
  have hb : ∀ o : Obj, Below w.heap.size w (w.alloc o) := fun _ => (Below.refl _ w).alloc (Nat.le_refl _) _
  refine (impl_votes_sets.calls k n A c l _ 145 #[.agg #[.int .i64 n, .slice A l.length c]] #[] (enters_of Tryz.func145 (by kernel_rfl) rfl) r _ (isLeast.predL k n A c l _ (Kd.C_alloc HC.out _) hc) (Kd.C_alloc HC.out _) hc HH.out).mono ?_
  rintro e w1 ⟨v0, rfl, hS, hb1⟩
  have HS := Aside0.mk hS
  have HB := Aside0.mk hb1
  clear hS hb1
  go_wp2
  go_ret
  exact ⟨v0, rfl, Kd.S_lower HS.out (hb _).size, (hb _).trans (HB.out.mono (hb _).size)⟩
end Go.Proofs.YtmbkmabpebjboaaGreat.Q
end
section
namespace Go.Proofs.YtmbkmabpebjboaaGreat.Q
open Go.RowKit Go.Proofs.YtmbkmabpebjboaaGreatW.PrintWords Go.Proofs.YtmbkmabpebjboaaGreatW.PrintLast Go.Proofs.YtmbkmabpebjboaaGreatW.PrintMore
attribute [local go_sem] max2_int min2_int max_two min_two max_three min_three max_four min_four
set_option linter.unusedVariables false
set_option linter.unusedSimpArgs false
def impl_votes_game.f (k : Nat) (a0_0 : Int) (l0_1 : List Bool) : Option (Int × (List (List Int))) := (impl_votes_least.f k a0_0 l0_1).bind fun t329 => (some (a0_0, t329))
theorem impl_votes_game.mono : ∀ a0 a1 k, LeO (impl_votes_game.f k a0 a1) (impl_votes_game.f (k + 1) a0 a1) := by
 intro a0 a1 k
 unfold impl_votes_game.f
 repeat' first
   | (with_reducible exact impl_votes_least.mono _ _ _)
   | (with_reducible exact LeO.refl _)
   | (with_reducible exact LeO.none _)
   | (with_reducible refine LeO.ite ?_ ?_)
   | (with_reducible refine LeO.bind ?_ (fun _ => ?_))
   | exact impl_votes_least.mono _ _ _
   | exact LeO.none _
   | refine LeO.ite ?_ ?_
   | refine LeO.bind ?_ (fun _ => ?_)
set_option maxHeartbeats 8000000 in
set_option maxRecDepth 100000 in
theorem impl_votes_game.calls (k : Nat) (a0_0 : Int) (A0_1 : Option Addr) (c0_1 : Nat) (l0_1 : List Bool) (r1 : Int) (r2 : List (List Int)) (w : World) (hr0_1 : Kd.C Kd.bool w A0_1 l0_1.length l0_1) (hc0_1 : l0_1.length ≤ c0_1) (h : impl_votes_game.f k a0_0 l0_1 = some (r1, r2)) :
  Calls Tryz.prog 100 #[.agg #[.int .i64 a0_0, .slice A0_1 l0_1.length c0_1]] w fun e w' => ∃ v1_ : Value, e = .returned (.agg #[.int .i64 r1, v1_]) ∧ Kd.S (Kd.slice 3 (Kd.int .i64)) 65 w' w.heap.size (fun _ => True) v1_ r2 ∧ Below w.heap.size w w' := by
 have hu61 := Tryz.underlying61
 have hu28 := Tryz.underlying28
 have HR0_1 := Aside0.mk hr0_1
 have HC0_1 := Aside0.mk hc0_1
 clear hr0_1 hc0_1
 have HB := Aside0.mk (Below.refl w.heap.size w)
 have H : ((impl_votes_least.f k a0_0 l0_1).bind fun t329 => (some (a0_0, t329))) = some (r1, r2) := h
 clear h
 replace H := Option.bind_eq_some_iff.mp H
 obtain ⟨t329, A20, H⟩ := H
 replace H : (some (a0_0, t329)) = some (r1, r2) := H
 have A2 := Aside0.mk A20
 clear A20
 simp only [Option.some.injEq, Prod.mk.injEq] at H
 obtain ⟨rfl, rfl⟩ := H
 go_enter Tryz.func100, Tryz.ntmps100
 try go_wp2_with (first | ((with_reducible refine gate_dst (N := 1) rfl ?_); refine zq 1 #[.int .i64 a0_0, .slice A0_1 l0_1.length c0_1] 61 ?_; intro gb327 hg w3 hbox hb; have n2_ := Aside0.mk ((by rw [hg]; exact (below_size (zh HB.out)) : w.heap.size ≤ gb327)); replace HB := Aside0.mk (below_step (zh HB.out) hb); have BK327 := Aside0.mk hbox; have GW327 := n2_; have GE327 := n2_; clear n2_ hb hbox hg) | ((with_reducible refine gate_dst (N := 2) rfl ?_); refine zq 2 #[.int .i64 0, .slice none 0 0] 28 ?_; intro gb328 hg w4 hbox hb; have n0_ := Aside0.mk (blk_below (g := gb327) (o := .cells #[.int .i64 a0_0, .slice A0_1 l0_1.length c0_1] 61 (0, 0)) (zb BK327.out) hb); have n1_ := Aside0.mk (below_step (zh HB.out) hb); have n2_ := Aside0.mk (hbox); have n3_ := Aside0.mk ((by rw [hg]; exact (below_size (zh HB.out)) : w.heap.size ≤ gb328)); have n4_ := Aside0.mk ((by rw [hg]; exact (below_size (zh HB.out)) : w.heap.size ≤ gb328)); have n5_ := Aside0.mk ((by rw [hg]; exact Nat.ne_of_lt (blk_lt (g := gb327) (o := .cells #[.int .i64 a0_0, .slice A0_1 l0_1.length c0_1] 61 (0, 0)) (zb BK327.out)) : gb327 ≠ gb328)); have n6_ := Aside0.mk ((by rw [hg]; exact Nat.ne_of_gt (blk_lt (g := gb327) (o := .cells #[.int .i64 a0_0, .slice A0_1 l0_1.length c0_1] 61 (0, 0)) (zb BK327.out)) : gb328 ≠ gb327)); clear BK327; clear HB; have BK327 := n0_; have HB := n1_; have BK328 := n2_; have GW328 := n3_; have GE328 := n4_; have NB327_328 := n5_; have NB328_327 := n6_; clear n0_ n1_ n2_ n3_ n4_ n5_ n6_; clear hb hbox hg))
 have n0_ := Aside0.mk (blk_drew BK327.out)
 have n1_ := Aside0.mk (blk_drew BK328.out)
 have n2_ := Aside0.mk (below_drew1 HB.out)
 clear BK327
 clear BK328
 clear HB
 have BK327 := n0_
 have BK328 := n1_
 have HB := n2_
 clear n0_ n1_ n2_
 refine start_ (n := 6) (S := fun w' => w'.cell? ⟨gb327, 0, none⟩ = some (.int .i64 a0_0) ∧ w'.cell? ⟨gb327, 1, none⟩ = some (.slice A0_1 l0_1.length c0_1)) (ds := []) (tb 6 0) (by kernel_rfl) rfl rfl ⟨(blk_cell BK327.out 0).trans rfl, (blk_cell BK327.out 1).trans rfl⟩ (fun hHeld => ?_)
 generalize w4.drew = w5 at BK327 BK328 HB hHeld ⊢
 refine zp1 (i := 0) (N := some 3) (tb 6 1) rfl rfl (by kernel_rfl) ?_
 refine zt (i := 1) (N := some 4) (tb 6 3) rfl rfl (by kernel_rfl) hHeld ?_
 refine zt (i := 2) (N := some 5) (tb 6 7) rfl rfl (by kernel_rfl) hHeld ?_
 refine one_ (i := 3) (N := some 6) (tb 6 15) rfl rfl (by kernel_rfl) (by decide) (fun K hK => ?_)
 refine goes_ Tryz.func128 (by kernel_rfl) rfl #[.agg #[.int .i64 a0_0, .slice A0_1 l0_1.length c0_1]] (by rfl) rfl rfl (by (try simp only [List.map_toArray, List.map_cons, List.map_nil]); first | done | rfl | (simp only [List.length_drop, List.length_take]; rfl)) ?_
 with_reducible refine (impl_votes_least.calls k a0_0 _ _ l0_1 t329 _ ?side1 ?side2 A2.out).mono ?_
 (case side1 => repeat (first | exact (Kd.C_below HR0_1.out HB.out) | (with_reducible refine Kd.C_alloc ?_ _) | (with_reducible refine Kd.C_drewN ?_ _) | (with_reducible refine Kd.C_drew ?_)))
 (case side2 => exact HC0_1.out)
 rintro e w6 ⟨v330, rfl, ho0, hb⟩
 refine ⟨_, rfl, ?_⟩
 have n0_ := Aside0.mk (Kd.S_lower ho0 (below_size (zh HB.out)))
 have n1_ := Aside0.mk (blk_below (g := gb327) (o := .cells #[.int .i64 a0_0, .slice A0_1 l0_1.length c0_1] 61 (0, 0)) (zb BK327.out) hb)
 have n2_ := Aside0.mk (blk_below (g := gb328) (o := .cells #[.int .i64 0, .slice none 0 0] 28 (0, 0)) (zb BK328.out) hb)
 have n3_ := Aside0.mk (below_step (zh HB.out) hb)
 clear BK327
 clear BK328
 clear HB
 have HO331 := n0_
 have BK327 := n1_
 have BK328 := n2_
 have HB := n3_
 clear n0_ n1_ n2_ n3_
 (try clear hb)
 (try clear hb2)
 (try clear hk)
 (try clear hi)
 (try clear ho0)
 obtain ⟨Ao7, co7, eo7⟩ := Kd.S_slice HO331.out
 (first | subst eo7 | (injection eo7 with f1_ f2_ f3_; have f4_ := f1_.symm; have f5_ := f3_.symm; clear f1_ f2_ f3_; subst f4_; subst f5_))
 refine hK.out _ _ ⟨(blk_cell BK327.out 0).trans rfl, (blk_cell BK327.out 1).trans rfl⟩ (fun hHeld => ?_)
 clear hK K
 refine zn1 ?_
 refine zp1 (i := 4) (N := some 7) (tb 6 31) rfl rfl (by kernel_rfl) ?_
 refine one_ (i := 5) (N := none) (tb 6 63) rfl rfl (by kernel_rfl) (by decide) (fun K hK => ?_)
 have hs8 : w6.cell? ⟨gb328, 0, none⟩ = some (.int .i64 0) := (blk_cell BK328.out 0).trans rfl
 have hfs8 := blk_frozen BK328.out 0
 have hns8_0 := NB327_328.out
 have hms8_0 := NB328_327.out
 have hs9 : w6.cell? ⟨gb328, 1, none⟩ = some (.slice none 0 0) := (blk_cell BK328.out 1).trans rfl
 have hfs9 := blk_frozen BK328.out 1
 have hns9_0 := NB327_328.out
 have hms9_0 := NB328_327.out
 refine skip_ (w1 := ?_) (by rfl) rfl ?_ ?_
 rotate_left
 ·go_simp
  rfl
 refine hK.out _ _ ⟨((cell_far (p := ⟨gb328, _, none⟩) NB327_328.out _).trans (((cell_far (p := ⟨gb328, _, none⟩) NB327_328.out _).trans (hHeld.1)))), ((cell_far (p := ⟨gb328, _, none⟩) NB327_328.out _).trans (((cell_far (p := ⟨gb328, _, none⟩) NB327_328.out _).trans (hHeld.2))))⟩ (fun hHeld => ?_)
 clear hK K
 refine done_ (by kernel_rfl) ?_
 try go_wp2
 refine bodyPost_ret (results_cell_row rfl _ _ gb328 28 #[.int .i64 a0_0, .slice Ao7 t329.length co7] (0, 0) _ rfl (by (with_reducible repeat (first | refine blk_drewN ?_ _ | refine blk_drew ?_ | refine blk_alloc ?_ _)); refine blk_put (cs := #[.int .i64 a0_0, .slice none 0 0]) ?_ 1 _ rfl; (with_reducible repeat (first | refine blk_drewN ?_ _ | refine blk_drew ?_ | refine blk_alloc ?_ _)); refine blk_put (cs := #[.int .i64 0, .slice none 0 0]) ?_ 0 _ rfl; (with_reducible repeat (first | refine blk_drewN ?_ _ | refine blk_drew ?_ | refine blk_alloc ?_ _)); exact BK328.out) Tryz.underlying28 rfl (by kernel_rfl)) rfl ?_
 exact ⟨_, by first | rfl | (simp [*, errW_none, errW_some] <;> rfl), by (with_reducible repeat (first | apply Kd.S_alloc | apply Kd.S_drewN | apply Kd.S_drew)); exact Kd.S_mono (Kd.S_far (p := ⟨gb328, 1, none⟩) (Kd.S_far (p := ⟨gb328, 0, none⟩) (Kd.S_types HO331.out BK328.out (by decide)) (fun _ hk => hk.2) (.int .i64 a0_0)) (fun _ hk => hk.2) (.slice Ao7 t329.length co7)) (fun _ hk => trivial), zh HB.out⟩
end Go.Proofs.YtmbkmabpebjboaaGreat.Q
end
section
namespace Go.Proofs.YtmbkmabpebjboaaGreat.Q
open Go.RowKit Go.Proofs.YtmbkmabpebjboaaGreatW.PrintWords Go.Proofs.YtmbkmabpebjboaaGreatW.PrintLast Go.Proofs.YtmbkmabpebjboaaGreatW.PrintMore
set_option linter.unusedVariables false
set_option linter.unusedSimpArgs false
def lexG : List (List Int) → List (List Int) → Bool
  | [], [] => false
  | [], _ :: _ => true
  | _ :: _, [] => false
  | x :: xs, y :: ys => if x = y then lexG xs ys else lexB x y
def cmpG : List (List Int) → List (List Int) → Int
  | [], [] => 0
  | [], _ :: _ => -1
  | _ :: _, [] => 1
  | x :: xs, y :: ys => if x = y then cmpG xs ys else cmpL x y
theorem cmpG_lt : ∀ a b, decide (cmpG a b < 0) = lexG a b
  | [], [] => rfl
  | [], _ :: _ => rfl
  | _ :: _, [] => rfl
  | x :: xs, y :: ys => by
    unfold cmpG lexG
    by_cases h : x = y
    · rw [if_pos h, if_pos h]; exact cmpG_lt xs ys
    · rw [if_neg h, if_neg h]; exact cmpL_lt x y
theorem cmpL_zero : ∀ a b, cmpL a b = 0 ↔ a = b
  | [], [] => by simp [cmpL]
  | [], _ :: _ => by simp [cmpL]
  | _ :: _, [] => by simp [cmpL]
  | x :: xs, y :: ys => by
    unfold cmpL
    by_cases h : x = y
    · subst h; rw [if_pos rfl, cmpL_zero xs ys]; simp
    · rw [if_neg h]
      by_cases h2 : x < y
      · rw [if_pos h2]; simp [h]
      · rw [if_neg h2]; simp [h]
theorem lexG_irrefl : ∀ a, lexG a a = false
  | [] => rfl
  | x :: xs => by rw [lexG, if_pos rfl]; exact lexG_irrefl xs
theorem lexG_trans : ∀ a b c, lexG a b = true → lexG b c = true → lexG a c = true
  | [], [], _, h, _ => by cases h
  | [], _ :: _, [], _, h => by cases h
  | [], _ :: _, _ :: _, _, _ => rfl
  | _ :: _, [], _, h, _ => by cases h
  | _ :: _, _ :: _, [], _, h => by cases h
  | x :: xs, y :: ys, z :: zs, h1, h2 => by
    rw [lexG] at h1 h2 ⊢
    by_cases e1 : x = y
    · subst e1
      rw [if_pos rfl] at h1
      by_cases e2 : x = z
      · subst e2
        rw [if_pos rfl] at h2 ⊢
        exact lexG_trans xs ys zs h1 h2
      · rw [if_neg e2] at h2 ⊢; exact h2
    · rw [if_neg e1] at h1
      by_cases e2 : y = z
      · subst e2
        rw [if_neg e1]; exact h1
      · rw [if_neg e2] at h2
        have h3 := lexB_trans _ _ _ h1 h2
        rw [if_neg (fun e => by subst e; rw [lexB_irrefl] at h3; cases h3)]
        exact h3
theorem lexG_total : ∀ a b, lexG a b = false → lexG b a = false → a = b
  | [], [], _, _ => rfl
  | [], _ :: _, h, _ => by cases h
  | _ :: _, [], _, h => by cases h
  | x :: xs, y :: ys, h1, h2 => by
    rw [lexG] at h1 h2
    by_cases e : x = y
    · subst e
      rw [if_pos rfl] at h1 h2
      rw [lexG_total xs ys h1 h2]
    · rw [if_neg e] at h1
      rw [if_neg (fun q => e q.symm)] at h2
      exact absurd (lexB_total _ _ h1 h2) e
theorem lexG_asymm {a b : List (List Int)} (h : lexG a b = true) : lexG b a = false := by
  cases h2 : lexG b a
  · rfl
  · have := lexG_trans _ _ _ h h2
    rw [lexG_irrefl] at this; cases this
theorem lexG_ntrans (a b c : List (List Int)) (h1 : lexG a b = false) (h2 : lexG b c = false) : lexG a c = false := by
  cases h3 : lexG a c
  · rfl
  · cases h4 : lexG b a
    · have := lexG_total a b h1 h4
      subst this
      rw [h2] at h3; cases h3
    · rw [lexG_trans _ _ _ h4 h3] at h2; cases h2
theorem sort_filter {α : Type} (lt : α → α → Bool) (hnt : ∀ a b c, lt a b = false → lt b c = false → lt a c = false) (has : ∀ a b, lt a b = true → lt b a = false) (tot : ∀ a b, lt a b = false → lt b a = false → a = b) (p : α → Bool) (l : List α) :
    sortL lt (l.filter p) = (sortL lt l).filter p := by
  symm
  exact sortL_eq lt hnt has tot ((sortL_perm lt l).filter p) ((sortL_sorted lt hnt has l).filter p)
theorem cmpG_drop {a b : List (List Int)} {i : Nat} (h : i < a.length) : cmpG (a.drop i) (b.drop i) = if h2 : i < b.length then (if a[i] = b[i] then cmpG (a.drop (i + 1)) (b.drop (i + 1)) else cmpL a[i] b[i]) else 1 := by
  rw [List.drop_eq_getElem_cons h]
  by_cases h2 : i < b.length
  · rw [dif_pos h2, List.drop_eq_getElem_cons h2, cmpG]
  · have hb : b.drop i = [] := List.drop_of_length_le (by omega)
    rw [dif_neg h2, hb]; rfl
theorem drewN_drewN (w : World) (a b : Nat) : (w.drewN a).drewN b = w.drewN (a + b) := by
  induction b with
  | zero => rfl
  | succ b ih => exact congrArg World.drew ih
set_option maxHeartbeats 2000000 in
set_option maxRecDepth 100000 in
theorem compareFunc.calls (A B : Option Addr) (c d : Nat) (a b : List (List Int)) (w : World) (hA : Kd.C (Kd.slice 3 (Kd.int .i64)) w A a.length a) (hc : a.length ≤ c) (hB : Kd.C (Kd.slice 3 (Kd.int .i64)) w B b.length b) (hd : b.length ≤ d) (hx : ∀ x ∈ a, x.length ≤ 1152921504606846976) :
    Calls Tryz.prog 131 #[.slice A a.length c, .slice B b.length d, .func (.func 90) #[] #[]] w fun e w' => e = .returned (.int .i64 (cmpG a b)) ∧ ∃ q, w' = w.drewN q := by
  have hlm := Kd.C_max hA
  have eg : ∀ args w, (callFunc 90 args).run Tryz.prog w = .ok (.enter 90 args) w := enters_of Tryz.func90 (by kernel_rfl) rfl
  have HA := Aside0.mk hA
  have HB := Aside0.mk hB
  have HX := Aside0.mk hx
  clear hA hB hx
  generalize hr : cmpG a b = r
  have HR := Aside0.mk hr
  clear hr
  go_enter Tryz.func131, Tryz.ntmps131
  go_wp2
  go_loopg [13] a.length (fun gg v13 wr => ∃ kk : Nat, kk ≤ a.length ∧ a.length - kk ≤ gg ∧ v13 = .int .i64 kk ∧ Aside0 (∃ q, wr = w.drewN q) ∧ Aside0 (cmpG (a.drop kk) (b.drop kk) = r))
  case atStart => exact ⟨0, Nat.zero_le _, Nat.le_refl _, rfl, ⟨⟨0, rfl⟩⟩, HR⟩
  case round =>
    clear HR
    obtain ⟨kk, hkk, hg, rfl, HQ, HR⟩ := hrel
    have hAr : Kd.C (Kd.slice 3 (Kd.int .i64)) wr A a.length a := by obtain ⟨q, hq⟩ := HQ.out; rw [hq]; exact Kd.C_drewN HA.out q
    have hBr : Kd.C (Kd.slice 3 (Kd.int .i64)) wr B b.length b := by obtain ⟨q, hq⟩ := HQ.out; rw [hq]; exact Kd.C_drewN HB.out q
    have HAr := Aside0.mk hAr
    have HBr := Aside0.mk hBr
    clear hAr hBr
    by_cases hlt : kk < a.length
    · have hltz : (kk : Int) < (a.length : Int) := Int.ofNat_lt.2 hlt
      have hR := HR.out
      rw [cmpG_drop hlt] at hR
      have hxa := HX.out _ (List.getElem_mem hlt)
      obtain ⟨ad, A1, c1, e, x0, hl1, hC1⟩ := at_L1 HAr.out (kk : Int) (Int.natCast_nonneg _) hltz
      subst e
      have ea : rd_L1 a (kk : Int) = a[kk] := by unfold rd_L1; rw [Int.toNat_natCast, List.getD_eq_getElem?_getD, List.getElem?_eq_getElem hlt]; rfl
      rw [ea] at x0 hl1 hC1
      rw [Int.toNat_natCast] at x0
      generalize a[kk] = x at hR hxa x0 hl1 hC1
      clear ea
      by_cases h2 : kk < b.length
      · have h2z : (kk : Int) < (b.length : Int) := Int.ofNat_lt.2 h2
        have h2b : decide ((kk : Int) ≥ (b.length : Int)) = false := decide_eq_false (Int.not_le.2 h2z)
        rw [dif_pos h2] at hR
        obtain ⟨bd, B1, d1, e, y0, hl2, hC2⟩ := at_L1 HBr.out (kk : Int) (Int.natCast_nonneg _) h2z
        subst e
        have eb : rd_L1 b (kk : Int) = b[kk] := by unfold rd_L1; rw [Int.toNat_natCast, List.getD_eq_getElem?_getD, List.getElem?_eq_getElem h2]; rfl
        rw [eb] at y0 hl2 hC2
        rw [Int.toNat_natCast] at y0
        generalize b[kk] = y at hR y0 hl2 hC2
        clear eb
        obtain ⟨K, hK⟩ := Compare_ev x y hxa
        have hk : slices_Compare_int_int.f K x y = some (cmpL x y) := hK K (Nat.le_refl _)
        have HCL := Aside0.mk (slices_Compare_int_int.calls K A1 c1 x B1 d1 y (cmpL x y) wr hC1 hl1 hC2 hl2 hk)
        have HR2 := Aside0.mk hR
        have hcz := cmpL_zero x y
        clear hk hC1 hC2 hK hxa HR hR
        generalize cmpL x y = cv at HCL HR2 hcz
        by_cases hxy : x = y
        · have c0 := hcz.2 hxy
          subst c0
          have hR := HR2.out
          rw [if_pos hxy] at hR
          have HR3 := Aside0.mk hR
          clear hR HR2 hxy hcz
          go_wp2_with (go_at_fn 90; refine HCL.out.mono ?_; rintro e w' ⟨rfl, ⟨m, rfl⟩⟩)
          go_roundg (a.length - (kk + 1))
          case measure => omega
          case rel => exact ⟨kk + 1, by omega, by omega, by congr 1; (try (unfold wrap64; omega)), ⟨by obtain ⟨q, hq⟩ := HQ.out; exact ⟨_, by rw [hq]; exact drewN_drewN _ _ _⟩⟩, HR3⟩
        · have c0 : ¬ cv = 0 := fun e => hxy (hcz.1 e)
          have c0b : (cv == 0) = false := by rw [beq_eq_false_iff_ne]; exact c0
          have c0d : decide (cv = 0) = false := decide_eq_false c0
          have hR := HR2.out
          rw [if_neg hxy] at hR
          subst hR
          clear HR2 hxy hcz
          go_wp2_with (go_at_fn 90; refine HCL.out.mono ?_; rintro e w' ⟨rfl, ⟨m, rfl⟩⟩)
          go_ret
          exact ⟨rfl, by obtain ⟨q, hq⟩ := HQ.out; exact ⟨_, by rw [hq]; exact drewN_drewN _ _ _⟩⟩
      · have h2b : decide ((kk : Int) ≥ (b.length : Int)) = true := decide_eq_true (by omega)
        have h2z : ¬ (kk : Int) < (b.length : Int) := by omega
        rw [dif_neg h2] at hR
        have HR2 := Aside0.mk hR
        clear hR HR hC1
        go_wp2
        go_ret
        exact ⟨by rw [← HR2.out]; rfl, HQ.out⟩
    · have hkl : kk = a.length := by omega
      have hltz : ¬ (kk : Int) < (a.length : Int) := by omega
      subst hkl
      have hR := HR.out
      rw [List.drop_length] at hR
      by_cases h2 : a.length < b.length
      · have h2b : decide ((a.length : Int) < (b.length : Int)) = true := decide_eq_true (by omega)
        have hR2 : r = -1 := by rw [← hR, List.drop_eq_getElem_cons h2]; rfl
        have HR2 := Aside0.mk hR2
        clear hR hR2 HR
        go_wp2
        go_ret
        exact ⟨by rw [HR2.out]; rfl, HQ.out⟩
      · have h2b : decide ((a.length : Int) < (b.length : Int)) = false := decide_eq_false (by omega)
        have hR2 : r = 0 := by rw [← hR, List.drop_of_length_le (by omega)]; rfl
        have HR2 := Aside0.mk hR2
        clear hR hR2 HR
        go_wp2
        go_ret
        exact ⟨by rw [HR2.out]; rfl, HQ.out⟩
set_option maxHeartbeats 2000000 in
set_option maxRecDepth 100000 in
theorem compareGames.lays (m n : Int) (A B : Option Addr) (c d : Nat) (a b : List (List Int)) (w : World) (hA : Kd.C (Kd.slice 3 (Kd.int .i64)) w A a.length a) (hc : a.length ≤ c) (hB : Kd.C (Kd.slice 3 (Kd.int .i64)) w B b.length b) (hd : b.length ≤ d) (hx : ∀ x ∈ a, x.length ≤ 1152921504606846976) :
    Calls Tryz.prog 102 #[.agg #[.int .i64 m, .slice A a.length c], .agg #[.int .i64 n, .slice B b.length d]] w fun e w' => e = .returned (.int .i64 (cmpG a b)) ∧ ∃ q os, w' = Go.Sort.grow (w.drewN q) os := by
  have hcall := fun W (hb : Below w.heap.size w W) => compareFunc.calls A B c d a b W (Kd.C_below hA hb) hc (Kd.C_below hB hb) hd hx
  have HCL := Aside0.mk hcall
  have u1 := Tryz.underlying28
  clear hA hB hx hcall
  go_enter Tryz.func102, Tryz.ntmps102
  have hh := HCL.out ((w.alloc (.cells #[.int .i64 m, .slice A a.length c] 28)).alloc (.cells #[.int .i64 n, .slice B b.length d] 28)) (((Below.refl _ w).alloc (Nat.le_refl _) _).alloc (by simp) _)
  have HH := Aside0.mk hh
  clear hh HCL
  go_wp2_with (go_at_call 131; refine HH.out.mono ?_; rintro e w' ⟨rfl, ⟨q, rfl⟩⟩)
  go_ret
  refine ⟨rfl, q, #[.cells #[.int .i64 m, .slice A a.length c] 28 (0, 0), .cells #[.int .i64 n, .slice B b.length d] 28 (0, 0)], ?_⟩
  rw [Go.Sort.alloc_eq_grow, Go.Sort.alloc_eq_grow, Go.Sort.grow_grow]
  rfl
end Go.Proofs.YtmbkmabpebjboaaGreat.Q
end
section
namespace Go.Proofs.YtmbkmabpebjboaaGreat.Q
open Go.RowKit Go.Proofs.YtmbkmabpebjboaaGreatW.PrintWords Go.Proofs.YtmbkmabpebjboaaGreatW.PrintLast Go.Proofs.YtmbkmabpebjboaaGreatW.PrintMore
set_option linter.unusedVariables false
set_option linter.unusedSimpArgs false
def ly101_ren : Go.Shelf.Ren := ⟨fun | 6 => 101 | 15 => 130 | 14 => 129 | 28 => 154 | 29 => 155 | 20 => 146 | 21 => 147 | 22 => 148 | 23 => 149 | 24 => 150 | 25 => 151 | 26 => 152 | 27 => 153 | 46 => 164 | 47 => 165 | 48 => 166 | 49 => 167 | 50 => 168 | 57 => 170 | n => n, fun | 22 => 42 | 24 => 28 | 25 => 126 | 3 => 3 | 39 => 144 | 0 => 0 | 53 => 163 | 55 => 165 | 4 => 4 | 46 => 157 | 45 => 156 | 50 => 26 | 5 => 5 | 9 => 9 | 66 => 168 | 70 => 172 | 76 => 175 | 77 => 96 | n => n, fun | n => n⟩
theorem ly101 : Go.Proofs.SlLaysF0.n6 Tryz.prog ly101_ren := {
  mixed := by kernel_rfl
  f6 := ⟨Tryz.f101.name, by decide, Tryz.func101.trans (congrArg some (by kernel_rfl))⟩
  f14 := ⟨Tryz.f129.name, by decide, Tryz.func129.trans (congrArg some (by kernel_rfl))⟩
  f15 := Tryz.func130.trans (congrArg some (by kernel_rfl))
  f20 := ⟨Tryz.f146.name, by decide, Tryz.func146.trans (congrArg some (by kernel_rfl))⟩
  f21 := ⟨Tryz.f147.name, by decide, Tryz.func147.trans (congrArg some (by kernel_rfl))⟩
  f22 := ⟨Tryz.f148.name, by decide, Tryz.func148.trans (congrArg some (by kernel_rfl))⟩
  f23 := ⟨Tryz.f149.name, by decide, Tryz.func149.trans (congrArg some (by kernel_rfl))⟩
  f24 := ⟨Tryz.f150.name, by decide, Tryz.func150.trans (congrArg some (by kernel_rfl))⟩
  f25 := ⟨Tryz.f151.name, by decide, Tryz.func151.trans (congrArg some (by kernel_rfl))⟩
  f26 := ⟨Tryz.f152.name, by decide, Tryz.func152.trans (congrArg some (by kernel_rfl))⟩
  f27 := ⟨Tryz.f153.name, by decide, Tryz.func153.trans (congrArg some (by kernel_rfl))⟩
  f28 := Tryz.func154.trans (congrArg some (by kernel_rfl))
  f29 := Tryz.func155.trans (congrArg some (by kernel_rfl))
  f46 := ⟨Tryz.f164.name, by decide, Tryz.func164.trans (congrArg some (by kernel_rfl))⟩
  f47 := Tryz.func165.trans (congrArg some (by kernel_rfl))
  f48 := Tryz.func166.trans (congrArg some (by kernel_rfl))
  f49 := ⟨Tryz.f167.name, by decide, Tryz.func167.trans (congrArg some (by kernel_rfl))⟩
  f50 := ⟨Tryz.f168.name, by decide, Tryz.func168.trans (congrArg some (by kernel_rfl))⟩
  f57 := ⟨Tryz.f170.name, by decide, Tryz.func170.trans (congrArg some (by kernel_rfl))⟩
  t0 := Tryz.underlying0
  a0 := Tryz.isAgg0
  z0 := Tryz.sizeOf0
  v0 := Tryz.zeroValue0
  t3 := Tryz.underlying3
  a3 := Tryz.isAgg3
  z3 := Tryz.sizeOf3
  v3 := Tryz.zeroValue3
  t4 := Tryz.underlying4
  a4 := Tryz.isAgg4
  z4 := Tryz.sizeOf4
  v4 := Tryz.zeroValue4
  t5 := Tryz.underlying5
  a5 := Tryz.isAgg5
  z5 := Tryz.sizeOf5
  v5 := Tryz.zeroValue5
  t9 := Tryz.underlying9
  a9 := Tryz.isAgg9
  z9 := Tryz.sizeOf9
  v9 := Tryz.zeroValue9
  t22 := Tryz.underlying42
  a22 := Tryz.isAgg42
  z22 := Tryz.sizeOf42
  v22 := Tryz.zeroValue42
  t25 := Tryz.underlying126
  a25 := Tryz.isAgg126
  z25 := Tryz.sizeOf126
  v25 := Tryz.zeroValue126
  t39 := Tryz.underlying144
  a39 := Tryz.isAgg144
  z39 := Tryz.sizeOf144
  v39 := Tryz.zeroValue144
  t45 := Tryz.underlying156
  a45 := Tryz.isAgg156
  z45 := Tryz.sizeOf156
  v45 := Tryz.zeroValue156
  t46 := Tryz.underlying157
  a46 := Tryz.isAgg157
  z46 := Tryz.sizeOf157
  v46 := Tryz.zeroValue157
  t50 := Tryz.underlying26
  a50 := Tryz.isAgg26
  z50 := Tryz.sizeOf26
  v50 := Tryz.zeroValue26
  t53 := Tryz.underlying163
  a53 := Tryz.isAgg163
  z53 := Tryz.sizeOf163
  v53 := Tryz.zeroValue163
  t55 := Tryz.underlying165
  a55 := Tryz.isAgg165
  z55 := Tryz.sizeOf165
  v55 := Tryz.zeroValue165
  t66 := Tryz.underlying168
  a66 := Tryz.isAgg168
  z66 := Tryz.sizeOf168
  v66 := Tryz.zeroValue168
  t70 := Tryz.underlying172
  a70 := Tryz.isAgg172
  z70 := Tryz.sizeOf172
  v70 := Tryz.zeroValue172
  t76 := Tryz.underlying175
  a76 := Tryz.isAgg175
  z76 := Tryz.sizeOf175
  v76 := Tryz.zeroValue175
  t77 := Tryz.underlying96
  a77 := Tryz.isAgg96
  z77 := Tryz.sizeOf96
  v77 := Tryz.zeroValue96 }
open Go.Shelf Go.Lib Go.Sort
structure QG (W : World) (okq : Nat → Prop) (base : Nat) where
  v : Value
  x : S28
  hM : Kd.R (Kd.slice 3 (Kd.int .i64)) 65 W base okq v x.f1
  hl : ∀ s ∈ x.f1, s.length ≤ 1152921504606846976
def QG.enc {W okq base} (q : QG W okq base) : List Value := [.int .i64 q.x.f0, q.v]
instance {W okq base} : Inhabited (QG W okq base) := ⟨⟨.slice none 0 0, ⟨0, []⟩, Kd.R_nil _ _ _ _ _, by simp⟩⟩
def sortGames.f (l : List S28) : Option (List S28) := if (decide (l.length < 1000000) && l.all (fun x => decide (x.f0 = (l.headD z28).f0) && x.f1.all fun s => decide (s.length ≤ 1152921504606846976))) = true then some ((sortL lexG (l.map fun x => x.f1)).map fun s => ⟨(l.headD z28).f0, s⟩) else none
theorem cmp_laysG (W : World) (okq : Nat → Prop) (base g n : Nat) (hg : ∀ k, okq k → k ≠ g) :
    CmpLays Tryz.prog 102 #[] (fun q : QG W okq base => q.enc) 2 (fun x y => cmpG x.x.f1 y.x.f1) g 0 n W := by
  intro m os dk hs x y
  have hgr := grownBy_sorted (fun v : Value => v) (w := W) (g := g) (n := m) (os := os) (flatK (fun q : QG W okq base => q.enc) 2 dk)
  have hx := Kd.R_grown x.hM hgr (fun k hk e => hg k hk (by injection e))
  have hy := Kd.R_grown y.hM hgr (fun k hk e => hg k hk (by injection e))
  change Kd.R _ _ (sortWorldK (fun q : QG W okq base => q.enc) 2 W g 0 m dk os) _ _ _ _ at hx
  change Kd.R _ _ (sortWorldK (fun q : QG W okq base => q.enc) 2 W g 0 m dk os) _ _ _ _ at hy
  generalize sortWorldK (fun q : QG W okq base => q.enc) 2 W g 0 m dk os = wS at hx hy
  obtain ⟨A, c, hxv, hxl, hxC⟩ := Kd.R_reads hx
  obtain ⟨B, d, hyv, hyl, hyC⟩ := Kd.R_reads hy
  have := compareGames.lays x.x.f0 y.x.f0 A B c d x.x.f1 y.x.f1 wS hxC hxl hyC hyl x.hl
  show Calls Tryz.prog 102 #[.agg #[.int .i64 x.x.f0, x.v], .agg #[.int .i64 y.x.f0, y.v]] wS _
  rw [hxv, hyv]
  exact this
theorem swo_lexG {W okq base} : SWO (ltOf (fun x y : QG W okq base => cmpG x.x.f1 y.x.f1)) where
  irrefl x := by unfold ltOf; rw [cmpG_lt]; exact lexG_irrefl _
  trans x y z h1 h2 := by unfold ltOf at *; rw [cmpG_lt] at *; exact lexG_trans _ _ _ h1 h2
  ntrans x y z h1 h2 := by unfold ltOf at *; rw [cmpG_lt] at *; exact lexG_ntrans _ _ _ h1 h2
theorem flat_inner {W okq base} {ss : List (QG W okq base)} {inner : List Value} (hl : inner.length = ss.length * 2) (h : ∀ j (hj : j < ss.length), (inner.drop (j * 2)).take 2 = ss[j].enc) : inner = (flatK (fun q : QG W okq base => q.enc) 2 ss.toArray).toList := by
  have hfs : (flatK (fun q : QG W okq base => q.enc) 2 ss.toArray).size = ss.length * 2 := by rw [size_flatK, List.size_toArray]
  refine List.ext_getElem (hl.trans (hfs.symm.trans Array.length_toList.symm)) fun t h1 h2 => ?_
  have ht : t < ss.length * 2 := by omega
  have hj : t / 2 < ss.length := by omega
  have hm : t % 2 < 2 := Nat.mod_lt _ (by decide)
  have e : ((inner.drop (t / 2 * 2)).take 2)[t % 2]? = (ss[t / 2].enc)[t % 2]? := congrArg (fun z => z[t % 2]?) (h (t / 2) hj)
  rw [List.getElem?_take_of_lt hm, List.getElem?_drop, show t / 2 * 2 + t % 2 = t by omega, List.getElem?_eq_getElem h1] at e
  have g := get_flatK (fun q : QG W okq base => q.enc) 2 ss.toArray t (by rw [List.size_toArray]; exact ht)
  rw [getElem!_pos _ t (by rw [size_flatK, List.size_toArray]; exact ht)] at g
  refine Eq.trans ?_ (Eq.trans g.symm (Array.getElem_toList ..).symm)
  have e2 : ss.toArray[t / 2]! = ss[t / 2] := by rw [getElem!_pos _ _ (by rw [List.size_toArray]; exact hj), List.getElem_toArray]
  rw [e2]
  have hel : (ss[t / 2]).enc.length = 2 := rfl
  rw [List.getElem?_eq_getElem (by rw [hel]; exact hm)] at e
  rw [getElem!_pos (ss[t / 2].enc) (t % 2) (by rw [hel]; exact hm)]
  exact Option.some.inj e
theorem flat_seg {W okq base} (ss : List (QG W okq base)) (j : Nat) (hj : j < ss.length) : (((flatK (fun q : QG W okq base => q.enc) 2 ss.toArray).toList).drop (j * 2)).take 2 = ss[j].enc := by
  have hel : (ss[j]).enc.length = 2 := rfl
  refine List.ext_getElem (by rw [List.length_take, List.length_drop, Array.length_toList, size_flatK, List.size_toArray, hel]; omega) fun t h1 h2 => ?_
  have ht : t < 2 := by rw [hel] at h2; exact h2
  rw [List.getElem_take, List.getElem_drop, Array.getElem_toList]
  have g := get_flatK (fun q : QG W okq base => q.enc) 2 ss.toArray (j * 2 + t) (by rw [List.size_toArray]; omega)
  rw [getElem!_pos _ _ (by rw [size_flatK, List.size_toArray]; omega)] at g
  rw [g, show (j * 2 + t) / 2 = j by omega, show (j * 2 + t) % 2 = t by omega]
  have e2 : ss.toArray[j]! = ss[j] := by rw [getElem!_pos _ _ (by rw [List.size_toArray]; exact hj), List.getElem_toArray]
  rw [e2, getElem!_pos (ss[j].enc) t h2]
theorem isAggG (w : World) : (isAgg 28).run Tryz.prog w = .ok true w := by kernel_rfl
theorem sizeOfG (w : World) : (Go.sizeOf 28).run Tryz.prog w = .ok 2 w := by kernel_rfl
theorem sortGames.calls (l t : List S28) (A : Option Addr) (c base : Nat) (ok : Nat → Prop) (w : World) (hR : Kd.R k28 28 w base ok (.slice A l.length c) l) (h : sortGames.f l = some t) :
    Calls Tryz.prog 101 #[.slice A l.length c, .func (.func 102) #[] #[]] w fun e w' =>
      e = .returned (.tuple #[]) ∧ Kd.R k28 28 w' base ok (.slice A l.length c) t ∧ t.length = l.length ∧ w.grownBy w' (Value.slice A l.length c).ownBlock := by
  unfold sortGames.f at h
  split at h
  case isFalse => cases h
  rename_i hall
  rw [Bool.and_eq_true, decide_eq_true_eq] at hall
  obtain ⟨hsz, hall⟩ := hall
  obtain rfl := Option.some.inj h
  generalize (l.headD z28).f0 = m at hall
  have hall0 : ∀ x ∈ l, x.f0 = m ∧ ∀ s ∈ x.f1, s.length ≤ 1152921504606846976 := fun x hx => by
    have := List.all_eq_true.1 hall x hx
    rw [Bool.and_eq_true, decide_eq_true_eq] at this
    exact ⟨this.1, fun s hs => of_decide_eq_true (List.all_eq_true.1 this.2 s hs)⟩
  have htl0 : ((sortL lexG (l.map fun x => x.f1)).map fun s => (⟨m, s⟩ : S28)).length = l.length := by rw [List.length_map, (sortL_perm lexG _).length_eq, List.length_map]
  by_cases h0 : l.length = 0
  · have hl0 := List.length_eq_zero_iff.1 h0
    subst hl0
    have hcon := AnyF.slices_SortFunc_none { ly101 with } A c (.func (.func 102) #[] #[]) w
    change Calls Tryz.prog 101 _ _ _ at hcon
    refine hcon.mono ?_
    rintro e w' ⟨rfl, rfl⟩
    exact ⟨rfl, hR, rfl, ⟨rfl, rfl, rfl, Nat.le_refl _, fun _ _ _ => rfl⟩⟩
  obtain ⟨hok, inner, ho, hr⟩ := hR
  rcases ho.2 with ⟨hv, hn⟩ | ⟨g, cap, cur, hv, hbase, hb, h1, h2, h3, h4⟩
  · exact absurd hn h0
  injection hv with hA _ hc
  subst hA; subst hc
  have hil : inner.length = l.length * 2 := ho.1
  change cur.size = c * 2 at h3
  change cur.toList.take (l.length * 2) = inner at h4
  have key : ∀ j : Nat, ∃ q : QG w (fun k => ok k ∧ k ≠ g) base, j < l.length → q.x = l.getD j z28 ∧ (inner.drop (j * 2)).take 2 = q.enc := by
    intro j
    by_cases hj : j < l.length
    · have hp := hr.2 j _ (List.getElem?_eq_getElem hj)
      obtain ⟨v, hv, hR1⟩ := k28_openM hp
      refine ⟨⟨v, l[j], Kd.R_mono hR1 (fun k hk => ⟨hk.1, fun e => hk.2 (by rw [e]; rfl)⟩), (hall0 _ (List.getElem_mem hj)).2⟩, fun _ => ⟨?_, hv⟩⟩
      rw [List.getD_eq_getElem?_getD, List.getElem?_eq_getElem hj]; rfl
    · exact ⟨default, fun e => absurd e hj⟩
  obtain ⟨fq, hfq⟩ := Classical.axiomOfChoice key
  obtain ⟨ss, hss⟩ : ∃ ss, ss = (List.range l.length).map fq := ⟨_, rfl⟩
  have hsl : ss.length = l.length := by rw [hss]; simp
  have hget : ∀ j (hj : j < ss.length), ss[j] = fq j := fun j hj => by simp [hss]
  have hinn : inner = (flatK (fun q : QG w (fun k => ok k ∧ k ≠ g) base => q.enc) 2 ss.toArray).toList := flat_inner (by rw [hil, hsl]) fun j hj => by rw [hget j hj]; exact (hfq j (by omega)).2
  have hsll : ss.map QG.x = l := by
    refine List.ext_getElem (by rw [List.length_map]; exact hsl) fun j h1 h2 => ?_
    rw [List.getElem_map, hget, (hfq j h2).1, List.getD_eq_getElem?_getD, List.getElem?_eq_getElem h2]; rfl
  have hH : HoldsK (fun q : QG w (fun k => ok k ∧ k ≠ g) base => q.enc) 2 w g 0 ss.toArray := by
    have := holds_of_block (fun v : Value => v) (ss := (flatK (fun q : QG w (fun k => ok k ∧ k ≠ g) base => q.enc) 2 ss.toArray).toList) hb (by rw [← hinn, hil, h4, List.map_id'])
    rwa [Array.toArray_toList] at this
  have eg : ∀ args w, (callFunc 102 args).run Tryz.prog w = .ok (.enter 102 args) w := enters_of Tryz.func102 (by kernel_rfl) rfl
  have hcon := AnyQ.slices_SortFunc ly101 2 isAggG sizeOfG (fun q : QG w (fun k => ok k ∧ k ≠ g) base => q.enc) (fun _ => rfl) (fun q v hv => by simp [QG.enc] at hv; rcases hv with rfl | rfl; exact rfl; exact (Kd.R_val q.hM).2) (fun x y => cmpG x.x.f1 y.x.f1) swo_lexG 102 #[] g 0 c ss.toArray w eg (cmp_laysG w _ base g _ (fun k hk => hk.2)) hH (Array.getElem?_eq_some_iff.1 hb).1 (by rw [List.size_toArray, hsl]; omega)
  change Calls Tryz.prog 101 _ _ _ at hcon
  rw [List.size_toArray, hsl] at hcon
  refine hcon.mono ?_
  rintro e w' ⟨rfl, d', n, os, hp, hs, rfl⟩
  obtain ⟨ts, rfl⟩ : ∃ ts : List _, d' = ts.toArray := ⟨d'.toList, rfl⟩
  obtain ⟨fl, hfl⟩ : ∃ fl, fl = flatK (fun q : QG w (fun k => ok k ∧ k ≠ g) base => q.enc) 2 ts.toArray := ⟨_, rfl⟩
  have hgr := grownBy_sorted (fun v : Value => v) (w := w) (g := g) (n := n) (os := os) fl
  have hhp := heap_sorted (fun v : Value => v) (w := w) (g := g) (n := n) (os := os) fl hb
  have hws : sortWorldK (fun q : QG w (fun k => ok k ∧ k ≠ g) base => q.enc) 2 w g 0 n ts.toArray os = sortWorld (fun v : Value => v) w g 0 n fl os := by rw [hfl]; rfl
  rw [hws]
  have hperm : ts.Perm ss := perm_of_PermIn (d := ss.toArray) (by simpa [hsl] using hp)
  have htl : ts.length = l.length := by rw [hperm.length_eq, hsl]
  have hsort : ts.Pairwise (fun a b => ltOf (fun x y : QG w (fun k => ok k ∧ k ≠ g) base => cmpG x.x.f1 y.x.f1) b a = false) := pairwise_of_SortedIn (d := ts.toArray) (by simpa [htl] using hs)
  have ht1 : ts.map (fun q => q.x.f1) = sortL lexG (l.map fun x => x.f1) := by
    refine sortL_eq lexG lexG_ntrans (fun _ _ => lexG_asymm) lexG_total ?_ ?_
    · rw [← hsll, List.map_map]; exact hperm.map _
    · rw [List.pairwise_map]
      refine hsort.imp fun h => ?_
      unfold ltOf at h
      rwa [cmpG_lt] at h
  have ht : ts.map QG.x = (sortL lexG (l.map fun x => x.f1)).map fun s => (⟨m, s⟩ : S28) := by
    rw [← ht1, List.map_map]
    refine List.map_congr_left fun q hq => ?_
    have hm : q.x ∈ l := by rw [← hsll]; exact List.mem_map_of_mem (hperm.mem_iff.1 hq)
    have := (hall0 _ hm).1
    show q.x = ⟨m, q.x.f1⟩
    rw [← this]
  have hfsz : fl.size = l.length * 2 := by rw [hfl, size_flatK, List.size_toArray, htl]
  have htk : (putCells (fun v : Value => v) 0 fl cur).toList.take (l.length * 2) = fl.toList := by
    have := take_putCells (fun v : Value => v) cur fl.toList (by rw [Array.length_toList, hfsz, h3]; omega)
    rw [Array.toArray_toList, Array.length_toList, hfsz, List.map_id'] at this
    exact this
  rw [← ht]
  refine ⟨rfl, ⟨hok, fl.toList, ⟨by rw [Array.length_toList, List.length_map, htl]; exact hfsz, .inr ⟨g, c, _, by rw [List.length_map, htl], hbase, hhp, by rw [List.length_map, htl]; exact h1, h2, by simp [putCells]; exact h3, by rw [List.length_map, htl]; exact htk⟩⟩, ⟨by rw [Array.length_toList, List.length_map, htl]; exact hfsz, fun j p hj => ?_⟩⟩, by rw [List.length_map]; exact htl, hgr⟩
  rw [List.getElem?_map] at hj
  obtain ⟨q, hq, rfl⟩ := Option.map_eq_some_iff.1 hj
  obtain ⟨hjl, hqe⟩ := List.getElem?_eq_some_iff.1 hq
  have hseg := flat_seg ts j hjl
  rw [← hfl, hqe] at hseg
  show k28.M _ _ _ _ ((fl.toList.drop (j * 2)).take 2)
  rw [hseg]
  refine k28_mkM _ _ _ q.x (Kd.R_mono (Kd.R_grown q.hM hgr (fun k hk e => hk.2 (by injection e))) (fun k hk => ⟨hk.1, fun e => hk.2 (by injection e)⟩))
end Go.Proofs.YtmbkmabpebjboaaGreat.Q
end
section
namespace Go.Proofs.YtmbkmabpebjboaaGreat.Q
open Go.RowKit Go.Proofs.YtmbkmabpebjboaaGreatW.PrintWords Go.Proofs.YtmbkmabpebjboaaGreatW.PrintLast Go.Proofs.YtmbkmabpebjboaaGreatW.PrintMore
attribute [local go_sem] max2_int min2_int max_two min_two max_three min_three max_four min_four
set_option linter.unusedVariables false
set_option linter.unusedSimpArgs false
def impl_allGames.l0 : Nat → Int → List (S28) → List Int → Int → Int → Option ((List (S28)))
 | 0, _, _, _, _, _ => none
 | k + 1, x0, x3, x9, x10, x11 => if x11 < x10 then (if 0 ≤ x11 then (if x11 < (x9.length : Int) then ((votesOf_allGames.f k x0 (rd x9 x11)).bind fun bt340 => (if 0 < (bt340.2.length : Int) then (if rdOf false bt340.2 0 = true then (impl_allGames.l0 k x0 x3 x9 x10 (wrap64 (x11 + 1))) else ((impl_votes_all.f bt340.1 bt340.2).bind fun t346 => (if 0 ≤ t346 then (if t346 < (bt340.2.length : Int) then (if rdOf false bt340.2 t346 = true then ((impl_votes_game.f k bt340.1 bt340.2).bind fun bt348 => (if x3.length < 4398046511104 then (impl_allGames.l0 k x0 (x3 ++ [(⟨bt348.1, bt348.2⟩ : S28)]) x9 x10 (wrap64 (x11 + 1))) else (none))) else (impl_allGames.l0 k x0 x3 x9 x10 (wrap64 (x11 + 1)))) else (none)) else (none)))) else (none))) else (none)) else (none)) else ((sortGames.f x3).bind fun t_ => (some t_))
def impl_allGames.f (k : Nat) (a0 : Int) : Option ((List (S28))) := (impl_tables.f k a0).bind fun t335 => (impl_allGames.l0 k a0 (([] : List (S28))) t335 (t335.length : Int) 0)
theorem impl_allGames.mono_l : ∀ k, (∀ y0 y1 y2 y3 y4, LeO (impl_allGames.l0 k y0 y1 y2 y3 y4) (impl_allGames.l0 (k + 1) y0 y1 y2 y3 y4))
 | 0 => fun _ _ _ _ _ r h => by simp [impl_allGames.l0] at h
 | k + 1 => by
  have ih0 := impl_allGames.mono_l k
  ·intro y0 y1 y2 y3 y4
   unfold impl_allGames.l0
   repeat' first
   | (with_reducible exact ih0 _ _ _ _ _)
   | (with_reducible exact impl_tables.mono _ _)
   | (with_reducible exact impl_votes_game.mono _ _ _)
   | (with_reducible exact votesOf_allGames.mono _ _ _)
   | (with_reducible exact LeO.refl _)
   | (with_reducible exact LeO.none _)
   | (with_reducible refine LeO.ite ?_ ?_)
   | (with_reducible refine LeO.bind ?_ (fun _ => ?_))
   | exact ih0 _ _ _ _ _
   | exact impl_tables.mono _ _
   | exact impl_votes_game.mono _ _ _
   | exact votesOf_allGames.mono _ _ _
   | exact LeO.none _
   | refine LeO.ite ?_ ?_
   | refine LeO.bind ?_ (fun _ => ?_)
theorem impl_allGames.mono : ∀ a0 k, LeO (impl_allGames.f k a0) (impl_allGames.f (k + 1) a0) := by
 intro a0 k
 have ih0 := impl_allGames.mono_l k
 unfold impl_allGames.f
 repeat' first
   | (with_reducible exact ih0 _ _ _ _ _)
   | (with_reducible exact impl_tables.mono _ _)
   | (with_reducible exact impl_votes_game.mono _ _ _)
   | (with_reducible exact votesOf_allGames.mono _ _ _)
   | (with_reducible exact LeO.refl _)
   | (with_reducible exact LeO.none _)
   | (with_reducible refine LeO.ite ?_ ?_)
   | (with_reducible refine LeO.bind ?_ (fun _ => ?_))
   | exact ih0 _ _ _ _ _
   | exact impl_tables.mono _ _
   | exact impl_votes_game.mono _ _ _
   | exact votesOf_allGames.mono _ _ _
   | exact LeO.none _
   | refine LeO.ite ?_ ?_
   | refine LeO.bind ?_ (fun _ => ?_)
def impl_allGames.T6 : Bool × List (List Nat × List Nat) := (true, [([], []), ([0], [0]), ([1], [1]), ([2], [2]), ([3], [3]), ([4], [4]), ([5], [5]), ([6, 5], [5, 6]), ([5], [5]), ([8, 5, 5], [5, 8]), ([7, 9, 5], [5, 7, 9]), ([10, 5], [5, 10]), ([5, 11], [5, 11])])
def impl_allGames.B6 : List Nat := [0, 1, 3, 7, 15, 31, 63, 127, 63, 319, 1023, 2047, 4095]
theorem impl_allGames.tab6 : rtab .any (opsOf Tryz.f58 6) = impl_allGames.T6 := by kernel_rfl
theorem impl_allGames.bits6 : waitsOk impl_allGames.T6.2 impl_allGames.B6 = true := by kernel_rfl
set_option maxHeartbeats 8000000 in
set_option maxRecDepth 100000 in
theorem impl_allGames.calls (k : Nat) (a0 : Int) (r : List (S28)) (w : World) (h : impl_allGames.f k a0 = some r) :
  Calls Tryz.prog 58 #[.int .i64 a0] w fun e w' => ∃ v0_ : Value, e = .returned (v0_) ∧ Kd.R k28 28 w' w.heap.size (fun _ => True) v0_ r ∧ Below w.heap.size w w' := by
 have hu61 := Tryz.underlying61
 have HB := Aside0.mk (Below.refl w.heap.size w)
 have H : ((impl_tables.f k a0).bind fun t335 => (impl_allGames.l0 k a0 (([] : List (S28))) t335 (t335.length : Int) 0)) = some r := h
 clear h
 obtain ⟨y332, hy332⟩ : ∃ y_ : List (S28), y_ = (([] : List (S28))) := ⟨_, rfl⟩
 replace H : ((impl_tables.f k a0).bind fun t335 => (impl_allGames.l0 k a0 y332 t335 (t335.length : Int) 0)) = some r := by first | (rw [hy332]; with_reducible exact H) | (have H2_ := (Option.bind_some _ _).symm.trans H; rw [hy332]; with_reducible exact H2_) | (have H2_ := (Option.bind_some _ _).symm.trans H; with_reducible exact H2_) | with_reducible exact H | (rw [hy332]; exact H) | exact H
 have Ny332 := Aside0.mk hy332
 clear hy332
 replace H := Option.bind_eq_some_iff.mp H
 obtain ⟨t335, A20, H⟩ := H
 replace H : (impl_allGames.l0 k a0 y332 t335 (t335.length : Int) 0) = some r := H
 have A2 := Aside0.mk A20
 clear A20
 have H' := Aside0.mk H
 clear H
 go_enter Tryz.func58, Tryz.ntmps58
 go_wp2_with (first | ((with_reducible refine gate_dst (N := 7) rfl ?_); refine Kd.R_lit k28 _ 28 ?hg (N := 7) ?hd (xs := ([] : List (S28))) (inner := []) (ok := fun _ => True) (okp := fun _ => True) ?hr ?hp (fun _ hk => hk) trivial (Below.refl _ _) (Nat.le_refl _) (by simp) ?_; (case hd => rfl); (case hg => rfl); (case hr => first | (go_simp; done) | (go_simp; rfl)); (case hp => exact (Reps.none _ _)); intro v333 w3 ho4 hb hg_ hnew_; clear hg_ hnew_; (first | rw [← Ny332.out] at ho4 | (simp only [Int.reduceToNat] at ho4; rw [← Ny332.out] at ho4)); have n0_ := Aside0.mk (Kd.R_lower ho4 (below_size (zh HB.out))); have n1_ := Aside0.mk (below_step (zh HB.out) hb); clear HB; have HO334 := n0_; have HB := n1_; clear n0_ n1_; clear hb ho4) | ((with_reducible refine gate_callee (f := 96) rfl ?_); refine zl 9 Tryz.func96 #[.int .i64 a0] ?_; (with_reducible refine (impl_tables.calls k a0 t335 _ A2.out).mono ?_); rintro e w5 ⟨v336, rfl, ho0, hb⟩; refine ⟨_, rfl, ?_⟩; have n0_ := Aside0.mk (Kd.R_elder' (zr HO334.out) (Kd.R_base ho0) hb); have n1_ := Aside0.mk (Kd.R_lower ho0 (below_size (zh HB.out))); have n2_ := Aside0.mk (below_step (zh HB.out) hb); clear HO334; clear HB; have HO334 := n0_; have HO337 := n1_; have HB := n2_; clear n0_ n1_ n2_; (try clear hb); (try clear hb2); (try clear hk); (try clear hi); (try clear ho0); obtain ⟨Ao6, co6, eo6⟩ := Kd.R_slice HO337.out; subst eo6))
 go_loopg [3, 11] k (fun kq v3 v11 w' => ∃ (x3_1 : List (S28)) (x11_1 : Int), v11 = .int .i64 x11_1 ∧ Aside0 (impl_allGames.l0 kq a0 x3_1 t335 (t335.length : Int) x11_1 = some r) ∧ Aside0 (kq ≤ k) ∧ Aside0 (Kd.R k28 28 w' w.heap.size (fun k_ => some k_ ≠ ((.slice Ao6 t335.length co6) : Value).ownBlock) v3 x3_1) ∧ Aside0 (Kd.R (Kd.int .i64) 3 w' w.heap.size (fun _ => True) (.slice Ao6 t335.length co6) t335) ∧ Aside0 (Below w.heap.size w w'))
 case atStart => exact ⟨(y332), (0), (by first | rfl | (simp; done) | (simp [*]; done)), H', ⟨Nat.le_refl _⟩, ⟨by (with_reducible repeat (first | apply Kd.R_alloc | apply Kd.R_drewN | apply Kd.R_drew)); exact Kd.R_mono HO334.out (fun _ hk => hk.2)⟩, ⟨zr HO337.out⟩, ⟨zh HB.out⟩⟩
 case round =>
  clear H'
  try clear p2
  try clear c5
  obtain ⟨x3_1, x11_1, rfl, HA, HK1, HO_3, HO_9, HB⟩ := hrel
  cases gk with
  | zero => exact absurd HA.out (by simp [impl_allGames.l0])
  | succ k1 =>
   have H := HA.out
   clear HA
   simp only [impl_allGames.l0] at H
   by_cases c7 : x11_1 < (t335.length : Int)
   rotate_left
   ·rw [if_neg c7] at H
    have c7b0 : decide (x11_1 < (t335.length : Int)) = false := decide_eq_false c7
    clear c7
    replace H := Option.bind_eq_some_iff.mp H
    obtain ⟨t_, A540, H⟩ := H
    replace H : (some t_) = some r := H
    have A54 := Aside0.mk A540
    clear A540
    obtain rfl := Option.some.inj H
    obtain ⟨Ao55, co55, eo55⟩ := Kd.R_slice HO_3.out
    subst eo55
    go_wp2_with (first | ((with_reducible refine gate_callee (f := 101) rfl ?_); refine zl 38 Tryz.func101 #[.slice Ao55 x3_1.length co55, .func (.func 102) #[] #[]] ?_; refine (sortGames.calls x3_1 t_ _ _ w.heap.size (fun _ => True) _ ?side1 A54.out).mono ?_; (case side1 => exact Kd.R_mono (zr HO_3.out) (fun _ _ => trivial)); rintro e w' ⟨rfl, hs_, hl_, hg_⟩; refine ⟨_, rfl, ?_⟩; have n0_ := Aside0.mk hs_; have hB_ := ((zh HB.out) : Below w.heap.size w _); have n2_ := Aside0.mk (Below.grown hB_ hg_ (below_size hB_) (Kd.R_base HO_3.out)); (try clear HO_9); clear HO_3; clear HB; have HO_3 := n0_; have HB := n2_; clear n0_ n2_ hs_ hl_ hg_ hB_))
    go_ret
    exact ⟨_, by first | rfl | (simp [*, errW_none, errW_some] <;> rfl), by (with_reducible repeat (first | apply Kd.R_alloc | apply Kd.R_drewN | apply Kd.R_drew)); exact Kd.R_mono HO_3.out (fun _ hk => trivial), zh HB.out⟩
   rw [if_pos c7] at H
   have c7b0 : decide (x11_1 < (t335.length : Int)) = true := decide_eq_true c7
   clear c7
   by_cases c8 : 0 ≤ x11_1
   rotate_left
   ·rw [if_neg c8] at H
    exact absurd H (by simp)
   rw [if_pos c8] at H
   have c8b0 : decide (0 ≤ x11_1) = true := decide_eq_true c8
   clear c8
   by_cases c9 : x11_1 < (t335.length : Int)
   rotate_left
   ·rw [if_neg c9] at H
    exact absurd H (by simp)
   rw [if_pos c9] at H
   have c9b0 : decide (x11_1 < (t335.length : Int)) = true := decide_eq_true c9
   clear c9
   replace H := Option.bind_eq_some_iff.mp H
   obtain ⟨⟨t340, t341⟩, A100, H⟩ := H
   replace H : (if 0 < (t341.length : Int) then (if rdOf false t341 0 = true then (impl_allGames.l0 k1 a0 x3_1 t335 (t335.length : Int) (wrap64 (x11_1 + 1))) else ((impl_votes_all.f t340 t341).bind fun t346 => (if 0 ≤ t346 then (if t346 < (t341.length : Int) then (if rdOf false t341 t346 = true then ((impl_votes_game.f k1 t340 t341).bind fun bt348 => (if x3_1.length < 4398046511104 then (impl_allGames.l0 k1 a0 (x3_1 ++ [(⟨bt348.1, bt348.2⟩ : S28)]) t335 (t335.length : Int) (wrap64 (x11_1 + 1))) else (none))) else (impl_allGames.l0 k1 a0 x3_1 t335 (t335.length : Int) (wrap64 (x11_1 + 1)))) else (none)) else (none)))) else (none)) = some r := H
   have A10 := Aside0.mk A100
   clear A100
   by_cases c11 : 0 < (t341.length : Int)
   rotate_left
   ·rw [if_neg c11] at H
    exact absurd H (by simp)
   rw [if_pos c11] at H
   have c11b0 : decide (0 < (t341.length : Int)) = true := decide_eq_true c11
   have c11b1 : decide (0 < t341.length) = true := decide_eq_true (by omega)
   clear c11
   obtain ⟨bq12, hbq12⟩ : ∃ b_ : Bool, b_ = (rdOf false t341 0) := ⟨_, rfl⟩
   replace H : (if bq12 = true then (impl_allGames.l0 k1 a0 x3_1 t335 (t335.length : Int) (wrap64 (x11_1 + 1))) else ((impl_votes_all.f t340 t341).bind fun t346 => (if 0 ≤ t346 then (if t346 < (t341.length : Int) then (if rdOf false t341 t346 = true then ((impl_votes_game.f k1 t340 t341).bind fun bt348 => (if x3_1.length < 4398046511104 then (impl_allGames.l0 k1 a0 (x3_1 ++ [(⟨bt348.1, bt348.2⟩ : S28)]) t335 (t335.length : Int) (wrap64 (x11_1 + 1))) else (none))) else (impl_allGames.l0 k1 a0 x3_1 t335 (t335.length : Int) (wrap64 (x11_1 + 1)))) else (none)) else (none)))) = some r := by rw [← hbq12] at H; exact H
   have Nbq12 := Aside0.mk hbq12
   clear hbq12
   by_cases c13 : bq12 = true
   ·subst c13
    have H1 : (impl_allGames.l0 k1 a0 x3_1 t335 (t335.length : Int) (wrap64 (x11_1 + 1))) = some r := by rw [if_pos rfl] at H; exact H
    clear H
    have H := H1
    clear H1
    have H' := Aside0.mk H
    clear H
    have p338 : 0 ≤ (x11_1 : Int) := zk
    have q338 : x11_1 < (t335.length : Int) := zk
    obtain ⟨ad338, e338, hx338_0⟩ := Kd.at_int (Kd.R_reads' HO_9.out).2.2 x11_1 p338 q338
    cases e338
    replace p338 := eq_true p338
    replace q338 := eq_true q338
    try go_wp2_with (first | ((with_reducible refine gate_dst (N := 5) rfl ?_); refine zq 5 #[.int .i64 0] 3 ?_; intro gb339 hg w14 hbox hb; have n0_ := Aside0.mk (Kd.R_below (Kd.R_elderB (zr HO_3.out) gb339 (Nat.le_of_eq hg.symm)) hb); have n1_ := Aside0.mk (Kd.R_below (Kd.R_elderB (zr HO_9.out) gb339 (Nat.le_of_eq hg.symm)) hb); have n2_ := Aside0.mk (below_step (zh HB.out) hb); have n3_ := Aside0.mk (hbox); have n4_ := Aside0.mk ((by rw [hg]; exact (below_size (zh HB.out)) : w.heap.size ≤ gb339)); have n5_ := Aside0.mk ((by rw [hg]; exact (below_size (zh HB.out)) : w.heap.size ≤ gb339)); clear HO_3; clear HO_9; clear HB; have HO_3 := n0_; have HO_9 := n1_; have HB := n2_; have BK339 := n3_; have GW339 := n4_; have GE339 := n5_; clear n0_ n1_ n2_ n3_ n4_ n5_; clear hb hbox hg; have hcz15_0 : w14.cell? ⟨gb339, 0, none⟩ = some (.int .i64 0) := (blk_cell BK339.out 0).trans rfl; have hfz15_0 := blk_frozen BK339.out 0) | ((with_reducible refine gate_callee (f := 92) rfl ?_); refine zl 17 Tryz.func92 #[.int .i64 a0, .func (.func 97) #[] #[.pointer (some ⟨gb339, 0, none⟩)]] ?_; (with_reducible refine (votesOf_allGames.calls k1 a0 (rd t335 x11_1) t340 t341 _ gb339 (by first | exact (blk_cell (zb BK339.out) 0).trans rfl | exact (blk_cell (blk_put (zb BK339.out) 0 _ rfl) 0).trans rfl | exact zb BK339.out) A10.out).mono ?_); rintro e w16 ⟨v342, rfl, ho0, hb⟩; refine ⟨_, rfl, ?_⟩; have n0_ := Aside0.mk (Kd.R_below (by (with_reducible repeat (first | apply Kd.R_alloc | apply Kd.R_drewN | apply Kd.R_drew)); exact (Kd.R_mono (Kd.R_far (p := ⟨gb339, 0, none⟩) (Kd.R_mono HO_3.out (fun k_ hk => (⟨hk, hk.2⟩ : _ ∧ k_ ≠ gb339))) (fun _ hk => hk.2) (.int .i64 (rd t335 x11_1))) (fun _ h_ => h_.1))) hb); have n1_ := Aside0.mk (Kd.R_below (by (with_reducible repeat (first | apply Kd.R_alloc | apply Kd.R_drewN | apply Kd.R_drew)); exact (Kd.R_mono (Kd.R_far (p := ⟨gb339, 0, none⟩) (Kd.R_mono HO_9.out (fun k_ hk => (⟨hk, hk.2⟩ : _ ∧ k_ ≠ gb339))) (fun _ hk => hk.2) (.int .i64 (rd t335 x11_1))) (fun _ h_ => h_.1))) hb); have n2_ := Aside0.mk (Kd.R_lower ho0 (below_size (zh HB.out))); have n3_ := Aside0.mk (blk_below (g := gb339) (o := .cells #[.int .i64 (rd t335 x11_1)] 3 (0, 0)) (by (with_reducible repeat (first | refine blk_drewN ?_ _ | refine blk_drew ?_ | refine blk_alloc ?_ _)); refine blk_put (cs := #[.int .i64 0]) ?_ 0 _ rfl; (with_reducible repeat (first | refine blk_drewN ?_ _ | refine blk_drew ?_ | refine blk_alloc ?_ _)); exact BK339.out) hb); have n4_ := Aside0.mk (below_step (zh HB.out) hb); clear HO_3; clear HO_9; clear BK339; clear HB; have HO_3 := n0_; have HO_9 := n1_; have HO343 := n2_; have BK339 := n3_; have HB := n4_; clear n0_ n1_ n2_ n3_ n4_; (try clear hb); (try clear hb2); (try clear hk); (try clear hi); (try clear ho0)) | ((with_reducible refine gate_dst (N := 6) rfl ?_); refine zq 6 #[.int .i64 0, .slice none 0 0] 61 ?_; intro gb344 hg w17 hbox hb; have n0_ := Aside0.mk (Kd.R_below (zr HO_3.out) hb); have n1_ := Aside0.mk (Kd.R_below (zr HO_9.out) hb); have n2_ := Aside0.mk (Kd.R_below (zr HO343.out) hb); have n3_ := Aside0.mk (blk_below (g := gb339) (o := .cells #[.int .i64 (rd t335 x11_1)] 3 (0, 0)) (zb BK339.out) hb); have n4_ := Aside0.mk (below_step (zh HB.out) hb); have n5_ := Aside0.mk (hbox); have n6_ := Aside0.mk ((by rw [hg]; exact (below_size (zh HB.out)) : w.heap.size ≤ gb344)); have n7_ := Aside0.mk ((by rw [hg]; exact (below_size (zh HB.out)) : w.heap.size ≤ gb344)); have n8_ := Aside0.mk ((by rw [hg]; exact Nat.ne_of_lt (blk_lt (g := gb339) (o := .cells #[.int .i64 (rd t335 x11_1)] 3 (0, 0)) (zb BK339.out)) : gb339 ≠ gb344)); have n9_ := Aside0.mk ((by rw [hg]; exact Nat.ne_of_gt (blk_lt (g := gb339) (o := .cells #[.int .i64 (rd t335 x11_1)] 3 (0, 0)) (zb BK339.out)) : gb344 ≠ gb339)); clear HO_3; clear HO_9; clear HO343; clear BK339; clear HB; have HO_3 := n0_; have HO_9 := n1_; have HO343 := n2_; have BK339 := n3_; have HB := n4_; have BK344 := n5_; have GW344 := n6_; have GE344 := n7_; have NB339_344 := n8_; have NB344_339 := n9_; clear n0_ n1_ n2_ n3_ n4_ n5_ n6_ n7_ n8_ n9_; clear hb hbox hg; have hnb18 := NB344_339.out; have hnc18 := NB339_344.out; have hcz19_0 : w17.cell? ⟨gb344, 0, none⟩ = some (.int .i64 0) := (blk_cell BK344.out 0).trans rfl; have hcz19_1 : w17.cell? ⟨gb344, 1, none⟩ = some (.slice none 0 0) := (blk_cell BK344.out 1).trans rfl; have hfz19_0 := blk_frozen BK344.out 0; have hfz19_1 := blk_frozen BK344.out 1; obtain ⟨Ao20, co20, eo20⟩ := Kd.R_slice HO343.out; subst eo20))
    have n0_ : Aside0 (Kd.R k28 28 ((w17.setCell ⟨gb344, 0, none⟩ (.int .i64 t340)).setCell ⟨gb344, 1, none⟩ (.slice Ao20 t341.length co20)) w.heap.size (fun k_ => some k_ ≠ (.slice (some ad338) t335.length co6 : Value).ownBlock ∧ k_ ≠ gb339) u3 x3_1) := ⟨by (with_reducible repeat (first | apply Kd.R_alloc | apply Kd.R_drewN | apply Kd.R_drew)); exact Kd.R_mono (Kd.R_far (p := ⟨gb344, 1, none⟩) (Kd.R_far (p := ⟨gb344, 0, none⟩) (Kd.R_types HO_3.out BK344.out (by decide)) (fun _ hk => hk.2) (.int .i64 t340)) (fun _ hk => hk.2) (.slice Ao20 t341.length co20)) (fun _ hk => ⟨hk.1.1, hk.1.2⟩)⟩
    have n1_ : Aside0 (Kd.R (Kd.int .i64) 3 ((w17.setCell ⟨gb344, 0, none⟩ (.int .i64 t340)).setCell ⟨gb344, 1, none⟩ (.slice Ao20 t341.length co20)) w.heap.size (fun k_ => k_ ≠ gb339) (.slice (some ad338) t335.length co6) t335) := ⟨by (with_reducible repeat (first | apply Kd.R_alloc | apply Kd.R_drewN | apply Kd.R_drew)); exact Kd.R_mono (Kd.R_far (p := ⟨gb344, 1, none⟩) (Kd.R_far (p := ⟨gb344, 0, none⟩) (Kd.R_types HO_9.out BK344.out (by decide)) (fun _ hk => hk.2) (.int .i64 t340)) (fun _ hk => hk.2) (.slice Ao20 t341.length co20)) (fun _ hk => hk.1.2)⟩
    have n2_ : Aside0 (Kd.R Kd.bool 4 ((w17.setCell ⟨gb344, 0, none⟩ (.int .i64 t340)).setCell ⟨gb344, 1, none⟩ (.slice Ao20 t341.length co20)) w.heap.size (fun _ => True) (.slice Ao20 t341.length co20) t341) := ⟨by (with_reducible repeat (first | apply Kd.R_alloc | apply Kd.R_drewN | apply Kd.R_drew)); exact Kd.R_mono (Kd.R_far (p := ⟨gb344, 1, none⟩) (Kd.R_far (p := ⟨gb344, 0, none⟩) (Kd.R_types HO343.out BK344.out (by decide)) (fun _ hk => hk.2) (.int .i64 t340)) (fun _ hk => hk.2) (.slice Ao20 t341.length co20)) (fun _ hk => trivial)⟩
    have n3_ : Aside0 (((w17.setCell ⟨gb344, 0, none⟩ (.int .i64 t340)).setCell ⟨gb344, 1, none⟩ (.slice Ao20 t341.length co20)).heap[gb339]? = some (.cells #[.int .i64 (rd t335 x11_1)] 3 (0, 0))) := ⟨zf2 BK339.out NB339_344.out NB339_344.out⟩
    have n4_ : Aside0 (((w17.setCell ⟨gb344, 0, none⟩ (.int .i64 t340)).setCell ⟨gb344, 1, none⟩ (.slice Ao20 t341.length co20)).heap[gb344]? = some (.cells #[.int .i64 t340, .slice Ao20 t341.length co20] 61 (0, 0))) := ⟨by (with_reducible repeat (first | refine blk_drewN ?_ _ | refine blk_drew ?_ | refine blk_alloc ?_ _)); refine blk_put (cs := #[.int .i64 t340, .slice none 0 0]) ?_ 1 _ rfl; (with_reducible repeat (first | refine blk_drewN ?_ _ | refine blk_drew ?_ | refine blk_alloc ?_ _)); refine blk_put (cs := #[.int .i64 0, .slice none 0 0]) ?_ 0 _ rfl; (with_reducible repeat (first | refine blk_drewN ?_ _ | refine blk_drew ?_ | refine blk_alloc ?_ _)); exact BK344.out⟩
    have n5_ : Aside0 (Below w.heap.size w ((w17.setCell ⟨gb344, 0, none⟩ (.int .i64 t340)).setCell ⟨gb344, 1, none⟩ (.slice Ao20 t341.length co20))) := ⟨zh HB.out⟩
    (try clear HO_3)
    (try clear HO_9)
    (try clear HO343)
    (try clear BK339)
    (try clear BK344)
    (try clear HB)
    generalize ((w17.setCell ⟨gb344, 0, none⟩ (.int .i64 t340)).setCell ⟨gb344, 1, none⟩ (.slice Ao20 t341.length co20)) = w21 at n0_ n1_ n2_ n3_ n4_ n5_ ⊢
    have HO_3 := n0_
    have HO_9 := n1_
    have HO343 := n2_
    have BK339 := n3_
    have BK344 := n4_
    have HB := n5_
    clear n0_ n1_ n2_ n3_ n4_ n5_
    have n0_ := Aside0.mk (Kd.R_drew HO_3.out)
    have n1_ := Aside0.mk (Kd.R_drew HO_9.out)
    have n2_ := Aside0.mk (Kd.R_drew HO343.out)
    have n3_ := Aside0.mk (blk_drew BK339.out)
    have n4_ := Aside0.mk (blk_drew BK344.out)
    have n5_ := Aside0.mk (below_drew1 HB.out)
    clear HO_3
    clear HO_9
    clear HO343
    clear BK339
    clear BK344
    clear HB
    have HO_3 := n0_
    have HO_9 := n1_
    have HO343 := n2_
    have BK339 := n3_
    have BK344 := n4_
    have HB := n5_
    clear n0_ n1_ n2_ n3_ n4_ n5_
    have p345 : 0 ≤ (0 : Int) := (by omega)
    have q345 : 0 < (t341.length : Int) := zk
    obtain ⟨ad345, e345, hx345_0⟩ := Kd.at_bool (Kd.R_reads' HO343.out).2.2 0 p345 q345
    (try rw [← Nbq12.out] at hx345_0)
    cases e345
    have qi345 : (0 < t341.length) = True := eq_true (by omega)
    (try rw [show ((0 : Int)).toNat = 0 from rfl] at hx345_0)
    (try rw [Addr.add_zero'] at hx345_0)
    replace p345 := eq_true p345
    replace q345 := eq_true q345
    refine start_ (n := 13) (S := fun w' => w'.cell? ⟨gb344, 0, none⟩ = some (.int .i64 t340) ∧ w'.cell? ⟨gb344, 1, none⟩ = some (.slice (some ad345) t341.length co20) ∧ w'.cell? ad345 = some (.bool true)) (ds := []) (tb 13 0) (by kernel_rfl) rfl rfl ⟨(blk_cell BK344.out 0).trans rfl, (blk_cell BK344.out 1).trans rfl, hx345_0⟩ (fun hHeld => ?_); refine with_tabW impl_allGames.tab6 impl_allGames.bits6 (fun HT_ HW_ => ?_)
    generalize w21.drew = w22 at HO_3 HO_9 HO343 BK339 BK344 HB hx345_0 hHeld ⊢
    refine zu (i := 0) (N := some 18) (tb 13 1) rfl rfl HT_ ?_
    refine zt (i := 1) (N := some 19) (tb 13 3) rfl rfl (take_ofW HT_.out HW_.out (by kernel_rfl)) hHeld ?_
    refine zu (i := 2) (N := some 20) (tb 13 7) rfl rfl HT_ ?_
    refine zt (i := 3) (N := some 21) (tb 13 15) rfl rfl (take_ofW HT_.out HW_.out (by kernel_rfl)) hHeld ?_
    refine zu (i := 4) (N := some 22) (tb 13 31) rfl rfl HT_ ?_
    refine zu (i := 5) (N := some 23) (tb 13 63) rfl rfl HT_ ?_
    refine zv (i := 6) (N := some 24) (tb 13 127) rfl rfl HT_ ?_
    refine zv (i := 7) (N := some 25) (tb 13 255) rfl rfl HT_ ?_
    refine zv (i := 8) (N := some 26) (tb 13 511) rfl rfl HT_ ?_
    refine zv (i := 9) (N := some 27) (tb 13 1023) rfl rfl HT_ ?_
    refine zv (i := 10) (N := some 28) (tb 13 2047) rfl rfl HT_ ?_
    refine zv (i := 11) (N := some 29) (tb 13 4095) rfl rfl HT_ ?_
    refine zu (i := 12) (N := some 30) (tb 13 8191) rfl rfl HT_ ?_
    refine done_ (done_of HT_.out (by kernel_rfl)) ?_
    try go_wp2
    go_roundg k1
    case measure => have := HK1.out; omega
    case rel => exact ⟨(x3_1), (wrap64 (x11_1 + 1)), (by first | rfl | (simp; done) | (simp [*]; done)), H', ⟨by have := HK1.out; omega⟩, ⟨by (with_reducible repeat (first | apply Kd.R_alloc | apply Kd.R_drewN | apply Kd.R_drew)); exact Kd.R_mono HO_3.out (fun _ hk => hk.1)⟩, ⟨by (with_reducible repeat (first | apply Kd.R_alloc | apply Kd.R_drewN | apply Kd.R_drew)); exact Kd.R_mono HO_9.out (fun _ hk => trivial)⟩, ⟨zh HB.out⟩⟩
   replace c13 := Bool.eq_false_iff.mpr c13
   subst c13
   have H1 : ((impl_votes_all.f t340 t341).bind fun t346 => (if 0 ≤ t346 then (if t346 < (t341.length : Int) then (if rdOf false t341 t346 = true then ((impl_votes_game.f k1 t340 t341).bind fun bt348 => (if x3_1.length < 4398046511104 then (impl_allGames.l0 k1 a0 (x3_1 ++ [(⟨bt348.1, bt348.2⟩ : S28)]) t335 (t335.length : Int) (wrap64 (x11_1 + 1))) else (none))) else (impl_allGames.l0 k1 a0 x3_1 t335 (t335.length : Int) (wrap64 (x11_1 + 1)))) else (none)) else (none))) = some r := by rw [if_neg (show ¬ (false = true) by decide)] at H; exact H
   clear H
   have H := H1
   clear H1
   replace H := Option.bind_eq_some_iff.mp H
   obtain ⟨t346, A230, H⟩ := H
   replace H : (if 0 ≤ t346 then (if t346 < (t341.length : Int) then (if rdOf false t341 t346 = true then ((impl_votes_game.f k1 t340 t341).bind fun bt348 => (if x3_1.length < 4398046511104 then (impl_allGames.l0 k1 a0 (x3_1 ++ [(⟨bt348.1, bt348.2⟩ : S28)]) t335 (t335.length : Int) (wrap64 (x11_1 + 1))) else (none))) else (impl_allGames.l0 k1 a0 x3_1 t335 (t335.length : Int) (wrap64 (x11_1 + 1)))) else (none)) else (none)) = some r := H
   have A23 := Aside0.mk A230
   clear A230
   by_cases c24 : 0 ≤ t346
   rotate_left
   ·rw [if_neg c24] at H
    exact absurd H (by simp)
   rw [if_pos c24] at H
   have c24b0 : decide (0 ≤ t346) = true := decide_eq_true c24
   clear c24
   by_cases c25 : t346 < (t341.length : Int)
   rotate_left
   ·rw [if_neg c25] at H
    exact absurd H (by simp)
   rw [if_pos c25] at H
   have c25b0 : decide (t346 < (t341.length : Int)) = true := decide_eq_true c25
   clear c25
   obtain ⟨bq26, hbq26⟩ : ∃ b_ : Bool, b_ = (rdOf false t341 t346) := ⟨_, rfl⟩
   replace H : (if bq26 = true then ((impl_votes_game.f k1 t340 t341).bind fun bt348 => (if x3_1.length < 4398046511104 then (impl_allGames.l0 k1 a0 (x3_1 ++ [(⟨bt348.1, bt348.2⟩ : S28)]) t335 (t335.length : Int) (wrap64 (x11_1 + 1))) else (none))) else (impl_allGames.l0 k1 a0 x3_1 t335 (t335.length : Int) (wrap64 (x11_1 + 1)))) = some r := by rw [← hbq26] at H; exact H
   have Nbq26 := Aside0.mk hbq26
   clear hbq26
   by_cases c27 : bq26 = true
   rotate_left
   ·replace c27 := Bool.eq_false_iff.mpr c27
    subst c27
    have H1 : (impl_allGames.l0 k1 a0 x3_1 t335 (t335.length : Int) (wrap64 (x11_1 + 1))) = some r := by rw [if_neg (show ¬ (false = true) by decide)] at H; exact H
    clear H
    have H := H1
    clear H1
    have H' := Aside0.mk H
    clear H
    have p338 : 0 ≤ (x11_1 : Int) := zk
    have q338 : x11_1 < (t335.length : Int) := zk
    obtain ⟨ad338, e338, hx338_0⟩ := Kd.at_int (Kd.R_reads' HO_9.out).2.2 x11_1 p338 q338
    cases e338
    replace p338 := eq_true p338
    replace q338 := eq_true q338
    try go_wp2_with (first | ((with_reducible refine gate_dst (N := 5) rfl ?_); refine zq 5 #[.int .i64 0] 3 ?_; intro gb339 hg w44 hbox hb; have n0_ := Aside0.mk (Kd.R_below (Kd.R_elderB (zr HO_3.out) gb339 (Nat.le_of_eq hg.symm)) hb); have n1_ := Aside0.mk (Kd.R_below (Kd.R_elderB (zr HO_9.out) gb339 (Nat.le_of_eq hg.symm)) hb); have n2_ := Aside0.mk (below_step (zh HB.out) hb); have n3_ := Aside0.mk (hbox); have n4_ := Aside0.mk ((by rw [hg]; exact (below_size (zh HB.out)) : w.heap.size ≤ gb339)); have n5_ := Aside0.mk ((by rw [hg]; exact (below_size (zh HB.out)) : w.heap.size ≤ gb339)); clear HO_3; clear HO_9; clear HB; have HO_3 := n0_; have HO_9 := n1_; have HB := n2_; have BK339 := n3_; have GW339 := n4_; have GE339 := n5_; clear n0_ n1_ n2_ n3_ n4_ n5_; clear hb hbox hg; have hcz45_0 : w44.cell? ⟨gb339, 0, none⟩ = some (.int .i64 0) := (blk_cell BK339.out 0).trans rfl; have hfz45_0 := blk_frozen BK339.out 0) | ((with_reducible refine gate_callee (f := 92) rfl ?_); refine zl 17 Tryz.func92 #[.int .i64 a0, .func (.func 97) #[] #[.pointer (some ⟨gb339, 0, none⟩)]] ?_; (with_reducible refine (votesOf_allGames.calls k1 a0 (rd t335 x11_1) t340 t341 _ gb339 (by first | exact (blk_cell (zb BK339.out) 0).trans rfl | exact (blk_cell (blk_put (zb BK339.out) 0 _ rfl) 0).trans rfl | exact zb BK339.out) A10.out).mono ?_); rintro e w46 ⟨v342, rfl, ho0, hb⟩; refine ⟨_, rfl, ?_⟩; have n0_ := Aside0.mk (Kd.R_below (by (with_reducible repeat (first | apply Kd.R_alloc | apply Kd.R_drewN | apply Kd.R_drew)); exact (Kd.R_mono (Kd.R_far (p := ⟨gb339, 0, none⟩) (Kd.R_mono HO_3.out (fun k_ hk => (⟨hk, hk.2⟩ : _ ∧ k_ ≠ gb339))) (fun _ hk => hk.2) (.int .i64 (rd t335 x11_1))) (fun _ h_ => h_.1))) hb); have n1_ := Aside0.mk (Kd.R_below (by (with_reducible repeat (first | apply Kd.R_alloc | apply Kd.R_drewN | apply Kd.R_drew)); exact (Kd.R_mono (Kd.R_far (p := ⟨gb339, 0, none⟩) (Kd.R_mono HO_9.out (fun k_ hk => (⟨hk, hk.2⟩ : _ ∧ k_ ≠ gb339))) (fun _ hk => hk.2) (.int .i64 (rd t335 x11_1))) (fun _ h_ => h_.1))) hb); have n2_ := Aside0.mk (Kd.R_lower ho0 (below_size (zh HB.out))); have n3_ := Aside0.mk (blk_below (g := gb339) (o := .cells #[.int .i64 (rd t335 x11_1)] 3 (0, 0)) (by (with_reducible repeat (first | refine blk_drewN ?_ _ | refine blk_drew ?_ | refine blk_alloc ?_ _)); refine blk_put (cs := #[.int .i64 0]) ?_ 0 _ rfl; (with_reducible repeat (first | refine blk_drewN ?_ _ | refine blk_drew ?_ | refine blk_alloc ?_ _)); exact BK339.out) hb); have n4_ := Aside0.mk (below_step (zh HB.out) hb); clear HO_3; clear HO_9; clear BK339; clear HB; have HO_3 := n0_; have HO_9 := n1_; have HO343 := n2_; have BK339 := n3_; have HB := n4_; clear n0_ n1_ n2_ n3_ n4_; (try clear hb); (try clear hb2); (try clear hk); (try clear hi); (try clear ho0)) | ((with_reducible refine gate_dst (N := 6) rfl ?_); refine zq 6 #[.int .i64 0, .slice none 0 0] 61 ?_; intro gb344 hg w47 hbox hb; have n0_ := Aside0.mk (Kd.R_below (zr HO_3.out) hb); have n1_ := Aside0.mk (Kd.R_below (zr HO_9.out) hb); have n2_ := Aside0.mk (Kd.R_below (zr HO343.out) hb); have n3_ := Aside0.mk (blk_below (g := gb339) (o := .cells #[.int .i64 (rd t335 x11_1)] 3 (0, 0)) (zb BK339.out) hb); have n4_ := Aside0.mk (below_step (zh HB.out) hb); have n5_ := Aside0.mk (hbox); have n6_ := Aside0.mk ((by rw [hg]; exact (below_size (zh HB.out)) : w.heap.size ≤ gb344)); have n7_ := Aside0.mk ((by rw [hg]; exact (below_size (zh HB.out)) : w.heap.size ≤ gb344)); have n8_ := Aside0.mk ((by rw [hg]; exact Nat.ne_of_lt (blk_lt (g := gb339) (o := .cells #[.int .i64 (rd t335 x11_1)] 3 (0, 0)) (zb BK339.out)) : gb339 ≠ gb344)); have n9_ := Aside0.mk ((by rw [hg]; exact Nat.ne_of_gt (blk_lt (g := gb339) (o := .cells #[.int .i64 (rd t335 x11_1)] 3 (0, 0)) (zb BK339.out)) : gb344 ≠ gb339)); clear HO_3; clear HO_9; clear HO343; clear BK339; clear HB; have HO_3 := n0_; have HO_9 := n1_; have HO343 := n2_; have BK339 := n3_; have HB := n4_; have BK344 := n5_; have GW344 := n6_; have GE344 := n7_; have NB339_344 := n8_; have NB344_339 := n9_; clear n0_ n1_ n2_ n3_ n4_ n5_ n6_ n7_ n8_ n9_; clear hb hbox hg; have hnb48 := NB344_339.out; have hnc48 := NB339_344.out; have hcz49_0 : w47.cell? ⟨gb344, 0, none⟩ = some (.int .i64 0) := (blk_cell BK344.out 0).trans rfl; have hcz49_1 : w47.cell? ⟨gb344, 1, none⟩ = some (.slice none 0 0) := (blk_cell BK344.out 1).trans rfl; have hfz49_0 := blk_frozen BK344.out 0; have hfz49_1 := blk_frozen BK344.out 1; obtain ⟨Ao50, co50, eo50⟩ := Kd.R_slice HO343.out; subst eo50))
    have n0_ : Aside0 (Kd.R k28 28 ((w47.setCell ⟨gb344, 0, none⟩ (.int .i64 t340)).setCell ⟨gb344, 1, none⟩ (.slice Ao50 t341.length co50)) w.heap.size (fun k_ => some k_ ≠ (.slice (some ad338) t335.length co6 : Value).ownBlock ∧ k_ ≠ gb339) u3 x3_1) := ⟨by (with_reducible repeat (first | apply Kd.R_alloc | apply Kd.R_drewN | apply Kd.R_drew)); exact Kd.R_mono (Kd.R_far (p := ⟨gb344, 1, none⟩) (Kd.R_far (p := ⟨gb344, 0, none⟩) (Kd.R_types HO_3.out BK344.out (by decide)) (fun _ hk => hk.2) (.int .i64 t340)) (fun _ hk => hk.2) (.slice Ao50 t341.length co50)) (fun _ hk => ⟨hk.1.1, hk.1.2⟩)⟩
    have n1_ : Aside0 (Kd.R (Kd.int .i64) 3 ((w47.setCell ⟨gb344, 0, none⟩ (.int .i64 t340)).setCell ⟨gb344, 1, none⟩ (.slice Ao50 t341.length co50)) w.heap.size (fun k_ => k_ ≠ gb339) (.slice (some ad338) t335.length co6) t335) := ⟨by (with_reducible repeat (first | apply Kd.R_alloc | apply Kd.R_drewN | apply Kd.R_drew)); exact Kd.R_mono (Kd.R_far (p := ⟨gb344, 1, none⟩) (Kd.R_far (p := ⟨gb344, 0, none⟩) (Kd.R_types HO_9.out BK344.out (by decide)) (fun _ hk => hk.2) (.int .i64 t340)) (fun _ hk => hk.2) (.slice Ao50 t341.length co50)) (fun _ hk => hk.1.2)⟩
    have n2_ : Aside0 (Kd.R Kd.bool 4 ((w47.setCell ⟨gb344, 0, none⟩ (.int .i64 t340)).setCell ⟨gb344, 1, none⟩ (.slice Ao50 t341.length co50)) w.heap.size (fun _ => True) (.slice Ao50 t341.length co50) t341) := ⟨by (with_reducible repeat (first | apply Kd.R_alloc | apply Kd.R_drewN | apply Kd.R_drew)); exact Kd.R_mono (Kd.R_far (p := ⟨gb344, 1, none⟩) (Kd.R_far (p := ⟨gb344, 0, none⟩) (Kd.R_types HO343.out BK344.out (by decide)) (fun _ hk => hk.2) (.int .i64 t340)) (fun _ hk => hk.2) (.slice Ao50 t341.length co50)) (fun _ hk => trivial)⟩
    have n3_ : Aside0 (((w47.setCell ⟨gb344, 0, none⟩ (.int .i64 t340)).setCell ⟨gb344, 1, none⟩ (.slice Ao50 t341.length co50)).heap[gb339]? = some (.cells #[.int .i64 (rd t335 x11_1)] 3 (0, 0))) := ⟨zf2 BK339.out NB339_344.out NB339_344.out⟩
    have n4_ : Aside0 (((w47.setCell ⟨gb344, 0, none⟩ (.int .i64 t340)).setCell ⟨gb344, 1, none⟩ (.slice Ao50 t341.length co50)).heap[gb344]? = some (.cells #[.int .i64 t340, .slice Ao50 t341.length co50] 61 (0, 0))) := ⟨by (with_reducible repeat (first | refine blk_drewN ?_ _ | refine blk_drew ?_ | refine blk_alloc ?_ _)); refine blk_put (cs := #[.int .i64 t340, .slice none 0 0]) ?_ 1 _ rfl; (with_reducible repeat (first | refine blk_drewN ?_ _ | refine blk_drew ?_ | refine blk_alloc ?_ _)); refine blk_put (cs := #[.int .i64 0, .slice none 0 0]) ?_ 0 _ rfl; (with_reducible repeat (first | refine blk_drewN ?_ _ | refine blk_drew ?_ | refine blk_alloc ?_ _)); exact BK344.out⟩
    have n5_ : Aside0 (Below w.heap.size w ((w47.setCell ⟨gb344, 0, none⟩ (.int .i64 t340)).setCell ⟨gb344, 1, none⟩ (.slice Ao50 t341.length co50))) := ⟨zh HB.out⟩
    (try clear HO_3)
    (try clear HO_9)
    (try clear HO343)
    (try clear BK339)
    (try clear BK344)
    (try clear HB)
    generalize ((w47.setCell ⟨gb344, 0, none⟩ (.int .i64 t340)).setCell ⟨gb344, 1, none⟩ (.slice Ao50 t341.length co50)) = w51 at n0_ n1_ n2_ n3_ n4_ n5_ ⊢
    have HO_3 := n0_
    have HO_9 := n1_
    have HO343 := n2_
    have BK339 := n3_
    have BK344 := n4_
    have HB := n5_
    clear n0_ n1_ n2_ n3_ n4_ n5_
    have n0_ := Aside0.mk (Kd.R_drew HO_3.out)
    have n1_ := Aside0.mk (Kd.R_drew HO_9.out)
    have n2_ := Aside0.mk (Kd.R_drew HO343.out)
    have n3_ := Aside0.mk (blk_drew BK339.out)
    have n4_ := Aside0.mk (blk_drew BK344.out)
    have n5_ := Aside0.mk (below_drew1 HB.out)
    clear HO_3
    clear HO_9
    clear HO343
    clear BK339
    clear BK344
    clear HB
    have HO_3 := n0_
    have HO_9 := n1_
    have HO343 := n2_
    have BK339 := n3_
    have BK344 := n4_
    have HB := n5_
    clear n0_ n1_ n2_ n3_ n4_ n5_
    have p345 : 0 ≤ (0 : Int) := (by omega)
    have q345 : 0 < (t341.length : Int) := zk
    obtain ⟨ad345, e345, hx345_0⟩ := Kd.at_bool (Kd.R_reads' HO343.out).2.2 0 p345 q345
    (try rw [← Nbq12.out] at hx345_0)
    (try rw [← Nbq26.out] at hx345_0)
    cases e345
    have qi345 : (0 < t341.length) = True := eq_true (by omega)
    (try rw [show ((0 : Int)).toNat = 0 from rfl] at hx345_0)
    (try rw [Addr.add_zero'] at hx345_0)
    replace p345 := eq_true p345
    replace q345 := eq_true q345
    have p347 : 0 ≤ (t346 : Int) := zk
    have q347 : t346 < (t341.length : Int) := zk
    obtain ⟨ad347, e347, hx347_0⟩ := Kd.at_bool (Kd.R_reads' HO343.out).2.2 t346 p347 q347
    (try rw [← Nbq12.out] at hx347_0)
    (try rw [← Nbq26.out] at hx347_0)
    obtain rfl : ad345 = ad347 := (by injection e347)
    replace p347 := eq_true p347
    replace q347 := eq_true q347
    refine start_ (n := 13) (S := fun w' => w'.cell? ⟨gb344, 0, none⟩ = some (.int .i64 t340) ∧ w'.cell? ⟨gb344, 1, none⟩ = some (.slice (some ad345) t341.length co50) ∧ w'.cell? ad345 = some (.bool false) ∧ w'.cell? (ad345.add (t346).toNat) = some (.bool false)) (ds := []) (tb 13 0) (by kernel_rfl) rfl rfl ⟨(blk_cell BK344.out 0).trans rfl, (blk_cell BK344.out 1).trans rfl, hx345_0, hx347_0⟩ (fun hHeld => ?_); refine with_tabW impl_allGames.tab6 impl_allGames.bits6 (fun HT_ HW_ => ?_)
    generalize w51.drew = w52 at HO_3 HO_9 HO343 BK339 BK344 HB hx345_0 hx347_0 hHeld ⊢
    refine zu (i := 0) (N := some 18) (tb 13 1) rfl rfl HT_ ?_
    refine zt (i := 1) (N := some 19) (tb 13 3) rfl rfl (take_ofW HT_.out HW_.out (by kernel_rfl)) hHeld ?_
    refine zu (i := 2) (N := some 20) (tb 13 7) rfl rfl HT_ ?_
    refine zt (i := 3) (N := some 21) (tb 13 15) rfl rfl (take_ofW HT_.out HW_.out (by kernel_rfl)) hHeld ?_
    refine zu (i := 4) (N := some 22) (tb 13 31) rfl rfl HT_ ?_
    refine zu (i := 5) (N := some 23) (tb 13 63) rfl rfl HT_ ?_
    refine zu (i := 6) (N := some 24) (tb 13 127) rfl rfl HT_ ?_
    refine zt (i := 7) (N := some 25) (tb 13 255) rfl rfl (take_ofW HT_.out HW_.out (by kernel_rfl)) hHeld ?_
    refine zt (i := 8) (N := some 26) (tb 13 511) rfl rfl (take_ofW HT_.out HW_.out (by kernel_rfl)) hHeld ?_
    refine one_ (i := 9) (N := some 27) (tb 13 1023) rfl rfl (one_of HT_.out (by kernel_rfl)) (by decide) (fun K hK => ?_)
    refine goes_ Tryz.func99 (by kernel_rfl) rfl #[.agg #[.int .i64 t340, .slice (some ad345) t341.length co50]] (by rfl) rfl rfl (by (try simp only [List.map_toArray, List.map_cons, List.map_nil]); first | done | rfl | (simp only [List.length_drop, List.length_take]; rfl)) ?_
    with_reducible refine (impl_votes_all.calls t340 _ _ t341 t346 _ ?side1 ?side2 A23.out).mono ?_
    (case side1 => repeat (first | exact (Kd.R_reads' HO343.out).2.2 | (with_reducible refine Kd.C_alloc ?_ _) | (with_reducible refine Kd.C_drewN ?_ _) | (with_reducible refine Kd.C_drew ?_)))
    (case side2 => exact (Kd.R_reads' HO343.out).2.1)
    rintro e w53 ⟨rfl, hb⟩
    have HS2_ := (hb.cell (World.block_lt_of_cell? _ _ (hHeld.2.2.1))).trans (hHeld.2.2.1)
    have HS3_ := (hb.cell (World.block_lt_of_cell? _ _ (hHeld.2.2.2))).trans (hHeld.2.2.2)
    refine ⟨_, rfl, ?_⟩
    have n0_ := Aside0.mk (Kd.R_below (zr HO_3.out) hb)
    have n1_ := Aside0.mk (Kd.R_below (zr HO_9.out) hb)
    have n2_ := Aside0.mk (Kd.R_below (zr HO343.out) hb)
    have n3_ := Aside0.mk (blk_below (g := gb339) (o := .cells #[.int .i64 (rd t335 x11_1)] 3 (0, 0)) (zb BK339.out) hb)
    have n4_ := Aside0.mk (blk_below (g := gb344) (o := .cells #[.int .i64 t340, .slice (some ad345) t341.length co50] 61 (0, 0)) (zb BK344.out) hb)
    have n5_ := Aside0.mk (below_step (zh HB.out) hb)
    clear HO_3
    clear HO_9
    clear HO343
    clear BK339
    clear BK344
    clear HB
    have HO_3 := n0_
    have HO_9 := n1_
    have HO343 := n2_
    have BK339 := n3_
    have BK344 := n4_
    have HB := n5_
    clear n0_ n1_ n2_ n3_ n4_ n5_
    (try clear hb)
    (try clear hb2)
    (try clear hk)
    (try clear hi)
    refine hK.out _ _ ⟨(blk_cell BK344.out 0).trans rfl, (blk_cell BK344.out 1).trans rfl, HS2_, HS3_⟩ (fun hHeld => ?_)
    clear hK K
    refine zn1 ?_
    refine zu (i := 10) (N := some 28) (tb 13 2047) rfl rfl HT_ ?_
    refine zt (i := 11) (N := some 29) (tb 13 4095) rfl rfl (take_ofW HT_.out HW_.out (by kernel_rfl)) hHeld ?_
    refine zu (i := 12) (N := some 30) (tb 13 8191) rfl rfl HT_ ?_
    refine done_ (done_of HT_.out (by kernel_rfl)) ?_
    try go_wp2
    go_roundg k1
    case measure => have := HK1.out; omega
    case rel => exact ⟨(x3_1), (wrap64 (x11_1 + 1)), (by first | rfl | (simp; done) | (simp [*]; done)), H', ⟨by have := HK1.out; omega⟩, ⟨by (with_reducible repeat (first | apply Kd.R_alloc | apply Kd.R_drewN | apply Kd.R_drew)); exact Kd.R_mono HO_3.out (fun _ hk => hk.1)⟩, ⟨by (with_reducible repeat (first | apply Kd.R_alloc | apply Kd.R_drewN | apply Kd.R_drew)); exact Kd.R_mono HO_9.out (fun _ hk => trivial)⟩, ⟨zh HB.out⟩⟩
   subst c27
   have H1 : ((impl_votes_game.f k1 t340 t341).bind fun bt348 => (if x3_1.length < 4398046511104 then (impl_allGames.l0 k1 a0 (x3_1 ++ [(⟨bt348.1, bt348.2⟩ : S28)]) t335 (t335.length : Int) (wrap64 (x11_1 + 1))) else (none))) = some r := by rw [if_pos rfl] at H; exact H
   clear H
   have H := H1
   clear H1
   replace H := Option.bind_eq_some_iff.mp H
   obtain ⟨⟨t348, t349⟩, A280, H⟩ := H
   replace H : (if x3_1.length < 4398046511104 then (impl_allGames.l0 k1 a0 (x3_1 ++ [(⟨t348, t349⟩ : S28)]) t335 (t335.length : Int) (wrap64 (x11_1 + 1))) else (none)) = some r := H
   have A28 := Aside0.mk A280
   clear A280
   by_cases c29 : x3_1.length < 4398046511104
   rotate_left
   ·rw [if_neg c29] at H
    exact absurd H (by simp)
   rw [if_pos c29] at H
   have LMc29 := Aside0.mk c29
   clear c29
   obtain ⟨y352, hy352⟩ : ∃ y_ : List (S28), y_ = (x3_1 ++ [(⟨t348, t349⟩ : S28)]) := ⟨_, rfl⟩
   replace H : (impl_allGames.l0 k1 a0 y352 t335 (t335.length : Int) (wrap64 (x11_1 + 1))) = some r := by first | (rw [hy352]; with_reducible exact H) | (have H2_ := (Option.bind_some _ _).symm.trans H; rw [hy352]; with_reducible exact H2_) | (have H2_ := (Option.bind_some _ _).symm.trans H; with_reducible exact H2_) | with_reducible exact H | (rw [hy352]; exact H) | exact H
   have Ny352 := Aside0.mk hy352
   clear hy352
   have H' := Aside0.mk H
   clear H
   have p338 : 0 ≤ (x11_1 : Int) := zk
   have q338 : x11_1 < (t335.length : Int) := zk
   obtain ⟨ad338, e338, hx338_0⟩ := Kd.at_int (Kd.R_reads' HO_9.out).2.2 x11_1 p338 q338
   cases e338
   replace p338 := eq_true p338
   replace q338 := eq_true q338
   try go_wp2_with (first | ((with_reducible refine gate_dst (N := 5) rfl ?_); refine zq 5 #[.int .i64 0] 3 ?_; intro gb339 hg w30 hbox hb; have n0_ := Aside0.mk (Kd.R_below (Kd.R_elderB (zr HO_3.out) gb339 (Nat.le_of_eq hg.symm)) hb); have n1_ := Aside0.mk (Kd.R_below (Kd.R_elderB (zr HO_9.out) gb339 (Nat.le_of_eq hg.symm)) hb); have n2_ := Aside0.mk (below_step (zh HB.out) hb); have n3_ := Aside0.mk (hbox); have n4_ := Aside0.mk ((by rw [hg]; exact (below_size (zh HB.out)) : w.heap.size ≤ gb339)); have n5_ := Aside0.mk ((by rw [hg]; exact (below_size (zh HB.out)) : w.heap.size ≤ gb339)); clear HO_3; clear HO_9; clear HB; have HO_3 := n0_; have HO_9 := n1_; have HB := n2_; have BK339 := n3_; have GW339 := n4_; have GE339 := n5_; clear n0_ n1_ n2_ n3_ n4_ n5_; clear hb hbox hg; have hcz31_0 : w30.cell? ⟨gb339, 0, none⟩ = some (.int .i64 0) := (blk_cell BK339.out 0).trans rfl; have hfz31_0 := blk_frozen BK339.out 0) | ((with_reducible refine gate_callee (f := 92) rfl ?_); refine zl 17 Tryz.func92 #[.int .i64 a0, .func (.func 97) #[] #[.pointer (some ⟨gb339, 0, none⟩)]] ?_; (with_reducible refine (votesOf_allGames.calls k1 a0 (rd t335 x11_1) t340 t341 _ gb339 (by first | exact (blk_cell (zb BK339.out) 0).trans rfl | exact (blk_cell (blk_put (zb BK339.out) 0 _ rfl) 0).trans rfl | exact zb BK339.out) A10.out).mono ?_); rintro e w32 ⟨v342, rfl, ho0, hb⟩; refine ⟨_, rfl, ?_⟩; have n0_ := Aside0.mk (Kd.R_below (by (with_reducible repeat (first | apply Kd.R_alloc | apply Kd.R_drewN | apply Kd.R_drew)); exact (Kd.R_mono (Kd.R_far (p := ⟨gb339, 0, none⟩) (Kd.R_mono HO_3.out (fun k_ hk => (⟨hk, hk.2⟩ : _ ∧ k_ ≠ gb339))) (fun _ hk => hk.2) (.int .i64 (rd t335 x11_1))) (fun _ h_ => h_.1))) hb); have n1_ := Aside0.mk (Kd.R_below (by (with_reducible repeat (first | apply Kd.R_alloc | apply Kd.R_drewN | apply Kd.R_drew)); exact (Kd.R_mono (Kd.R_far (p := ⟨gb339, 0, none⟩) (Kd.R_mono HO_9.out (fun k_ hk => (⟨hk, hk.2⟩ : _ ∧ k_ ≠ gb339))) (fun _ hk => hk.2) (.int .i64 (rd t335 x11_1))) (fun _ h_ => h_.1))) hb); have n2_ := Aside0.mk (Kd.R_lower ho0 (below_size (zh HB.out))); have n3_ := Aside0.mk (blk_below (g := gb339) (o := .cells #[.int .i64 (rd t335 x11_1)] 3 (0, 0)) (by (with_reducible repeat (first | refine blk_drewN ?_ _ | refine blk_drew ?_ | refine blk_alloc ?_ _)); refine blk_put (cs := #[.int .i64 0]) ?_ 0 _ rfl; (with_reducible repeat (first | refine blk_drewN ?_ _ | refine blk_drew ?_ | refine blk_alloc ?_ _)); exact BK339.out) hb); have n4_ := Aside0.mk (below_step (zh HB.out) hb); clear HO_3; clear HO_9; clear BK339; clear HB; have HO_3 := n0_; have HO_9 := n1_; have HO343 := n2_; have BK339 := n3_; have HB := n4_; clear n0_ n1_ n2_ n3_ n4_; (try clear hb); (try clear hb2); (try clear hk); (try clear hi); (try clear ho0)) | ((with_reducible refine gate_dst (N := 6) rfl ?_); refine zq 6 #[.int .i64 0, .slice none 0 0] 61 ?_; intro gb344 hg w33 hbox hb; have n0_ := Aside0.mk (Kd.R_below (zr HO_3.out) hb); have n1_ := Aside0.mk (Kd.R_below (zr HO_9.out) hb); have n2_ := Aside0.mk (Kd.R_below (zr HO343.out) hb); have n3_ := Aside0.mk (blk_below (g := gb339) (o := .cells #[.int .i64 (rd t335 x11_1)] 3 (0, 0)) (zb BK339.out) hb); have n4_ := Aside0.mk (below_step (zh HB.out) hb); have n5_ := Aside0.mk (hbox); have n6_ := Aside0.mk ((by rw [hg]; exact (below_size (zh HB.out)) : w.heap.size ≤ gb344)); have n7_ := Aside0.mk ((by rw [hg]; exact (below_size (zh HB.out)) : w.heap.size ≤ gb344)); have n8_ := Aside0.mk ((by rw [hg]; exact Nat.ne_of_lt (blk_lt (g := gb339) (o := .cells #[.int .i64 (rd t335 x11_1)] 3 (0, 0)) (zb BK339.out)) : gb339 ≠ gb344)); have n9_ := Aside0.mk ((by rw [hg]; exact Nat.ne_of_gt (blk_lt (g := gb339) (o := .cells #[.int .i64 (rd t335 x11_1)] 3 (0, 0)) (zb BK339.out)) : gb344 ≠ gb339)); clear HO_3; clear HO_9; clear HO343; clear BK339; clear HB; have HO_3 := n0_; have HO_9 := n1_; have HO343 := n2_; have BK339 := n3_; have HB := n4_; have BK344 := n5_; have GW344 := n6_; have GE344 := n7_; have NB339_344 := n8_; have NB344_339 := n9_; clear n0_ n1_ n2_ n3_ n4_ n5_ n6_ n7_ n8_ n9_; clear hb hbox hg; have hnb34 := NB344_339.out; have hnc34 := NB339_344.out; have hcz35_0 : w33.cell? ⟨gb344, 0, none⟩ = some (.int .i64 0) := (blk_cell BK344.out 0).trans rfl; have hcz35_1 : w33.cell? ⟨gb344, 1, none⟩ = some (.slice none 0 0) := (blk_cell BK344.out 1).trans rfl; have hfz35_0 := blk_frozen BK344.out 0; have hfz35_1 := blk_frozen BK344.out 1; obtain ⟨Ao36, co36, eo36⟩ := Kd.R_slice HO343.out; subst eo36))
   have n0_ : Aside0 (Kd.R k28 28 ((w33.setCell ⟨gb344, 0, none⟩ (.int .i64 t340)).setCell ⟨gb344, 1, none⟩ (.slice Ao36 t341.length co36)) w.heap.size (fun k_ => some k_ ≠ (.slice (some ad338) t335.length co6 : Value).ownBlock ∧ k_ ≠ gb339) u3 x3_1) := ⟨by (with_reducible repeat (first | apply Kd.R_alloc | apply Kd.R_drewN | apply Kd.R_drew)); exact Kd.R_mono (Kd.R_far (p := ⟨gb344, 1, none⟩) (Kd.R_far (p := ⟨gb344, 0, none⟩) (Kd.R_types HO_3.out BK344.out (by decide)) (fun _ hk => hk.2) (.int .i64 t340)) (fun _ hk => hk.2) (.slice Ao36 t341.length co36)) (fun _ hk => ⟨hk.1.1, hk.1.2⟩)⟩
   have n1_ : Aside0 (Kd.R (Kd.int .i64) 3 ((w33.setCell ⟨gb344, 0, none⟩ (.int .i64 t340)).setCell ⟨gb344, 1, none⟩ (.slice Ao36 t341.length co36)) w.heap.size (fun k_ => k_ ≠ gb339) (.slice (some ad338) t335.length co6) t335) := ⟨by (with_reducible repeat (first | apply Kd.R_alloc | apply Kd.R_drewN | apply Kd.R_drew)); exact Kd.R_mono (Kd.R_far (p := ⟨gb344, 1, none⟩) (Kd.R_far (p := ⟨gb344, 0, none⟩) (Kd.R_types HO_9.out BK344.out (by decide)) (fun _ hk => hk.2) (.int .i64 t340)) (fun _ hk => hk.2) (.slice Ao36 t341.length co36)) (fun _ hk => hk.1.2)⟩
   have n2_ : Aside0 (Kd.R Kd.bool 4 ((w33.setCell ⟨gb344, 0, none⟩ (.int .i64 t340)).setCell ⟨gb344, 1, none⟩ (.slice Ao36 t341.length co36)) w.heap.size (fun _ => True) (.slice Ao36 t341.length co36) t341) := ⟨by (with_reducible repeat (first | apply Kd.R_alloc | apply Kd.R_drewN | apply Kd.R_drew)); exact Kd.R_mono (Kd.R_far (p := ⟨gb344, 1, none⟩) (Kd.R_far (p := ⟨gb344, 0, none⟩) (Kd.R_types HO343.out BK344.out (by decide)) (fun _ hk => hk.2) (.int .i64 t340)) (fun _ hk => hk.2) (.slice Ao36 t341.length co36)) (fun _ hk => trivial)⟩
   have n3_ : Aside0 (((w33.setCell ⟨gb344, 0, none⟩ (.int .i64 t340)).setCell ⟨gb344, 1, none⟩ (.slice Ao36 t341.length co36)).heap[gb339]? = some (.cells #[.int .i64 (rd t335 x11_1)] 3 (0, 0))) := ⟨zf2 BK339.out NB339_344.out NB339_344.out⟩
   have n4_ : Aside0 (((w33.setCell ⟨gb344, 0, none⟩ (.int .i64 t340)).setCell ⟨gb344, 1, none⟩ (.slice Ao36 t341.length co36)).heap[gb344]? = some (.cells #[.int .i64 t340, .slice Ao36 t341.length co36] 61 (0, 0))) := ⟨by (with_reducible repeat (first | refine blk_drewN ?_ _ | refine blk_drew ?_ | refine blk_alloc ?_ _)); refine blk_put (cs := #[.int .i64 t340, .slice none 0 0]) ?_ 1 _ rfl; (with_reducible repeat (first | refine blk_drewN ?_ _ | refine blk_drew ?_ | refine blk_alloc ?_ _)); refine blk_put (cs := #[.int .i64 0, .slice none 0 0]) ?_ 0 _ rfl; (with_reducible repeat (first | refine blk_drewN ?_ _ | refine blk_drew ?_ | refine blk_alloc ?_ _)); exact BK344.out⟩
   have n5_ : Aside0 (Below w.heap.size w ((w33.setCell ⟨gb344, 0, none⟩ (.int .i64 t340)).setCell ⟨gb344, 1, none⟩ (.slice Ao36 t341.length co36))) := ⟨zh HB.out⟩
   (try clear HO_3)
   (try clear HO_9)
   (try clear HO343)
   (try clear BK339)
   (try clear BK344)
   (try clear HB)
   generalize ((w33.setCell ⟨gb344, 0, none⟩ (.int .i64 t340)).setCell ⟨gb344, 1, none⟩ (.slice Ao36 t341.length co36)) = w37 at n0_ n1_ n2_ n3_ n4_ n5_ ⊢
   have HO_3 := n0_
   have HO_9 := n1_
   have HO343 := n2_
   have BK339 := n3_
   have BK344 := n4_
   have HB := n5_
   clear n0_ n1_ n2_ n3_ n4_ n5_
   have n0_ := Aside0.mk (Kd.R_drew HO_3.out)
   have n1_ := Aside0.mk (Kd.R_drew HO_9.out)
   have n2_ := Aside0.mk (Kd.R_drew HO343.out)
   have n3_ := Aside0.mk (blk_drew BK339.out)
   have n4_ := Aside0.mk (blk_drew BK344.out)
   have n5_ := Aside0.mk (below_drew1 HB.out)
   clear HO_3
   clear HO_9
   clear HO343
   clear BK339
   clear BK344
   clear HB
   have HO_3 := n0_
   have HO_9 := n1_
   have HO343 := n2_
   have BK339 := n3_
   have BK344 := n4_
   have HB := n5_
   clear n0_ n1_ n2_ n3_ n4_ n5_
   have p345 : 0 ≤ (0 : Int) := (by omega)
   have q345 : 0 < (t341.length : Int) := zk
   obtain ⟨ad345, e345, hx345_0⟩ := Kd.at_bool (Kd.R_reads' HO343.out).2.2 0 p345 q345
   (try rw [← Nbq12.out] at hx345_0)
   (try rw [← Nbq26.out] at hx345_0)
   cases e345
   have qi345 : (0 < t341.length) = True := eq_true (by omega)
   (try rw [show ((0 : Int)).toNat = 0 from rfl] at hx345_0)
   (try rw [Addr.add_zero'] at hx345_0)
   replace p345 := eq_true p345
   replace q345 := eq_true q345
   have p347 : 0 ≤ (t346 : Int) := zk
   have q347 : t346 < (t341.length : Int) := zk
   obtain ⟨ad347, e347, hx347_0⟩ := Kd.at_bool (Kd.R_reads' HO343.out).2.2 t346 p347 q347
   (try rw [← Nbq12.out] at hx347_0)
   (try rw [← Nbq26.out] at hx347_0)
   obtain rfl : ad345 = ad347 := (by injection e347)
   replace p347 := eq_true p347
   replace q347 := eq_true q347
   refine start_ (n := 13) (S := fun w' => w'.cell? ⟨gb344, 0, none⟩ = some (.int .i64 t340) ∧ w'.cell? ⟨gb344, 1, none⟩ = some (.slice (some ad345) t341.length co36) ∧ w'.cell? ad345 = some (.bool false) ∧ w'.cell? (ad345.add (t346).toNat) = some (.bool true)) (ds := []) (tb 13 0) (by kernel_rfl) rfl rfl ⟨(blk_cell BK344.out 0).trans rfl, (blk_cell BK344.out 1).trans rfl, hx345_0, hx347_0⟩ (fun hHeld => ?_); refine with_tabW impl_allGames.tab6 impl_allGames.bits6 (fun HT_ HW_ => ?_)
   generalize w37.drew = w38 at HO_3 HO_9 HO343 BK339 BK344 HB hx345_0 hx347_0 hHeld ⊢
   refine zu (i := 0) (N := some 18) (tb 13 1) rfl rfl HT_ ?_
   refine zt (i := 1) (N := some 19) (tb 13 3) rfl rfl (take_ofW HT_.out HW_.out (by kernel_rfl)) hHeld ?_
   refine zu (i := 2) (N := some 20) (tb 13 7) rfl rfl HT_ ?_
   refine zt (i := 3) (N := some 21) (tb 13 15) rfl rfl (take_ofW HT_.out HW_.out (by kernel_rfl)) hHeld ?_
   refine zu (i := 4) (N := some 22) (tb 13 31) rfl rfl HT_ ?_
   refine zu (i := 5) (N := some 23) (tb 13 63) rfl rfl HT_ ?_
   refine zu (i := 6) (N := some 24) (tb 13 127) rfl rfl HT_ ?_
   refine zt (i := 7) (N := some 25) (tb 13 255) rfl rfl (take_ofW HT_.out HW_.out (by kernel_rfl)) hHeld ?_
   refine zt (i := 8) (N := some 26) (tb 13 511) rfl rfl (take_ofW HT_.out HW_.out (by kernel_rfl)) hHeld ?_
   refine one_ (i := 9) (N := some 27) (tb 13 1023) rfl rfl (one_of HT_.out (by kernel_rfl)) (by decide) (fun K hK => ?_)
   refine goes_ Tryz.func99 (by kernel_rfl) rfl #[.agg #[.int .i64 t340, .slice (some ad345) t341.length co36]] (by rfl) rfl rfl (by (try simp only [List.map_toArray, List.map_cons, List.map_nil]); first | done | rfl | (simp only [List.length_drop, List.length_take]; rfl)) ?_
   with_reducible refine (impl_votes_all.calls t340 _ _ t341 t346 _ ?side1 ?side2 A23.out).mono ?_
   (case side1 => repeat (first | exact (Kd.R_reads' HO343.out).2.2 | (with_reducible refine Kd.C_alloc ?_ _) | (with_reducible refine Kd.C_drewN ?_ _) | (with_reducible refine Kd.C_drew ?_)))
   (case side2 => exact (Kd.R_reads' HO343.out).2.1)
   rintro e w39 ⟨rfl, hb⟩
   have HS2_ := (hb.cell (World.block_lt_of_cell? _ _ (hHeld.2.2.1))).trans (hHeld.2.2.1)
   have HS3_ := (hb.cell (World.block_lt_of_cell? _ _ (hHeld.2.2.2))).trans (hHeld.2.2.2)
   refine ⟨_, rfl, ?_⟩
   have n0_ := Aside0.mk (Kd.R_below (zr HO_3.out) hb)
   have n1_ := Aside0.mk (Kd.R_below (zr HO_9.out) hb)
   have n2_ := Aside0.mk (Kd.R_below (zr HO343.out) hb)
   have n3_ := Aside0.mk (blk_below (g := gb339) (o := .cells #[.int .i64 (rd t335 x11_1)] 3 (0, 0)) (zb BK339.out) hb)
   have n4_ := Aside0.mk (blk_below (g := gb344) (o := .cells #[.int .i64 t340, .slice (some ad345) t341.length co36] 61 (0, 0)) (zb BK344.out) hb)
   have n5_ := Aside0.mk (below_step (zh HB.out) hb)
   clear HO_3
   clear HO_9
   clear HO343
   clear BK339
   clear BK344
   clear HB
   have HO_3 := n0_
   have HO_9 := n1_
   have HO343 := n2_
   have BK339 := n3_
   have BK344 := n4_
   have HB := n5_
   clear n0_ n1_ n2_ n3_ n4_ n5_
   (try clear hb)
   (try clear hb2)
   (try clear hk)
   (try clear hi)
   refine hK.out _ _ ⟨(blk_cell BK344.out 0).trans rfl, (blk_cell BK344.out 1).trans rfl, HS2_, HS3_⟩ (fun hHeld => ?_)
   clear hK K
   refine zn1 ?_
   refine zu (i := 10) (N := some 28) (tb 13 2047) rfl rfl HT_ ?_
   refine zt (i := 11) (N := some 29) (tb 13 4095) rfl rfl (take_ofW HT_.out HW_.out (by kernel_rfl)) hHeld ?_
   refine zu (i := 12) (N := some 30) (tb 13 8191) rfl rfl HT_ ?_
   refine done_ (done_of HT_.out (by kernel_rfl)) ?_
   have hcz40_0 : w39.cell? ⟨gb344, 0, none⟩ = some (.int .i64 t340) := (blk_cell BK344.out 0).trans rfl
   have hcz40_1 : w39.cell? ⟨gb344, 1, none⟩ = some (.slice (some ad345) t341.length co36) := (blk_cell BK344.out 1).trans rfl
   have hfz40_0 := blk_frozen BK344.out 0
   have hfz40_1 := blk_frozen BK344.out 1
   try go_wp2_with (first | ((with_reducible refine gate_callee (f := 100) rfl ?_); refine zl 33 Tryz.func100 #[.agg #[.int .i64 t340, .slice (some ad345) t341.length co36]] ?_; (with_reducible refine (impl_votes_game.calls k1 t340 _ _ t341 t348 t349 _ ?side1 ?side2 A28.out).mono ?_); (case side1 => repeat (first | exact (Kd.R_reads' HO343.out).2.2 | (with_reducible refine Kd.C_alloc ?_ _) | (with_reducible refine Kd.C_drewN ?_ _) | (with_reducible refine Kd.C_drew ?_))); (case side2 => exact (Kd.R_reads' HO343.out).2.1); rintro e w41 ⟨v350, rfl, ho0, hb⟩; refine ⟨_, rfl, ?_⟩; have n0_ := Aside0.mk (Kd.R_elder' (zr HO_3.out) (Kd.S_base ho0) hb); have n1_ := Aside0.mk (Kd.R_below (zr HO_9.out) hb); have n2_ := Aside0.mk (Kd.R_below (zr HO343.out) hb); have n3_ := Aside0.mk (Kd.S_lower (Kd.S_newB (Kd.S_new' ho0 (Kd.R_lt (zr HO_9.out))) (g := gb339) (o := .cells #[.int .i64 (rd t335 x11_1)] 3 (0, 0)) (zb BK339.out)) (below_size (zh HB.out))); have n4_ := Aside0.mk (blk_below (g := gb339) (o := .cells #[.int .i64 (rd t335 x11_1)] 3 (0, 0)) (zb BK339.out) hb); have n5_ := Aside0.mk (blk_below (g := gb344) (o := .cells #[.int .i64 t340, .slice (some ad345) t341.length co36] 61 (0, 0)) (zb BK344.out) hb); have n6_ := Aside0.mk (below_step (zh HB.out) hb); clear HO_3; clear HO_9; clear HO343; clear BK339; clear BK344; clear HB; have HO_3 := n0_; have HO_9 := n1_; have HO343 := n2_; have HO351 := n3_; have BK339 := n4_; have BK344 := n5_; have HB := n6_; clear n0_ n1_ n2_ n3_ n4_ n5_ n6_; (try clear hb); (try clear hb2); (try clear hk); (try clear hi); (try clear ho0); obtain ⟨Ao43, co43, eo43⟩ := Kd.S_slice HO351.out; subst eo43) | ((with_reducible refine gate_builtin (b := .append) (xs := #[.tmp 31, .tmp 34]) rfl ?_); at_builtin; refine Kd.R_append k28 (w0 := w) w.heap.size rfl (.tmp 31) (.tmp 34) 42 28 (.agg #[(.int .i64 0), (.slice none 0 0)]) 32 rfl Tryz.underlying42 info28 rfl (by decide) (by omega) u3 x3_1 (⟨t348, t349⟩ : S28) [.int .i64 t348, .slice Ao43 t349.length co43] (fun k_ => some k_ ≠ (.slice (some ad338) t335.length co6 : Value).ownBlock ∧ k_ ≠ gb339) (fun k_ => ((fun k_ => some k_ ≠ (.slice (some ad338) t335.length co6 : Value).ownBlock ∧ k_ ≠ gb339)) k_ ∧ some k_ ≠ (u3 : Value).ownBlock) rfl rfl ?aP (fun _ hk => hk) ?aF ?aO ?aB ?aS ?aL ?_; (case aP => exact k28_mkM _ _ _ (⟨t348, t349⟩ : S28) (Kd.R_mono (Kd.R_apart' ((Kd.S_R HO351.out)) (Kd.R_typed HO_3.out) (by decide)) (fun k_ hk => ⟨⟨hk.1.1.2, hk.1.2⟩, hk.2⟩))); (case aB => exact (zh HB.out)); (case aF => exact (fun k_ hk => ⟨Kd.fresh' (Kd.R_lt (zr HO_9.out)) k_ hk, Kd.freshB (g := gb339) (o := .cells #[.int .i64 (rd t335 x11_1)] 3 (0, 0)) (zb BK339.out) k_ hk⟩)); (case aO => exact (by (with_reducible repeat (first | apply Kd.R_alloc | apply Kd.R_drewN | apply Kd.R_drew)); exact Kd.R_mono HO_3.out (fun _ hk => ⟨hk.1.1, hk.1.2⟩))); (case aS => exact (below_size (zh HB.out))); (case aL => have := LMc29.out; omega); intro v353 w42 ho hb hg hat; rw [← Ny352.out] at ho; have n0_ := Aside0.mk (Kd.R_over' (zr HO_9.out) (Kd.R_typed (zr HO_3.out)) (by decide) hg); have n1_ := Aside0.mk (blk_grown (g := gb339) (o := .cells #[.int .i64 (rd t335 x11_1)] 3 (0, 0)) (zb BK339.out) hg (Kd.R_ne HO_3.out BK339.out (by decide))); have n2_ := Aside0.mk (Kd.R_over' (zr HO343.out) (Kd.R_typed (zr HO_3.out)) (by decide) hg); have n3_ := Aside0.mk (blk_grown (g := gb344) (o := .cells #[.int .i64 t340, .slice (some ad345) t341.length co36] 61 (0, 0)) (zb BK344.out) hg (Kd.R_ne HO_3.out BK344.out (by decide))); have n4_ := Aside0.mk (hb); have n5_ := Aside0.mk (ho); clear HO_9; clear BK339; clear HO343; clear BK344; clear HB; clear HO_3; clear HO351; have HO_9 := n0_; have BK339 := n1_; have HO343 := n2_; have BK344 := n3_; have HB := n4_; have HO354 := n5_; clear n0_ n1_ n2_ n3_ n4_ n5_; clear ho hb hg hat))
   go_roundg k1
   case measure => have := HK1.out; omega
   case rel => exact ⟨(y352), (wrap64 (x11_1 + 1)), (by first | rfl | (simp; done) | (simp [*]; done)), H', ⟨by have := HK1.out; omega⟩, ⟨by (with_reducible repeat (first | apply Kd.R_alloc | apply Kd.R_drewN | apply Kd.R_drew)); exact Kd.R_mono HO354.out (fun _ hk => hk.1)⟩, ⟨by (with_reducible repeat (first | apply Kd.R_alloc | apply Kd.R_drewN | apply Kd.R_drew)); exact Kd.R_mono HO_9.out (fun _ hk => trivial)⟩, ⟨zh HB.out⟩⟩
end Go.Proofs.YtmbkmabpebjboaaGreat.Q
end

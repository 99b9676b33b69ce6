/- The row of the law FnExactHarderPuzzle: for every input it returns true, and its arguments read afterwards as before. No condition: FnExactHarderPuzzle_pure says that its pure form answers true at every input, and laws_FnExactHarderPuzzle.calls that the machine comes to just that. -/
import Derived.Test.YtgjakcpbfbfejaaGreatKFnExactHarderPuzzle5
import Derived.Test.YtgjakcpbfbfejaaGreatRows
import Derived.ProofKit
import Derived.OpenShut
import Derived.ShutString
import Derived.ChangeOld
import Derived.SizedLaws
import Derived.Deep.Slices
import Derived.Deep.Strs
section
namespace Go.Proofs.YtgjakcpbfbfejaaGreat.Q
open Go.RowKit Go.Proofs.YtgjakcpbfbfejaaGreatW.PrintWords Go.Proofs.YtgjakcpbfbfejaaGreatW.PrintLast Go.Proofs.YtgjakcpbfbfejaaGreatW.PrintMore
attribute [local go_sem] max2_int min2_int max_two min_two max_three min_three max_four min_four
set_option linter.unusedVariables false
set_option linter.unusedSimpArgs false
def impl_allGames.l0 : Nat → Int → List (S46) → List Int → Int → Int → Option ((List (S46)))
 | 0, _, _, _, _, _ => none
 | k + 1, x0, x3, x9, x10, x11 => if x11 < x10 then (if 0 ≤ x11 then (if x11 < (x9.length : Int) then ((votesOf_allGames.f k x0 (rd x9 x11)).bind fun bt274 => (if 0 < (bt274.2.length : Int) then (if rdOf false bt274.2 0 = true then (impl_allGames.l0 k x0 x3 x9 x10 (wrap64 (x11 + 1))) else ((impl_votes_all.f bt274.1 bt274.2).bind fun t280 => (if 0 ≤ t280 then (if t280 < (bt274.2.length : Int) then (if rdOf false bt274.2 t280 = true then ((impl_votes_game.f k bt274.1 bt274.2).bind fun bt282 => (if x3.length < 4398046511104 then (impl_allGames.l0 k x0 (x3 ++ [(⟨bt282.1, bt282.2⟩ : S46)]) x9 x10 (wrap64 (x11 + 1))) else (none))) else (impl_allGames.l0 k x0 x3 x9 x10 (wrap64 (x11 + 1)))) else (none)) else (none)))) else (none))) else (none)) else (none)) else ((sortGames.f x3).bind fun t_ => (some t_))
def impl_allGames.f (k : Nat) (a0 : Int) : Option ((List (S46))) := (impl_tables.f k a0).bind fun t269 => (impl_allGames.l0 k a0 (([] : List (S46))) t269 (t269.length : Int) 0)
theorem impl_allGames.mono_l : ∀ k, (∀ y0 y1 y2 y3 y4, LeO (impl_allGames.l0 k y0 y1 y2 y3 y4) (impl_allGames.l0 (k + 1) y0 y1 y2 y3 y4))
 | 0 => fun _ _ _ _ _ r h => by simp [impl_allGames.l0] at h
 | k + 1 => by
  have ih0 := impl_allGames.mono_l k
  ·intro y0 y1 y2 y3 y4
   unfold impl_allGames.l0
   repeat' first
   | (with_reducible exact ih0 _ _ _ _ _)
   | (with_reducible exact impl_tables.mono _ _)
   | (with_reducible exact impl_votes_game.mono _ _ _)
   | (with_reducible exact votesOf_allGames.mono _ _ _)
   | (with_reducible exact LeO.refl _)
   | (with_reducible exact LeO.none _)
   | (with_reducible refine LeO.ite ?_ ?_)
   | (with_reducible refine LeO.bind ?_ (fun _ => ?_))
   | exact ih0 _ _ _ _ _
   | exact impl_tables.mono _ _
   | exact impl_votes_game.mono _ _ _
   | exact votesOf_allGames.mono _ _ _
   | exact LeO.none _
   | refine LeO.ite ?_ ?_
   | refine LeO.bind ?_ (fun _ => ?_)
theorem impl_allGames.mono : ∀ a0 k, LeO (impl_allGames.f k a0) (impl_allGames.f (k + 1) a0) := by
 intro a0 k
 have ih0 := impl_allGames.mono_l k
 unfold impl_allGames.f
 repeat' first
   | (with_reducible exact ih0 _ _ _ _ _)
   | (with_reducible exact impl_tables.mono _ _)
   | (with_reducible exact impl_votes_game.mono _ _ _)
   | (with_reducible exact votesOf_allGames.mono _ _ _)
   | (with_reducible exact LeO.refl _)
   | (with_reducible exact LeO.none _)
   | (with_reducible refine LeO.ite ?_ ?_)
   | (with_reducible refine LeO.bind ?_ (fun _ => ?_))
   | exact ih0 _ _ _ _ _
   | exact impl_tables.mono _ _
   | exact impl_votes_game.mono _ _ _
   | exact votesOf_allGames.mono _ _ _
   | exact LeO.none _
   | refine LeO.ite ?_ ?_
   | refine LeO.bind ?_ (fun _ => ?_)
def impl_allGames.T6 : Bool × List (List Nat × List Nat) := (true, [([], []), ([0], [0]), ([1], [1]), ([2], [2]), ([3], [3]), ([4], [4]), ([5], [5]), ([6, 5], [5, 6]), ([5], [5]), ([8, 5, 5], [5, 8]), ([7, 9, 5], [5, 7, 9]), ([10, 5], [5, 10]), ([5, 11], [5, 11])])
def impl_allGames.B6 : List Nat := [0, 1, 3, 7, 15, 31, 63, 127, 63, 319, 1023, 2047, 4095]
theorem impl_allGames.tab6 : rtab .any (opsOf Tryz.f78 6) = impl_allGames.T6 := by kernel_rfl
theorem impl_allGames.bits6 : waitsOk impl_allGames.T6.2 impl_allGames.B6 = true := by kernel_rfl
set_option maxHeartbeats 8000000 in
set_option maxRecDepth 100000 in
theorem impl_allGames.calls (k : Nat) (a0 : Int) (r : List (S46)) (w : World) (h : impl_allGames.f k a0 = some r) :
  Calls Tryz.prog 78 #[.int .i64 a0] w fun e w' => ∃ v0_ : Value, e = .returned (v0_) ∧ Kd.R k46 46 w' w.heap.size (fun _ => True) v0_ r ∧ Below w.heap.size w w' := by
 have hu86 := Tryz.underlying86
 have HB := Aside0.mk (Below.refl w.heap.size w)
 have H : ((impl_tables.f k a0).bind fun t269 => (impl_allGames.l0 k a0 (([] : List (S46))) t269 (t269.length : Int) 0)) = some r := h
 clear h
 obtain ⟨y266, hy266⟩ : ∃ y_ : List (S46), y_ = (([] : List (S46))) := ⟨_, rfl⟩
 replace H : ((impl_tables.f k a0).bind fun t269 => (impl_allGames.l0 k a0 y266 t269 (t269.length : Int) 0)) = some r := by first | (rw [hy266]; with_reducible exact H) | (have H2_ := (Option.bind_some _ _).symm.trans H; rw [hy266]; with_reducible exact H2_) | (have H2_ := (Option.bind_some _ _).symm.trans H; with_reducible exact H2_) | with_reducible exact H | (rw [hy266]; exact H) | exact H
 have Ny266 := Aside0.mk hy266
 clear hy266
 replace H := Option.bind_eq_some_iff.mp H
 obtain ⟨t269, A20, H⟩ := H
 replace H : (impl_allGames.l0 k a0 y266 t269 (t269.length : Int) 0) = some r := H
 have A2 := Aside0.mk A20
 clear A20
 have H' := Aside0.mk H
 clear H
 go_enter Tryz.func78, Tryz.ntmps78
 go_wp2_with (first | ((with_reducible refine gate_dst (N := 7) rfl ?_); refine Kd.R_lit k46 _ 46 ?hg (N := 7) ?hd (xs := ([] : List (S46))) (inner := []) (ok := fun _ => True) (okp := fun _ => True) ?hr ?hp (fun _ hk => hk) trivial (Below.refl _ _) (Nat.le_refl _) (by simp) ?_; (case hd => rfl); (case hg => rfl); (case hr => first | (go_simp; done) | (go_simp; rfl)); (case hp => exact (Reps.none _ _)); intro v267 w3 ho4 hb hg_ hnew_; clear hg_ hnew_; (first | rw [← Ny266.out] at ho4 | (simp only [Int.reduceToNat] at ho4; rw [← Ny266.out] at ho4)); have n0_ := Aside0.mk (Kd.R_lower ho4 (below_size (zh HB.out))); have n1_ := Aside0.mk (below_step (zh HB.out) hb); clear HB; have HO268 := n0_; have HB := n1_; clear n0_ n1_; clear hb ho4) | ((with_reducible refine gate_callee (f := 99) rfl ?_); refine goesL_ (some 9) rfl rfl Tryz.func99 (by kernel_rfl) rfl #[.int .i64 a0] rfl (by (try simp only [List.map_toArray, List.map_cons, List.map_nil]); first | done | rfl | (simp only [List.length_drop, List.length_take]; rfl)) ?_; (with_reducible refine (impl_tables.calls k a0 t269 _ A2.out).mono ?_); rintro e w5 ⟨v270, rfl, ho0, hb⟩; refine ⟨_, rfl, ?_⟩; have n0_ := Aside0.mk (Kd.R_elder' (zr HO268.out) (Kd.R_base ho0) hb); have n1_ := Aside0.mk (Kd.R_lower ho0 (below_size (zh HB.out))); have n2_ := Aside0.mk (below_step (zh HB.out) hb); clear HO268; clear HB; have HO268 := n0_; have HO271 := n1_; have HB := n2_; clear n0_ n1_ n2_; (try clear hb); (try clear hb2); (try clear hk); (try clear hi); (try clear ho0); obtain ⟨Ao6, co6, eo6⟩ := Kd.R_slice HO271.out; subst eo6))
 go_loopg [3, 11] k (fun kq v3 v11 w' => ∃ (x3_1 : List (S46)) (x11_1 : Int), v11 = .int .i64 x11_1 ∧ Aside0 (impl_allGames.l0 kq a0 x3_1 t269 (t269.length : Int) x11_1 = some r) ∧ Aside0 (kq ≤ k) ∧ Aside0 (Kd.R k46 46 w' w.heap.size (fun k_ => some k_ ≠ ((.slice Ao6 t269.length co6) : Value).ownBlock) v3 x3_1) ∧ Aside0 (Kd.R (Kd.int .i64) 3 w' w.heap.size (fun _ => True) (.slice Ao6 t269.length co6) t269) ∧ Aside0 (Below w.heap.size w w'))
 case atStart => exact ⟨(y266), (0), (by first | rfl | (simp; done) | (simp [*]; done)), H', ⟨Nat.le_refl _⟩, ⟨by (with_reducible repeat (first | apply Kd.R_alloc | apply Kd.R_drewN | apply Kd.R_drew)); exact Kd.R_mono HO268.out (fun _ hk => hk.2)⟩, ⟨zr HO271.out⟩, ⟨zh HB.out⟩⟩
 case round =>
  clear H'
  try clear p2
  obtain ⟨x3_1, x11_1, rfl, HA, HK1, HO_3, HO_9, HB⟩ := hrel
  cases gk with
  | zero => exact absurd HA.out (by simp [impl_allGames.l0])
  | succ k1 =>
   have H := HA.out
   clear HA
   simp only [impl_allGames.l0] at H
   by_cases c7 : x11_1 < (t269.length : Int)
   rotate_left
   ·rw [if_neg c7] at H
    have c7b0 : decide (x11_1 < (t269.length : Int)) = false := decide_eq_false c7
    clear c7
    replace H := Option.bind_eq_some_iff.mp H
    obtain ⟨t_, A540, H⟩ := H
    replace H : (some t_) = some r := H
    have A54 := Aside0.mk A540
    clear A540
    obtain rfl := Option.some.inj H
    obtain ⟨Ao55, co55, eo55⟩ := Kd.R_slice HO_3.out
    subst eo55
    go_wp2_with (first | ((with_reducible refine gate_callee (f := 105) rfl ?_); refine goesL_ (some 38) rfl rfl Tryz.func105 (by kernel_rfl) rfl #[.slice Ao55 x3_1.length co55, .func (.func 106) #[] #[]] rfl (by (try simp only [List.map_toArray, List.map_cons, List.map_nil]); first | done | rfl | (simp only [List.length_drop, List.length_take]; rfl)) ?_; refine (sortGames.calls x3_1 t_ _ _ w.heap.size (fun _ => True) _ ?side1 A54.out).mono ?_; (case side1 => exact Kd.R_mono (zr HO_3.out) (fun _ _ => trivial)); rintro e w' ⟨rfl, hs_, hl_, hg_⟩; refine ⟨_, rfl, ?_⟩; have n0_ := Aside0.mk hs_; have hB_ := ((zh HB.out) : Below w.heap.size w _); have n2_ := Aside0.mk (Below.grown hB_ hg_ (below_size hB_) (Kd.R_base HO_3.out)); (try clear HO_9); clear HO_3; clear HB; have HO_3 := n0_; have HB := n2_; clear n0_ n2_ hs_ hl_ hg_ hB_))
    go_ret
    exact ⟨_, by first | rfl | (simp [*, errW_none, errW_some] <;> rfl), by (with_reducible repeat (first | apply Kd.R_alloc | apply Kd.R_drewN | apply Kd.R_drew)); exact Kd.R_mono HO_3.out (fun _ hk => trivial), zh HB.out⟩
   rw [if_pos c7] at H
   have c7b0 : decide (x11_1 < (t269.length : Int)) = true := decide_eq_true c7
   clear c7
   by_cases c8 : 0 ≤ x11_1
   rotate_left
   ·rw [if_neg c8] at H
    exact absurd H (by simp)
   rw [if_pos c8] at H
   have c8b0 : decide (0 ≤ x11_1) = true := decide_eq_true c8
   clear c8
   by_cases c9 : x11_1 < (t269.length : Int)
   rotate_left
   ·rw [if_neg c9] at H
    exact absurd H (by simp)
   rw [if_pos c9] at H
   have c9b0 : decide (x11_1 < (t269.length : Int)) = true := decide_eq_true c9
   clear c9
   replace H := Option.bind_eq_some_iff.mp H
   obtain ⟨⟨t274, t275⟩, A100, H⟩ := H
   replace H : (if 0 < (t275.length : Int) then (if rdOf false t275 0 = true then (impl_allGames.l0 k1 a0 x3_1 t269 (t269.length : Int) (wrap64 (x11_1 + 1))) else ((impl_votes_all.f t274 t275).bind fun t280 => (if 0 ≤ t280 then (if t280 < (t275.length : Int) then (if rdOf false t275 t280 = true then ((impl_votes_game.f k1 t274 t275).bind fun bt282 => (if x3_1.length < 4398046511104 then (impl_allGames.l0 k1 a0 (x3_1 ++ [(⟨bt282.1, bt282.2⟩ : S46)]) t269 (t269.length : Int) (wrap64 (x11_1 + 1))) else (none))) else (impl_allGames.l0 k1 a0 x3_1 t269 (t269.length : Int) (wrap64 (x11_1 + 1)))) else (none)) else (none)))) else (none)) = some r := H
   have A10 := Aside0.mk A100
   clear A100
   by_cases c11 : 0 < (t275.length : Int)
   rotate_left
   ·rw [if_neg c11] at H
    exact absurd H (by simp)
   rw [if_pos c11] at H
   have c11b0 : decide (0 < (t275.length : Int)) = true := decide_eq_true c11
   have c11b1 : decide (0 < t275.length) = true := decide_eq_true (by omega)
   clear c11
   obtain ⟨bq12, hbq12⟩ : ∃ b_ : Bool, b_ = (rdOf false t275 0) := ⟨_, rfl⟩
   replace H : (if bq12 = true then (impl_allGames.l0 k1 a0 x3_1 t269 (t269.length : Int) (wrap64 (x11_1 + 1))) else ((impl_votes_all.f t274 t275).bind fun t280 => (if 0 ≤ t280 then (if t280 < (t275.length : Int) then (if rdOf false t275 t280 = true then ((impl_votes_game.f k1 t274 t275).bind fun bt282 => (if x3_1.length < 4398046511104 then (impl_allGames.l0 k1 a0 (x3_1 ++ [(⟨bt282.1, bt282.2⟩ : S46)]) t269 (t269.length : Int) (wrap64 (x11_1 + 1))) else (none))) else (impl_allGames.l0 k1 a0 x3_1 t269 (t269.length : Int) (wrap64 (x11_1 + 1)))) else (none)) else (none)))) = some r := by rw [← hbq12] at H; exact H
   have Nbq12 := Aside0.mk hbq12
   clear hbq12
   by_cases c13 : bq12 = true
   ·subst c13
    have H1 : (impl_allGames.l0 k1 a0 x3_1 t269 (t269.length : Int) (wrap64 (x11_1 + 1))) = some r := by rw [if_pos rfl] at H; exact H
    clear H
    have H := H1
    clear H1
    have H' := Aside0.mk H
    clear H
    have p272 : 0 ≤ (x11_1 : Int) := of_decide_eq_true (by first | (with_reducible assumption) | assumption)
    have q272 : x11_1 < (t269.length : Int) := of_decide_eq_true (by first | (with_reducible assumption) | assumption)
    obtain ⟨ad272, e272, hx272_0⟩ := Kd.at_int (Kd.R_reads' HO_9.out).2.2 x11_1 p272 q272
    cases e272
    replace p272 := eq_true p272
    replace q272 := eq_true q272
    try go_wp2_with (first | ((with_reducible refine gate_dst (N := 5) rfl ?_); refine box_event ?hg (N := 5) ?hd (cs := #[.int .i64 0]) (t := 3) ?hr ?_; (case hd => rfl); (case hg => rfl); (case hr => first | (go_simp; done) | (go_simp; rfl)); intro gb273 hg w14 hbox hb; have n0_ := Aside0.mk (Kd.R_below (Kd.R_elderB (zr HO_3.out) gb273 (Nat.le_of_eq hg.symm)) hb); have n1_ := Aside0.mk (Kd.R_below (Kd.R_elderB (zr HO_9.out) gb273 (Nat.le_of_eq hg.symm)) hb); have n2_ := Aside0.mk (below_step (zh HB.out) hb); have n3_ := Aside0.mk (hbox); have n4_ := Aside0.mk ((by rw [hg]; exact (below_size (zh HB.out)) : w.heap.size ≤ gb273)); have n5_ := Aside0.mk ((by rw [hg]; exact (below_size (zh HB.out)) : w.heap.size ≤ gb273)); clear HO_3; clear HO_9; clear HB; have HO_3 := n0_; have HO_9 := n1_; have HB := n2_; have BK273 := n3_; have GW273 := n4_; have GE273 := n5_; clear n0_ n1_ n2_ n3_ n4_ n5_; clear hb hbox hg; have hcz15_0 : w14.cell? ⟨gb273, 0, none⟩ = some (.int .i64 0) := (blk_cell BK273.out 0).trans rfl; have hfz15_0 := blk_frozen BK273.out 0) | ((with_reducible refine gate_callee (f := 100) rfl ?_); refine goesL_ (some 17) rfl rfl Tryz.func100 (by kernel_rfl) rfl #[.int .i64 a0, .func (.func 101) #[] #[.pointer (some ⟨gb273, 0, none⟩)]] rfl (by (try simp only [List.map_toArray, List.map_cons, List.map_nil]); first | done | rfl | (simp only [List.length_drop, List.length_take]; rfl)) ?_; (with_reducible refine (votesOf_allGames.calls k1 a0 (rd t269 x11_1) t274 t275 _ gb273 (by first | exact (blk_cell (zb BK273.out) 0).trans rfl | exact (blk_cell (blk_put (zb BK273.out) 0 _ rfl) 0).trans rfl | exact zb BK273.out) A10.out).mono ?_); rintro e w16 ⟨v276, rfl, ho0, hb⟩; refine ⟨_, rfl, ?_⟩; have n0_ := Aside0.mk (Kd.R_below (by (with_reducible repeat (first | apply Kd.R_alloc | apply Kd.R_drewN | apply Kd.R_drew)); exact (Kd.R_mono (Kd.R_far (p := ⟨gb273, 0, none⟩) (Kd.R_mono HO_3.out (fun k_ hk => (⟨hk, hk.2⟩ : _ ∧ k_ ≠ gb273))) (fun _ hk => hk.2) (.int .i64 (rd t269 x11_1))) (fun _ h_ => h_.1))) hb); have n1_ := Aside0.mk (Kd.R_below (by (with_reducible repeat (first | apply Kd.R_alloc | apply Kd.R_drewN | apply Kd.R_drew)); exact (Kd.R_mono (Kd.R_far (p := ⟨gb273, 0, none⟩) (Kd.R_mono HO_9.out (fun k_ hk => (⟨hk, hk.2⟩ : _ ∧ k_ ≠ gb273))) (fun _ hk => hk.2) (.int .i64 (rd t269 x11_1))) (fun _ h_ => h_.1))) hb); have n2_ := Aside0.mk (Kd.R_lower ho0 (below_size (zh HB.out))); have n3_ := Aside0.mk (blk_below (g := gb273) (o := .cells #[.int .i64 (rd t269 x11_1)] 3 (0, 0)) (by (with_reducible repeat (first | refine blk_drewN ?_ _ | refine blk_drew ?_ | refine blk_alloc ?_ _)); refine blk_put (cs := #[.int .i64 0]) ?_ 0 _ rfl; (with_reducible repeat (first | refine blk_drewN ?_ _ | refine blk_drew ?_ | refine blk_alloc ?_ _)); exact BK273.out) hb); have n4_ := Aside0.mk (below_step (zh HB.out) hb); clear HO_3; clear HO_9; clear BK273; clear HB; have HO_3 := n0_; have HO_9 := n1_; have HO277 := n2_; have BK273 := n3_; have HB := n4_; clear n0_ n1_ n2_ n3_ n4_; (try clear hb); (try clear hb2); (try clear hk); (try clear hi); (try clear ho0)) | ((with_reducible refine gate_dst (N := 6) rfl ?_); refine box_event ?hg (N := 6) ?hd (cs := #[.int .i64 0, .slice none 0 0]) (t := 86) ?hr ?_; (case hd => rfl); (case hg => rfl); (case hr => first | (go_simp; done) | (go_simp; rfl)); intro gb278 hg w17 hbox hb; have n0_ := Aside0.mk (Kd.R_below (zr HO_3.out) hb); have n1_ := Aside0.mk (Kd.R_below (zr HO_9.out) hb); have n2_ := Aside0.mk (Kd.R_below (zr HO277.out) hb); have n3_ := Aside0.mk (blk_below (g := gb273) (o := .cells #[.int .i64 (rd t269 x11_1)] 3 (0, 0)) (zb BK273.out) hb); have n4_ := Aside0.mk (below_step (zh HB.out) hb); have n5_ := Aside0.mk (hbox); have n6_ := Aside0.mk ((by rw [hg]; exact (below_size (zh HB.out)) : w.heap.size ≤ gb278)); have n7_ := Aside0.mk ((by rw [hg]; exact (below_size (zh HB.out)) : w.heap.size ≤ gb278)); have n8_ := Aside0.mk ((by rw [hg]; exact Nat.ne_of_lt (blk_lt (g := gb273) (o := .cells #[.int .i64 (rd t269 x11_1)] 3 (0, 0)) (zb BK273.out)) : gb273 ≠ gb278)); have n9_ := Aside0.mk ((by rw [hg]; exact Nat.ne_of_gt (blk_lt (g := gb273) (o := .cells #[.int .i64 (rd t269 x11_1)] 3 (0, 0)) (zb BK273.out)) : gb278 ≠ gb273)); clear HO_3; clear HO_9; clear HO277; clear BK273; clear HB; have HO_3 := n0_; have HO_9 := n1_; have HO277 := n2_; have BK273 := n3_; have HB := n4_; have BK278 := n5_; have GW278 := n6_; have GE278 := n7_; have NB273_278 := n8_; have NB278_273 := n9_; clear n0_ n1_ n2_ n3_ n4_ n5_ n6_ n7_ n8_ n9_; clear hb hbox hg; have hnb18 := NB278_273.out; have hnc18 := NB273_278.out; have hcz19_0 : w17.cell? ⟨gb278, 0, none⟩ = some (.int .i64 0) := (blk_cell BK278.out 0).trans rfl; have hcz19_1 : w17.cell? ⟨gb278, 1, none⟩ = some (.slice none 0 0) := (blk_cell BK278.out 1).trans rfl; have hfz19_0 := blk_frozen BK278.out 0; have hfz19_1 := blk_frozen BK278.out 1; obtain ⟨Ao20, co20, eo20⟩ := Kd.R_slice HO277.out; subst eo20))
    have n0_ : Aside0 (Kd.R k46 46 ((w17.setCell ⟨gb278, 0, none⟩ (.int .i64 t274)).setCell ⟨gb278, 1, none⟩ (.slice Ao20 t275.length co20)) w.heap.size (fun k_ => some k_ ≠ (.slice (some ad272) t269.length co6 : Value).ownBlock ∧ k_ ≠ gb273) u3 x3_1) := ⟨by (with_reducible repeat (first | apply Kd.R_alloc | apply Kd.R_drewN | apply Kd.R_drew)); exact Kd.R_mono (Kd.R_far (p := ⟨gb278, 1, none⟩) (Kd.R_far (p := ⟨gb278, 0, none⟩) (Kd.R_types HO_3.out BK278.out (by decide)) (fun _ hk => hk.2) (.int .i64 t274)) (fun _ hk => hk.2) (.slice Ao20 t275.length co20)) (fun _ hk => ⟨hk.1.1, hk.1.2⟩)⟩
    have n1_ : Aside0 (Kd.R (Kd.int .i64) 3 ((w17.setCell ⟨gb278, 0, none⟩ (.int .i64 t274)).setCell ⟨gb278, 1, none⟩ (.slice Ao20 t275.length co20)) w.heap.size (fun k_ => k_ ≠ gb273) (.slice (some ad272) t269.length co6) t269) := ⟨by (with_reducible repeat (first | apply Kd.R_alloc | apply Kd.R_drewN | apply Kd.R_drew)); exact Kd.R_mono (Kd.R_far (p := ⟨gb278, 1, none⟩) (Kd.R_far (p := ⟨gb278, 0, none⟩) (Kd.R_types HO_9.out BK278.out (by decide)) (fun _ hk => hk.2) (.int .i64 t274)) (fun _ hk => hk.2) (.slice Ao20 t275.length co20)) (fun _ hk => hk.1.2)⟩
    have n2_ : Aside0 (Kd.R Kd.bool 4 ((w17.setCell ⟨gb278, 0, none⟩ (.int .i64 t274)).setCell ⟨gb278, 1, none⟩ (.slice Ao20 t275.length co20)) w.heap.size (fun _ => True) (.slice Ao20 t275.length co20) t275) := ⟨by (with_reducible repeat (first | apply Kd.R_alloc | apply Kd.R_drewN | apply Kd.R_drew)); exact Kd.R_mono (Kd.R_far (p := ⟨gb278, 1, none⟩) (Kd.R_far (p := ⟨gb278, 0, none⟩) (Kd.R_types HO277.out BK278.out (by decide)) (fun _ hk => hk.2) (.int .i64 t274)) (fun _ hk => hk.2) (.slice Ao20 t275.length co20)) (fun _ hk => trivial)⟩
    have n3_ : Aside0 (((w17.setCell ⟨gb278, 0, none⟩ (.int .i64 t274)).setCell ⟨gb278, 1, none⟩ (.slice Ao20 t275.length co20)).heap[gb273]? = some (.cells #[.int .i64 (rd t269 x11_1)] 3 (0, 0))) := ⟨by (with_reducible repeat (first | refine blk_drewN ?_ _ | refine blk_drew ?_ | refine blk_alloc ?_ _)); refine blk_far ?_ NB273_278.out _; (with_reducible repeat (first | refine blk_drewN ?_ _ | refine blk_drew ?_ | refine blk_alloc ?_ _)); refine blk_far ?_ NB273_278.out _; (with_reducible repeat (first | refine blk_drewN ?_ _ | refine blk_drew ?_ | refine blk_alloc ?_ _)); exact BK273.out⟩
    have n4_ : Aside0 (((w17.setCell ⟨gb278, 0, none⟩ (.int .i64 t274)).setCell ⟨gb278, 1, none⟩ (.slice Ao20 t275.length co20)).heap[gb278]? = some (.cells #[.int .i64 t274, .slice Ao20 t275.length co20] 86 (0, 0))) := ⟨by (with_reducible repeat (first | refine blk_drewN ?_ _ | refine blk_drew ?_ | refine blk_alloc ?_ _)); refine blk_put (cs := #[.int .i64 t274, .slice none 0 0]) ?_ 1 _ rfl; (with_reducible repeat (first | refine blk_drewN ?_ _ | refine blk_drew ?_ | refine blk_alloc ?_ _)); refine blk_put (cs := #[.int .i64 0, .slice none 0 0]) ?_ 0 _ rfl; (with_reducible repeat (first | refine blk_drewN ?_ _ | refine blk_drew ?_ | refine blk_alloc ?_ _)); exact BK278.out⟩
    have n5_ : Aside0 (Below w.heap.size w ((w17.setCell ⟨gb278, 0, none⟩ (.int .i64 t274)).setCell ⟨gb278, 1, none⟩ (.slice Ao20 t275.length co20))) := ⟨zh HB.out⟩
    (try clear HO_3)
    (try clear HO_9)
    (try clear HO277)
    (try clear BK273)
    (try clear BK278)
    (try clear HB)
    generalize ((w17.setCell ⟨gb278, 0, none⟩ (.int .i64 t274)).setCell ⟨gb278, 1, none⟩ (.slice Ao20 t275.length co20)) = w21 at n0_ n1_ n2_ n3_ n4_ n5_ ⊢
    have HO_3 := n0_
    have HO_9 := n1_
    have HO277 := n2_
    have BK273 := n3_
    have BK278 := n4_
    have HB := n5_
    clear n0_ n1_ n2_ n3_ n4_ n5_
    have n0_ := Aside0.mk (Kd.R_drew HO_3.out)
    have n1_ := Aside0.mk (Kd.R_drew HO_9.out)
    have n2_ := Aside0.mk (Kd.R_drew HO277.out)
    have n3_ := Aside0.mk (blk_drew BK273.out)
    have n4_ := Aside0.mk (blk_drew BK278.out)
    have n5_ := Aside0.mk (below_drew1 HB.out)
    clear HO_3
    clear HO_9
    clear HO277
    clear BK273
    clear BK278
    clear HB
    have HO_3 := n0_
    have HO_9 := n1_
    have HO277 := n2_
    have BK273 := n3_
    have BK278 := n4_
    have HB := n5_
    clear n0_ n1_ n2_ n3_ n4_ n5_
    have p279 : 0 ≤ (0 : Int) := (by omega)
    have q279 : 0 < (t275.length : Int) := of_decide_eq_true (by first | (with_reducible assumption) | assumption)
    obtain ⟨ad279, e279, hx279_0⟩ := Kd.at_bool (Kd.R_reads' HO277.out).2.2 0 p279 q279
    (try rw [← Nbq12.out] at hx279_0)
    cases e279
    have qi279 : (0 < t275.length) = True := eq_true (by omega)
    (try rw [show ((0 : Int)).toNat = 0 from rfl] at hx279_0)
    (try rw [Addr.add_zero'] at hx279_0)
    replace p279 := eq_true p279
    replace q279 := eq_true q279
    refine start_ (n := 13) (S := fun w' => w'.cell? ⟨gb278, 0, none⟩ = some (.int .i64 t274) ∧ w'.cell? ⟨gb278, 1, none⟩ = some (.slice (some ad279) t275.length co20) ∧ w'.cell? ad279 = some (.bool true)) (ds := []) (tb 13 0) (by kernel_rfl) rfl rfl ⟨(blk_cell BK278.out 0).trans rfl, (blk_cell BK278.out 1).trans rfl, hx279_0⟩ (fun hHeld => ?_); refine with_tabW impl_allGames.tab6 impl_allGames.bits6 (fun HT_ HW_ => ?_)
    generalize w21.drew = w22 at HO_3 HO_9 HO277 BK273 BK278 HB hx279_0 hHeld ⊢
    refine zu (i := 0) (N := some 18) (tb 13 1) rfl rfl HT_ ?_
    refine take_ (i := 1) (N := some 19) (v := ?_) (a' := ?_) (tb 13 3) rfl rfl (take_ofW HT_.out HW_.out (by kernel_rfl)) (fun _ _ _ h => h) (Or.inl ⟨by rfl, ?_⟩) hHeld ?_ ?_
    rotate_left
    ·rintro w' ⟨s0, s1, s2⟩
     go_simp
     with_reducible rfl
    rotate_left
    ·simp only [Act.put, List.setIfInBounds_toArray, List.set_cons_zero, List.set_cons_succ, i64_w, i32_w]
     rfl
    refine zu (i := 2) (N := some 20) (tb 13 7) rfl rfl HT_ ?_
    refine take_ (i := 3) (N := some 21) (v := ?_) (a' := ?_) (tb 13 15) rfl rfl (take_ofW HT_.out HW_.out (by kernel_rfl)) (fun _ _ _ h => h) (Or.inl ⟨by rfl, ?_⟩) hHeld ?_ ?_
    rotate_left
    ·rintro w' ⟨s0, s1, s2⟩
     go_simp
     with_reducible rfl
    rotate_left
    ·simp only [Act.put, List.setIfInBounds_toArray, List.set_cons_zero, List.set_cons_succ, i64_w, i32_w]
     rfl
    refine zu (i := 4) (N := some 22) (tb 13 31) rfl rfl HT_ ?_
    refine zu (i := 5) (N := some 23) (tb 13 63) rfl rfl HT_ ?_
    refine zv (i := 6) (N := some 24) (tb 13 127) rfl rfl HT_ ?_
    refine zv (i := 7) (N := some 25) (tb 13 255) rfl rfl HT_ ?_
    refine zv (i := 8) (N := some 26) (tb 13 511) rfl rfl HT_ ?_
    refine zv (i := 9) (N := some 27) (tb 13 1023) rfl rfl HT_ ?_
    refine zv (i := 10) (N := some 28) (tb 13 2047) rfl rfl HT_ ?_
    refine zv (i := 11) (N := some 29) (tb 13 4095) rfl rfl HT_ ?_
    refine zu (i := 12) (N := some 30) (tb 13 8191) rfl rfl HT_ ?_
    refine done_ (done_of HT_.out (by kernel_rfl)) ?_
    try go_wp2
    go_roundg k1
    case measure => have := HK1.out; omega
    case rel => exact ⟨(x3_1), (wrap64 (x11_1 + 1)), (by first | rfl | (simp; done) | (simp [*]; done)), H', ⟨by have := HK1.out; omega⟩, ⟨by (with_reducible repeat (first | apply Kd.R_alloc | apply Kd.R_drewN | apply Kd.R_drew)); exact Kd.R_mono HO_3.out (fun _ hk => hk.1)⟩, ⟨by (with_reducible repeat (first | apply Kd.R_alloc | apply Kd.R_drewN | apply Kd.R_drew)); exact Kd.R_mono HO_9.out (fun _ hk => trivial)⟩, ⟨zh HB.out⟩⟩
   replace c13 := Bool.eq_false_iff.mpr c13
   subst c13
   have H1 : ((impl_votes_all.f t274 t275).bind fun t280 => (if 0 ≤ t280 then (if t280 < (t275.length : Int) then (if rdOf false t275 t280 = true then ((impl_votes_game.f k1 t274 t275).bind fun bt282 => (if x3_1.length < 4398046511104 then (impl_allGames.l0 k1 a0 (x3_1 ++ [(⟨bt282.1, bt282.2⟩ : S46)]) t269 (t269.length : Int) (wrap64 (x11_1 + 1))) else (none))) else (impl_allGames.l0 k1 a0 x3_1 t269 (t269.length : Int) (wrap64 (x11_1 + 1)))) else (none)) else (none))) = some r := by rw [if_neg (show ¬ (false = true) by decide)] at H; exact H
   clear H
   have H := H1
   clear H1
   replace H := Option.bind_eq_some_iff.mp H
   obtain ⟨t280, A230, H⟩ := H
   replace H : (if 0 ≤ t280 then (if t280 < (t275.length : Int) then (if rdOf false t275 t280 = true then ((impl_votes_game.f k1 t274 t275).bind fun bt282 => (if x3_1.length < 4398046511104 then (impl_allGames.l0 k1 a0 (x3_1 ++ [(⟨bt282.1, bt282.2⟩ : S46)]) t269 (t269.length : Int) (wrap64 (x11_1 + 1))) else (none))) else (impl_allGames.l0 k1 a0 x3_1 t269 (t269.length : Int) (wrap64 (x11_1 + 1)))) else (none)) else (none)) = some r := H
   have A23 := Aside0.mk A230
   clear A230
   by_cases c24 : 0 ≤ t280
   rotate_left
   ·rw [if_neg c24] at H
    exact absurd H (by simp)
   rw [if_pos c24] at H
   have c24b0 : decide (0 ≤ t280) = true := decide_eq_true c24
   clear c24
   by_cases c25 : t280 < (t275.length : Int)
   rotate_left
   ·rw [if_neg c25] at H
    exact absurd H (by simp)
   rw [if_pos c25] at H
   have c25b0 : decide (t280 < (t275.length : Int)) = true := decide_eq_true c25
   clear c25
   obtain ⟨bq26, hbq26⟩ : ∃ b_ : Bool, b_ = (rdOf false t275 t280) := ⟨_, rfl⟩
   replace H : (if bq26 = true then ((impl_votes_game.f k1 t274 t275).bind fun bt282 => (if x3_1.length < 4398046511104 then (impl_allGames.l0 k1 a0 (x3_1 ++ [(⟨bt282.1, bt282.2⟩ : S46)]) t269 (t269.length : Int) (wrap64 (x11_1 + 1))) else (none))) else (impl_allGames.l0 k1 a0 x3_1 t269 (t269.length : Int) (wrap64 (x11_1 + 1)))) = some r := by rw [← hbq26] at H; exact H
   have Nbq26 := Aside0.mk hbq26
   clear hbq26
   by_cases c27 : bq26 = true
   rotate_left
   ·replace c27 := Bool.eq_false_iff.mpr c27
    subst c27
    have H1 : (impl_allGames.l0 k1 a0 x3_1 t269 (t269.length : Int) (wrap64 (x11_1 + 1))) = some r := by rw [if_neg (show ¬ (false = true) by decide)] at H; exact H
    clear H
    have H := H1
    clear H1
    have H' := Aside0.mk H
    clear H
    have p272 : 0 ≤ (x11_1 : Int) := of_decide_eq_true (by first | (with_reducible assumption) | assumption)
    have q272 : x11_1 < (t269.length : Int) := of_decide_eq_true (by first | (with_reducible assumption) | assumption)
    obtain ⟨ad272, e272, hx272_0⟩ := Kd.at_int (Kd.R_reads' HO_9.out).2.2 x11_1 p272 q272
    cases e272
    replace p272 := eq_true p272
    replace q272 := eq_true q272
    try go_wp2_with (first | ((with_reducible refine gate_dst (N := 5) rfl ?_); refine box_event ?hg (N := 5) ?hd (cs := #[.int .i64 0]) (t := 3) ?hr ?_; (case hd => rfl); (case hg => rfl); (case hr => first | (go_simp; done) | (go_simp; rfl)); intro gb273 hg w44 hbox hb; have n0_ := Aside0.mk (Kd.R_below (Kd.R_elderB (zr HO_3.out) gb273 (Nat.le_of_eq hg.symm)) hb); have n1_ := Aside0.mk (Kd.R_below (Kd.R_elderB (zr HO_9.out) gb273 (Nat.le_of_eq hg.symm)) hb); have n2_ := Aside0.mk (below_step (zh HB.out) hb); have n3_ := Aside0.mk (hbox); have n4_ := Aside0.mk ((by rw [hg]; exact (below_size (zh HB.out)) : w.heap.size ≤ gb273)); have n5_ := Aside0.mk ((by rw [hg]; exact (below_size (zh HB.out)) : w.heap.size ≤ gb273)); clear HO_3; clear HO_9; clear HB; have HO_3 := n0_; have HO_9 := n1_; have HB := n2_; have BK273 := n3_; have GW273 := n4_; have GE273 := n5_; clear n0_ n1_ n2_ n3_ n4_ n5_; clear hb hbox hg; have hcz45_0 : w44.cell? ⟨gb273, 0, none⟩ = some (.int .i64 0) := (blk_cell BK273.out 0).trans rfl; have hfz45_0 := blk_frozen BK273.out 0) | ((with_reducible refine gate_callee (f := 100) rfl ?_); refine goesL_ (some 17) rfl rfl Tryz.func100 (by kernel_rfl) rfl #[.int .i64 a0, .func (.func 101) #[] #[.pointer (some ⟨gb273, 0, none⟩)]] rfl (by (try simp only [List.map_toArray, List.map_cons, List.map_nil]); first | done | rfl | (simp only [List.length_drop, List.length_take]; rfl)) ?_; (with_reducible refine (votesOf_allGames.calls k1 a0 (rd t269 x11_1) t274 t275 _ gb273 (by first | exact (blk_cell (zb BK273.out) 0).trans rfl | exact (blk_cell (blk_put (zb BK273.out) 0 _ rfl) 0).trans rfl | exact zb BK273.out) A10.out).mono ?_); rintro e w46 ⟨v276, rfl, ho0, hb⟩; refine ⟨_, rfl, ?_⟩; have n0_ := Aside0.mk (Kd.R_below (by (with_reducible repeat (first | apply Kd.R_alloc | apply Kd.R_drewN | apply Kd.R_drew)); exact (Kd.R_mono (Kd.R_far (p := ⟨gb273, 0, none⟩) (Kd.R_mono HO_3.out (fun k_ hk => (⟨hk, hk.2⟩ : _ ∧ k_ ≠ gb273))) (fun _ hk => hk.2) (.int .i64 (rd t269 x11_1))) (fun _ h_ => h_.1))) hb); have n1_ := Aside0.mk (Kd.R_below (by (with_reducible repeat (first | apply Kd.R_alloc | apply Kd.R_drewN | apply Kd.R_drew)); exact (Kd.R_mono (Kd.R_far (p := ⟨gb273, 0, none⟩) (Kd.R_mono HO_9.out (fun k_ hk => (⟨hk, hk.2⟩ : _ ∧ k_ ≠ gb273))) (fun _ hk => hk.2) (.int .i64 (rd t269 x11_1))) (fun _ h_ => h_.1))) hb); have n2_ := Aside0.mk (Kd.R_lower ho0 (below_size (zh HB.out))); have n3_ := Aside0.mk (blk_below (g := gb273) (o := .cells #[.int .i64 (rd t269 x11_1)] 3 (0, 0)) (by (with_reducible repeat (first | refine blk_drewN ?_ _ | refine blk_drew ?_ | refine blk_alloc ?_ _)); refine blk_put (cs := #[.int .i64 0]) ?_ 0 _ rfl; (with_reducible repeat (first | refine blk_drewN ?_ _ | refine blk_drew ?_ | refine blk_alloc ?_ _)); exact BK273.out) hb); have n4_ := Aside0.mk (below_step (zh HB.out) hb); clear HO_3; clear HO_9; clear BK273; clear HB; have HO_3 := n0_; have HO_9 := n1_; have HO277 := n2_; have BK273 := n3_; have HB := n4_; clear n0_ n1_ n2_ n3_ n4_; (try clear hb); (try clear hb2); (try clear hk); (try clear hi); (try clear ho0)) | ((with_reducible refine gate_dst (N := 6) rfl ?_); refine box_event ?hg (N := 6) ?hd (cs := #[.int .i64 0, .slice none 0 0]) (t := 86) ?hr ?_; (case hd => rfl); (case hg => rfl); (case hr => first | (go_simp; done) | (go_simp; rfl)); intro gb278 hg w47 hbox hb; have n0_ := Aside0.mk (Kd.R_below (zr HO_3.out) hb); have n1_ := Aside0.mk (Kd.R_below (zr HO_9.out) hb); have n2_ := Aside0.mk (Kd.R_below (zr HO277.out) hb); have n3_ := Aside0.mk (blk_below (g := gb273) (o := .cells #[.int .i64 (rd t269 x11_1)] 3 (0, 0)) (zb BK273.out) hb); have n4_ := Aside0.mk (below_step (zh HB.out) hb); have n5_ := Aside0.mk (hbox); have n6_ := Aside0.mk ((by rw [hg]; exact (below_size (zh HB.out)) : w.heap.size ≤ gb278)); have n7_ := Aside0.mk ((by rw [hg]; exact (below_size (zh HB.out)) : w.heap.size ≤ gb278)); have n8_ := Aside0.mk ((by rw [hg]; exact Nat.ne_of_lt (blk_lt (g := gb273) (o := .cells #[.int .i64 (rd t269 x11_1)] 3 (0, 0)) (zb BK273.out)) : gb273 ≠ gb278)); have n9_ := Aside0.mk ((by rw [hg]; exact Nat.ne_of_gt (blk_lt (g := gb273) (o := .cells #[.int .i64 (rd t269 x11_1)] 3 (0, 0)) (zb BK273.out)) : gb278 ≠ gb273)); clear HO_3; clear HO_9; clear HO277; clear BK273; clear HB; have HO_3 := n0_; have HO_9 := n1_; have HO277 := n2_; have BK273 := n3_; have HB := n4_; have BK278 := n5_; have GW278 := n6_; have GE278 := n7_; have NB273_278 := n8_; have NB278_273 := n9_; clear n0_ n1_ n2_ n3_ n4_ n5_ n6_ n7_ n8_ n9_; clear hb hbox hg; have hnb48 := NB278_273.out; have hnc48 := NB273_278.out; have hcz49_0 : w47.cell? ⟨gb278, 0, none⟩ = some (.int .i64 0) := (blk_cell BK278.out 0).trans rfl; have hcz49_1 : w47.cell? ⟨gb278, 1, none⟩ = some (.slice none 0 0) := (blk_cell BK278.out 1).trans rfl; have hfz49_0 := blk_frozen BK278.out 0; have hfz49_1 := blk_frozen BK278.out 1; obtain ⟨Ao50, co50, eo50⟩ := Kd.R_slice HO277.out; subst eo50))
    have n0_ : Aside0 (Kd.R k46 46 ((w47.setCell ⟨gb278, 0, none⟩ (.int .i64 t274)).setCell ⟨gb278, 1, none⟩ (.slice Ao50 t275.length co50)) w.heap.size (fun k_ => some k_ ≠ (.slice (some ad272) t269.length co6 : Value).ownBlock ∧ k_ ≠ gb273) u3 x3_1) := ⟨by (with_reducible repeat (first | apply Kd.R_alloc | apply Kd.R_drewN | apply Kd.R_drew)); exact Kd.R_mono (Kd.R_far (p := ⟨gb278, 1, none⟩) (Kd.R_far (p := ⟨gb278, 0, none⟩) (Kd.R_types HO_3.out BK278.out (by decide)) (fun _ hk => hk.2) (.int .i64 t274)) (fun _ hk => hk.2) (.slice Ao50 t275.length co50)) (fun _ hk => ⟨hk.1.1, hk.1.2⟩)⟩
    have n1_ : Aside0 (Kd.R (Kd.int .i64) 3 ((w47.setCell ⟨gb278, 0, none⟩ (.int .i64 t274)).setCell ⟨gb278, 1, none⟩ (.slice Ao50 t275.length co50)) w.heap.size (fun k_ => k_ ≠ gb273) (.slice (some ad272) t269.length co6) t269) := ⟨by (with_reducible repeat (first | apply Kd.R_alloc | apply Kd.R_drewN | apply Kd.R_drew)); exact Kd.R_mono (Kd.R_far (p := ⟨gb278, 1, none⟩) (Kd.R_far (p := ⟨gb278, 0, none⟩) (Kd.R_types HO_9.out BK278.out (by decide)) (fun _ hk => hk.2) (.int .i64 t274)) (fun _ hk => hk.2) (.slice Ao50 t275.length co50)) (fun _ hk => hk.1.2)⟩
    have n2_ : Aside0 (Kd.R Kd.bool 4 ((w47.setCell ⟨gb278, 0, none⟩ (.int .i64 t274)).setCell ⟨gb278, 1, none⟩ (.slice Ao50 t275.length co50)) w.heap.size (fun _ => True) (.slice Ao50 t275.length co50) t275) := ⟨by (with_reducible repeat (first | apply Kd.R_alloc | apply Kd.R_drewN | apply Kd.R_drew)); exact Kd.R_mono (Kd.R_far (p := ⟨gb278, 1, none⟩) (Kd.R_far (p := ⟨gb278, 0, none⟩) (Kd.R_types HO277.out BK278.out (by decide)) (fun _ hk => hk.2) (.int .i64 t274)) (fun _ hk => hk.2) (.slice Ao50 t275.length co50)) (fun _ hk => trivial)⟩
    have n3_ : Aside0 (((w47.setCell ⟨gb278, 0, none⟩ (.int .i64 t274)).setCell ⟨gb278, 1, none⟩ (.slice Ao50 t275.length co50)).heap[gb273]? = some (.cells #[.int .i64 (rd t269 x11_1)] 3 (0, 0))) := ⟨by (with_reducible repeat (first | refine blk_drewN ?_ _ | refine blk_drew ?_ | refine blk_alloc ?_ _)); refine blk_far ?_ NB273_278.out _; (with_reducible repeat (first | refine blk_drewN ?_ _ | refine blk_drew ?_ | refine blk_alloc ?_ _)); refine blk_far ?_ NB273_278.out _; (with_reducible repeat (first | refine blk_drewN ?_ _ | refine blk_drew ?_ | refine blk_alloc ?_ _)); exact BK273.out⟩
    have n4_ : Aside0 (((w47.setCell ⟨gb278, 0, none⟩ (.int .i64 t274)).setCell ⟨gb278, 1, none⟩ (.slice Ao50 t275.length co50)).heap[gb278]? = some (.cells #[.int .i64 t274, .slice Ao50 t275.length co50] 86 (0, 0))) := ⟨by (with_reducible repeat (first | refine blk_drewN ?_ _ | refine blk_drew ?_ | refine blk_alloc ?_ _)); refine blk_put (cs := #[.int .i64 t274, .slice none 0 0]) ?_ 1 _ rfl; (with_reducible repeat (first | refine blk_drewN ?_ _ | refine blk_drew ?_ | refine blk_alloc ?_ _)); refine blk_put (cs := #[.int .i64 0, .slice none 0 0]) ?_ 0 _ rfl; (with_reducible repeat (first | refine blk_drewN ?_ _ | refine blk_drew ?_ | refine blk_alloc ?_ _)); exact BK278.out⟩
    have n5_ : Aside0 (Below w.heap.size w ((w47.setCell ⟨gb278, 0, none⟩ (.int .i64 t274)).setCell ⟨gb278, 1, none⟩ (.slice Ao50 t275.length co50))) := ⟨zh HB.out⟩
    (try clear HO_3)
    (try clear HO_9)
    (try clear HO277)
    (try clear BK273)
    (try clear BK278)
    (try clear HB)
    generalize ((w47.setCell ⟨gb278, 0, none⟩ (.int .i64 t274)).setCell ⟨gb278, 1, none⟩ (.slice Ao50 t275.length co50)) = w51 at n0_ n1_ n2_ n3_ n4_ n5_ ⊢
    have HO_3 := n0_
    have HO_9 := n1_
    have HO277 := n2_
    have BK273 := n3_
    have BK278 := n4_
    have HB := n5_
    clear n0_ n1_ n2_ n3_ n4_ n5_
    have n0_ := Aside0.mk (Kd.R_drew HO_3.out)
    have n1_ := Aside0.mk (Kd.R_drew HO_9.out)
    have n2_ := Aside0.mk (Kd.R_drew HO277.out)
    have n3_ := Aside0.mk (blk_drew BK273.out)
    have n4_ := Aside0.mk (blk_drew BK278.out)
    have n5_ := Aside0.mk (below_drew1 HB.out)
    clear HO_3
    clear HO_9
    clear HO277
    clear BK273
    clear BK278
    clear HB
    have HO_3 := n0_
    have HO_9 := n1_
    have HO277 := n2_
    have BK273 := n3_
    have BK278 := n4_
    have HB := n5_
    clear n0_ n1_ n2_ n3_ n4_ n5_
    have p279 : 0 ≤ (0 : Int) := (by omega)
    have q279 : 0 < (t275.length : Int) := of_decide_eq_true (by first | (with_reducible assumption) | assumption)
    obtain ⟨ad279, e279, hx279_0⟩ := Kd.at_bool (Kd.R_reads' HO277.out).2.2 0 p279 q279
    (try rw [← Nbq12.out] at hx279_0)
    (try rw [← Nbq26.out] at hx279_0)
    cases e279
    have qi279 : (0 < t275.length) = True := eq_true (by omega)
    (try rw [show ((0 : Int)).toNat = 0 from rfl] at hx279_0)
    (try rw [Addr.add_zero'] at hx279_0)
    replace p279 := eq_true p279
    replace q279 := eq_true q279
    have p281 : 0 ≤ (t280 : Int) := of_decide_eq_true (by first | (with_reducible assumption) | assumption)
    have q281 : t280 < (t275.length : Int) := of_decide_eq_true (by first | (with_reducible assumption) | assumption)
    obtain ⟨ad281, e281, hx281_0⟩ := Kd.at_bool (Kd.R_reads' HO277.out).2.2 t280 p281 q281
    (try rw [← Nbq12.out] at hx281_0)
    (try rw [← Nbq26.out] at hx281_0)
    obtain rfl : ad279 = ad281 := (by injection e281)
    replace p281 := eq_true p281
    replace q281 := eq_true q281
    refine start_ (n := 13) (S := fun w' => w'.cell? ⟨gb278, 0, none⟩ = some (.int .i64 t274) ∧ w'.cell? ⟨gb278, 1, none⟩ = some (.slice (some ad279) t275.length co50) ∧ w'.cell? ad279 = some (.bool false) ∧ w'.cell? (ad279.add (t280).toNat) = some (.bool false)) (ds := []) (tb 13 0) (by kernel_rfl) rfl rfl ⟨(blk_cell BK278.out 0).trans rfl, (blk_cell BK278.out 1).trans rfl, hx279_0, hx281_0⟩ (fun hHeld => ?_); refine with_tabW impl_allGames.tab6 impl_allGames.bits6 (fun HT_ HW_ => ?_)
    generalize w51.drew = w52 at HO_3 HO_9 HO277 BK273 BK278 HB hx279_0 hx281_0 hHeld ⊢
    refine zu (i := 0) (N := some 18) (tb 13 1) rfl rfl HT_ ?_
    refine take_ (i := 1) (N := some 19) (v := ?_) (a' := ?_) (tb 13 3) rfl rfl (take_ofW HT_.out HW_.out (by kernel_rfl)) (fun _ _ _ h => h) (Or.inl ⟨by rfl, ?_⟩) hHeld ?_ ?_
    rotate_left
    ·rintro w' ⟨s0, s1, s2, s3⟩
     go_simp
     with_reducible rfl
    rotate_left
    ·simp only [Act.put, List.setIfInBounds_toArray, List.set_cons_zero, List.set_cons_succ, i64_w, i32_w]
     rfl
    refine zu (i := 2) (N := some 20) (tb 13 7) rfl rfl HT_ ?_
    refine take_ (i := 3) (N := some 21) (v := ?_) (a' := ?_) (tb 13 15) rfl rfl (take_ofW HT_.out HW_.out (by kernel_rfl)) (fun _ _ _ h => h) (Or.inl ⟨by rfl, ?_⟩) hHeld ?_ ?_
    rotate_left
    ·rintro w' ⟨s0, s1, s2, s3⟩
     go_simp
     with_reducible rfl
    rotate_left
    ·simp only [Act.put, List.setIfInBounds_toArray, List.set_cons_zero, List.set_cons_succ, i64_w, i32_w]
     rfl
    refine zu (i := 4) (N := some 22) (tb 13 31) rfl rfl HT_ ?_
    refine zu (i := 5) (N := some 23) (tb 13 63) rfl rfl HT_ ?_
    refine zu (i := 6) (N := some 24) (tb 13 127) rfl rfl HT_ ?_
    refine take_ (i := 7) (N := some 25) (v := ?_) (a' := ?_) (tb 13 255) rfl rfl (take_ofW HT_.out HW_.out (by kernel_rfl)) (fun _ _ _ h => h) (Or.inl ⟨by rfl, ?_⟩) hHeld ?_ ?_
    rotate_left
    ·rintro w' ⟨s0, s1, s2, s3⟩
     go_simp
     with_reducible rfl
    rotate_left
    ·simp only [Act.put, List.setIfInBounds_toArray, List.set_cons_zero, List.set_cons_succ, i64_w, i32_w]
     rfl
    refine take_ (i := 8) (N := some 26) (v := ?_) (a' := ?_) (tb 13 511) rfl rfl (take_ofW HT_.out HW_.out (by kernel_rfl)) (fun _ _ _ h => h) (Or.inl ⟨by rfl, ?_⟩) hHeld ?_ ?_
    rotate_left
    ·rintro w' ⟨s0, s1, s2, s3⟩
     go_simp
     with_reducible rfl
    rotate_left
    ·simp only [Act.put, List.setIfInBounds_toArray, List.set_cons_zero, List.set_cons_succ, i64_w, i32_w]
     rfl
    refine one_ (i := 9) (N := some 27) (tb 13 1023) rfl rfl (one_of HT_.out (by kernel_rfl)) (by decide) (fun K hK => ?_)
    refine goes_ Tryz.func103 (by kernel_rfl) rfl #[.agg #[.int .i64 t274, .slice (some ad279) t275.length co50]] (by rfl) rfl rfl (by (try simp only [List.map_toArray, List.map_cons, List.map_nil]); first | done | rfl | (simp only [List.length_drop, List.length_take]; rfl)) ?_
    with_reducible refine (impl_votes_all.calls t274 _ _ t275 t280 _ ?side1 ?side2 A23.out).mono ?_
    (case side1 => repeat (first | exact (Kd.R_reads' HO277.out).2.2 | (with_reducible refine Kd.C_alloc ?_ _) | (with_reducible refine Kd.C_drewN ?_ _) | (with_reducible refine Kd.C_drew ?_)))
    (case side2 => exact (Kd.R_reads' HO277.out).2.1)
    rintro e w53 ⟨rfl, hb⟩
    have HS2_ := (hb.cell (World.block_lt_of_cell? _ _ (hHeld.2.2.1))).trans (hHeld.2.2.1)
    have HS3_ := (hb.cell (World.block_lt_of_cell? _ _ (hHeld.2.2.2))).trans (hHeld.2.2.2)
    refine ⟨_, rfl, ?_⟩
    have n0_ := Aside0.mk (Kd.R_below (zr HO_3.out) hb)
    have n1_ := Aside0.mk (Kd.R_below (zr HO_9.out) hb)
    have n2_ := Aside0.mk (Kd.R_below (zr HO277.out) hb)
    have n3_ := Aside0.mk (blk_below (g := gb273) (o := .cells #[.int .i64 (rd t269 x11_1)] 3 (0, 0)) (zb BK273.out) hb)
    have n4_ := Aside0.mk (blk_below (g := gb278) (o := .cells #[.int .i64 t274, .slice (some ad279) t275.length co50] 86 (0, 0)) (zb BK278.out) hb)
    have n5_ := Aside0.mk (below_step (zh HB.out) hb)
    clear HO_3
    clear HO_9
    clear HO277
    clear BK273
    clear BK278
    clear HB
    have HO_3 := n0_
    have HO_9 := n1_
    have HO277 := n2_
    have BK273 := n3_
    have BK278 := n4_
    have HB := n5_
    clear n0_ n1_ n2_ n3_ n4_ n5_
    (try clear hb)
    (try clear hb2)
    (try clear hk)
    (try clear hi)
    refine hK.out _ _ ⟨(blk_cell BK278.out 0).trans rfl, (blk_cell BK278.out 1).trans rfl, HS2_, HS3_⟩ (fun hHeld => ?_)
    clear hK K
    refine norm_ (a' := ?_) ?_ ?_
    rotate_left
    ·show Act.put _ (some 27) _ = _
     simp only [Act.put, List.setIfInBounds_toArray, List.set_cons_zero, List.set_cons_succ, i64_w, i32_w]
     rfl
    refine zu (i := 10) (N := some 28) (tb 13 2047) rfl rfl HT_ ?_
    refine take_ (i := 11) (N := some 29) (v := ?_) (a' := ?_) (tb 13 4095) rfl rfl (take_ofW HT_.out HW_.out (by kernel_rfl)) (fun _ _ _ h => h) (Or.inl ⟨by rfl, ?_⟩) hHeld ?_ ?_
    rotate_left
    ·rintro w' ⟨s0, s1, s2, s3⟩
     go_simp
     with_reducible rfl
    rotate_left
    ·simp only [Act.put, List.setIfInBounds_toArray, List.set_cons_zero, List.set_cons_succ, i64_w, i32_w]
     rfl
    refine zu (i := 12) (N := some 30) (tb 13 8191) rfl rfl HT_ ?_
    refine done_ (done_of HT_.out (by kernel_rfl)) ?_
    try go_wp2
    go_roundg k1
    case measure => have := HK1.out; omega
    case rel => exact ⟨(x3_1), (wrap64 (x11_1 + 1)), (by first | rfl | (simp; done) | (simp [*]; done)), H', ⟨by have := HK1.out; omega⟩, ⟨by (with_reducible repeat (first | apply Kd.R_alloc | apply Kd.R_drewN | apply Kd.R_drew)); exact Kd.R_mono HO_3.out (fun _ hk => hk.1)⟩, ⟨by (with_reducible repeat (first | apply Kd.R_alloc | apply Kd.R_drewN | apply Kd.R_drew)); exact Kd.R_mono HO_9.out (fun _ hk => trivial)⟩, ⟨zh HB.out⟩⟩
   subst c27
   have H1 : ((impl_votes_game.f k1 t274 t275).bind fun bt282 => (if x3_1.length < 4398046511104 then (impl_allGames.l0 k1 a0 (x3_1 ++ [(⟨bt282.1, bt282.2⟩ : S46)]) t269 (t269.length : Int) (wrap64 (x11_1 + 1))) else (none))) = some r := by rw [if_pos rfl] at H; exact H
   clear H
   have H := H1
   clear H1
   replace H := Option.bind_eq_some_iff.mp H
   obtain ⟨⟨t282, t283⟩, A280, H⟩ := H
   replace H : (if x3_1.length < 4398046511104 then (impl_allGames.l0 k1 a0 (x3_1 ++ [(⟨t282, t283⟩ : S46)]) t269 (t269.length : Int) (wrap64 (x11_1 + 1))) else (none)) = some r := H
   have A28 := Aside0.mk A280
   clear A280
   by_cases c29 : x3_1.length < 4398046511104
   rotate_left
   ·rw [if_neg c29] at H
    exact absurd H (by simp)
   rw [if_pos c29] at H
   have LMc29 := Aside0.mk c29
   clear c29
   obtain ⟨y286, hy286⟩ : ∃ y_ : List (S46), y_ = (x3_1 ++ [(⟨t282, t283⟩ : S46)]) := ⟨_, rfl⟩
   replace H : (impl_allGames.l0 k1 a0 y286 t269 (t269.length : Int) (wrap64 (x11_1 + 1))) = some r := by first | (rw [hy286]; with_reducible exact H) | (have H2_ := (Option.bind_some _ _).symm.trans H; rw [hy286]; with_reducible exact H2_) | (have H2_ := (Option.bind_some _ _).symm.trans H; with_reducible exact H2_) | with_reducible exact H | (rw [hy286]; exact H) | exact H
   have Ny286 := Aside0.mk hy286
   clear hy286
   have H' := Aside0.mk H
   clear H
   have p272 : 0 ≤ (x11_1 : Int) := of_decide_eq_true (by first | (with_reducible assumption) | assumption)
   have q272 : x11_1 < (t269.length : Int) := of_decide_eq_true (by first | (with_reducible assumption) | assumption)
   obtain ⟨ad272, e272, hx272_0⟩ := Kd.at_int (Kd.R_reads' HO_9.out).2.2 x11_1 p272 q272
   cases e272
   replace p272 := eq_true p272
   replace q272 := eq_true q272
   try go_wp2_with (first | ((with_reducible refine gate_dst (N := 5) rfl ?_); refine box_event ?hg (N := 5) ?hd (cs := #[.int .i64 0]) (t := 3) ?hr ?_; (case hd => rfl); (case hg => rfl); (case hr => first | (go_simp; done) | (go_simp; rfl)); intro gb273 hg w30 hbox hb; have n0_ := Aside0.mk (Kd.R_below (Kd.R_elderB (zr HO_3.out) gb273 (Nat.le_of_eq hg.symm)) hb); have n1_ := Aside0.mk (Kd.R_below (Kd.R_elderB (zr HO_9.out) gb273 (Nat.le_of_eq hg.symm)) hb); have n2_ := Aside0.mk (below_step (zh HB.out) hb); have n3_ := Aside0.mk (hbox); have n4_ := Aside0.mk ((by rw [hg]; exact (below_size (zh HB.out)) : w.heap.size ≤ gb273)); have n5_ := Aside0.mk ((by rw [hg]; exact (below_size (zh HB.out)) : w.heap.size ≤ gb273)); clear HO_3; clear HO_9; clear HB; have HO_3 := n0_; have HO_9 := n1_; have HB := n2_; have BK273 := n3_; have GW273 := n4_; have GE273 := n5_; clear n0_ n1_ n2_ n3_ n4_ n5_; clear hb hbox hg; have hcz31_0 : w30.cell? ⟨gb273, 0, none⟩ = some (.int .i64 0) := (blk_cell BK273.out 0).trans rfl; have hfz31_0 := blk_frozen BK273.out 0) | ((with_reducible refine gate_callee (f := 100) rfl ?_); refine goesL_ (some 17) rfl rfl Tryz.func100 (by kernel_rfl) rfl #[.int .i64 a0, .func (.func 101) #[] #[.pointer (some ⟨gb273, 0, none⟩)]] rfl (by (try simp only [List.map_toArray, List.map_cons, List.map_nil]); first | done | rfl | (simp only [List.length_drop, List.length_take]; rfl)) ?_; (with_reducible refine (votesOf_allGames.calls k1 a0 (rd t269 x11_1) t274 t275 _ gb273 (by first | exact (blk_cell (zb BK273.out) 0).trans rfl | exact (blk_cell (blk_put (zb BK273.out) 0 _ rfl) 0).trans rfl | exact zb BK273.out) A10.out).mono ?_); rintro e w32 ⟨v276, rfl, ho0, hb⟩; refine ⟨_, rfl, ?_⟩; have n0_ := Aside0.mk (Kd.R_below (by (with_reducible repeat (first | apply Kd.R_alloc | apply Kd.R_drewN | apply Kd.R_drew)); exact (Kd.R_mono (Kd.R_far (p := ⟨gb273, 0, none⟩) (Kd.R_mono HO_3.out (fun k_ hk => (⟨hk, hk.2⟩ : _ ∧ k_ ≠ gb273))) (fun _ hk => hk.2) (.int .i64 (rd t269 x11_1))) (fun _ h_ => h_.1))) hb); have n1_ := Aside0.mk (Kd.R_below (by (with_reducible repeat (first | apply Kd.R_alloc | apply Kd.R_drewN | apply Kd.R_drew)); exact (Kd.R_mono (Kd.R_far (p := ⟨gb273, 0, none⟩) (Kd.R_mono HO_9.out (fun k_ hk => (⟨hk, hk.2⟩ : _ ∧ k_ ≠ gb273))) (fun _ hk => hk.2) (.int .i64 (rd t269 x11_1))) (fun _ h_ => h_.1))) hb); have n2_ := Aside0.mk (Kd.R_lower ho0 (below_size (zh HB.out))); have n3_ := Aside0.mk (blk_below (g := gb273) (o := .cells #[.int .i64 (rd t269 x11_1)] 3 (0, 0)) (by (with_reducible repeat (first | refine blk_drewN ?_ _ | refine blk_drew ?_ | refine blk_alloc ?_ _)); refine blk_put (cs := #[.int .i64 0]) ?_ 0 _ rfl; (with_reducible repeat (first | refine blk_drewN ?_ _ | refine blk_drew ?_ | refine blk_alloc ?_ _)); exact BK273.out) hb); have n4_ := Aside0.mk (below_step (zh HB.out) hb); clear HO_3; clear HO_9; clear BK273; clear HB; have HO_3 := n0_; have HO_9 := n1_; have HO277 := n2_; have BK273 := n3_; have HB := n4_; clear n0_ n1_ n2_ n3_ n4_; (try clear hb); (try clear hb2); (try clear hk); (try clear hi); (try clear ho0)) | ((with_reducible refine gate_dst (N := 6) rfl ?_); refine box_event ?hg (N := 6) ?hd (cs := #[.int .i64 0, .slice none 0 0]) (t := 86) ?hr ?_; (case hd => rfl); (case hg => rfl); (case hr => first | (go_simp; done) | (go_simp; rfl)); intro gb278 hg w33 hbox hb; have n0_ := Aside0.mk (Kd.R_below (zr HO_3.out) hb); have n1_ := Aside0.mk (Kd.R_below (zr HO_9.out) hb); have n2_ := Aside0.mk (Kd.R_below (zr HO277.out) hb); have n3_ := Aside0.mk (blk_below (g := gb273) (o := .cells #[.int .i64 (rd t269 x11_1)] 3 (0, 0)) (zb BK273.out) hb); have n4_ := Aside0.mk (below_step (zh HB.out) hb); have n5_ := Aside0.mk (hbox); have n6_ := Aside0.mk ((by rw [hg]; exact (below_size (zh HB.out)) : w.heap.size ≤ gb278)); have n7_ := Aside0.mk ((by rw [hg]; exact (below_size (zh HB.out)) : w.heap.size ≤ gb278)); have n8_ := Aside0.mk ((by rw [hg]; exact Nat.ne_of_lt (blk_lt (g := gb273) (o := .cells #[.int .i64 (rd t269 x11_1)] 3 (0, 0)) (zb BK273.out)) : gb273 ≠ gb278)); have n9_ := Aside0.mk ((by rw [hg]; exact Nat.ne_of_gt (blk_lt (g := gb273) (o := .cells #[.int .i64 (rd t269 x11_1)] 3 (0, 0)) (zb BK273.out)) : gb278 ≠ gb273)); clear HO_3; clear HO_9; clear HO277; clear BK273; clear HB; have HO_3 := n0_; have HO_9 := n1_; have HO277 := n2_; have BK273 := n3_; have HB := n4_; have BK278 := n5_; have GW278 := n6_; have GE278 := n7_; have NB273_278 := n8_; have NB278_273 := n9_; clear n0_ n1_ n2_ n3_ n4_ n5_ n6_ n7_ n8_ n9_; clear hb hbox hg; have hnb34 := NB278_273.out; have hnc34 := NB273_278.out; have hcz35_0 : w33.cell? ⟨gb278, 0, none⟩ = some (.int .i64 0) := (blk_cell BK278.out 0).trans rfl; have hcz35_1 : w33.cell? ⟨gb278, 1, none⟩ = some (.slice none 0 0) := (blk_cell BK278.out 1).trans rfl; have hfz35_0 := blk_frozen BK278.out 0; have hfz35_1 := blk_frozen BK278.out 1; obtain ⟨Ao36, co36, eo36⟩ := Kd.R_slice HO277.out; subst eo36))
   have n0_ : Aside0 (Kd.R k46 46 ((w33.setCell ⟨gb278, 0, none⟩ (.int .i64 t274)).setCell ⟨gb278, 1, none⟩ (.slice Ao36 t275.length co36)) w.heap.size (fun k_ => some k_ ≠ (.slice (some ad272) t269.length co6 : Value).ownBlock ∧ k_ ≠ gb273) u3 x3_1) := ⟨by (with_reducible repeat (first | apply Kd.R_alloc | apply Kd.R_drewN | apply Kd.R_drew)); exact Kd.R_mono (Kd.R_far (p := ⟨gb278, 1, none⟩) (Kd.R_far (p := ⟨gb278, 0, none⟩) (Kd.R_types HO_3.out BK278.out (by decide)) (fun _ hk => hk.2) (.int .i64 t274)) (fun _ hk => hk.2) (.slice Ao36 t275.length co36)) (fun _ hk => ⟨hk.1.1, hk.1.2⟩)⟩
   have n1_ : Aside0 (Kd.R (Kd.int .i64) 3 ((w33.setCell ⟨gb278, 0, none⟩ (.int .i64 t274)).setCell ⟨gb278, 1, none⟩ (.slice Ao36 t275.length co36)) w.heap.size (fun k_ => k_ ≠ gb273) (.slice (some ad272) t269.length co6) t269) := ⟨by (with_reducible repeat (first | apply Kd.R_alloc | apply Kd.R_drewN | apply Kd.R_drew)); exact Kd.R_mono (Kd.R_far (p := ⟨gb278, 1, none⟩) (Kd.R_far (p := ⟨gb278, 0, none⟩) (Kd.R_types HO_9.out BK278.out (by decide)) (fun _ hk => hk.2) (.int .i64 t274)) (fun _ hk => hk.2) (.slice Ao36 t275.length co36)) (fun _ hk => hk.1.2)⟩
   have n2_ : Aside0 (Kd.R Kd.bool 4 ((w33.setCell ⟨gb278, 0, none⟩ (.int .i64 t274)).setCell ⟨gb278, 1, none⟩ (.slice Ao36 t275.length co36)) w.heap.size (fun _ => True) (.slice Ao36 t275.length co36) t275) := ⟨by (with_reducible repeat (first | apply Kd.R_alloc | apply Kd.R_drewN | apply Kd.R_drew)); exact Kd.R_mono (Kd.R_far (p := ⟨gb278, 1, none⟩) (Kd.R_far (p := ⟨gb278, 0, none⟩) (Kd.R_types HO277.out BK278.out (by decide)) (fun _ hk => hk.2) (.int .i64 t274)) (fun _ hk => hk.2) (.slice Ao36 t275.length co36)) (fun _ hk => trivial)⟩
   have n3_ : Aside0 (((w33.setCell ⟨gb278, 0, none⟩ (.int .i64 t274)).setCell ⟨gb278, 1, none⟩ (.slice Ao36 t275.length co36)).heap[gb273]? = some (.cells #[.int .i64 (rd t269 x11_1)] 3 (0, 0))) := ⟨by (with_reducible repeat (first | refine blk_drewN ?_ _ | refine blk_drew ?_ | refine blk_alloc ?_ _)); refine blk_far ?_ NB273_278.out _; (with_reducible repeat (first | refine blk_drewN ?_ _ | refine blk_drew ?_ | refine blk_alloc ?_ _)); refine blk_far ?_ NB273_278.out _; (with_reducible repeat (first | refine blk_drewN ?_ _ | refine blk_drew ?_ | refine blk_alloc ?_ _)); exact BK273.out⟩
   have n4_ : Aside0 (((w33.setCell ⟨gb278, 0, none⟩ (.int .i64 t274)).setCell ⟨gb278, 1, none⟩ (.slice Ao36 t275.length co36)).heap[gb278]? = some (.cells #[.int .i64 t274, .slice Ao36 t275.length co36] 86 (0, 0))) := ⟨by (with_reducible repeat (first | refine blk_drewN ?_ _ | refine blk_drew ?_ | refine blk_alloc ?_ _)); refine blk_put (cs := #[.int .i64 t274, .slice none 0 0]) ?_ 1 _ rfl; (with_reducible repeat (first | refine blk_drewN ?_ _ | refine blk_drew ?_ | refine blk_alloc ?_ _)); refine blk_put (cs := #[.int .i64 0, .slice none 0 0]) ?_ 0 _ rfl; (with_reducible repeat (first | refine blk_drewN ?_ _ | refine blk_drew ?_ | refine blk_alloc ?_ _)); exact BK278.out⟩
   have n5_ : Aside0 (Below w.heap.size w ((w33.setCell ⟨gb278, 0, none⟩ (.int .i64 t274)).setCell ⟨gb278, 1, none⟩ (.slice Ao36 t275.length co36))) := ⟨zh HB.out⟩
   (try clear HO_3)
   (try clear HO_9)
   (try clear HO277)
   (try clear BK273)
   (try clear BK278)
   (try clear HB)
   generalize ((w33.setCell ⟨gb278, 0, none⟩ (.int .i64 t274)).setCell ⟨gb278, 1, none⟩ (.slice Ao36 t275.length co36)) = w37 at n0_ n1_ n2_ n3_ n4_ n5_ ⊢
   have HO_3 := n0_
   have HO_9 := n1_
   have HO277 := n2_
   have BK273 := n3_
   have BK278 := n4_
   have HB := n5_
   clear n0_ n1_ n2_ n3_ n4_ n5_
   have n0_ := Aside0.mk (Kd.R_drew HO_3.out)
   have n1_ := Aside0.mk (Kd.R_drew HO_9.out)
   have n2_ := Aside0.mk (Kd.R_drew HO277.out)
   have n3_ := Aside0.mk (blk_drew BK273.out)
   have n4_ := Aside0.mk (blk_drew BK278.out)
   have n5_ := Aside0.mk (below_drew1 HB.out)
   clear HO_3
   clear HO_9
   clear HO277
   clear BK273
   clear BK278
   clear HB
   have HO_3 := n0_
   have HO_9 := n1_
   have HO277 := n2_
   have BK273 := n3_
   have BK278 := n4_
   have HB := n5_
   clear n0_ n1_ n2_ n3_ n4_ n5_
   have p279 : 0 ≤ (0 : Int) := (by omega)
   have q279 : 0 < (t275.length : Int) := of_decide_eq_true (by first | (with_reducible assumption) | assumption)
   obtain ⟨ad279, e279, hx279_0⟩ := Kd.at_bool (Kd.R_reads' HO277.out).2.2 0 p279 q279
   (try rw [← Nbq12.out] at hx279_0)
   (try rw [← Nbq26.out] at hx279_0)
   cases e279
   have qi279 : (0 < t275.length) = True := eq_true (by omega)
   (try rw [show ((0 : Int)).toNat = 0 from rfl] at hx279_0)
   (try rw [Addr.add_zero'] at hx279_0)
   replace p279 := eq_true p279
   replace q279 := eq_true q279
   have p281 : 0 ≤ (t280 : Int) := of_decide_eq_true (by first | (with_reducible assumption) | assumption)
   have q281 : t280 < (t275.length : Int) := of_decide_eq_true (by first | (with_reducible assumption) | assumption)
   obtain ⟨ad281, e281, hx281_0⟩ := Kd.at_bool (Kd.R_reads' HO277.out).2.2 t280 p281 q281
   (try rw [← Nbq12.out] at hx281_0)
   (try rw [← Nbq26.out] at hx281_0)
   obtain rfl : ad279 = ad281 := (by injection e281)
   replace p281 := eq_true p281
   replace q281 := eq_true q281
   refine start_ (n := 13) (S := fun w' => w'.cell? ⟨gb278, 0, none⟩ = some (.int .i64 t274) ∧ w'.cell? ⟨gb278, 1, none⟩ = some (.slice (some ad279) t275.length co36) ∧ w'.cell? ad279 = some (.bool false) ∧ w'.cell? (ad279.add (t280).toNat) = some (.bool true)) (ds := []) (tb 13 0) (by kernel_rfl) rfl rfl ⟨(blk_cell BK278.out 0).trans rfl, (blk_cell BK278.out 1).trans rfl, hx279_0, hx281_0⟩ (fun hHeld => ?_); refine with_tabW impl_allGames.tab6 impl_allGames.bits6 (fun HT_ HW_ => ?_)
   generalize w37.drew = w38 at HO_3 HO_9 HO277 BK273 BK278 HB hx279_0 hx281_0 hHeld ⊢
   refine zu (i := 0) (N := some 18) (tb 13 1) rfl rfl HT_ ?_
   refine take_ (i := 1) (N := some 19) (v := ?_) (a' := ?_) (tb 13 3) rfl rfl (take_ofW HT_.out HW_.out (by kernel_rfl)) (fun _ _ _ h => h) (Or.inl ⟨by rfl, ?_⟩) hHeld ?_ ?_
   rotate_left
   ·rintro w' ⟨s0, s1, s2, s3⟩
    go_simp
    with_reducible rfl
   rotate_left
   ·simp only [Act.put, List.setIfInBounds_toArray, List.set_cons_zero, List.set_cons_succ, i64_w, i32_w]
    rfl
   refine zu (i := 2) (N := some 20) (tb 13 7) rfl rfl HT_ ?_
   refine take_ (i := 3) (N := some 21) (v := ?_) (a' := ?_) (tb 13 15) rfl rfl (take_ofW HT_.out HW_.out (by kernel_rfl)) (fun _ _ _ h => h) (Or.inl ⟨by rfl, ?_⟩) hHeld ?_ ?_
   rotate_left
   ·rintro w' ⟨s0, s1, s2, s3⟩
    go_simp
    with_reducible rfl
   rotate_left
   ·simp only [Act.put, List.setIfInBounds_toArray, List.set_cons_zero, List.set_cons_succ, i64_w, i32_w]
    rfl
   refine zu (i := 4) (N := some 22) (tb 13 31) rfl rfl HT_ ?_
   refine zu (i := 5) (N := some 23) (tb 13 63) rfl rfl HT_ ?_
   refine zu (i := 6) (N := some 24) (tb 13 127) rfl rfl HT_ ?_
   refine take_ (i := 7) (N := some 25) (v := ?_) (a' := ?_) (tb 13 255) rfl rfl (take_ofW HT_.out HW_.out (by kernel_rfl)) (fun _ _ _ h => h) (Or.inl ⟨by rfl, ?_⟩) hHeld ?_ ?_
   rotate_left
   ·rintro w' ⟨s0, s1, s2, s3⟩
    go_simp
    with_reducible rfl
   rotate_left
   ·simp only [Act.put, List.setIfInBounds_toArray, List.set_cons_zero, List.set_cons_succ, i64_w, i32_w]
    rfl
   refine take_ (i := 8) (N := some 26) (v := ?_) (a' := ?_) (tb 13 511) rfl rfl (take_ofW HT_.out HW_.out (by kernel_rfl)) (fun _ _ _ h => h) (Or.inl ⟨by rfl, ?_⟩) hHeld ?_ ?_
   rotate_left
   ·rintro w' ⟨s0, s1, s2, s3⟩
    go_simp
    with_reducible rfl
   rotate_left
   ·simp only [Act.put, List.setIfInBounds_toArray, List.set_cons_zero, List.set_cons_succ, i64_w, i32_w]
    rfl
   refine one_ (i := 9) (N := some 27) (tb 13 1023) rfl rfl (one_of HT_.out (by kernel_rfl)) (by decide) (fun K hK => ?_)
   refine goes_ Tryz.func103 (by kernel_rfl) rfl #[.agg #[.int .i64 t274, .slice (some ad279) t275.length co36]] (by rfl) rfl rfl (by (try simp only [List.map_toArray, List.map_cons, List.map_nil]); first | done | rfl | (simp only [List.length_drop, List.length_take]; rfl)) ?_
   with_reducible refine (impl_votes_all.calls t274 _ _ t275 t280 _ ?side1 ?side2 A23.out).mono ?_
   (case side1 => repeat (first | exact (Kd.R_reads' HO277.out).2.2 | (with_reducible refine Kd.C_alloc ?_ _) | (with_reducible refine Kd.C_drewN ?_ _) | (with_reducible refine Kd.C_drew ?_)))
   (case side2 => exact (Kd.R_reads' HO277.out).2.1)
   rintro e w39 ⟨rfl, hb⟩
   have HS2_ := (hb.cell (World.block_lt_of_cell? _ _ (hHeld.2.2.1))).trans (hHeld.2.2.1)
   have HS3_ := (hb.cell (World.block_lt_of_cell? _ _ (hHeld.2.2.2))).trans (hHeld.2.2.2)
   refine ⟨_, rfl, ?_⟩
   have n0_ := Aside0.mk (Kd.R_below (zr HO_3.out) hb)
   have n1_ := Aside0.mk (Kd.R_below (zr HO_9.out) hb)
   have n2_ := Aside0.mk (Kd.R_below (zr HO277.out) hb)
   have n3_ := Aside0.mk (blk_below (g := gb273) (o := .cells #[.int .i64 (rd t269 x11_1)] 3 (0, 0)) (zb BK273.out) hb)
   have n4_ := Aside0.mk (blk_below (g := gb278) (o := .cells #[.int .i64 t274, .slice (some ad279) t275.length co36] 86 (0, 0)) (zb BK278.out) hb)
   have n5_ := Aside0.mk (below_step (zh HB.out) hb)
   clear HO_3
   clear HO_9
   clear HO277
   clear BK273
   clear BK278
   clear HB
   have HO_3 := n0_
   have HO_9 := n1_
   have HO277 := n2_
   have BK273 := n3_
   have BK278 := n4_
   have HB := n5_
   clear n0_ n1_ n2_ n3_ n4_ n5_
   (try clear hb)
   (try clear hb2)
   (try clear hk)
   (try clear hi)
   refine hK.out _ _ ⟨(blk_cell BK278.out 0).trans rfl, (blk_cell BK278.out 1).trans rfl, HS2_, HS3_⟩ (fun hHeld => ?_)
   clear hK K
   refine norm_ (a' := ?_) ?_ ?_
   rotate_left
   ·show Act.put _ (some 27) _ = _
    simp only [Act.put, List.setIfInBounds_toArray, List.set_cons_zero, List.set_cons_succ, i64_w, i32_w]
    rfl
   refine zu (i := 10) (N := some 28) (tb 13 2047) rfl rfl HT_ ?_
   refine take_ (i := 11) (N := some 29) (v := ?_) (a' := ?_) (tb 13 4095) rfl rfl (take_ofW HT_.out HW_.out (by kernel_rfl)) (fun _ _ _ h => h) (Or.inl ⟨by rfl, ?_⟩) hHeld ?_ ?_
   rotate_left
   ·rintro w' ⟨s0, s1, s2, s3⟩
    go_simp
    with_reducible rfl
   rotate_left
   ·simp only [Act.put, List.setIfInBounds_toArray, List.set_cons_zero, List.set_cons_succ, i64_w, i32_w]
    rfl
   refine zu (i := 12) (N := some 30) (tb 13 8191) rfl rfl HT_ ?_
   refine done_ (done_of HT_.out (by kernel_rfl)) ?_
   have hcz40_0 : w39.cell? ⟨gb278, 0, none⟩ = some (.int .i64 t274) := (blk_cell BK278.out 0).trans rfl
   have hcz40_1 : w39.cell? ⟨gb278, 1, none⟩ = some (.slice (some ad279) t275.length co36) := (blk_cell BK278.out 1).trans rfl
   have hfz40_0 := blk_frozen BK278.out 0
   have hfz40_1 := blk_frozen BK278.out 1
   try go_wp2_with (first | ((with_reducible refine gate_callee (f := 104) rfl ?_); refine goesL_ (some 33) rfl rfl Tryz.func104 (by kernel_rfl) rfl #[.agg #[.int .i64 t274, .slice (some ad279) t275.length co36]] rfl (by (try simp only [List.map_toArray, List.map_cons, List.map_nil]); first | done | rfl | (simp only [List.length_drop, List.length_take]; rfl)) ?_; (with_reducible refine (impl_votes_game.calls k1 t274 _ _ t275 t282 t283 _ ?side1 ?side2 A28.out).mono ?_); (case side1 => repeat (first | exact (Kd.R_reads' HO277.out).2.2 | (with_reducible refine Kd.C_alloc ?_ _) | (with_reducible refine Kd.C_drewN ?_ _) | (with_reducible refine Kd.C_drew ?_))); (case side2 => exact (Kd.R_reads' HO277.out).2.1); rintro e w41 ⟨v284, rfl, ho0, hb⟩; refine ⟨_, rfl, ?_⟩; have n0_ := Aside0.mk (Kd.R_elder' (zr HO_3.out) (Kd.S_base ho0) hb); have n1_ := Aside0.mk (Kd.R_below (zr HO_9.out) hb); have n2_ := Aside0.mk (Kd.R_below (zr HO277.out) hb); have n3_ := Aside0.mk (Kd.S_lower (Kd.S_newB (Kd.S_new' ho0 (Kd.R_lt (zr HO_9.out))) (g := gb273) (o := .cells #[.int .i64 (rd t269 x11_1)] 3 (0, 0)) (zb BK273.out)) (below_size (zh HB.out))); have n4_ := Aside0.mk (blk_below (g := gb273) (o := .cells #[.int .i64 (rd t269 x11_1)] 3 (0, 0)) (zb BK273.out) hb); have n5_ := Aside0.mk (blk_below (g := gb278) (o := .cells #[.int .i64 t274, .slice (some ad279) t275.length co36] 86 (0, 0)) (zb BK278.out) hb); have n6_ := Aside0.mk (below_step (zh HB.out) hb); clear HO_3; clear HO_9; clear HO277; clear BK273; clear BK278; clear HB; have HO_3 := n0_; have HO_9 := n1_; have HO277 := n2_; have HO285 := n3_; have BK273 := n4_; have BK278 := n5_; have HB := n6_; clear n0_ n1_ n2_ n3_ n4_ n5_ n6_; (try clear hb); (try clear hb2); (try clear hk); (try clear hi); (try clear ho0); obtain ⟨Ao43, co43, eo43⟩ := Kd.S_slice HO285.out; subst eo43) | ((with_reducible refine gate_builtin (b := .append) (xs := #[.tmp 31, .tmp 34]) rfl ?_); at_builtin; refine Kd.R_append k46 (w0 := w) w.heap.size rfl (.tmp 31) (.tmp 34) 51 46 (.agg #[(.int .i64 0), (.slice none 0 0)]) 32 rfl Tryz.underlying51 info46 rfl (by decide) (by omega) u3 x3_1 (⟨t282, t283⟩ : S46) [.int .i64 t282, .slice Ao43 t283.length co43] (fun k_ => some k_ ≠ (.slice (some ad272) t269.length co6 : Value).ownBlock ∧ k_ ≠ gb273) (fun k_ => ((fun k_ => some k_ ≠ (.slice (some ad272) t269.length co6 : Value).ownBlock ∧ k_ ≠ gb273)) k_ ∧ some k_ ≠ (u3 : Value).ownBlock) rfl rfl ?aP (fun _ hk => hk) ?aF ?aO ?aB ?aS ?aL ?_; (case aP => exact k46_mkM _ _ _ (⟨t282, t283⟩ : S46) (Kd.R_mono (Kd.R_apart' ((Kd.S_R HO285.out)) (Kd.R_typed HO_3.out) (by decide)) (fun k_ hk => ⟨⟨hk.1.1.2, hk.1.2⟩, hk.2⟩))); (case aB => exact (zh HB.out)); (case aF => exact (fun k_ hk => ⟨Kd.fresh' (Kd.R_lt (zr HO_9.out)) k_ hk, Kd.freshB (g := gb273) (o := .cells #[.int .i64 (rd t269 x11_1)] 3 (0, 0)) (zb BK273.out) k_ hk⟩)); (case aO => exact (by (with_reducible repeat (first | apply Kd.R_alloc | apply Kd.R_drewN | apply Kd.R_drew)); exact Kd.R_mono HO_3.out (fun _ hk => ⟨hk.1.1, hk.1.2⟩))); (case aS => exact (below_size (zh HB.out))); (case aL => have := LMc29.out; omega); intro v287 w42 ho hb hg hat; rw [← Ny286.out] at ho; have n0_ := Aside0.mk (Kd.R_over' (zr HO_9.out) (Kd.R_typed (zr HO_3.out)) (by decide) hg); have n1_ := Aside0.mk (blk_grown (g := gb273) (o := .cells #[.int .i64 (rd t269 x11_1)] 3 (0, 0)) (zb BK273.out) hg (Kd.R_ne HO_3.out BK273.out (by decide))); have n2_ := Aside0.mk (Kd.R_over' (zr HO277.out) (Kd.R_typed (zr HO_3.out)) (by decide) hg); have n3_ := Aside0.mk (blk_grown (g := gb278) (o := .cells #[.int .i64 t274, .slice (some ad279) t275.length co36] 86 (0, 0)) (zb BK278.out) hg (Kd.R_ne HO_3.out BK278.out (by decide))); have n4_ := Aside0.mk (hb); have n5_ := Aside0.mk (ho); clear HO_9; clear BK273; clear HO277; clear BK278; clear HB; clear HO_3; clear HO285; have HO_9 := n0_; have BK273 := n1_; have HO277 := n2_; have BK278 := n3_; have HB := n4_; have HO288 := n5_; clear n0_ n1_ n2_ n3_ n4_ n5_; clear ho hb hg hat))
   go_roundg k1
   case measure => have := HK1.out; omega
   case rel => exact ⟨(y286), (wrap64 (x11_1 + 1)), (by first | rfl | (simp; done) | (simp [*]; done)), H', ⟨by have := HK1.out; omega⟩, ⟨by (with_reducible repeat (first | apply Kd.R_alloc | apply Kd.R_drewN | apply Kd.R_drew)); exact Kd.R_mono HO288.out (fun _ hk => hk.1)⟩, ⟨by (with_reducible repeat (first | apply Kd.R_alloc | apply Kd.R_drewN | apply Kd.R_drew)); exact Kd.R_mono HO_9.out (fun _ hk => trivial)⟩, ⟨zh HB.out⟩⟩
end Go.Proofs.YtgjakcpbfbfejaaGreat.Q
end
section
namespace Go.Proofs.YtgjakcpbfbfejaaGreat.Q
open Go.RowKit Go.Proofs.YtgjakcpbfbfejaaGreatW.PrintWords Go.Proofs.YtgjakcpbfbfejaaGreatW.PrintLast Go.Proofs.YtgjakcpbfbfejaaGreatW.PrintMore
set_option linter.unusedVariables false
set_option linter.unusedSimpArgs false
def solP (k : Nat) (clues : List S72) (g : S46) : Option Bool := (impl_Game_votes.f k g.f0 g.f1).bind fun v => anyO (fun c => impl_solutions_1_1.f k c.f0 c.f1 c.f2 v.1 v.2) clues
theorem impl_solutions_1_1.pred (k : Nat) (n : Int) (A : Option Addr) (c : Nat) (l : List Bool) (b1 : Nat) (w : World) (h1 : w.heap[b1]? = some (.cells #[.int .i64 n, .slice A l.length c] 86 (0, 0))) (hC : Kd.C Kd.bool w A l.length l) (hc : l.length ≤ c) :
    PredK Tryz.prog 81 #[.pointer (some ⟨b1, 0, none⟩)] k72 (fun c => .agg c.toArray) w (fun x => impl_solutions_1_1.f k x.f0 x.f1 x.f2 n l) := by
  intro W x cx b hb hK hp
  obtain rfl := k72_open hK
  exact (impl_solutions_1_1.calls k x.f0 x.f1 x.f2 n A c l b W b1 (blk_below h1 hb) (Kd.C_below hC hb) hc hp).mono (fun _ _ h => ⟨h.1, hb.trans (h.2.mono hb.size)⟩)
set_option maxHeartbeats 2000000 in
theorem impl_solutions_1.pred (k : Nat) (A1 : Option Addr) (c1 : Nat) (clues : List S72) (b1 : Nat) (wb : World) (h1 : wb.heap[b1]? = some (.cells #[.slice A1 clues.length c1] 28 (0, 0))) (hC : Kd.C k72 wb A1 clues.length clues) (hc1 : clues.length ≤ c1) :
    PredG Tryz.prog 79 #[.pointer (some ⟨b1, 0, none⟩)] wb (solP k clues) := by
  intro W x A c b hb hxc hxC hp
  show Calls Tryz.prog 79 #[.agg #[.int .i64 x.f0, .slice A x.f1.length c], .pointer (some ⟨b1, 0, none⟩)] W _
  obtain ⟨⟨v1, v2⟩, hv, hp⟩ := Option.bind_eq_some_iff.mp hp
  have HBK := Aside0.mk (blk_below h1 hb)
  have eg : ∀ args w, (callFunc 81 args).run Tryz.prog w = .ok (.enter 81 args) w := enters_of Tryz.func81 (by kernel_rfl) rfl
  have EG := Aside0.mk eg
  clear eg
  have HB := Aside0.mk hb
  have HX := Aside0.mk hxC
  have HCL := Aside0.mk (Kd.C_below hC hb)
  have HV := Aside0.mk hv
  have HP := Aside0.mk hp
  clear h1 hC hb hxC hv hp
  go_enter Tryz.func79, Tryz.ntmps79
  go_wp2_with (go_at_call 80; refine (impl_Game_votes.calls k x.f0 A c x.f1 v1 v2 _ (Kd.C_below HX.out ((Below.refl _ W).alloc (Nat.le_refl _) _)) hxc HV.out).mono ?_; rintro e w1 ⟨u, rfl, hR, hb1⟩; obtain ⟨Av, cv, rfl⟩ := Kd.R_slice hR; have HR := Aside0.mk (Kd.R_reads' hR).2.2; have HRC := Aside0.mk (Kd.R_reads' hR).2.1; have HB1 := Aside0.mk (((Below.refl _ W).alloc (Nat.le_refl _) _).trans (hb1.mono (by simp))); clear hR hb1; have x0 : w1.cell? ⟨b1, 0, none⟩ = some (.slice A1 clues.length c1) := (blk_cell (blk_below HBK.out HB1.out) 0).trans rfl; have x1 : ∀ o, (w1.alloc o).cell? ⟨b1, 0, none⟩ = some (.slice A1 clues.length c1) := fun o => (blk_cell (blk_alloc (blk_below HBK.out HB1.out) o) 0).trans rfl; have q3 : w1.heap.size ≠ b1 := Nat.ne_of_gt (blk_lt (blk_below HBK.out HB1.out)); have q4 : b1 ≠ w1.heap.size := fun h => q3 h.symm)
  refine (containsFunc_clue (fun c => impl_solutions_1_1.f k c.f0 c.f1 c.f2 v1 v2) 81 #[.pointer (some ⟨w1.heap.size, 0, none⟩)] EG.out A1 c1 clues b _ (Kd.C_below HCL.out ((HB1.out.trans ((Below.refl _ w1).alloc (Nat.le_refl _) _ |>.mono HB1.out.size)))) hc1 (impl_solutions_1_1.pred k v1 Av cv v2 w1.heap.size _ (blk_new w1 _) (Kd.C_below HR.out ((Below.refl _ w1).alloc (Nat.le_refl _) _)) HRC.out) HP.out).mono ?_
  rintro e w2 ⟨rfl, hb2⟩
  have HB2 := Aside0.mk (HB1.out.trans (((Below.refl _ w1).alloc (Nat.le_refl _) _).trans (hb2.mono (by simp)) |>.mono HB1.out.size))
  clear hb2 x1 x0
  go_wp2
  go_ret
  exact ⟨rfl, HB2.out⟩
def impl_solutions.f (k : Nat) (n : Int) (l : List S72) : Option (List S46) := (impl_allGames.f k n).bind fun gs => if gs.length ≤ 1000000 then filO (solP k l) gs else none
set_option maxHeartbeats 2000000 in
theorem impl_solutions.calls (k : Nat) (n : Int) (A : Option Addr) (c : Nat) (l : List S72) (r : List S46) (w : World) (hC : Kd.C k72 w A l.length l) (hc : l.length ≤ c) (h : impl_solutions.f k n l = some r) :
    Calls Tryz.prog 57 #[.int .i64 n, .slice A l.length c] w fun e w' => ∃ v0_ : Value, e = .returned v0_ ∧ Kd.V k46 46 w' w.heap.size (fun k_ => w.heap.size ≤ k_) v0_ r ∧ Below w.heap.size w w' := by
  have eg : ∀ args w, (callFunc 79 args).run Tryz.prog w = .ok (.enter 79 args) w := enters_of Tryz.func79 (by kernel_rfl) rfl
  have EG := Aside0.mk eg
  clear eg
  obtain ⟨gs, hg, h⟩ := Option.bind_eq_some_iff.mp h
  by_cases hl : gs.length ≤ 1000000
  case neg => rw [if_neg hl] at h; cases h
  rw [if_pos hl] at h
  have HC := Aside0.mk hC
  have HG := Aside0.mk hg
  have HL := Aside0.mk hl
  have HH := Aside0.mk h
  clear hC hg hl h
  go_enter Tryz.func57, Tryz.ntmps57
  go_wp2_with (go_at_call 78; refine (impl_allGames.calls k n gs _ HG.out).mono ?_; rintro e w1 ⟨u, rfl, hR, hb1⟩; obtain ⟨Av, cv, rfl⟩ := Kd.R_slice hR; have HN := Aside0.mk (Kd.R_N (Kd.R_mono (Kd.R_bound hR) (fun _ h => h.2.1))); have HB1 := Aside0.mk hb1; clear hR hb1)
  refine (deleteFunc_games (solP k l) 79 #[.pointer (some ⟨w.heap.size, 0, none⟩)] EG.out (w.alloc (.cells #[.slice A l.length c] 28 (0, 0))) w1 Av cv gs r (impl_solutions_1.pred k A c l w.heap.size _ (blk_new w _) (Kd.C_below HC.out ((Below.refl _ w).alloc (Nat.le_refl _) _)) hc) HB1.out HN.out HL.out HH.out).mono ?_
  rintro e w2 ⟨A2, c2, rfl, hN2, hB2⟩
  have HN2 := Aside0.mk hN2
  have HB2 := Aside0.mk hB2
  clear hN2 hB2 HN HB1
  go_wp2
  go_ret
  exact ⟨_, rfl, ⟨A2, c2, rfl, (Kd.N_reads' HN2.out).2.1, Kd.F_mono (Kd.N_F HN2.out) (fun z hz => Nat.le_trans (by simp) hz)⟩, ((Below.refl _ w).alloc (Nat.le_refl _) _).trans (HB2.out.mono (by simp))⟩
end Go.Proofs.YtgjakcpbfbfejaaGreat.Q
end
section
namespace Go.Proofs.YtgjakcpbfbfejaaGreat.Q
open Go.RowKit Go.Proofs.YtgjakcpbfbfejaaGreatW.PrintWords Go.Proofs.YtgjakcpbfbfejaaGreatW.PrintLast Go.Proofs.YtgjakcpbfbfejaaGreatW.PrintMore
attribute [local go_sem] max2_int min2_int max_two min_two max_three min_three max_four min_four
set_option linter.unusedVariables false
set_option linter.unusedSimpArgs false
def impl_Solutions.f (k : Nat) (a0_0 : Int) (l0_1 : List (S72)) : Option ((List (S46)) × Bool) := (impl_IsPuzzle.f a0_0 l0_1).bind fun t354 => (if t354 = true then ((impl_solutions.f k a0_0 l0_1).bind fun t355 => (some (t355, true))) else (some (([] : List (S46)), false)))
set_option maxHeartbeats 8000000 in
set_option maxRecDepth 100000 in
theorem impl_Solutions.calls (k : Nat) (a0_0 : Int) (A0_1 : Option Addr) (c0_1 : Nat) (l0_1 : List (S72)) (r1 : List (S46)) (r2 : Bool) (w : World) (hr0_1 : Kd.C k72 w A0_1 l0_1.length l0_1) (hc0_1 : l0_1.length ≤ c0_1) (h : impl_Solutions.f k a0_0 l0_1 = some (r1, r2)) :
  Calls Tryz.prog 39 #[.agg #[.int .i64 a0_0, .slice A0_1 l0_1.length c0_1]] w fun e w' => ∃ v0_ : Value, e = .returned (.tuple #[v0_, .bool r2]) ∧ Kd.V k46 46 w' w.heap.size (fun k_ => (w.heap.size ≤ k_)) v0_ r1 ∧ Below w.heap.size w w' := by
 have hu30 := Tryz.underlying30
 have HR0_1 := Aside0.mk hr0_1
 have HC0_1 := Aside0.mk hc0_1
 clear hr0_1 hc0_1
 have HB := Aside0.mk (Below.refl w.heap.size w)
 have H : ((impl_IsPuzzle.f a0_0 l0_1).bind fun t354 => (if t354 = true then ((impl_solutions.f k a0_0 l0_1).bind fun t355 => (some (t355, true))) else (some (([] : List (S46)), false)))) = some (r1, r2) := h
 clear h
 replace H := Option.bind_eq_some_iff.mp H
 obtain ⟨t354, A20, H⟩ := H
 replace H : (if t354 = true then ((impl_solutions.f k a0_0 l0_1).bind fun t355 => (some (t355, true))) else (some (([] : List (S46)), false))) = some (r1, r2) := H
 have A2 := Aside0.mk A20
 clear A20
 by_cases c3 : t354 = true
 rotate_left
 ·replace c3 := Bool.eq_false_iff.mpr c3
  subst c3
  have H1 : (some (([] : List (S46)), false)) = some (r1, r2) := by rw [if_neg (show ¬ (false = true) by decide)] at H; exact H
  clear H
  have H := H1
  clear H1
  simp only [Option.some.injEq, Prod.mk.injEq] at H
  obtain ⟨rfl, rfl⟩ := H
  go_enter Tryz.func39, Tryz.ntmps39
  go_wp2_with (first | ((with_reducible refine gate_dst (N := 1) rfl ?_); refine box_event ?hg (N := 1) ?hd (cs := #[.int .i64 a0_0, .slice A0_1 l0_1.length c0_1]) (t := 30) ?hr ?_; (case hd => rfl); (case hg => rfl); (case hr => first | (go_simp; done) | (go_simp; rfl)); intro gb353 hg w10 hbox hb; have n2_ := Aside0.mk ((by rw [hg]; exact (below_size (zh HB.out)) : w.heap.size ≤ gb353)); replace HB := Aside0.mk (below_step (zh HB.out) hb); have BK353 := Aside0.mk hbox; have GW353 := n2_; have GE353 := n2_; clear n2_ hb hbox hg; have hcz11_0 : w10.cell? ⟨gb353, 0, none⟩ = some (.int .i64 a0_0) := (blk_cell BK353.out 0).trans rfl; have hcz11_1 : w10.cell? ⟨gb353, 1, none⟩ = some (.slice A0_1 l0_1.length c0_1) := (blk_cell BK353.out 1).trans rfl; have hfz11_0 := blk_frozen BK353.out 0; have hfz11_1 := blk_frozen BK353.out 1) | ((with_reducible refine gate_callee (f := 56) rfl ?_); refine goesL_ (some 5) rfl rfl Tryz.func56 (by kernel_rfl) rfl #[.agg #[.int .i64 a0_0, .slice A0_1 l0_1.length c0_1]] rfl (by (try simp only [List.map_toArray, List.map_cons, List.map_nil]); first | done | rfl | (simp only [List.length_drop, List.length_take]; rfl)) ?_; (with_reducible refine (impl_IsPuzzle.calls a0_0 _ _ l0_1 false _ ?side1 ?side2 A2.out).mono ?_); (case side1 => repeat (first | exact (Kd.C_below HR0_1.out HB.out) | (with_reducible refine Kd.C_alloc ?_ _) | (with_reducible refine Kd.C_drewN ?_ _) | (with_reducible refine Kd.C_drew ?_))); (case side2 => exact HC0_1.out); rintro e w12 ⟨rfl, hb⟩; refine ⟨_, rfl, ?_⟩; have n0_ := Aside0.mk (blk_below (g := gb353) (o := .cells #[.int .i64 a0_0, .slice A0_1 l0_1.length c0_1] 30 (0, 0)) (zb BK353.out) hb); have n1_ := Aside0.mk (below_step (zh HB.out) hb); clear BK353; clear HB; have BK353 := n0_; have HB := n1_; clear n0_ n1_; (try clear hb); (try clear hb2); (try clear hk); (try clear hi)))
  go_ret2
  exact ⟨_, by first | rfl | (simp [*, errW_none, errW_some] <;> rfl), (by first | exact Kd.V_nil _ _ _ _ _ | exact Kd.R_V (Kd.R_nil _ _ 0 _ _) | exact Kd.N_nil _ _ _ _ _ | exact Kd.V_nil _ _ _ _ _ | exact Kd.Q_nil _ _ _ _ _ | exact Kd.S_nil _ _ _ _ _), zh HB.out⟩
 subst c3
 have H1 : ((impl_solutions.f k a0_0 l0_1).bind fun t355 => (some (t355, true))) = some (r1, r2) := by rw [if_pos rfl] at H; exact H
 clear H
 have H := H1
 clear H1
 replace H := Option.bind_eq_some_iff.mp H
 obtain ⟨t355, A40, H⟩ := H
 replace H : (some (t355, true)) = some (r1, r2) := H
 have A4 := Aside0.mk A40
 clear A40
 simp only [Option.some.injEq, Prod.mk.injEq] at H
 obtain ⟨rfl, rfl⟩ := H
 go_enter Tryz.func39, Tryz.ntmps39
 go_wp2_with (first | ((with_reducible refine gate_dst (N := 1) rfl ?_); refine box_event ?hg (N := 1) ?hd (cs := #[.int .i64 a0_0, .slice A0_1 l0_1.length c0_1]) (t := 30) ?hr ?_; (case hd => rfl); (case hg => rfl); (case hr => first | (go_simp; done) | (go_simp; rfl)); intro gb353 hg w5 hbox hb; have n2_ := Aside0.mk ((by rw [hg]; exact (below_size (zh HB.out)) : w.heap.size ≤ gb353)); replace HB := Aside0.mk (below_step (zh HB.out) hb); have BK353 := Aside0.mk hbox; have GW353 := n2_; have GE353 := n2_; clear n2_ hb hbox hg; have hcz6_0 : w5.cell? ⟨gb353, 0, none⟩ = some (.int .i64 a0_0) := (blk_cell BK353.out 0).trans rfl; have hcz6_1 : w5.cell? ⟨gb353, 1, none⟩ = some (.slice A0_1 l0_1.length c0_1) := (blk_cell BK353.out 1).trans rfl; have hfz6_0 := blk_frozen BK353.out 0; have hfz6_1 := blk_frozen BK353.out 1) | ((with_reducible refine gate_callee (f := 56) rfl ?_); refine goesL_ (some 5) rfl rfl Tryz.func56 (by kernel_rfl) rfl #[.agg #[.int .i64 a0_0, .slice A0_1 l0_1.length c0_1]] rfl (by (try simp only [List.map_toArray, List.map_cons, List.map_nil]); first | done | rfl | (simp only [List.length_drop, List.length_take]; rfl)) ?_; (with_reducible refine (impl_IsPuzzle.calls a0_0 _ _ l0_1 true _ ?side1 ?side2 A2.out).mono ?_); (case side1 => repeat (first | exact (Kd.C_below HR0_1.out HB.out) | (with_reducible refine Kd.C_alloc ?_ _) | (with_reducible refine Kd.C_drewN ?_ _) | (with_reducible refine Kd.C_drew ?_))); (case side2 => exact HC0_1.out); rintro e w7 ⟨rfl, hb⟩; refine ⟨_, rfl, ?_⟩; have n0_ := Aside0.mk (blk_below (g := gb353) (o := .cells #[.int .i64 a0_0, .slice A0_1 l0_1.length c0_1] 30 (0, 0)) (zb BK353.out) hb); have n1_ := Aside0.mk (below_step (zh HB.out) hb); clear BK353; clear HB; have BK353 := n0_; have HB := n1_; clear n0_ n1_; (try clear hb); (try clear hb2); (try clear hk); (try clear hi); have hcz8_0 : w7.cell? ⟨gb353, 0, none⟩ = some (.int .i64 a0_0) := (blk_cell BK353.out 0).trans rfl; have hcz8_1 : w7.cell? ⟨gb353, 1, none⟩ = some (.slice A0_1 l0_1.length c0_1) := (blk_cell BK353.out 1).trans rfl; have hfz8_0 := blk_frozen BK353.out 0; have hfz8_1 := blk_frozen BK353.out 1) | ((with_reducible refine gate_callee (f := 57) rfl ?_); refine goesL_ (some 11) rfl rfl Tryz.func57 (by kernel_rfl) rfl #[.int .i64 a0_0, .slice A0_1 l0_1.length c0_1] rfl (by (try simp only [List.map_toArray, List.map_cons, List.map_nil]); first | done | rfl | (simp only [List.length_drop, List.length_take]; rfl)) ?_; (with_reducible refine (impl_solutions.calls k a0_0 _ _ l0_1 t355 _ ?side1 ?side2 A4.out).mono ?_); (case side1 => repeat (first | exact (Kd.C_below HR0_1.out HB.out) | (with_reducible refine Kd.C_alloc ?_ _) | (with_reducible refine Kd.C_drewN ?_ _) | (with_reducible refine Kd.C_drew ?_))); (case side2 => exact HC0_1.out); rintro e w9 ⟨v356, rfl, ho0, hb⟩; refine ⟨_, rfl, ?_⟩; have n0_ := Aside0.mk (Kd.V_lower (Kd.V_mono (ok' := fun k_ => (w.heap.size ≤ k_) ∧ k_ ≠ gb353) ho0 (fun k_ hk_ => ⟨(Nat.le_trans (below_size (zh HB.out)) hk_), (Kd.freshB (g := gb353) (o := .cells #[.int .i64 a0_0, .slice A0_1 l0_1.length c0_1] 30 (0, 0)) (zb BK353.out) k_ hk_)⟩)) (below_size (zh HB.out))); have n1_ := Aside0.mk (blk_below (g := gb353) (o := .cells #[.int .i64 a0_0, .slice A0_1 l0_1.length c0_1] 30 (0, 0)) (zb BK353.out) hb); have n2_ := Aside0.mk (below_step (zh HB.out) hb); clear BK353; clear HB; have HO357 := n0_; have BK353 := n1_; have HB := n2_; clear n0_ n1_ n2_; (try clear hb); (try clear hb2); (try clear hk); (try clear hi); (try clear ho0)))
 go_ret2
 exact ⟨_, by first | rfl | (simp [*, errW_none, errW_some] <;> rfl), by (with_reducible repeat (first | apply Kd.V_alloc | apply Kd.V_drewN | apply Kd.V_drew)); exact Kd.V_mono HO357.out (fun _ hk => hk.1), zh HB.out⟩
def impl_CountSolutions.f (k : Nat) (a0_0 : Int) (l0_1 : List (S72)) : Option (Int × Bool) := (impl_Solutions.f k a0_0 l0_1).bind fun bt359 => (some ((bt359.1.length : Int), bt359.2))
set_option maxHeartbeats 8000000 in
set_option maxRecDepth 100000 in
theorem impl_CountSolutions.calls (k : Nat) (a0_0 : Int) (A0_1 : Option Addr) (c0_1 : Nat) (l0_1 : List (S72)) (r1 : Int) (r2 : Bool) (w : World) (hr0_1 : Kd.C k72 w A0_1 l0_1.length l0_1) (hc0_1 : l0_1.length ≤ c0_1) (h : impl_CountSolutions.f k a0_0 l0_1 = some (r1, r2)) :
  Calls Tryz.prog 16 #[.agg #[.int .i64 a0_0, .slice A0_1 l0_1.length c0_1]] w fun e w' => e = .returned (.tuple #[.int .i64 r1, .bool r2]) ∧ Below w.heap.size w w' := by
 have hu30 := Tryz.underlying30
 have HR0_1 := Aside0.mk hr0_1
 have HC0_1 := Aside0.mk hc0_1
 clear hr0_1 hc0_1
 have HB := Aside0.mk (Below.refl w.heap.size w)
 have H : ((impl_Solutions.f k a0_0 l0_1).bind fun bt359 => (some ((bt359.1.length : Int), bt359.2))) = some (r1, r2) := h
 clear h
 replace H := Option.bind_eq_some_iff.mp H
 obtain ⟨⟨t359, t362⟩, A20, H⟩ := H
 replace H : (some ((t359.length : Int), t362)) = some (r1, r2) := H
 have A2 := Aside0.mk A20
 clear A20
 simp only [Option.some.injEq, Prod.mk.injEq] at H
 obtain ⟨rfl, rfl⟩ := H
 go_enter Tryz.func16, Tryz.ntmps16
 go_wp2_with (first | ((with_reducible refine gate_dst (N := 1) rfl ?_); refine box_event ?hg (N := 1) ?hd (cs := #[.int .i64 a0_0, .slice A0_1 l0_1.length c0_1]) (t := 30) ?hr ?_; (case hd => rfl); (case hg => rfl); (case hr => first | (go_simp; done) | (go_simp; rfl)); intro gb358 hg w3 hbox hb; have n2_ := Aside0.mk ((by rw [hg]; exact (below_size (zh HB.out)) : w.heap.size ≤ gb358)); replace HB := Aside0.mk (below_step (zh HB.out) hb); have BK358 := Aside0.mk hbox; have GW358 := n2_; have GE358 := n2_; clear n2_ hb hbox hg; have hcz4_0 : w3.cell? ⟨gb358, 0, none⟩ = some (.int .i64 a0_0) := (blk_cell BK358.out 0).trans rfl; have hcz4_1 : w3.cell? ⟨gb358, 1, none⟩ = some (.slice A0_1 l0_1.length c0_1) := (blk_cell BK358.out 1).trans rfl; have hfz4_0 := blk_frozen BK358.out 0; have hfz4_1 := blk_frozen BK358.out 1) | ((with_reducible refine gate_callee (f := 39) rfl ?_); refine goesL_ (some 8) rfl rfl Tryz.func39 (by kernel_rfl) rfl #[.agg #[.int .i64 a0_0, .slice A0_1 l0_1.length c0_1]] rfl (by (try simp only [List.map_toArray, List.map_cons, List.map_nil]); first | done | rfl | (simp only [List.length_drop, List.length_take]; rfl)) ?_; (with_reducible refine (impl_Solutions.calls k a0_0 _ _ l0_1 t359 t362 _ ?side1 ?side2 A2.out).mono ?_); (case side1 => repeat (first | exact (Kd.C_below HR0_1.out HB.out) | (with_reducible refine Kd.C_alloc ?_ _) | (with_reducible refine Kd.C_drewN ?_ _) | (with_reducible refine Kd.C_drew ?_))); (case side2 => exact HC0_1.out); rintro e w5 ⟨v360, rfl, ho0, hb⟩; refine ⟨_, rfl, ?_⟩; have n0_ := Aside0.mk (Kd.V_lower (Kd.V_mono (ok' := fun k_ => k_ ≠ gb358) ho0 (fun k_ hk_ => (Kd.freshB (g := gb358) (o := .cells #[.int .i64 a0_0, .slice A0_1 l0_1.length c0_1] 30 (0, 0)) (zb BK358.out) k_ hk_))) (below_size (zh HB.out))); have n1_ := Aside0.mk (blk_below (g := gb358) (o := .cells #[.int .i64 a0_0, .slice A0_1 l0_1.length c0_1] 30 (0, 0)) (zb BK358.out) hb); have n2_ := Aside0.mk (below_step (zh HB.out) hb); clear BK358; clear HB; have HO361 := n0_; have BK358 := n1_; have HB := n2_; clear n0_ n1_ n2_; (try clear hb); (try clear hb2); (try clear hk); (try clear hi); (try clear ho0); obtain ⟨Ao6, co6, eo6⟩ := Kd.V_slice HO361.out; subst eo6))
 go_ret2
 exact ⟨by first | rfl | (simp [*, errW_none, errW_some] <;> rfl), zh HB.out⟩
def impl_IsSolved.f (k : Nat) (a0_0 : Int) (l0_1 : List (S72)) : Option (Bool × Bool) := (impl_CountSolutions.f k a0_0 l0_1).bind fun bt398 => (some ((bt398.1 == 1), bt398.2))
set_option maxHeartbeats 8000000 in
set_option maxRecDepth 100000 in
theorem impl_IsSolved.calls (k : Nat) (a0_0 : Int) (A0_1 : Option Addr) (c0_1 : Nat) (l0_1 : List (S72)) (r1 : Bool) (r2 : Bool) (w : World) (hr0_1 : Kd.C k72 w A0_1 l0_1.length l0_1) (hc0_1 : l0_1.length ≤ c0_1) (h : impl_IsSolved.f k a0_0 l0_1 = some (r1, r2)) :
  Calls Tryz.prog 19 #[.agg #[.int .i64 a0_0, .slice A0_1 l0_1.length c0_1]] w fun e w' => e = .returned (.tuple #[.bool r1, .bool r2]) ∧ Below w.heap.size w w' := by
 have hu30 := Tryz.underlying30
 have HR0_1 := Aside0.mk hr0_1
 have HC0_1 := Aside0.mk hc0_1
 clear hr0_1 hc0_1
 have HB := Aside0.mk (Below.refl w.heap.size w)
 have H : ((impl_CountSolutions.f k a0_0 l0_1).bind fun bt398 => (some ((bt398.1 == 1), bt398.2))) = some (r1, r2) := h
 clear h
 replace H := Option.bind_eq_some_iff.mp H
 obtain ⟨⟨t398, t399⟩, A20, H⟩ := H
 replace H : (some ((t398 == 1), t399)) = some (r1, r2) := H
 have A2 := Aside0.mk A20
 clear A20
 simp only [Option.some.injEq, Prod.mk.injEq] at H
 obtain ⟨rfl, rfl⟩ := H
 go_enter Tryz.func19, Tryz.ntmps19
 go_wp2_with (first | ((with_reducible refine gate_dst (N := 1) rfl ?_); refine box_event ?hg (N := 1) ?hd (cs := #[.int .i64 a0_0, .slice A0_1 l0_1.length c0_1]) (t := 30) ?hr ?_; (case hd => rfl); (case hg => rfl); (case hr => first | (go_simp; done) | (go_simp; rfl)); intro gb397 hg w3 hbox hb; have n2_ := Aside0.mk ((by rw [hg]; exact (below_size (zh HB.out)) : w.heap.size ≤ gb397)); replace HB := Aside0.mk (below_step (zh HB.out) hb); have BK397 := Aside0.mk hbox; have GW397 := n2_; have GE397 := n2_; clear n2_ hb hbox hg; have hcz4_0 : w3.cell? ⟨gb397, 0, none⟩ = some (.int .i64 a0_0) := (blk_cell BK397.out 0).trans rfl; have hcz4_1 : w3.cell? ⟨gb397, 1, none⟩ = some (.slice A0_1 l0_1.length c0_1) := (blk_cell BK397.out 1).trans rfl; have hfz4_0 := blk_frozen BK397.out 0; have hfz4_1 := blk_frozen BK397.out 1) | ((with_reducible refine gate_callee (f := 16) rfl ?_); refine goesL_ (some 8) rfl rfl Tryz.func16 (by kernel_rfl) rfl #[.agg #[.int .i64 a0_0, .slice A0_1 l0_1.length c0_1]] rfl (by (try simp only [List.map_toArray, List.map_cons, List.map_nil]); first | done | rfl | (simp only [List.length_drop, List.length_take]; rfl)) ?_; (with_reducible refine (impl_CountSolutions.calls k a0_0 _ _ l0_1 t398 t399 _ ?side1 ?side2 A2.out).mono ?_); (case side1 => repeat (first | exact (Kd.C_below HR0_1.out HB.out) | (with_reducible refine Kd.C_alloc ?_ _) | (with_reducible refine Kd.C_drewN ?_ _) | (with_reducible refine Kd.C_drew ?_))); (case side2 => exact HC0_1.out); rintro e w5 ⟨rfl, hb⟩; refine ⟨_, rfl, ?_⟩; have n0_ := Aside0.mk (blk_below (g := gb397) (o := .cells #[.int .i64 a0_0, .slice A0_1 l0_1.length c0_1] 30 (0, 0)) (zb BK397.out) hb); have n1_ := Aside0.mk (below_step (zh HB.out) hb); clear BK397; clear HB; have BK397 := n0_; have HB := n1_; clear n0_ n1_; (try clear hb); (try clear hb2); (try clear hk); (try clear hi)))
 go_ret2
 exact ⟨by first | rfl | (simp [*, errW_none, errW_some] <;> rfl), zh HB.out⟩
def impl_HarderPuzzle.l0 : Nat → List (S72) → Int → Int → List (S72) → Option (Int × (List (S72)) × Bool)
 | 0, _, _, _, _ => none
 | k + 1, x6, x7, x630000, x630001 => if x7 < (x6.length : Int) then ((impl_without.f x6 x7).bind fun t636 => ((impl_solutions.f k x630000 t636).bind fun t639 => (if (t639.length : Int) = 1 then (impl_HarderPuzzle.l0 k t636 x7 x630000 x630001) else (impl_HarderPuzzle.l0 k x6 (wrap64 (x7 + 1)) x630000 x630001)))) else (some (x630000, x6, true))
def impl_HarderPuzzle.f (k : Nat) (a0_0 : Int) (l0_1 : List (S72)) : Option (Int × (List (S72)) × Bool) := (impl_IsSolved.f k a0_0 l0_1).bind fun bt631 => (if bt631.1 = true then ((impl_Clue_63.f l0_1).bind fun t633 => (impl_HarderPuzzle.l0 k t633 0 a0_0 l0_1)) else (some (0, ([] : List (S72)), false)))
set_option maxHeartbeats 8000000 in
set_option maxRecDepth 100000 in
theorem impl_HarderPuzzle.calls (k : Nat) (a0_0 : Int) (A0_1 : Option Addr) (c0_1 : Nat) (l0_1 : List (S72)) (r1 : Int) (r2 : List (S72)) (r3 : Bool) (w : World) (hr0_1 : Kd.C k72 w A0_1 l0_1.length l0_1) (hc0_1 : l0_1.length ≤ c0_1) (h : impl_HarderPuzzle.f k a0_0 l0_1 = some (r1, r2, r3)) :
  Calls Tryz.prog 31 #[.agg #[.int .i64 a0_0, .slice A0_1 l0_1.length c0_1]] w fun e w' => ∃ v1_ : Value, e = .returned (.tuple #[.agg #[.int .i64 r1, v1_], .bool r3]) ∧ Kd.R k72 72 w' w.heap.size (fun _ => True) v1_ r2 ∧ Below w.heap.size w w' := by
 have hu30 := Tryz.underlying30
 have HR0_1 := Aside0.mk hr0_1
 have HC0_1 := Aside0.mk hc0_1
 clear hr0_1 hc0_1
 have HB := Aside0.mk (Below.refl w.heap.size w)
 have H : ((impl_IsSolved.f k a0_0 l0_1).bind fun bt631 => (if bt631.1 = true then ((impl_Clue_63.f l0_1).bind fun t633 => (impl_HarderPuzzle.l0 k t633 0 a0_0 l0_1)) else (some (0, ([] : List (S72)), false)))) = some (r1, r2, r3) := h
 clear h
 replace H := Option.bind_eq_some_iff.mp H
 obtain ⟨⟨t631, t632⟩, A20, H⟩ := H
 replace H : (if t631 = true then ((impl_Clue_63.f l0_1).bind fun t633 => (impl_HarderPuzzle.l0 k t633 0 a0_0 l0_1)) else (some (0, ([] : List (S72)), false))) = some (r1, r2, r3) := H
 have A2 := Aside0.mk A20
 clear A20
 by_cases c3 : t631 = true
 rotate_left
 ·replace c3 := Bool.eq_false_iff.mpr c3
  subst c3
  have H1 : (some (0, ([] : List (S72)), false)) = some (r1, r2, r3) := by rw [if_neg (show ¬ (false = true) by decide)] at H; exact H
  clear H
  have H := H1
  clear H1
  simp only [Option.some.injEq, Prod.mk.injEq] at H
  obtain ⟨rfl, rfl, rfl⟩ := H
  go_enter Tryz.func31, Tryz.ntmps31
  go_wp2_with (first | ((with_reducible refine gate_dst (N := 1) rfl ?_); refine box_event ?hg (N := 1) ?hd (cs := #[.int .i64 a0_0, .slice A0_1 l0_1.length c0_1]) (t := 30) ?hr ?_; (case hd => rfl); (case hg => rfl); (case hr => first | (go_simp; done) | (go_simp; rfl)); intro gb629 hg w34 hbox hb; have n2_ := Aside0.mk ((by rw [hg]; exact (below_size (zh HB.out)) : w.heap.size ≤ gb629)); replace HB := Aside0.mk (below_step (zh HB.out) hb); have BK629 := Aside0.mk hbox; have GW629 := n2_; have GE629 := n2_; clear n2_ hb hbox hg) | ((with_reducible refine gate_dst (N := 2) rfl ?_); refine box_event ?hg (N := 2) ?hd (cs := #[.int .i64 0, .slice none 0 0]) (t := 30) ?hr ?_; (case hd => rfl); (case hg => rfl); (case hr => first | (go_simp; done) | (go_simp; rfl)); intro gb630 hg w35 hbox hb; have n0_ := Aside0.mk (blk_below (g := gb629) (o := .cells #[.int .i64 a0_0, .slice A0_1 l0_1.length c0_1] 30 (0, 0)) (zb BK629.out) hb); have n1_ := Aside0.mk (below_step (zh HB.out) hb); have n2_ := Aside0.mk (hbox); have n3_ := Aside0.mk ((by rw [hg]; exact (below_size (zh HB.out)) : w.heap.size ≤ gb630)); have n4_ := Aside0.mk ((by rw [hg]; exact (below_size (zh HB.out)) : w.heap.size ≤ gb630)); have n5_ := Aside0.mk ((by rw [hg]; exact Nat.ne_of_lt (blk_lt (g := gb629) (o := .cells #[.int .i64 a0_0, .slice A0_1 l0_1.length c0_1] 30 (0, 0)) (zb BK629.out)) : gb629 ≠ gb630)); have n6_ := Aside0.mk ((by rw [hg]; exact Nat.ne_of_gt (blk_lt (g := gb629) (o := .cells #[.int .i64 a0_0, .slice A0_1 l0_1.length c0_1] 30 (0, 0)) (zb BK629.out)) : gb630 ≠ gb629)); clear BK629; clear HB; have BK629 := n0_; have HB := n1_; have BK630 := n2_; have GW630 := n3_; have GE630 := n4_; have NB629_630 := n5_; have NB630_629 := n6_; clear n0_ n1_ n2_ n3_ n4_ n5_ n6_; clear hb hbox hg; have hnb36 := NB629_630.out; have hnc36 := NB630_629.out; have hcz37_0 : w35.cell? ⟨gb629, 0, none⟩ = some (.int .i64 a0_0) := (blk_cell BK629.out 0).trans rfl; have hcz37_1 : w35.cell? ⟨gb629, 1, none⟩ = some (.slice A0_1 l0_1.length c0_1) := (blk_cell BK629.out 1).trans rfl; have hfz37_0 := blk_frozen BK629.out 0; have hfz37_1 := blk_frozen BK629.out 1) | ((with_reducible refine gate_callee (f := 19) rfl ?_); refine goesL_ (some 11) rfl rfl Tryz.func19 (by kernel_rfl) rfl #[.agg #[.int .i64 a0_0, .slice A0_1 l0_1.length c0_1]] rfl (by (try simp only [List.map_toArray, List.map_cons, List.map_nil]); first | done | rfl | (simp only [List.length_drop, List.length_take]; rfl)) ?_; (with_reducible refine (impl_IsSolved.calls k a0_0 _ _ l0_1 false t632 _ ?side1 ?side2 A2.out).mono ?_); (case side1 => repeat (first | exact (Kd.C_below HR0_1.out HB.out) | (with_reducible refine Kd.C_alloc ?_ _) | (with_reducible refine Kd.C_drewN ?_ _) | (with_reducible refine Kd.C_drew ?_))); (case side2 => exact HC0_1.out); rintro e w38 ⟨rfl, hb⟩; refine ⟨_, rfl, ?_⟩; have n0_ := Aside0.mk (blk_below (g := gb629) (o := .cells #[.int .i64 a0_0, .slice A0_1 l0_1.length c0_1] 30 (0, 0)) (zb BK629.out) hb); have n1_ := Aside0.mk (blk_below (g := gb630) (o := .cells #[.int .i64 0, .slice none 0 0] 30 (0, 0)) (zb BK630.out) hb); have n2_ := Aside0.mk (below_step (zh HB.out) hb); clear BK629; clear BK630; clear HB; have BK629 := n0_; have BK630 := n1_; have HB := n2_; clear n0_ n1_ n2_; (try clear hb); (try clear hb2); (try clear hk); (try clear hi); have hcz39_0 : w38.cell? ⟨gb630, 0, none⟩ = some (.int .i64 0) := (blk_cell BK630.out 0).trans rfl; have hcz39_1 : w38.cell? ⟨gb630, 1, none⟩ = some (.slice none 0 0) := (blk_cell BK630.out 1).trans rfl; have hfz39_0 := blk_frozen BK630.out 0; have hfz39_1 := blk_frozen BK630.out 1))
  refine bodyPost_ret (results_ct rfl _ _ gb630 30 #[.int .i64 0, .slice none 0 0] (0, 0) _ rfl (by (with_reducible repeat (first | refine blk_drewN ?_ _ | refine blk_drew ?_ | refine blk_alloc ?_ _)); refine blk_put (cs := #[.int .i64 0, .slice none 0 0]) ?_ 1 _ rfl; (with_reducible repeat (first | refine blk_drewN ?_ _ | refine blk_drew ?_ | refine blk_alloc ?_ _)); refine blk_put (cs := #[.int .i64 0, .slice none 0 0]) ?_ 0 _ rfl; (with_reducible repeat (first | refine blk_drewN ?_ _ | refine blk_drew ?_ | refine blk_alloc ?_ _)); exact BK630.out) Tryz.underlying30 rfl (by kernel_rfl)) rfl ?_
  exact ⟨_, by first | rfl | (simp [*, errW_none, errW_some] <;> rfl), by first | exact Kd.R_nil _ _ _ _ _ | exact Kd.N_nil _ _ _ _ _ | exact Kd.V_nil _ _ _ _ _ | exact Kd.Q_nil _ _ _ _ _ | exact Kd.S_nil _ _ _ _ _, zh HB.out⟩
 subst c3
 have H1 : ((impl_Clue_63.f l0_1).bind fun t633 => (impl_HarderPuzzle.l0 k t633 0 a0_0 l0_1)) = some (r1, r2, r3) := by rw [if_pos rfl] at H; exact H
 clear H
 have H := H1
 clear H1
 replace H := Option.bind_eq_some_iff.mp H
 obtain ⟨t633, A40, H⟩ := H
 replace H : (impl_HarderPuzzle.l0 k t633 0 a0_0 l0_1) = some (r1, r2, r3) := H
 have A4 := Aside0.mk A40
 clear A40
 have H' := Aside0.mk H
 clear H
 go_enter Tryz.func31, Tryz.ntmps31
 go_wp2_with (first | ((with_reducible refine gate_dst (N := 1) rfl ?_); refine box_event ?hg (N := 1) ?hd (cs := #[.int .i64 a0_0, .slice A0_1 l0_1.length c0_1]) (t := 30) ?hr ?_; (case hd => rfl); (case hg => rfl); (case hr => first | (go_simp; done) | (go_simp; rfl)); intro gb629 hg w5 hbox hb; have n2_ := Aside0.mk ((by rw [hg]; exact (below_size (zh HB.out)) : w.heap.size ≤ gb629)); replace HB := Aside0.mk (below_step (zh HB.out) hb); have BK629 := Aside0.mk hbox; have GW629 := n2_; have GE629 := n2_; clear n2_ hb hbox hg) | ((with_reducible refine gate_dst (N := 2) rfl ?_); refine box_event ?hg (N := 2) ?hd (cs := #[.int .i64 0, .slice none 0 0]) (t := 30) ?hr ?_; (case hd => rfl); (case hg => rfl); (case hr => first | (go_simp; done) | (go_simp; rfl)); intro gb630 hg w6 hbox hb; have n0_ := Aside0.mk (blk_below (g := gb629) (o := .cells #[.int .i64 a0_0, .slice A0_1 l0_1.length c0_1] 30 (0, 0)) (zb BK629.out) hb); have n1_ := Aside0.mk (below_step (zh HB.out) hb); have n2_ := Aside0.mk (hbox); have n3_ := Aside0.mk ((by rw [hg]; exact (below_size (zh HB.out)) : w.heap.size ≤ gb630)); have n4_ := Aside0.mk ((by rw [hg]; exact (below_size (zh HB.out)) : w.heap.size ≤ gb630)); have n5_ := Aside0.mk ((by rw [hg]; exact Nat.ne_of_lt (blk_lt (g := gb629) (o := .cells #[.int .i64 a0_0, .slice A0_1 l0_1.length c0_1] 30 (0, 0)) (zb BK629.out)) : gb629 ≠ gb630)); have n6_ := Aside0.mk ((by rw [hg]; exact Nat.ne_of_gt (blk_lt (g := gb629) (o := .cells #[.int .i64 a0_0, .slice A0_1 l0_1.length c0_1] 30 (0, 0)) (zb BK629.out)) : gb630 ≠ gb629)); clear BK629; clear HB; have BK629 := n0_; have HB := n1_; have BK630 := n2_; have GW630 := n3_; have GE630 := n4_; have NB629_630 := n5_; have NB630_629 := n6_; clear n0_ n1_ n2_ n3_ n4_ n5_ n6_; clear hb hbox hg; have hnb7 := NB629_630.out; have hnc7 := NB630_629.out; have hcz8_0 : w6.cell? ⟨gb629, 0, none⟩ = some (.int .i64 a0_0) := (blk_cell BK629.out 0).trans rfl; have hcz8_1 : w6.cell? ⟨gb629, 1, none⟩ = some (.slice A0_1 l0_1.length c0_1) := (blk_cell BK629.out 1).trans rfl; have hfz8_0 := blk_frozen BK629.out 0; have hfz8_1 := blk_frozen BK629.out 1) | ((with_reducible refine gate_callee (f := 19) rfl ?_); refine goesL_ (some 11) rfl rfl Tryz.func19 (by kernel_rfl) rfl #[.agg #[.int .i64 a0_0, .slice A0_1 l0_1.length c0_1]] rfl (by (try simp only [List.map_toArray, List.map_cons, List.map_nil]); first | done | rfl | (simp only [List.length_drop, List.length_take]; rfl)) ?_; (with_reducible refine (impl_IsSolved.calls k a0_0 _ _ l0_1 true t632 _ ?side1 ?side2 A2.out).mono ?_); (case side1 => repeat (first | exact (Kd.C_below HR0_1.out HB.out) | (with_reducible refine Kd.C_alloc ?_ _) | (with_reducible refine Kd.C_drewN ?_ _) | (with_reducible refine Kd.C_drew ?_))); (case side2 => exact HC0_1.out); rintro e w9 ⟨rfl, hb⟩; refine ⟨_, rfl, ?_⟩; have n0_ := Aside0.mk (blk_below (g := gb629) (o := .cells #[.int .i64 a0_0, .slice A0_1 l0_1.length c0_1] 30 (0, 0)) (zb BK629.out) hb); have n1_ := Aside0.mk (blk_below (g := gb630) (o := .cells #[.int .i64 0, .slice none 0 0] 30 (0, 0)) (zb BK630.out) hb); have n2_ := Aside0.mk (below_step (zh HB.out) hb); clear BK629; clear BK630; clear HB; have BK629 := n0_; have BK630 := n1_; have HB := n2_; clear n0_ n1_ n2_; (try clear hb); (try clear hb2); (try clear hk); (try clear hi); have hcz10_0 : w9.cell? ⟨gb629, 0, none⟩ = some (.int .i64 a0_0) := (blk_cell BK629.out 0).trans rfl; have hcz10_1 : w9.cell? ⟨gb629, 1, none⟩ = some (.slice A0_1 l0_1.length c0_1) := (blk_cell BK629.out 1).trans rfl; have hfz10_0 := blk_frozen BK629.out 0; have hfz10_1 := blk_frozen BK629.out 1) | ((with_reducible refine gate_callee (f := 63) rfl ?_); refine goesL_ (some 19) rfl rfl Tryz.func63 (by kernel_rfl) rfl #[.slice A0_1 l0_1.length c0_1] rfl (by (try simp only [List.map_toArray, List.map_cons, List.map_nil]); first | done | rfl | (simp only [List.length_drop, List.length_take]; rfl)) ?_; (with_reducible refine (impl_Clue_63.calls _ _ l0_1 t633 _ ?side1 ?side2 A4.out).mono ?_); (case side1 => repeat (first | exact (Kd.C_below HR0_1.out HB.out) | (with_reducible refine Kd.C_alloc ?_ _) | (with_reducible refine Kd.C_drewN ?_ _) | (with_reducible refine Kd.C_drew ?_))); (case side2 => exact HC0_1.out); rintro e w11 ⟨v634, rfl, ho0, hb⟩; refine ⟨_, rfl, ?_⟩; have n0_ := Aside0.mk (Kd.R_lower ho0 (below_size (zh HB.out))); have n1_ := Aside0.mk (blk_below (g := gb629) (o := .cells #[.int .i64 a0_0, .slice A0_1 l0_1.length c0_1] 30 (0, 0)) (zb BK629.out) hb); have n2_ := Aside0.mk (blk_below (g := gb630) (o := .cells #[.int .i64 0, .slice none 0 0] 30 (0, 0)) (zb BK630.out) hb); have n3_ := Aside0.mk (below_step (zh HB.out) hb); clear BK629; clear BK630; clear HB; have HO635 := n0_; have BK629 := n1_; have BK630 := n2_; have HB := n3_; clear n0_ n1_ n2_ n3_; (try clear hb); (try clear hb2); (try clear hk); (try clear hi); (try clear ho0)))
 go_loopg [6, 7] k (fun kq v6 v7 w' => ∃ (x6_1 : List (S72)) (x7_1 : Int), v7 = .int .i64 x7_1 ∧ Aside0 (impl_HarderPuzzle.l0 kq x6_1 x7_1 a0_0 l0_1 = some (r1, r2, r3)) ∧ Aside0 (kq ≤ k) ∧ Aside0 (Kd.R k72 72 w' w.heap.size (fun _ => True) v6 x6_1) ∧ Aside0 (w'.heap[gb629]? = some (.cells #[.int .i64 a0_0, (.slice A0_1 l0_1.length c0_1)] 30 (0, 0))) ∧ Aside0 (w'.heap[gb630]? = some (.cells #[.int .i64 0, (.slice none 0 0)] 30 (0, 0))) ∧ Aside0 (Below w.heap.size w w'))
 case atStart => exact ⟨(t633), (0), (by first | rfl | (simp; done) | (simp [*]; done)), H', ⟨Nat.le_refl _⟩, ⟨zr HO635.out⟩, ⟨zb BK629.out⟩, ⟨zb BK630.out⟩, ⟨zh HB.out⟩⟩
 case round =>
  clear H'
  try clear c1
  try clear p2
  try clear c3
  try clear c6
  try clear c7
  try clear hcz10_0
  try clear hcz10_1
  try clear hcz8_0
  try clear hcz8_1
  try clear hfz10_0
  try clear hfz10_1
  try clear hfz8_0
  try clear hfz8_1
  obtain ⟨x6_1, x7_1, rfl, HA, HK1, HO_6, BK629, BK630, HB⟩ := hrel
  cases gk with
  | zero => exact absurd HA.out (by simp [impl_HarderPuzzle.l0])
  | succ k1 =>
   have H := HA.out
   clear HA
   simp only [impl_HarderPuzzle.l0] at H
   by_cases c12 : x7_1 < (x6_1.length : Int)
   rotate_left
   ·rw [if_neg c12] at H
    have c12b0 : decide (x7_1 < (x6_1.length : Int)) = false := decide_eq_false c12
    clear c12
    simp only [Option.some.injEq, Prod.mk.injEq] at H
    obtain ⟨rfl, rfl, rfl⟩ := H
    obtain ⟨Ao30, co30, eo30⟩ := Kd.R_slice HO_6.out
    subst eo30
    have hnb31 := NB629_630.out
    have hnc31 := NB630_629.out
    have hcz32_0 : wr.cell? ⟨gb629, 0, none⟩ = some (.int .i64 a0_0) := (blk_cell BK629.out 0).trans rfl
    have hcz32_1 : wr.cell? ⟨gb629, 1, none⟩ = some (.slice A0_1 l0_1.length c0_1) := (blk_cell BK629.out 1).trans rfl
    have hfz32_0 := blk_frozen BK629.out 0
    have hfz32_1 := blk_frozen BK629.out 1
    have hcz33_0 : wr.cell? ⟨gb630, 0, none⟩ = some (.int .i64 0) := (blk_cell BK630.out 0).trans rfl
    have hcz33_1 : wr.cell? ⟨gb630, 1, none⟩ = some (.slice none 0 0) := (blk_cell BK630.out 1).trans rfl
    have hfz33_0 := blk_frozen BK630.out 0
    have hfz33_1 := blk_frozen BK630.out 1
    go_wp2
    refine bodyPost_ret (results_ct rfl _ _ gb630 30 #[.int .i64 a0_0, .slice Ao30 x6_1.length co30] (0, 0) _ rfl (by (with_reducible repeat (first | refine blk_drewN ?_ _ | refine blk_drew ?_ | refine blk_alloc ?_ _)); refine blk_put (cs := #[.int .i64 a0_0, .slice none 0 0]) ?_ 1 _ rfl; (with_reducible repeat (first | refine blk_drewN ?_ _ | refine blk_drew ?_ | refine blk_alloc ?_ _)); refine blk_put (cs := #[.int .i64 0, .slice none 0 0]) ?_ 0 _ rfl; (with_reducible repeat (first | refine blk_drewN ?_ _ | refine blk_drew ?_ | refine blk_alloc ?_ _)); exact BK630.out) Tryz.underlying30 rfl (by kernel_rfl)) rfl ?_
    exact ⟨_, by first | rfl | (simp [*, errW_none, errW_some] <;> rfl), by (with_reducible repeat (first | apply Kd.R_alloc | apply Kd.R_drewN | apply Kd.R_drew)); exact Kd.R_mono (Kd.R_far (p := ⟨gb630, 1, none⟩) (Kd.R_far (p := ⟨gb630, 0, none⟩) (Kd.R_types HO_6.out BK630.out (by decide)) (fun _ hk => hk.2) (.int .i64 a0_0)) (fun _ hk => hk.2) (.slice Ao30 x6_1.length co30)) (fun _ hk => trivial), zh HB.out⟩
   rw [if_pos c12] at H
   have c12b0 : decide (x7_1 < (x6_1.length : Int)) = true := decide_eq_true c12
   clear c12
   replace H := Option.bind_eq_some_iff.mp H
   obtain ⟨t636, A130, H⟩ := H
   replace H : ((impl_solutions.f k1 a0_0 t636).bind fun t639 => (if (t639.length : Int) = 1 then (impl_HarderPuzzle.l0 k1 t636 x7_1 a0_0 l0_1) else (impl_HarderPuzzle.l0 k1 x6_1 (wrap64 (x7_1 + 1)) a0_0 l0_1))) = some (r1, r2, r3) := H
   have A13 := Aside0.mk A130
   clear A130
   replace H := Option.bind_eq_some_iff.mp H
   obtain ⟨t639, A140, H⟩ := H
   replace H : (if (t639.length : Int) = 1 then (impl_HarderPuzzle.l0 k1 t636 x7_1 a0_0 l0_1) else (impl_HarderPuzzle.l0 k1 x6_1 (wrap64 (x7_1 + 1)) a0_0 l0_1)) = some (r1, r2, r3) := H
   have A14 := Aside0.mk A140
   clear A140
   by_cases c15 : (t639.length : Int) = 1
   rotate_left
   ·rw [if_neg c15] at H
    have c15b0 : ((t639.length : Int) == 1) = false := beq_eq_false_iff_ne.mpr c15
    have c15b1 : ((t639.length : Int) != 1) = true := bne_iff_ne.mpr c15
    have H' := Aside0.mk H
    clear H
    obtain ⟨Ao23, co23, eo23⟩ := Kd.R_slice HO_6.out
    subst eo23
    go_wp2_with (first | ((with_reducible refine gate_callee (f := 62) rfl ?_); refine goesL_ (some 26) rfl rfl Tryz.func62 (by kernel_rfl) rfl #[.slice Ao23 x6_1.length co23, .int .i64 x7_1] rfl (by (try simp only [List.map_toArray, List.map_cons, List.map_nil]); first | done | rfl | (simp only [List.length_drop, List.length_take]; rfl)) ?_; (with_reducible refine (impl_without.calls _ _ x6_1 x7_1 t636 _ ?side1 ?side2 A13.out).mono ?_); (case side1 => repeat (first | exact (Kd.R_reads' HO_6.out).2.2 | (with_reducible refine Kd.C_alloc ?_ _) | (with_reducible refine Kd.C_drewN ?_ _) | (with_reducible refine Kd.C_drew ?_))); (case side2 => exact (Kd.R_reads' HO_6.out).2.1); rintro e w24 ⟨v637, rfl, ho0, hb⟩; refine ⟨_, rfl, ?_⟩; have n0_ := Aside0.mk (Kd.R_elder' (zr HO_6.out) (Kd.R_base ho0) hb); have n1_ := Aside0.mk (Kd.R_lower (Kd.R_new' ho0 (Kd.R_lt (zr HO_6.out))) (below_size (zh HB.out))); have n2_ := Aside0.mk (blk_below (g := gb629) (o := .cells #[.int .i64 a0_0, .slice A0_1 l0_1.length c0_1] 30 (0, 0)) (zb BK629.out) hb); have n3_ := Aside0.mk (blk_below (g := gb630) (o := .cells #[.int .i64 0, .slice none 0 0] 30 (0, 0)) (zb BK630.out) hb); have n4_ := Aside0.mk (below_step (zh HB.out) hb); clear HO_6; clear BK629; clear BK630; clear HB; have HO_6 := n0_; have HO638 := n1_; have BK629 := n2_; have BK630 := n3_; have HB := n4_; clear n0_ n1_ n2_ n3_ n4_; (try clear hb); (try clear hb2); (try clear hk); (try clear hi); (try clear ho0); have hnb25 := NB629_630.out; have hnc25 := NB630_629.out; have hcz26_0 : w24.cell? ⟨gb629, 0, none⟩ = some (.int .i64 a0_0) := (blk_cell BK629.out 0).trans rfl; have hcz26_1 : w24.cell? ⟨gb629, 1, none⟩ = some (.slice A0_1 l0_1.length c0_1) := (blk_cell BK629.out 1).trans rfl; have hfz26_0 := blk_frozen BK629.out 0; have hfz26_1 := blk_frozen BK629.out 1; obtain ⟨Ao27, co27, eo27⟩ := Kd.R_slice HO638.out; subst eo27) | ((with_reducible refine gate_callee (f := 57) rfl ?_); refine goesL_ (some 30) rfl rfl Tryz.func57 (by kernel_rfl) rfl #[.int .i64 a0_0, .slice Ao27 t636.length co27] rfl (by (try simp only [List.map_toArray, List.map_cons, List.map_nil]); first | done | rfl | (simp only [List.length_drop, List.length_take]; rfl)) ?_; (with_reducible refine (impl_solutions.calls k1 a0_0 _ _ t636 t639 _ ?side1 ?side2 A14.out).mono ?_); (case side1 => repeat (first | exact (Kd.R_reads' HO638.out).2.2 | (with_reducible refine Kd.C_alloc ?_ _) | (with_reducible refine Kd.C_drewN ?_ _) | (with_reducible refine Kd.C_drew ?_))); (case side2 => exact (Kd.R_reads' HO638.out).2.1); rintro e w28 ⟨v640, rfl, ho0, hb⟩; refine ⟨_, rfl, ?_⟩; have n0_ := Aside0.mk (Kd.R_below (zr HO_6.out) hb); have n1_ := Aside0.mk (Kd.R_below (zr HO638.out) hb); have n2_ := Aside0.mk (Kd.V_lower (Kd.V_mono (ok' := fun k_ => some k_ ≠ (.slice Ao23 x6_1.length co23 : Value).ownBlock ∧ some k_ ≠ (.slice Ao27 t636.length co27 : Value).ownBlock ∧ k_ ≠ gb629 ∧ k_ ≠ gb630) ho0 (fun k_ hk_ => ⟨(Kd.fresh' (Kd.R_lt (zr HO_6.out)) k_ hk_), (Kd.fresh' (Kd.R_lt (zr HO638.out)) k_ hk_), (Kd.freshB (g := gb629) (o := .cells #[.int .i64 a0_0, .slice A0_1 l0_1.length c0_1] 30 (0, 0)) (zb BK629.out) k_ hk_), (Kd.freshB (g := gb630) (o := .cells #[.int .i64 0, .slice none 0 0] 30 (0, 0)) (zb BK630.out) k_ hk_)⟩)) (below_size (zh HB.out))); have n3_ := Aside0.mk (blk_below (g := gb629) (o := .cells #[.int .i64 a0_0, .slice A0_1 l0_1.length c0_1] 30 (0, 0)) (zb BK629.out) hb); have n4_ := Aside0.mk (blk_below (g := gb630) (o := .cells #[.int .i64 0, .slice none 0 0] 30 (0, 0)) (zb BK630.out) hb); have n5_ := Aside0.mk (below_step (zh HB.out) hb); clear HO_6; clear HO638; clear BK629; clear BK630; clear HB; have HO_6 := n0_; have HO638 := n1_; have HO641 := n2_; have BK629 := n3_; have BK630 := n4_; have HB := n5_; clear n0_ n1_ n2_ n3_ n4_ n5_; (try clear hb); (try clear hb2); (try clear hk); (try clear hi); (try clear ho0); obtain ⟨Ao29, co29, eo29⟩ := Kd.V_slice HO641.out; subst eo29))
    go_roundg k1
    case measure => have := HK1.out; omega
    case rel => exact ⟨(x6_1), (wrap64 (x7_1 + 1)), (by first | rfl | (simp; done) | (simp [*]; done)), H', ⟨by have := HK1.out; omega⟩, ⟨by (with_reducible repeat (first | apply Kd.R_alloc | apply Kd.R_drewN | apply Kd.R_drew)); exact Kd.R_mono HO_6.out (fun _ hk => trivial)⟩, ⟨zb BK629.out⟩, ⟨zb BK630.out⟩, ⟨zh HB.out⟩⟩
   rw [if_pos c15] at H
   have c15b0 : ((t639.length : Int) == 1) = true := beq_iff_eq.mpr c15
   have c15b1 : ((t639.length : Int) != 1) = false := bne_eq_false_iff_eq.mpr c15
   clear c15
   have H' := Aside0.mk H
   clear H
   obtain ⟨Ao16, co16, eo16⟩ := Kd.R_slice HO_6.out
   subst eo16
   go_wp2_with (first | ((with_reducible refine gate_callee (f := 62) rfl ?_); refine goesL_ (some 26) rfl rfl Tryz.func62 (by kernel_rfl) rfl #[.slice Ao16 x6_1.length co16, .int .i64 x7_1] rfl (by (try simp only [List.map_toArray, List.map_cons, List.map_nil]); first | done | rfl | (simp only [List.length_drop, List.length_take]; rfl)) ?_; (with_reducible refine (impl_without.calls _ _ x6_1 x7_1 t636 _ ?side1 ?side2 A13.out).mono ?_); (case side1 => repeat (first | exact (Kd.R_reads' HO_6.out).2.2 | (with_reducible refine Kd.C_alloc ?_ _) | (with_reducible refine Kd.C_drewN ?_ _) | (with_reducible refine Kd.C_drew ?_))); (case side2 => exact (Kd.R_reads' HO_6.out).2.1); rintro e w17 ⟨v637, rfl, ho0, hb⟩; refine ⟨_, rfl, ?_⟩; have n0_ := Aside0.mk (Kd.R_elder' (zr HO_6.out) (Kd.R_base ho0) hb); have n1_ := Aside0.mk (Kd.R_lower (Kd.R_new' ho0 (Kd.R_lt (zr HO_6.out))) (below_size (zh HB.out))); have n2_ := Aside0.mk (blk_below (g := gb629) (o := .cells #[.int .i64 a0_0, .slice A0_1 l0_1.length c0_1] 30 (0, 0)) (zb BK629.out) hb); have n3_ := Aside0.mk (blk_below (g := gb630) (o := .cells #[.int .i64 0, .slice none 0 0] 30 (0, 0)) (zb BK630.out) hb); have n4_ := Aside0.mk (below_step (zh HB.out) hb); clear HO_6; clear BK629; clear BK630; clear HB; have HO_6 := n0_; have HO638 := n1_; have BK629 := n2_; have BK630 := n3_; have HB := n4_; clear n0_ n1_ n2_ n3_ n4_; (try clear hb); (try clear hb2); (try clear hk); (try clear hi); (try clear ho0); have hnb18 := NB629_630.out; have hnc18 := NB630_629.out; have hcz19_0 : w17.cell? ⟨gb629, 0, none⟩ = some (.int .i64 a0_0) := (blk_cell BK629.out 0).trans rfl; have hcz19_1 : w17.cell? ⟨gb629, 1, none⟩ = some (.slice A0_1 l0_1.length c0_1) := (blk_cell BK629.out 1).trans rfl; have hfz19_0 := blk_frozen BK629.out 0; have hfz19_1 := blk_frozen BK629.out 1; obtain ⟨Ao20, co20, eo20⟩ := Kd.R_slice HO638.out; subst eo20) | ((with_reducible refine gate_callee (f := 57) rfl ?_); refine goesL_ (some 30) rfl rfl Tryz.func57 (by kernel_rfl) rfl #[.int .i64 a0_0, .slice Ao20 t636.length co20] rfl (by (try simp only [List.map_toArray, List.map_cons, List.map_nil]); first | done | rfl | (simp only [List.length_drop, List.length_take]; rfl)) ?_; (with_reducible refine (impl_solutions.calls k1 a0_0 _ _ t636 t639 _ ?side1 ?side2 A14.out).mono ?_); (case side1 => repeat (first | exact (Kd.R_reads' HO638.out).2.2 | (with_reducible refine Kd.C_alloc ?_ _) | (with_reducible refine Kd.C_drewN ?_ _) | (with_reducible refine Kd.C_drew ?_))); (case side2 => exact (Kd.R_reads' HO638.out).2.1); rintro e w21 ⟨v640, rfl, ho0, hb⟩; refine ⟨_, rfl, ?_⟩; have n0_ := Aside0.mk (Kd.R_below (zr HO_6.out) hb); have n1_ := Aside0.mk (Kd.R_below (zr HO638.out) hb); have n2_ := Aside0.mk (Kd.V_lower (Kd.V_mono (ok' := fun k_ => some k_ ≠ (.slice Ao16 x6_1.length co16 : Value).ownBlock ∧ some k_ ≠ (.slice Ao20 t636.length co20 : Value).ownBlock ∧ k_ ≠ gb629 ∧ k_ ≠ gb630) ho0 (fun k_ hk_ => ⟨(Kd.fresh' (Kd.R_lt (zr HO_6.out)) k_ hk_), (Kd.fresh' (Kd.R_lt (zr HO638.out)) k_ hk_), (Kd.freshB (g := gb629) (o := .cells #[.int .i64 a0_0, .slice A0_1 l0_1.length c0_1] 30 (0, 0)) (zb BK629.out) k_ hk_), (Kd.freshB (g := gb630) (o := .cells #[.int .i64 0, .slice none 0 0] 30 (0, 0)) (zb BK630.out) k_ hk_)⟩)) (below_size (zh HB.out))); have n3_ := Aside0.mk (blk_below (g := gb629) (o := .cells #[.int .i64 a0_0, .slice A0_1 l0_1.length c0_1] 30 (0, 0)) (zb BK629.out) hb); have n4_ := Aside0.mk (blk_below (g := gb630) (o := .cells #[.int .i64 0, .slice none 0 0] 30 (0, 0)) (zb BK630.out) hb); have n5_ := Aside0.mk (below_step (zh HB.out) hb); clear HO_6; clear HO638; clear BK629; clear BK630; clear HB; have HO_6 := n0_; have HO638 := n1_; have HO641 := n2_; have BK629 := n3_; have BK630 := n4_; have HB := n5_; clear n0_ n1_ n2_ n3_ n4_ n5_; (try clear hb); (try clear hb2); (try clear hk); (try clear hi); (try clear ho0); obtain ⟨Ao22, co22, eo22⟩ := Kd.V_slice HO641.out; subst eo22))
   go_roundg k1
   case measure => have := HK1.out; omega
   case rel => exact ⟨(t636), (x7_1), (by first | rfl | (simp; done) | (simp [*]; done)), H', ⟨by have := HK1.out; omega⟩, ⟨by (with_reducible repeat (first | apply Kd.R_alloc | apply Kd.R_drewN | apply Kd.R_drew)); exact Kd.R_mono HO638.out (fun _ hk => trivial)⟩, ⟨zb BK629.out⟩, ⟨zb BK630.out⟩, ⟨zh HB.out⟩⟩
end Go.Proofs.YtgjakcpbfbfejaaGreat.Q
end
section
namespace Go.Proofs.YtgjakcpbfbfejaaGreat.Q
open Go.RowKit Go.Proofs.YtgjakcpbfbfejaaGreatW.PrintWords Go.Proofs.YtgjakcpbfbfejaaGreatW.PrintLast Go.Proofs.YtgjakcpbfbfejaaGreatW.PrintMore
set_option linter.unusedVariables false
set_option linter.unusedSimpArgs false
theorem stHeldHarderPuzzle (k : Nat) {B : Option Addr} {d n : Nat} {y : List (S72)} (a q : Int) (W : World) (h : n = y.length ∧ n ≤ d ∧ Kd.C k72 W B y.length y) (h2 : laws_heldPuzzle.f k a y 1 = some q) :
    Calls Tryz.prog 32 #[.agg #[.int .i64 a, .slice B n d], .int .i64 1] W fun e w' => e = .returned (.int .i64 q) ∧ Below W.heap.size W w' := by
  obtain ⟨rfl, h1, hC⟩ := h
  exact laws_heldPuzzle.calls k a B d y 1 q W hC h1 h2
def laws_FnExactHarderPuzzle.f (k : Nat) (a : Int) (l : List (S79)) : Option Bool :=
  (laws_szPuzzle.f a l 1048576).bind fun q => if q < 0 then some true else (laws_toPuzzle.f k a l).bind fun p => (spec_HarderPuzzle.f k p.1 p.2).bind fun s => (impl_HarderPuzzle.f k p.1 p.2).bind fun g => (laws_eqPuzzle.f k g.1 g.2.1 s.1 s.2.1).bind fun t => if t = true then (if g.2.2 = s.2.2 then (laws_eqPuzzle.f k p.1 p.2 p.1 p.2).bind fun e => if e = true then (laws_markPuzzle.f k p.1 p.2 1).bind fun x => if x.1 < 0 then none else (laws_markPuzzle.f k g.1 g.2.1 1).bind fun n => (laws_heldPuzzle.f k g.1 n.2 1).bind fun q => if q < 0 then none else if q = n.1 then some true else none else none else none) else none
set_option maxRecDepth 100000 in
set_option maxHeartbeats 8000000 in
theorem laws_FnExactHarderPuzzle_walk (k : Nat) (a : Int) (A : Option Addr) (c : Nat) (l : List (S79)) (r : Bool) (w : World) (hC0 : Kd.C k79 w A l.length l) (hc : l.length ≤ c) (h : laws_FnExactHarderPuzzle.f k a l = some r) :
    Calls Tryz.prog 8 #[.agg #[.int .i64 a, .slice A l.length c]] w fun e w' => e = .returned (.bool r) ∧ Below w.heap.size w w' := by
  have HC := Aside0.mk hC0
  have u1 := Tryz.underlying24
  have u2 := Tryz.underlying30
  clear hC0
  replace h := Option.bind_eq_some_iff.mp h
  obtain ⟨q0, hq0, h⟩ := h
  have HQ0 := Aside0.mk hq0
  clear hq0
  by_cases c0 : q0 < 0
  · rw [if_pos c0] at h
    obtain rfl := Option.some.inj h
    have c0b : decide (q0 < 0) = true := decide_eq_true c0
    clear h
    go_enter Tryz.func8, Tryz.ntmps8
    go_wp2_with (go_at_call 13; refine (laws_szPuzzle.calls a A c l 1048576 q0 _ ?hC hc HQ0.out).mono ?_; (case hC => exact Kd.C_alloc HC.out _); rintro e u1_ ⟨rfl, hb⟩; have BA := Aside0.mk (blk_below (blk_new w (.cells #[.int .i64 a, .slice A l.length c] 24 (0, 0))) hb); have HB0 := Aside0.mk (((Below.refl w.heap.size w).alloc (Nat.le_refl _) (.cells #[.int .i64 a, .slice A l.length c] 24 (0, 0))).trans (hb.mono (by simp))); clear hb; have hA0 := (blk_cell BA.out 0).trans rfl; have hA1 := (blk_cell BA.out 1).trans rfl)
    go_ret
    exact ⟨rfl, HB0.out⟩
  rw [if_neg c0] at h
  have c0b : decide (q0 < 0) = false := decide_eq_false c0
  replace h := Option.bind_eq_some_iff.mp h
  obtain ⟨⟨m, p⟩, hp, h⟩ := h
  replace h := Option.bind_eq_some_iff.mp h
  obtain ⟨⟨si, s, sb⟩, hs, h⟩ := h
  replace h := Option.bind_eq_some_iff.mp h
  obtain ⟨⟨gi, g, gb⟩, hg, h⟩ := h
  replace h := Option.bind_eq_some_iff.mp h
  obtain ⟨t, ht, h⟩ := h
  dsimp only at hs hg ht h
  by_cases c1 : t = true
  case neg => rw [if_neg c1] at h; cases h
  rw [if_pos c1] at h
  subst c1
  by_cases c2 : gb = sb
  case neg => rw [if_neg c2] at h; cases h
  rw [if_pos c2] at h
  subst c2
  replace h := Option.bind_eq_some_iff.mp h
  obtain ⟨t, hep, h⟩ := h
  by_cases c1 : t = true
  case neg => rw [if_neg c1] at h; cases h
  rw [if_pos c1] at h
  subst c1
  replace h := Option.bind_eq_some_iff.mp h
  obtain ⟨⟨x1, xm⟩, hx, h⟩ := h
  dsimp only at hep hx h
  by_cases c3 : x1 < 0
  case pos => rw [if_pos c3] at h; cases h
  rw [if_neg c3] at h
  have c3b : decide (x1 < 0) = false := decide_eq_false c3
  replace h := Option.bind_eq_some_iff.mp h
  obtain ⟨⟨n1, nm⟩, hn, h⟩ := h
  replace h := Option.bind_eq_some_iff.mp h
  obtain ⟨q, hh, h⟩ := h
  dsimp only at hn hh h
  by_cases c4 : q < 0
  case pos => rw [if_pos c4] at h; cases h
  rw [if_neg c4] at h
  have c4b : decide (q < 0) = false := decide_eq_false c4
  by_cases c5 : q = n1
  case neg => rw [if_neg c5] at h; cases h
  rw [if_pos c5] at h
  subst c5
  obtain rfl := Option.some.inj h
  have gg : (gb != gb) = false := by simp
  have HP := Aside0.mk hp
  have HS := Aside0.mk hs
  have HG := Aside0.mk hg
  have HT := Aside0.mk ht
  have HE := Aside0.mk hep
  have HX := Aside0.mk hx
  have HN := Aside0.mk hn
  have HH := Aside0.mk hh
  clear h hp hs hg ht hep hx hn hh
  go_enter Tryz.func8, Tryz.ntmps8
  go_wp2_with (go_at_call 13; refine (laws_szPuzzle.calls a A c l 1048576 q0 _ ?hC hc HQ0.out).mono ?_; (case hC => exact Kd.C_alloc HC.out _); rintro e u1_ ⟨rfl, hb⟩; have BA := Aside0.mk (blk_below (blk_new w (.cells #[.int .i64 a, .slice A l.length c] 24 (0, 0))) hb); have HB0 := Aside0.mk (((Below.refl w.heap.size w).alloc (Nat.le_refl _) (.cells #[.int .i64 a, .slice A l.length c] 24 (0, 0))).trans (hb.mono (by simp))); clear hb; have hA0 := (blk_cell BA.out 0).trans rfl; have hA1 := (blk_cell BA.out 1).trans rfl)
  go_wp2_with (go_at_call 15; refine (laws_toPuzzle.calls k a A c l m p _ (Kd.C_below HC.out HB0.out) hc HP.out).mono ?_; rintro e u2_ ⟨v, rfl, hR, hb⟩; obtain ⟨D, d, rfl⟩ := Kd.R_slice hR; have HD := Aside0.mk (Kd.R_reads' hR); clear hR; have nBA_ := Aside0.mk (blk_below BA.out hb); have nHB0_ := Aside0.mk (HB0.out.trans (hb.mono HB0.out.size)); clear hA0 hA1; clear BA HB0; have BA := nBA_; have HB0 := nHB0_; clear hb nBA_ nHB0_; have hA0 := (blk_cell BA.out 0).trans rfl; have hA1 := (blk_cell BA.out 1).trans rfl)
  go_wp2_with (go_at_call 30; refine (spec_HarderPuzzle.calls k m D d p si s gb _ HD.out.2.2 HD.out.2.1 HS.out).mono ?_; rintro e w1 ⟨v, rfl, hV, hb⟩; obtain ⟨As, cs, rfl⟩ := Kd.R_slice hV; have HW := Aside0.mk (Kd.R_reads' hV); clear HD hV; have nBA_ := Aside0.mk (blk_below BA.out hb); have nHB0_ := Aside0.mk (HB0.out.trans (hb.mono HB0.out.size)); clear hA0 hA1; clear BA HB0; have BA := nBA_; have HB0 := nHB0_; clear hb nBA_ nHB0_; have hA0 := (blk_cell BA.out 0).trans rfl; have hA1 := (blk_cell BA.out 1).trans rfl; have HA := Aside0.mk (blk_lt BA.out); have HCA := Aside0.mk (Kd.C_below HC.out HB0.out); have nBA_ := Aside0.mk (blk_alloc BA.out (.cells #[.int .i64 si, .slice As s.length cs] 30 (0, 0))); clear BA; have BA := nBA_; clear nBA_ hA0 hA1; have BW := Aside0.mk (blk_new w1 (.cells #[.int .i64 si, .slice As s.length cs] 30 (0, 0))); have hA0 := (blk_cell BA.out 0).trans rfl; have hA1 := (blk_cell BA.out 1).trans rfl; have hW0 := (blk_cell BW.out 0).trans rfl; have hW1 := (blk_cell BW.out 1).trans rfl)
  go_wp2_with (go_at_call 15; refine (laws_toPuzzle.calls k a A c l m p _ (Kd.C_alloc HCA.out _) hc HP.out).mono ?_; rintro e w2 ⟨v, rfl, hR, hb⟩; obtain ⟨X, cx, rfl⟩ := Kd.R_slice hR; have HX0 := Aside0.mk hR; have B1 := Aside0.mk (((Below.refl w1.heap.size w1).alloc (Nat.le_refl _) (.cells #[.int .i64 si, .slice As s.length cs] 30 (0, 0))).trans (hb.mono (by simp))); have HZ0 := Aside0.mk (show w1.heap.size + 1 ≤ w2.heap.size from Nat.le_trans (by simp) hb.size); have nBA_ := Aside0.mk (blk_alloc (blk_below BA.out hb) (.cells #[.int .i64 m, .slice X p.length cx] 30 (0, 0))); have nBW_ := Aside0.mk (blk_alloc (blk_below BW.out hb) (.cells #[.int .i64 m, .slice X p.length cx] 30 (0, 0))); clear hA0 hA1 hW0 hW1; clear BA BW hb hR; have BA := nBA_; have BW := nBW_; clear nBA_ nBW_; have BX := Aside0.mk (blk_new w2 (.cells #[.int .i64 m, .slice X p.length cx] 30 (0, 0))); have hA0 := (blk_cell BA.out 0).trans rfl; have hA1 := (blk_cell BA.out 1).trans rfl; have hW0 := (blk_cell BW.out 0).trans rfl; have hW1 := (blk_cell BW.out 1).trans rfl; have hX0 := (blk_cell BX.out 0).trans rfl; have hX1 := (blk_cell BX.out 1).trans rfl)
  go_wp2_with (go_at_call 31; refine (impl_HarderPuzzle.calls k m X cx p gi g gb _ (Kd.C_alloc (Kd.R_reads' HX0.out).2.2 _) (Kd.R_reads' HX0.out).2.1 HG.out).mono ?_; rintro e w3 ⟨v, rfl, hS, hb⟩; obtain ⟨G, cg, rfl⟩ := Kd.R_slice hS; have nHX0_ := Aside0.mk (Kd.R_alloc (Kd.R_below (Kd.R_mono (Kd.R_bound (Kd.R_alloc HX0.out (.cells #[.int .i64 m, .slice X p.length cx] 30 (0, 0)))) (ok' := fun z => z < w2.heap.size + 1 ∧ w1.heap.size + 1 ≤ z) (fun z hz => ⟨Nat.lt_of_lt_of_le hz.2.2.1 (by simp), Nat.le_trans (by simp) hz.2.1⟩)) hb) (.cells #[.int .i64 gi, .slice G g.length cg] 30 (0, 0))); have HG0 := Aside0.mk (Kd.R_alloc (Kd.R_mono (Kd.R_bound hS) (ok' := fun z => w2.heap.size + 1 ≤ z ∧ z < w3.heap.size) (fun z hz => ⟨Nat.le_trans (by simp) hz.2.1, hz.2.2.1⟩)) (.cells #[.int .i64 gi, .slice G g.length cg] 30 (0, 0))); have nB1_ := Aside0.mk (((B1.out.alloc B1.out.size (.cells #[.int .i64 m, .slice X p.length cx] 30 (0, 0))).trans (hb.mono (Nat.le_trans B1.out.size (by simp)))).alloc (Nat.le_trans B1.out.size (Nat.le_trans (by simp) hb.size)) (.cells #[.int .i64 gi, .slice G g.length cg] 30 (0, 0))); have HZ := Aside0.mk (show w2.heap.size + 1 ≤ w3.heap.size from Nat.le_trans (by simp) hb.size); have nBA_ := Aside0.mk (blk_alloc (blk_below BA.out hb) (.cells #[.int .i64 gi, .slice G g.length cg] 30 (0, 0))); have nBW_ := Aside0.mk (blk_alloc (blk_below BW.out hb) (.cells #[.int .i64 gi, .slice G g.length cg] 30 (0, 0))); have nBX_ := Aside0.mk (blk_alloc (blk_below BX.out hb) (.cells #[.int .i64 gi, .slice G g.length cg] 30 (0, 0))); clear hA0 hA1 hW0 hW1 hX0 hX1; clear BA BW BX HX0 B1 hb hS; have BA := nBA_; have BW := nBW_; have BX := nBX_; have HX0 := nHX0_; have B1 := nB1_; clear nBA_ nBW_ nBX_ nHX0_ nB1_; have BG := Aside0.mk (blk_new w3 (.cells #[.int .i64 gi, .slice G g.length cg] 30 (0, 0))); have hA0 := (blk_cell BA.out 0).trans rfl; have hA1 := (blk_cell BA.out 1).trans rfl; have hW0 := (blk_cell BW.out 0).trans rfl; have hW1 := (blk_cell BW.out 1).trans rfl; have hX0 := (blk_cell BX.out 0).trans rfl; have hX1 := (blk_cell BX.out 1).trans rfl; have hG0 := (blk_cell BG.out 0).trans rfl; have hG1 := (blk_cell BG.out 1).trans rfl)
  go_wp2_with (go_at_call 17; refine (laws_eqPuzzle.calls k gi G cg g si As cs s true _ (Kd.R_reads' HG0.out).2.2 (Kd.R_reads' HG0.out).2.1 (Kd.C_below HW.out.2.2 B1.out) HW.out.2.1 HT.out).mono ?_; rintro e w4 ⟨rfl, hb⟩; have nBA_ := Aside0.mk (blk_below BA.out hb); have nBW_ := Aside0.mk (blk_below BW.out hb); have nBX_ := Aside0.mk (blk_below BX.out hb); have nBG_ := Aside0.mk (blk_below BG.out hb); have nHX0_ := Aside0.mk (Kd.R_below HX0.out hb); have nHG0_ := Aside0.mk (Kd.R_below HG0.out hb); have nB1_ := Aside0.mk (B1.out.trans (hb.mono B1.out.size)); clear hA0 hA1 hW0 hW1 hX0 hX1 hG0 hG1; clear BA BW BX BG HX0 HG0 B1; have BA := nBA_; have BW := nBW_; have BX := nBX_; have BG := nBG_; have HX0 := nHX0_; have HG0 := nHG0_; have B1 := nB1_; clear hb nBA_ nBW_ nBX_ nBG_ nHX0_ nHG0_ nB1_; have hA0 := (blk_cell BA.out 0).trans rfl; have hA1 := (blk_cell BA.out 1).trans rfl; have hW0 := (blk_cell BW.out 0).trans rfl; have hW1 := (blk_cell BW.out 1).trans rfl; have hX0 := (blk_cell BX.out 0).trans rfl; have hX1 := (blk_cell BX.out 1).trans rfl; have hG0 := (blk_cell BG.out 0).trans rfl; have hG1 := (blk_cell BG.out 1).trans rfl)
  refine start_ (n := 5) (S := fun w' => w'.cell? ⟨w2.heap.size, 0, none⟩ = some (.int .i64 m) ∧ w'.cell? ⟨w2.heap.size, 1, none⟩ = some (.slice X p.length cx) ∧ w'.cell? ⟨w.heap.size, 0, none⟩ = some (.int .i64 a) ∧ w'.cell? ⟨w.heap.size, 1, none⟩ = some (.slice A l.length c)) (ds := []) #[false, false, false, false, false] (by kernel_rfl) rfl rfl ⟨(blk_cell (blk_drew BX.out) 0).trans rfl, (blk_cell (blk_drew BX.out) 1).trans rfl, (blk_cell (blk_drew BA.out) 0).trans rfl, (blk_cell (blk_drew BA.out) 1).trans rfl⟩ (fun hHeld => ?_)
  have hb : Below w4.heap.size w4 w4.drew := (Below.refl _ w4).drew
  generalize w4.drew = w5 at hb hHeld ⊢
  have nBA_ := Aside0.mk (blk_below BA.out hb)
  have nBW_ := Aside0.mk (blk_below BW.out hb)
  have nBX_ := Aside0.mk (blk_below BX.out hb)
  have nBG_ := Aside0.mk (blk_below BG.out hb)
  have nHX0_ := Aside0.mk (Kd.R_below HX0.out hb)
  have nHG0_ := Aside0.mk (Kd.R_below HG0.out hb)
  have nB1_ := Aside0.mk (B1.out.trans (hb.mono B1.out.size))
  clear hA0 hA1 hW0 hW1 hX0 hX1 hG0 hG1
  clear BA BW BX BG HX0 HG0 B1
  have BA := nBA_
  have BW := nBW_
  have BX := nBX_
  have BG := nBG_
  have HX0 := nHX0_
  have HG0 := nHG0_
  have B1 := nB1_
  clear hb nBA_ nBW_ nBX_ nBG_ nHX0_ nHG0_ nB1_
  have hA0 := (blk_cell BA.out 0).trans rfl
  have hA1 := (blk_cell BA.out 1).trans rfl
  have hW0 := (blk_cell BW.out 0).trans rfl
  have hW1 := (blk_cell BW.out 1).trans rfl
  have hX0 := (blk_cell BX.out 0).trans rfl
  have hX1 := (blk_cell BX.out 1).trans rfl
  have hG0 := (blk_cell BG.out 0).trans rfl
  have hG1 := (blk_cell BG.out 1).trans rfl
  refine take_ (i := 0) (N := some 41) (v := ?_) (a' := ?_) #[true, false, false, false, false] rfl rfl (by kernel_rfl) (fun _ _ _ h => h) (Or.inl ⟨by rfl, ?_⟩) hHeld ?_ ?_
  rotate_left
  · rintro w' ⟨s0, s1, s2, s3⟩
    go_simp
    with_reducible rfl
  rotate_left
  · simp only [Act.put, List.setIfInBounds_toArray, List.set_cons_zero, List.set_cons_succ, i64_w, i32_w]
    rfl
  refine take_ (i := 1) (N := some 42) (v := ?_) (a' := ?_) #[true, true, false, false, false] rfl rfl (by kernel_rfl) (fun _ _ _ h => h) (Or.inl ⟨by rfl, ?_⟩) hHeld ?_ ?_
  rotate_left
  · rintro w' ⟨s0, s1, s2, s3⟩
    go_simp
    with_reducible rfl
  rotate_left
  · simp only [Act.put, List.setIfInBounds_toArray, List.set_cons_zero, List.set_cons_succ, i64_w, i32_w]
    rfl
  refine one_ (i := 2) (N := some 43) #[true, true, true, false, false] rfl rfl (by kernel_rfl) (by decide) (fun K hK => ?_)
  refine goes_ Tryz.func15 (by kernel_rfl) rfl #[.agg #[.int .i64 a, .slice A l.length c]] (by rfl) rfl rfl (by (try simp only [List.map_toArray, List.map_cons, List.map_nil]); first | done | rfl) ?_
  refine (laws_toPuzzle.calls k a A c l m p _ (Kd.C_below HCA.out B1.out) hc HP.out).mono ?_
  rintro e w6 ⟨v, rfl, hD, hb⟩
  refine ⟨_, rfl, ?_⟩
  obtain ⟨D, d, rfl⟩ := Kd.R_slice hD
  have HD := Aside0.mk (Kd.R_reads' hD)
  clear hD
  have nBA_ := Aside0.mk (blk_below BA.out hb)
  have nBW_ := Aside0.mk (blk_below BW.out hb)
  have nBX_ := Aside0.mk (blk_below BX.out hb)
  have nBG_ := Aside0.mk (blk_below BG.out hb)
  have nHX0_ := Aside0.mk (Kd.R_below HX0.out hb)
  have nHG0_ := Aside0.mk (Kd.R_below HG0.out hb)
  have nB1_ := Aside0.mk (B1.out.trans (hb.mono B1.out.size))
  clear hA0 hA1 hW0 hW1 hX0 hX1 hG0 hG1
  clear BA BW BX BG HX0 HG0 B1
  have BA := nBA_
  have BW := nBW_
  have BX := nBX_
  have BG := nBG_
  have HX0 := nHX0_
  have HG0 := nHG0_
  have B1 := nB1_
  clear hb nBA_ nBW_ nBX_ nBG_ nHX0_ nHG0_ nB1_
  have hA0 := (blk_cell BA.out 0).trans rfl
  have hA1 := (blk_cell BA.out 1).trans rfl
  have hW0 := (blk_cell BW.out 0).trans rfl
  have hW1 := (blk_cell BW.out 1).trans rfl
  have hX0 := (blk_cell BX.out 0).trans rfl
  have hX1 := (blk_cell BX.out 1).trans rfl
  have hG0 := (blk_cell BG.out 0).trans rfl
  have hG1 := (blk_cell BG.out 1).trans rfl
  refine hK.out _ _ ⟨(blk_cell BX.out 0).trans rfl, (blk_cell BX.out 1).trans rfl, (blk_cell BA.out 0).trans rfl, (blk_cell BA.out 1).trans rfl⟩ (fun hHeld => ?_)
  clear hK K
  refine norm_ (a' := ?_) ?_ ?_
  rotate_left
  · show Act.put _ (some 43) _ = _
    simp only [Act.put, List.setIfInBounds_toArray, List.set_cons_zero, List.set_cons_succ, i64_w, i32_w]
    rfl
  refine one_ (i := 3) (N := some 44) #[true, true, true, true, false] rfl rfl (by kernel_rfl) (by decide) (fun K hK => ?_)
  refine goes_ Tryz.func17 (by kernel_rfl) rfl #[.agg #[.int .i64 m, .slice X p.length cx], .agg #[.int .i64 m, .slice D p.length d]] (by rfl) rfl rfl (by (try simp only [List.map_toArray, List.map_cons, List.map_nil]); first | done | rfl) ?_
  refine (laws_eqPuzzle.calls k m X cx p m D d p true _ (Kd.R_reads' HX0.out).2.2 (Kd.R_reads' HX0.out).2.1 HD.out.2.2 HD.out.2.1 HE.out).mono ?_
  rintro e w7 ⟨rfl, hb⟩
  refine ⟨_, rfl, ?_⟩
  clear HD
  have nBA_ := Aside0.mk (blk_below BA.out hb)
  have nBW_ := Aside0.mk (blk_below BW.out hb)
  have nBX_ := Aside0.mk (blk_below BX.out hb)
  have nBG_ := Aside0.mk (blk_below BG.out hb)
  have nHX0_ := Aside0.mk (Kd.R_below HX0.out hb)
  have nHG0_ := Aside0.mk (Kd.R_below HG0.out hb)
  have nB1_ := Aside0.mk (B1.out.trans (hb.mono B1.out.size))
  clear hA0 hA1 hW0 hW1 hX0 hX1 hG0 hG1
  clear BA BW BX BG HX0 HG0 B1
  have BA := nBA_
  have BW := nBW_
  have BX := nBX_
  have BG := nBG_
  have HX0 := nHX0_
  have HG0 := nHG0_
  have B1 := nB1_
  clear hb nBA_ nBW_ nBX_ nBG_ nHX0_ nHG0_ nB1_
  have hA0 := (blk_cell BA.out 0).trans rfl
  have hA1 := (blk_cell BA.out 1).trans rfl
  have hW0 := (blk_cell BW.out 0).trans rfl
  have hW1 := (blk_cell BW.out 1).trans rfl
  have hX0 := (blk_cell BX.out 0).trans rfl
  have hX1 := (blk_cell BX.out 1).trans rfl
  have hG0 := (blk_cell BG.out 0).trans rfl
  have hG1 := (blk_cell BG.out 1).trans rfl
  refine hK.out _ _ ⟨(blk_cell BX.out 0).trans rfl, (blk_cell BX.out 1).trans rfl, (blk_cell BA.out 0).trans rfl, (blk_cell BA.out 1).trans rfl⟩ (fun hHeld => ?_)
  clear hK K
  refine norm_ (a' := ?_) ?_ ?_
  rotate_left
  · show Act.put _ (some 44) _ = _
    simp only [Act.put, List.setIfInBounds_toArray, List.set_cons_zero, List.set_cons_succ, i64_w, i32_w]
    rfl
  refine pure_ (i := 4) (N := some 45) (v := ?_) (a' := ?_) #[true, true, true, true, true] rfl rfl (by kernel_rfl) (fun _ _ _ h => h) (Or.inl ⟨by rfl, ?_⟩) ?_ ?_
  rotate_left
  · intro w'
    go_simp
    with_reducible rfl
  rotate_left
  · simp only [Act.put, List.setIfInBounds_toArray, List.set_cons_zero, List.set_cons_succ, i64_w, i32_w]
    rfl
  refine done_ (by kernel_rfl) ?_
  clear hHeld
  go_wp2_with (go_at_call 25; refine (laws_markPuzzle.calls k m (fun z => z < w2.heap.size + 1 ∧ w1.heap.size + 1 ≤ z) _ p 1 x1 xm w1 _ B1.out (Kd.R_lower (Kd.R_mono HX0.out (fun _ hz => hz)) (by first | exact (Nat.le_refl _) | simp)) HX.out).mono ?_; rintro e w8 ⟨rfl, -, hb, hk⟩; have nHG0_ := Aside0.mk (Kd.R_step HG0.out (fun z hz hlt => hk.2 z hlt (fun h => absurd h.1 (Nat.not_lt.2 hz.1)))); have nBA_ := Aside0.mk ((hk.2 _ (blk_lt BA.out) (fun hz => absurd (Nat.lt_of_lt_of_le HA.out (Nat.le_trans (Nat.le_succ _) hz.2)) (Nat.lt_irrefl _))).trans BA.out); have nBW_ := Aside0.mk ((hk.2 _ (blk_lt BW.out) (fun hz => absurd hz.2 (Nat.not_succ_le_self _))).trans BW.out); have nBG_ := Aside0.mk ((hk.2 _ (blk_lt BG.out) (fun hz => absurd (Nat.lt_of_lt_of_le hz.1 HZ.out) (Nat.lt_irrefl _))).trans BG.out); clear hA0 hA1 hW0 hW1 hX0 hX1 hG0 hG1; clear BA BW BX BG HX0 HG0 B1; have BA := nBA_; have BW := nBW_; have BG := nBG_; have HG0 := nHG0_; have B1 := Aside0.mk hb; clear nBA_ nBW_ nBG_ nHG0_ hb hk; have hA0 := (blk_cell BA.out 0).trans rfl; have hA1 := (blk_cell BA.out 1).trans rfl; have hW0 := (blk_cell BW.out 0).trans rfl; have hW1 := (blk_cell BW.out 1).trans rfl; have hG0 := (blk_cell BG.out 0).trans rfl; have hG1 := (blk_cell BG.out 1).trans rfl)
  go_wp2_with (go_at_call 17; refine (laws_eqPuzzle.calls k gi G cg g si As cs s true _ (Kd.R_reads' HG0.out).2.2 (Kd.R_reads' HG0.out).2.1 (Kd.C_below HW.out.2.2 B1.out) HW.out.2.1 HT.out).mono ?_; rintro e w9 ⟨rfl, hb⟩; have nBA_ := Aside0.mk (blk_below BA.out hb); have nBW_ := Aside0.mk (blk_below BW.out hb); have nBG_ := Aside0.mk (blk_below BG.out hb); have nHG0_ := Aside0.mk (Kd.R_below HG0.out hb); have nB1_ := Aside0.mk (B1.out.trans (hb.mono B1.out.size)); clear hA0 hA1 hW0 hW1 hG0 hG1; clear BA BW BG HG0 B1; have BA := nBA_; have BW := nBW_; have BG := nBG_; have HG0 := nHG0_; have B1 := nB1_; clear hb nBA_ nBW_ nBG_ nHG0_ nB1_; have hA0 := (blk_cell BA.out 0).trans rfl; have hA1 := (blk_cell BA.out 1).trans rfl; have hW0 := (blk_cell BW.out 0).trans rfl; have hW1 := (blk_cell BW.out 1).trans rfl; have hG0 := (blk_cell BG.out 0).trans rfl; have hG1 := (blk_cell BG.out 1).trans rfl)
  go_wp2_with (go_at_call 25; refine (laws_markPuzzle.calls k gi (fun z => w2.heap.size + 1 ≤ z ∧ z < w3.heap.size) _ g 1 q nm w1 _ B1.out (Kd.R_lower HG0.out (Nat.le_trans (Nat.le_succ _) (Nat.le_trans HZ0.out (by simp)))) HN.out).mono ?_; rintro e w10 ⟨rfl, hS, hb, hk⟩; have HM := Aside0.mk (Kd.R_reads' hS); have nBA_ := Aside0.mk ((hk.2 _ (blk_lt BA.out) (fun hz => absurd (Nat.lt_of_lt_of_le HA.out (Nat.le_trans (Nat.le_succ _) (Nat.le_trans HZ0.out (Nat.le_trans (Nat.le_succ _) hz.1)))) (Nat.lt_irrefl _))).trans BA.out); have nBW_ := Aside0.mk ((hk.2 _ (blk_lt BW.out) (fun hz => absurd (Nat.le_trans HZ0.out (Nat.le_trans (Nat.le_succ _) hz.1)) (Nat.not_succ_le_self _))).trans BW.out); have nBG_ := Aside0.mk ((hk.2 _ (blk_lt BG.out) (fun hz => absurd hz.2 (Nat.lt_irrefl _))).trans BG.out); clear hA0 hA1 hW0 hW1 hG0 hG1; clear BA BW BG HG0 B1; have BA := nBA_; have BW := nBW_; have BG := nBG_; have B1 := Aside0.mk hb; clear nBA_ nBW_ nBG_ hb hk hS; have hA0 := (blk_cell BA.out 0).trans rfl; have hA1 := (blk_cell BA.out 1).trans rfl; have hW0 := (blk_cell BW.out 0).trans rfl; have hW1 := (blk_cell BW.out 1).trans rfl; have hG0 := (blk_cell BG.out 0).trans rfl; have hG1 := (blk_cell BG.out 1).trans rfl)
  go_wp2_with (go_at_call 32; refine (stHeldHarderPuzzle k gi q _ HM.out HH.out).mono ?_; rintro e w11 ⟨rfl, hb⟩; have nBA_ := Aside0.mk (blk_below BA.out hb); have nBW_ := Aside0.mk (blk_below BW.out hb); have nBG_ := Aside0.mk (blk_below BG.out hb); have nHM_ := Aside0.mk (And.intro HM.out.1 (And.intro HM.out.2.1 (Kd.C_below HM.out.2.2 hb))); have nB1_ := Aside0.mk (B1.out.trans (hb.mono B1.out.size)); clear hA0 hA1 hW0 hW1 hG0 hG1; clear BA BW BG HM B1; have BA := nBA_; have BW := nBW_; have BG := nBG_; have HM := nHM_; have B1 := nB1_; clear hb nBA_ nBW_ nBG_ nHM_ nB1_; have hA0 := (blk_cell BA.out 0).trans rfl; have hA1 := (blk_cell BA.out 1).trans rfl; have hW0 := (blk_cell BW.out 0).trans rfl; have hW1 := (blk_cell BW.out 1).trans rfl; have hG0 := (blk_cell BG.out 0).trans rfl; have hG1 := (blk_cell BG.out 1).trans rfl)
  go_wp2_with (go_at_call 15; refine (laws_toPuzzle.calls k a A c l m p _ (Kd.C_below HCA.out B1.out) hc HP.out).mono ?_; rintro e w12 ⟨v, rfl, hR, hb⟩; obtain ⟨D, d, rfl⟩ := Kd.R_slice hR; have HD := Aside0.mk (Kd.R_reads' hR); clear hR; have nBA_ := Aside0.mk (blk_below BA.out hb); have nBW_ := Aside0.mk (blk_below BW.out hb); have nBG_ := Aside0.mk (blk_below BG.out hb); have nHM_ := Aside0.mk (And.intro HM.out.1 (And.intro HM.out.2.1 (Kd.C_below HM.out.2.2 hb))); have nB1_ := Aside0.mk (B1.out.trans (hb.mono B1.out.size)); clear hA0 hA1 hW0 hW1 hG0 hG1; clear BA BW BG HM B1; have BA := nBA_; have BW := nBW_; have BG := nBG_; have HM := nHM_; have B1 := nB1_; clear hb nBA_ nBW_ nBG_ nHM_ nB1_; have hA0 := (blk_cell BA.out 0).trans rfl; have hA1 := (blk_cell BA.out 1).trans rfl; have hW0 := (blk_cell BW.out 0).trans rfl; have hW1 := (blk_cell BW.out 1).trans rfl; have hG0 := (blk_cell BG.out 0).trans rfl; have hG1 := (blk_cell BG.out 1).trans rfl)
  go_wp2_with (go_at_call 31; refine (impl_HarderPuzzle.calls k m D d p gi g gb _ HD.out.2.2 HD.out.2.1 HG.out).mono ?_; rintro e w13 ⟨v, rfl, hR, hb⟩; obtain ⟨E, f, rfl⟩ := Kd.R_slice hR; clear HD; have HD := Aside0.mk (And.intro (Kd.R_reads' hR).1 (And.intro (Kd.R_reads' hR).2.1 (Kd.C_alloc (Kd.R_reads' hR).2.2 (.cells #[.int .i64 gi, .slice E g.length f] 30 (0, 0))))); clear hR; have nBA_ := Aside0.mk (blk_alloc (blk_below BA.out hb) (.cells #[.int .i64 gi, .slice E g.length f] 30 (0, 0))); have nBW_ := Aside0.mk (blk_alloc (blk_below BW.out hb) (.cells #[.int .i64 gi, .slice E g.length f] 30 (0, 0))); have nBG_ := Aside0.mk (blk_alloc (blk_below BG.out hb) (.cells #[.int .i64 gi, .slice E g.length f] 30 (0, 0))); have nHM_ := Aside0.mk (And.intro HM.out.1 (And.intro HM.out.2.1 (Kd.C_alloc (Kd.C_below HM.out.2.2 hb) (.cells #[.int .i64 gi, .slice E g.length f] 30 (0, 0))))); have nB1_ := Aside0.mk ((B1.out.trans (hb.mono B1.out.size)).alloc (Nat.le_trans B1.out.size hb.size) (.cells #[.int .i64 gi, .slice E g.length f] 30 (0, 0))); clear hA0 hA1 hW0 hW1 hG0 hG1; clear BA BW BG HM B1 hb; have BA := nBA_; have BW := nBW_; have BG := nBG_; have HM := nHM_; have B1 := nB1_; clear nBA_ nBW_ nBG_ nHM_ nB1_; have BH := Aside0.mk (blk_new w13 (.cells #[.int .i64 gi, .slice E g.length f] 30 (0, 0))); have hA0 := (blk_cell BA.out 0).trans rfl; have hA1 := (blk_cell BA.out 1).trans rfl; have hW0 := (blk_cell BW.out 0).trans rfl; have hW1 := (blk_cell BW.out 1).trans rfl; have hG0 := (blk_cell BG.out 0).trans rfl; have hG1 := (blk_cell BG.out 1).trans rfl; have hH0 := (blk_cell BH.out 0).trans rfl; have hH1 := (blk_cell BH.out 1).trans rfl)
  go_wp2_with (go_at_call 17; refine (laws_eqPuzzle.calls k gi E f g si As cs s true _ HD.out.2.2 HD.out.2.1 (Kd.C_below HW.out.2.2 B1.out) HW.out.2.1 HT.out).mono ?_; rintro e w14 ⟨rfl, hb⟩; clear HD; have nBA_ := Aside0.mk (blk_below BA.out hb); have nBW_ := Aside0.mk (blk_below BW.out hb); have nBG_ := Aside0.mk (blk_below BG.out hb); have nBH_ := Aside0.mk (blk_below BH.out hb); have nHM_ := Aside0.mk (And.intro HM.out.1 (And.intro HM.out.2.1 (Kd.C_below HM.out.2.2 hb))); have nB1_ := Aside0.mk (B1.out.trans (hb.mono B1.out.size)); clear hA0 hA1 hW0 hW1 hG0 hG1 hH0 hH1; clear BA BW BG BH HM B1; have BA := nBA_; have BW := nBW_; have BG := nBG_; have BH := nBH_; have HM := nHM_; have B1 := nB1_; clear hb nBA_ nBW_ nBG_ nBH_ nHM_ nB1_; have hA0 := (blk_cell BA.out 0).trans rfl; have hA1 := (blk_cell BA.out 1).trans rfl; have hW0 := (blk_cell BW.out 0).trans rfl; have hW1 := (blk_cell BW.out 1).trans rfl; have hG0 := (blk_cell BG.out 0).trans rfl; have hG1 := (blk_cell BG.out 1).trans rfl; have hH0 := (blk_cell BH.out 0).trans rfl; have hH1 := (blk_cell BH.out 1).trans rfl)
  go_wp2_with (go_at_call 32; refine (stHeldHarderPuzzle k gi q _ HM.out HH.out).mono ?_; rintro e w15 ⟨rfl, hb⟩; have nBA_ := Aside0.mk (blk_below BA.out hb); have nBW_ := Aside0.mk (blk_below BW.out hb); have nBG_ := Aside0.mk (blk_below BG.out hb); have nBH_ := Aside0.mk (blk_below BH.out hb); have nHM_ := Aside0.mk (And.intro HM.out.1 (And.intro HM.out.2.1 (Kd.C_below HM.out.2.2 hb))); have nB1_ := Aside0.mk (B1.out.trans (hb.mono B1.out.size)); clear hA0 hA1 hW0 hW1 hG0 hG1 hH0 hH1; clear BA BW BG BH HM B1; have BA := nBA_; have BW := nBW_; have BG := nBG_; have BH := nBH_; have HM := nHM_; have B1 := nB1_; clear hb nBA_ nBW_ nBG_ nBH_ nHM_ nB1_; have hA0 := (blk_cell BA.out 0).trans rfl; have hA1 := (blk_cell BA.out 1).trans rfl; have hW0 := (blk_cell BW.out 0).trans rfl; have hW1 := (blk_cell BW.out 1).trans rfl; have hG0 := (blk_cell BG.out 0).trans rfl; have hG1 := (blk_cell BG.out 1).trans rfl; have hH0 := (blk_cell BH.out 0).trans rfl; have hH1 := (blk_cell BH.out 1).trans rfl)
  go_ret
  exact ⟨rfl, HB0.out.trans (B1.out.mono HB0.out.size)⟩
theorem laws_FnExactHarderPuzzle.calls (k : Nat) (a0_0 : Int) (A0_1 : Option Addr) (c0_1 : Nat) (l0_1 : List (S79)) (r : Bool) (w : World) (hr0_1 : Kd.C k79 w A0_1 l0_1.length l0_1) (hc0_1 : l0_1.length ≤ c0_1) (h : laws_FnExactHarderPuzzle.f k a0_0 l0_1 = some r) :
    Calls Tryz.prog 8 #[.agg #[.int .i64 a0_0, .slice A0_1 l0_1.length c0_1]] w fun e w' => e = .returned (.bool r) ∧ Below w.heap.size w w' := by
  exact laws_FnExactHarderPuzzle_walk k a0_0 A0_1 c0_1 l0_1 r w hr0_1 hc0_1 h
end Go.Proofs.YtgjakcpbfbfejaaGreat.Q
end
section
namespace Go.Proofs.YtgjakcpbfbfejaaGreat.Q
open Go.RowKit Go.Proofs.YtgjakcpbfbfejaaGreatW.PrintWords Go.Proofs.YtgjakcpbfbfejaaGreatW.PrintLast Go.Proofs.YtgjakcpbfbfejaaGreatW.PrintMore
set_option linter.unusedVariables false
set_option linter.unusedSimpArgs false
open Go.ChangeShapes Go.WideShapes Go.ChangeAt Go.Deep
section
variable {H : Type} {enc : TypeId × Value → H} {P : Program} {W : World} {α β γ : Type}
def Opens (enc : TypeId × Value → H) (P : Program) (W : World) (t : TypeId) (d : Kd α) (G : α → Prop) : Prop :=
  ∀ (fuel : Nat) (cs : List Value) (y : DataW H × List MemPlace), DataW.trod enc P W 0 (fun _ => true) true fuel t cs = some y → ∃ x, d.K W x cs ∧ G x
def I64 (x : Int) : Prop := -9223372036854775808 ≤ x ∧ x ≤ 9223372036854775807
theorem opens_int {t : TypeId} (ht : P.underlying t = some (.int .i64)) : Opens enc P W t (Kd.int .i64) I64 := by
  intro fuel cs y h
  obtain ⟨n, rfl, _, hw⟩ := DataW.trod_int ht h
  exact ⟨n, rfl, Go.bounds_i64 hw⟩
theorem opens_slice [Inhabited α] {t e : TypeId} {d : Kd α} {G : α → Prop} (ht : P.underlying t = some (.slice e)) (he : P.cellsOf e = d.sz) (h : Opens enc P W e d G) :
    Opens enc P W t (Kd.slice e d) (fun xs => ∀ x ∈ xs, G x) := by
  intro fuel cs y hr
  rcases Deep.open_slice ht hr with ⟨rfl, _⟩ | ⟨a, len, cap, m, n, D, Pl, rfl, _, hlc, hcm, hm, _, hel⟩
  · exact ⟨[], ⟨none, 0, rfl, Nat.le_refl _, rfl, by simp, fun hp => absurd hp (by simp)⟩, fun x hx => by cases hx⟩
  · have hm' : len ≤ m := by rw [hm]; simp; omega
    have key : ∀ i, i < len → ∃ x, (∃ cs', d.K W x cs' ∧ ∀ j u, cs'[j]? = some u → W.cell? (a.add (i * d.sz + j)) = some u) ∧ G x := by
      intro i hi
      obtain ⟨cs', h1, h2⟩ := hel i (by omega)
      obtain ⟨x, hx, hG⟩ := h _ _ _ h2
      obtain ⟨_, hl, hc⟩ := World.cells?_some h1
      refine ⟨x, ⟨cs', hx, fun j u hu => ?_⟩, hG⟩
      have hj : j < P.cellsOf e := by rw [← hl]; exact (List.getElem?_eq_some_iff.1 hu).1
      have h3 := hc j hj
      rw [Deep.add_add, he] at h3
      rw [h3, hu]
    obtain ⟨f, hf⟩ := Deep.choose_lt key
    have hlen : ((List.range len).map f).length = len := by simp
    refine ⟨(List.range len).map f, ⟨some a, cap, by rw [hlen], by rw [hlen]; exact hlc, rfl, ?_, fun _ => ⟨a, rfl, fun j p hj => ?_⟩⟩, fun x hx => ?_⟩
    · rw [hlen]; unfold maxLen at hcm; omega
    · obtain ⟨hj1, hj2⟩ := List.getElem?_eq_some_iff.1 hj
      have hjl : j < len := by rw [hlen] at hj1; exact hj1
      have : p = f j := by rw [← hj2]; simp
      subst this
      obtain ⟨⟨cs', hK, hc⟩, _⟩ := hf j hjl
      exact ⟨cs', d.K_len hK, hK, hc⟩
    · obtain ⟨i, hi, rfl⟩ := List.mem_map.1 hx
      exact (hf i (List.mem_range.1 hi)).2
theorem opens_pair {t : TypeId} {f0 f1 : Field} {d0 : Kd α} {d1 : Kd β} {G0 : α → Prop} {G1 : β → Prop} (ht : P.underlying t = some (.struct #[f0, f1])) (hC : P.cellsOf t = d0.sz + d1.sz)
    (o0 : f0.offset = 0) (o1 : f1.offset = d0.sz) (c0 : P.cellsOf f0.type = d0.sz) (c1 : P.cellsOf f1.type = d1.sz) (h0 : Opens enc P W f0.type d0 G0) (h1 : Opens enc P W f1.type d1 G1) :
    Opens enc P W t (Kd.pair d0 d1) (fun x => G0 x.1 ∧ G1 x.2) := by
  intro fuel cs y hr
  obtain ⟨y0, y1, n, _, hl, r0, r1⟩ := trod_struct2 ht hr
  rw [o0, c0] at r0
  rw [o1, c1] at r1
  obtain ⟨x0, k0, g0⟩ := h0 _ _ _ r0
  obtain ⟨x1, k1, g1⟩ := h1 _ _ _ r1
  refine ⟨(x0, x1), ⟨_, _, ?_, k0, k1⟩, g0, g1⟩
  rw [List.drop_zero, List.take_of_length_le (l := cs.drop d0.sz) (by rw [List.length_drop, hl, hC]; omega), List.take_append_drop]
theorem opens_triple {t : TypeId} {f0 f1 f2 : Field} {d0 : Kd α} {d1 : Kd β} {d2 : Kd γ} {G0 : α → Prop} {G1 : β → Prop} {G2 : γ → Prop} (ht : P.underlying t = some (.struct #[f0, f1, f2])) (hC : P.cellsOf t = d0.sz + (d1.sz + d2.sz))
    (o0 : f0.offset = 0) (o1 : f1.offset = d0.sz) (o2 : f2.offset = d0.sz + d1.sz) (c0 : P.cellsOf f0.type = d0.sz) (c1 : P.cellsOf f1.type = d1.sz) (c2 : P.cellsOf f2.type = d2.sz)
    (h0 : Opens enc P W f0.type d0 G0) (h1 : Opens enc P W f1.type d1 G1) (h2 : Opens enc P W f2.type d2 G2) :
    Opens enc P W t (Kd.pair d0 (Kd.pair d1 d2)) (fun x => G0 x.1 ∧ G1 x.2.1 ∧ G2 x.2.2) := by
  intro fuel cs y hr
  obtain ⟨y0, y1, y2, n, _, hl, r0, r1, r2⟩ := trod_struct3 ht hr
  rw [o0, c0] at r0
  rw [o1, c1] at r1
  rw [o2, c2] at r2
  obtain ⟨x0, k0, g0⟩ := h0 _ _ _ r0
  obtain ⟨x1, k1, g1⟩ := h1 _ _ _ r1
  obtain ⟨x2, k2, g2⟩ := h2 _ _ _ r2
  refine ⟨(x0, x1, x2), ⟨_, _, ?_, k0, _, _, rfl, k1, k2⟩, g0, g1, g2⟩
  rw [List.drop_zero, List.take_of_length_le (l := cs.drop (d0.sz + d1.sz)) (by rw [List.length_drop, hl, hC]; omega), ← List.drop_drop, List.take_append_drop, List.take_append_drop]
theorem opens_iso {t : TypeId} {d : Kd α} {G : α → Prop} (f : β → α) (g : α → β) (hfg : ∀ x, f (g x) = x) (h : Opens enc P W t d G) : Opens enc P W t (Kd.iso d f) (fun y => G (f y)) := by
  intro fuel cs y hr
  obtain ⟨x, k, gx⟩ := h _ _ _ hr
  exact ⟨g x, by show d.K W (f (g x)) cs; rw [hfg]; exact k, by show G (f (g x)); rw [hfg]; exact gx⟩
theorem open_struct {r : Reach} {b0 : Nat} {t : TypeId} {fs : Array Field} {d : Kd α} {G : α → Prop} {v : Value} {y : DataW H} {p : List MemPlace} (ht : P.underlying t = some (.struct fs)) (hv : Value.okWide P W r b0 t v)
    (hr : DataW.Trod enc P W 0 (fun _ => true) true t v y p) (h : Opens enc P W t d G) : ∃ x cs, v = .agg cs ∧ d.K W x cs.toList ∧ G x := by
  obtain ⟨cs, rfl, _⟩ := okWide_struct ht hv
  obtain ⟨fuel, hf⟩ := hr
  obtain ⟨x, k, g⟩ := h _ _ _ hf
  exact ⟨x, cs, rfl, k, g⟩
end
end Go.Proofs.YtgjakcpbfbfejaaGreat.Q
end
section
namespace Go.Proofs.YtgjakcpbfbfejaaGreat.Q
open Go.RowKit Go.Proofs.YtgjakcpbfbfejaaGreatW.PrintWords Go.Proofs.YtgjakcpbfbfejaaGreatW.PrintLast Go.Proofs.YtgjakcpbfbfejaaGreatW.PrintMore
set_option linter.unusedVariables false
set_option linter.unusedSimpArgs false
theorem wraps_i64 (n : Int) (h0 : 0 ≤ n) (h1 : n < 2 ^ 62) : IntKind.i64.wrap n = n := by rw [IntKind.wrap_i64]; omega
theorem and_nat (a b : Nat) (ha : a < 2 ^ 62) (hb : b < 2 ^ 62) : Go.bits .and .i64 (a : Int) (b : Int) = ((a &&& b : Nat) : Int) := (Go.bits_nat .i64 62 (by decide) wraps_i64 a b ha hb).1
theorem or_nat (a b : Nat) (ha : a < 2 ^ 62) (hb : b < 2 ^ 62) : Go.bits .or .i64 (a : Int) (b : Int) = ((a ||| b : Nat) : Int) := (Go.bits_nat .i64 62 (by decide) wraps_i64 a b ha hb).2
theorem shr_nat (a n : Nat) (hn : n ≤ 64) : shr .i64 (a : Int) (n : Int) = ((a >>> n : Nat) : Int) := by
  unfold shr
  rw [Int.toNat_natCast, show min n IntKind.i64.bits = n from Nat.min_eq_left hn, Nat.shiftRight_eq_div_pow]
  simp
theorem shl_one_nat (n : Nat) (hn : n ≤ 16) : shl .i64 1 (n : Int) = ((2 ^ n : Nat) : Int) := by
  rw [shl_one (n : Int) ⟨by omega, by omega⟩, Int.toNat_natCast]; simp
theorem and_one_nat (a : Nat) (ha : a < 2 ^ 62) : Go.bits .and .i64 (a : Int) 1 = ((a % 2 : Nat) : Int) := by
  have := and_nat a 1 ha (by decide)
  rw [Nat.and_one_is_mod] at this
  exact this
theorem tmod_two (a : Nat) : Int.tmod (a : Int) 2 = ((a % 2 : Nat) : Int) := by
  rw [Int.tmod_eq_emod_of_nonneg (by omega)]; omega
theorem shr_lt (a i : Nat) (ha : a < 2 ^ 62) : a >>> i < 2 ^ 62 := by
  rw [Nat.shiftRight_eq_div_pow]
  exact Nat.lt_of_le_of_lt (Nat.div_le_self _ _) ha
end Go.Proofs.YtgjakcpbfbfejaaGreat.Q
end
section
namespace Go.Proofs.YtgjakcpbfbfejaaGreat.Q
open Go.RowKit Go.Proofs.YtgjakcpbfbfejaaGreatW.PrintWords Go.Proofs.YtgjakcpbfbfejaaGreatW.PrintLast Go.Proofs.YtgjakcpbfbfejaaGreatW.PrintMore
attribute [local go_sem] max2_int min2_int max_two min_two max_three min_three max_four min_four
set_option linter.unusedVariables false
set_option linter.unusedSimpArgs false
def spec_voBits.l0 : Nat → Int → List Int → Int → Int → Option (Int)
 | 0, _, _, _, _ => none
 | k + 1, x3, x6, x7, x8 => if x8 < x7 then (if 0 ≤ x8 then (if x8 < (x6.length : Int) then (if 0 ≤ (rd x6 x8) then (spec_voBits.l0 k (Go.bits .or .i64 x3 (shl .i64 1 (rd x6 x8))) x6 x7 (wrap64 (x8 + 1))) else (none)) else (none)) else (none)) else (some x3)
def spec_voBits.f (k : Nat) (l0 : List Int) : Option (Int) := spec_voBits.l0 k 0 l0 (l0.length : Int) 0
end Go.Proofs.YtgjakcpbfbfejaaGreat.Q
end
section
namespace Go.Proofs.YtgjakcpbfbfejaaGreat.Q
open Go.RowKit Go.Proofs.YtgjakcpbfbfejaaGreatW.PrintWords Go.Proofs.YtgjakcpbfbfejaaGreatW.PrintLast Go.Proofs.YtgjakcpbfbfejaaGreatW.PrintMore
set_option linter.unusedVariables false
set_option linter.unusedSimpArgs false
def maskN (m : Nat) : List Int → Nat
  | [] => m
  | x :: l => maskN (m ||| 2 ^ x.toNat) l
theorem maskOf_ev (l : List Int) (hl : l.length ≤ 1152921504606) (h : ∀ x ∈ l, 0 ≤ x ∧ x ≤ 15) : Ev (fun k => impl_maskOf.f k l) (maskN 0 l : Int) ∧ Ev (fun k => spec_voBits.f k l) (maskN 0 l : Int) := by
  unfold impl_maskOf.f spec_voBits.f
  have key : ∀ (d i m : Nat), i + d = l.length → m < 65536 → Ev (fun k => impl_maskOf.l0 k (m : Int) l (l.length : Int) (i : Int)) (maskN m (l.drop i) : Int) ∧ Ev (fun k => spec_voBits.l0 k (m : Int) l (l.length : Int) (i : Int)) (maskN m (l.drop i) : Int) := by
    intro d
    induction d with
    | zero =>
      intro i m hi hm
      refine ⟨ev_succ ?_, ev_succ ?_⟩
      all_goals
        simp only [impl_maskOf.l0, spec_voBits.l0]
        refine ev_neg (by omega) (ev_eqv (Ev.now _) ?_)
        rw [List.drop_of_length_le (by omega)]; rfl
    | succ d ih =>
      intro i m hi hm
      have h1 : i < l.length := by omega
      have hx := h l[i] (List.getElem_mem h1)
      obtain ⟨q, hq⟩ := Int.eq_ofNat_of_zero_le hx.1
      have hq16 : q ≤ 15 := by omega
      have hp : 2 ^ q < 65536 := Nat.pow_lt_pow_right (n := 16) (by decide) (by omega)
      have ih' := ih (i + 1) (m ||| 2 ^ q) (by omega) (Nat.or_lt_two_pow (n := 16) hm hp)
      rw [List.drop_eq_getElem_cons h1, maskN, hq, Int.toNat_natCast]
      refine ⟨ev_succ ?_, ev_succ ?_⟩
      all_goals
        simp only [impl_maskOf.l0, spec_voBits.l0]
        refine ev_pos (by omega) (ev_pos (by omega) (ev_pos (by omega) (ev_pos (by rw [rd_get h1]; omega) ?_)))
        rw [rd_get h1, hq, shl_one_nat q (by omega), or_nat m (2 ^ q) (by omega) (by omega), wrap_succ h1 (by omega)]
      · exact ih'.1
      · exact ih'.2
  exact key l.length 0 0 (by omega) (by decide)
def incFrom : Option Int → List Int → Bool
  | _, [] => true
  | p, x :: l => (match p with | none => true | some y => decide (y < x)) && incFrom (some x) l
def incB (l : List Int) : Bool := incFrom none l
def isSetB (l : List Int) (n : Int) : Bool := l.all (inB · 0 (n - 1)) && incB l
theorem any_not_all {α : Type} (l : List α) (p : α → Bool) : (!l.any fun x => !p x) = l.all p := by
  induction l with
  | nil => rfl
  | cons x l ih => rw [List.any_cons, List.all_cons, ← ih]; cases p x <;> simp
theorem isSetB_mem {l : List Int} {n : Int} (h : isSetB l n = true) : ∀ x ∈ l, 0 ≤ x ∧ x ≤ n - 1 := by
  intro x hx
  unfold isSetB at h
  rw [Bool.and_eq_true, List.all_eq_true] at h
  exact inB_iff.1 (h.1 x hx)
theorem ev_anyO {α : Type} (p : Nat → α → Option Bool) (q : α → Bool) : ∀ l : List α, (∀ x ∈ l, Ev (fun k => p k x) (q x)) → Ev (fun k => anyO (p k) l) (l.any q)
  | [], _ => Ev.now _
  | x :: xs, h => by
    simp only [anyO, List.any_cons]
    refine Ev.bind (h x (List.mem_cons_self ..)) (ev_bool (fun e => ?_) (fun e => ?_))
    · rw [e]; exact Ev.now _
    · rw [e]; exact ev_anyO p q xs (fun y hy => h y (List.mem_cons_of_mem _ hy))
def allR (P : Nat → Bool) (n i : Nat) : Bool := ((List.range n).drop i).all P
theorem allR_end (P : Nat → Bool) (n : Nat) : allR P n n = true := by
  unfold allR
  rw [List.drop_of_length_le (by simp)]; rfl
theorem allR_step (P : Nat → Bool) (n i : Nat) (h : i < n) : allR P n i = (P i && allR P n (i + 1)) := by
  unfold allR
  rw [all_drop P (List.range n) i (by simpa using h), List.getElem_range]
def mk (l : List (List Int)) (i : Nat) : Nat := maskN 0 (l.getD i [])
theorem maskN_lt2 (n : Nat) (l : List Int) : ∀ m, m < 2 ^ n → (∀ x ∈ l, 0 ≤ x ∧ x ≤ (n : Int) - 1) → maskN m l < 2 ^ n := by
  induction l with
  | nil => intro m hm _; exact hm
  | cons x l ih =>
    intro m hm h
    refine ih _ ?_ (fun y hy => h y (List.mem_cons_of_mem _ hy))
    have hx := h x (List.mem_cons_self ..)
    exact Nat.or_lt_two_pow hm (Nat.pow_lt_pow_right (by decide) (by omega))
def SetsOk (m : Int) (l : List (List Int)) : Prop := (1 ≤ m ∧ m ≤ 9) ∧ ∀ x ∈ l, isSetB x m = true ∧ x.length ≤ 1048576
theorem SetsOk.elem {m : Int} {l : List (List Int)} (h : SetsOk m l) {x : List Int} (hx : x ∈ l) : ∀ y ∈ x, 0 ≤ y ∧ y ≤ (9 : Nat) - 1 := fun y hy => by
  have := isSetB_mem (h.2 x hx).1 y hy
  have := h.1
  omega
theorem SetsOk.lt {m : Int} {l : List (List Int)} (h : SetsOk m l) {i : Nat} (hi : i < l.length) : mk l i < 512 := by
  unfold mk
  rw [getD_get hi]
  exact maskN_lt2 9 _ 0 (by decide) (h.elem (List.getElem_mem hi))
theorem SetsOk.masks {m : Int} {l : List (List Int)} (h : SetsOk m l) {i : Nat} (hi : i < l.length) : Ev (fun k => impl_maskOf.f k l[i]) (mk l i : Int) ∧ Ev (fun k => spec_voBits.f k l[i]) (mk l i : Int) := by
  have hx := List.getElem_mem hi
  have := maskOf_ev l[i] (Nat.le_trans (h.2 _ hx).2 (by decide)) (fun y hy => by have := h.elem hx y hy; omega)
  unfold mk
  rw [getD_get hi]
  exact this
theorem and_eq_nat {a b c : Nat} (ha : a < 512) (hb : b < 512) : (Go.bits .and .i64 (a : Int) (b : Int) = (c : Int)) ↔ ((a &&& b == c) = true) := by
  rw [and_nat a b (by omega) (by omega), beq_iff_eq]
  omega
theorem SetsOk.of {m : Int} {l : List (List Int)} (hm : inB m 1 9 = true) (hs : (l.all fun s => decide (s ≠ []) && isSetB s m) = true) (hb : ∀ x ∈ l, x.length ≤ 1048576) : SetsOk m l := by
  refine ⟨inB_iff.1 hm, fun x hx => ⟨?_, hb x hx⟩⟩
  have := List.all_eq_true.1 hs x hx
  rw [Bool.and_eq_true] at this
  exact this.2
theorem rdOf_get {xs : List Bool} {i : Nat} (h : i < xs.length) : rdOf false xs (i : Int) = xs[i] := by unfold rdOf; rw [Int.toNat_natCast]; exact getD_get h
def tabB (g : Nat → Bool) (n : Nat) : List Bool := (List.range n).map g
theorem tabB_len (g : Nat → Bool) (n : Nat) : (tabB g n).length = n := by simp [tabB]
theorem tabB_get (g : Nat → Bool) (n i : Nat) (h : i < (tabB g n).length) : (tabB g n)[i] = g i := by simp [tabB]
theorem tabB_succ (g : Nat → Bool) (n : Nat) : tabB g (n + 1) = tabB g n ++ [g n] := by simp [tabB, List.range_succ]
theorem tabB_set (g : Nat → Bool) (i : Nat) (b b' : Bool) (l : List Bool) : (tabB g i ++ b :: l).set i b' = tabB g i ++ b' :: l := by
  rw [List.set_append_right _ _ (by rw [tabB_len]; omega), tabB_len, Nat.sub_self]; rfl
theorem tabB_next (g : Nat → Bool) (i : Nat) (l : List Bool) : tabB g i ++ g i :: l = tabB g (i + 1) ++ l := by rw [tabB_succ, List.append_assoc]; rfl
def winB (l : List (List Int)) (i : Nat) : Bool := l.any fun s => i &&& maskN 0 s == maskN 0 s
def winT (m : Int) (l : List (List Int)) : List Bool := tabB (winB l) (2 ^ m.toNat)
theorem and_self_nat {a b : Nat} (ha : a < 512) (hb : b < 512) : (Go.bits .and .i64 (a : Int) (b : Int) == (b : Int)) = (a &&& b == b) := by
  rw [Bool.eq_iff_iff, ← and_eq_nat ha hb, beq_iff_eq]
theorem pow_le512 {m : Int} (h : 1 ≤ m ∧ m ≤ 9) : 2 ^ m.toNat ≤ 512 := Nat.pow_le_pow_right (n := 2) (by decide) (show m.toNat ≤ 9 by omega)
theorem andNot_nat (a b : Nat) (ha : a < 2 ^ 62) (hb : b < 2 ^ 62) : Go.bits .andNot .i64 (a : Int) (b : Int) = ((a ^^^ (a &&& b) : Nat) : Int) := by
  have ha' : a % 2 ^ 64 = a := Nat.mod_eq_of_lt (by omega)
  have hb' : b % 2 ^ 64 = b := Nat.mod_eq_of_lt (by omega)
  have e : a &&& (2 ^ 64 - (b + 1)) = a ^^^ (a &&& b) := by
    refine Nat.eq_of_testBit_eq fun i => ?_
    rw [Nat.testBit_and, Nat.testBit_xor, Nat.testBit_and, Nat.testBit_two_pow_sub_succ (by omega)]
    by_cases hi : i < 64
    · cases a.testBit i <;> cases b.testBit i <;> simp [hi]
    · have : a.testBit i = false := Nat.testBit_lt_two_pow (Nat.lt_of_lt_of_le (show a < 2 ^ 64 by omega) (Nat.pow_le_pow_right (by decide) (by omega)))
      simp [this]
  have h : Go.bits .andNot .i64 (a : Int) (b : Int) = IntKind.i64.wrap ((a &&& (2 ^ 64 - 1 - b % 2 ^ 64) : Nat) : Int) := by
    show IntKind.i64.wrap ((BitVec.ofInt 64 (a : Int) &&& ~~~ (BitVec.ofInt 64 (b : Int))).toNat : Int) = _
    rw [BitVec.ofInt_natCast, BitVec.ofInt_natCast, BitVec.toNat_and, BitVec.toNat_not, BitVec.toNat_ofNat, BitVec.toNat_ofNat, ha']
  rw [h, hb', show 2 ^ 64 - 1 - b = 2 ^ 64 - (b + 1) by omega, e]
  have : a ^^^ (a &&& b) < 2 ^ 62 := Nat.xor_lt_two_pow ha (Nat.and_lt_two_pow _ hb)
  exact wraps_i64 _ (by omega) (by exact_mod_cast this)
def bitB (m i : Nat) : Bool := m >>> i % 2 == 1
theorem has_eq (m i : Nat) (hm : m < 65536) (hi : i ≤ 64) : impl_has.f (m : Int) (i : Int) = some (bitB m i) := by
  unfold impl_has.f bitB
  have h2 : m >>> i < 2 ^ 62 := shr_lt _ _ (by omega)
  rw [if_pos (by omega), shr_nat _ _ hi, and_one_nat _ h2]
  congr 1
  rw [Bool.eq_iff_iff, beq_iff_eq, beq_iff_eq]
  omega
theorem tmod_bit (m i : Nat) (hi : i ≤ 64) : Int.tmod (shr .i64 (m : Int) (i : Int)) 2 = 0 ↔ bitB m i = false := by
  rw [shr_nat _ _ hi, tmod_two]
  unfold bitB
  rw [beq_eq_false_iff_ne]
  omega
theorem fin512 {P : Nat → Nat → Prop} [∀ m i, Decidable (P m i)] (h : ((List.range 512).all fun m => (List.range 9).all fun i => decide (P m i)) = true) : ∀ m i, m < 512 → i < 9 → P m i := fun m i hm hi =>
  of_decide_eq_true (List.all_eq_true.1 (List.all_eq_true.1 h m (List.mem_range.2 hm)) i (List.mem_range.2 hi))
theorem or_bit : ∀ m i, m < 512 → i < 9 → m ||| 2 ^ i = if bitB m i = true then m else m + 2 ^ i := fin512 (by decide +kernel)
theorem all_andNot : ∀ m n, m < 512 → n < 10 → m < 2 ^ n → (2 ^ n - 1) ^^^ ((2 ^ n - 1) &&& m) = 2 ^ n - 1 - m := by
  have h : ((List.range 512).all fun m => (List.range 10).all fun n => decide (m < 2 ^ n → (2 ^ n - 1) ^^^ ((2 ^ n - 1) &&& m) = 2 ^ n - 1 - m)) = true := by decide +kernel
  exact fun m n hm hn => of_decide_eq_true (List.all_eq_true.1 (List.all_eq_true.1 h m (List.mem_range.2 hm)) n (List.mem_range.2 hn))
theorem rdOf_tab {g : Nat → Bool} {N i : Nat} (h : i < N) : rdOf false (tabB g N) (i : Int) = g i := by
  rw [rdOf_get (by rw [tabB_len]; exact h), tabB_get]
theorem pow_lt9 {i n : Nat} (h : i < n) (hn : n ≤ 9) : 2 ^ i < 2 ^ n ∧ 2 ^ n ≤ 512 :=
  ⟨Nat.pow_lt_pow_right (by decide) h, Nat.pow_le_pow_right (n := 2) (by decide) hn⟩
def cntB (g : Nat → Bool) (N i : Nat) : Int := (((List.range N).drop i).filter g).length
theorem cntB_end (g : Nat → Bool) (N : Nat) : cntB g N N = 0 := by
  unfold cntB
  rw [List.drop_of_length_le (by simp)]; rfl
theorem cntB_step (g : Nat → Bool) (N i : Nat) (h : i < N) : cntB g N i = (if g i = true then 1 else 0) + cntB g N (i + 1) := by
  unfold cntB
  rw [List.drop_eq_getElem_cons (by simpa using h), List.getElem_range, List.filter_cons]
  by_cases e : g i = true
  · rw [if_pos e, if_pos e, List.length_cons]; omega
  · rw [if_neg e, if_neg e]; omega
theorem countWins_ev (a : Int) (g : Nat → Bool) (N : Nat) (hN : N ≤ 512) : Ev (fun k => impl_votes_countWins.f k a (tabB g N)) (cntB g N 0) := by
  unfold impl_votes_countWins.f
  have := ev_rangeS N (fun k i s => impl_votes_countWins.l0 k s (tabB g N) (N : Int) (i : Int)) (fun i s => s + cntB g N i) (fun i s => 0 ≤ s ∧ s ≤ i) ?_ ?_ 0 (0 : Int) (Nat.zero_le _) ⟨Int.le_refl _, Int.le_refl _⟩
  · simpa [tabB_len] using this
  · intro s _
    refine ev_succ ?_
    simp only [impl_votes_countWins.l0]
    exact ev_neg (Int.lt_irrefl _) (ev_eqv (Ev.now _) (by rw [cntB_end]; omega))
  · intro i s hi hs ih
    refine ev_succ ?_
    simp only [impl_votes_countWins.l0]
    refine ev_pos (by omega) (ev_pos (by omega) (ev_pos (by rw [tabB_len]; omega) ?_))
    rw [rdOf_tab hi, wrap_succ hi (by omega), cntB_step g N i hi]
    refine ev_bool (fun e => ?_) (fun e => ?_)
    · rw [if_pos e, wrap64_id (by omega), ← Int.add_assoc]; exact ih _ (by omega)
    · rw [if_neg (by simp [e]), Int.zero_add]; exact ih _ (by omega)
theorem pzOne_eq (b : Bool) : spec_pzOne.f b = some (if b = true then 1 else 0) := by unfold spec_pzOne.f; cases b <;> rfl
theorem oneIf_eq (b : Bool) : impl_oneIf.f b = some (if b = true then 1 else 0) := by unfold impl_oneIf.f; cases b <;> rfl
theorem pzValue_l0 (g : Nat → Bool) (N : Nat) (hN : N ≤ 512) : Ev (fun k => spec_pzValue.l0 k 0 (tabB g N) (N : Int) 0) (cntB g N 0) := by
  have := ev_rangeS N (fun k i s => spec_pzValue.l0 k s (tabB g N) (N : Int) (i : Int)) (fun i s => s + cntB g N i) (fun i s => 0 ≤ s ∧ s ≤ i) ?_ ?_ 0 (0 : Int) (Nat.zero_le _) ⟨Int.le_refl _, Int.le_refl _⟩
  · simpa using this
  · intro s _
    refine ev_succ ?_
    simp only [spec_pzValue.l0]
    exact ev_neg (Int.lt_irrefl _) (ev_eqv (Ev.now _) (by rw [cntB_end]; omega))
  · intro i s hi hs ih
    refine ev_succ ?_
    simp only [spec_pzValue.l0]
    refine ev_pos (by omega) (ev_pos (by omega) (ev_pos (by rw [tabB_len]; omega) ?_))
    rw [rdOf_tab hi, wrap_succ hi (by omega), cntB_step g N i hi]
    simp only [pzOne_eq, Option.bind_some]
    by_cases e : g i = true
    · rw [if_pos e, wrap64_id (by omega), ← Int.add_assoc]; exact ih _ (by omega)
    · rw [if_neg e, Int.zero_add, Int.add_zero, wrap64_id (by omega)]; exact ih _ (by omega)
theorem all_eq (m : Int) (l : List Bool) (h : 1 ≤ m ∧ m ≤ 9) : impl_votes_all.f m l = some (((2 ^ m.toNat - 1 : Nat) : Int)) := by
  unfold impl_votes_all.f
  rw [if_pos (by omega), all_bits m (by omega)]
  have : 1 ≤ 2 ^ m.toNat := Nat.one_le_two_pow
  congr 1
  rw [Int.ofNat_sub this]; simp
theorem rest_mask (m : Int) (h : 1 ≤ m ∧ m ≤ 9) (i : Nat) (hi : i < 2 ^ m.toNat) : Go.bits .andNot .i64 ((2 ^ m.toNat - 1 : Nat) : Int) (i : Int) = ((2 ^ m.toNat - 1 - i : Nat) : Int) := by
  have hp := pow_le512 h
  rw [andNot_nat _ _ (by omega) (by omega), all_andNot i m.toNat (by omega) (by omega) hi]
def properB (g : Nat → Bool) (N : Nat) : Bool := allR (fun i => !(g i && g (N - 1 - i))) N 0
def strongB (g : Nat → Bool) (N : Nat) : Bool := allR (fun i => g i || g (N - 1 - i)) N 0
theorem isProper_ev (m : Int) (h : 1 ≤ m ∧ m ≤ 9) (g : Nat → Bool) : Ev (fun k => impl_votes_isProper.f k m (tabB g (2 ^ m.toNat))) (properB g (2 ^ m.toNat)) := by
  unfold impl_votes_isProper.f properB
  have hp := pow_le512 h
  have hr := rest_mask m h
  have ha := all_eq m (tabB g (2 ^ m.toNat)) h
  generalize 2 ^ m.toNat = N at *
  have := ev_range N (fun k i => impl_votes_isProper.l0 k (tabB g N) (N : Int) (i : Int) m (tabB g N)) (allR (fun i => !(g i && g (N - 1 - i))) N) ?_ ?_ 0 (Nat.zero_le _)
  · simpa [tabB_len] using this
  · refine ev_succ ?_
    simp only [impl_votes_isProper.l0]
    exact ev_neg (Int.lt_irrefl _) (ev_eqv (Ev.now _) (by rw [allR_end]))
  · intro i hi ih
    refine ev_succ ?_
    simp only [impl_votes_isProper.l0]
    refine ev_pos (by omega) (ev_pos (by omega) (ev_pos (by rw [tabB_len]; omega) ?_))
    rw [rdOf_tab hi, wrap_succ hi (by omega), allR_step _ _ _ hi]
    simp only [ha, Option.bind_some, hr i hi]
    rw [rdOf_tab (show N - 1 - i < N by omega)]
    refine ev_bool (fun e => ?_) (fun e => ?_)
    · rw [e]
      refine ev_pos (by omega) (ev_pos (by rw [tabB_len]; omega) (ev_bool (fun e2 => ?_) (fun e2 => ?_)))
      · rw [e2]; exact Ev.now _
      · rw [e2]; exact ih
    · rw [e]; exact ih
theorem isStrong_ev (m : Int) (h : 1 ≤ m ∧ m ≤ 9) (g : Nat → Bool) : Ev (fun k => impl_votes_isStrong.f k m (tabB g (2 ^ m.toNat))) (strongB g (2 ^ m.toNat)) := by
  unfold impl_votes_isStrong.f strongB
  have hp := pow_le512 h
  have hr := rest_mask m h
  have ha := all_eq m (tabB g (2 ^ m.toNat)) h
  generalize 2 ^ m.toNat = N at *
  have := ev_range N (fun k i => impl_votes_isStrong.l0 k (tabB g N) (N : Int) (i : Int) m (tabB g N)) (allR (fun i => g i || g (N - 1 - i)) N) ?_ ?_ 0 (Nat.zero_le _)
  · simpa [tabB_len] using this
  · refine ev_succ ?_
    simp only [impl_votes_isStrong.l0]
    exact ev_neg (Int.lt_irrefl _) (ev_eqv (Ev.now _) (by rw [allR_end]))
  · intro i hi ih
    refine ev_succ ?_
    simp only [impl_votes_isStrong.l0]
    refine ev_pos (by omega) (ev_pos (by omega) (ev_pos (by rw [tabB_len]; omega) ?_))
    rw [rdOf_tab hi, wrap_succ hi (by omega), allR_step _ _ _ hi]
    simp only [ha, Option.bind_some, hr i hi]
    rw [rdOf_tab (show N - 1 - i < N by omega)]
    refine ev_bool (fun e => ?_) (fun e => ?_)
    · rw [e]; exact ih
    · rw [e]
      refine ev_pos (by omega) (ev_pos (by rw [tabB_len]; omega) (ev_bool (fun e2 => ?_) (fun e2 => ?_)))
      · rw [e2]; exact ih
      · rw [e2]; exact Ev.now _
theorem ev_ite {α : Type} {c : Prop} [Decidable c] {f g : Nat → Option α} {r : α} (h1 : c → Ev f r) (h2 : ¬ c → Ev g r) : Ev (fun n => if c then f n else g n) r := by
  by_cases h : c
  · exact ev_pos h (h1 h)
  · exact ev_neg h (h2 h)
theorem pzValue_l1 (kind : Int) (hk : kind = 4 ∨ kind = 5) (g : Nat → Bool) (N : Nat) (hN : N ≤ 512) (h1 : 1 ≤ N) :
    Ev (fun k => spec_pzValue.l1 k kind (tabB g N) ((N - 1 : Nat) : Int) (N : Int) 0) (if (if kind = 4 then properB g N else strongB g N) = true then 1 else 0) := by
  unfold properB strongB
  have := ev_range N (fun k i => spec_pzValue.l1 k kind (tabB g N) ((N - 1 : Nat) : Int) (N : Int) (i : Int)) (fun i => if (if kind = 4 then allR (fun i => !(g i && g (N - 1 - i))) N i else allR (fun i => g i || g (N - 1 - i)) N i) = true then 1 else 0) ?_ ?_ 0 (Nat.zero_le _)
  · simpa using this
  · refine ev_succ ?_
    simp only [spec_pzValue.l1]
    exact ev_neg (Int.lt_irrefl _) (ev_eqv (Ev.now _) (by rw [allR_end, allR_end]; simp))
  · intro i hi ih
    refine ev_succ ?_
    simp only [spec_pzValue.l1]
    have hw : wrap64 (((N - 1 : Nat) : Int) - (i : Int)) = ((N - 1 - i : Nat) : Int) := by unfold wrap64; omega
    refine ev_pos (by omega) ?_
    rw [hw, rdOf_tab hi, rdOf_tab (show N - 1 - i < N by omega), wrap_succ hi (by omega), allR_step _ _ _ hi, allR_step _ _ _ hi, tabB_len]
    rcases hk with rfl | rfl
    · refine ev_pos rfl (ev_pos (by omega) (ev_pos (by omega) ?_))
      simp only [if_true] at ih ⊢
      refine ev_bool (fun e => ?_) (fun e => ?_)
      · rw [e]
        refine ev_pos (by omega) (ev_pos (by omega) (ev_bool (fun e2 => ?_) (fun e2 => ?_)))
        · rw [e2]; exact Ev.now _
        · rw [e2]; exact ev_neg (by decide) ih
      · rw [e]; exact ev_neg (by decide) ih
    · refine ev_neg (by decide) (ev_pos rfl (ev_pos (by omega) (ev_pos (by omega) ?_)))
      simp only [show ¬ ((5 : Int) = 4) by decide, if_false] at ih ⊢
      refine ev_bool (fun e => ?_) (fun e => ?_)
      · rw [e]; exact ih
      · rw [e]
        refine ev_pos (by omega) (ev_pos (by omega) (ev_bool (fun e2 => ?_) (fun e2 => ?_)))
        · rw [e2]; exact ih
        · rw [e2]; exact Ev.now _
def swB (g : Nat → Bool) (i m : Nat) : Bool := !bitB m i && (!g m && g (m + 2 ^ i))
theorem or_shl (m i : Nat) (hm : m < 512) (hi : i < 9) (hb : bitB m i = false) : Go.bits .or .i64 (m : Int) (shl .i64 1 (i : Int)) = ((m + 2 ^ i : Nat) : Int) := by
  have hp := (pow_lt9 (show i < 9 from hi) (Nat.le_refl _)).1
  rw [shl_one_nat i (by omega), or_nat m (2 ^ i) (by omega) (by omega), or_bit m i hm hi, if_neg (by simp [hb])]
theorem add_lt (m i n : Nat) (hn : n ≤ 9) (hm : m < 2 ^ n) (hi : i < n) (hb : bitB m i = false) : m + 2 ^ i < 2 ^ n := by
  have hp := (pow_lt9 hi hn).2
  have := Nat.or_lt_two_pow hm (pow_lt9 hi hn).1
  rw [or_bit m i (by omega) (by omega), if_neg (by simp [hb])] at this
  exact this
theorem isSwing_eq (a : Int) (g : Nat → Bool) (n m i : Nat) (hn : n ≤ 9) (hm : m < 2 ^ n) (hi : i < n) : impl_votes_isSwing.f a (tabB g (2 ^ n)) (m : Int) (i : Int) = some (swB g i m) := by
  have hp := (pow_lt9 hi hn).2
  unfold impl_votes_isSwing.f swB
  rw [has_eq m i (by omega) (by omega), Option.bind_some, rdOf_tab hm, tabB_len]
  cases hb : bitB m i
  · rw [if_neg (by decide), if_pos (by omega), if_pos (by omega)]
    cases hg : g m
    · rw [if_neg (by decide), if_pos (by omega), or_shl m i (by omega) (by omega) hb, if_pos (Int.natCast_nonneg _), if_pos (Int.ofNat_lt.2 (add_lt m i n hn hm hi hb)), rdOf_tab (add_lt m i n hn hm hi hb)]
      rfl
    · rw [if_pos rfl]; rfl
  · rw [if_pos rfl]; rfl
theorem set_same {α : Type} (l : List α) (i : Nat) (h : i < l.length) (x : α) (hx : l[i] = x) : l.set i x = l := by subst hx; exact List.set_getElem_self h
theorem swings_ev (m : Int) (h : 1 ≤ m ∧ m ≤ 9) (g : Nat → Bool) : Ev (fun k => impl_votes_swings.f k m (tabB g (2 ^ m.toNat))) (tab (fun i => cntB (swB g i) (2 ^ m.toNat) 0) m.toNat) := by
  obtain ⟨n, rfl⟩ := Int.eq_ofNat_of_zero_le (show 0 ≤ m by omega)
  have hn : n ≤ 9 := by omega
  have hp := pow_le512 h
  unfold impl_votes_swings.f
  rw [Int.toNat_natCast] at *
  have key : ∀ x : List Int, x.length = n → ∀ i, i < n → rd x (i : Int) = 0 → ∀ r, Ev (fun k => impl_votes_swings.l0 k (x.set i (cntB (swB g i) (2 ^ n) 0)) (n : Int) ((i + 1 : Nat) : Int) (n : Int) (tabB g (2 ^ n))) r →
      Ev (fun k => impl_votes_swings.l1 k x (i : Int) (n : Int) (i : Int) ((2 ^ n : Nat) : Int) 0 (n : Int) (tabB g (2 ^ n))) r := by
    intro x hx i hi h0 r hr
    have := ev_rangeS (2 ^ n) (fun k j (y : List Int) => impl_votes_swings.l1 k y (i : Int) (n : Int) (i : Int) ((2 ^ n : Nat) : Int) (j : Int) (n : Int) (tabB g (2 ^ n))) (fun _ _ => r)
      (fun j y => ∃ c : Int, 0 ≤ c ∧ c ≤ j ∧ y = x.set i c ∧ c + cntB (swB g i) (2 ^ n) j = cntB (swB g i) (2 ^ n) 0) ?_ ?_ 0 x (Nat.zero_le _) ⟨0, Int.le_refl _, Int.le_refl _, ?_, by omega⟩
    · simpa using this
    · rintro y ⟨c, _, _, rfl, hc⟩
      refine ev_succ ?_
      simp only [impl_votes_swings.l1]
      refine ev_neg (Int.lt_irrefl _) ?_
      rw [cntB_end, Int.add_zero] at hc
      rw [hc, wrap_succ hi (by omega)]
      exact hr
    · rintro j y hj ⟨c, hc0, hcj, rfl, hc⟩ ih
      refine ev_succ ?_
      simp only [impl_votes_swings.l1]
      refine ev_pos (by omega) (ev_bindS (isSwing_eq _ g n j i hn hj hi) ?_)
      rw [wrap_succ hj (by omega)]
      rw [cntB_step _ _ _ hj] at hc
      refine ev_bool (fun e => ?_) (fun e => ?_)
      · rw [if_pos e] at hc
        refine ev_pos (by omega) (ev_pos (by rw [List.length_set]; omega) (ih _ ⟨c + 1, by omega, by omega, ?_, by omega⟩))
        rw [rd_get (by rw [List.length_set]; omega), List.getElem_set_self, Int.toNat_natCast, List.set_set, wrap64_id (by omega)]
      · rw [if_neg (by simp [e])] at hc
        exact ih _ ⟨c, hc0, by omega, rfl, by omega⟩
    · exact (set_same x i (by omega) 0 (by rw [rd_get (by omega)] at h0; exact h0)).symm
  refine ev_pos (by omega) (ev_pos (by omega) (ev_bindS rfl ?_))
  have := ev_range n (fun k i => impl_votes_swings.l0 k (tab (fun i => cntB (swB g i) (2 ^ n) 0) i ++ List.replicate (n - i) 0) (n : Int) (i : Int) (n : Int) (tabB g (2 ^ n))) (fun _ => tab (fun i => cntB (swB g i) (2 ^ n) 0) n) ?_ ?_ 0 (Nat.zero_le _)
  · simpa [tab] using this
  · refine ev_succ ?_
    simp only [impl_votes_swings.l0]
    exact ev_neg (Int.lt_irrefl _) (ev_eqv (Ev.now _) (by simp))
  · intro i hi ih
    refine ev_succ ?_
    simp only [impl_votes_swings.l0, tabB_len]
    have hl : (tab (fun i => cntB (swB g i) (2 ^ n) 0) i ++ List.replicate (n - i) 0).length = n := by rw [List.length_append, tab_len, List.length_replicate]; omega
    refine ev_pos (by omega) (key _ hl i hi ?_ _ ?_)
    · rw [rd_get (by omega), List.getElem_append_right (by rw [tab_len]; omega)]; simp
    · rw [show n - i = (n - (i + 1)) + 1 by omega, List.replicate_succ, List.set_append_right _ _ (by rw [tab_len]; omega), tab_len, Nat.sub_self, List.set_cons_zero]
      rw [tab_succ, List.append_assoc] at ih
      exact ih
theorem pwSwings_ev (n i : Nat) (hn : n ≤ 9) (hi : i < n) (g : Nat → Bool) : Ev (fun k => spec_pwSwings.f k (tabB g (2 ^ n)) (i : Int)) (((List.range (2 ^ n)).filter (swB g i)).map fun (x : Nat) => (x : Int)) := by
  have hp := (pow_lt9 hi hn).2
  have hp1 := (pow_lt9 hi hn).1
  unfold spec_pwSwings.f
  have := ev_rangeS (2 ^ n) (fun k j (y : List Int) => spec_pwSwings.l0 k (tabB g (2 ^ n)) (i : Int) y (tabB g (2 ^ n)) ((2 ^ n : Nat) : Int) (j : Int)) (fun j y => y ++ (((List.range (2 ^ n)).drop j).filter (swB g i)).map fun (x : Nat) => (x : Int))
      (fun j y => y.length ≤ j) ?_ ?_ 0 ([] : List Int) (Nat.zero_le _) (Nat.le_refl _)
  · simpa [tabB_len] using this
  · intro y _
    refine ev_succ ?_
    simp only [spec_pwSwings.l0]
    exact ev_neg (Int.lt_irrefl _) (ev_eqv (Ev.now _) (by rw [List.drop_of_length_le (by simp)]; simp))
  · intro j y hj hy ih
    refine ev_succ ?_
    simp only [spec_pwSwings.l0, tabB_len]
    have hd : (List.range (2 ^ n)).drop j = j :: (List.range (2 ^ n)).drop (j + 1) := by rw [List.drop_eq_getElem_cons (by simpa using hj), List.getElem_range]
    rw [hd, List.filter_cons]
    refine ev_pos (by omega) (ev_pos (by omega) (ev_pos (by omega) (ev_pos (by omega) ?_)))
    rw [wrap_succ hj (by omega), rdOf_tab hj]
    refine ev_ite (fun hb => ?_) (fun hb => ?_)
    · rw [tmod_bit j i (by omega)] at hb
      refine ev_bool (fun e => ?_) (fun e => ?_)
      · rw [if_neg (by simp [swB, e])]; exact ih y (by omega)
      · have hw : wrap64 ((j : Int) + shl .i64 1 (i : Int)) = ((j + 2 ^ i : Nat) : Int) := by
          rw [shl_one_nat i (by omega)]
          generalize 2 ^ i = q at *
          unfold wrap64; omega
        have hl := add_lt j i n hn hj hi hb
        rw [hw, rdOf_tab hl]
        refine ev_pos (Int.natCast_nonneg _) (ev_pos (Int.ofNat_lt.2 hl) (ev_bool (fun e2 => ?_) (fun e2 => ?_)))
        · refine ev_pos (by omega) (ev_eqv (ih (y ++ [(j : Int)]) (by simp; omega)) ?_)
          rw [if_pos (by simp [swB, e, hb, e2]), List.map_cons, List.append_assoc]; rfl
        · rw [if_neg (by simp [swB, e2])]; exact ih y (by omega)
    · rw [tmod_bit j i (by omega), Bool.not_eq_false] at hb
      rw [if_neg (by simp [swB, hb])]; exact ih y (by omega)
theorem rest_lt (n M : Nat) : 2 ^ n - 1 - M < 2 ^ n := by
  have : 1 ≤ 2 ^ n := Nat.one_le_two_pow
  generalize 2 ^ n = N at *
  omega
def tellA (k a : Int) (g : Nat → Bool) (N : Nat) : Int :=
  if k = 1 then cntB g N 0 else if k = 4 then (if properB g N = true then 1 else 0) else if k = 5 then (if strongB g N = true then 1 else 0) else a
def tellB (k a : Int) (g : Nat → Bool) (N : Nat) : Int :=
  if k = 0 then (if g a.toNat = true then 1 else 0) else if k = 2 then (if g (N - 1 - 2 ^ a.toNat) = true then 0 else 1) else if k = 3 then cntB (swB g a.toNat) N 0 else 0
def AskOk (n : Nat) (k a : Int) : Prop := (k = 0 → 0 ≤ a ∧ a < ((2 ^ n : Nat) : Int)) ∧ (k = 2 → 0 ≤ a ∧ a < (n : Int)) ∧ (k = 3 → 0 ≤ a ∧ a < (n : Int))
theorem clueOk_ask {n : Nat} {k a b : Int} (h : clueOk (n : Int) k a b = true) : AskOk n k a := by
  unfold clueOk at h
  refine ⟨?_, ?_, ?_⟩
  · rintro rfl
    rw [if_pos rfl, Bool.and_eq_true, inB_iff, Int.toNat_natCast] at h
    refine ⟨h.1.1, ?_⟩
    have := h.1.2
    push_cast
    omega
  · rintro rfl
    rw [if_neg (by decide), if_neg (by decide), if_pos rfl, Bool.and_eq_true, inB_iff] at h
    omega
  · rintro rfl
    rw [if_neg (by decide), if_neg (by decide), if_neg (by decide), if_pos rfl, Bool.and_eq_true, inB_iff] at h
    omega
theorem told_ev (n : Nat) (h : 1 ≤ n ∧ n ≤ 9) (g : Nat → Bool) (k a : Int) (hk : 0 ≤ k ∧ k ≤ 5) (ha : AskOk n k a) :
    Ev (fun r => impl_votes_told.f r (n : Int) (tabB g (2 ^ n)) k a) (k, if k = 0 ∨ k = 1 ∨ k = 2 ∨ k = 3 ∨ k = 4 ∨ k = 5 then tellA k a g (2 ^ n) else 0, tellB k a g (2 ^ n)) := by
  have hm : 1 ≤ (n : Int) ∧ (n : Int) ≤ 9 := by omega
  have e0 : (n : Int).toNat = n := Int.toNat_natCast n
  have hj : ∀ x y z : Int, Ev (fun r => impl_votes_told.j0 r x y z) (x, y, z) := fun x y z => by
    refine ev_succ ?_
    simp only [impl_votes_told.j0]
    exact Ev.now _
  have hp : 2 ^ n ≤ 512 := Nat.pow_le_pow_right (n := 2) (by decide) (show n ≤ 9 by omega)
  unfold impl_votes_told.f
  have hcase : k = 0 ∨ k = 1 ∨ k = 2 ∨ k = 3 ∨ k = 4 ∨ k = 5 := by omega
  rw [if_pos hcase]
  rcases hcase with rfl | rfl | rfl | rfl | rfl | rfl
  · obtain ⟨h0, h1⟩ := ha.1 rfl
    obtain ⟨x, rfl⟩ := Int.eq_ofNat_of_zero_le h0
    have hx : x < 2 ^ n := by exact_mod_cast h1
    refine ev_pos rfl (ev_pos h0 (ev_pos (by rw [tabB_len]; exact h1) ?_))
    rw [rdOf_tab hx]
    refine ev_bindS (oneIf_eq _) (ev_eqv (hj _ _ _) ?_)
    unfold tellA tellB
    simp
  · refine ev_neg (by decide) (ev_pos rfl (Ev.bind (countWins_ev _ g _ hp) (ev_eqv (hj _ _ _) ?_)))
    unfold tellA tellB
    simp
  · obtain ⟨h0, h1⟩ := ha.2.1 rfl
    obtain ⟨x, rfl⟩ := Int.eq_ofNat_of_zero_le h0
    have hx : x < n := by exact_mod_cast h1
    have hq := (pow_lt9 hx h.2).1
    have hr := rest_mask (n : Int) hm (2 ^ x) (by rw [e0]; exact hq)
    have hall := all_eq (n : Int) (tabB g (2 ^ n)) hm
    rw [e0] at hr hall
    refine ev_neg (by decide) (ev_neg (by decide) (ev_pos rfl (ev_bindS hall (ev_pos h0 ?_))))
    rw [shl_one_nat x (by omega), hr, tabB_len]
    refine ev_pos (Int.natCast_nonneg _) (ev_pos (Int.ofNat_lt.2 (rest_lt n _)) ?_)
    rw [rdOf_tab (rest_lt n (2 ^ x))]
    refine ev_bindS (oneIf_eq _) (ev_eqv (hj _ _ _) ?_)
    unfold tellA tellB
    simp
    by_cases hg : g (2 ^ n - 1 - 2 ^ x) = true <;> simp [hg]
  · obtain ⟨h0, h1⟩ := ha.2.2 rfl
    obtain ⟨x, rfl⟩ := Int.eq_ofNat_of_zero_le h0
    have hx : x < n := by exact_mod_cast h1
    have hs := swings_ev (n : Int) hm g
    rw [e0] at hs
    refine ev_neg (by decide) (ev_neg (by decide) (ev_neg (by decide) (ev_pos rfl (Ev.bind hs (ev_pos h0 (ev_pos (by rw [tab_len]; exact h1) (ev_eqv (hj _ _ _) ?_)))))))
    rw [rd_get (by rw [tab_len]; exact hx), tab_get]
    unfold tellA tellB
    simp
  · have hs := isProper_ev (n : Int) hm g
    rw [e0] at hs
    refine ev_neg (by decide) (ev_neg (by decide) (ev_neg (by decide) (ev_neg (by decide) (ev_pos rfl (Ev.bind hs (ev_bindS (oneIf_eq _) (ev_eqv (hj _ _ _) ?_)))))))
    unfold tellA tellB
    simp
  · have hs := isStrong_ev (n : Int) hm g
    rw [e0] at hs
    refine ev_neg (by decide) (ev_neg (by decide) (ev_neg (by decide) (ev_neg (by decide) (ev_neg (by decide) (ev_pos rfl (Ev.bind hs (ev_bindS (oneIf_eq _) (ev_eqv (hj _ _ _) ?_))))))))
    unfold tellA tellB
    simp
def tellV (k a : Int) (g : Nat → Bool) (N : Nat) : Int := if k = 1 ∨ 3 < k then tellA k a g N else tellB k a g N
theorem pzValue_ev (n : Nat) (h : 1 ≤ n ∧ n ≤ 9) (g : Nat → Bool) (k a : Int) (hk : 0 ≤ k ∧ k ≤ 5) (ha : AskOk n k a) : Ev (fun r => spec_pzValue.f r k a (tabB g (2 ^ n))) (tellV k a g (2 ^ n)) := by
  have hp : 2 ^ n ≤ 512 := Nat.pow_le_pow_right (n := 2) (by decide) (show n ≤ 9 by omega)
  have h1p : 1 ≤ 2 ^ n := Nat.one_le_two_pow
  unfold spec_pzValue.f
  rw [tabB_len]
  have hw : wrap64 (((2 ^ n : Nat) : Int) - 1) = ((2 ^ n - 1 : Nat) : Int) := by
    generalize 2 ^ n = N at *
    unfold wrap64; omega
  rw [hw]
  have hcase : k = 0 ∨ k = 1 ∨ k = 2 ∨ k = 3 ∨ (k = 4 ∨ k = 5) := by omega
  rcases hcase with rfl | rfl | rfl | rfl | hk45
  · obtain ⟨h0, h1⟩ := ha.1 rfl
    obtain ⟨x, rfl⟩ := Int.eq_ofNat_of_zero_le h0
    have hx : x < 2 ^ n := by exact_mod_cast h1
    refine ev_pos rfl (ev_pos h0 (ev_pos h1 ?_))
    rw [rdOf_tab hx]
    refine ev_bindS (pzOne_eq _) (ev_eqv (Ev.now _) ?_)
    simp [tellV, tellB]
  · exact ev_neg (by decide) (ev_pos rfl (ev_eqv (pzValue_l0 g _ hp) (by simp [tellV, tellA])))
  · obtain ⟨h0, h1⟩ := ha.2.1 rfl
    obtain ⟨x, rfl⟩ := Int.eq_ofNat_of_zero_le h0
    have hx : x < n := by exact_mod_cast h1
    have hq := (pow_lt9 hx h.2).1
    have hw2 : wrap64 (((2 ^ n - 1 : Nat) : Int) - shl .i64 1 (x : Int)) = ((2 ^ n - 1 - 2 ^ x : Nat) : Int) := by
      rw [shl_one_nat x (by omega)]
      generalize 2 ^ n = N at *
      generalize 2 ^ x = M at *
      unfold wrap64; omega
    refine ev_neg (by decide) (ev_neg (by decide) (ev_pos rfl (ev_pos h0 ?_)))
    rw [hw2]
    refine ev_pos (Int.natCast_nonneg _) (ev_pos (Int.ofNat_lt.2 (rest_lt n _)) ?_)
    rw [rdOf_tab (rest_lt n (2 ^ x))]
    refine ev_bindS (pzOne_eq _) (ev_eqv (Ev.now _) ?_)
    simp [tellV, tellB]
    by_cases hg : g (2 ^ n - 1 - 2 ^ x) = true <;> simp [hg]
  · obtain ⟨h0, h1⟩ := ha.2.2 rfl
    obtain ⟨x, rfl⟩ := Int.eq_ofNat_of_zero_le h0
    have hx : x < n := by exact_mod_cast h1
    refine ev_neg (by decide) (ev_neg (by decide) (ev_neg (by decide) (ev_pos rfl (Ev.bind (pwSwings_ev n x h.2 hx g) (ev_eqv (Ev.now _) ?_)))))
    simp [tellV, tellB, cntB]
  · refine ev_neg (by omega) (ev_neg (by omega) (ev_neg (by omega) (ev_neg (by omega) (ev_eqv (pzValue_l1 k hk45 g _ hp h1p) ?_))))
    rcases hk45 with rfl | rfl <;> simp [tellV, tellA]
theorem pzFits_ev (n : Nat) (h : 1 ≤ n ∧ n ≤ 9) (g : Nat → Bool) (k a b : Int) (hk : 0 ≤ k ∧ k ≤ 5) (ha : AskOk n k a) (hb : k = 1 ∨ 3 < k → b = 0) :
    Ev (fun r => spec_pzFits.f r k a b (tabB g (2 ^ n))) (decide (tellA k a g (2 ^ n) = a ∧ tellB k a g (2 ^ n) = b)) := by
  have key : ∀ x, x = decide (k = 1 ∨ 3 < k) → Ev (fun r => spec_pzFits.j0 r (tabB g (2 ^ n)) x k a b) (decide (tellA k a g (2 ^ n) = a ∧ tellB k a g (2 ^ n) = b)) := by
    rintro x rfl
    refine ev_succ ?_
    simp only [spec_pzFits.j0]
    by_cases c : k = 1 ∨ 3 < k
    · refine ev_pos (by simpa using c) (Ev.bind (pzValue_ev n h g k 0 hk ⟨by omega, by omega, by omega⟩) (ev_eqv (Ev.now _) ?_))
      have e1 : tellV k 0 g (2 ^ n) = tellA k a g (2 ^ n) := by
        have : k = 1 ∨ k = 4 ∨ k = 5 := by omega
        rcases this with rfl | rfl | rfl <;> simp [tellV, tellA]
      have e2 : tellB k a g (2 ^ n) = 0 := by
        have : k = 1 ∨ k = 4 ∨ k = 5 := by omega
        rcases this with rfl | rfl | rfl <;> simp [tellB]
      rw [e1, e2, hb c, Bool.eq_iff_iff]; simp
    · refine ev_neg (by simpa using c) (Ev.bind (pzValue_ev n h g k a hk ha) (ev_eqv (Ev.now _) ?_))
      have e1 : tellV k a g (2 ^ n) = tellB k a g (2 ^ n) := by unfold tellV; rw [if_neg c]
      have e2 : tellA k a g (2 ^ n) = a := by
        have : k = 0 ∨ k = 2 ∨ k = 3 := by omega
        rcases this with rfl | rfl | rfl <;> simp [tellA]
      rw [e1, e2, Bool.eq_iff_iff]; simp
  unfold spec_pzFits.f
  exact ev_ite (fun e => key _ (by simp [e])) (fun e => key _ (by simp [e]))
def setK (m : Nat) : List Int := ((List.range 4).filter fun i => m >>> i % 2 == 1).map fun (i : Nat) => (i : Int)
def lookT : Nat → List Bool → Option (List (List Bool))
  | 0, p => some (if rdOf false p ((p.length - 1 : Nat) : Int) = false then [] else if rdOf false p 0 = true then [] else [p])
  | d + 1, p => (mustO p (setK p.length) false).bind fun m => (lookT d (p ++ [true])).bind fun l1 => if m = true then some l1 else (lookT d (p ++ [false])).bind fun l2 => some (l1 ++ l2)
def tabsK (n : Nat) : List (List Bool) := (lookT (2 ^ n) []).getD []
def leastK (t : List Bool) : List (List Int) := sortL lexB (((List.range t.length).filter fun m => t.getD m false && (List.range 4).all fun i => !(m >>> i % 2 == 1 && t.getD (m - 2 ^ i) false)).map setK)
def gamesK (n : Nat) : List (List (List Int)) := sortL lexG ((tabsK n).map leastK)
theorem voList_K : ∀ m : Nat, m < 16 → spec_voList.f 40 (m : Int) = some (setK m) := by decide +kernel
theorem look_K : ∀ n, n < 5 → (lookT (2 ^ n) []).isSome = true := by decide +kernel
theorem gmOf_K : ∀ n : Nat, n < 5 → 1 ≤ n → ∀ t ∈ tabsK n, (spec_gmOf.f 100 n t) = some ((n : Int), leastK t) := by decide +kernel
theorem win_K : ∀ n : Nat, n < 5 → 1 ≤ n → ∀ t ∈ tabsK n, winT n (leastK t) = t := by decide +kernel
theorem games_K1 : (impl_allGames.f 1200 1).map (·.map fun g => (g.f0, g.f1)) = some ((gamesK 1).map fun s => (1, s)) := by decide +kernel
theorem games_K2 : (impl_allGames.f 1200 2).map (·.map fun g => (g.f0, g.f1)) = some ((gamesK 2).map fun s => (2, s)) := by decide +kernel
theorem games_K3 : (impl_allGames.f 1200 3).map (·.map fun g => (g.f0, g.f1)) = some ((gamesK 3).map fun s => (3, s)) := by decide +kernel
theorem games_K4 : (impl_allGames.f 1200 4).map (·.map fun g => (g.f0, g.f1)) = some ((gamesK 4).map fun s => (4, s)) := by decide +kernel
theorem len_K : ∀ n : Nat, n < 5 → 1 ≤ n → ((tabsK n).length ≤ 1000000 ∧ ∀ t ∈ tabsK n, t.length = 2 ^ n) := by decide +kernel
theorem sets_K : ∀ n : Nat, n < 5 → 1 ≤ n → ∀ t ∈ tabsK n, (leastK t).length ≤ 16 ∧ ∀ s ∈ leastK t, isSetB s n = true ∧ s.length ≤ 16 := by decide +kernel
theorem games_K : ∀ n : Nat, n < 5 → 1 ≤ n → (impl_allGames.f 1200 n).map (·.map fun g => (g.f0, g.f1)) = some ((gamesK n).map fun s => ((n : Int), s))
  | 1, _, _ => games_K1
  | 2, _, _ => games_K2
  | 3, _, _ => games_K3
  | 4, _, _ => games_K4
  | n + 5, h, _ => absurd h (by omega)
  | 0, _, h => absurd h (by decide)
theorem any_eq_mem {α : Type} {p q : α → Bool} : ∀ {l : List α}, (∀ x ∈ l, p x = q x) → l.any p = l.any q
  | [], _ => rfl
  | x :: xs, h => by rw [List.any_cons, List.any_cons, h x (List.mem_cons_self ..), any_eq_mem fun y hy => h y (List.mem_cons_of_mem _ hy)]
theorem votesOf_l0 (p : Int → Option Bool) (q : Nat → Bool) (a n : Nat) (m : Int) (hn : n ≤ 1048576) (h : ∀ i, i < n → p (i : Int) = some (q i)) : Ev (fun k => impl_votesOf.l0 p k (n : Int) 0 m (List.replicate n false)) (m, tabB q n) := by
  have := ev_range n (fun k i => impl_votesOf.l0 p k (n : Int) (i : Int) m (tabB q i ++ List.replicate (n - i) false)) (fun _ => (m, tabB q n)) ?_ ?_ 0 (Nat.zero_le _)
  · simpa [tabB] using this
  · refine ev_succ ?_
    simp only [impl_votesOf.l0]
    exact ev_neg (Int.lt_irrefl _) (ev_eqv (Ev.now _) (by simp))
  · intro i hi ih
    refine ev_succ ?_
    simp only [impl_votesOf.l0]
    have hlen : (tabB q i ++ List.replicate (n - i) false).length = n := by rw [List.length_append, tabB_len, List.length_replicate]; omega
    refine ev_pos (by omega) (ev_bindS (h i hi) (ev_pos (by omega) (ev_pos (by rw [hlen]; omega) ?_)))
    rw [wrap_succ hi (Nat.le_trans hn (by decide)), Int.toNat_natCast, show n - i = (n - (i + 1)) + 1 by omega, List.replicate_succ, tabB_set, tabB_next]
    exact ih
theorem votesOf_ev (p : Int → Option Bool) (q : Nat → Bool) (m : Int) (hm : 0 ≤ m ∧ m ≤ 9) (h : ∀ i : Nat, i < 2 ^ m.toNat → p (i : Int) = some (q i)) : Ev (fun k => impl_votesOf.f k m p) (m, tabB q (2 ^ m.toNat)) := by
  have hp : 2 ^ m.toNat ≤ 512 := Nat.pow_le_pow_right (n := 2) (by decide) (show m.toNat ≤ 9 by omega)
  have hs : shl .i64 1 m = ((2 ^ m.toNat : Nat) : Int) := by rw [shl_one m (by omega)]; simp
  have hl0 := votesOf_l0 p q 0 (2 ^ m.toNat) m (by omega) h
  unfold impl_votesOf.f
  refine ev_pos hm.1 ?_
  rw [hs]
  generalize 2 ^ m.toNat = n at *
  have hn2 : (n : Int).toNat ≤ 281474976710656 := by rw [Int.toNat_natCast]; exact Nat.le_trans hp (by decide)
  refine ev_pos (Int.natCast_nonneg n) (ev_pos hn2 (ev_bindS rfl ?_))
  simp only [Int.toNat_natCast, List.length_replicate]
  exact hl0
theorem votesBy_l0 (m : Int) (l : List (List Int)) (hl : l.length ≤ 1048576) (h : SetsOk m l) : Ev (fun k => impl_votesBy.l0 k m l (l.length : Int) 0 []) (m, winT m l) := by
  have := ev_range l.length (fun k i => impl_votesBy.l0 k m l (l.length : Int) (i : Int) ((l.take i).map fun s => ((maskN 0 s : Nat) : Int))) (fun _ => (m, winT m l)) ?_ ?_ 0 (Nat.zero_le _)
  · simpa using this
  · refine ev_succ ?_
    simp only [impl_votesBy.l0]
    refine ev_neg (Int.lt_irrefl _) ?_
    rw [List.take_length]
    unfold votesOf_votesBy.f
    refine Ev.bind (votesOf_ev _ (winB l) m (by have := h.1; omega) (fun i hi => ?_)) (Ev.now _)
    have hp := pow_le512 h.1
    rw [anyO_some (q := fun x => Go.bits .and .i64 (i : Int) x == x) (fun _ _ => rfl), List.any_map]
    congr 1
    unfold winB
    refine any_eq_mem fun s hs => ?_
    obtain ⟨j, hj, rfl⟩ := List.mem_iff_getElem.1 hs
    have hlt := h.lt hj
    unfold mk at hlt
    rw [getD_get hj] at hlt
    exact and_self_nat (by omega) hlt
  · intro i hi ih
    refine ev_succ ?_
    simp only [impl_votesBy.l0]
    refine ev_pos (by omega) (ev_pos (by omega) (ev_pos (by omega) ?_))
    rw [rdL1_get hi, wrap_succ hi (Nat.le_trans hl (by decide))]
    have hm := (h.masks hi).1
    have hk : mk l i = maskN 0 l[i] := by unfold mk; rw [getD_get hi]
    rw [hk] at hm
    refine Ev.bind hm (ev_pos (by rw [List.length_map, List.length_take]; omega) ?_)
    rw [List.take_succ_eq_append_getElem hi, List.map_append] at ih
    exact ih
theorem votesBy_ev (m : Int) (l : List (List Int)) (hl : l.length ≤ 1048576) (h : SetsOk m l) : Ev (fun k => impl_votesBy.f k m l) (m, winT m l) := by
  unfold impl_votesBy.f
  exact votesBy_l0 m l hl h
theorem Game_votes_ev (m : Int) (l : List (List Int)) (hl : l.length ≤ 1048576) (h : SetsOk m l) : Ev (fun k => impl_Game_votes.f k m l) (m, winT m l) := by
  unfold impl_Game_votes.f
  exact Ev.bind (votesBy_ev m l hl h) (Ev.now _)
def mkG (n : Nat) (s : List (List Int)) : S46 := ⟨(n : Int), s⟩
def fitC (n : Nat) (t : List Bool) (c : S72) : Bool := decide (tellA c.f0 c.f1 (fun i => t.getD i false) (2 ^ n) = c.f1 ∧ tellB c.f0 c.f1 (fun i => t.getD i false) (2 ^ n) = c.f2)
def fitA (n : Nat) (l : List S72) (t : List Bool) : Bool := l.all (fitC n t)
def solsK (n : Nat) (l : List S72) : List (List (List Int)) := (gamesK n).filter fun s => fitA n l (winT n s)
def CluesOk (n : Nat) (l : List S72) : Prop := ∀ c ∈ l, clueOk (n : Int) c.f0 c.f1 c.f2 = true
theorem tab_self {N : Nat} (t : List Bool) (h : t.length = N) : tabB (fun i => t.getD i false) N = t := by
  refine List.ext_getElem (by rw [tabB_len, h]) fun i h1 h2 => ?_
  rw [tabB_get, getD_get h2]
theorem clueOk_kind {n k a b : Int} (h : clueOk n k a b = true) : (0 ≤ k ∧ k ≤ 5) ∧ (k = 1 ∨ 3 < k → b = 0) := by
  unfold clueOk at h
  split at h
  · omega
  split at h
  · simp at h; omega
  split at h
  · omega
  split at h
  · omega
  split at h
  · simp at h; omega
  split at h
  · simp at h; omega
  · cases h
theorem fitC_ev {n : Nat} (hn : 1 ≤ n ∧ n ≤ 9) (t : List Bool) (ht : t.length = 2 ^ n) (c : S72) (hc : clueOk (n : Int) c.f0 c.f1 c.f2 = true) : Ev (fun k => spec_pzFits.f k c.f0 c.f1 c.f2 t) (fitC n t c) := by
  obtain ⟨hk, hk2⟩ := clueOk_kind hc
  have := pzFits_ev n hn (fun i => t.getD i false) c.f0 c.f1 c.f2 hk (clueOk_ask hc) hk2
  rwa [tab_self t ht] at this
theorem fitsO_ev {n : Nat} (hn : 1 ≤ n ∧ n ≤ 9) (t : List Bool) (ht : t.length = 2 ^ n) : ∀ (l : List S72), CluesOk n l → Ev (fun k => fitsO k t l) (fitA n l t)
  | [], _ => Ev.now _
  | c :: l, h => by
    have h1 := fitC_ev hn t ht c (h c (List.mem_cons_self ..))
    have h2 := fitsO_ev hn t ht l (fun x hx => h x (List.mem_cons_of_mem _ hx))
    unfold fitA
    rw [List.all_cons]
    refine Ev.bind h1 (ev_bool (fun e => ?_) (fun e => ?_))
    · rw [e]; exact h2
    · rw [e]; exact Ev.now _
theorem look_ev {n : Nat} (hn : 1 ≤ n ∧ n < 5) (l : List S72) (hl : CluesOk n l) : ∀ (d : Nat) (p : List Bool) (ts : List (List Bool)), p.length + d ≤ 16 → lookT d p = some ts → (∀ t ∈ ts, t ∈ tabsK n) →
    Ev (fun k => spec_pzLook.f k n l d p) ((ts.filter (fitA n l)).map fun t => mkG n (leastK t))
  | 0, p, ts, _, h, hm => by
    unfold lookT at h
    obtain rfl := Option.some.inj h
    unfold spec_pzLook.f
    by_cases h1 : rdOf false p ((p.length - 1 : Nat) : Int) = false
    · refine ev_pos h1 (ev_eqv (Ev.now _) ?_)
      rw [if_pos h1]; rfl
    · refine ev_neg h1 ?_
      rw [if_neg h1] at hm ⊢
      by_cases h2 : rdOf false p 0 = true
      · refine ev_pos h2 (ev_eqv (Ev.now _) ?_)
        rw [if_pos h2]; rfl
      · refine ev_neg h2 ?_
        rw [if_neg h2] at hm ⊢
        have hp := hm p (List.mem_singleton.2 rfl)
        refine Ev.bind (fitsO_ev (n := n) ⟨hn.1, by omega⟩ p ((len_K n hn.2 hn.1).2 p hp) l hl) (ev_bool (fun e => ?_) (fun e => ?_))
        · refine Ev.bind (Ev.of (spec_gmOf.mono _ _) (gmOf_K n hn.2 hn.1 p hp)) (ev_eqv (Ev.now _) ?_)
          rw [List.filter_cons_of_pos e]; rfl
        · rw [List.filter_cons_of_neg (by rw [e]; decide)]; exact Ev.now _
  | d + 1, p, ts, hd, h, hm => by
    unfold lookT at h
    obtain ⟨m, hmu, h⟩ := Option.bind_eq_some_iff.mp h
    obtain ⟨l1, h1, h⟩ := Option.bind_eq_some_iff.mp h
    unfold spec_pzLook.f
    refine Ev.bind (Ev.of (spec_voList.mono _) (voList_K p.length (by omega))) (ev_bindS hmu ?_)
    cases m with
    | true =>
      rw [if_pos rfl] at h
      obtain rfl := Option.some.inj h
      exact Ev.bind (look_ev hn l hl d (p ++ [true]) l1 (by rw [List.length_append, List.length_singleton]; omega) h1 hm) (ev_pos rfl (Ev.now _))
    | false =>
      rw [if_neg (by decide)] at h
      obtain ⟨l2, h2, h⟩ := Option.bind_eq_some_iff.mp h
      obtain rfl := Option.some.inj h
      refine Ev.bind (look_ev hn l hl d (p ++ [true]) l1 (by rw [List.length_append, List.length_singleton]; omega) h1 (fun t ht => hm t (List.mem_append_left _ ht))) (ev_neg (by decide) (Ev.bind (look_ev hn l hl d (p ++ [false]) l2 (by rw [List.length_append, List.length_singleton]; omega) h2 (fun t ht => hm t (List.mem_append_right _ ht))) (ev_eqv (Ev.now _) ?_)))
      rw [List.filter_append, List.map_append]
theorem gmBefore_ev (a b : Int) (l1 l2 : List (List Int)) (h1 : l1.length ≤ 1048576) (hx : ∀ x ∈ l1, x.length ≤ 1048576) (hy : ∀ x ∈ l2, x.length ≤ 1048576) : Ev (fun k => spec_gmBefore.f k a l1 b l2) (lexG l1 l2) := by
  unfold spec_gmBefore.f
  have := ev_range l1.length (fun k i => spec_gmBefore.l0 k l1 (l1.length : Int) (i : Int) a l1 b l2) (fun i => lexG (l1.drop i) (l2.drop i)) ?_ ?_ 0 (Nat.zero_le _)
  · simpa using this
  · refine ev_succ ?_
    simp only [spec_gmBefore.l0]
    refine ev_neg (by omega) (ev_eqv (Ev.now _) ?_)
    rw [drop_end]
    by_cases h : l1.length < l2.length
    · rw [List.drop_eq_getElem_cons h]; exact decide_eq_true (by omega)
    · rw [List.drop_of_length_le (Nat.le_of_not_lt h)]; exact decide_eq_false (by omega)
  · intro i hi ih
    refine ev_succ ?_
    simp only [spec_gmBefore.l0]
    refine ev_pos (by omega) (ev_pos (by omega) (ev_pos (by omega) ?_))
    rw [List.drop_eq_getElem_cons hi]
    by_cases h : i < l2.length
    · refine ev_neg (by omega) (ev_pos (by omega) ?_)
      rw [rdL1_get hi, rdL1_get h, wrap_succ hi (Nat.le_trans h1 (by decide)), List.drop_eq_getElem_cons h]
      refine Ev.bind (voBefore_ev _ _ (Nat.le_trans (hx _ (List.getElem_mem hi)) (by decide))) (ev_bool (fun e => ?_) (fun e => ?_))
      · refine ev_eqv (Ev.now _) ?_
        unfold lexG
        rw [if_neg (fun e2 => by rw [e2, lexB_irrefl] at e; cases e)]
        exact e.symm
      · refine Ev.bind (voBefore_ev _ _ (Nat.le_trans (hy _ (List.getElem_mem h)) (by decide))) (ev_bool (fun e2 => ?_) (fun e2 => ?_))
        · refine ev_eqv (Ev.now _) ?_
          unfold lexG
          rw [if_neg (fun e3 => by rw [e3, lexB_irrefl] at e2; cases e2)]
          exact e.symm
        · have := lexB_total _ _ e e2
          unfold lexG
          rw [if_pos this]
          exact ih
    · rw [List.drop_of_length_le (Nat.le_of_not_lt h)]
      exact ev_pos (by omega) (Ev.now _)
theorem sortL_map {α β : Type} (lt : α → α → Bool) (lt' : β → β → Bool) (f : α → β) (h : ∀ a b, lt' (f a) (f b) = lt a b) (l : List α) : sortL lt' (l.map f) = (sortL lt l).map f := by
  have hi : ∀ x (ys : List α), insL lt' (f x) (ys.map f) = (insL lt x ys).map f := by
    intro x ys
    induction ys with
    | nil => rfl
    | cons y ys ih =>
      simp only [List.map_cons, insL, h]
      split
      · rw [ih]; rfl
      · rfl
  have : ∀ (l out : List α), (l.map f).foldl (fun out x => insL lt' x out) (out.map f) = (l.foldl (fun out x => insL lt x out) out).map f := by
    intro l
    induction l with
    | nil => intro out; rfl
    | cons x l ih => intro out; simp only [List.map_cons, List.foldl_cons]; rw [hi]; exact ih _
  exact this l []
def posL {α : Type} (lt : α → α → Bool) (x : α) : List α → Nat
  | [] => 0
  | y :: ys => if lt y x = true then posL lt x ys + 1 else 0
theorem insL_pos {α : Type} (lt : α → α → Bool) (x : α) : ∀ l, l.take (posL lt x l) ++ [x] ++ l.drop (posL lt x l) = insL lt x l
  | [] => rfl
  | y :: ys => by
    have ih := insL_pos lt x ys
    unfold posL insL
    by_cases h : lt y x = true
    · simp only [if_pos h, List.take_succ_cons, List.drop_succ_cons, List.cons_append]; rw [ih]
    · simp only [if_neg h]; rfl
def ltG (a b : S46) : Bool := lexG a.f1 b.f1
def GOk (g : S46) : Prop := g.f1.length ≤ 1048576 ∧ ∀ x ∈ g.f1, x.length ≤ 1048576
theorem pzPos_ev (g : S46) (hg : GOk g) : ∀ (l : List S46) (i : Nat), (∀ x ∈ l, GOk x) → Ev (fun k => pzPos k g l i) (i + posL ltG g l)
  | [], _, _ => Ev.now _
  | x :: xs, i, h => by
    have hx := h x (List.mem_cons_self ..)
    unfold pzPos posL
    refine Ev.bind (gmBefore_ev _ _ _ _ hx.1 hx.2 hg.2) (ev_bool (fun e => ?_) (fun e => ?_))
    · have e' : ltG x g = true := e
      rw [if_pos e']
      exact ev_eqv (pzPos_ev g hg xs (i + 1) (fun y hy => h y (List.mem_cons_of_mem _ hy))) (by omega)
    · have e' : ¬ ltG x g = true := by rw [show ltG x g = false from e]; decide
      rw [if_neg e']; exact Ev.now _
theorem pzSort_ev : ∀ (gs outs : List S46), (∀ x ∈ gs, GOk x) → (∀ x ∈ outs, GOk x) → Ev (fun k => pzSort k gs outs) (gs.foldl (fun out x => insL ltG x out) outs)
  | [], _, _, _ => Ev.now _
  | g :: gs, outs, h, ho => by
    have hg := h g (List.mem_cons_self ..)
    unfold pzSort pzIns
    refine Ev.bind (Ev.bind (ev_eqv (pzPos_ev g hg outs 0 ho) (Nat.zero_add _)) (Ev.now _)) ?_
    rw [insL_pos, List.foldl_cons]
    exact pzSort_ev gs _ (fun x hx => h x (List.mem_cons_of_mem _ hx)) (fun x hx => by
      rcases List.mem_cons.1 ((insL_perm ltG g outs).mem_iff.1 hx) with rfl | h2
      · exact hg
      · exact ho x h2)
theorem solsK_eq {n : Nat} (hn : 1 ≤ n ∧ n < 5) (l : List S72) : sortL ltG (((tabsK n).filter (fitA n l)).map fun t => mkG n (leastK t)) = (solsK n l).map (mkG n) := by
  have e : (((tabsK n).filter (fitA n l)).map fun t => mkG n (leastK t)) = (((tabsK n).map leastK).filter fun s => fitA n l (winT n s)).map (mkG n) := by
    rw [List.filter_map, List.map_map]
    refine congrArg _ (List.filter_congr fun t ht => ?_)
    show fitA n l t = fitA n l (winT n (leastK t))
    rw [win_K n hn.2 hn.1 t ht]
  rw [e, sortL_map lexG ltG (mkG n) (fun _ _ => rfl), sort_filter lexG lexG_ntrans (fun _ _ => lexG_asymm) lexG_total]
  rfl
theorem look_some {n : Nat} (hn : n < 5) : lookT (2 ^ n) [] = some (tabsK n) := by
  have h := look_K n hn
  unfold tabsK
  cases e : lookT (2 ^ n) [] with
  | none => rw [e] at h; cases h
  | some ts => rfl
theorem leastK_ok {n : Nat} (hn : 1 ≤ n ∧ n < 5) {t : List Bool} (ht : t ∈ tabsK n) : GOk (mkG n (leastK t)) := by
  have h := sets_K n hn.2 hn.1 t ht
  exact ⟨Nat.le_trans h.1 (by decide), fun x hx => Nat.le_trans (h.2 x hx).2 (by decide)⟩
theorem pzAll_ev {n : Nat} (hn : 1 ≤ n ∧ n < 5) (l : List S72) (hl : CluesOk n l) : Ev (fun k => spec_pzAll.f k n l) ((solsK n l).map (mkG n)) := by
  unfold spec_pzAll.f
  have h4 : 2 ^ n ≤ 16 := Nat.pow_le_pow_right (n := 2) (by decide) (show n ≤ 4 by omega)
  refine ev_pos (by omega) ?_
  rw [Int.toNat_natCast]
  refine Ev.bind (look_ev hn l hl (2 ^ n) [] (tabsK n) (by simpa using h4) (look_some hn.2) (fun _ h => h)) (ev_pos ?_ (ev_eqv (pzSort_ev _ [] ?_ ?_) (solsK_eq hn l)))
  · rw [List.length_map]
    exact Nat.le_trans (List.length_filter_le _ _) (len_K n hn.2 hn.1).1
  · intro x hx
    obtain ⟨t, ht, rfl⟩ := List.mem_map.1 hx
    exact leastK_ok hn (List.mem_filter.1 ht).1
  · intro x hx; cases hx
theorem allGames_ev {n : Nat} (hn : 1 ≤ n ∧ n < 5) : Ev (fun k => impl_allGames.f k n) ((gamesK n).map (mkG n)) := by
  have h := games_K n hn.2 hn.1
  cases e : impl_allGames.f 1200 n with
  | none => rw [e] at h; cases h
  | some gs =>
    rw [e] at h
    have h2 := Option.some.inj h
    have : gs = (gamesK n).map (mkG n) := by
      have h3 := congrArg (List.map fun (p : Int × List (List Int)) => (⟨p.1, p.2⟩ : S46)) h2
      rw [List.map_map, List.map_map] at h3
      rw [show (gs.map ((fun (p : Int × List (List Int)) => (⟨p.1, p.2⟩ : S46)) ∘ fun g => (g.f0, g.f1))) = gs from (List.map_congr_left (fun _ _ => rfl)).trans (List.map_id _)] at h3
      exact h3
    rw [← this]
    exact Ev.of (impl_allGames.mono _) e
theorem gamesK_mem {n : Nat} {s : List (List Int)} (h : s ∈ gamesK n) : ∃ t ∈ tabsK n, s = leastK t := by
  obtain ⟨t, ht, rfl⟩ := List.mem_map.1 ((sortL_perm lexG _).mem_iff.1 h)
  exact ⟨t, ht, rfl⟩
theorem gamesK_sets {n : Nat} (hn : 1 ≤ n ∧ n < 5) {s : List (List Int)} (h : s ∈ gamesK n) : s.length ≤ 1048576 ∧ SetsOk n s := by
  obtain ⟨t, ht, rfl⟩ := gamesK_mem h
  have h := sets_K n hn.2 hn.1 t ht
  exact ⟨Nat.le_trans h.1 (by decide), ⟨by omega, fun x hx => ⟨(h.2 x hx).1, Nat.le_trans (h.2 x hx).2 (by decide)⟩⟩⟩
theorem solP_ev {n : Nat} (hn : 1 ≤ n ∧ n < 5) (l : List S72) (hl : CluesOk n l) (s : List (List Int)) (hs : s ∈ gamesK n) : Ev (fun k => solP k l (mkG n s)) (!fitA n l (winT n s)) := by
  obtain ⟨h1, h2⟩ := gamesK_sets hn hs
  unfold solP
  refine Ev.bind (Game_votes_ev (n : Int) s h1 h2) ?_
  have e : (!fitA n l (winT n s)) = l.any fun c => !fitC n (winT n s) c := by
    unfold fitA; rw [List.not_all_eq_any_not]
  rw [e]
  refine ev_anyO _ _ l fun c hc => ?_
  obtain ⟨hk, hk2⟩ := clueOk_kind (hl c hc)
  have ht := told_ev n ⟨hn.1, by omega⟩ (fun i => (winT n s).getD i false) c.f0 c.f1 hk (clueOk_ask (hl c hc))
  rw [if_pos (show c.f0 = 0 ∨ c.f0 = 1 ∨ c.f0 = 2 ∨ c.f0 = 3 ∨ c.f0 = 4 ∨ c.f0 = 5 by omega), tab_self (winT n s) (by unfold winT; rw [tabB_len, Int.toNat_natCast])] at ht
  unfold impl_solutions_1_1.f
  refine Ev.bind ht (ev_eqv (Ev.now _) ?_)
  unfold fitC
  rw [Bool.eq_iff_iff]
  simp [Decidable.not_and_iff_or_not]
theorem filO_ev {α : Type} (p : Nat → α → Option Bool) (q : α → Bool) : ∀ l : List α, (∀ x ∈ l, Ev (fun k => p k x) (!q x)) → Ev (fun k => filO (p k) l) (l.filter q)
  | [], _ => Ev.now _
  | x :: xs, h => by
    unfold filO
    refine Ev.bind (h x (List.mem_cons_self ..)) (Ev.bind (filO_ev p q xs (fun y hy => h y (List.mem_cons_of_mem _ hy))) (ev_eqv (Ev.now _) ?_))
    cases e : q x
    · rw [List.filter_cons_of_neg (by rw [e]; decide)]; rfl
    · rw [List.filter_cons_of_pos e]; rfl
theorem solutions_ev {n : Nat} (hn : 1 ≤ n ∧ n < 5) (l : List S72) (hl : CluesOk n l) : Ev (fun k => impl_solutions.f k n l) ((solsK n l).map (mkG n)) := by
  unfold impl_solutions.f
  refine Ev.bind (allGames_ev hn) (ev_pos ?_ ?_)
  · rw [List.length_map]
    unfold gamesK
    rw [(sortL_perm lexG _).length_eq, List.length_map]
    exact (len_K n hn.2 hn.1).1
  · refine ev_eqv (filO_ev (fun k => solP k l) (fun g => fitA n l (winT n g.f1)) _ ?_) ?_
    · intro x hx
      obtain ⟨s, hs, rfl⟩ := List.mem_map.1 hx
      exact solP_ev hn l hl s hs
    · rw [List.filter_map]; rfl
deriving instance DecidableEq for S72
theorem rdI_get {xs : List S72} {i : Nat} (h : i < xs.length) : rd_T72 xs (i : Int) = xs[i] := by unfold rd_T72; rw [Int.toNat_natCast]; exact getD_get h
theorem eqClue_eq (x y : S72) : laws_eqClue.f x.f0 x.f1 x.f2 y.f0 y.f1 y.f2 = some (decide (x = y)) := by
  unfold laws_eqClue.f
  obtain ⟨a, b, c⟩ := x
  obtain ⟨d, e, f⟩ := y
  simp only [S72.mk.injEq]
  repeat' split
  all_goals simp_all
theorem eqClueS_ev (a b : List S72) (ha : a.length ≤ 1152921504606) : Ev (fun k => laws_eqClueS.f k a b) (decide (a = b)) := by
  unfold laws_eqClueS.f
  by_cases hl : a.length = b.length
  · refine ev_pos (by omega) ?_
    refine ev_range a.length (fun k i => laws_eqClueS.l0 k a b (i : Int)) (fun i => decide (a.drop i = b.drop i)) ?_ ?_ 0 (Nat.zero_le _)
    · refine ev_succ ?_
      simp only [laws_eqClueS.l0]
      refine ev_neg (by omega) (ev_eqv (Ev.now _) ?_)
      rw [List.drop_of_length_le (by omega), List.drop_of_length_le (by omega)]; simp
    · intro i hi ih
      have h2 : i < b.length := by omega
      refine ev_succ ?_
      simp only [laws_eqClueS.l0]
      refine ev_pos (by omega) (ev_pos (by omega) (ev_pos (by omega) ?_))
      rw [rdI_get hi, rdI_get h2, eqClue_eq, wrap_succ hi (by omega), eq_drop a b i hi h2]
      refine ev_bool (fun h => ?_) (fun h => ?_)
      · rw [h]; exact ih
      · rw [h]; exact Ev.now _
  · refine ev_neg (by omega) (ev_eqv (Ev.now false) ?_)
    exact (decide_eq_false fun e => hl (by rw [e])).symm
theorem eqPuzzle_ev (m n : Int) (a b : List S72) (ha : a.length ≤ 1152921504606) : Ev (fun k => laws_eqPuzzle.f k m a n b) (decide (m = n ∧ a = b)) := by
  unfold laws_eqPuzzle.f
  by_cases hm : m = n
  · refine ev_pos hm (Ev.bind (eqClueS_ev a b ha) (ev_bool (fun h => ev_eqv (Ev.now _) ?_) (fun h => ev_eqv (Ev.now _) ?_)))
    · exact (decide_eq_true ⟨hm, of_decide_eq_true h⟩).symm
    · exact (decide_eq_false fun e => of_decide_eq_false h e.2).symm
  · exact ev_neg hm (ev_eqv (Ev.now _) (decide_eq_false fun e => hm e.1).symm)
def clueI (x : S79) : S72 := ⟨x.f0, x.f1, x.f2⟩
theorem rdL_get {xs : List S79} {i : Nat} (h : i < xs.length) : rd_T79 xs (i : Int) = xs[i] := by unfold rd_T79; rw [Int.toNat_natCast]; exact getD_get h
theorem toClueS_ev (l : List S79) (hl : l.length ≤ 1152921504606) : Ev (fun k => laws_toClueS.f k l) (l.map clueI) := by
  unfold laws_toClueS.f
  refine ev_pos (by omega) (ev_pos (by omega) ?_)
  rw [Int.toNat_natCast]
  refine ev_range l.length (fun k i => laws_toClueS.l0 k l ((l.take i).map clueI ++ List.replicate (l.length - i) z72) (i : Int)) (fun _ => l.map clueI) ?_ ?_ 0 (Nat.zero_le _)
  · refine ev_succ ?_
    simp only [laws_toClueS.l0]
    exact ev_neg (by omega) (ev_eqv (Ev.now _) (by simp))
  · intro i hi ih
    refine ev_succ ?_
    simp only [laws_toClueS.l0, laws_toClue.f, Option.bind_some]
    refine ev_pos (by omega) (ev_pos (by omega) (ev_pos (by rw [copy_len _ _ _ _ (by omega)]; omega) ?_))
    rw [wrap_succ hi (by omega), Int.toNat_natCast, rdL_get hi, show (⟨l[i].f0, l[i].f1, l[i].f2⟩ : S72) = clueI l[i] from rfl, set_copy clueI _ l i hi]
    exact ih
theorem toPuzzle_ev (m : Int) (l : List S79) (hl : l.length ≤ 1152921504606) : Ev (fun k => laws_toPuzzle.f k m l) (m, l.map clueI) := by
  unfold laws_toPuzzle.f
  exact Ev.bind (toClueS_ev l hl) (Ev.now _)
theorem szPuzzle_eq (m : Int) (l : List S79) (n : Nat) (hn : n ≤ 1048576) (hl : l.length ≤ 9223372036854775807) : ∃ q, laws_szPuzzle.f m l (n : Int) = some q ∧ (¬ q < 0 → l.length ≤ n) := by
  unfold laws_szPuzzle.f laws_szClueS.f
  rw [wrap64_id (by omega)]
  by_cases h : (n : Int) - (l.length : Int) < 0
  · exact ⟨-1, by rw [if_pos h]; rfl, fun h => absurd (by decide) h⟩
  · exact ⟨_, by rw [if_neg h, Option.bind_some, if_neg h], fun _ => by omega⟩
def puzzleOk (m : Int) (l : List S72) : Bool := inB m 1 4 && (decide (l.length ≤ 8) && l.all fun x => clueOk m x.f0 x.f1 x.f2)
theorem pzGood_ev (m : Int) (l : List S72) : Ev (fun k => spec_pzGood.f k m l) (puzzleOk m l) := by
  unfold spec_pzGood.f puzzleOk
  simp only [pzMembers_eq, Option.bind_some]
  refine ev_bool (fun hb => ?_) (fun hb => ?_)
  · rw [hb]
    refine ev_succ ?_
    simp only [spec_pzGood.j0]
    by_cases hl : l.length ≤ 8
    · rw [decide_eq_true hl, decide_eq_false (show ¬ (l.length : Int) > 8 by omega)]
      refine ev_neg (by simp) ?_
      refine ev_range l.length (fun k i => spec_pzGood.l0 k l (l.length : Int) (i : Int) m l) (fun i => (l.drop i).all fun x => clueOk m x.f0 x.f1 x.f2) ?_ ?_ 0 (Nat.zero_le _)
      · refine ev_succ ?_
        simp only [spec_pzGood.l0]
        exact ev_neg (by omega) (ev_eqv (Ev.now _) (by rw [drop_end]; rfl))
      · intro i hi ih
        refine ev_succ ?_
        simp only [spec_pzGood.l0]
        refine ev_pos (by omega) (ev_pos (by omega) (ev_pos (by omega) ?_))
        rw [rdI_get hi, wrap_succ hi (by omega), pzClue_eq _ _ _ _ (inB_iff.1 hb), all_drop _ _ _ hi]
        exact ev_bool (fun h => by rw [h]; exact ih) (fun h => by rw [h]; exact Ev.now _)
    · rw [decide_eq_false hl, decide_eq_true (show (l.length : Int) > 8 by omega)]
      exact ev_pos (by simp) (Ev.now _)
  · rw [hb]
    refine ev_succ ?_
    simp only [spec_pzGood.j0]
    exact ev_pos (by simp) (Ev.now _)
theorem IsPuzzle_eq (m : Int) (l : List S72) : impl_IsPuzzle.f m l = some (puzzleOk m l) := by
  unfold impl_IsPuzzle.f puzzleOk
  rw [isHidden_eq, Option.bind_some]
  refine bind_ite_false fun hb => ?_
  by_cases hl : l.length ≤ 8
  · rw [if_pos (by omega), decide_eq_true hl]
    rw [anyO_some (q := fun x => !clueOk m x.f0 x.f1 x.f2) (fun x _ => by unfold impl_IsPuzzle_1.f; rw [IsClue_eq, hb]; rfl)]
    rw [Option.bind_some, any_not_all]; rfl
  · rw [if_neg (by omega), decide_eq_false hl]; rfl
def solsM (m : Int) (l : List S72) : List S46 := (solsK m.toNat l).map (mkG m.toNat)
theorem puzzleOk_nat {m : Int} {l : List S72} (h : puzzleOk m l = true) : ∃ n : Nat, m = (n : Int) ∧ (1 ≤ n ∧ n < 5) ∧ CluesOk n l ∧ l.length ≤ 8 := by
  unfold puzzleOk at h
  rw [Bool.and_eq_true, Bool.and_eq_true] at h
  have h1 := inB_iff.1 h.1
  have h2 := of_decide_eq_true h.2.1
  have h3 := List.all_eq_true.1 h.2.2
  obtain ⟨n, rfl⟩ := Int.eq_ofNat_of_zero_le (show 0 ≤ m by omega)
  exact ⟨n, rfl, by omega, fun c hc => h3 c hc, h2⟩
theorem sAll_ev {m : Int} {l l2 : List S72} (h : puzzleOk m l = true) (hs : ∀ c ∈ l2, c ∈ l) : Ev (fun k => spec_pzAll.f k m l2) (solsM m l2) := by
  obtain ⟨n, rfl, hn, hc, _⟩ := puzzleOk_nat h
  unfold solsM
  rw [Int.toNat_natCast]
  exact pzAll_ev hn l2 (fun c h => hc c (hs c h))
theorem iAll_ev {m : Int} {l l2 : List S72} (h : puzzleOk m l = true) (hs : ∀ c ∈ l2, c ∈ l) : Ev (fun k => impl_solutions.f k m l2) (solsM m l2) := by
  obtain ⟨n, rfl, hn, hc, _⟩ := puzzleOk_nat h
  unfold solsM
  rw [Int.toNat_natCast]
  exact solutions_ev hn l2 (fun c h => hc c (hs c h))
theorem Solutions_ev (m : Int) (l : List S72) : Ev (fun k => impl_Solutions.f k m l) (if puzzleOk m l = true then (solsM m l, true) else ([], false)) := by
  unfold impl_Solutions.f
  refine ev_bindS (IsPuzzle_eq m l) (ev_bool (fun h => ?_) (fun h => ?_))
  · rw [if_pos h]; exact Ev.bind (iAll_ev h (fun _ h => h)) (Ev.now _)
  · rw [if_neg (by rw [h]; decide)]; exact Ev.now _
def countM (m : Int) (l : List S72) : Int × Bool := if puzzleOk m l = true then (((solsM m l).length : Int), true) else (0, false)
theorem CountSolutions_ev (m : Int) (l : List S72) : Ev (fun k => impl_CountSolutions.f k m l) (countM m l) := by
  unfold impl_CountSolutions.f
  refine Ev.bind (Solutions_ev m l) (ev_eqv (Ev.now _) ?_)
  unfold countM
  split <;> rfl
def solvedM (m : Int) (l : List S72) : Bool × Bool := if puzzleOk m l = true then (((solsM m l).length : Int) == 1, true) else (false, false)
theorem IsSolved_ev (m : Int) (l : List S72) : Ev (fun k => impl_IsSolved.f k m l) (solvedM m l) := by
  unfold impl_IsSolved.f
  refine Ev.bind (CountSolutions_ev m l) (ev_eqv (Ev.now _) ?_)
  unfold countM solvedM
  split <;> rfl
theorem sSolved_ev {m : Int} {l l2 : List S72} (h : puzzleOk m l = true) (hs : ∀ c ∈ l2, c ∈ l) : Ev (fun k => spec_pzSolved.f k m l2) (((solsM m l2).length : Int) == 1) := by
  unfold spec_pzSolved.f
  exact Ev.bind (sAll_ev h hs) (Ev.now _)
theorem rdI_set {xs : List S72} {i : Nat} {v : S72} (h : i < xs.length) : rd_T72 (xs.set i v) (i : Int) = v := by
  rw [rdI_get (by rw [List.length_set]; exact h), List.getElem_set_self]
def mkC (m : Int) (i : Nat) : S72 := ⟨m + 3 * i, m + 3 * i + 1, m + 3 * i + 2⟩
theorem wrap_add1 {x : Int} (h : 0 ≤ x ∧ x ≤ 9223372036854775806) : wrap64 (x + 1) = x + 1 := wrap64_id (by omega)
theorem markClueS_ev (l : List S72) (m : Int) (hl : l.length ≤ 1152921504606) (hm : 0 ≤ m ∧ m ≤ 1152921504606846976) : Ev (fun k => laws_markClueS.f k l m) (m + 3 * l.length, tab (mkC m) l.length) := by
  unfold laws_markClueS.f
  have := ev_range l.length (fun k i => laws_markClueS.l0 k (tab (mkC m) i ++ l.drop i) (m + 3 * i) (i : Int)) (fun _ => (m + 3 * l.length, tab (mkC m) l.length)) ?_ ?_ 0 (Nat.zero_le _)
  · simpa [tab] using this
  · refine ev_succ ?_
    simp only [laws_markClueS.l0]
    refine ev_neg (by rw [tab_drop_len _ _ _ (Nat.le_refl _)]; omega) (ev_eqv (Ev.now _) ?_)
    rw [drop_end, List.append_nil]
  · intro i hi ih
    have hx := tab_drop_len (mkC m) l i (by omega)
    refine ev_succ ?_
    simp only [laws_markClueS.l0]
    refine ev_pos (by omega) (ev_pos (by omega) ?_)
    simp only [Option.bind_some, Int.toNat_natCast]
    rw [wrap_add1 (x := m + 3 * i) (by omega), wrap_add1 (x := m + 3 * i + 1) (by omega), wrap_add1 (x := m + 3 * i + 1 + 1) (by omega)]
    rw [rdI_set (by rw [hx]; exact hi), rdI_set (by rw [List.length_set, hx]; exact hi), List.set_set, List.set_set]
    rw [show (⟨m + 3 * i, m + 3 * i + 1, m + 3 * i + 1 + 1⟩ : S72) = mkC m i by unfold mkC; congr 1; omega, set_tab _ _ _ hi, wrap_succ hi (by omega), show m + 3 * (i : Int) + 1 + 1 + 1 = m + 3 * ((i + 1 : Nat) : Int) by omega]
    exact ih
theorem heldClueS_ev (m : Int) (n : Nat) (hl : n ≤ 1152921504606) (hm : 0 ≤ m ∧ m ≤ 1152921504606846976) : Ev (fun k => laws_heldClueS.f k (tab (mkC m) n) m) (m + 3 * n) := by
  unfold laws_heldClueS.f
  have := ev_range n (fun k i => laws_heldClueS.l0 k (tab (mkC m) n) (m + 3 * i) (i : Int)) (fun _ => m + 3 * n) ?_ ?_ 0 (Nat.zero_le _)
  · simpa using this
  · refine ev_succ ?_
    simp only [laws_heldClueS.l0]
    exact ev_neg (by rw [tab_len]; omega) (Ev.now _)
  · intro i hi ih
    refine ev_succ ?_
    simp only [laws_heldClueS.l0]
    rw [rdI_get (by rw [tab_len]; exact hi), tab_get]
    refine ev_pos (by rw [tab_len]; omega) (ev_pos (by omega) (ev_pos rfl ?_))
    rw [wrap_add1 (x := m + 3 * i) (by omega), wrap_add1 (x := m + 3 * i + 1) (by omega), wrap_add1 (x := m + 3 * i + 1 + 1) (by omega)]
    refine ev_pos rfl (ev_pos (by unfold mkC; simp only []; omega) ?_)
    rw [wrap_succ hi (by omega), show m + 3 * (i : Int) + 1 + 1 + 1 = m + 3 * ((i + 1 : Nat) : Int) by omega]
    exact ih
theorem markPuzzle_ev (n : Int) (l : List S72) (hl : l.length ≤ 1152921504606) : Ev (fun k => laws_markPuzzle.f k n l 1) (1 + 3 * (l.length : Int), tab (mkC 1) l.length) := by
  unfold laws_markPuzzle.f
  exact Ev.bind (markClueS_ev l 1 hl (by omega)) (Ev.now _)
theorem heldPuzzle_ev (a : Int) (n : Nat) (hl : n ≤ 1152921504606) : Ev (fun k => laws_heldPuzzle.f k a (tab (mkC 1) n) 1) (1 + 3 * (n : Int)) := by
  unfold laws_heldPuzzle.f
  exact Ev.bind (heldClueS_ev 1 n hl (by omega)) (ev_neg (by omega) (Ev.now _))
theorem pzWithout_eq (l : List S72) (k : Int) (h : 0 ≤ k ∧ k < (l.length : Int)) (hl : l.length ≤ 8) : spec_pzWithout.f l k = some (l.eraseIdx k.toNat) := by
  obtain ⟨i, rfl⟩ := Int.eq_ofNat_of_zero_le h.1
  unfold spec_pzWithout.f
  have hw : wrap64 ((i : Int) + 1) = ((i + 1 : Nat) : Int) := by unfold wrap64; omega
  simp only [Option.bind_some, hw, Int.toNat_natCast, List.nil_append, List.length_nil, List.length_take, List.length_drop]
  rw [if_pos (by omega), if_pos (by omega), if_pos (by omega), if_pos (by omega), if_pos (by omega), if_pos (by omega), List.eraseIdx_eq_take_drop_succ]
theorem without_eq (l : List S72) (i : Nat) (h : i < l.length) (hl : l.length ≤ 8) : impl_without.f l (i : Int) = some (l.eraseIdx i) := by
  unfold impl_without.f
  rw [if_pos ⟨Int.natCast_nonneg _, Int.ofNat_lt.2 h, by omega⟩, Int.toNat_natCast]
theorem harder_both (m : Int) (l : List S72) (h : puzzleOk m l = true) : ∀ (d : Nat) (x : List S72) (i : Nat), 2 * x.length ≤ d + i → (∀ c ∈ x, c ∈ l) → x.length ≤ 8 → i ≤ x.length →
    ∃ y : List S72, y.length ≤ 8 ∧ Ev (fun k => spec_HarderPuzzle.l0 k x (i : Int) m l) (m, y, true) ∧ Ev (fun k => impl_HarderPuzzle.l0 k x (i : Int) m l) (m, y, true) := by
  intro d
  induction d with
  | zero =>
    intro x i hd hs h8 hi
    have : x.length = 0 := by omega
    refine ⟨x, h8, ev_succ ?_, ev_succ ?_⟩
    · simp only [spec_HarderPuzzle.l0]; exact ev_neg (by omega) (Ev.now _)
    · simp only [impl_HarderPuzzle.l0]; exact ev_neg (by omega) (Ev.now _)
  | succ d ih =>
    intro x i hd hs h8 hi
    by_cases hlt : i < x.length
    · have hw : wrap64 ((i : Int) + 1) = ((i + 1 : Nat) : Int) := by unfold wrap64; omega
      have e1 := pzWithout_eq x (i : Int) ⟨Int.natCast_nonneg _, Int.ofNat_lt.2 hlt⟩ h8
      rw [Int.toNat_natCast] at e1
      have e2 := without_eq x i hlt h8
      have hsub : ∀ c ∈ x.eraseIdx i, c ∈ l := fun c hc => hs c (List.mem_of_mem_eraseIdx hc)
      have hle : (x.eraseIdx i).length = x.length - 1 := by rw [List.length_eraseIdx, if_pos hlt]
      by_cases hc : ((solsM m (x.eraseIdx i)).length : Int) = 1
      · obtain ⟨y, y1, y2, y3⟩ := ih (x.eraseIdx i) i (by omega) hsub (by omega) (by omega)
        refine ⟨y, y1, ev_succ ?_, ev_succ ?_⟩
        · simp only [spec_HarderPuzzle.l0]
          refine ev_pos (by omega) (ev_bindS e1 (Ev.bind (sSolved_ev h hsub) (ev_pos (by rw [beq_iff_eq]; exact hc) y2)))
        · simp only [impl_HarderPuzzle.l0]
          refine ev_pos (by omega) (ev_bindS e2 (Ev.bind (iAll_ev h hsub) (ev_pos hc y3)))
      · obtain ⟨y, y1, y2, y3⟩ := ih x (i + 1) (by omega) hs h8 (by omega)
        refine ⟨y, y1, ev_succ ?_, ev_succ ?_⟩
        · simp only [spec_HarderPuzzle.l0, hw]
          refine ev_pos (by omega) (ev_bindS e1 (Ev.bind (sSolved_ev h hsub) (ev_neg (by rw [beq_iff_eq]; exact hc) y2)))
        · simp only [impl_HarderPuzzle.l0, hw]
          refine ev_pos (by omega) (ev_bindS e2 (Ev.bind (iAll_ev h hsub) (ev_neg hc y3)))
    · refine ⟨x, h8, ev_succ ?_, ev_succ ?_⟩
      · simp only [spec_HarderPuzzle.l0]; exact ev_neg (by omega) (Ev.now _)
      · simp only [impl_HarderPuzzle.l0]; exact ev_neg (by omega) (Ev.now _)
theorem HarderPuzzle_both (m : Int) (l : List S72) : ∃ r : Int × List S72 × Bool, r.2.1.length ≤ 8 ∧ Ev (fun k => spec_HarderPuzzle.f k m l) r ∧ Ev (fun k => impl_HarderPuzzle.f k m l) r := by
  by_cases h : puzzleOk m l = true
  · obtain ⟨_, _, _, _, hl8⟩ := puzzleOk_nat h
    by_cases hc : (((solsM m l).length : Int) == 1) = true
    · obtain ⟨y, y1, y2, y3⟩ := harder_both m l h (2 * l.length) l 0 (by omega) (fun _ h => h) hl8 (Nat.zero_le _)
      refine ⟨(m, y, true), y1, ?_, ?_⟩
      · unfold spec_HarderPuzzle.f
        refine Ev.bind (pzGood_ev m l) (ev_pos h (Ev.bind (sSolved_ev h (fun _ h => h)) (ev_succ ?_)))
        rw [hc]
        simp only [spec_HarderPuzzle.j0, Option.bind_some, List.length_nil, List.nil_append]
        exact ev_neg (by decide) (ev_pos (by omega) y2)
      · unfold impl_HarderPuzzle.f
        refine Ev.bind (ev_eqv (IsSolved_ev m l) (show solvedM m l = (true, true) by unfold solvedM; rw [if_pos h, hc])) (ev_pos rfl (ev_bindS (show impl_Clue_63.f l = some l by unfold impl_Clue_63.f; rw [if_pos (by omega)]) y3))
    · have hc' : (((solsM m l).length : Int) == 1) = false := Bool.eq_false_iff.2 hc
      refine ⟨(0, [], false), by simp, ?_, ?_⟩
      · unfold spec_HarderPuzzle.f
        refine Ev.bind (pzGood_ev m l) (ev_pos h (Ev.bind (sSolved_ev h (fun _ h => h)) (ev_succ ?_)))
        rw [hc']
        simp only [spec_HarderPuzzle.j0]
        exact ev_pos (by simp) (Ev.now _)
      · unfold impl_HarderPuzzle.f
        exact Ev.bind (ev_eqv (IsSolved_ev m l) (show solvedM m l = (false, true) by unfold solvedM; rw [if_pos h, hc'])) (ev_neg (by decide) (Ev.now _))
  · refine ⟨(0, [], false), by simp, ?_, ?_⟩
    · unfold spec_HarderPuzzle.f
      refine Ev.bind (pzGood_ev m l) (ev_neg h (ev_succ ?_))
      simp only [spec_HarderPuzzle.j0]
      exact ev_pos (by simp) (Ev.now _)
    · unfold impl_HarderPuzzle.f
      exact Ev.bind (ev_eqv (IsSolved_ev m l) (show solvedM m l = (false, false) by unfold solvedM; rw [if_neg h])) (ev_neg (by decide) (Ev.now _))
theorem FnExactHarderPuzzle_pure (a0_0 : Int) (l0_1 : List S79) (g0 : I64 a0_0 ∧ ∀ y ∈ l0_1, I64 y.f0 ∧ I64 y.f1 ∧ I64 y.f2) (hl : l0_1.length ≤ 9223372036854775807) : ∃ k, laws_FnExactHarderPuzzle.f k a0_0 l0_1 = some true := by
  refine Ev.rounds ?_
  unfold laws_FnExactHarderPuzzle.f
  obtain ⟨q, hq, hq2⟩ := szPuzzle_eq a0_0 l0_1 1048576 (by decide) hl
  refine ev_bindS hq ?_
  by_cases h : q < 0
  · exact ev_pos h (Ev.now _)
  have hn := hq2 h
  refine ev_neg h ?_
  have ht := toPuzzle_ev a0_0 l0_1 (by omega)
  have hm : (l0_1.map clueI).length ≤ 1152921504606 := by rw [List.length_map]; omega
  obtain ⟨r, hr8, es, ei⟩ := HarderPuzzle_both a0_0 (l0_1.map clueI)
  have hr : r.2.1.length ≤ 1152921504606 := by omega
  have er := eqPuzzle_ev r.1 r.1 r.2.1 r.2.1 hr
  have ep := eqPuzzle_ev a0_0 a0_0 (l0_1.map clueI) (l0_1.map clueI) hm
  have eh := heldPuzzle_ev r.1 r.2.1.length hr
  refine Ev.bind ht (Ev.bind es (Ev.bind ei (Ev.bind er (ev_pos (by simp) (ev_pos rfl (Ev.bind ep (ev_pos (by simp) (Ev.bind (markPuzzle_ev _ _ hm) (ev_neg (by simp only []; omega) ?_)))))))))
  exact Ev.bind (markPuzzle_ev _ _ hr) (Ev.bind eh (ev_neg (by omega) (ev_pos rfl (Ev.now _))))
end Go.Proofs.YtgjakcpbfbfejaaGreat.Q
end
section
namespace Go.Proofs.YtgjakcpbfbfejaaGreat.Q
open Go.RowKit Go.Proofs.YtgjakcpbfbfejaaGreatW.PrintWords Go.Proofs.YtgjakcpbfbfejaaGreatW.PrintLast Go.Proofs.YtgjakcpbfbfejaaGreatW.PrintMore
set_option linter.unusedVariables false
set_option linter.unusedSimpArgs false
set_option maxRecDepth 100000
section
variable {H : Type} {enc : TypeId × Value → H} {W : World}
instance : Inhabited S79 := ⟨z79⟩
theorem opens_Clue : Opens enc Tryz.prog W 79 k79 (fun x => I64 x.f0 ∧ I64 x.f1 ∧ I64 x.f2) :=
  opens_iso _ (fun x => ⟨x.1, x.2.1, x.2.2⟩) (fun _ => rfl) (opens_triple Tryz.underlying79 (by kernel_rfl) rfl rfl rfl (by kernel_rfl) (by kernel_rfl) (by kernel_rfl) (opens_int Tryz.underlying3) (opens_int Tryz.underlying3) (opens_int Tryz.underlying3))
theorem opens_Puzzle : Opens enc Tryz.prog W 24 (Kd.pair (Kd.int .i64) (Kd.slice 79 k79)) (fun x => I64 x.1 ∧ ∀ y ∈ x.2, I64 y.f0 ∧ I64 y.f1 ∧ I64 y.f2) :=
  opens_pair Tryz.underlying24 (by kernel_rfl) rfl rfl (by kernel_rfl) (by kernel_rfl) (opens_int Tryz.underlying3) (opens_slice Tryz.underlying22 (by kernel_rfl) opens_Clue)
end
open Go.ChangeShapes Go.WideShapes Go.ChangeAt Go.Deep
section
variable {H : Type} {enc : TypeId × Value → H} {W : World} {r : Reach} {b0 : Nat} {v : Value} {y : DataW H} {p : List MemPlace}
theorem arg_Puzzle (hv : Value.okWide Tryz.prog W r b0 24 v) (hr : DataW.Trod enc Tryz.prog W 0 (fun _ => true) true 24 v y p) :
    ∃ a A c l, v = .agg #[.int .i64 a, .slice A (l : List S79).length c] ∧ l.length ≤ c ∧ Kd.C k79 W A l.length l ∧ I64 a ∧ ∀ y ∈ l, I64 y.f0 ∧ I64 y.f1 ∧ I64 y.f2 := by
  obtain ⟨x, ⟨l⟩, rfl, k, g⟩ := open_struct Tryz.underlying24 hv hr opens_Puzzle
  obtain ⟨_, _, rfl, rfl, ⟨A, c, rfl, hl, hC⟩⟩ := k
  exact ⟨_, A, c, _, rfl, hl, hC, g⟩
end
end Go.Proofs.YtgjakcpbfbfejaaGreat.Q
end
section
namespace Go.Proofs.YtgjakcpbfbfejaaGreat.fnExactHarderPuzzle
open Go.ChangeShapes Go.WideShapes Go.ChangeAt Go.RowKit Go.Proofs.YtgjakcpbfbfejaaGreat.Q
open Go.ChangeMaps (open_string shut_string)
set_option linter.unusedVariables false
theorem own : ownKnob Tryz.prog.godebug = none := by kernel_rfl
theorem laidOut : laidOutB Tryz.prog = true := by kernel_rfl
set_option maxRecDepth 100000 in
theorem lifted (os : Os) (started : os.Started) (H : Type) (enc : TypeId × Value → H) :
    ReturnsInHanded {} Tryz.checked os 8 .any (Rows.fnExactHarderPuzzleSpec.pre6 enc Tryz.prog Tryz.f8 Rows.fnExactHarderPuzzleRow.domain false) (Rows.fnExactHarderPuzzleSpec.post enc Tryz.prog Tryz.f8 false true false false) := by
  refine returnsInHanded_of_change_sized (C := Tryz.checked) own started (by kernel_rfl) Tryz.func8
    (ChangeSpec.witness6 (enc := enc) (C := Tryz.checked) false ⟨#[], #[.agg #[.int .i64 0, .slice none 0 0]], []⟩ 8 (by kernel_rfl) (by kernel_rfl) (by kernel_rfl) (by kernel_rfl)) ?_
  intro W base args ds gs before hval0 hW hcnd hsz0 _
  have hsz : (DataW.weightsEach Tryz.prog (Tryz.f8.params.toList ++ Rows.fnExactHarderPuzzleSpec.plain.varTypes Tryz.prog) (ds ++ gs)).all (· ≤ reachBytes) = true := hsz0
  have hval : ∀ (j : Nat) t v, Tryz.f8.params[j]? = some t → args[j]? = some v → Value.okWide Tryz.prog W .any base t v := hval0
  have hW' := hW
  obtain ⟨p, q, hA0, hV, rfl, hfz, hnd⟩ := hW
  have hA : DataW.TrodAll enc Tryz.prog W 0 (fun _ => true) true Tryz.f8.params.toList args.toList ds p := hA0
  rw [Tryz.params8] at hA hval hsz
  obtain ⟨v0, vs0, d0, ds0, p0, q0, hargs, rfl, rfl, h0, r0⟩ := trodAll_cons hA
  obtain ⟨rfl, rfl, rfl⟩ := trodAll_nil r0
  obtain rfl : args = #[v0] := by cases args; simp_all
  obtain ⟨rfl, rfl⟩ := trodVars_none hV
  have k0 := h0
  have lt0 : ∀ x ∈ p0, x.block < W.heap.size := by obtain ⟨m, hm⟩ := k0; exact DataW.trod_lt m _ _ _ hm
  obtain ⟨a0_0, A0_1, c0_1, l0_1, rfl, hc0_1, hr0_1, g0⟩ := arg_Puzzle (hval 0 24 v0 rfl rfl) h0
  clear hA0 hval0 hsz0 hsz
  obtain ⟨k, hk⟩ := FnExactHarderPuzzle_pure a0_0 l0_1 g0 hr0_1.2.1
  refine (laws_FnExactHarderPuzzle.calls k a0_0 A0_1 c0_1 l0_1 true W hr0_1 hc0_1 hk).mono fun e W' ⟨he, bel⟩ => ?_
  subst he
  exact ⟨_, rfl, _, _, _, [], _, [], hW', trodAll_mk1 (shut_bool Tryz.underlying4 _), (trodAll_cons_mk (Below.trod laidOut (by kernel_rfl) (of_decide_eq_true (by kernel_rfl)) k0 bel lt0) trodAll_mk0), rfl, bel.frame _, fun h => by cases h⟩
theorem over : Rows.fnExactHarderPuzzleRow.holds Tryz.pinned (OpenSpec.ofChange Rows.fnExactHarderPuzzleSpec) :=
  OpenClaim.holds_of_wide 8 Tryz.f8 rfl rfl rfl rfl rfl rfl rfl ⟨rfl, rfl, rfl, rfl, rfl⟩ rfl rfl rfl rfl rfl (by kernel_rfl) Tryz.func8 (by kernel_rfl)
    (of_decide_eq_true (by kernel_rfl)) (by unfold Func.isWrapper; first | (rw [if_pos (by decide +kernel)]; kernel_rfl) | (rw [if_neg (by decide +kernel)]; exact ⟨rfl, rfl⟩))
    (fun os started H enc _ => lifted os started H enc)
theorem proved : Rows.FnExactHarderPuzzleSaid := over
end Go.Proofs.YtgjakcpbfbfejaaGreat.fnExactHarderPuzzle
namespace Go.Proofs.YtgjakcpbfbfejaaGreat
theorem fnExactHarderPuzzle_holds : Rows.FnExactHarderPuzzleSaid := fnExactHarderPuzzle.proved
end Go.Proofs.YtgjakcpbfbfejaaGreat
end
#print axioms Go.Proofs.YtgjakcpbfbfejaaGreat.fnExactHarderPuzzle_holds

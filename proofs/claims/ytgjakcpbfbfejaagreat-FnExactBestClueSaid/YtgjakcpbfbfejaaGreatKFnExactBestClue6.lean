/- The row of the law FnExactBestClue: for every input it returns true, and its arguments read afterwards as before. No condition: FnExactBestClue_pure says that its pure form answers true at every input, and laws_FnExactBestClue.calls that the machine comes to just that. -/
import Derived.Test.YtgjakcpbfbfejaaGreatKFnExactBestClue5
import Derived.Test.YtgjakcpbfbfejaaGreatRows
import Derived.ProofKit
import Derived.OpenShut
import Derived.ShutString
import Derived.ChangeOld
import Derived.SizedLaws
import Derived.Deep.Slices
import Derived.Deep.Strs
section
namespace Go.Proofs.YtgjakcpbfbfejaaGreat.Q
open Go.RowKit Go.Proofs.YtgjakcpbfbfejaaGreatW.PrintWords Go.Proofs.YtgjakcpbfbfejaaGreatW.PrintLast Go.Proofs.YtgjakcpbfbfejaaGreatW.PrintMore
attribute [local go_sem] max2_int min2_int max_two min_two max_three min_three max_four min_four
set_option linter.unusedVariables false
set_option linter.unusedSimpArgs false
def impl_allGames.l0 : Nat → Int → List (S46) → List Int → Int → Int → Option ((List (S46)))
 | 0, _, _, _, _, _ => none
 | k + 1, x0, x3, x9, x10, x11 => if x11 < x10 then (if 0 ≤ x11 then (if x11 < (x9.length : Int) then ((votesOf_allGames.f k x0 (rd x9 x11)).bind fun bt274 => (if 0 < (bt274.2.length : Int) then (if rdOf false bt274.2 0 = true then (impl_allGames.l0 k x0 x3 x9 x10 (wrap64 (x11 + 1))) else ((impl_votes_all.f bt274.1 bt274.2).bind fun t280 => (if 0 ≤ t280 then (if t280 < (bt274.2.length : Int) then (if rdOf false bt274.2 t280 = true then ((impl_votes_game.f k bt274.1 bt274.2).bind fun bt282 => (if x3.length < 4398046511104 then (impl_allGames.l0 k x0 (x3 ++ [(⟨bt282.1, bt282.2⟩ : S46)]) x9 x10 (wrap64 (x11 + 1))) else (none))) else (impl_allGames.l0 k x0 x3 x9 x10 (wrap64 (x11 + 1)))) else (none)) else (none)))) else (none))) else (none)) else (none)) else ((sortGames.f x3).bind fun t_ => (some t_))
def impl_allGames.f (k : Nat) (a0 : Int) : Option ((List (S46))) := (impl_tables.f k a0).bind fun t269 => (impl_allGames.l0 k a0 (([] : List (S46))) t269 (t269.length : Int) 0)
theorem impl_allGames.mono_l : ∀ k, (∀ y0 y1 y2 y3 y4, LeO (impl_allGames.l0 k y0 y1 y2 y3 y4) (impl_allGames.l0 (k + 1) y0 y1 y2 y3 y4))
 | 0 => fun _ _ _ _ _ r h => by simp [impl_allGames.l0] at h
 | k + 1 => by
  have ih0 := impl_allGames.mono_l k
  ·intro y0 y1 y2 y3 y4
   unfold impl_allGames.l0
   repeat' first
   | (with_reducible exact ih0 _ _ _ _ _)
   | (with_reducible exact impl_tables.mono _ _)
   | (with_reducible exact impl_votes_game.mono _ _ _)
   | (with_reducible exact votesOf_allGames.mono _ _ _)
   | (with_reducible exact LeO.refl _)
   | (with_reducible exact LeO.none _)
   | (with_reducible refine LeO.ite ?_ ?_)
   | (with_reducible refine LeO.bind ?_ (fun _ => ?_))
   | exact ih0 _ _ _ _ _
   | exact impl_tables.mono _ _
   | exact impl_votes_game.mono _ _ _
   | exact votesOf_allGames.mono _ _ _
   | exact LeO.none _
   | refine LeO.ite ?_ ?_
   | refine LeO.bind ?_ (fun _ => ?_)
theorem impl_allGames.mono : ∀ a0 k, LeO (impl_allGames.f k a0) (impl_allGames.f (k + 1) a0) := by
 intro a0 k
 have ih0 := impl_allGames.mono_l k
 unfold impl_allGames.f
 repeat' first
   | (with_reducible exact ih0 _ _ _ _ _)
   | (with_reducible exact impl_tables.mono _ _)
   | (with_reducible exact impl_votes_game.mono _ _ _)
   | (with_reducible exact votesOf_allGames.mono _ _ _)
   | (with_reducible exact LeO.refl _)
   | (with_reducible exact LeO.none _)
   | (with_reducible refine LeO.ite ?_ ?_)
   | (with_reducible refine LeO.bind ?_ (fun _ => ?_))
   | exact ih0 _ _ _ _ _
   | exact impl_tables.mono _ _
   | exact impl_votes_game.mono _ _ _
   | exact votesOf_allGames.mono _ _ _
   | exact LeO.none _
   | refine LeO.ite ?_ ?_
   | refine LeO.bind ?_ (fun _ => ?_)
def impl_allGames.T6 : Bool × List (List Nat × List Nat) := (true, [([], []), ([0], [0]), ([1], [1]), ([2], [2]), ([3], [3]), ([4], [4]), ([5], [5]), ([6, 5], [5, 6]), ([5], [5]), ([8, 5, 5], [5, 8]), ([7, 9, 5], [5, 7, 9]), ([10, 5], [5, 10]), ([5, 11], [5, 11])])
def impl_allGames.B6 : List Nat := [0, 1, 3, 7, 15, 31, 63, 127, 63, 319, 1023, 2047, 4095]
theorem impl_allGames.tab6 : rtab .any (opsOf Tryz.f78 6) = impl_allGames.T6 := by kernel_rfl
theorem impl_allGames.bits6 : waitsOk impl_allGames.T6.2 impl_allGames.B6 = true := by kernel_rfl
set_option maxHeartbeats 8000000 in
set_option maxRecDepth 100000 in
theorem impl_allGames.calls (k : Nat) (a0 : Int) (r : List (S46)) (w : World) (h : impl_allGames.f k a0 = some r) :
  Calls Tryz.prog 78 #[.int .i64 a0] w fun e w' => ∃ v0_ : Value, e = .returned (v0_) ∧ Kd.R k46 46 w' w.heap.size (fun _ => True) v0_ r ∧ Below w.heap.size w w' := by
 have hu86 := Tryz.underlying86
 have HB := Aside0.mk (Below.refl w.heap.size w)
 have H : ((impl_tables.f k a0).bind fun t269 => (impl_allGames.l0 k a0 (([] : List (S46))) t269 (t269.length : Int) 0)) = some r := h
 clear h
 obtain ⟨y266, hy266⟩ : ∃ y_ : List (S46), y_ = (([] : List (S46))) := ⟨_, rfl⟩
 replace H : ((impl_tables.f k a0).bind fun t269 => (impl_allGames.l0 k a0 y266 t269 (t269.length : Int) 0)) = some r := by first | (rw [hy266]; with_reducible exact H) | (have H2_ := (Option.bind_some _ _).symm.trans H; rw [hy266]; with_reducible exact H2_) | (have H2_ := (Option.bind_some _ _).symm.trans H; with_reducible exact H2_) | with_reducible exact H | (rw [hy266]; exact H) | exact H
 have Ny266 := Aside0.mk hy266
 clear hy266
 replace H := Option.bind_eq_some_iff.mp H
 obtain ⟨t269, A20, H⟩ := H
 replace H : (impl_allGames.l0 k a0 y266 t269 (t269.length : Int) 0) = some r := H
 have A2 := Aside0.mk A20
 clear A20
 have H' := Aside0.mk H
 clear H
 go_enter Tryz.func78, Tryz.ntmps78
 go_wp2_with (first | ((with_reducible refine gate_dst (N := 7) rfl ?_); refine Kd.R_lit k46 _ 46 ?hg (N := 7) ?hd (xs := ([] : List (S46))) (inner := []) (ok := fun _ => True) (okp := fun _ => True) ?hr ?hp (fun _ hk => hk) trivial (Below.refl _ _) (Nat.le_refl _) (by simp) ?_; (case hd => rfl); (case hg => rfl); (case hr => first | (go_simp; done) | (go_simp; rfl)); (case hp => exact (Reps.none _ _)); intro v267 w3 ho4 hb hg_ hnew_; clear hg_ hnew_; (first | rw [← Ny266.out] at ho4 | (simp only [Int.reduceToNat] at ho4; rw [← Ny266.out] at ho4)); have n0_ := Aside0.mk (Kd.R_lower ho4 (below_size (zh HB.out))); have n1_ := Aside0.mk (below_step (zh HB.out) hb); clear HB; have HO268 := n0_; have HB := n1_; clear n0_ n1_; clear hb ho4) | ((with_reducible refine gate_callee (f := 99) rfl ?_); refine goesL_ (some 9) rfl rfl Tryz.func99 (by kernel_rfl) rfl #[.int .i64 a0] rfl (by (try simp only [List.map_toArray, List.map_cons, List.map_nil]); first | done | rfl | (simp only [List.length_drop, List.length_take]; rfl)) ?_; (with_reducible refine (impl_tables.calls k a0 t269 _ A2.out).mono ?_); rintro e w5 ⟨v270, rfl, ho0, hb⟩; refine ⟨_, rfl, ?_⟩; have n0_ := Aside0.mk (Kd.R_elder' (zr HO268.out) (Kd.R_base ho0) hb); have n1_ := Aside0.mk (Kd.R_lower ho0 (below_size (zh HB.out))); have n2_ := Aside0.mk (below_step (zh HB.out) hb); clear HO268; clear HB; have HO268 := n0_; have HO271 := n1_; have HB := n2_; clear n0_ n1_ n2_; (try clear hb); (try clear hb2); (try clear hk); (try clear hi); (try clear ho0); obtain ⟨Ao6, co6, eo6⟩ := Kd.R_slice HO271.out; subst eo6))
 go_loopg [3, 11] k (fun kq v3 v11 w' => ∃ (x3_1 : List (S46)) (x11_1 : Int), v11 = .int .i64 x11_1 ∧ Aside0 (impl_allGames.l0 kq a0 x3_1 t269 (t269.length : Int) x11_1 = some r) ∧ Aside0 (kq ≤ k) ∧ Aside0 (Kd.R k46 46 w' w.heap.size (fun k_ => some k_ ≠ ((.slice Ao6 t269.length co6) : Value).ownBlock) v3 x3_1) ∧ Aside0 (Kd.R (Kd.int .i64) 3 w' w.heap.size (fun _ => True) (.slice Ao6 t269.length co6) t269) ∧ Aside0 (Below w.heap.size w w'))
 case atStart => exact ⟨(y266), (0), (by first | rfl | (simp; done) | (simp [*]; done)), H', ⟨Nat.le_refl _⟩, ⟨by (with_reducible repeat (first | apply Kd.R_alloc | apply Kd.R_drewN | apply Kd.R_drew)); exact Kd.R_mono HO268.out (fun _ hk => hk.2)⟩, ⟨by (with_reducible repeat (first | apply Kd.R_alloc | apply Kd.R_drewN | apply Kd.R_drew)); exact HO271.out⟩, ⟨by repeat (first | (with_reducible first | exact HB.out | apply below_alloc | apply pw_below_drewN | apply below_drew1) | exact HB.out)⟩⟩
 case round =>
  clear H'
  try clear p2
  obtain ⟨x3_1, x11_1, rfl, HA, HK1, HO_3, HO_9, HB⟩ := hrel
  cases gk with
  | zero => exact absurd HA.out (by simp [impl_allGames.l0])
  | succ k1 =>
   have H := HA.out
   clear HA
   simp only [impl_allGames.l0] at H
   by_cases c7 : x11_1 < (t269.length : Int)
   rotate_left
   ·rw [if_neg c7] at H
    have c7b0 : decide (x11_1 < (t269.length : Int)) = false := decide_eq_false c7
    clear c7
    replace H := Option.bind_eq_some_iff.mp H
    obtain ⟨t_, A540, H⟩ := H
    replace H : (some t_) = some r := H
    have A54 := Aside0.mk A540
    clear A540
    obtain rfl := Option.some.inj H
    obtain ⟨Ao55, co55, eo55⟩ := Kd.R_slice HO_3.out
    subst eo55
    go_wp2_with (first | ((with_reducible refine gate_callee (f := 105) rfl ?_); refine goesL_ (some 38) rfl rfl Tryz.func105 (by kernel_rfl) rfl #[.slice Ao55 x3_1.length co55, .func (.func 106) #[] #[]] rfl (by (try simp only [List.map_toArray, List.map_cons, List.map_nil]); first | done | rfl | (simp only [List.length_drop, List.length_take]; rfl)) ?_; refine (sortGames.calls x3_1 t_ _ _ w.heap.size (fun _ => True) _ ?side1 A54.out).mono ?_; (case side1 => exact Kd.R_mono (zr HO_3.out) (fun _ _ => trivial)); rintro e w' ⟨rfl, hs_, hl_, hg_⟩; refine ⟨_, rfl, ?_⟩; have n0_ := Aside0.mk hs_; have hB_ := ((zh HB.out) : Below w.heap.size w _); have n2_ := Aside0.mk (Below.grown hB_ hg_ (below_size hB_) (Kd.R_base HO_3.out)); (try clear HO_9); clear HO_3; clear HB; have HO_3 := n0_; have HB := n2_; clear n0_ n2_ hs_ hl_ hg_ hB_))
    go_ret
    exact ⟨_, by first | rfl | (simp [*, errW_none, errW_some] <;> rfl), by (with_reducible repeat (first | apply Kd.R_alloc | apply Kd.R_drewN | apply Kd.R_drew)); exact Kd.R_mono HO_3.out (fun _ hk => trivial), by repeat (first | (with_reducible first | exact HB.out | apply below_alloc | apply pw_below_drewN | apply below_drew1) | exact HB.out)⟩
   rw [if_pos c7] at H
   have c7b0 : decide (x11_1 < (t269.length : Int)) = true := decide_eq_true c7
   clear c7
   by_cases c8 : 0 ≤ x11_1
   rotate_left
   ·rw [if_neg c8] at H
    exact absurd H (by simp)
   rw [if_pos c8] at H
   have c8b0 : decide (0 ≤ x11_1) = true := decide_eq_true c8
   clear c8
   by_cases c9 : x11_1 < (t269.length : Int)
   rotate_left
   ·rw [if_neg c9] at H
    exact absurd H (by simp)
   rw [if_pos c9] at H
   have c9b0 : decide (x11_1 < (t269.length : Int)) = true := decide_eq_true c9
   clear c9
   replace H := Option.bind_eq_some_iff.mp H
   obtain ⟨⟨t274, t275⟩, A100, H⟩ := H
   replace H : (if 0 < (t275.length : Int) then (if rdOf false t275 0 = true then (impl_allGames.l0 k1 a0 x3_1 t269 (t269.length : Int) (wrap64 (x11_1 + 1))) else ((impl_votes_all.f t274 t275).bind fun t280 => (if 0 ≤ t280 then (if t280 < (t275.length : Int) then (if rdOf false t275 t280 = true then ((impl_votes_game.f k1 t274 t275).bind fun bt282 => (if x3_1.length < 4398046511104 then (impl_allGames.l0 k1 a0 (x3_1 ++ [(⟨bt282.1, bt282.2⟩ : S46)]) t269 (t269.length : Int) (wrap64 (x11_1 + 1))) else (none))) else (impl_allGames.l0 k1 a0 x3_1 t269 (t269.length : Int) (wrap64 (x11_1 + 1)))) else (none)) else (none)))) else (none)) = some r := H
   have A10 := Aside0.mk A100
   clear A100
   by_cases c11 : 0 < (t275.length : Int)
   rotate_left
   ·rw [if_neg c11] at H
    exact absurd H (by simp)
   rw [if_pos c11] at H
   have c11b0 : decide (0 < (t275.length : Int)) = true := decide_eq_true c11
   have c11b1 : decide (0 < t275.length) = true := decide_eq_true (by omega)
   clear c11
   obtain ⟨bq12, hbq12⟩ : ∃ b_ : Bool, b_ = (rdOf false t275 0) := ⟨_, rfl⟩
   replace H : (if bq12 = true then (impl_allGames.l0 k1 a0 x3_1 t269 (t269.length : Int) (wrap64 (x11_1 + 1))) else ((impl_votes_all.f t274 t275).bind fun t280 => (if 0 ≤ t280 then (if t280 < (t275.length : Int) then (if rdOf false t275 t280 = true then ((impl_votes_game.f k1 t274 t275).bind fun bt282 => (if x3_1.length < 4398046511104 then (impl_allGames.l0 k1 a0 (x3_1 ++ [(⟨bt282.1, bt282.2⟩ : S46)]) t269 (t269.length : Int) (wrap64 (x11_1 + 1))) else (none))) else (impl_allGames.l0 k1 a0 x3_1 t269 (t269.length : Int) (wrap64 (x11_1 + 1)))) else (none)) else (none)))) = some r := by rw [← hbq12] at H; exact H
   have Nbq12 := Aside0.mk hbq12
   clear hbq12
   by_cases c13 : bq12 = true
   ·subst c13
    have H1 : (impl_allGames.l0 k1 a0 x3_1 t269 (t269.length : Int) (wrap64 (x11_1 + 1))) = some r := by rw [if_pos rfl] at H; exact H
    clear H
    have H := H1
    clear H1
    have H' := Aside0.mk H
    clear H
    have p272 : 0 ≤ (x11_1 : Int) := of_decide_eq_true (by first | (with_reducible assumption) | assumption)
    have q272 : x11_1 < (t269.length : Int) := of_decide_eq_true (by first | (with_reducible assumption) | assumption)
    obtain ⟨ad272, e272, hx272_0⟩ := Kd.at_int (Kd.R_reads' HO_9.out).2.2 x11_1 p272 q272
    cases e272
    replace p272 := eq_true p272
    replace q272 := eq_true q272
    try go_wp2_with (first | ((with_reducible refine gate_dst (N := 5) rfl ?_); refine box_event ?hg (N := 5) ?hd (cs := #[.int .i64 0]) (t := 3) ?hr ?_; (case hd => rfl); (case hg => rfl); (case hr => first | (go_simp; done) | (go_simp; rfl)); intro gb273 hg w14 hbox hb; have n0_ := Aside0.mk (Kd.R_below (Kd.R_elderB (zr HO_3.out) gb273 (Nat.le_of_eq hg.symm)) hb); have n1_ := Aside0.mk (Kd.R_below (Kd.R_elderB (zr HO_9.out) gb273 (Nat.le_of_eq hg.symm)) hb); have n2_ := Aside0.mk (below_step (zh HB.out) hb); have n3_ := Aside0.mk (hbox); have n4_ := Aside0.mk ((by rw [hg]; exact (below_size (zh HB.out)) : w.heap.size ≤ gb273)); have n5_ := Aside0.mk ((by rw [hg]; exact (below_size (zh HB.out)) : w.heap.size ≤ gb273)); clear HO_3; clear HO_9; clear HB; have HO_3 := n0_; have HO_9 := n1_; have HB := n2_; have BK273 := n3_; have GW273 := n4_; have GE273 := n5_; clear n0_ n1_ n2_ n3_ n4_ n5_; clear hb hbox hg; have hcz15_0 : w14.cell? ⟨gb273, 0, none⟩ = some (.int .i64 0) := (blk_cell BK273.out 0).trans rfl; have hfz15_0 := blk_frozen BK273.out 0) | ((with_reducible refine gate_callee (f := 100) rfl ?_); refine goesL_ (some 17) rfl rfl Tryz.func100 (by kernel_rfl) rfl #[.int .i64 a0, .func (.func 101) #[] #[.pointer (some ⟨gb273, 0, none⟩)]] rfl (by (try simp only [List.map_toArray, List.map_cons, List.map_nil]); first | done | rfl | (simp only [List.length_drop, List.length_take]; rfl)) ?_; (with_reducible refine (votesOf_allGames.calls k1 a0 (rd t269 x11_1) t274 t275 _ gb273 (by first | exact (blk_cell (zb BK273.out) 0).trans rfl | exact (blk_cell (blk_put (zb BK273.out) 0 _ rfl) 0).trans rfl) A10.out).mono ?_); rintro e w16 ⟨v276, rfl, ho0, hb⟩; refine ⟨_, rfl, ?_⟩; have n0_ := Aside0.mk (Kd.R_below (by (with_reducible repeat (first | apply Kd.R_alloc | apply Kd.R_drewN | apply Kd.R_drew)); exact (Kd.R_mono (Kd.R_far (p := ⟨gb273, 0, none⟩) (Kd.R_mono HO_3.out (fun k_ hk => (⟨hk, hk.2⟩ : _ ∧ k_ ≠ gb273))) (fun _ hk => hk.2) (.int .i64 (rd t269 x11_1))) (fun _ h_ => h_.1))) hb); have n1_ := Aside0.mk (Kd.R_below (by (with_reducible repeat (first | apply Kd.R_alloc | apply Kd.R_drewN | apply Kd.R_drew)); exact (Kd.R_mono (Kd.R_far (p := ⟨gb273, 0, none⟩) (Kd.R_mono HO_9.out (fun k_ hk => (⟨hk, hk.2⟩ : _ ∧ k_ ≠ gb273))) (fun _ hk => hk.2) (.int .i64 (rd t269 x11_1))) (fun _ h_ => h_.1))) hb); have n2_ := Aside0.mk (Kd.R_lower ho0 (below_size (zh HB.out))); have n3_ := Aside0.mk (blk_below (g := gb273) (o := .cells #[.int .i64 (rd t269 x11_1)] 3 (0, 0)) (by (with_reducible repeat (first | refine blk_drewN ?_ _ | refine blk_drew ?_ | refine blk_alloc ?_ _)); refine blk_put (cs := #[.int .i64 0]) ?_ 0 _ rfl; (with_reducible repeat (first | refine blk_drewN ?_ _ | refine blk_drew ?_ | refine blk_alloc ?_ _)); exact BK273.out) hb); have n4_ := Aside0.mk (below_step (zh HB.out) hb); clear HO_3; clear HO_9; clear BK273; clear HB; have HO_3 := n0_; have HO_9 := n1_; have HO277 := n2_; have BK273 := n3_; have HB := n4_; clear n0_ n1_ n2_ n3_ n4_; (try clear hb); (try clear hb2); (try clear hk); (try clear hi); (try clear ho0)) | ((with_reducible refine gate_dst (N := 6) rfl ?_); refine box_event ?hg (N := 6) ?hd (cs := #[.int .i64 0, .slice none 0 0]) (t := 86) ?hr ?_; (case hd => rfl); (case hg => rfl); (case hr => first | (go_simp; done) | (go_simp; rfl)); intro gb278 hg w17 hbox hb; have n0_ := Aside0.mk (Kd.R_below (zr HO_3.out) hb); have n1_ := Aside0.mk (Kd.R_below (zr HO_9.out) hb); have n2_ := Aside0.mk (Kd.R_below (zr HO277.out) hb); have n3_ := Aside0.mk (blk_below (g := gb273) (o := .cells #[.int .i64 (rd t269 x11_1)] 3 (0, 0)) (zb BK273.out) hb); have n4_ := Aside0.mk (below_step (zh HB.out) hb); have n5_ := Aside0.mk (hbox); have n6_ := Aside0.mk ((by rw [hg]; exact (below_size (zh HB.out)) : w.heap.size ≤ gb278)); have n7_ := Aside0.mk ((by rw [hg]; exact (below_size (zh HB.out)) : w.heap.size ≤ gb278)); have n8_ := Aside0.mk ((by rw [hg]; exact Nat.ne_of_lt (blk_lt (g := gb273) (o := .cells #[.int .i64 (rd t269 x11_1)] 3 (0, 0)) (zb BK273.out)) : gb273 ≠ gb278)); have n9_ := Aside0.mk ((by rw [hg]; exact Nat.ne_of_gt (blk_lt (g := gb273) (o := .cells #[.int .i64 (rd t269 x11_1)] 3 (0, 0)) (zb BK273.out)) : gb278 ≠ gb273)); clear HO_3; clear HO_9; clear HO277; clear BK273; clear HB; have HO_3 := n0_; have HO_9 := n1_; have HO277 := n2_; have BK273 := n3_; have HB := n4_; have BK278 := n5_; have GW278 := n6_; have GE278 := n7_; have NB273_278 := n8_; have NB278_273 := n9_; clear n0_ n1_ n2_ n3_ n4_ n5_ n6_ n7_ n8_ n9_; clear hb hbox hg; have hnb18 := NB278_273.out; have hnc18 := NB273_278.out; have hcz19_0 : w17.cell? ⟨gb278, 0, none⟩ = some (.int .i64 0) := (blk_cell BK278.out 0).trans rfl; have hcz19_1 : w17.cell? ⟨gb278, 1, none⟩ = some (.slice none 0 0) := (blk_cell BK278.out 1).trans rfl; have hfz19_0 := blk_frozen BK278.out 0; have hfz19_1 := blk_frozen BK278.out 1; obtain ⟨Ao20, co20, eo20⟩ := Kd.R_slice HO277.out; subst eo20))
    have n0_ : Aside0 (Kd.R k46 46 ((w17.setCell ⟨gb278, 0, none⟩ (.int .i64 t274)).setCell ⟨gb278, 1, none⟩ (.slice Ao20 t275.length co20)) w.heap.size (fun k_ => some k_ ≠ (.slice (some ad272) t269.length co6 : Value).ownBlock ∧ k_ ≠ gb273) u3 x3_1) := ⟨by (with_reducible repeat (first | apply Kd.R_alloc | apply Kd.R_drewN | apply Kd.R_drew)); exact Kd.R_mono (Kd.R_far (p := ⟨gb278, 1, none⟩) (Kd.R_far (p := ⟨gb278, 0, none⟩) (Kd.R_types HO_3.out BK278.out (by decide)) (fun _ hk => hk.2) (.int .i64 t274)) (fun _ hk => hk.2) (.slice Ao20 t275.length co20)) (fun _ hk => ⟨hk.1.1, hk.1.2⟩)⟩
    have n1_ : Aside0 (Kd.R (Kd.int .i64) 3 ((w17.setCell ⟨gb278, 0, none⟩ (.int .i64 t274)).setCell ⟨gb278, 1, none⟩ (.slice Ao20 t275.length co20)) w.heap.size (fun k_ => k_ ≠ gb273) (.slice (some ad272) t269.length co6) t269) := ⟨by (with_reducible repeat (first | apply Kd.R_alloc | apply Kd.R_drewN | apply Kd.R_drew)); exact Kd.R_mono (Kd.R_far (p := ⟨gb278, 1, none⟩) (Kd.R_far (p := ⟨gb278, 0, none⟩) (Kd.R_types HO_9.out BK278.out (by decide)) (fun _ hk => hk.2) (.int .i64 t274)) (fun _ hk => hk.2) (.slice Ao20 t275.length co20)) (fun _ hk => hk.1.2)⟩
    have n2_ : Aside0 (Kd.R Kd.bool 4 ((w17.setCell ⟨gb278, 0, none⟩ (.int .i64 t274)).setCell ⟨gb278, 1, none⟩ (.slice Ao20 t275.length co20)) w.heap.size (fun _ => True) (.slice Ao20 t275.length co20) t275) := ⟨by (with_reducible repeat (first | apply Kd.R_alloc | apply Kd.R_drewN | apply Kd.R_drew)); exact Kd.R_mono (Kd.R_far (p := ⟨gb278, 1, none⟩) (Kd.R_far (p := ⟨gb278, 0, none⟩) (Kd.R_types HO277.out BK278.out (by decide)) (fun _ hk => hk.2) (.int .i64 t274)) (fun _ hk => hk.2) (.slice Ao20 t275.length co20)) (fun _ hk => trivial)⟩
    have n3_ : Aside0 (((w17.setCell ⟨gb278, 0, none⟩ (.int .i64 t274)).setCell ⟨gb278, 1, none⟩ (.slice Ao20 t275.length co20)).heap[gb273]? = some (.cells #[.int .i64 (rd t269 x11_1)] 3 (0, 0))) := ⟨by (with_reducible repeat (first | refine blk_drewN ?_ _ | refine blk_drew ?_ | refine blk_alloc ?_ _)); refine blk_far ?_ NB273_278.out _; (with_reducible repeat (first | refine blk_drewN ?_ _ | refine blk_drew ?_ | refine blk_alloc ?_ _)); refine blk_far ?_ NB273_278.out _; (with_reducible repeat (first | refine blk_drewN ?_ _ | refine blk_drew ?_ | refine blk_alloc ?_ _)); exact BK273.out⟩
    have n4_ : Aside0 (((w17.setCell ⟨gb278, 0, none⟩ (.int .i64 t274)).setCell ⟨gb278, 1, none⟩ (.slice Ao20 t275.length co20)).heap[gb278]? = some (.cells #[.int .i64 t274, .slice Ao20 t275.length co20] 86 (0, 0))) := ⟨by (with_reducible repeat (first | refine blk_drewN ?_ _ | refine blk_drew ?_ | refine blk_alloc ?_ _)); refine blk_put (cs := #[.int .i64 t274, .slice none 0 0]) ?_ 1 _ rfl; (with_reducible repeat (first | refine blk_drewN ?_ _ | refine blk_drew ?_ | refine blk_alloc ?_ _)); refine blk_put (cs := #[.int .i64 0, .slice none 0 0]) ?_ 0 _ rfl; (with_reducible repeat (first | refine blk_drewN ?_ _ | refine blk_drew ?_ | refine blk_alloc ?_ _)); exact BK278.out⟩
    have n5_ : Aside0 (Below w.heap.size w ((w17.setCell ⟨gb278, 0, none⟩ (.int .i64 t274)).setCell ⟨gb278, 1, none⟩ (.slice Ao20 t275.length co20))) := ⟨by repeat (first | (with_reducible first | exact HB.out | apply below_alloc | apply pw_below_drewN | apply below_drew1 | refine below_set ?_ GE273.out | refine below_set ?_ GE278.out) | exact HB.out)⟩
    (try clear HO_3)
    (try clear HO_9)
    (try clear HO277)
    (try clear BK273)
    (try clear BK278)
    (try clear HB)
    generalize ((w17.setCell ⟨gb278, 0, none⟩ (.int .i64 t274)).setCell ⟨gb278, 1, none⟩ (.slice Ao20 t275.length co20)) = w21 at n0_ n1_ n2_ n3_ n4_ n5_ ⊢
    have HO_3 := n0_
    have HO_9 := n1_
    have HO277 := n2_
    have BK273 := n3_
    have BK278 := n4_
    have HB := n5_
    clear n0_ n1_ n2_ n3_ n4_ n5_
    have n0_ := Aside0.mk (Kd.R_drew HO_3.out)
    have n1_ := Aside0.mk (Kd.R_drew HO_9.out)
    have n2_ := Aside0.mk (Kd.R_drew HO277.out)
    have n3_ := Aside0.mk (blk_drew BK273.out)
    have n4_ := Aside0.mk (blk_drew BK278.out)
    have n5_ := Aside0.mk (below_drew1 HB.out)
    clear HO_3
    clear HO_9
    clear HO277
    clear BK273
    clear BK278
    clear HB
    have HO_3 := n0_
    have HO_9 := n1_
    have HO277 := n2_
    have BK273 := n3_
    have BK278 := n4_
    have HB := n5_
    clear n0_ n1_ n2_ n3_ n4_ n5_
    have p279 : 0 ≤ (0 : Int) := (by omega)
    have q279 : 0 < (t275.length : Int) := of_decide_eq_true (by first | (with_reducible assumption) | assumption)
    obtain ⟨ad279, e279, hx279_0⟩ := Kd.at_bool (Kd.R_reads' HO277.out).2.2 0 p279 q279
    (try rw [← Nbq12.out] at hx279_0)
    cases e279
    have qi279 : (0 < t275.length) = True := eq_true (by omega)
    (try rw [show ((0 : Int)).toNat = 0 from rfl] at hx279_0)
    (try rw [Addr.add_zero'] at hx279_0)
    replace p279 := eq_true p279
    replace q279 := eq_true q279
    refine start_ (n := 13) (S := fun w' => w'.cell? ⟨gb278, 0, none⟩ = some (.int .i64 t274) ∧ w'.cell? ⟨gb278, 1, none⟩ = some (.slice (some ad279) t275.length co20) ∧ w'.cell? ad279 = some (.bool true)) (ds := []) #[false, false, false, false, false, false, false, false, false, false, false, false, false] (by kernel_rfl) rfl rfl ⟨(blk_cell BK278.out 0).trans rfl, (blk_cell BK278.out 1).trans rfl, hx279_0⟩ (fun hHeld => ?_); refine with_tabW impl_allGames.tab6 impl_allGames.bits6 (fun HT_ HW_ => ?_)
    generalize w21.drew = w22 at HO_3 HO_9 HO277 BK273 BK278 HB hx279_0 hHeld ⊢
    refine pure_ (i := 0) (N := some 18) (v := ?_) (a' := ?_) #[true, false, false, false, false, false, false, false, false, false, false, false, false] rfl rfl (any_of HT_.out (by kernel_rfl)) (fun _ _ _ h => h) (Or.inl ⟨by rfl, ?_⟩) ?_ ?_
    rotate_left
    ·intro w'
     go_simp
     with_reducible rfl
    rotate_left
    ·simp only [Act.put, List.setIfInBounds_toArray, List.set_cons_zero, List.set_cons_succ, i64_w, i32_w]
     rfl
    refine take_ (i := 1) (N := some 19) (v := ?_) (a' := ?_) #[true, true, false, false, false, false, false, false, false, false, false, false, false] rfl rfl (take_ofW HT_.out HW_.out (by kernel_rfl)) (fun _ _ _ h => h) (Or.inl ⟨by rfl, ?_⟩) hHeld ?_ ?_
    rotate_left
    ·rintro w' ⟨s0, s1, s2⟩
     go_simp
     with_reducible rfl
    rotate_left
    ·simp only [Act.put, List.setIfInBounds_toArray, List.set_cons_zero, List.set_cons_succ, i64_w, i32_w]
     rfl
    refine pure_ (i := 2) (N := some 20) (v := ?_) (a' := ?_) #[true, true, true, false, false, false, false, false, false, false, false, false, false] rfl rfl (any_of HT_.out (by kernel_rfl)) (fun _ _ _ h => h) (Or.inl ⟨by rfl, ?_⟩) ?_ ?_
    rotate_left
    ·intro w'
     go_simp
     with_reducible rfl
    rotate_left
    ·simp only [Act.put, List.setIfInBounds_toArray, List.set_cons_zero, List.set_cons_succ, i64_w, i32_w]
     rfl
    refine take_ (i := 3) (N := some 21) (v := ?_) (a' := ?_) #[true, true, true, true, false, false, false, false, false, false, false, false, false] rfl rfl (take_ofW HT_.out HW_.out (by kernel_rfl)) (fun _ _ _ h => h) (Or.inl ⟨by rfl, ?_⟩) hHeld ?_ ?_
    rotate_left
    ·rintro w' ⟨s0, s1, s2⟩
     go_simp
     with_reducible rfl
    rotate_left
    ·simp only [Act.put, List.setIfInBounds_toArray, List.set_cons_zero, List.set_cons_succ, i64_w, i32_w]
     rfl
    refine pure_ (i := 4) (N := some 22) (v := ?_) (a' := ?_) #[true, true, true, true, true, false, false, false, false, false, false, false, false] rfl rfl (any_of HT_.out (by kernel_rfl)) (fun _ _ _ h => h) (Or.inl ⟨by rfl, ?_⟩) ?_ ?_
    rotate_left
    ·intro w'
     go_simp
     with_reducible rfl
    rotate_left
    ·simp only [Act.put, List.setIfInBounds_toArray, List.set_cons_zero, List.set_cons_succ, i64_w, i32_w]
     rfl
    refine pure_ (i := 5) (N := some 23) (v := ?_) (a' := ?_) #[true, true, true, true, true, true, false, false, false, false, false, false, false] rfl rfl (any_of HT_.out (by kernel_rfl)) (fun _ _ _ h => h) (Or.inl ⟨by rfl, ?_⟩) ?_ ?_
    rotate_left
    ·intro w'
     go_simp
     with_reducible rfl
    rotate_left
    ·simp only [Act.put, List.setIfInBounds_toArray, List.set_cons_zero, List.set_cons_succ, i64_w, i32_w]
     rfl
    refine pure_ (i := 6) (N := some 24) (v := undef) (a' := ?_) #[true, true, true, true, true, true, true, false, false, false, false, false, false] rfl rfl (any_of HT_.out (by kernel_rfl)) (fun _ _ _ h => h) (Or.inr ⟨by rfl, rfl⟩) ?_ ?_
    rotate_left
    ·simp only [Act.put, List.setIfInBounds_toArray, List.set_cons_zero, List.set_cons_succ, i64_w, i32_w]
     rfl
    refine pure_ (i := 7) (N := some 25) (v := undef) (a' := ?_) #[true, true, true, true, true, true, true, true, false, false, false, false, false] rfl rfl (any_of HT_.out (by kernel_rfl)) (fun _ _ _ h => h) (Or.inr ⟨by rfl, rfl⟩) ?_ ?_
    rotate_left
    ·simp only [Act.put, List.setIfInBounds_toArray, List.set_cons_zero, List.set_cons_succ, i64_w, i32_w]
     rfl
    refine pure_ (i := 8) (N := some 26) (v := undef) (a' := ?_) #[true, true, true, true, true, true, true, true, true, false, false, false, false] rfl rfl (any_of HT_.out (by kernel_rfl)) (fun _ _ _ h => h) (Or.inr ⟨by rfl, rfl⟩) ?_ ?_
    rotate_left
    ·simp only [Act.put, List.setIfInBounds_toArray, List.set_cons_zero, List.set_cons_succ, i64_w, i32_w]
     rfl
    refine pure_ (i := 9) (N := some 27) (v := undef) (a' := ?_) #[true, true, true, true, true, true, true, true, true, true, false, false, false] rfl rfl (any_of HT_.out (by kernel_rfl)) (fun _ _ _ h => h) (Or.inr ⟨by rfl, rfl⟩) ?_ ?_
    rotate_left
    ·simp only [Act.put, List.setIfInBounds_toArray, List.set_cons_zero, List.set_cons_succ, i64_w, i32_w]
     rfl
    refine pure_ (i := 10) (N := some 28) (v := undef) (a' := ?_) #[true, true, true, true, true, true, true, true, true, true, true, false, false] rfl rfl (any_of HT_.out (by kernel_rfl)) (fun _ _ _ h => h) (Or.inr ⟨by rfl, rfl⟩) ?_ ?_
    rotate_left
    ·simp only [Act.put, List.setIfInBounds_toArray, List.set_cons_zero, List.set_cons_succ, i64_w, i32_w]
     rfl
    refine pure_ (i := 11) (N := some 29) (v := undef) (a' := ?_) #[true, true, true, true, true, true, true, true, true, true, true, true, false] rfl rfl (any_of HT_.out (by kernel_rfl)) (fun _ _ _ h => h) (Or.inr ⟨by rfl, rfl⟩) ?_ ?_
    rotate_left
    ·simp only [Act.put, List.setIfInBounds_toArray, List.set_cons_zero, List.set_cons_succ, i64_w, i32_w]
     rfl
    refine pure_ (i := 12) (N := some 30) (v := ?_) (a' := ?_) #[true, true, true, true, true, true, true, true, true, true, true, true, true] rfl rfl (any_of HT_.out (by kernel_rfl)) (fun _ _ _ h => h) (Or.inl ⟨by rfl, ?_⟩) ?_ ?_
    rotate_left
    ·intro w'
     go_simp
     with_reducible rfl
    rotate_left
    ·simp only [Act.put, List.setIfInBounds_toArray, List.set_cons_zero, List.set_cons_succ, i64_w, i32_w]
     rfl
    refine done_ (done_of HT_.out (by kernel_rfl)) ?_
    try go_wp2
    go_roundg k1
    case measure => have := HK1.out; omega
    case rel => exact ⟨(x3_1), (wrap64 (x11_1 + 1)), (by first | rfl | (simp; done) | (simp [*]; done)), H', ⟨by have := HK1.out; omega⟩, ⟨by (with_reducible repeat (first | apply Kd.R_alloc | apply Kd.R_drewN | apply Kd.R_drew)); exact Kd.R_mono HO_3.out (fun _ hk => hk.1)⟩, ⟨by (with_reducible repeat (first | apply Kd.R_alloc | apply Kd.R_drewN | apply Kd.R_drew)); exact Kd.R_mono HO_9.out (fun _ hk => trivial)⟩, ⟨by repeat (first | (with_reducible first | exact HB.out | apply below_alloc | apply pw_below_drewN | apply below_drew1 | refine below_set ?_ GE273.out | refine below_set ?_ GE278.out) | exact HB.out)⟩⟩
   replace c13 := Bool.eq_false_iff.mpr c13
   subst c13
   have H1 : ((impl_votes_all.f t274 t275).bind fun t280 => (if 0 ≤ t280 then (if t280 < (t275.length : Int) then (if rdOf false t275 t280 = true then ((impl_votes_game.f k1 t274 t275).bind fun bt282 => (if x3_1.length < 4398046511104 then (impl_allGames.l0 k1 a0 (x3_1 ++ [(⟨bt282.1, bt282.2⟩ : S46)]) t269 (t269.length : Int) (wrap64 (x11_1 + 1))) else (none))) else (impl_allGames.l0 k1 a0 x3_1 t269 (t269.length : Int) (wrap64 (x11_1 + 1)))) else (none)) else (none))) = some r := by rw [if_neg (show ¬ (false = true) by decide)] at H; exact H
   clear H
   have H := H1
   clear H1
   replace H := Option.bind_eq_some_iff.mp H
   obtain ⟨t280, A230, H⟩ := H
   replace H : (if 0 ≤ t280 then (if t280 < (t275.length : Int) then (if rdOf false t275 t280 = true then ((impl_votes_game.f k1 t274 t275).bind fun bt282 => (if x3_1.length < 4398046511104 then (impl_allGames.l0 k1 a0 (x3_1 ++ [(⟨bt282.1, bt282.2⟩ : S46)]) t269 (t269.length : Int) (wrap64 (x11_1 + 1))) else (none))) else (impl_allGames.l0 k1 a0 x3_1 t269 (t269.length : Int) (wrap64 (x11_1 + 1)))) else (none)) else (none)) = some r := H
   have A23 := Aside0.mk A230
   clear A230
   by_cases c24 : 0 ≤ t280
   rotate_left
   ·rw [if_neg c24] at H
    exact absurd H (by simp)
   rw [if_pos c24] at H
   have c24b0 : decide (0 ≤ t280) = true := decide_eq_true c24
   clear c24
   by_cases c25 : t280 < (t275.length : Int)
   rotate_left
   ·rw [if_neg c25] at H
    exact absurd H (by simp)
   rw [if_pos c25] at H
   have c25b0 : decide (t280 < (t275.length : Int)) = true := decide_eq_true c25
   clear c25
   obtain ⟨bq26, hbq26⟩ : ∃ b_ : Bool, b_ = (rdOf false t275 t280) := ⟨_, rfl⟩
   replace H : (if bq26 = true then ((impl_votes_game.f k1 t274 t275).bind fun bt282 => (if x3_1.length < 4398046511104 then (impl_allGames.l0 k1 a0 (x3_1 ++ [(⟨bt282.1, bt282.2⟩ : S46)]) t269 (t269.length : Int) (wrap64 (x11_1 + 1))) else (none))) else (impl_allGames.l0 k1 a0 x3_1 t269 (t269.length : Int) (wrap64 (x11_1 + 1)))) = some r := by rw [← hbq26] at H; exact H
   have Nbq26 := Aside0.mk hbq26
   clear hbq26
   by_cases c27 : bq26 = true
   rotate_left
   ·replace c27 := Bool.eq_false_iff.mpr c27
    subst c27
    have H1 : (impl_allGames.l0 k1 a0 x3_1 t269 (t269.length : Int) (wrap64 (x11_1 + 1))) = some r := by rw [if_neg (show ¬ (false = true) by decide)] at H; exact H
    clear H
    have H := H1
    clear H1
    have H' := Aside0.mk H
    clear H
    have p272 : 0 ≤ (x11_1 : Int) := of_decide_eq_true (by first | (with_reducible assumption) | assumption)
    have q272 : x11_1 < (t269.length : Int) := of_decide_eq_true (by first | (with_reducible assumption) | assumption)
    obtain ⟨ad272, e272, hx272_0⟩ := Kd.at_int (Kd.R_reads' HO_9.out).2.2 x11_1 p272 q272
    cases e272
    replace p272 := eq_true p272
    replace q272 := eq_true q272
    try go_wp2_with (first | ((with_reducible refine gate_dst (N := 5) rfl ?_); refine box_event ?hg (N := 5) ?hd (cs := #[.int .i64 0]) (t := 3) ?hr ?_; (case hd => rfl); (case hg => rfl); (case hr => first | (go_simp; done) | (go_simp; rfl)); intro gb273 hg w44 hbox hb; have n0_ := Aside0.mk (Kd.R_below (Kd.R_elderB (zr HO_3.out) gb273 (Nat.le_of_eq hg.symm)) hb); have n1_ := Aside0.mk (Kd.R_below (Kd.R_elderB (zr HO_9.out) gb273 (Nat.le_of_eq hg.symm)) hb); have n2_ := Aside0.mk (below_step (zh HB.out) hb); have n3_ := Aside0.mk (hbox); have n4_ := Aside0.mk ((by rw [hg]; exact (below_size (zh HB.out)) : w.heap.size ≤ gb273)); have n5_ := Aside0.mk ((by rw [hg]; exact (below_size (zh HB.out)) : w.heap.size ≤ gb273)); clear HO_3; clear HO_9; clear HB; have HO_3 := n0_; have HO_9 := n1_; have HB := n2_; have BK273 := n3_; have GW273 := n4_; have GE273 := n5_; clear n0_ n1_ n2_ n3_ n4_ n5_; clear hb hbox hg; have hcz45_0 : w44.cell? ⟨gb273, 0, none⟩ = some (.int .i64 0) := (blk_cell BK273.out 0).trans rfl; have hfz45_0 := blk_frozen BK273.out 0) | ((with_reducible refine gate_callee (f := 100) rfl ?_); refine goesL_ (some 17) rfl rfl Tryz.func100 (by kernel_rfl) rfl #[.int .i64 a0, .func (.func 101) #[] #[.pointer (some ⟨gb273, 0, none⟩)]] rfl (by (try simp only [List.map_toArray, List.map_cons, List.map_nil]); first | done | rfl | (simp only [List.length_drop, List.length_take]; rfl)) ?_; (with_reducible refine (votesOf_allGames.calls k1 a0 (rd t269 x11_1) t274 t275 _ gb273 (by first | exact (blk_cell (zb BK273.out) 0).trans rfl | exact (blk_cell (blk_put (zb BK273.out) 0 _ rfl) 0).trans rfl) A10.out).mono ?_); rintro e w46 ⟨v276, rfl, ho0, hb⟩; refine ⟨_, rfl, ?_⟩; have n0_ := Aside0.mk (Kd.R_below (by (with_reducible repeat (first | apply Kd.R_alloc | apply Kd.R_drewN | apply Kd.R_drew)); exact (Kd.R_mono (Kd.R_far (p := ⟨gb273, 0, none⟩) (Kd.R_mono HO_3.out (fun k_ hk => (⟨hk, hk.2⟩ : _ ∧ k_ ≠ gb273))) (fun _ hk => hk.2) (.int .i64 (rd t269 x11_1))) (fun _ h_ => h_.1))) hb); have n1_ := Aside0.mk (Kd.R_below (by (with_reducible repeat (first | apply Kd.R_alloc | apply Kd.R_drewN | apply Kd.R_drew)); exact (Kd.R_mono (Kd.R_far (p := ⟨gb273, 0, none⟩) (Kd.R_mono HO_9.out (fun k_ hk => (⟨hk, hk.2⟩ : _ ∧ k_ ≠ gb273))) (fun _ hk => hk.2) (.int .i64 (rd t269 x11_1))) (fun _ h_ => h_.1))) hb); have n2_ := Aside0.mk (Kd.R_lower ho0 (below_size (zh HB.out))); have n3_ := Aside0.mk (blk_below (g := gb273) (o := .cells #[.int .i64 (rd t269 x11_1)] 3 (0, 0)) (by (with_reducible repeat (first | refine blk_drewN ?_ _ | refine blk_drew ?_ | refine blk_alloc ?_ _)); refine blk_put (cs := #[.int .i64 0]) ?_ 0 _ rfl; (with_reducible repeat (first | refine blk_drewN ?_ _ | refine blk_drew ?_ | refine blk_alloc ?_ _)); exact BK273.out) hb); have n4_ := Aside0.mk (below_step (zh HB.out) hb); clear HO_3; clear HO_9; clear BK273; clear HB; have HO_3 := n0_; have HO_9 := n1_; have HO277 := n2_; have BK273 := n3_; have HB := n4_; clear n0_ n1_ n2_ n3_ n4_; (try clear hb); (try clear hb2); (try clear hk); (try clear hi); (try clear ho0)) | ((with_reducible refine gate_dst (N := 6) rfl ?_); refine box_event ?hg (N := 6) ?hd (cs := #[.int .i64 0, .slice none 0 0]) (t := 86) ?hr ?_; (case hd => rfl); (case hg => rfl); (case hr => first | (go_simp; done) | (go_simp; rfl)); intro gb278 hg w47 hbox hb; have n0_ := Aside0.mk (Kd.R_below (zr HO_3.out) hb); have n1_ := Aside0.mk (Kd.R_below (zr HO_9.out) hb); have n2_ := Aside0.mk (Kd.R_below (zr HO277.out) hb); have n3_ := Aside0.mk (blk_below (g := gb273) (o := .cells #[.int .i64 (rd t269 x11_1)] 3 (0, 0)) (zb BK273.out) hb); have n4_ := Aside0.mk (below_step (zh HB.out) hb); have n5_ := Aside0.mk (hbox); have n6_ := Aside0.mk ((by rw [hg]; exact (below_size (zh HB.out)) : w.heap.size ≤ gb278)); have n7_ := Aside0.mk ((by rw [hg]; exact (below_size (zh HB.out)) : w.heap.size ≤ gb278)); have n8_ := Aside0.mk ((by rw [hg]; exact Nat.ne_of_lt (blk_lt (g := gb273) (o := .cells #[.int .i64 (rd t269 x11_1)] 3 (0, 0)) (zb BK273.out)) : gb273 ≠ gb278)); have n9_ := Aside0.mk ((by rw [hg]; exact Nat.ne_of_gt (blk_lt (g := gb273) (o := .cells #[.int .i64 (rd t269 x11_1)] 3 (0, 0)) (zb BK273.out)) : gb278 ≠ gb273)); clear HO_3; clear HO_9; clear HO277; clear BK273; clear HB; have HO_3 := n0_; have HO_9 := n1_; have HO277 := n2_; have BK273 := n3_; have HB := n4_; have BK278 := n5_; have GW278 := n6_; have GE278 := n7_; have NB273_278 := n8_; have NB278_273 := n9_; clear n0_ n1_ n2_ n3_ n4_ n5_ n6_ n7_ n8_ n9_; clear hb hbox hg; have hnb48 := NB278_273.out; have hnc48 := NB273_278.out; have hcz49_0 : w47.cell? ⟨gb278, 0, none⟩ = some (.int .i64 0) := (blk_cell BK278.out 0).trans rfl; have hcz49_1 : w47.cell? ⟨gb278, 1, none⟩ = some (.slice none 0 0) := (blk_cell BK278.out 1).trans rfl; have hfz49_0 := blk_frozen BK278.out 0; have hfz49_1 := blk_frozen BK278.out 1; obtain ⟨Ao50, co50, eo50⟩ := Kd.R_slice HO277.out; subst eo50))
    have n0_ : Aside0 (Kd.R k46 46 ((w47.setCell ⟨gb278, 0, none⟩ (.int .i64 t274)).setCell ⟨gb278, 1, none⟩ (.slice Ao50 t275.length co50)) w.heap.size (fun k_ => some k_ ≠ (.slice (some ad272) t269.length co6 : Value).ownBlock ∧ k_ ≠ gb273) u3 x3_1) := ⟨by (with_reducible repeat (first | apply Kd.R_alloc | apply Kd.R_drewN | apply Kd.R_drew)); exact Kd.R_mono (Kd.R_far (p := ⟨gb278, 1, none⟩) (Kd.R_far (p := ⟨gb278, 0, none⟩) (Kd.R_types HO_3.out BK278.out (by decide)) (fun _ hk => hk.2) (.int .i64 t274)) (fun _ hk => hk.2) (.slice Ao50 t275.length co50)) (fun _ hk => ⟨hk.1.1, hk.1.2⟩)⟩
    have n1_ : Aside0 (Kd.R (Kd.int .i64) 3 ((w47.setCell ⟨gb278, 0, none⟩ (.int .i64 t274)).setCell ⟨gb278, 1, none⟩ (.slice Ao50 t275.length co50)) w.heap.size (fun k_ => k_ ≠ gb273) (.slice (some ad272) t269.length co6) t269) := ⟨by (with_reducible repeat (first | apply Kd.R_alloc | apply Kd.R_drewN | apply Kd.R_drew)); exact Kd.R_mono (Kd.R_far (p := ⟨gb278, 1, none⟩) (Kd.R_far (p := ⟨gb278, 0, none⟩) (Kd.R_types HO_9.out BK278.out (by decide)) (fun _ hk => hk.2) (.int .i64 t274)) (fun _ hk => hk.2) (.slice Ao50 t275.length co50)) (fun _ hk => hk.1.2)⟩
    have n2_ : Aside0 (Kd.R Kd.bool 4 ((w47.setCell ⟨gb278, 0, none⟩ (.int .i64 t274)).setCell ⟨gb278, 1, none⟩ (.slice Ao50 t275.length co50)) w.heap.size (fun _ => True) (.slice Ao50 t275.length co50) t275) := ⟨by (with_reducible repeat (first | apply Kd.R_alloc | apply Kd.R_drewN | apply Kd.R_drew)); exact Kd.R_mono (Kd.R_far (p := ⟨gb278, 1, none⟩) (Kd.R_far (p := ⟨gb278, 0, none⟩) (Kd.R_types HO277.out BK278.out (by decide)) (fun _ hk => hk.2) (.int .i64 t274)) (fun _ hk => hk.2) (.slice Ao50 t275.length co50)) (fun _ hk => trivial)⟩
    have n3_ : Aside0 (((w47.setCell ⟨gb278, 0, none⟩ (.int .i64 t274)).setCell ⟨gb278, 1, none⟩ (.slice Ao50 t275.length co50)).heap[gb273]? = some (.cells #[.int .i64 (rd t269 x11_1)] 3 (0, 0))) := ⟨by (with_reducible repeat (first | refine blk_drewN ?_ _ | refine blk_drew ?_ | refine blk_alloc ?_ _)); refine blk_far ?_ NB273_278.out _; (with_reducible repeat (first | refine blk_drewN ?_ _ | refine blk_drew ?_ | refine blk_alloc ?_ _)); refine blk_far ?_ NB273_278.out _; (with_reducible repeat (first | refine blk_drewN ?_ _ | refine blk_drew ?_ | refine blk_alloc ?_ _)); exact BK273.out⟩
    have n4_ : Aside0 (((w47.setCell ⟨gb278, 0, none⟩ (.int .i64 t274)).setCell ⟨gb278, 1, none⟩ (.slice Ao50 t275.length co50)).heap[gb278]? = some (.cells #[.int .i64 t274, .slice Ao50 t275.length co50] 86 (0, 0))) := ⟨by (with_reducible repeat (first | refine blk_drewN ?_ _ | refine blk_drew ?_ | refine blk_alloc ?_ _)); refine blk_put (cs := #[.int .i64 t274, .slice none 0 0]) ?_ 1 _ rfl; (with_reducible repeat (first | refine blk_drewN ?_ _ | refine blk_drew ?_ | refine blk_alloc ?_ _)); refine blk_put (cs := #[.int .i64 0, .slice none 0 0]) ?_ 0 _ rfl; (with_reducible repeat (first | refine blk_drewN ?_ _ | refine blk_drew ?_ | refine blk_alloc ?_ _)); exact BK278.out⟩
    have n5_ : Aside0 (Below w.heap.size w ((w47.setCell ⟨gb278, 0, none⟩ (.int .i64 t274)).setCell ⟨gb278, 1, none⟩ (.slice Ao50 t275.length co50))) := ⟨by repeat (first | (with_reducible first | exact HB.out | apply below_alloc | apply pw_below_drewN | apply below_drew1 | refine below_set ?_ GE273.out | refine below_set ?_ GE278.out) | exact HB.out)⟩
    (try clear HO_3)
    (try clear HO_9)
    (try clear HO277)
    (try clear BK273)
    (try clear BK278)
    (try clear HB)
    generalize ((w47.setCell ⟨gb278, 0, none⟩ (.int .i64 t274)).setCell ⟨gb278, 1, none⟩ (.slice Ao50 t275.length co50)) = w51 at n0_ n1_ n2_ n3_ n4_ n5_ ⊢
    have HO_3 := n0_
    have HO_9 := n1_
    have HO277 := n2_
    have BK273 := n3_
    have BK278 := n4_
    have HB := n5_
    clear n0_ n1_ n2_ n3_ n4_ n5_
    have n0_ := Aside0.mk (Kd.R_drew HO_3.out)
    have n1_ := Aside0.mk (Kd.R_drew HO_9.out)
    have n2_ := Aside0.mk (Kd.R_drew HO277.out)
    have n3_ := Aside0.mk (blk_drew BK273.out)
    have n4_ := Aside0.mk (blk_drew BK278.out)
    have n5_ := Aside0.mk (below_drew1 HB.out)
    clear HO_3
    clear HO_9
    clear HO277
    clear BK273
    clear BK278
    clear HB
    have HO_3 := n0_
    have HO_9 := n1_
    have HO277 := n2_
    have BK273 := n3_
    have BK278 := n4_
    have HB := n5_
    clear n0_ n1_ n2_ n3_ n4_ n5_
    have p279 : 0 ≤ (0 : Int) := (by omega)
    have q279 : 0 < (t275.length : Int) := of_decide_eq_true (by first | (with_reducible assumption) | assumption)
    obtain ⟨ad279, e279, hx279_0⟩ := Kd.at_bool (Kd.R_reads' HO277.out).2.2 0 p279 q279
    (try rw [← Nbq12.out] at hx279_0)
    (try rw [← Nbq26.out] at hx279_0)
    cases e279
    have qi279 : (0 < t275.length) = True := eq_true (by omega)
    (try rw [show ((0 : Int)).toNat = 0 from rfl] at hx279_0)
    (try rw [Addr.add_zero'] at hx279_0)
    replace p279 := eq_true p279
    replace q279 := eq_true q279
    have p281 : 0 ≤ (t280 : Int) := of_decide_eq_true (by first | (with_reducible assumption) | assumption)
    have q281 : t280 < (t275.length : Int) := of_decide_eq_true (by first | (with_reducible assumption) | assumption)
    obtain ⟨ad281, e281, hx281_0⟩ := Kd.at_bool (Kd.R_reads' HO277.out).2.2 t280 p281 q281
    (try rw [← Nbq12.out] at hx281_0)
    (try rw [← Nbq26.out] at hx281_0)
    obtain rfl : ad279 = ad281 := (by injection e281)
    replace p281 := eq_true p281
    replace q281 := eq_true q281
    refine start_ (n := 13) (S := fun w' => w'.cell? ⟨gb278, 0, none⟩ = some (.int .i64 t274) ∧ w'.cell? ⟨gb278, 1, none⟩ = some (.slice (some ad279) t275.length co50) ∧ w'.cell? ad279 = some (.bool false) ∧ w'.cell? (ad279.add (t280).toNat) = some (.bool false)) (ds := []) #[false, false, false, false, false, false, false, false, false, false, false, false, false] (by kernel_rfl) rfl rfl ⟨(blk_cell BK278.out 0).trans rfl, (blk_cell BK278.out 1).trans rfl, hx279_0, hx281_0⟩ (fun hHeld => ?_); refine with_tabW impl_allGames.tab6 impl_allGames.bits6 (fun HT_ HW_ => ?_)
    generalize w51.drew = w52 at HO_3 HO_9 HO277 BK273 BK278 HB hx279_0 hx281_0 hHeld ⊢
    refine pure_ (i := 0) (N := some 18) (v := ?_) (a' := ?_) #[true, false, false, false, false, false, false, false, false, false, false, false, false] rfl rfl (any_of HT_.out (by kernel_rfl)) (fun _ _ _ h => h) (Or.inl ⟨by rfl, ?_⟩) ?_ ?_
    rotate_left
    ·intro w'
     go_simp
     with_reducible rfl
    rotate_left
    ·simp only [Act.put, List.setIfInBounds_toArray, List.set_cons_zero, List.set_cons_succ, i64_w, i32_w]
     rfl
    refine take_ (i := 1) (N := some 19) (v := ?_) (a' := ?_) #[true, true, false, false, false, false, false, false, false, false, false, false, false] rfl rfl (take_ofW HT_.out HW_.out (by kernel_rfl)) (fun _ _ _ h => h) (Or.inl ⟨by rfl, ?_⟩) hHeld ?_ ?_
    rotate_left
    ·rintro w' ⟨s0, s1, s2, s3⟩
     go_simp
     with_reducible rfl
    rotate_left
    ·simp only [Act.put, List.setIfInBounds_toArray, List.set_cons_zero, List.set_cons_succ, i64_w, i32_w]
     rfl
    refine pure_ (i := 2) (N := some 20) (v := ?_) (a' := ?_) #[true, true, true, false, false, false, false, false, false, false, false, false, false] rfl rfl (any_of HT_.out (by kernel_rfl)) (fun _ _ _ h => h) (Or.inl ⟨by rfl, ?_⟩) ?_ ?_
    rotate_left
    ·intro w'
     go_simp
     with_reducible rfl
    rotate_left
    ·simp only [Act.put, List.setIfInBounds_toArray, List.set_cons_zero, List.set_cons_succ, i64_w, i32_w]
     rfl
    refine take_ (i := 3) (N := some 21) (v := ?_) (a' := ?_) #[true, true, true, true, false, false, false, false, false, false, false, false, false] rfl rfl (take_ofW HT_.out HW_.out (by kernel_rfl)) (fun _ _ _ h => h) (Or.inl ⟨by rfl, ?_⟩) hHeld ?_ ?_
    rotate_left
    ·rintro w' ⟨s0, s1, s2, s3⟩
     go_simp
     with_reducible rfl
    rotate_left
    ·simp only [Act.put, List.setIfInBounds_toArray, List.set_cons_zero, List.set_cons_succ, i64_w, i32_w]
     rfl
    refine pure_ (i := 4) (N := some 22) (v := ?_) (a' := ?_) #[true, true, true, true, true, false, false, false, false, false, false, false, false] rfl rfl (any_of HT_.out (by kernel_rfl)) (fun _ _ _ h => h) (Or.inl ⟨by rfl, ?_⟩) ?_ ?_
    rotate_left
    ·intro w'
     go_simp
     with_reducible rfl
    rotate_left
    ·simp only [Act.put, List.setIfInBounds_toArray, List.set_cons_zero, List.set_cons_succ, i64_w, i32_w]
     rfl
    refine pure_ (i := 5) (N := some 23) (v := ?_) (a' := ?_) #[true, true, true, true, true, true, false, false, false, false, false, false, false] rfl rfl (any_of HT_.out (by kernel_rfl)) (fun _ _ _ h => h) (Or.inl ⟨by rfl, ?_⟩) ?_ ?_
    rotate_left
    ·intro w'
     go_simp
     with_reducible rfl
    rotate_left
    ·simp only [Act.put, List.setIfInBounds_toArray, List.set_cons_zero, List.set_cons_succ, i64_w, i32_w]
     rfl
    refine pure_ (i := 6) (N := some 24) (v := ?_) (a' := ?_) #[true, true, true, true, true, true, true, false, false, false, false, false, false] rfl rfl (any_of HT_.out (by kernel_rfl)) (fun _ _ _ h => h) (Or.inl ⟨by rfl, ?_⟩) ?_ ?_
    rotate_left
    ·intro w'
     go_simp
     with_reducible rfl
    rotate_left
    ·simp only [Act.put, List.setIfInBounds_toArray, List.set_cons_zero, List.set_cons_succ, i64_w, i32_w]
     rfl
    refine take_ (i := 7) (N := some 25) (v := ?_) (a' := ?_) #[true, true, true, true, true, true, true, true, false, false, false, false, false] rfl rfl (take_ofW HT_.out HW_.out (by kernel_rfl)) (fun _ _ _ h => h) (Or.inl ⟨by rfl, ?_⟩) hHeld ?_ ?_
    rotate_left
    ·rintro w' ⟨s0, s1, s2, s3⟩
     go_simp
     with_reducible rfl
    rotate_left
    ·simp only [Act.put, List.setIfInBounds_toArray, List.set_cons_zero, List.set_cons_succ, i64_w, i32_w]
     rfl
    refine take_ (i := 8) (N := some 26) (v := ?_) (a' := ?_) #[true, true, true, true, true, true, true, true, true, false, false, false, false] rfl rfl (take_ofW HT_.out HW_.out (by kernel_rfl)) (fun _ _ _ h => h) (Or.inl ⟨by rfl, ?_⟩) hHeld ?_ ?_
    rotate_left
    ·rintro w' ⟨s0, s1, s2, s3⟩
     go_simp
     with_reducible rfl
    rotate_left
    ·simp only [Act.put, List.setIfInBounds_toArray, List.set_cons_zero, List.set_cons_succ, i64_w, i32_w]
     rfl
    refine one_ (i := 9) (N := some 27) #[true, true, true, true, true, true, true, true, true, true, false, false, false] rfl rfl (one_of HT_.out (by kernel_rfl)) (by decide) (fun K hK => ?_)
    refine goes_ Tryz.func103 (by kernel_rfl) rfl #[.agg #[.int .i64 t274, .slice (some ad279) t275.length co50]] (by rfl) rfl rfl (by (try simp only [List.map_toArray, List.map_cons, List.map_nil]); first | done | rfl | (simp only [List.length_drop, List.length_take]; rfl)) ?_
    with_reducible refine (impl_votes_all.calls t274 _ _ t275 t280 _ ?side1 ?side2 A23.out).mono ?_
    (case side1 => repeat (first | exact (Kd.R_reads' HO277.out).2.2 | (with_reducible refine Kd.C_alloc ?_ _) | (with_reducible refine Kd.C_drewN ?_ _) | (with_reducible refine Kd.C_drew ?_)))
    (case side2 => exact (Kd.R_reads' HO277.out).2.1)
    rintro e w53 ⟨rfl, hb⟩
    have HS2_ := (hb.cell (World.block_lt_of_cell? _ _ (hHeld.2.2.1))).trans (hHeld.2.2.1)
    have HS3_ := (hb.cell (World.block_lt_of_cell? _ _ (hHeld.2.2.2))).trans (hHeld.2.2.2)
    refine ⟨_, rfl, ?_⟩
    have n0_ := Aside0.mk (Kd.R_below (zr HO_3.out) hb)
    have n1_ := Aside0.mk (Kd.R_below (zr HO_9.out) hb)
    have n2_ := Aside0.mk (Kd.R_below (zr HO277.out) hb)
    have n3_ := Aside0.mk (blk_below (g := gb273) (o := .cells #[.int .i64 (rd t269 x11_1)] 3 (0, 0)) (zb BK273.out) hb)
    have n4_ := Aside0.mk (blk_below (g := gb278) (o := .cells #[.int .i64 t274, .slice (some ad279) t275.length co50] 86 (0, 0)) (zb BK278.out) hb)
    have n5_ := Aside0.mk (below_step (zh HB.out) hb)
    clear HO_3
    clear HO_9
    clear HO277
    clear BK273
    clear BK278
    clear HB
    have HO_3 := n0_
    have HO_9 := n1_
    have HO277 := n2_
    have BK273 := n3_
    have BK278 := n4_
    have HB := n5_
    clear n0_ n1_ n2_ n3_ n4_ n5_
    (try clear hb)
    (try clear hb2)
    (try clear hk)
    (try clear hi)
    refine hK.out _ _ ⟨(blk_cell BK278.out 0).trans rfl, (blk_cell BK278.out 1).trans rfl, HS2_, HS3_⟩ (fun hHeld => ?_)
    clear hK K
    refine norm_ (a' := ?_) ?_ ?_
    rotate_left
    ·show Act.put _ (some 27) _ = _
     simp only [Act.put, List.setIfInBounds_toArray, List.set_cons_zero, List.set_cons_succ, i64_w, i32_w]
     rfl
    refine pure_ (i := 10) (N := some 28) (v := ?_) (a' := ?_) #[true, true, true, true, true, true, true, true, true, true, true, false, false] rfl rfl (any_of HT_.out (by kernel_rfl)) (fun _ _ _ h => h) (Or.inl ⟨by rfl, ?_⟩) ?_ ?_
    rotate_left
    ·intro w'
     go_simp
     with_reducible rfl
    rotate_left
    ·simp only [Act.put, List.setIfInBounds_toArray, List.set_cons_zero, List.set_cons_succ, i64_w, i32_w]
     rfl
    refine take_ (i := 11) (N := some 29) (v := ?_) (a' := ?_) #[true, true, true, true, true, true, true, true, true, true, true, true, false] rfl rfl (take_ofW HT_.out HW_.out (by kernel_rfl)) (fun _ _ _ h => h) (Or.inl ⟨by rfl, ?_⟩) hHeld ?_ ?_
    rotate_left
    ·rintro w' ⟨s0, s1, s2, s3⟩
     go_simp
     with_reducible rfl
    rotate_left
    ·simp only [Act.put, List.setIfInBounds_toArray, List.set_cons_zero, List.set_cons_succ, i64_w, i32_w]
     rfl
    refine pure_ (i := 12) (N := some 30) (v := ?_) (a' := ?_) #[true, true, true, true, true, true, true, true, true, true, true, true, true] rfl rfl (any_of HT_.out (by kernel_rfl)) (fun _ _ _ h => h) (Or.inl ⟨by rfl, ?_⟩) ?_ ?_
    rotate_left
    ·intro w'
     go_simp
     with_reducible rfl
    rotate_left
    ·simp only [Act.put, List.setIfInBounds_toArray, List.set_cons_zero, List.set_cons_succ, i64_w, i32_w]
     rfl
    refine done_ (done_of HT_.out (by kernel_rfl)) ?_
    try go_wp2
    go_roundg k1
    case measure => have := HK1.out; omega
    case rel => exact ⟨(x3_1), (wrap64 (x11_1 + 1)), (by first | rfl | (simp; done) | (simp [*]; done)), H', ⟨by have := HK1.out; omega⟩, ⟨by (with_reducible repeat (first | apply Kd.R_alloc | apply Kd.R_drewN | apply Kd.R_drew)); exact Kd.R_mono HO_3.out (fun _ hk => hk.1)⟩, ⟨by (with_reducible repeat (first | apply Kd.R_alloc | apply Kd.R_drewN | apply Kd.R_drew)); exact Kd.R_mono HO_9.out (fun _ hk => trivial)⟩, ⟨by repeat (first | (with_reducible first | exact HB.out | apply below_alloc | apply pw_below_drewN | apply below_drew1 | refine below_set ?_ GE273.out | refine below_set ?_ GE278.out) | exact HB.out)⟩⟩
   subst c27
   have H1 : ((impl_votes_game.f k1 t274 t275).bind fun bt282 => (if x3_1.length < 4398046511104 then (impl_allGames.l0 k1 a0 (x3_1 ++ [(⟨bt282.1, bt282.2⟩ : S46)]) t269 (t269.length : Int) (wrap64 (x11_1 + 1))) else (none))) = some r := by rw [if_pos rfl] at H; exact H
   clear H
   have H := H1
   clear H1
   replace H := Option.bind_eq_some_iff.mp H
   obtain ⟨⟨t282, t283⟩, A280, H⟩ := H
   replace H : (if x3_1.length < 4398046511104 then (impl_allGames.l0 k1 a0 (x3_1 ++ [(⟨t282, t283⟩ : S46)]) t269 (t269.length : Int) (wrap64 (x11_1 + 1))) else (none)) = some r := H
   have A28 := Aside0.mk A280
   clear A280
   by_cases c29 : x3_1.length < 4398046511104
   rotate_left
   ·rw [if_neg c29] at H
    exact absurd H (by simp)
   rw [if_pos c29] at H
   have LMc29 := Aside0.mk c29
   clear c29
   obtain ⟨y286, hy286⟩ : ∃ y_ : List (S46), y_ = (x3_1 ++ [(⟨t282, t283⟩ : S46)]) := ⟨_, rfl⟩
   replace H : (impl_allGames.l0 k1 a0 y286 t269 (t269.length : Int) (wrap64 (x11_1 + 1))) = some r := by first | (rw [hy286]; with_reducible exact H) | (have H2_ := (Option.bind_some _ _).symm.trans H; rw [hy286]; with_reducible exact H2_) | (have H2_ := (Option.bind_some _ _).symm.trans H; with_reducible exact H2_) | with_reducible exact H | (rw [hy286]; exact H) | exact H
   have Ny286 := Aside0.mk hy286
   clear hy286
   have H' := Aside0.mk H
   clear H
   have p272 : 0 ≤ (x11_1 : Int) := of_decide_eq_true (by first | (with_reducible assumption) | assumption)
   have q272 : x11_1 < (t269.length : Int) := of_decide_eq_true (by first | (with_reducible assumption) | assumption)
   obtain ⟨ad272, e272, hx272_0⟩ := Kd.at_int (Kd.R_reads' HO_9.out).2.2 x11_1 p272 q272
   cases e272
   replace p272 := eq_true p272
   replace q272 := eq_true q272
   try go_wp2_with (first | ((with_reducible refine gate_dst (N := 5) rfl ?_); refine box_event ?hg (N := 5) ?hd (cs := #[.int .i64 0]) (t := 3) ?hr ?_; (case hd => rfl); (case hg => rfl); (case hr => first | (go_simp; done) | (go_simp; rfl)); intro gb273 hg w30 hbox hb; have n0_ := Aside0.mk (Kd.R_below (Kd.R_elderB (zr HO_3.out) gb273 (Nat.le_of_eq hg.symm)) hb); have n1_ := Aside0.mk (Kd.R_below (Kd.R_elderB (zr HO_9.out) gb273 (Nat.le_of_eq hg.symm)) hb); have n2_ := Aside0.mk (below_step (zh HB.out) hb); have n3_ := Aside0.mk (hbox); have n4_ := Aside0.mk ((by rw [hg]; exact (below_size (zh HB.out)) : w.heap.size ≤ gb273)); have n5_ := Aside0.mk ((by rw [hg]; exact (below_size (zh HB.out)) : w.heap.size ≤ gb273)); clear HO_3; clear HO_9; clear HB; have HO_3 := n0_; have HO_9 := n1_; have HB := n2_; have BK273 := n3_; have GW273 := n4_; have GE273 := n5_; clear n0_ n1_ n2_ n3_ n4_ n5_; clear hb hbox hg; have hcz31_0 : w30.cell? ⟨gb273, 0, none⟩ = some (.int .i64 0) := (blk_cell BK273.out 0).trans rfl; have hfz31_0 := blk_frozen BK273.out 0) | ((with_reducible refine gate_callee (f := 100) rfl ?_); refine goesL_ (some 17) rfl rfl Tryz.func100 (by kernel_rfl) rfl #[.int .i64 a0, .func (.func 101) #[] #[.pointer (some ⟨gb273, 0, none⟩)]] rfl (by (try simp only [List.map_toArray, List.map_cons, List.map_nil]); first | done | rfl | (simp only [List.length_drop, List.length_take]; rfl)) ?_; (with_reducible refine (votesOf_allGames.calls k1 a0 (rd t269 x11_1) t274 t275 _ gb273 (by first | exact (blk_cell (zb BK273.out) 0).trans rfl | exact (blk_cell (blk_put (zb BK273.out) 0 _ rfl) 0).trans rfl) A10.out).mono ?_); rintro e w32 ⟨v276, rfl, ho0, hb⟩; refine ⟨_, rfl, ?_⟩; have n0_ := Aside0.mk (Kd.R_below (by (with_reducible repeat (first | apply Kd.R_alloc | apply Kd.R_drewN | apply Kd.R_drew)); exact (Kd.R_mono (Kd.R_far (p := ⟨gb273, 0, none⟩) (Kd.R_mono HO_3.out (fun k_ hk => (⟨hk, hk.2⟩ : _ ∧ k_ ≠ gb273))) (fun _ hk => hk.2) (.int .i64 (rd t269 x11_1))) (fun _ h_ => h_.1))) hb); have n1_ := Aside0.mk (Kd.R_below (by (with_reducible repeat (first | apply Kd.R_alloc | apply Kd.R_drewN | apply Kd.R_drew)); exact (Kd.R_mono (Kd.R_far (p := ⟨gb273, 0, none⟩) (Kd.R_mono HO_9.out (fun k_ hk => (⟨hk, hk.2⟩ : _ ∧ k_ ≠ gb273))) (fun _ hk => hk.2) (.int .i64 (rd t269 x11_1))) (fun _ h_ => h_.1))) hb); have n2_ := Aside0.mk (Kd.R_lower ho0 (below_size (zh HB.out))); have n3_ := Aside0.mk (blk_below (g := gb273) (o := .cells #[.int .i64 (rd t269 x11_1)] 3 (0, 0)) (by (with_reducible repeat (first | refine blk_drewN ?_ _ | refine blk_drew ?_ | refine blk_alloc ?_ _)); refine blk_put (cs := #[.int .i64 0]) ?_ 0 _ rfl; (with_reducible repeat (first | refine blk_drewN ?_ _ | refine blk_drew ?_ | refine blk_alloc ?_ _)); exact BK273.out) hb); have n4_ := Aside0.mk (below_step (zh HB.out) hb); clear HO_3; clear HO_9; clear BK273; clear HB; have HO_3 := n0_; have HO_9 := n1_; have HO277 := n2_; have BK273 := n3_; have HB := n4_; clear n0_ n1_ n2_ n3_ n4_; (try clear hb); (try clear hb2); (try clear hk); (try clear hi); (try clear ho0)) | ((with_reducible refine gate_dst (N := 6) rfl ?_); refine box_event ?hg (N := 6) ?hd (cs := #[.int .i64 0, .slice none 0 0]) (t := 86) ?hr ?_; (case hd => rfl); (case hg => rfl); (case hr => first | (go_simp; done) | (go_simp; rfl)); intro gb278 hg w33 hbox hb; have n0_ := Aside0.mk (Kd.R_below (zr HO_3.out) hb); have n1_ := Aside0.mk (Kd.R_below (zr HO_9.out) hb); have n2_ := Aside0.mk (Kd.R_below (zr HO277.out) hb); have n3_ := Aside0.mk (blk_below (g := gb273) (o := .cells #[.int .i64 (rd t269 x11_1)] 3 (0, 0)) (zb BK273.out) hb); have n4_ := Aside0.mk (below_step (zh HB.out) hb); have n5_ := Aside0.mk (hbox); have n6_ := Aside0.mk ((by rw [hg]; exact (below_size (zh HB.out)) : w.heap.size ≤ gb278)); have n7_ := Aside0.mk ((by rw [hg]; exact (below_size (zh HB.out)) : w.heap.size ≤ gb278)); have n8_ := Aside0.mk ((by rw [hg]; exact Nat.ne_of_lt (blk_lt (g := gb273) (o := .cells #[.int .i64 (rd t269 x11_1)] 3 (0, 0)) (zb BK273.out)) : gb273 ≠ gb278)); have n9_ := Aside0.mk ((by rw [hg]; exact Nat.ne_of_gt (blk_lt (g := gb273) (o := .cells #[.int .i64 (rd t269 x11_1)] 3 (0, 0)) (zb BK273.out)) : gb278 ≠ gb273)); clear HO_3; clear HO_9; clear HO277; clear BK273; clear HB; have HO_3 := n0_; have HO_9 := n1_; have HO277 := n2_; have BK273 := n3_; have HB := n4_; have BK278 := n5_; have GW278 := n6_; have GE278 := n7_; have NB273_278 := n8_; have NB278_273 := n9_; clear n0_ n1_ n2_ n3_ n4_ n5_ n6_ n7_ n8_ n9_; clear hb hbox hg; have hnb34 := NB278_273.out; have hnc34 := NB273_278.out; have hcz35_0 : w33.cell? ⟨gb278, 0, none⟩ = some (.int .i64 0) := (blk_cell BK278.out 0).trans rfl; have hcz35_1 : w33.cell? ⟨gb278, 1, none⟩ = some (.slice none 0 0) := (blk_cell BK278.out 1).trans rfl; have hfz35_0 := blk_frozen BK278.out 0; have hfz35_1 := blk_frozen BK278.out 1; obtain ⟨Ao36, co36, eo36⟩ := Kd.R_slice HO277.out; subst eo36))
   have n0_ : Aside0 (Kd.R k46 46 ((w33.setCell ⟨gb278, 0, none⟩ (.int .i64 t274)).setCell ⟨gb278, 1, none⟩ (.slice Ao36 t275.length co36)) w.heap.size (fun k_ => some k_ ≠ (.slice (some ad272) t269.length co6 : Value).ownBlock ∧ k_ ≠ gb273) u3 x3_1) := ⟨by (with_reducible repeat (first | apply Kd.R_alloc | apply Kd.R_drewN | apply Kd.R_drew)); exact Kd.R_mono (Kd.R_far (p := ⟨gb278, 1, none⟩) (Kd.R_far (p := ⟨gb278, 0, none⟩) (Kd.R_types HO_3.out BK278.out (by decide)) (fun _ hk => hk.2) (.int .i64 t274)) (fun _ hk => hk.2) (.slice Ao36 t275.length co36)) (fun _ hk => ⟨hk.1.1, hk.1.2⟩)⟩
   have n1_ : Aside0 (Kd.R (Kd.int .i64) 3 ((w33.setCell ⟨gb278, 0, none⟩ (.int .i64 t274)).setCell ⟨gb278, 1, none⟩ (.slice Ao36 t275.length co36)) w.heap.size (fun k_ => k_ ≠ gb273) (.slice (some ad272) t269.length co6) t269) := ⟨by (with_reducible repeat (first | apply Kd.R_alloc | apply Kd.R_drewN | apply Kd.R_drew)); exact Kd.R_mono (Kd.R_far (p := ⟨gb278, 1, none⟩) (Kd.R_far (p := ⟨gb278, 0, none⟩) (Kd.R_types HO_9.out BK278.out (by decide)) (fun _ hk => hk.2) (.int .i64 t274)) (fun _ hk => hk.2) (.slice Ao36 t275.length co36)) (fun _ hk => hk.1.2)⟩
   have n2_ : Aside0 (Kd.R Kd.bool 4 ((w33.setCell ⟨gb278, 0, none⟩ (.int .i64 t274)).setCell ⟨gb278, 1, none⟩ (.slice Ao36 t275.length co36)) w.heap.size (fun _ => True) (.slice Ao36 t275.length co36) t275) := ⟨by (with_reducible repeat (first | apply Kd.R_alloc | apply Kd.R_drewN | apply Kd.R_drew)); exact Kd.R_mono (Kd.R_far (p := ⟨gb278, 1, none⟩) (Kd.R_far (p := ⟨gb278, 0, none⟩) (Kd.R_types HO277.out BK278.out (by decide)) (fun _ hk => hk.2) (.int .i64 t274)) (fun _ hk => hk.2) (.slice Ao36 t275.length co36)) (fun _ hk => trivial)⟩
   have n3_ : Aside0 (((w33.setCell ⟨gb278, 0, none⟩ (.int .i64 t274)).setCell ⟨gb278, 1, none⟩ (.slice Ao36 t275.length co36)).heap[gb273]? = some (.cells #[.int .i64 (rd t269 x11_1)] 3 (0, 0))) := ⟨by (with_reducible repeat (first | refine blk_drewN ?_ _ | refine blk_drew ?_ | refine blk_alloc ?_ _)); refine blk_far ?_ NB273_278.out _; (with_reducible repeat (first | refine blk_drewN ?_ _ | refine blk_drew ?_ | refine blk_alloc ?_ _)); refine blk_far ?_ NB273_278.out _; (with_reducible repeat (first | refine blk_drewN ?_ _ | refine blk_drew ?_ | refine blk_alloc ?_ _)); exact BK273.out⟩
   have n4_ : Aside0 (((w33.setCell ⟨gb278, 0, none⟩ (.int .i64 t274)).setCell ⟨gb278, 1, none⟩ (.slice Ao36 t275.length co36)).heap[gb278]? = some (.cells #[.int .i64 t274, .slice Ao36 t275.length co36] 86 (0, 0))) := ⟨by (with_reducible repeat (first | refine blk_drewN ?_ _ | refine blk_drew ?_ | refine blk_alloc ?_ _)); refine blk_put (cs := #[.int .i64 t274, .slice none 0 0]) ?_ 1 _ rfl; (with_reducible repeat (first | refine blk_drewN ?_ _ | refine blk_drew ?_ | refine blk_alloc ?_ _)); refine blk_put (cs := #[.int .i64 0, .slice none 0 0]) ?_ 0 _ rfl; (with_reducible repeat (first | refine blk_drewN ?_ _ | refine blk_drew ?_ | refine blk_alloc ?_ _)); exact BK278.out⟩
   have n5_ : Aside0 (Below w.heap.size w ((w33.setCell ⟨gb278, 0, none⟩ (.int .i64 t274)).setCell ⟨gb278, 1, none⟩ (.slice Ao36 t275.length co36))) := ⟨by repeat (first | (with_reducible first | exact HB.out | apply below_alloc | apply pw_below_drewN | apply below_drew1 | refine below_set ?_ GE273.out | refine below_set ?_ GE278.out) | exact HB.out)⟩
   (try clear HO_3)
   (try clear HO_9)
   (try clear HO277)
   (try clear BK273)
   (try clear BK278)
   (try clear HB)
   generalize ((w33.setCell ⟨gb278, 0, none⟩ (.int .i64 t274)).setCell ⟨gb278, 1, none⟩ (.slice Ao36 t275.length co36)) = w37 at n0_ n1_ n2_ n3_ n4_ n5_ ⊢
   have HO_3 := n0_
   have HO_9 := n1_
   have HO277 := n2_
   have BK273 := n3_
   have BK278 := n4_
   have HB := n5_
   clear n0_ n1_ n2_ n3_ n4_ n5_
   have n0_ := Aside0.mk (Kd.R_drew HO_3.out)
   have n1_ := Aside0.mk (Kd.R_drew HO_9.out)
   have n2_ := Aside0.mk (Kd.R_drew HO277.out)
   have n3_ := Aside0.mk (blk_drew BK273.out)
   have n4_ := Aside0.mk (blk_drew BK278.out)
   have n5_ := Aside0.mk (below_drew1 HB.out)
   clear HO_3
   clear HO_9
   clear HO277
   clear BK273
   clear BK278
   clear HB
   have HO_3 := n0_
   have HO_9 := n1_
   have HO277 := n2_
   have BK273 := n3_
   have BK278 := n4_
   have HB := n5_
   clear n0_ n1_ n2_ n3_ n4_ n5_
   have p279 : 0 ≤ (0 : Int) := (by omega)
   have q279 : 0 < (t275.length : Int) := of_decide_eq_true (by first | (with_reducible assumption) | assumption)
   obtain ⟨ad279, e279, hx279_0⟩ := Kd.at_bool (Kd.R_reads' HO277.out).2.2 0 p279 q279
   (try rw [← Nbq12.out] at hx279_0)
   (try rw [← Nbq26.out] at hx279_0)
   cases e279
   have qi279 : (0 < t275.length) = True := eq_true (by omega)
   (try rw [show ((0 : Int)).toNat = 0 from rfl] at hx279_0)
   (try rw [Addr.add_zero'] at hx279_0)
   replace p279 := eq_true p279
   replace q279 := eq_true q279
   have p281 : 0 ≤ (t280 : Int) := of_decide_eq_true (by first | (with_reducible assumption) | assumption)
   have q281 : t280 < (t275.length : Int) := of_decide_eq_true (by first | (with_reducible assumption) | assumption)
   obtain ⟨ad281, e281, hx281_0⟩ := Kd.at_bool (Kd.R_reads' HO277.out).2.2 t280 p281 q281
   (try rw [← Nbq12.out] at hx281_0)
   (try rw [← Nbq26.out] at hx281_0)
   obtain rfl : ad279 = ad281 := (by injection e281)
   replace p281 := eq_true p281
   replace q281 := eq_true q281
   refine start_ (n := 13) (S := fun w' => w'.cell? ⟨gb278, 0, none⟩ = some (.int .i64 t274) ∧ w'.cell? ⟨gb278, 1, none⟩ = some (.slice (some ad279) t275.length co36) ∧ w'.cell? ad279 = some (.bool false) ∧ w'.cell? (ad279.add (t280).toNat) = some (.bool true)) (ds := []) #[false, false, false, false, false, false, false, false, false, false, false, false, false] (by kernel_rfl) rfl rfl ⟨(blk_cell BK278.out 0).trans rfl, (blk_cell BK278.out 1).trans rfl, hx279_0, hx281_0⟩ (fun hHeld => ?_); refine with_tabW impl_allGames.tab6 impl_allGames.bits6 (fun HT_ HW_ => ?_)
   generalize w37.drew = w38 at HO_3 HO_9 HO277 BK273 BK278 HB hx279_0 hx281_0 hHeld ⊢
   refine pure_ (i := 0) (N := some 18) (v := ?_) (a' := ?_) #[true, false, false, false, false, false, false, false, false, false, false, false, false] rfl rfl (any_of HT_.out (by kernel_rfl)) (fun _ _ _ h => h) (Or.inl ⟨by rfl, ?_⟩) ?_ ?_
   rotate_left
   ·intro w'
    go_simp
    with_reducible rfl
   rotate_left
   ·simp only [Act.put, List.setIfInBounds_toArray, List.set_cons_zero, List.set_cons_succ, i64_w, i32_w]
    rfl
   refine take_ (i := 1) (N := some 19) (v := ?_) (a' := ?_) #[true, true, false, false, false, false, false, false, false, false, false, false, false] rfl rfl (take_ofW HT_.out HW_.out (by kernel_rfl)) (fun _ _ _ h => h) (Or.inl ⟨by rfl, ?_⟩) hHeld ?_ ?_
   rotate_left
   ·rintro w' ⟨s0, s1, s2, s3⟩
    go_simp
    with_reducible rfl
   rotate_left
   ·simp only [Act.put, List.setIfInBounds_toArray, List.set_cons_zero, List.set_cons_succ, i64_w, i32_w]
    rfl
   refine pure_ (i := 2) (N := some 20) (v := ?_) (a' := ?_) #[true, true, true, false, false, false, false, false, false, false, false, false, false] rfl rfl (any_of HT_.out (by kernel_rfl)) (fun _ _ _ h => h) (Or.inl ⟨by rfl, ?_⟩) ?_ ?_
   rotate_left
   ·intro w'
    go_simp
    with_reducible rfl
   rotate_left
   ·simp only [Act.put, List.setIfInBounds_toArray, List.set_cons_zero, List.set_cons_succ, i64_w, i32_w]
    rfl
   refine take_ (i := 3) (N := some 21) (v := ?_) (a' := ?_) #[true, true, true, true, false, false, false, false, false, false, false, false, false] rfl rfl (take_ofW HT_.out HW_.out (by kernel_rfl)) (fun _ _ _ h => h) (Or.inl ⟨by rfl, ?_⟩) hHeld ?_ ?_
   rotate_left
   ·rintro w' ⟨s0, s1, s2, s3⟩
    go_simp
    with_reducible rfl
   rotate_left
   ·simp only [Act.put, List.setIfInBounds_toArray, List.set_cons_zero, List.set_cons_succ, i64_w, i32_w]
    rfl
   refine pure_ (i := 4) (N := some 22) (v := ?_) (a' := ?_) #[true, true, true, true, true, false, false, false, false, false, false, false, false] rfl rfl (any_of HT_.out (by kernel_rfl)) (fun _ _ _ h => h) (Or.inl ⟨by rfl, ?_⟩) ?_ ?_
   rotate_left
   ·intro w'
    go_simp
    with_reducible rfl
   rotate_left
   ·simp only [Act.put, List.setIfInBounds_toArray, List.set_cons_zero, List.set_cons_succ, i64_w, i32_w]
    rfl
   refine pure_ (i := 5) (N := some 23) (v := ?_) (a' := ?_) #[true, true, true, true, true, true, false, false, false, false, false, false, false] rfl rfl (any_of HT_.out (by kernel_rfl)) (fun _ _ _ h => h) (Or.inl ⟨by rfl, ?_⟩) ?_ ?_
   rotate_left
   ·intro w'
    go_simp
    with_reducible rfl
   rotate_left
   ·simp only [Act.put, List.setIfInBounds_toArray, List.set_cons_zero, List.set_cons_succ, i64_w, i32_w]
    rfl
   refine pure_ (i := 6) (N := some 24) (v := ?_) (a' := ?_) #[true, true, true, true, true, true, true, false, false, false, false, false, false] rfl rfl (any_of HT_.out (by kernel_rfl)) (fun _ _ _ h => h) (Or.inl ⟨by rfl, ?_⟩) ?_ ?_
   rotate_left
   ·intro w'
    go_simp
    with_reducible rfl
   rotate_left
   ·simp only [Act.put, List.setIfInBounds_toArray, List.set_cons_zero, List.set_cons_succ, i64_w, i32_w]
    rfl
   refine take_ (i := 7) (N := some 25) (v := ?_) (a' := ?_) #[true, true, true, true, true, true, true, true, false, false, false, false, false] rfl rfl (take_ofW HT_.out HW_.out (by kernel_rfl)) (fun _ _ _ h => h) (Or.inl ⟨by rfl, ?_⟩) hHeld ?_ ?_
   rotate_left
   ·rintro w' ⟨s0, s1, s2, s3⟩
    go_simp
    with_reducible rfl
   rotate_left
   ·simp only [Act.put, List.setIfInBounds_toArray, List.set_cons_zero, List.set_cons_succ, i64_w, i32_w]
    rfl
   refine take_ (i := 8) (N := some 26) (v := ?_) (a' := ?_) #[true, true, true, true, true, true, true, true, true, false, false, false, false] rfl rfl (take_ofW HT_.out HW_.out (by kernel_rfl)) (fun _ _ _ h => h) (Or.inl ⟨by rfl, ?_⟩) hHeld ?_ ?_
   rotate_left
   ·rintro w' ⟨s0, s1, s2, s3⟩
    go_simp
    with_reducible rfl
   rotate_left
   ·simp only [Act.put, List.setIfInBounds_toArray, List.set_cons_zero, List.set_cons_succ, i64_w, i32_w]
    rfl
   refine one_ (i := 9) (N := some 27) #[true, true, true, true, true, true, true, true, true, true, false, false, false] rfl rfl (one_of HT_.out (by kernel_rfl)) (by decide) (fun K hK => ?_)
   refine goes_ Tryz.func103 (by kernel_rfl) rfl #[.agg #[.int .i64 t274, .slice (some ad279) t275.length co36]] (by rfl) rfl rfl (by (try simp only [List.map_toArray, List.map_cons, List.map_nil]); first | done | rfl | (simp only [List.length_drop, List.length_take]; rfl)) ?_
   with_reducible refine (impl_votes_all.calls t274 _ _ t275 t280 _ ?side1 ?side2 A23.out).mono ?_
   (case side1 => repeat (first | exact (Kd.R_reads' HO277.out).2.2 | (with_reducible refine Kd.C_alloc ?_ _) | (with_reducible refine Kd.C_drewN ?_ _) | (with_reducible refine Kd.C_drew ?_)))
   (case side2 => exact (Kd.R_reads' HO277.out).2.1)
   rintro e w39 ⟨rfl, hb⟩
   have HS2_ := (hb.cell (World.block_lt_of_cell? _ _ (hHeld.2.2.1))).trans (hHeld.2.2.1)
   have HS3_ := (hb.cell (World.block_lt_of_cell? _ _ (hHeld.2.2.2))).trans (hHeld.2.2.2)
   refine ⟨_, rfl, ?_⟩
   have n0_ := Aside0.mk (Kd.R_below (zr HO_3.out) hb)
   have n1_ := Aside0.mk (Kd.R_below (zr HO_9.out) hb)
   have n2_ := Aside0.mk (Kd.R_below (zr HO277.out) hb)
   have n3_ := Aside0.mk (blk_below (g := gb273) (o := .cells #[.int .i64 (rd t269 x11_1)] 3 (0, 0)) (zb BK273.out) hb)
   have n4_ := Aside0.mk (blk_below (g := gb278) (o := .cells #[.int .i64 t274, .slice (some ad279) t275.length co36] 86 (0, 0)) (zb BK278.out) hb)
   have n5_ := Aside0.mk (below_step (zh HB.out) hb)
   clear HO_3
   clear HO_9
   clear HO277
   clear BK273
   clear BK278
   clear HB
   have HO_3 := n0_
   have HO_9 := n1_
   have HO277 := n2_
   have BK273 := n3_
   have BK278 := n4_
   have HB := n5_
   clear n0_ n1_ n2_ n3_ n4_ n5_
   (try clear hb)
   (try clear hb2)
   (try clear hk)
   (try clear hi)
   refine hK.out _ _ ⟨(blk_cell BK278.out 0).trans rfl, (blk_cell BK278.out 1).trans rfl, HS2_, HS3_⟩ (fun hHeld => ?_)
   clear hK K
   refine norm_ (a' := ?_) ?_ ?_
   rotate_left
   ·show Act.put _ (some 27) _ = _
    simp only [Act.put, List.setIfInBounds_toArray, List.set_cons_zero, List.set_cons_succ, i64_w, i32_w]
    rfl
   refine pure_ (i := 10) (N := some 28) (v := ?_) (a' := ?_) #[true, true, true, true, true, true, true, true, true, true, true, false, false] rfl rfl (any_of HT_.out (by kernel_rfl)) (fun _ _ _ h => h) (Or.inl ⟨by rfl, ?_⟩) ?_ ?_
   rotate_left
   ·intro w'
    go_simp
    with_reducible rfl
   rotate_left
   ·simp only [Act.put, List.setIfInBounds_toArray, List.set_cons_zero, List.set_cons_succ, i64_w, i32_w]
    rfl
   refine take_ (i := 11) (N := some 29) (v := ?_) (a' := ?_) #[true, true, true, true, true, true, true, true, true, true, true, true, false] rfl rfl (take_ofW HT_.out HW_.out (by kernel_rfl)) (fun _ _ _ h => h) (Or.inl ⟨by rfl, ?_⟩) hHeld ?_ ?_
   rotate_left
   ·rintro w' ⟨s0, s1, s2, s3⟩
    go_simp
    with_reducible rfl
   rotate_left
   ·simp only [Act.put, List.setIfInBounds_toArray, List.set_cons_zero, List.set_cons_succ, i64_w, i32_w]
    rfl
   refine pure_ (i := 12) (N := some 30) (v := ?_) (a' := ?_) #[true, true, true, true, true, true, true, true, true, true, true, true, true] rfl rfl (any_of HT_.out (by kernel_rfl)) (fun _ _ _ h => h) (Or.inl ⟨by rfl, ?_⟩) ?_ ?_
   rotate_left
   ·intro w'
    go_simp
    with_reducible rfl
   rotate_left
   ·simp only [Act.put, List.setIfInBounds_toArray, List.set_cons_zero, List.set_cons_succ, i64_w, i32_w]
    rfl
   refine done_ (done_of HT_.out (by kernel_rfl)) ?_
   have hcz40_0 : w39.cell? ⟨gb278, 0, none⟩ = some (.int .i64 t274) := (blk_cell BK278.out 0).trans rfl
   have hcz40_1 : w39.cell? ⟨gb278, 1, none⟩ = some (.slice (some ad279) t275.length co36) := (blk_cell BK278.out 1).trans rfl
   have hfz40_0 := blk_frozen BK278.out 0
   have hfz40_1 := blk_frozen BK278.out 1
   try go_wp2_with (first | ((with_reducible refine gate_callee (f := 104) rfl ?_); refine goesL_ (some 33) rfl rfl Tryz.func104 (by kernel_rfl) rfl #[.agg #[.int .i64 t274, .slice (some ad279) t275.length co36]] rfl (by (try simp only [List.map_toArray, List.map_cons, List.map_nil]); first | done | rfl | (simp only [List.length_drop, List.length_take]; rfl)) ?_; (with_reducible refine (impl_votes_game.calls k1 t274 _ _ t275 t282 t283 _ ?side1 ?side2 A28.out).mono ?_); (case side1 => repeat (first | exact (Kd.R_reads' HO277.out).2.2 | (with_reducible refine Kd.C_alloc ?_ _) | (with_reducible refine Kd.C_drewN ?_ _) | (with_reducible refine Kd.C_drew ?_))); (case side2 => exact (Kd.R_reads' HO277.out).2.1); rintro e w41 ⟨v284, rfl, ho0, hb⟩; refine ⟨_, rfl, ?_⟩; have n0_ := Aside0.mk (Kd.R_elder' (zr HO_3.out) (Kd.S_base ho0) hb); have n1_ := Aside0.mk (Kd.R_below (zr HO_9.out) hb); have n2_ := Aside0.mk (Kd.R_below (zr HO277.out) hb); have n3_ := Aside0.mk (Kd.S_lower (Kd.S_newB (Kd.S_new' ho0 (Kd.R_lt (zr HO_9.out))) (g := gb273) (o := .cells #[.int .i64 (rd t269 x11_1)] 3 (0, 0)) (zb BK273.out)) (below_size (zh HB.out))); have n4_ := Aside0.mk (blk_below (g := gb273) (o := .cells #[.int .i64 (rd t269 x11_1)] 3 (0, 0)) (zb BK273.out) hb); have n5_ := Aside0.mk (blk_below (g := gb278) (o := .cells #[.int .i64 t274, .slice (some ad279) t275.length co36] 86 (0, 0)) (zb BK278.out) hb); have n6_ := Aside0.mk (below_step (zh HB.out) hb); clear HO_3; clear HO_9; clear HO277; clear BK273; clear BK278; clear HB; have HO_3 := n0_; have HO_9 := n1_; have HO277 := n2_; have HO285 := n3_; have BK273 := n4_; have BK278 := n5_; have HB := n6_; clear n0_ n1_ n2_ n3_ n4_ n5_ n6_; (try clear hb); (try clear hb2); (try clear hk); (try clear hi); (try clear ho0); obtain ⟨Ao43, co43, eo43⟩ := Kd.S_slice HO285.out; subst eo43) | ((with_reducible refine gate_builtin (b := .append) (xs := #[.tmp 31, .tmp 34]) rfl ?_); at_builtin; refine Kd.R_append k46 (w0 := w) w.heap.size rfl (.tmp 31) (.tmp 34) 51 46 (.agg #[(.int .i64 0), (.slice none 0 0)]) 32 rfl Tryz.underlying51 info46 rfl (by decide) (by omega) u3 x3_1 (⟨t282, t283⟩ : S46) [.int .i64 t282, .slice Ao43 t283.length co43] (fun k_ => some k_ ≠ (.slice (some ad272) t269.length co6 : Value).ownBlock ∧ k_ ≠ gb273) (fun k_ => ((fun k_ => some k_ ≠ (.slice (some ad272) t269.length co6 : Value).ownBlock ∧ k_ ≠ gb273)) k_ ∧ some k_ ≠ (u3 : Value).ownBlock) rfl rfl ?aP (fun _ hk => hk) ?aF ?aO ?aB ?aS ?aL ?_; (case aP => exact k46_mkM _ _ _ (⟨t282, t283⟩ : S46) (Kd.R_mono (Kd.R_apart' ((Kd.S_R HO285.out)) (Kd.R_typed HO_3.out) (by decide)) (fun k_ hk => ⟨⟨hk.1.1.2, hk.1.2⟩, hk.2⟩))); (case aB => exact (zh HB.out)); (case aF => exact (fun k_ hk => ⟨Kd.fresh' (Kd.R_lt (zr HO_9.out)) k_ hk, Kd.freshB (g := gb273) (o := .cells #[.int .i64 (rd t269 x11_1)] 3 (0, 0)) (zb BK273.out) k_ hk⟩)); (case aO => exact (by (with_reducible repeat (first | apply Kd.R_alloc | apply Kd.R_drewN | apply Kd.R_drew)); exact Kd.R_mono HO_3.out (fun _ hk => ⟨hk.1.1, hk.1.2⟩))); (case aS => exact (below_size (zh HB.out))); (case aL => have := LMc29.out; omega); intro v287 w42 ho hb hg hat; rw [← Ny286.out] at ho; have n0_ := Aside0.mk (Kd.R_over' (zr HO_9.out) (Kd.R_typed (zr HO_3.out)) (by decide) hg); have n1_ := Aside0.mk (blk_grown (g := gb273) (o := .cells #[.int .i64 (rd t269 x11_1)] 3 (0, 0)) (zb BK273.out) hg (Kd.R_ne HO_3.out BK273.out (by decide))); have n2_ := Aside0.mk (Kd.R_over' (zr HO277.out) (Kd.R_typed (zr HO_3.out)) (by decide) hg); have n3_ := Aside0.mk (blk_grown (g := gb278) (o := .cells #[.int .i64 t274, .slice (some ad279) t275.length co36] 86 (0, 0)) (zb BK278.out) hg (Kd.R_ne HO_3.out BK278.out (by decide))); have n4_ := Aside0.mk (hb); have n5_ := Aside0.mk (ho); clear HO_9; clear BK273; clear HO277; clear BK278; clear HB; clear HO_3; clear HO285; have HO_9 := n0_; have BK273 := n1_; have HO277 := n2_; have BK278 := n3_; have HB := n4_; have HO288 := n5_; clear n0_ n1_ n2_ n3_ n4_ n5_; clear ho hb hg hat))
   go_roundg k1
   case measure => have := HK1.out; omega
   case rel => exact ⟨(y286), (wrap64 (x11_1 + 1)), (by first | rfl | (simp; done) | (simp [*]; done)), H', ⟨by have := HK1.out; omega⟩, ⟨by (with_reducible repeat (first | apply Kd.R_alloc | apply Kd.R_drewN | apply Kd.R_drew)); exact Kd.R_mono HO288.out (fun _ hk => hk.1)⟩, ⟨by (with_reducible repeat (first | apply Kd.R_alloc | apply Kd.R_drewN | apply Kd.R_drew)); exact Kd.R_mono HO_9.out (fun _ hk => trivial)⟩, ⟨by repeat (first | (with_reducible first | exact HB.out | apply below_alloc | apply pw_below_drewN | apply below_drew1 | refine below_set ?_ GE273.out | refine below_set ?_ GE278.out) | exact HB.out)⟩⟩
end Go.Proofs.YtgjakcpbfbfejaaGreat.Q
end
section
namespace Go.Proofs.YtgjakcpbfbfejaaGreat.Q
open Go.RowKit Go.Proofs.YtgjakcpbfbfejaaGreatW.PrintWords Go.Proofs.YtgjakcpbfbfejaaGreatW.PrintLast Go.Proofs.YtgjakcpbfbfejaaGreatW.PrintMore
set_option linter.unusedVariables false
set_option linter.unusedSimpArgs false
def solP (k : Nat) (clues : List S72) (g : S46) : Option Bool := (impl_Game_votes.f k g.f0 g.f1).bind fun v => anyO (fun c => impl_solutions_1_1.f k c.f0 c.f1 c.f2 v.1 v.2) clues
theorem impl_solutions_1_1.pred (k : Nat) (n : Int) (A : Option Addr) (c : Nat) (l : List Bool) (b1 : Nat) (w : World) (h1 : w.heap[b1]? = some (.cells #[.int .i64 n, .slice A l.length c] 86 (0, 0))) (hC : Kd.C Kd.bool w A l.length l) (hc : l.length ≤ c) :
    PredK Tryz.prog 81 #[.pointer (some ⟨b1, 0, none⟩)] k72 (fun c => .agg c.toArray) w (fun x => impl_solutions_1_1.f k x.f0 x.f1 x.f2 n l) := by
  intro W x cx b hb hK hp
  obtain rfl := k72_open hK
  exact (impl_solutions_1_1.calls k x.f0 x.f1 x.f2 n A c l b W b1 (blk_below h1 hb) (Kd.C_below hC hb) hc hp).mono (fun _ _ h => ⟨h.1, hb.trans (h.2.mono hb.size)⟩)
set_option maxHeartbeats 2000000 in
theorem impl_solutions_1.pred (k : Nat) (A1 : Option Addr) (c1 : Nat) (clues : List S72) (b1 : Nat) (wb : World) (h1 : wb.heap[b1]? = some (.cells #[.slice A1 clues.length c1] 28 (0, 0))) (hC : Kd.C k72 wb A1 clues.length clues) (hc1 : clues.length ≤ c1) :
    PredG Tryz.prog 79 #[.pointer (some ⟨b1, 0, none⟩)] wb (solP k clues) := by
  intro W x A c b hb hxc hxC hp
  show Calls Tryz.prog 79 #[.agg #[.int .i64 x.f0, .slice A x.f1.length c], .pointer (some ⟨b1, 0, none⟩)] W _
  obtain ⟨⟨v1, v2⟩, hv, hp⟩ := Option.bind_eq_some_iff.mp hp
  have HBK := Aside0.mk (blk_below h1 hb)
  have eg : ∀ args w, (callFunc 81 args).run Tryz.prog w = .ok (.enter 81 args) w := enters_of Tryz.func81 (by kernel_rfl) rfl
  have EG := Aside0.mk eg
  clear eg
  have HB := Aside0.mk hb
  have HX := Aside0.mk hxC
  have HCL := Aside0.mk (Kd.C_below hC hb)
  have HV := Aside0.mk hv
  have HP := Aside0.mk hp
  clear h1 hC hb hxC hv hp
  go_enter Tryz.func79, Tryz.ntmps79
  go_wp2_with (go_at_call 80; refine (impl_Game_votes.calls k x.f0 A c x.f1 v1 v2 _ (Kd.C_below HX.out ((Below.refl _ W).alloc (Nat.le_refl _) _)) hxc HV.out).mono ?_; rintro e w1 ⟨u, rfl, hR, hb1⟩; obtain ⟨Av, cv, rfl⟩ := Kd.R_slice hR; have HR := Aside0.mk (Kd.R_reads' hR).2.2; have HRC := Aside0.mk (Kd.R_reads' hR).2.1; have HB1 := Aside0.mk (((Below.refl _ W).alloc (Nat.le_refl _) _).trans (hb1.mono (by simp))); clear hR hb1; have x0 : w1.cell? ⟨b1, 0, none⟩ = some (.slice A1 clues.length c1) := (blk_cell (blk_below HBK.out HB1.out) 0).trans rfl; have x1 : ∀ o, (w1.alloc o).cell? ⟨b1, 0, none⟩ = some (.slice A1 clues.length c1) := fun o => (blk_cell (blk_alloc (blk_below HBK.out HB1.out) o) 0).trans rfl; have q3 : w1.heap.size ≠ b1 := Nat.ne_of_gt (blk_lt (blk_below HBK.out HB1.out)); have q4 : b1 ≠ w1.heap.size := fun h => q3 h.symm)
  refine (containsFunc_clue (fun c => impl_solutions_1_1.f k c.f0 c.f1 c.f2 v1 v2) 81 #[.pointer (some ⟨w1.heap.size, 0, none⟩)] EG.out A1 c1 clues b _ (Kd.C_below HCL.out ((HB1.out.trans ((Below.refl _ w1).alloc (Nat.le_refl _) _ |>.mono HB1.out.size)))) hc1 (impl_solutions_1_1.pred k v1 Av cv v2 w1.heap.size _ (blk_new w1 _) (Kd.C_below HR.out ((Below.refl _ w1).alloc (Nat.le_refl _) _)) HRC.out) HP.out).mono ?_
  rintro e w2 ⟨rfl, hb2⟩
  have HB2 := Aside0.mk (HB1.out.trans (((Below.refl _ w1).alloc (Nat.le_refl _) _).trans (hb2.mono (by simp)) |>.mono HB1.out.size))
  clear hb2 x1 x0
  go_wp2
  go_ret
  exact ⟨rfl, HB2.out⟩
def impl_solutions.f (k : Nat) (n : Int) (l : List S72) : Option (List S46) := (impl_allGames.f k n).bind fun gs => if gs.length ≤ 1000000 then filO (solP k l) gs else none
set_option maxHeartbeats 2000000 in
theorem impl_solutions.calls (k : Nat) (n : Int) (A : Option Addr) (c : Nat) (l : List S72) (r : List S46) (w : World) (hC : Kd.C k72 w A l.length l) (hc : l.length ≤ c) (h : impl_solutions.f k n l = some r) :
    Calls Tryz.prog 57 #[.int .i64 n, .slice A l.length c] w fun e w' => ∃ v0_ : Value, e = .returned v0_ ∧ Kd.V k46 46 w' w.heap.size (fun k_ => w.heap.size ≤ k_) v0_ r ∧ Below w.heap.size w w' := by
  have eg : ∀ args w, (callFunc 79 args).run Tryz.prog w = .ok (.enter 79 args) w := enters_of Tryz.func79 (by kernel_rfl) rfl
  have EG := Aside0.mk eg
  clear eg
  obtain ⟨gs, hg, h⟩ := Option.bind_eq_some_iff.mp h
  by_cases hl : gs.length ≤ 1000000
  case neg => rw [if_neg hl] at h; cases h
  rw [if_pos hl] at h
  have HC := Aside0.mk hC
  have HG := Aside0.mk hg
  have HL := Aside0.mk hl
  have HH := Aside0.mk h
  clear hC hg hl h
  go_enter Tryz.func57, Tryz.ntmps57
  go_wp2_with (go_at_call 78; refine (impl_allGames.calls k n gs _ HG.out).mono ?_; rintro e w1 ⟨u, rfl, hR, hb1⟩; obtain ⟨Av, cv, rfl⟩ := Kd.R_slice hR; have HN := Aside0.mk (Kd.R_N (Kd.R_mono (Kd.R_bound hR) (fun _ h => h.2.1))); have HB1 := Aside0.mk hb1; clear hR hb1)
  refine (deleteFunc_games (solP k l) 79 #[.pointer (some ⟨w.heap.size, 0, none⟩)] EG.out (w.alloc (.cells #[.slice A l.length c] 28 (0, 0))) w1 Av cv gs r (impl_solutions_1.pred k A c l w.heap.size _ (blk_new w _) (Kd.C_below HC.out ((Below.refl _ w).alloc (Nat.le_refl _) _)) hc) HB1.out HN.out HL.out HH.out).mono ?_
  rintro e w2 ⟨A2, c2, rfl, hN2, hB2⟩
  have HN2 := Aside0.mk hN2
  have HB2 := Aside0.mk hB2
  clear hN2 hB2 HN HB1
  go_wp2
  go_ret
  exact ⟨_, rfl, ⟨A2, c2, rfl, (Kd.N_reads' HN2.out).2.1, Kd.F_mono (Kd.N_F HN2.out) (fun z hz => Nat.le_trans (by simp) hz)⟩, ((Below.refl _ w).alloc (Nat.le_refl _) _).trans (HB2.out.mono (by simp))⟩
end Go.Proofs.YtgjakcpbfbfejaaGreat.Q
end
section
namespace Go.Proofs.YtgjakcpbfbfejaaGreat.Q
open Go.RowKit Go.Proofs.YtgjakcpbfbfejaaGreatW.PrintWords Go.Proofs.YtgjakcpbfbfejaaGreatW.PrintLast Go.Proofs.YtgjakcpbfbfejaaGreatW.PrintMore
attribute [local go_sem] max2_int min2_int max_two min_two max_three min_three max_four min_four
set_option linter.unusedVariables false
set_option linter.unusedSimpArgs false
mutual
def impl_BestClue.j0 : Nat → Bool → Int → List (S72) → Option (Int × Bool)
 | 0, _, _, _ => none
 | k + 1, x16, x430000, x430001 => if x16 = true then (some (0, false)) else (impl_BestClue.l0 k 0 (-1) (x430001.length : Int) 0 x430000 x430001)
def impl_BestClue.l0 : Nat → Int → Int → Int → Int → Int → List (S72) → Option (Int × Bool)
 | 0, _, _, _, _, _, _ => none
 | k + 1, x4, x5, x19, x20, x430000, x430001 => if x20 < x19 then (if 0 ≤ x20 then (if x20 ≤ (wrap64 (x20 + 1)) then (if (wrap64 (x20 + 1)) ≤ (x430001.length : Int) then ((impl_solutions.f k x430000 ((x430001.take ((wrap64 (x20 + 1)) : Int).toNat).drop (x20 : Int).toNat)).bind fun t435 => (if x5 < 0 then (impl_BestClue.l0 k x20 (t435.length : Int) x19 (wrap64 (x20 + 1)) x430000 x430001) else (if (t435.length : Int) < x5 then (impl_BestClue.l0 k x20 (t435.length : Int) x19 (wrap64 (x20 + 1)) x430000 x430001) else (impl_BestClue.l0 k x4 x5 x19 (wrap64 (x20 + 1)) x430000 x430001)))) else (none)) else (none)) else (none)) else (some (x4, true))
end
def impl_BestClue.f (k : Nat) (a0_0 : Int) (l0_1 : List (S72)) : Option (Int × Bool) := (impl_IsPuzzle.f a0_0 l0_1).bind fun t430 => (if t430 = true then (impl_BestClue.j0 k ((l0_1.length : Int) == 0) a0_0 l0_1) else (impl_BestClue.j0 k true a0_0 l0_1))
def impl_BestClue.T7 : Bool × List (List Nat × List Nat) := (true, [([], []), ([0], [0]), ([], []), ([2], [2]), ([], []), ([], []), ([5], [5]), ([3, 4, 6], [3, 4, 6]), ([1, 7], [1, 7]), ([8], [8]), ([9, 8, 0, 1, 2, 3, 4, 5, 6, 7, 8, 9], [9])])
def impl_BestClue.B7 : List Nat := [0, 1, 0, 4, 0, 0, 32, 124, 255, 511, 1023]
theorem impl_BestClue.tab7 : rtab .any (opsOf Tryz.f21 7) = impl_BestClue.T7 := by kernel_rfl
theorem impl_BestClue.bits7 : waitsOk impl_BestClue.T7.2 impl_BestClue.B7 = true := by kernel_rfl
set_option maxHeartbeats 8000000 in
set_option maxRecDepth 100000 in
theorem impl_BestClue.calls (k : Nat) (a0_0 : Int) (A0_1 : Option Addr) (c0_1 : Nat) (l0_1 : List (S72)) (r1 : Int) (r2 : Bool) (w : World) (hr0_1 : Kd.C k72 w A0_1 l0_1.length l0_1) (hc0_1 : l0_1.length ≤ c0_1) (h : impl_BestClue.f k a0_0 l0_1 = some (r1, r2)) :
  Calls Tryz.prog 21 #[.agg #[.int .i64 a0_0, .slice A0_1 l0_1.length c0_1]] w fun e w' => e = .returned (.tuple #[.int .i64 r1, .bool r2]) ∧ Below w.heap.size w w' := by
 have hu30 := Tryz.underlying30
 have HR0_1 := Aside0.mk hr0_1
 have HC0_1 := Aside0.mk hc0_1
 clear hr0_1 hc0_1
 have HB := Aside0.mk (Below.refl w.heap.size w)
 have H : ((impl_IsPuzzle.f a0_0 l0_1).bind fun t430 => (if t430 = true then (impl_BestClue.j0 k ((l0_1.length : Int) == 0) a0_0 l0_1) else (impl_BestClue.j0 k true a0_0 l0_1))) = some (r1, r2) := h
 clear h
 have HC2 := Aside0.mk H
 clear H
 go_enter Tryz.func21, Tryz.ntmps21
 go_upto_region 1 with (first | ((with_reducible refine gate_dst (N := 1) rfl ?_); (try (refine gate_guard (by rfl) ?_; dsimp only)); refine box_event ?hg (N := 1) ?hd (cs := #[.int .i64 a0_0, .slice A0_1 l0_1.length c0_1]) (t := 30) ?hr ?_; (case hd => rfl); (case hg => rfl); (case hr => first | (go_simp; done) | (go_simp; rfl)); intro gb429 hg w3 hbox hb; have n2_ := Aside0.mk ((by rw [hg]; exact (below_size (zh HB.out)) : w.heap.size ≤ gb429)); replace HB := Aside0.mk (below_step (zh HB.out) hb); have BK429 := Aside0.mk hbox; have GW429 := n2_; have GE429 := n2_; clear n2_ hb hbox hg))
 (try simp only [Act.put, List.setIfInBounds_toArray, List.set_cons_zero, List.set_cons_succ])
 go_cut [16] (fun v16 wc => ∃ (kq : Nat) (x16_1 : Bool), v16 = .bool x16_1 ∧ Aside0 (impl_BestClue.j0 kq x16_1 a0_0 l0_1 = some (r1, r2)) ∧ Aside0 (kq ≤ k) ∧ Aside0 (wc.heap[gb429]? = some (.cells #[.int .i64 a0_0, (.slice A0_1 l0_1.length c0_1)] 30 (0, 0))) ∧ Aside0 (Below w.heap.size w wc))
 case first =>
  have H := HC2.out
  clear HC2
  replace H := Option.bind_eq_some_iff.mp H
  obtain ⟨t430, A40, H⟩ := H
  replace H : (if t430 = true then (impl_BestClue.j0 k ((l0_1.length : Int) == 0) a0_0 l0_1) else (impl_BestClue.j0 k true a0_0 l0_1)) = some (r1, r2) := H
  have A4 := Aside0.mk A40
  clear A40
  by_cases c5 : t430 = true
  ·subst c5
   have H1 : (impl_BestClue.j0 k ((l0_1.length : Int) == 0) a0_0 l0_1) = some (r1, r2) := by rw [if_pos rfl] at H; exact H
   clear H
   have H := H1
   clear H1
   have H' := Aside0.mk H
   clear H
   have hcz6_0 : w3.cell? ⟨gb429, 0, none⟩ = some (.int .i64 a0_0) := (blk_cell BK429.out 0).trans rfl
   have hcz6_1 : w3.cell? ⟨gb429, 1, none⟩ = some (.slice A0_1 l0_1.length c0_1) := (blk_cell BK429.out 1).trans rfl
   have hfz6_0 := blk_frozen BK429.out 0
   have hfz6_1 := blk_frozen BK429.out 1
   go_wp2_with (first | ((with_reducible refine gate_callee (f := 56) rfl ?_); refine goesL_ (some 9) rfl rfl Tryz.func56 (by kernel_rfl) rfl #[.agg #[.int .i64 a0_0, .slice A0_1 l0_1.length c0_1]] rfl (by (try simp only [List.map_toArray, List.map_cons, List.map_nil]); first | done | rfl | (simp only [List.length_drop, List.length_take]; rfl)) ?_; (with_reducible refine (impl_IsPuzzle.calls a0_0 _ _ l0_1 true _ ?side1 ?side2 A4.out).mono ?_); (case side1 => repeat (first | exact (Kd.C_below HR0_1.out HB.out) | (with_reducible refine Kd.C_alloc ?_ _) | (with_reducible refine Kd.C_drewN ?_ _) | (with_reducible refine Kd.C_drew ?_))); (case side2 => exact HC0_1.out); rintro e w7 ⟨rfl, hb⟩; refine ⟨_, rfl, ?_⟩; have n0_ := Aside0.mk (blk_below (g := gb429) (o := .cells #[.int .i64 a0_0, .slice A0_1 l0_1.length c0_1] 30 (0, 0)) (zb BK429.out) hb); have n1_ := Aside0.mk (below_step (zh HB.out) hb); clear BK429; clear HB; have BK429 := n0_; have HB := n1_; clear n0_ n1_; (try clear hb); (try clear hb2); (try clear hk); (try clear hi); have hcz8_0 : w7.cell? ⟨gb429, 0, none⟩ = some (.int .i64 a0_0) := (blk_cell BK429.out 0).trans rfl; have hcz8_1 : w7.cell? ⟨gb429, 1, none⟩ = some (.slice A0_1 l0_1.length c0_1) := (blk_cell BK429.out 1).trans rfl; have hfz8_0 := blk_frozen BK429.out 0; have hfz8_1 := blk_frozen BK429.out 1))
   go_meet
   case rel => exact ⟨_, (((l0_1.length : Int) == 0)), (by first | rfl | (simp; done) | (simp [*]; done)), H', ⟨by first | omega | exact Nat.le_refl _⟩, ⟨by (with_reducible repeat (first | refine blk_drewN ?_ _ | refine blk_drew ?_ | refine blk_alloc ?_ _)); exact BK429.out⟩, ⟨by repeat (first | (with_reducible first | exact HB.out | apply below_alloc | apply pw_below_drewN | apply below_drew1 | refine below_set ?_ GE429.out) | exact HB.out)⟩⟩
  ·replace c5 := Bool.eq_false_iff.mpr c5
   subst c5
   have H1 : (impl_BestClue.j0 k true a0_0 l0_1) = some (r1, r2) := by rw [if_neg (show ¬ (false = true) by decide)] at H; exact H
   clear H
   have H := H1
   clear H1
   have H' := Aside0.mk H
   clear H
   have hcz9_0 : w3.cell? ⟨gb429, 0, none⟩ = some (.int .i64 a0_0) := (blk_cell BK429.out 0).trans rfl
   have hcz9_1 : w3.cell? ⟨gb429, 1, none⟩ = some (.slice A0_1 l0_1.length c0_1) := (blk_cell BK429.out 1).trans rfl
   have hfz9_0 := blk_frozen BK429.out 0
   have hfz9_1 := blk_frozen BK429.out 1
   go_wp2_with (first | ((with_reducible refine gate_callee (f := 56) rfl ?_); refine goesL_ (some 9) rfl rfl Tryz.func56 (by kernel_rfl) rfl #[.agg #[.int .i64 a0_0, .slice A0_1 l0_1.length c0_1]] rfl (by (try simp only [List.map_toArray, List.map_cons, List.map_nil]); first | done | rfl | (simp only [List.length_drop, List.length_take]; rfl)) ?_; (with_reducible refine (impl_IsPuzzle.calls a0_0 _ _ l0_1 false _ ?side1 ?side2 A4.out).mono ?_); (case side1 => repeat (first | exact (Kd.C_below HR0_1.out HB.out) | (with_reducible refine Kd.C_alloc ?_ _) | (with_reducible refine Kd.C_drewN ?_ _) | (with_reducible refine Kd.C_drew ?_))); (case side2 => exact HC0_1.out); rintro e w10 ⟨rfl, hb⟩; refine ⟨_, rfl, ?_⟩; have n0_ := Aside0.mk (blk_below (g := gb429) (o := .cells #[.int .i64 a0_0, .slice A0_1 l0_1.length c0_1] 30 (0, 0)) (zb BK429.out) hb); have n1_ := Aside0.mk (below_step (zh HB.out) hb); clear BK429; clear HB; have BK429 := n0_; have HB := n1_; clear n0_ n1_; (try clear hb); (try clear hb2); (try clear hk); (try clear hi)))
   go_meet
   case rel => exact ⟨_, (true), (by first | rfl | (simp; done) | (simp [*]; done)), H', ⟨by first | omega | exact Nat.le_refl _⟩, ⟨by (with_reducible repeat (first | refine blk_drewN ?_ _ | refine blk_drew ?_ | refine blk_alloc ?_ _)); exact BK429.out⟩, ⟨by repeat (first | (with_reducible first | exact HB.out | apply below_alloc | apply pw_below_drewN | apply below_drew1 | refine below_set ?_ GE429.out) | exact HB.out)⟩⟩
 case rest =>
  clear HC2
  try clear c2
  try clear p2
  try clear c5
  try clear hcz6_0
  try clear hcz6_1
  try clear hcz8_0
  try clear hcz8_1
  try clear hcz9_0
  try clear hcz9_1
  try clear hfz6_0
  try clear hfz6_1
  try clear hfz8_0
  try clear hfz8_1
  try clear hfz9_0
  try clear hfz9_1
  obtain ⟨kq, x16_1, rfl, HA, HJ1, BK429, HB⟩ := hcut
  cases kq with
  | zero => exact absurd HA.out (by simp [impl_BestClue.j0])
  | succ kj1 =>
   have H := HA.out
   clear HA
   simp only [impl_BestClue.j0] at H
   by_cases c11 : x16_1 = true
   ·subst c11
    have H1 : (some (0, false)) = some (r1, r2) := by rw [if_pos rfl] at H; exact H
    clear H
    have H := H1
    clear H1
    simp only [Option.some.injEq, Prod.mk.injEq] at H
    obtain ⟨rfl, rfl⟩ := H
    go_wp2
    go_ret2
    exact ⟨by first | rfl | (simp [*, errW_none, errW_some] <;> rfl), by repeat (first | (with_reducible first | exact HB.out | apply below_alloc | apply pw_below_drewN | apply below_drew1 | refine below_set ?_ GE429.out) | exact HB.out)⟩
   replace c11 := Bool.eq_false_iff.mpr c11
   subst c11
   have H1 : (impl_BestClue.l0 kj1 0 (-1) (l0_1.length : Int) 0 a0_0 l0_1) = some (r1, r2) := by rw [if_neg (show ¬ (false = true) by decide)] at H; exact H
   clear H
   have H := H1
   clear H1
   have H' := Aside0.mk H
   clear H
   have hcz12_0 : wc.cell? ⟨gb429, 0, none⟩ = some (.int .i64 a0_0) := (blk_cell BK429.out 0).trans rfl
   have hcz12_1 : wc.cell? ⟨gb429, 1, none⟩ = some (.slice A0_1 l0_1.length c0_1) := (blk_cell BK429.out 1).trans rfl
   have hfz12_0 := blk_frozen BK429.out 0
   have hfz12_1 := blk_frozen BK429.out 1
   go_wp2
   go_loopg [4, 5, 20] kj1 (fun kq v4 v5 v20 w' => ∃ (x4_2 : Int) (x5_2 : Int) (x20_2 : Int), v4 = .int .i64 x4_2 ∧ v5 = .int .i64 x5_2 ∧ v20 = .int .i64 x20_2 ∧ Aside0 (impl_BestClue.l0 kq x4_2 x5_2 (l0_1.length : Int) x20_2 a0_0 l0_1 = some (r1, r2)) ∧ Aside0 (kq ≤ kj1) ∧ Aside0 (w'.heap[gb429]? = some (.cells #[.int .i64 a0_0, (.slice A0_1 l0_1.length c0_1)] 30 (0, 0))) ∧ Aside0 (Below w.heap.size w w'))
   case atStart => exact ⟨(0), ((-1)), (0), (by first | rfl | (simp; done) | (simp [*]; done)), (by first | rfl | (simp; done) | (simp [*]; done)), (by first | rfl | (simp; done) | (simp [*]; done)), H', ⟨Nat.le_refl _⟩, ⟨by (with_reducible repeat (first | refine blk_drewN ?_ _ | refine blk_drew ?_ | refine blk_alloc ?_ _)); exact BK429.out⟩, ⟨by repeat (first | (with_reducible first | exact HB.out | apply below_alloc | apply pw_below_drewN | apply below_drew1 | refine below_set ?_ GE429.out) | exact HB.out)⟩⟩
   case round =>
    clear H'
    try clear c1
    try clear c2
    try clear p2
    try clear c5
    try clear c11
    try clear hcz12_0
    try clear hcz12_1
    try clear hcz6_0
    try clear hcz6_1
    try clear hcz8_0
    try clear hcz8_1
    try clear hcz9_0
    try clear hcz9_1
    try clear hfz12_0
    try clear hfz12_1
    try clear hfz6_0
    try clear hfz6_1
    try clear hfz8_0
    try clear hfz8_1
    try clear hfz9_0
    try clear hfz9_1
    try clear p2
    obtain ⟨x4_2, x5_2, x20_2, rfl, rfl, rfl, HA, HK2, BK429, HB⟩ := hrel
    cases gk with
    | zero => exact absurd HA.out (by simp [impl_BestClue.l0])
    | succ k2 =>
     have H := HA.out
     clear HA
     simp only [impl_BestClue.l0] at H
     by_cases c13 : x20_2 < (l0_1.length : Int)
     rotate_left
     ·rw [if_neg c13] at H
      have c13b0 : decide (x20_2 < (l0_1.length : Int)) = false := decide_eq_false c13
      clear c13
      simp only [Option.some.injEq, Prod.mk.injEq] at H
      obtain ⟨rfl, rfl⟩ := H
      go_wp2
      go_ret2
      exact ⟨by first | rfl | (simp [*, errW_none, errW_some] <;> rfl), by repeat (first | (with_reducible first | exact HB.out | apply below_alloc | apply pw_below_drewN | apply below_drew1 | refine below_set ?_ GE429.out) | exact HB.out)⟩
     rw [if_pos c13] at H
     have c13b0 : decide (x20_2 < (l0_1.length : Int)) = true := decide_eq_true c13
     clear c13
     by_cases c14 : 0 ≤ x20_2
     rotate_left
     ·rw [if_neg c14] at H
      exact absurd H (by simp)
     rw [if_pos c14] at H
     have c14b0 := eq_true c14
     have c14b1 : decide (0 ≤ x20_2) = true := decide_eq_true c14
     clear c14
     by_cases c15 : x20_2 ≤ (wrap64 (x20_2 + 1))
     rotate_left
     ·rw [if_neg c15] at H
      exact absurd H (by simp)
     rw [if_pos c15] at H
     have c15b0 := eq_true c15
     have c15b1 : decide (x20_2 ≤ (wrap64 (x20_2 + 1))) = true := decide_eq_true c15
     by_cases c16 : (wrap64 (x20_2 + 1)) ≤ (l0_1.length : Int)
     rotate_left
     ·rw [if_neg c16] at H
      exact absurd H (by simp)
     rw [if_pos c16] at H
     have c16b0 := eq_true c16
     have c16b1 : decide ((wrap64 (x20_2 + 1)) ≤ (l0_1.length : Int)) = true := decide_eq_true c16
     obtain ⟨y431, hy431⟩ : ∃ y_ : List (S72), y_ = ((l0_1.take ((wrap64 (x20_2 + 1)) : Int).toNat).drop (x20_2 : Int).toNat) := ⟨_, rfl⟩
     replace H : ((impl_solutions.f k2 a0_0 y431).bind fun t435 => (if x5_2 < 0 then (impl_BestClue.l0 k2 x20_2 (t435.length : Int) (l0_1.length : Int) (wrap64 (x20_2 + 1)) a0_0 l0_1) else (if (t435.length : Int) < x5_2 then (impl_BestClue.l0 k2 x20_2 (t435.length : Int) (l0_1.length : Int) (wrap64 (x20_2 + 1)) a0_0 l0_1) else (impl_BestClue.l0 k2 x4_2 x5_2 (l0_1.length : Int) (wrap64 (x20_2 + 1)) a0_0 l0_1)))) = some (r1, r2) := by first | (rw [hy431]; with_reducible exact H) | (have H2_ := (Option.bind_some _ _).symm.trans H; rw [hy431]; with_reducible exact H2_) | (have H2_ := (Option.bind_some _ _).symm.trans H; with_reducible exact H2_) | with_reducible exact H | (rw [hy431]; exact H) | exact H
     have Ny431 := Aside0.mk hy431
     clear hy431
     replace H := Option.bind_eq_some_iff.mp H
     obtain ⟨t435, A170, H⟩ := H
     replace H : (if x5_2 < 0 then (impl_BestClue.l0 k2 x20_2 (t435.length : Int) (l0_1.length : Int) (wrap64 (x20_2 + 1)) a0_0 l0_1) else (if (t435.length : Int) < x5_2 then (impl_BestClue.l0 k2 x20_2 (t435.length : Int) (l0_1.length : Int) (wrap64 (x20_2 + 1)) a0_0 l0_1) else (impl_BestClue.l0 k2 x4_2 x5_2 (l0_1.length : Int) (wrap64 (x20_2 + 1)) a0_0 l0_1))) = some (r1, r2) := H
     have A17 := Aside0.mk A170
     clear A170
     by_cases c18 : x5_2 < 0
     ·rw [if_pos c18] at H
      have c18b0 : decide (x5_2 < 0) = true := decide_eq_true c18
      clear c18
      have H' := Aside0.mk H
      clear H
      try go_wp2
      have n0_ := Aside0.mk (blk_drew BK429.out)
      have n1_ := Aside0.mk (below_drew1 HB.out)
      clear BK429
      clear HB
      have BK429 := n0_
      have HB := n1_
      clear n0_ n1_
      have q20 : ((wrap64 (x20_2 + 1)) : Int) ≤ ((l0_1.length : Int) : Int) := of_decide_eq_true (by first | (with_reducible assumption) | assumption)
      obtain ⟨i020, hi020, _, hsz20, _⟩ := info_parts info72
      have hroom20 : l0_1.length ≤ c0_1 := HC0_1.out
      have hC20 : Kd.C k72 _ A0_1 l0_1.length l0_1 := HR0_1.out
      have ql20 : (x20_2 : Int) ≤ ((wrap64 (x20_2 + 1)) : Int) := of_decide_eq_true (by first | (with_reducible assumption) | assumption)
      have q020 : (0 : Int) ≤ (x20_2 : Int) := of_decide_eq_true (by first | (with_reducible assumption) | assumption)
      have hcut20 := cut_mid (P := Tryz.prog) 28 72 .i64 .i64 Tryz.underlying28 hi020 3 hsz20 A0_1 l0_1.length c0_1 x20_2 (wrap64 (x20_2 + 1)) q020 ql20 q20 hroom20
      have hr20 := Kd.C_mid (lo := (x20_2 : Int).toNat) (hi := ((wrap64 (x20_2 + 1)) : Int).toNat) (c := c0_1) hC20 (by omega) (by omega) hroom20
      obtain ⟨A20, hA20⟩ : ∃ A1, A1 = (if c0_1 = (x20_2 : Int).toNat then A0_1 else (A0_1 : Option Addr).map (·.add ((x20_2 : Int).toNat * 3))) := ⟨_, rfl⟩
      obtain ⟨c20, hc20⟩ : ∃ c1, c1 = c0_1 - (x20_2 : Int).toNat := ⟨_, rfl⟩
      have hy20 : y431.length = ((wrap64 (x20_2 + 1)) : Int).toNat - (x20_2 : Int).toNat := (by rw [Ny431.out, List.length_drop, List.length_take] <;> omega)
      rw [show ((l0_1).take ((wrap64 (x20_2 + 1)) : Int).toNat).drop (x20_2 : Int).toNat = y431 from Ny431.out.symm] at hr20
      replace hr20 : Kd.C k72 _ A20 y431.length y431 := (by rw [hA20]; exact hr20)
      rw [← hy20, ← hA20, ← hc20] at hcut20
      have HR434 := Aside0.mk hr20
      have HC434 := Aside0.mk (show y431.length ≤ c20 from by rw [hy20, hc20]; exact Nat.sub_le_sub_right (Nat.le_trans (by omega) hroom20) _)
      clear hr20 hC20 hroom20 hi020 hsz20 hc20
      have KY20 := Aside0.mk hy20
      have KA20 := Aside0.mk hA20
      clear hy20 hA20
      replace q20 := eq_true q20
      refine start_ (n := 11) (S := fun w' => w'.cell? ⟨gb429, 0, none⟩ = some (.int .i64 a0_0) ∧ w'.cell? ⟨gb429, 1, none⟩ = some (.slice A0_1 l0_1.length c0_1)) (ds := []) #[false, false, false, false, false, false, false, false, false, false, false] (by kernel_rfl) rfl rfl ⟨(blk_cell BK429.out 0).trans rfl, (blk_cell BK429.out 1).trans rfl⟩ (fun hHeld => ?_); refine with_tabW impl_BestClue.tab7 impl_BestClue.bits7 (fun HT_ HW_ => ?_)
      generalize wr.drew = w19 at BK429 HB HR434 hHeld ⊢
      refine pure_ (i := 0) (N := some 23) (v := ?_) (a' := ?_) #[true, false, false, false, false, false, false, false, false, false, false] rfl rfl (any_of HT_.out (by kernel_rfl)) (fun _ _ _ h => h) (Or.inl ⟨by rfl, ?_⟩) ?_ ?_
      rotate_left
      ·intro w'
       go_simp
       with_reducible rfl
      rotate_left
      ·simp only [Act.put, List.setIfInBounds_toArray, List.set_cons_zero, List.set_cons_succ, i64_w, i32_w]
       rfl
      refine pure_ (i := 2) (N := some 25) (v := ?_) (a' := ?_) #[true, false, true, false, false, false, false, false, false, false, false] rfl rfl (any_of HT_.out (by kernel_rfl)) (fun _ _ _ h => h) (Or.inl ⟨by rfl, ?_⟩) ?_ ?_
      rotate_left
      ·intro w'
       go_simp
       with_reducible rfl
      rotate_left
      ·simp only [Act.put, List.setIfInBounds_toArray, List.set_cons_zero, List.set_cons_succ, i64_w, i32_w]
       rfl
      refine pure_ (i := 4) (N := some 27) (v := ?_) (a' := ?_) #[true, false, true, false, true, false, false, false, false, false, false] rfl rfl (any_of HT_.out (by kernel_rfl)) (fun _ _ _ h => h) (Or.inl ⟨by rfl, ?_⟩) ?_ ?_
      rotate_left
      ·intro w'
       go_simp
       with_reducible rfl
      rotate_left
      ·simp only [Act.put, List.setIfInBounds_toArray, List.set_cons_zero, List.set_cons_succ, i64_w, i32_w]
       rfl
      refine pure_ (i := 5) (N := some 28) (v := ?_) (a' := ?_) #[true, false, true, false, true, true, false, false, false, false, false] rfl rfl (any_of HT_.out (by kernel_rfl)) (fun _ _ _ h => h) (Or.inl ⟨by rfl, ?_⟩) ?_ ?_
      rotate_left
      ·intro w'
       go_simp
       with_reducible rfl
      rotate_left
      ·simp only [Act.put, List.setIfInBounds_toArray, List.set_cons_zero, List.set_cons_succ, i64_w, i32_w]
       rfl
      refine pure_ (i := 6) (N := some 29) (v := ?_) (a' := ?_) #[true, false, true, false, true, true, true, false, false, false, false] rfl rfl (any_of HT_.out (by kernel_rfl)) (fun _ _ _ h => h) (Or.inl ⟨by rfl, ?_⟩) ?_ ?_
      rotate_left
      ·intro w'
       go_simp
       with_reducible rfl
      rotate_left
      ·simp only [Act.put, List.setIfInBounds_toArray, List.set_cons_zero, List.set_cons_succ, i64_w, i32_w]
       rfl
      refine take_ (i := 1) (N := some 24) (v := ?_) (a' := ?_) #[true, true, true, false, true, true, true, false, false, false, false] rfl rfl (take_ofW HT_.out HW_.out (by kernel_rfl)) (fun _ _ _ h => h) (Or.inl ⟨by rfl, ?_⟩) hHeld ?_ ?_
      rotate_left
      ·rintro w' ⟨s0, s1⟩
       go_simp
       with_reducible rfl
      rotate_left
      ·simp only [Act.put, List.setIfInBounds_toArray, List.set_cons_zero, List.set_cons_succ, i64_w, i32_w]
       rfl
      refine take_ (i := 3) (N := some 26) (v := ?_) (a' := ?_) #[true, true, true, true, true, true, true, false, false, false, false] rfl rfl (take_ofW HT_.out HW_.out (by kernel_rfl)) (fun _ _ _ h => h) (Or.inl ⟨by rfl, ?_⟩) hHeld ?_ ?_
      rotate_left
      ·rintro w' ⟨s0, s1⟩
       go_simp
       with_reducible rfl
      rotate_left
      ·simp only [Act.put, List.setIfInBounds_toArray, List.set_cons_zero, List.set_cons_succ, i64_w, i32_w]
       rfl
      refine pure_ (i := 7) (N := some 30) (v := ?_) (a' := ?_) #[true, true, true, true, true, true, true, true, false, false, false] rfl rfl (any_of HT_.out (by kernel_rfl)) (fun _ _ _ h => h) (Or.inl ⟨by rfl, ?_⟩) ?_ ?_
      rotate_left
      ·intro w'
       go_simp
       with_reducible rfl
      rotate_left
      ·simp only [Act.put, List.setIfInBounds_toArray, List.set_cons_zero, List.set_cons_succ, i64_w, i32_w]
       rfl
      refine one_ (i := 8) (N := some 31) #[true, true, true, true, true, true, true, true, true, false, false] rfl rfl (one_of HT_.out (by kernel_rfl)) (by decide) (fun K hK => ?_)
      refine goes_ Tryz.func57 (by kernel_rfl) rfl #[.int .i64 a0_0, .slice A20 y431.length c20] (by rfl) rfl rfl (by (try simp only [List.map_toArray, List.map_cons, List.map_nil]); first | done | rfl | (simp only [List.length_drop, List.length_take]; rfl)) ?_
      with_reducible refine (impl_solutions.calls k2 a0_0 _ _ y431 t435 _ ?side1 ?side2 A17.out).mono ?_
      (case side1 => repeat (first | exact (Kd.C_below HR434.out HB.out) | (with_reducible refine Kd.C_alloc ?_ _) | (with_reducible refine Kd.C_drewN ?_ _) | (with_reducible refine Kd.C_drew ?_)))
      (case side2 => exact HC434.out)
      rintro e w21 ⟨v436, rfl, ho0, hb⟩
      refine ⟨_, rfl, ?_⟩
      have n0_ := Aside0.mk (Kd.V_lower (Kd.V_mono (ok' := fun k_ => k_ ≠ gb429) ho0 (fun k_ hk_ => (Kd.freshB (g := gb429) (o := .cells #[.int .i64 a0_0, .slice A0_1 l0_1.length c0_1] 30 (0, 0)) (zb BK429.out) k_ hk_))) (below_size (zh HB.out)))
      have n1_ := Aside0.mk (blk_below (g := gb429) (o := .cells #[.int .i64 a0_0, .slice A0_1 l0_1.length c0_1] 30 (0, 0)) (zb BK429.out) hb)
      have n2_ := Aside0.mk (below_step (zh HB.out) hb)
      clear BK429
      clear HB
      have HO437 := n0_
      have BK429 := n1_
      have HB := n2_
      clear n0_ n1_ n2_
      (try clear hb)
      (try clear hb2)
      (try clear hk)
      (try clear hi)
      (try clear ho0)
      obtain ⟨Ao22, co22, eo22⟩ := Kd.V_slice HO437.out
      (first | subst eo22 | (injection eo22 with f1_ f2_ f3_; have f4_ := f1_.symm; have f5_ := f3_.symm; clear f1_ f2_ f3_; subst f4_; subst f5_))
      refine hK.out _ _ ⟨(blk_cell BK429.out 0).trans rfl, (blk_cell BK429.out 1).trans rfl⟩ (fun hHeld => ?_)
      clear hK K
      refine norm_ (a' := ?_) ?_ ?_
      rotate_left
      ·show Act.put _ (some 31) _ = _
       simp only [Act.put, List.setIfInBounds_toArray, List.set_cons_zero, List.set_cons_succ, i64_w, i32_w]
       rfl
      refine pure_ (i := 9) (N := some 32) (v := ?_) (a' := ?_) #[true, true, true, true, true, true, true, true, true, true, false] rfl rfl (any_of HT_.out (by kernel_rfl)) (fun _ _ _ h => h) (Or.inl ⟨by rfl, ?_⟩) ?_ ?_
      rotate_left
      ·intro w'
       go_simp
       with_reducible rfl
      rotate_left
      ·simp only [Act.put, List.setIfInBounds_toArray, List.set_cons_zero, List.set_cons_succ, i64_w, i32_w]
       rfl
      refine pure_ (i := 10) (N := some 7) (v := ?_) (a' := ?_) #[true, true, true, true, true, true, true, true, true, true, true] rfl rfl (any_of HT_.out (by kernel_rfl)) (fun _ _ _ h => h) (Or.inl ⟨by rfl, ?_⟩) ?_ ?_
      rotate_left
      ·intro w'
       go_simp
       with_reducible rfl
      rotate_left
      ·simp only [Act.put, List.setIfInBounds_toArray, List.set_cons_zero, List.set_cons_succ, i64_w, i32_w]
       rfl
      refine done_ (done_of HT_.out (by kernel_rfl)) ?_
      try go_wp2
      go_roundg k2
      case measure => have := HJ1.out; have := HK2.out; omega
      case rel => exact ⟨(x20_2), ((t435.length : Int)), (wrap64 (x20_2 + 1)), (by first | rfl | (simp; done) | (simp [*]; done)), (by first | rfl | (simp; done) | (simp [*]; done)), (by first | rfl | (simp; done) | (simp [*]; done)), H', ⟨by have := HJ1.out; have := HK2.out; omega⟩, ⟨by (with_reducible repeat (first | refine blk_drewN ?_ _ | refine blk_drew ?_ | refine blk_alloc ?_ _)); exact BK429.out⟩, ⟨by repeat (first | (with_reducible first | exact HB.out | apply below_alloc | apply pw_below_drewN | apply below_drew1 | refine below_set ?_ GE429.out) | exact HB.out)⟩⟩
     rw [if_neg c18] at H
     have c18b0 : decide (x5_2 < 0) = false := decide_eq_false c18
     clear c18
     by_cases c23 : (t435.length : Int) < x5_2
     rotate_left
     ·rw [if_neg c23] at H
      have c23b0 : decide ((t435.length : Int) < x5_2) = false := decide_eq_false c23
      clear c23
      have H' := Aside0.mk H
      clear H
      try go_wp2
      have n0_ := Aside0.mk (blk_drew BK429.out)
      have n1_ := Aside0.mk (below_drew1 HB.out)
      clear BK429
      clear HB
      have BK429 := n0_
      have HB := n1_
      clear n0_ n1_
      have q29 : ((wrap64 (x20_2 + 1)) : Int) ≤ ((l0_1.length : Int) : Int) := of_decide_eq_true (by first | (with_reducible assumption) | assumption)
      obtain ⟨i029, hi029, _, hsz29, _⟩ := info_parts info72
      have hroom29 : l0_1.length ≤ c0_1 := HC0_1.out
      have hC29 : Kd.C k72 _ A0_1 l0_1.length l0_1 := HR0_1.out
      have ql29 : (x20_2 : Int) ≤ ((wrap64 (x20_2 + 1)) : Int) := of_decide_eq_true (by first | (with_reducible assumption) | assumption)
      have q029 : (0 : Int) ≤ (x20_2 : Int) := of_decide_eq_true (by first | (with_reducible assumption) | assumption)
      have hcut29 := cut_mid (P := Tryz.prog) 28 72 .i64 .i64 Tryz.underlying28 hi029 3 hsz29 A0_1 l0_1.length c0_1 x20_2 (wrap64 (x20_2 + 1)) q029 ql29 q29 hroom29
      have hr29 := Kd.C_mid (lo := (x20_2 : Int).toNat) (hi := ((wrap64 (x20_2 + 1)) : Int).toNat) (c := c0_1) hC29 (by omega) (by omega) hroom29
      obtain ⟨A29, hA29⟩ : ∃ A1, A1 = (if c0_1 = (x20_2 : Int).toNat then A0_1 else (A0_1 : Option Addr).map (·.add ((x20_2 : Int).toNat * 3))) := ⟨_, rfl⟩
      obtain ⟨c29, hc29⟩ : ∃ c1, c1 = c0_1 - (x20_2 : Int).toNat := ⟨_, rfl⟩
      have hy29 : y431.length = ((wrap64 (x20_2 + 1)) : Int).toNat - (x20_2 : Int).toNat := (by rw [Ny431.out, List.length_drop, List.length_take] <;> omega)
      rw [show ((l0_1).take ((wrap64 (x20_2 + 1)) : Int).toNat).drop (x20_2 : Int).toNat = y431 from Ny431.out.symm] at hr29
      replace hr29 : Kd.C k72 _ A29 y431.length y431 := (by rw [hA29]; exact hr29)
      rw [← hy29, ← hA29, ← hc29] at hcut29
      have HR434 := Aside0.mk hr29
      have HC434 := Aside0.mk (show y431.length ≤ c29 from by rw [hy29, hc29]; exact Nat.sub_le_sub_right (Nat.le_trans (by omega) hroom29) _)
      clear hr29 hC29 hroom29 hi029 hsz29 hc29
      have KY29 := Aside0.mk hy29
      have KA29 := Aside0.mk hA29
      clear hy29 hA29
      replace q29 := eq_true q29
      refine start_ (n := 11) (S := fun w' => w'.cell? ⟨gb429, 0, none⟩ = some (.int .i64 a0_0) ∧ w'.cell? ⟨gb429, 1, none⟩ = some (.slice A0_1 l0_1.length c0_1)) (ds := []) #[false, false, false, false, false, false, false, false, false, false, false] (by kernel_rfl) rfl rfl ⟨(blk_cell BK429.out 0).trans rfl, (blk_cell BK429.out 1).trans rfl⟩ (fun hHeld => ?_); refine with_tabW impl_BestClue.tab7 impl_BestClue.bits7 (fun HT_ HW_ => ?_)
      generalize wr.drew = w28 at BK429 HB HR434 hHeld ⊢
      refine pure_ (i := 0) (N := some 23) (v := ?_) (a' := ?_) #[true, false, false, false, false, false, false, false, false, false, false] rfl rfl (any_of HT_.out (by kernel_rfl)) (fun _ _ _ h => h) (Or.inl ⟨by rfl, ?_⟩) ?_ ?_
      rotate_left
      ·intro w'
       go_simp
       with_reducible rfl
      rotate_left
      ·simp only [Act.put, List.setIfInBounds_toArray, List.set_cons_zero, List.set_cons_succ, i64_w, i32_w]
       rfl
      refine pure_ (i := 2) (N := some 25) (v := ?_) (a' := ?_) #[true, false, true, false, false, false, false, false, false, false, false] rfl rfl (any_of HT_.out (by kernel_rfl)) (fun _ _ _ h => h) (Or.inl ⟨by rfl, ?_⟩) ?_ ?_
      rotate_left
      ·intro w'
       go_simp
       with_reducible rfl
      rotate_left
      ·simp only [Act.put, List.setIfInBounds_toArray, List.set_cons_zero, List.set_cons_succ, i64_w, i32_w]
       rfl
      refine pure_ (i := 4) (N := some 27) (v := ?_) (a' := ?_) #[true, false, true, false, true, false, false, false, false, false, false] rfl rfl (any_of HT_.out (by kernel_rfl)) (fun _ _ _ h => h) (Or.inl ⟨by rfl, ?_⟩) ?_ ?_
      rotate_left
      ·intro w'
       go_simp
       with_reducible rfl
      rotate_left
      ·simp only [Act.put, List.setIfInBounds_toArray, List.set_cons_zero, List.set_cons_succ, i64_w, i32_w]
       rfl
      refine pure_ (i := 5) (N := some 28) (v := ?_) (a' := ?_) #[true, false, true, false, true, true, false, false, false, false, false] rfl rfl (any_of HT_.out (by kernel_rfl)) (fun _ _ _ h => h) (Or.inl ⟨by rfl, ?_⟩) ?_ ?_
      rotate_left
      ·intro w'
       go_simp
       with_reducible rfl
      rotate_left
      ·simp only [Act.put, List.setIfInBounds_toArray, List.set_cons_zero, List.set_cons_succ, i64_w, i32_w]
       rfl
      refine pure_ (i := 6) (N := some 29) (v := ?_) (a' := ?_) #[true, false, true, false, true, true, true, false, false, false, false] rfl rfl (any_of HT_.out (by kernel_rfl)) (fun _ _ _ h => h) (Or.inl ⟨by rfl, ?_⟩) ?_ ?_
      rotate_left
      ·intro w'
       go_simp
       with_reducible rfl
      rotate_left
      ·simp only [Act.put, List.setIfInBounds_toArray, List.set_cons_zero, List.set_cons_succ, i64_w, i32_w]
       rfl
      refine take_ (i := 1) (N := some 24) (v := ?_) (a' := ?_) #[true, true, true, false, true, true, true, false, false, false, false] rfl rfl (take_ofW HT_.out HW_.out (by kernel_rfl)) (fun _ _ _ h => h) (Or.inl ⟨by rfl, ?_⟩) hHeld ?_ ?_
      rotate_left
      ·rintro w' ⟨s0, s1⟩
       go_simp
       with_reducible rfl
      rotate_left
      ·simp only [Act.put, List.setIfInBounds_toArray, List.set_cons_zero, List.set_cons_succ, i64_w, i32_w]
       rfl
      refine take_ (i := 3) (N := some 26) (v := ?_) (a' := ?_) #[true, true, true, true, true, true, true, false, false, false, false] rfl rfl (take_ofW HT_.out HW_.out (by kernel_rfl)) (fun _ _ _ h => h) (Or.inl ⟨by rfl, ?_⟩) hHeld ?_ ?_
      rotate_left
      ·rintro w' ⟨s0, s1⟩
       go_simp
       with_reducible rfl
      rotate_left
      ·simp only [Act.put, List.setIfInBounds_toArray, List.set_cons_zero, List.set_cons_succ, i64_w, i32_w]
       rfl
      refine pure_ (i := 7) (N := some 30) (v := ?_) (a' := ?_) #[true, true, true, true, true, true, true, true, false, false, false] rfl rfl (any_of HT_.out (by kernel_rfl)) (fun _ _ _ h => h) (Or.inl ⟨by rfl, ?_⟩) ?_ ?_
      rotate_left
      ·intro w'
       go_simp
       with_reducible rfl
      rotate_left
      ·simp only [Act.put, List.setIfInBounds_toArray, List.set_cons_zero, List.set_cons_succ, i64_w, i32_w]
       rfl
      refine one_ (i := 8) (N := some 31) #[true, true, true, true, true, true, true, true, true, false, false] rfl rfl (one_of HT_.out (by kernel_rfl)) (by decide) (fun K hK => ?_)
      refine goes_ Tryz.func57 (by kernel_rfl) rfl #[.int .i64 a0_0, .slice A29 y431.length c29] (by rfl) rfl rfl (by (try simp only [List.map_toArray, List.map_cons, List.map_nil]); first | done | rfl | (simp only [List.length_drop, List.length_take]; rfl)) ?_
      with_reducible refine (impl_solutions.calls k2 a0_0 _ _ y431 t435 _ ?side1 ?side2 A17.out).mono ?_
      (case side1 => repeat (first | exact (Kd.C_below HR434.out HB.out) | (with_reducible refine Kd.C_alloc ?_ _) | (with_reducible refine Kd.C_drewN ?_ _) | (with_reducible refine Kd.C_drew ?_)))
      (case side2 => exact HC434.out)
      rintro e w30 ⟨v436, rfl, ho0, hb⟩
      refine ⟨_, rfl, ?_⟩
      have n0_ := Aside0.mk (Kd.V_lower (Kd.V_mono (ok' := fun k_ => k_ ≠ gb429) ho0 (fun k_ hk_ => (Kd.freshB (g := gb429) (o := .cells #[.int .i64 a0_0, .slice A0_1 l0_1.length c0_1] 30 (0, 0)) (zb BK429.out) k_ hk_))) (below_size (zh HB.out)))
      have n1_ := Aside0.mk (blk_below (g := gb429) (o := .cells #[.int .i64 a0_0, .slice A0_1 l0_1.length c0_1] 30 (0, 0)) (zb BK429.out) hb)
      have n2_ := Aside0.mk (below_step (zh HB.out) hb)
      clear BK429
      clear HB
      have HO437 := n0_
      have BK429 := n1_
      have HB := n2_
      clear n0_ n1_ n2_
      (try clear hb)
      (try clear hb2)
      (try clear hk)
      (try clear hi)
      (try clear ho0)
      obtain ⟨Ao31, co31, eo31⟩ := Kd.V_slice HO437.out
      (first | subst eo31 | (injection eo31 with f1_ f2_ f3_; have f4_ := f1_.symm; have f5_ := f3_.symm; clear f1_ f2_ f3_; subst f4_; subst f5_))
      refine hK.out _ _ ⟨(blk_cell BK429.out 0).trans rfl, (blk_cell BK429.out 1).trans rfl⟩ (fun hHeld => ?_)
      clear hK K
      refine norm_ (a' := ?_) ?_ ?_
      rotate_left
      ·show Act.put _ (some 31) _ = _
       simp only [Act.put, List.setIfInBounds_toArray, List.set_cons_zero, List.set_cons_succ, i64_w, i32_w]
       rfl
      refine pure_ (i := 9) (N := some 32) (v := ?_) (a' := ?_) #[true, true, true, true, true, true, true, true, true, true, false] rfl rfl (any_of HT_.out (by kernel_rfl)) (fun _ _ _ h => h) (Or.inl ⟨by rfl, ?_⟩) ?_ ?_
      rotate_left
      ·intro w'
       go_simp
       with_reducible rfl
      rotate_left
      ·simp only [Act.put, List.setIfInBounds_toArray, List.set_cons_zero, List.set_cons_succ, i64_w, i32_w]
       rfl
      refine pure_ (i := 10) (N := some 7) (v := ?_) (a' := ?_) #[true, true, true, true, true, true, true, true, true, true, true] rfl rfl (any_of HT_.out (by kernel_rfl)) (fun _ _ _ h => h) (Or.inl ⟨by rfl, ?_⟩) ?_ ?_
      rotate_left
      ·intro w'
       go_simp
       with_reducible rfl
      rotate_left
      ·simp only [Act.put, List.setIfInBounds_toArray, List.set_cons_zero, List.set_cons_succ, i64_w, i32_w]
       rfl
      refine done_ (done_of HT_.out (by kernel_rfl)) ?_
      try go_wp2
      go_roundg k2
      case measure => have := HJ1.out; have := HK2.out; omega
      case rel => exact ⟨(x4_2), (x5_2), (wrap64 (x20_2 + 1)), (by first | rfl | (simp; done) | (simp [*]; done)), (by first | rfl | (simp; done) | (simp [*]; done)), (by first | rfl | (simp; done) | (simp [*]; done)), H', ⟨by have := HJ1.out; have := HK2.out; omega⟩, ⟨by (with_reducible repeat (first | refine blk_drewN ?_ _ | refine blk_drew ?_ | refine blk_alloc ?_ _)); exact BK429.out⟩, ⟨by repeat (first | (with_reducible first | exact HB.out | apply below_alloc | apply pw_below_drewN | apply below_drew1 | refine below_set ?_ GE429.out) | exact HB.out)⟩⟩
     rw [if_pos c23] at H
     have c23b0 : decide ((t435.length : Int) < x5_2) = true := decide_eq_true c23
     clear c23
     have H' := Aside0.mk H
     clear H
     try go_wp2
     have n0_ := Aside0.mk (blk_drew BK429.out)
     have n1_ := Aside0.mk (below_drew1 HB.out)
     clear BK429
     clear HB
     have BK429 := n0_
     have HB := n1_
     clear n0_ n1_
     have q25 : ((wrap64 (x20_2 + 1)) : Int) ≤ ((l0_1.length : Int) : Int) := of_decide_eq_true (by first | (with_reducible assumption) | assumption)
     obtain ⟨i025, hi025, _, hsz25, _⟩ := info_parts info72
     have hroom25 : l0_1.length ≤ c0_1 := HC0_1.out
     have hC25 : Kd.C k72 _ A0_1 l0_1.length l0_1 := HR0_1.out
     have ql25 : (x20_2 : Int) ≤ ((wrap64 (x20_2 + 1)) : Int) := of_decide_eq_true (by first | (with_reducible assumption) | assumption)
     have q025 : (0 : Int) ≤ (x20_2 : Int) := of_decide_eq_true (by first | (with_reducible assumption) | assumption)
     have hcut25 := cut_mid (P := Tryz.prog) 28 72 .i64 .i64 Tryz.underlying28 hi025 3 hsz25 A0_1 l0_1.length c0_1 x20_2 (wrap64 (x20_2 + 1)) q025 ql25 q25 hroom25
     have hr25 := Kd.C_mid (lo := (x20_2 : Int).toNat) (hi := ((wrap64 (x20_2 + 1)) : Int).toNat) (c := c0_1) hC25 (by omega) (by omega) hroom25
     obtain ⟨A25, hA25⟩ : ∃ A1, A1 = (if c0_1 = (x20_2 : Int).toNat then A0_1 else (A0_1 : Option Addr).map (·.add ((x20_2 : Int).toNat * 3))) := ⟨_, rfl⟩
     obtain ⟨c25, hc25⟩ : ∃ c1, c1 = c0_1 - (x20_2 : Int).toNat := ⟨_, rfl⟩
     have hy25 : y431.length = ((wrap64 (x20_2 + 1)) : Int).toNat - (x20_2 : Int).toNat := (by rw [Ny431.out, List.length_drop, List.length_take] <;> omega)
     rw [show ((l0_1).take ((wrap64 (x20_2 + 1)) : Int).toNat).drop (x20_2 : Int).toNat = y431 from Ny431.out.symm] at hr25
     replace hr25 : Kd.C k72 _ A25 y431.length y431 := (by rw [hA25]; exact hr25)
     rw [← hy25, ← hA25, ← hc25] at hcut25
     have HR434 := Aside0.mk hr25
     have HC434 := Aside0.mk (show y431.length ≤ c25 from by rw [hy25, hc25]; exact Nat.sub_le_sub_right (Nat.le_trans (by omega) hroom25) _)
     clear hr25 hC25 hroom25 hi025 hsz25 hc25
     have KY25 := Aside0.mk hy25
     have KA25 := Aside0.mk hA25
     clear hy25 hA25
     replace q25 := eq_true q25
     refine start_ (n := 11) (S := fun w' => w'.cell? ⟨gb429, 0, none⟩ = some (.int .i64 a0_0) ∧ w'.cell? ⟨gb429, 1, none⟩ = some (.slice A0_1 l0_1.length c0_1)) (ds := []) #[false, false, false, false, false, false, false, false, false, false, false] (by kernel_rfl) rfl rfl ⟨(blk_cell BK429.out 0).trans rfl, (blk_cell BK429.out 1).trans rfl⟩ (fun hHeld => ?_); refine with_tabW impl_BestClue.tab7 impl_BestClue.bits7 (fun HT_ HW_ => ?_)
     generalize wr.drew = w24 at BK429 HB HR434 hHeld ⊢
     refine pure_ (i := 0) (N := some 23) (v := ?_) (a' := ?_) #[true, false, false, false, false, false, false, false, false, false, false] rfl rfl (any_of HT_.out (by kernel_rfl)) (fun _ _ _ h => h) (Or.inl ⟨by rfl, ?_⟩) ?_ ?_
     rotate_left
     ·intro w'
      go_simp
      with_reducible rfl
     rotate_left
     ·simp only [Act.put, List.setIfInBounds_toArray, List.set_cons_zero, List.set_cons_succ, i64_w, i32_w]
      rfl
     refine pure_ (i := 2) (N := some 25) (v := ?_) (a' := ?_) #[true, false, true, false, false, false, false, false, false, false, false] rfl rfl (any_of HT_.out (by kernel_rfl)) (fun _ _ _ h => h) (Or.inl ⟨by rfl, ?_⟩) ?_ ?_
     rotate_left
     ·intro w'
      go_simp
      with_reducible rfl
     rotate_left
     ·simp only [Act.put, List.setIfInBounds_toArray, List.set_cons_zero, List.set_cons_succ, i64_w, i32_w]
      rfl
     refine pure_ (i := 4) (N := some 27) (v := ?_) (a' := ?_) #[true, false, true, false, true, false, false, false, false, false, false] rfl rfl (any_of HT_.out (by kernel_rfl)) (fun _ _ _ h => h) (Or.inl ⟨by rfl, ?_⟩) ?_ ?_
     rotate_left
     ·intro w'
      go_simp
      with_reducible rfl
     rotate_left
     ·simp only [Act.put, List.setIfInBounds_toArray, List.set_cons_zero, List.set_cons_succ, i64_w, i32_w]
      rfl
     refine pure_ (i := 5) (N := some 28) (v := ?_) (a' := ?_) #[true, false, true, false, true, true, false, false, false, false, false] rfl rfl (any_of HT_.out (by kernel_rfl)) (fun _ _ _ h => h) (Or.inl ⟨by rfl, ?_⟩) ?_ ?_
     rotate_left
     ·intro w'
      go_simp
      with_reducible rfl
     rotate_left
     ·simp only [Act.put, List.setIfInBounds_toArray, List.set_cons_zero, List.set_cons_succ, i64_w, i32_w]
      rfl
     refine pure_ (i := 6) (N := some 29) (v := ?_) (a' := ?_) #[true, false, true, false, true, true, true, false, false, false, false] rfl rfl (any_of HT_.out (by kernel_rfl)) (fun _ _ _ h => h) (Or.inl ⟨by rfl, ?_⟩) ?_ ?_
     rotate_left
     ·intro w'
      go_simp
      with_reducible rfl
     rotate_left
     ·simp only [Act.put, List.setIfInBounds_toArray, List.set_cons_zero, List.set_cons_succ, i64_w, i32_w]
      rfl
     refine take_ (i := 1) (N := some 24) (v := ?_) (a' := ?_) #[true, true, true, false, true, true, true, false, false, false, false] rfl rfl (take_ofW HT_.out HW_.out (by kernel_rfl)) (fun _ _ _ h => h) (Or.inl ⟨by rfl, ?_⟩) hHeld ?_ ?_
     rotate_left
     ·rintro w' ⟨s0, s1⟩
      go_simp
      with_reducible rfl
     rotate_left
     ·simp only [Act.put, List.setIfInBounds_toArray, List.set_cons_zero, List.set_cons_succ, i64_w, i32_w]
      rfl
     refine take_ (i := 3) (N := some 26) (v := ?_) (a' := ?_) #[true, true, true, true, true, true, true, false, false, false, false] rfl rfl (take_ofW HT_.out HW_.out (by kernel_rfl)) (fun _ _ _ h => h) (Or.inl ⟨by rfl, ?_⟩) hHeld ?_ ?_
     rotate_left
     ·rintro w' ⟨s0, s1⟩
      go_simp
      with_reducible rfl
     rotate_left
     ·simp only [Act.put, List.setIfInBounds_toArray, List.set_cons_zero, List.set_cons_succ, i64_w, i32_w]
      rfl
     refine pure_ (i := 7) (N := some 30) (v := ?_) (a' := ?_) #[true, true, true, true, true, true, true, true, false, false, false] rfl rfl (any_of HT_.out (by kernel_rfl)) (fun _ _ _ h => h) (Or.inl ⟨by rfl, ?_⟩) ?_ ?_
     rotate_left
     ·intro w'
      go_simp
      with_reducible rfl
     rotate_left
     ·simp only [Act.put, List.setIfInBounds_toArray, List.set_cons_zero, List.set_cons_succ, i64_w, i32_w]
      rfl
     refine one_ (i := 8) (N := some 31) #[true, true, true, true, true, true, true, true, true, false, false] rfl rfl (one_of HT_.out (by kernel_rfl)) (by decide) (fun K hK => ?_)
     refine goes_ Tryz.func57 (by kernel_rfl) rfl #[.int .i64 a0_0, .slice A25 y431.length c25] (by rfl) rfl rfl (by (try simp only [List.map_toArray, List.map_cons, List.map_nil]); first | done | rfl | (simp only [List.length_drop, List.length_take]; rfl)) ?_
     with_reducible refine (impl_solutions.calls k2 a0_0 _ _ y431 t435 _ ?side1 ?side2 A17.out).mono ?_
     (case side1 => repeat (first | exact (Kd.C_below HR434.out HB.out) | (with_reducible refine Kd.C_alloc ?_ _) | (with_reducible refine Kd.C_drewN ?_ _) | (with_reducible refine Kd.C_drew ?_)))
     (case side2 => exact HC434.out)
     rintro e w26 ⟨v436, rfl, ho0, hb⟩
     refine ⟨_, rfl, ?_⟩
     have n0_ := Aside0.mk (Kd.V_lower (Kd.V_mono (ok' := fun k_ => k_ ≠ gb429) ho0 (fun k_ hk_ => (Kd.freshB (g := gb429) (o := .cells #[.int .i64 a0_0, .slice A0_1 l0_1.length c0_1] 30 (0, 0)) (zb BK429.out) k_ hk_))) (below_size (zh HB.out)))
     have n1_ := Aside0.mk (blk_below (g := gb429) (o := .cells #[.int .i64 a0_0, .slice A0_1 l0_1.length c0_1] 30 (0, 0)) (zb BK429.out) hb)
     have n2_ := Aside0.mk (below_step (zh HB.out) hb)
     clear BK429
     clear HB
     have HO437 := n0_
     have BK429 := n1_
     have HB := n2_
     clear n0_ n1_ n2_
     (try clear hb)
     (try clear hb2)
     (try clear hk)
     (try clear hi)
     (try clear ho0)
     obtain ⟨Ao27, co27, eo27⟩ := Kd.V_slice HO437.out
     (first | subst eo27 | (injection eo27 with f1_ f2_ f3_; have f4_ := f1_.symm; have f5_ := f3_.symm; clear f1_ f2_ f3_; subst f4_; subst f5_))
     refine hK.out _ _ ⟨(blk_cell BK429.out 0).trans rfl, (blk_cell BK429.out 1).trans rfl⟩ (fun hHeld => ?_)
     clear hK K
     refine norm_ (a' := ?_) ?_ ?_
     rotate_left
     ·show Act.put _ (some 31) _ = _
      simp only [Act.put, List.setIfInBounds_toArray, List.set_cons_zero, List.set_cons_succ, i64_w, i32_w]
      rfl
     refine pure_ (i := 9) (N := some 32) (v := ?_) (a' := ?_) #[true, true, true, true, true, true, true, true, true, true, false] rfl rfl (any_of HT_.out (by kernel_rfl)) (fun _ _ _ h => h) (Or.inl ⟨by rfl, ?_⟩) ?_ ?_
     rotate_left
     ·intro w'
      go_simp
      with_reducible rfl
     rotate_left
     ·simp only [Act.put, List.setIfInBounds_toArray, List.set_cons_zero, List.set_cons_succ, i64_w, i32_w]
      rfl
     refine pure_ (i := 10) (N := some 7) (v := ?_) (a' := ?_) #[true, true, true, true, true, true, true, true, true, true, true] rfl rfl (any_of HT_.out (by kernel_rfl)) (fun _ _ _ h => h) (Or.inl ⟨by rfl, ?_⟩) ?_ ?_
     rotate_left
     ·intro w'
      go_simp
      with_reducible rfl
     rotate_left
     ·simp only [Act.put, List.setIfInBounds_toArray, List.set_cons_zero, List.set_cons_succ, i64_w, i32_w]
      rfl
     refine done_ (done_of HT_.out (by kernel_rfl)) ?_
     try go_wp2
     go_roundg k2
     case measure => have := HJ1.out; have := HK2.out; omega
     case rel => exact ⟨(x20_2), ((t435.length : Int)), (wrap64 (x20_2 + 1)), (by first | rfl | (simp; done) | (simp [*]; done)), (by first | rfl | (simp; done) | (simp [*]; done)), (by first | rfl | (simp; done) | (simp [*]; done)), H', ⟨by have := HJ1.out; have := HK2.out; omega⟩, ⟨by (with_reducible repeat (first | refine blk_drewN ?_ _ | refine blk_drew ?_ | refine blk_alloc ?_ _)); exact BK429.out⟩, ⟨by repeat (first | (with_reducible first | exact HB.out | apply below_alloc | apply pw_below_drewN | apply below_drew1 | refine below_set ?_ GE429.out) | exact HB.out)⟩⟩
def laws_FnExactBestClue.f (k : Nat) (a0_0 : Int) (l0_1 : List (S79)) : Option (Bool) := (laws_szPuzzle.f a0_0 l0_1 1048576).bind fun t439 => (if t439 < 0 then (some true) else ((laws_toPuzzle.f k a0_0 l0_1).bind fun bt440 => ((spec_BestClue.f k bt440.1 bt440.2).bind fun bt444 => ((laws_toPuzzle.f k a0_0 l0_1).bind fun bt446 => ((impl_BestClue.f k bt446.1 bt446.2).bind fun bt451 => (if bt451.1 = bt444.1 then (if (bt451.2 != bt444.2) = true then (none) else ((laws_toPuzzle.f k a0_0 l0_1).bind fun bt453 => ((laws_eqPuzzle.f k bt446.1 bt446.2 bt453.1 bt453.2).bind fun t457 => (if t457 = true then (some true) else (none))))) else (none)))))))
set_option maxHeartbeats 8000000 in
set_option maxRecDepth 100000 in
theorem laws_FnExactBestClue.calls (k : Nat) (a0_0 : Int) (A0_1 : Option Addr) (c0_1 : Nat) (l0_1 : List (S79)) (r : Bool) (w : World) (hr0_1 : Kd.C k79 w A0_1 l0_1.length l0_1) (hc0_1 : l0_1.length ≤ c0_1) (h : laws_FnExactBestClue.f k a0_0 l0_1 = some r) :
  Calls Tryz.prog 5 #[.agg #[.int .i64 a0_0, .slice A0_1 l0_1.length c0_1]] w fun e w' => e = .returned (.bool r) ∧ Below w.heap.size w w' := by
 have hu24 := Tryz.underlying24
 have hu30 := Tryz.underlying30
 have HR0_1 := Aside0.mk hr0_1
 have HC0_1 := Aside0.mk hc0_1
 clear hr0_1 hc0_1
 have HB := Aside0.mk (Below.refl w.heap.size w)
 have H : ((laws_szPuzzle.f a0_0 l0_1 1048576).bind fun t439 => (if t439 < 0 then (some true) else ((laws_toPuzzle.f k a0_0 l0_1).bind fun bt440 => ((spec_BestClue.f k bt440.1 bt440.2).bind fun bt444 => ((laws_toPuzzle.f k a0_0 l0_1).bind fun bt446 => ((impl_BestClue.f k bt446.1 bt446.2).bind fun bt451 => (if bt451.1 = bt444.1 then (if (bt451.2 != bt444.2) = true then (none) else ((laws_toPuzzle.f k a0_0 l0_1).bind fun bt453 => ((laws_eqPuzzle.f k bt446.1 bt446.2 bt453.1 bt453.2).bind fun t457 => (if t457 = true then (some true) else (none))))) else (none)))))))) = some r := h
 clear h
 replace H := Option.bind_eq_some_iff.mp H
 obtain ⟨t439, A20, H⟩ := H
 replace H : (if t439 < 0 then (some true) else ((laws_toPuzzle.f k a0_0 l0_1).bind fun bt440 => ((spec_BestClue.f k bt440.1 bt440.2).bind fun bt444 => ((laws_toPuzzle.f k a0_0 l0_1).bind fun bt446 => ((impl_BestClue.f k bt446.1 bt446.2).bind fun bt451 => (if bt451.1 = bt444.1 then (if (bt451.2 != bt444.2) = true then (none) else ((laws_toPuzzle.f k a0_0 l0_1).bind fun bt453 => ((laws_eqPuzzle.f k bt446.1 bt446.2 bt453.1 bt453.2).bind fun t457 => (if t457 = true then (some true) else (none))))) else (none))))))) = some r := H
 have A2 := Aside0.mk A20
 clear A20
 by_cases c3 : t439 < 0
 ·rw [if_pos c3] at H
  have c3b0 : decide (t439 < 0) = true := decide_eq_true c3
  clear c3
  obtain rfl := Option.some.inj H
  go_enter Tryz.func5, Tryz.ntmps5
  go_wp2_with (first | ((with_reducible refine gate_dst (N := 1) rfl ?_); refine box_event ?hg (N := 1) ?hd (cs := #[.int .i64 a0_0, .slice A0_1 l0_1.length c0_1]) (t := 24) ?hr ?_; (case hd => rfl); (case hg => rfl); (case hr => first | (go_simp; done) | (go_simp; rfl)); intro gb438 hg w4 hbox hb; have n2_ := Aside0.mk ((by rw [hg]; exact (below_size (zh HB.out)) : w.heap.size ≤ gb438)); replace HB := Aside0.mk (below_step (zh HB.out) hb); have BK438 := Aside0.mk hbox; have GW438 := n2_; have GE438 := n2_; clear n2_ hb hbox hg; have hcz5_0 : w4.cell? ⟨gb438, 0, none⟩ = some (.int .i64 a0_0) := (blk_cell BK438.out 0).trans rfl; have hcz5_1 : w4.cell? ⟨gb438, 1, none⟩ = some (.slice A0_1 l0_1.length c0_1) := (blk_cell BK438.out 1).trans rfl; have hfz5_0 := blk_frozen BK438.out 0; have hfz5_1 := blk_frozen BK438.out 1) | ((with_reducible refine gate_callee (f := 13) rfl ?_); refine goesL_ (some 11) rfl rfl Tryz.func13 (by kernel_rfl) rfl #[.agg #[.int .i64 a0_0, .slice A0_1 l0_1.length c0_1], .int .i64 1048576] rfl (by (try simp only [List.map_toArray, List.map_cons, List.map_nil]); first | done | rfl | (simp only [List.length_drop, List.length_take]; rfl)) ?_; (with_reducible refine (laws_szPuzzle.calls a0_0 _ _ l0_1 1048576 t439 _ ?side1 ?side2 A2.out).mono ?_); (case side1 => repeat (first | exact (Kd.C_below HR0_1.out HB.out) | (with_reducible refine Kd.C_alloc ?_ _) | (with_reducible refine Kd.C_drewN ?_ _) | (with_reducible refine Kd.C_drew ?_))); (case side2 => exact HC0_1.out); rintro e w6 ⟨rfl, hb⟩; refine ⟨_, rfl, ?_⟩; have n0_ := Aside0.mk (blk_below (g := gb438) (o := .cells #[.int .i64 a0_0, .slice A0_1 l0_1.length c0_1] 24 (0, 0)) (zb BK438.out) hb); have n1_ := Aside0.mk (below_step (zh HB.out) hb); clear BK438; clear HB; have BK438 := n0_; have HB := n1_; clear n0_ n1_; (try clear hb); (try clear hb2); (try clear hk); (try clear hi)))
  go_ret
  exact ⟨by first | rfl | (simp [*, errW_none, errW_some] <;> rfl), by repeat (first | (with_reducible first | exact HB.out | apply below_alloc | apply pw_below_drewN | apply below_drew1 | refine below_set ?_ GE438.out) | exact HB.out)⟩
 rw [if_neg c3] at H
 have c3b0 : decide (t439 < 0) = false := decide_eq_false c3
 clear c3
 replace H := Option.bind_eq_some_iff.mp H
 obtain ⟨⟨t440, t441⟩, A70, H⟩ := H
 replace H : ((spec_BestClue.f k t440 t441).bind fun bt444 => ((laws_toPuzzle.f k a0_0 l0_1).bind fun bt446 => ((impl_BestClue.f k bt446.1 bt446.2).bind fun bt451 => (if bt451.1 = bt444.1 then (if (bt451.2 != bt444.2) = true then (none) else ((laws_toPuzzle.f k a0_0 l0_1).bind fun bt453 => ((laws_eqPuzzle.f k bt446.1 bt446.2 bt453.1 bt453.2).bind fun t457 => (if t457 = true then (some true) else (none))))) else (none))))) = some r := H
 have A7 := Aside0.mk A70
 clear A70
 replace H := Option.bind_eq_some_iff.mp H
 obtain ⟨⟨t444, t445⟩, A80, H⟩ := H
 replace H : ((laws_toPuzzle.f k a0_0 l0_1).bind fun bt446 => ((impl_BestClue.f k bt446.1 bt446.2).bind fun bt451 => (if bt451.1 = t444 then (if (bt451.2 != t445) = true then (none) else ((laws_toPuzzle.f k a0_0 l0_1).bind fun bt453 => ((laws_eqPuzzle.f k bt446.1 bt446.2 bt453.1 bt453.2).bind fun t457 => (if t457 = true then (some true) else (none))))) else (none)))) = some r := H
 have A8 := Aside0.mk A80
 clear A80
 replace H := Option.bind_eq_some_iff.mp H
 obtain ⟨⟨t446, t447⟩, A90, H⟩ := H
 replace H : ((impl_BestClue.f k t446 t447).bind fun bt451 => (if bt451.1 = t444 then (if (bt451.2 != t445) = true then (none) else ((laws_toPuzzle.f k a0_0 l0_1).bind fun bt453 => ((laws_eqPuzzle.f k t446 t447 bt453.1 bt453.2).bind fun t457 => (if t457 = true then (some true) else (none))))) else (none))) = some r := H
 have A9 := Aside0.mk A90
 clear A90
 replace H := Option.bind_eq_some_iff.mp H
 obtain ⟨⟨t451, t452⟩, A100, H⟩ := H
 replace H : (if t451 = t444 then (if (t452 != t445) = true then (none) else ((laws_toPuzzle.f k a0_0 l0_1).bind fun bt453 => ((laws_eqPuzzle.f k t446 t447 bt453.1 bt453.2).bind fun t457 => (if t457 = true then (some true) else (none))))) else (none)) = some r := H
 have A10 := Aside0.mk A100
 clear A100
 by_cases c11 : t451 = t444
 rotate_left
 ·rw [if_neg c11] at H
  exact absurd H (by simp)
 rw [if_pos c11] at H
 have c11b0 : (t451 == t444) = true := beq_iff_eq.mpr c11
 have c11b1 : (t451 != t444) = false := bne_eq_false_iff_eq.mpr c11
 clear c11
 by_cases c12 : (t452 != t445) = true
 ·rw [if_pos c12] at H
  exact absurd H (by simp)
 rw [if_neg c12] at H
 have c12b0 : (t452 != t445) = false := by simpa using c12
 (try (have c12b1 : decide (t452 = t445) = true := by simpa using c12))
 (try (have c12b2 : (t452 == t445) = true := by simpa using c12))
 clear c12
 replace H := Option.bind_eq_some_iff.mp H
 obtain ⟨⟨t453, t454⟩, A130, H⟩ := H
 replace H : ((laws_eqPuzzle.f k t446 t447 t453 t454).bind fun t457 => (if t457 = true then (some true) else (none))) = some r := H
 have A13 := Aside0.mk A130
 clear A130
 replace H := Option.bind_eq_some_iff.mp H
 obtain ⟨t457, A140, H⟩ := H
 replace H : (if t457 = true then (some true) else (none)) = some r := H
 have A14 := Aside0.mk A140
 clear A140
 by_cases c15 : t457 = true
 rotate_left
 ·replace c15 := Bool.eq_false_iff.mpr c15
  subst c15
  have H1 : (none) = some r := by rw [if_neg (show ¬ (false = true) by decide)] at H; exact H
  clear H
  have H := H1
  clear H1
  exact absurd H (by simp)
 subst c15
 have H1 : (some true) = some r := by rw [if_pos rfl] at H; exact H
 clear H
 have H := H1
 clear H1
 obtain rfl := Option.some.inj H
 go_enter Tryz.func5, Tryz.ntmps5
 try go_wp2_with (first | ((with_reducible refine gate_dst (N := 1) rfl ?_); refine box_event ?hg (N := 1) ?hd (cs := #[.int .i64 a0_0, .slice A0_1 l0_1.length c0_1]) (t := 24) ?hr ?_; (case hd => rfl); (case hg => rfl); (case hr => first | (go_simp; done) | (go_simp; rfl)); intro gb438 hg w16 hbox hb; have n2_ := Aside0.mk ((by rw [hg]; exact (below_size (zh HB.out)) : w.heap.size ≤ gb438)); replace HB := Aside0.mk (below_step (zh HB.out) hb); have BK438 := Aside0.mk hbox; have GW438 := n2_; have GE438 := n2_; clear n2_ hb hbox hg; have hcz17_0 : w16.cell? ⟨gb438, 0, none⟩ = some (.int .i64 a0_0) := (blk_cell BK438.out 0).trans rfl; have hcz17_1 : w16.cell? ⟨gb438, 1, none⟩ = some (.slice A0_1 l0_1.length c0_1) := (blk_cell BK438.out 1).trans rfl; have hfz17_0 := blk_frozen BK438.out 0; have hfz17_1 := blk_frozen BK438.out 1) | ((with_reducible refine gate_callee (f := 13) rfl ?_); refine goesL_ (some 11) rfl rfl Tryz.func13 (by kernel_rfl) rfl #[.agg #[.int .i64 a0_0, .slice A0_1 l0_1.length c0_1], .int .i64 1048576] rfl (by (try simp only [List.map_toArray, List.map_cons, List.map_nil]); first | done | rfl | (simp only [List.length_drop, List.length_take]; rfl)) ?_; (with_reducible refine (laws_szPuzzle.calls a0_0 _ _ l0_1 1048576 t439 _ ?side1 ?side2 A2.out).mono ?_); (case side1 => repeat (first | exact (Kd.C_below HR0_1.out HB.out) | (with_reducible refine Kd.C_alloc ?_ _) | (with_reducible refine Kd.C_drewN ?_ _) | (with_reducible refine Kd.C_drew ?_))); (case side2 => exact HC0_1.out); rintro e w18 ⟨rfl, hb⟩; refine ⟨_, rfl, ?_⟩; have n0_ := Aside0.mk (blk_below (g := gb438) (o := .cells #[.int .i64 a0_0, .slice A0_1 l0_1.length c0_1] 24 (0, 0)) (zb BK438.out) hb); have n1_ := Aside0.mk (below_step (zh HB.out) hb); clear BK438; clear HB; have BK438 := n0_; have HB := n1_; clear n0_ n1_; (try clear hb); (try clear hb2); (try clear hk); (try clear hi); have hcz19_0 : w18.cell? ⟨gb438, 0, none⟩ = some (.int .i64 a0_0) := (blk_cell BK438.out 0).trans rfl; have hcz19_1 : w18.cell? ⟨gb438, 1, none⟩ = some (.slice A0_1 l0_1.length c0_1) := (blk_cell BK438.out 1).trans rfl; have hfz19_0 := blk_frozen BK438.out 0; have hfz19_1 := blk_frozen BK438.out 1) | ((with_reducible refine gate_callee (f := 15) rfl ?_); refine goesL_ (some 16) rfl rfl Tryz.func15 (by kernel_rfl) rfl #[.agg #[.int .i64 a0_0, .slice A0_1 l0_1.length c0_1]] rfl (by (try simp only [List.map_toArray, List.map_cons, List.map_nil]); first | done | rfl | (simp only [List.length_drop, List.length_take]; rfl)) ?_; (with_reducible refine (laws_toPuzzle.calls k a0_0 _ _ l0_1 t440 t441 _ ?side1 ?side2 A7.out).mono ?_); (case side1 => repeat (first | exact (Kd.C_below HR0_1.out HB.out) | (with_reducible refine Kd.C_alloc ?_ _) | (with_reducible refine Kd.C_drewN ?_ _) | (with_reducible refine Kd.C_drew ?_))); (case side2 => exact HC0_1.out); rintro e w20 ⟨v442, rfl, ho0, hb⟩; refine ⟨_, rfl, ?_⟩; have n0_ := Aside0.mk (Kd.R_lower ho0 (below_size (zh HB.out))); have n1_ := Aside0.mk (blk_below (g := gb438) (o := .cells #[.int .i64 a0_0, .slice A0_1 l0_1.length c0_1] 24 (0, 0)) (zb BK438.out) hb); have n2_ := Aside0.mk (below_step (zh HB.out) hb); clear BK438; clear HB; have HO443 := n0_; have BK438 := n1_; have HB := n2_; clear n0_ n1_ n2_; (try clear hb); (try clear hb2); (try clear hk); (try clear hi); (try clear ho0); obtain ⟨Ao21, co21, eo21⟩ := Kd.R_slice HO443.out; subst eo21) | ((with_reducible refine gate_callee (f := 20) rfl ?_); refine goesL_ (some 17) rfl rfl Tryz.func20 (by kernel_rfl) rfl #[.agg #[.int .i64 t440, .slice Ao21 t441.length co21]] rfl (by (try simp only [List.map_toArray, List.map_cons, List.map_nil]); first | done | rfl | (simp only [List.length_drop, List.length_take]; rfl)) ?_; (with_reducible refine (spec_BestClue.calls k t440 _ _ t441 t444 t445 _ ?side1 ?side2 A8.out).mono ?_); (case side1 => repeat (first | exact (Kd.R_reads' HO443.out).2.2 | (with_reducible refine Kd.C_alloc ?_ _) | (with_reducible refine Kd.C_drewN ?_ _) | (with_reducible refine Kd.C_drew ?_))); (case side2 => exact (Kd.R_reads' HO443.out).2.1); rintro e w22 ⟨rfl, hb⟩; refine ⟨_, rfl, ?_⟩; have n0_ := Aside0.mk (Kd.R_below (zr HO443.out) hb); have n1_ := Aside0.mk (blk_below (g := gb438) (o := .cells #[.int .i64 a0_0, .slice A0_1 l0_1.length c0_1] 24 (0, 0)) (zb BK438.out) hb); have n2_ := Aside0.mk (below_step (zh HB.out) hb); clear HO443; clear BK438; clear HB; have HO443 := n0_; have BK438 := n1_; have HB := n2_; clear n0_ n1_ n2_; (try clear hb); (try clear hb2); (try clear hk); (try clear hi); have hcz23_0 : w22.cell? ⟨gb438, 0, none⟩ = some (.int .i64 a0_0) := (blk_cell BK438.out 0).trans rfl; have hcz23_1 : w22.cell? ⟨gb438, 1, none⟩ = some (.slice A0_1 l0_1.length c0_1) := (blk_cell BK438.out 1).trans rfl; have hfz23_0 := blk_frozen BK438.out 0; have hfz23_1 := blk_frozen BK438.out 1) | ((with_reducible refine gate_callee (f := 15) rfl ?_); refine goesL_ (some 21) rfl rfl Tryz.func15 (by kernel_rfl) rfl #[.agg #[.int .i64 a0_0, .slice A0_1 l0_1.length c0_1]] rfl (by (try simp only [List.map_toArray, List.map_cons, List.map_nil]); first | done | rfl | (simp only [List.length_drop, List.length_take]; rfl)) ?_; (with_reducible refine (laws_toPuzzle.calls k a0_0 _ _ l0_1 t446 t447 _ ?side1 ?side2 A9.out).mono ?_); (case side1 => repeat (first | exact (Kd.C_below HR0_1.out HB.out) | (with_reducible refine Kd.C_alloc ?_ _) | (with_reducible refine Kd.C_drewN ?_ _) | (with_reducible refine Kd.C_drew ?_))); (case side2 => exact HC0_1.out); rintro e w24 ⟨v448, rfl, ho0, hb⟩; refine ⟨_, rfl, ?_⟩; have n0_ := Aside0.mk (Kd.R_elder' (zr HO443.out) (Kd.R_base ho0) hb); have n1_ := Aside0.mk (Kd.R_lower (Kd.R_new' ho0 (Kd.R_lt (zr HO443.out))) (below_size (zh HB.out))); have n2_ := Aside0.mk (blk_below (g := gb438) (o := .cells #[.int .i64 a0_0, .slice A0_1 l0_1.length c0_1] 24 (0, 0)) (zb BK438.out) hb); have n3_ := Aside0.mk (below_step (zh HB.out) hb); clear HO443; clear BK438; clear HB; have HO443 := n0_; have HO449 := n1_; have BK438 := n2_; have HB := n3_; clear n0_ n1_ n2_ n3_; (try clear hb); (try clear hb2); (try clear hk); (try clear hi); (try clear ho0)) | ((with_reducible refine gate_dst (N := 6) rfl ?_); refine box_event ?hg (N := 6) ?hd (cs := #[.int .i64 0, .slice none 0 0]) (t := 30) ?hr ?_; (case hd => rfl); (case hg => rfl); (case hr => first | (go_simp; done) | (go_simp; rfl)); intro gb450 hg w25 hbox hb; have n0_ := Aside0.mk (Kd.R_below (zr HO443.out) hb); have n1_ := Aside0.mk (Kd.R_below (zr HO449.out) hb); have n2_ := Aside0.mk (blk_below (g := gb438) (o := .cells #[.int .i64 a0_0, .slice A0_1 l0_1.length c0_1] 24 (0, 0)) (zb BK438.out) hb); have n3_ := Aside0.mk (below_step (zh HB.out) hb); have n4_ := Aside0.mk (hbox); have n5_ := Aside0.mk ((by rw [hg]; exact (below_size (zh HB.out)) : w.heap.size ≤ gb450)); have n6_ := Aside0.mk ((by rw [hg]; exact (below_size (zh HB.out)) : w.heap.size ≤ gb450)); have n7_ := Aside0.mk ((by rw [hg]; exact Nat.ne_of_lt (blk_lt (g := gb438) (o := .cells #[.int .i64 a0_0, .slice A0_1 l0_1.length c0_1] 24 (0, 0)) (zb BK438.out)) : gb438 ≠ gb450)); have n8_ := Aside0.mk ((by rw [hg]; exact Nat.ne_of_gt (blk_lt (g := gb438) (o := .cells #[.int .i64 a0_0, .slice A0_1 l0_1.length c0_1] 24 (0, 0)) (zb BK438.out)) : gb450 ≠ gb438)); clear HO443; clear HO449; clear BK438; clear HB; have HO443 := n0_; have HO449 := n1_; have BK438 := n2_; have HB := n3_; have BK450 := n4_; have GW450 := n5_; have GE450 := n6_; have NB438_450 := n7_; have NB450_438 := n8_; clear n0_ n1_ n2_ n3_ n4_ n5_ n6_ n7_ n8_; clear hb hbox hg; have hnb26 := NB450_438.out; have hnc26 := NB438_450.out; have hcz27_0 : w25.cell? ⟨gb450, 0, none⟩ = some (.int .i64 0) := (blk_cell BK450.out 0).trans rfl; have hcz27_1 : w25.cell? ⟨gb450, 1, none⟩ = some (.slice none 0 0) := (blk_cell BK450.out 1).trans rfl; have hfz27_0 := blk_frozen BK450.out 0; have hfz27_1 := blk_frozen BK450.out 1; obtain ⟨Ao28, co28, eo28⟩ := Kd.R_slice HO449.out; subst eo28) | ((with_reducible refine gate_callee (f := 21) rfl ?_); refine goesL_ (some 24) rfl rfl Tryz.func21 (by kernel_rfl) rfl #[.agg #[.int .i64 t446, .slice Ao28 t447.length co28]] rfl (by (try simp only [List.map_toArray, List.map_cons, List.map_nil]); first | done | rfl | (simp only [List.length_drop, List.length_take]; rfl)) ?_; (with_reducible refine (impl_BestClue.calls k t446 _ _ t447 t451 t452 _ ?side1 ?side2 A10.out).mono ?_); (case side1 => refine (Kd.R_reads' (e := 72) (base := w.heap.size) (ok := fun k_ => (True ∧ some k_ ≠ (.slice Ao21 t441.length co21 : Value).ownBlock)) (n := t447.length) (c := co28) ?_).2.2; exact (by (with_reducible repeat (first | apply Kd.R_alloc | apply Kd.R_drewN | apply Kd.R_drew)); exact (Kd.R_mono (Kd.R_far (p := ⟨gb450, 1, none⟩) (Kd.R_far (p := ⟨gb450, 0, none⟩) (Kd.R_types HO449.out BK450.out (by decide)) (fun _ hk => hk.2) (.int .i64 t446)) (fun _ hk => hk.2) (.slice Ao28 t447.length co28)) (fun _ h_ => h_.1)))); (case side2 => exact (Kd.R_reads' HO449.out).2.1); rintro e w29 ⟨rfl, hb⟩; refine ⟨_, rfl, ?_⟩; have n0_ := Aside0.mk (Kd.R_below (by (with_reducible repeat (first | apply Kd.R_alloc | apply Kd.R_drewN | apply Kd.R_drew)); exact (Kd.R_mono (Kd.R_far (p := ⟨gb450, 1, none⟩) (Kd.R_far (p := ⟨gb450, 0, none⟩) (Kd.R_types HO443.out BK450.out (by decide)) (fun _ hk => hk.2) (.int .i64 t446)) (fun _ hk => hk.2) (.slice Ao28 t447.length co28)) (fun _ h_ => h_.1))) hb); have n1_ := Aside0.mk (Kd.R_below (by (with_reducible repeat (first | apply Kd.R_alloc | apply Kd.R_drewN | apply Kd.R_drew)); exact (Kd.R_mono (Kd.R_far (p := ⟨gb450, 1, none⟩) (Kd.R_far (p := ⟨gb450, 0, none⟩) (Kd.R_types HO449.out BK450.out (by decide)) (fun _ hk => hk.2) (.int .i64 t446)) (fun _ hk => hk.2) (.slice Ao28 t447.length co28)) (fun _ h_ => h_.1))) hb); have n2_ := Aside0.mk (blk_below (g := gb438) (o := .cells #[.int .i64 a0_0, .slice A0_1 l0_1.length c0_1] 24 (0, 0)) (by (with_reducible repeat (first | refine blk_drewN ?_ _ | refine blk_drew ?_ | refine blk_alloc ?_ _)); refine blk_far ?_ NB438_450.out _; (with_reducible repeat (first | refine blk_drewN ?_ _ | refine blk_drew ?_ | refine blk_alloc ?_ _)); refine blk_far ?_ NB438_450.out _; (with_reducible repeat (first | refine blk_drewN ?_ _ | refine blk_drew ?_ | refine blk_alloc ?_ _)); exact BK438.out) hb); have n3_ := Aside0.mk (blk_below (g := gb450) (o := .cells #[.int .i64 t446, .slice Ao28 t447.length co28] 30 (0, 0)) (by (with_reducible repeat (first | refine blk_drewN ?_ _ | refine blk_drew ?_ | refine blk_alloc ?_ _)); refine blk_put (cs := #[.int .i64 t446, .slice none 0 0]) ?_ 1 _ rfl; (with_reducible repeat (first | refine blk_drewN ?_ _ | refine blk_drew ?_ | refine blk_alloc ?_ _)); refine blk_put (cs := #[.int .i64 0, .slice none 0 0]) ?_ 0 _ rfl; (with_reducible repeat (first | refine blk_drewN ?_ _ | refine blk_drew ?_ | refine blk_alloc ?_ _)); exact BK450.out) hb); have n4_ := Aside0.mk (below_step (zh HB.out) hb); clear HO443; clear HO449; clear BK438; clear BK450; clear HB; have HO443 := n0_; have HO449 := n1_; have BK438 := n2_; have BK450 := n3_; have HB := n4_; clear n0_ n1_ n2_ n3_ n4_; (try clear hb); (try clear hb2); (try clear hk); (try clear hi)))
 have n0_ := Aside0.mk (Kd.R_drew HO443.out)
 have n1_ := Aside0.mk (Kd.R_drew HO449.out)
 have n2_ := Aside0.mk (blk_drew BK438.out)
 have n3_ := Aside0.mk (blk_drew BK450.out)
 have n4_ := Aside0.mk (below_drew1 HB.out)
 clear HO443
 clear HO449
 clear BK438
 clear BK450
 clear HB
 have HO443 := n0_
 have HO449 := n1_
 have BK438 := n2_
 have BK450 := n3_
 have HB := n4_
 clear n0_ n1_ n2_ n3_ n4_
 refine start_ (n := 5) (S := fun w' => w'.cell? ⟨gb450, 0, none⟩ = some (.int .i64 t446) ∧ w'.cell? ⟨gb450, 1, none⟩ = some (.slice Ao28 t447.length co28) ∧ w'.cell? ⟨gb438, 0, none⟩ = some (.int .i64 a0_0) ∧ w'.cell? ⟨gb438, 1, none⟩ = some (.slice A0_1 l0_1.length c0_1)) (ds := []) #[false, false, false, false, false] (by kernel_rfl) rfl rfl ⟨(blk_cell BK450.out 0).trans rfl, (blk_cell BK450.out 1).trans rfl, (blk_cell BK438.out 0).trans rfl, (blk_cell BK438.out 1).trans rfl⟩ (fun hHeld => ?_)
 generalize w29.drew = w30 at HO443 HO449 BK438 BK450 HB hHeld ⊢
 refine take_ (i := 0) (N := some 35) (v := ?_) (a' := ?_) #[true, false, false, false, false] rfl rfl (by kernel_rfl) (fun _ _ _ h => h) (Or.inl ⟨by rfl, ?_⟩) hHeld ?_ ?_
 rotate_left
 ·rintro w' ⟨s0, s1, s2, s3⟩
  go_simp
  with_reducible rfl
 rotate_left
 ·simp only [Act.put, List.setIfInBounds_toArray, List.set_cons_zero, List.set_cons_succ, i64_w, i32_w]
  rfl
 refine take_ (i := 1) (N := some 36) (v := ?_) (a' := ?_) #[true, true, false, false, false] rfl rfl (by kernel_rfl) (fun _ _ _ h => h) (Or.inl ⟨by rfl, ?_⟩) hHeld ?_ ?_
 rotate_left
 ·rintro w' ⟨s0, s1, s2, s3⟩
  go_simp
  with_reducible rfl
 rotate_left
 ·simp only [Act.put, List.setIfInBounds_toArray, List.set_cons_zero, List.set_cons_succ, i64_w, i32_w]
  rfl
 refine one_ (i := 2) (N := some 37) #[true, true, true, false, false] rfl rfl (by kernel_rfl) (by decide) (fun K hK => ?_)
 refine goes_ Tryz.func15 (by kernel_rfl) rfl #[.agg #[.int .i64 a0_0, .slice A0_1 l0_1.length c0_1]] (by rfl) rfl rfl (by (try simp only [List.map_toArray, List.map_cons, List.map_nil]); first | done | rfl | (simp only [List.length_drop, List.length_take]; rfl)) ?_
 with_reducible refine (laws_toPuzzle.calls k a0_0 _ _ l0_1 t453 t454 _ ?side1 ?side2 A13.out).mono ?_
 (case side1 => repeat (first | exact (Kd.C_below HR0_1.out HB.out) | (with_reducible refine Kd.C_alloc ?_ _) | (with_reducible refine Kd.C_drewN ?_ _) | (with_reducible refine Kd.C_drew ?_)))
 (case side2 => exact HC0_1.out)
 rintro e w31 ⟨v455, rfl, ho0, hb⟩
 refine ⟨_, rfl, ?_⟩
 have n0_ := Aside0.mk (Kd.R_elder' (zr HO443.out) (Kd.R_base ho0) hb)
 have n1_ := Aside0.mk (Kd.R_elder' (zr HO449.out) (Kd.R_base ho0) hb)
 have n2_ := Aside0.mk (Kd.R_lower (Kd.R_new' (Kd.R_new' ho0 (Kd.R_lt (zr HO443.out))) (Kd.R_lt (zr HO449.out))) (below_size (zh HB.out)))
 have n3_ := Aside0.mk (blk_below (g := gb438) (o := .cells #[.int .i64 a0_0, .slice A0_1 l0_1.length c0_1] 24 (0, 0)) (zb BK438.out) hb)
 have n4_ := Aside0.mk (blk_below (g := gb450) (o := .cells #[.int .i64 t446, .slice Ao28 t447.length co28] 30 (0, 0)) (zb BK450.out) hb)
 have n5_ := Aside0.mk (below_step (zh HB.out) hb)
 clear HO443
 clear HO449
 clear BK438
 clear BK450
 clear HB
 have HO443 := n0_
 have HO449 := n1_
 have HO456 := n2_
 have BK438 := n3_
 have BK450 := n4_
 have HB := n5_
 clear n0_ n1_ n2_ n3_ n4_ n5_
 (try clear hb)
 (try clear hb2)
 (try clear hk)
 (try clear hi)
 (try clear ho0)
 obtain ⟨Ao32, co32, eo32⟩ := Kd.R_slice HO456.out
 (first | subst eo32 | (injection eo32 with f1_ f2_ f3_; have f4_ := f1_.symm; have f5_ := f3_.symm; clear f1_ f2_ f3_; subst f4_; subst f5_))
 refine hK.out _ _ ⟨(blk_cell BK450.out 0).trans rfl, (blk_cell BK450.out 1).trans rfl, (blk_cell BK438.out 0).trans rfl, (blk_cell BK438.out 1).trans rfl⟩ (fun hHeld => ?_)
 clear hK K
 refine norm_ (a' := ?_) ?_ ?_
 rotate_left
 ·show Act.put _ (some 37) _ = _
  simp only [Act.put, List.setIfInBounds_toArray, List.set_cons_zero, List.set_cons_succ, i64_w, i32_w]
  rfl
 refine one_ (i := 3) (N := some 38) #[true, true, true, true, false] rfl rfl (by kernel_rfl) (by decide) (fun K hK => ?_)
 refine goes_ Tryz.func17 (by kernel_rfl) rfl #[.agg #[.int .i64 t446, .slice Ao28 t447.length co28], .agg #[.int .i64 t453, .slice Ao32 t454.length co32]] (by rfl) rfl rfl (by (try simp only [List.map_toArray, List.map_cons, List.map_nil]); first | done | rfl | (simp only [List.length_drop, List.length_take]; rfl)) ?_
 with_reducible refine (laws_eqPuzzle.calls k t446 _ _ t447 t453 _ _ t454 true _ ?side1 ?side2 ?side3 ?side4 A14.out).mono ?_
 (case side1 => repeat (first | exact (Kd.R_reads' HO449.out).2.2 | (with_reducible refine Kd.C_alloc ?_ _) | (with_reducible refine Kd.C_drewN ?_ _) | (with_reducible refine Kd.C_drew ?_)))
 (case side2 => exact (Kd.R_reads' HO449.out).2.1)
 (case side3 => repeat (first | exact (Kd.R_reads' HO456.out).2.2 | (with_reducible refine Kd.C_alloc ?_ _) | (with_reducible refine Kd.C_drewN ?_ _) | (with_reducible refine Kd.C_drew ?_)))
 (case side4 => exact (Kd.R_reads' HO456.out).2.1)
 rintro e w33 ⟨rfl, hb⟩
 refine ⟨_, rfl, ?_⟩
 have n0_ := Aside0.mk (Kd.R_below (zr HO443.out) hb)
 have n1_ := Aside0.mk (Kd.R_below (zr HO449.out) hb)
 have n2_ := Aside0.mk (Kd.R_below (zr HO456.out) hb)
 have n3_ := Aside0.mk (blk_below (g := gb438) (o := .cells #[.int .i64 a0_0, .slice A0_1 l0_1.length c0_1] 24 (0, 0)) (zb BK438.out) hb)
 have n4_ := Aside0.mk (blk_below (g := gb450) (o := .cells #[.int .i64 t446, .slice Ao28 t447.length co28] 30 (0, 0)) (zb BK450.out) hb)
 have n5_ := Aside0.mk (below_step (zh HB.out) hb)
 clear HO443
 clear HO449
 clear HO456
 clear BK438
 clear BK450
 clear HB
 have HO443 := n0_
 have HO449 := n1_
 have HO456 := n2_
 have BK438 := n3_
 have BK450 := n4_
 have HB := n5_
 clear n0_ n1_ n2_ n3_ n4_ n5_
 (try clear hb)
 (try clear hb2)
 (try clear hk)
 (try clear hi)
 refine hK.out _ _ ⟨(blk_cell BK450.out 0).trans rfl, (blk_cell BK450.out 1).trans rfl, (blk_cell BK438.out 0).trans rfl, (blk_cell BK438.out 1).trans rfl⟩ (fun hHeld => ?_)
 clear hK K
 refine norm_ (a' := ?_) ?_ ?_
 rotate_left
 ·show Act.put _ (some 38) _ = _
  simp only [Act.put, List.setIfInBounds_toArray, List.set_cons_zero, List.set_cons_succ, i64_w, i32_w]
  rfl
 refine pure_ (i := 4) (N := some 39) (v := ?_) (a' := ?_) #[true, true, true, true, true] rfl rfl (by kernel_rfl) (fun _ _ _ h => h) (Or.inl ⟨by rfl, ?_⟩) ?_ ?_
 rotate_left
 ·intro w'
  go_simp
  with_reducible rfl
 rotate_left
 ·simp only [Act.put, List.setIfInBounds_toArray, List.set_cons_zero, List.set_cons_succ, i64_w, i32_w]
  rfl
 refine done_ (by kernel_rfl) ?_
 try go_wp2
 go_ret
 exact ⟨by first | rfl | (simp [*, errW_none, errW_some] <;> rfl), by repeat (first | (with_reducible first | exact HB.out | apply below_alloc | apply pw_below_drewN | apply below_drew1 | refine below_set ?_ GE438.out | refine below_set ?_ GE450.out) | exact HB.out)⟩
end Go.Proofs.YtgjakcpbfbfejaaGreat.Q
end
section
namespace Go.Proofs.YtgjakcpbfbfejaaGreat.Q
open Go.RowKit Go.Proofs.YtgjakcpbfbfejaaGreatW.PrintWords Go.Proofs.YtgjakcpbfbfejaaGreatW.PrintLast Go.Proofs.YtgjakcpbfbfejaaGreatW.PrintMore
set_option linter.unusedVariables false
set_option linter.unusedSimpArgs false
open Go.ChangeShapes Go.WideShapes Go.ChangeAt Go.Deep
section
variable {H : Type} {enc : TypeId × Value → H} {P : Program} {W : World} {α β γ : Type}
def Opens (enc : TypeId × Value → H) (P : Program) (W : World) (t : TypeId) (d : Kd α) (G : α → Prop) : Prop :=
  ∀ (fuel : Nat) (cs : List Value) (y : DataW H × List MemPlace), DataW.trod enc P W 0 (fun _ => true) true fuel t cs = some y → ∃ x, d.K W x cs ∧ G x
def I64 (x : Int) : Prop := -9223372036854775808 ≤ x ∧ x ≤ 9223372036854775807
theorem opens_int {t : TypeId} (ht : P.underlying t = some (.int .i64)) : Opens enc P W t (Kd.int .i64) I64 := by
  intro fuel cs y h
  obtain ⟨n, rfl, _, hw⟩ := DataW.trod_int ht h
  exact ⟨n, rfl, Go.bounds_i64 hw⟩
theorem opens_slice [Inhabited α] {t e : TypeId} {d : Kd α} {G : α → Prop} (ht : P.underlying t = some (.slice e)) (he : P.cellsOf e = d.sz) (h : Opens enc P W e d G) :
    Opens enc P W t (Kd.slice e d) (fun xs => ∀ x ∈ xs, G x) := by
  intro fuel cs y hr
  rcases Deep.open_slice ht hr with ⟨rfl, _⟩ | ⟨a, len, cap, m, n, D, Pl, rfl, _, hlc, hcm, hm, _, hel⟩
  · exact ⟨[], ⟨none, 0, rfl, Nat.le_refl _, rfl, by simp, fun hp => absurd hp (by simp)⟩, fun x hx => by cases hx⟩
  · have hm' : len ≤ m := by rw [hm]; simp; omega
    have key : ∀ i, i < len → ∃ x, (∃ cs', d.K W x cs' ∧ ∀ j u, cs'[j]? = some u → W.cell? (a.add (i * d.sz + j)) = some u) ∧ G x := by
      intro i hi
      obtain ⟨cs', h1, h2⟩ := hel i (by omega)
      obtain ⟨x, hx, hG⟩ := h _ _ _ h2
      obtain ⟨_, hl, hc⟩ := World.cells?_some h1
      refine ⟨x, ⟨cs', hx, fun j u hu => ?_⟩, hG⟩
      have hj : j < P.cellsOf e := by rw [← hl]; exact (List.getElem?_eq_some_iff.1 hu).1
      have h3 := hc j hj
      rw [Deep.add_add, he] at h3
      rw [h3, hu]
    obtain ⟨f, hf⟩ := Deep.choose_lt key
    have hlen : ((List.range len).map f).length = len := by simp
    refine ⟨(List.range len).map f, ⟨some a, cap, by rw [hlen], by rw [hlen]; exact hlc, rfl, ?_, fun _ => ⟨a, rfl, fun j p hj => ?_⟩⟩, fun x hx => ?_⟩
    · rw [hlen]; unfold maxLen at hcm; omega
    · obtain ⟨hj1, hj2⟩ := List.getElem?_eq_some_iff.1 hj
      have hjl : j < len := by rw [hlen] at hj1; exact hj1
      have : p = f j := by rw [← hj2]; simp
      subst this
      obtain ⟨⟨cs', hK, hc⟩, _⟩ := hf j hjl
      exact ⟨cs', d.K_len hK, hK, hc⟩
    · obtain ⟨i, hi, rfl⟩ := List.mem_map.1 hx
      exact (hf i (List.mem_range.1 hi)).2
theorem opens_pair {t : TypeId} {f0 f1 : Field} {d0 : Kd α} {d1 : Kd β} {G0 : α → Prop} {G1 : β → Prop} (ht : P.underlying t = some (.struct #[f0, f1])) (hC : P.cellsOf t = d0.sz + d1.sz)
    (o0 : f0.offset = 0) (o1 : f1.offset = d0.sz) (c0 : P.cellsOf f0.type = d0.sz) (c1 : P.cellsOf f1.type = d1.sz) (h0 : Opens enc P W f0.type d0 G0) (h1 : Opens enc P W f1.type d1 G1) :
    Opens enc P W t (Kd.pair d0 d1) (fun x => G0 x.1 ∧ G1 x.2) := by
  intro fuel cs y hr
  obtain ⟨y0, y1, n, _, hl, r0, r1⟩ := trod_struct2 ht hr
  rw [o0, c0] at r0
  rw [o1, c1] at r1
  obtain ⟨x0, k0, g0⟩ := h0 _ _ _ r0
  obtain ⟨x1, k1, g1⟩ := h1 _ _ _ r1
  refine ⟨(x0, x1), ⟨_, _, ?_, k0, k1⟩, g0, g1⟩
  rw [List.drop_zero, List.take_of_length_le (l := cs.drop d0.sz) (by rw [List.length_drop, hl, hC]; omega), List.take_append_drop]
theorem opens_triple {t : TypeId} {f0 f1 f2 : Field} {d0 : Kd α} {d1 : Kd β} {d2 : Kd γ} {G0 : α → Prop} {G1 : β → Prop} {G2 : γ → Prop} (ht : P.underlying t = some (.struct #[f0, f1, f2])) (hC : P.cellsOf t = d0.sz + (d1.sz + d2.sz))
    (o0 : f0.offset = 0) (o1 : f1.offset = d0.sz) (o2 : f2.offset = d0.sz + d1.sz) (c0 : P.cellsOf f0.type = d0.sz) (c1 : P.cellsOf f1.type = d1.sz) (c2 : P.cellsOf f2.type = d2.sz)
    (h0 : Opens enc P W f0.type d0 G0) (h1 : Opens enc P W f1.type d1 G1) (h2 : Opens enc P W f2.type d2 G2) :
    Opens enc P W t (Kd.pair d0 (Kd.pair d1 d2)) (fun x => G0 x.1 ∧ G1 x.2.1 ∧ G2 x.2.2) := by
  intro fuel cs y hr
  obtain ⟨y0, y1, y2, n, _, hl, r0, r1, r2⟩ := trod_struct3 ht hr
  rw [o0, c0] at r0
  rw [o1, c1] at r1
  rw [o2, c2] at r2
  obtain ⟨x0, k0, g0⟩ := h0 _ _ _ r0
  obtain ⟨x1, k1, g1⟩ := h1 _ _ _ r1
  obtain ⟨x2, k2, g2⟩ := h2 _ _ _ r2
  refine ⟨(x0, x1, x2), ⟨_, _, ?_, k0, _, _, rfl, k1, k2⟩, g0, g1, g2⟩
  rw [List.drop_zero, List.take_of_length_le (l := cs.drop (d0.sz + d1.sz)) (by rw [List.length_drop, hl, hC]; omega), ← List.drop_drop, List.take_append_drop, List.take_append_drop]
theorem opens_iso {t : TypeId} {d : Kd α} {G : α → Prop} (f : β → α) (g : α → β) (hfg : ∀ x, f (g x) = x) (h : Opens enc P W t d G) : Opens enc P W t (Kd.iso d f) (fun y => G (f y)) := by
  intro fuel cs y hr
  obtain ⟨x, k, gx⟩ := h _ _ _ hr
  exact ⟨g x, by show d.K W (f (g x)) cs; rw [hfg]; exact k, by show G (f (g x)); rw [hfg]; exact gx⟩
theorem open_struct {r : Reach} {b0 : Nat} {t : TypeId} {fs : Array Field} {d : Kd α} {G : α → Prop} {v : Value} {y : DataW H} {p : List MemPlace} (ht : P.underlying t = some (.struct fs)) (hv : Value.okWide P W r b0 t v)
    (hr : DataW.Trod enc P W 0 (fun _ => true) true t v y p) (h : Opens enc P W t d G) : ∃ x cs, v = .agg cs ∧ d.K W x cs.toList ∧ G x := by
  obtain ⟨cs, rfl, _⟩ := okWide_struct ht hv
  obtain ⟨fuel, hf⟩ := hr
  obtain ⟨x, k, g⟩ := h _ _ _ hf
  exact ⟨x, cs, rfl, k, g⟩
end
end Go.Proofs.YtgjakcpbfbfejaaGreat.Q
end
section
namespace Go.Proofs.YtgjakcpbfbfejaaGreat.Q
open Go.RowKit Go.Proofs.YtgjakcpbfbfejaaGreatW.PrintWords Go.Proofs.YtgjakcpbfbfejaaGreatW.PrintLast Go.Proofs.YtgjakcpbfbfejaaGreatW.PrintMore
set_option linter.unusedVariables false
set_option linter.unusedSimpArgs false
theorem wraps_i64 (n : Int) (h0 : 0 ≤ n) (h1 : n < 2 ^ 62) : IntKind.i64.wrap n = n := by rw [IntKind.wrap_i64]; omega
theorem and_nat (a b : Nat) (ha : a < 2 ^ 62) (hb : b < 2 ^ 62) : Go.bits .and .i64 (a : Int) (b : Int) = ((a &&& b : Nat) : Int) := (Go.bits_nat .i64 62 (by decide) wraps_i64 a b ha hb).1
theorem or_nat (a b : Nat) (ha : a < 2 ^ 62) (hb : b < 2 ^ 62) : Go.bits .or .i64 (a : Int) (b : Int) = ((a ||| b : Nat) : Int) := (Go.bits_nat .i64 62 (by decide) wraps_i64 a b ha hb).2
theorem shr_nat (a n : Nat) (hn : n ≤ 64) : shr .i64 (a : Int) (n : Int) = ((a >>> n : Nat) : Int) := by
  unfold shr
  rw [Int.toNat_natCast, show min n IntKind.i64.bits = n from Nat.min_eq_left hn, Nat.shiftRight_eq_div_pow]
  simp
theorem shl_one_nat (n : Nat) (hn : n ≤ 16) : shl .i64 1 (n : Int) = ((2 ^ n : Nat) : Int) := by
  rw [shl_one (n : Int) ⟨by omega, by omega⟩, Int.toNat_natCast]; simp
theorem and_one_nat (a : Nat) (ha : a < 2 ^ 62) : Go.bits .and .i64 (a : Int) 1 = ((a % 2 : Nat) : Int) := by
  have := and_nat a 1 ha (by decide)
  rw [Nat.and_one_is_mod] at this
  exact this
theorem tmod_two (a : Nat) : Int.tmod (a : Int) 2 = ((a % 2 : Nat) : Int) := by
  rw [Int.tmod_eq_emod_of_nonneg (by omega)]; omega
theorem shr_lt (a i : Nat) (ha : a < 2 ^ 62) : a >>> i < 2 ^ 62 := by
  rw [Nat.shiftRight_eq_div_pow]
  exact Nat.lt_of_le_of_lt (Nat.div_le_self _ _) ha
end Go.Proofs.YtgjakcpbfbfejaaGreat.Q
end
section
namespace Go.Proofs.YtgjakcpbfbfejaaGreat.Q
open Go.RowKit Go.Proofs.YtgjakcpbfbfejaaGreatW.PrintWords Go.Proofs.YtgjakcpbfbfejaaGreatW.PrintLast Go.Proofs.YtgjakcpbfbfejaaGreatW.PrintMore
attribute [local go_sem] max2_int min2_int max_two min_two max_three min_three max_four min_four
set_option linter.unusedVariables false
set_option linter.unusedSimpArgs false
def spec_voBits.l0 : Nat → Int → List Int → Int → Int → Option (Int)
 | 0, _, _, _, _ => none
 | k + 1, x3, x6, x7, x8 => if x8 < x7 then (if 0 ≤ x8 then (if x8 < (x6.length : Int) then (if 0 ≤ (rd x6 x8) then (spec_voBits.l0 k (Go.bits .or .i64 x3 (shl .i64 1 (rd x6 x8))) x6 x7 (wrap64 (x8 + 1))) else (none)) else (none)) else (none)) else (some x3)
def spec_voBits.f (k : Nat) (l0 : List Int) : Option (Int) := spec_voBits.l0 k 0 l0 (l0.length : Int) 0
end Go.Proofs.YtgjakcpbfbfejaaGreat.Q
end
section
namespace Go.Proofs.YtgjakcpbfbfejaaGreat.Q
open Go.RowKit Go.Proofs.YtgjakcpbfbfejaaGreatW.PrintWords Go.Proofs.YtgjakcpbfbfejaaGreatW.PrintLast Go.Proofs.YtgjakcpbfbfejaaGreatW.PrintMore
set_option linter.unusedVariables false
set_option linter.unusedSimpArgs false
def maskN (m : Nat) : List Int → Nat
  | [] => m
  | x :: l => maskN (m ||| 2 ^ x.toNat) l
theorem maskOf_ev (l : List Int) (hl : l.length ≤ 1152921504606) (h : ∀ x ∈ l, 0 ≤ x ∧ x ≤ 15) : Ev (fun k => impl_maskOf.f k l) (maskN 0 l : Int) ∧ Ev (fun k => spec_voBits.f k l) (maskN 0 l : Int) := by
  unfold impl_maskOf.f spec_voBits.f
  have key : ∀ (d i m : Nat), i + d = l.length → m < 65536 → Ev (fun k => impl_maskOf.l0 k (m : Int) l (l.length : Int) (i : Int)) (maskN m (l.drop i) : Int) ∧ Ev (fun k => spec_voBits.l0 k (m : Int) l (l.length : Int) (i : Int)) (maskN m (l.drop i) : Int) := by
    intro d
    induction d with
    | zero =>
      intro i m hi hm
      refine ⟨ev_succ ?_, ev_succ ?_⟩
      all_goals
        simp only [impl_maskOf.l0, spec_voBits.l0]
        refine ev_neg (by omega) (ev_eqv (Ev.now _) ?_)
        rw [List.drop_of_length_le (by omega)]; rfl
    | succ d ih =>
      intro i m hi hm
      have h1 : i < l.length := by omega
      have hx := h l[i] (List.getElem_mem h1)
      obtain ⟨q, hq⟩ := Int.eq_ofNat_of_zero_le hx.1
      have hq16 : q ≤ 15 := by omega
      have hp : 2 ^ q < 65536 := Nat.pow_lt_pow_right (n := 16) (by decide) (by omega)
      have ih' := ih (i + 1) (m ||| 2 ^ q) (by omega) (Nat.or_lt_two_pow (n := 16) hm hp)
      rw [List.drop_eq_getElem_cons h1, maskN, hq, Int.toNat_natCast]
      refine ⟨ev_succ ?_, ev_succ ?_⟩
      all_goals
        simp only [impl_maskOf.l0, spec_voBits.l0]
        refine ev_pos (by omega) (ev_pos (by omega) (ev_pos (by omega) (ev_pos (by rw [rd_get h1]; omega) ?_)))
        rw [rd_get h1, hq, shl_one_nat q (by omega), or_nat m (2 ^ q) (by omega) (by omega), wrap_succ h1 (by omega)]
      · exact ih'.1
      · exact ih'.2
  exact key l.length 0 0 (by omega) (by decide)
def incFrom : Option Int → List Int → Bool
  | _, [] => true
  | p, x :: l => (match p with | none => true | some y => decide (y < x)) && incFrom (some x) l
def incB (l : List Int) : Bool := incFrom none l
def isSetB (l : List Int) (n : Int) : Bool := l.all (inB · 0 (n - 1)) && incB l
theorem any_not_all {α : Type} (l : List α) (p : α → Bool) : (!l.any fun x => !p x) = l.all p := by
  induction l with
  | nil => rfl
  | cons x l ih => rw [List.any_cons, List.all_cons, ← ih]; cases p x <;> simp
theorem isSetB_mem {l : List Int} {n : Int} (h : isSetB l n = true) : ∀ x ∈ l, 0 ≤ x ∧ x ≤ n - 1 := by
  intro x hx
  unfold isSetB at h
  rw [Bool.and_eq_true, List.all_eq_true] at h
  exact inB_iff.1 (h.1 x hx)
theorem ev_anyO {α : Type} (p : Nat → α → Option Bool) (q : α → Bool) : ∀ l : List α, (∀ x ∈ l, Ev (fun k => p k x) (q x)) → Ev (fun k => anyO (p k) l) (l.any q)
  | [], _ => Ev.now _
  | x :: xs, h => by
    simp only [anyO, List.any_cons]
    refine Ev.bind (h x (List.mem_cons_self ..)) (ev_bool (fun e => ?_) (fun e => ?_))
    · rw [e]; exact Ev.now _
    · rw [e]; exact ev_anyO p q xs (fun y hy => h y (List.mem_cons_of_mem _ hy))
def allR (P : Nat → Bool) (n i : Nat) : Bool := ((List.range n).drop i).all P
theorem allR_end (P : Nat → Bool) (n : Nat) : allR P n n = true := by
  unfold allR
  rw [List.drop_of_length_le (by simp)]; rfl
theorem allR_step (P : Nat → Bool) (n i : Nat) (h : i < n) : allR P n i = (P i && allR P n (i + 1)) := by
  unfold allR
  rw [all_drop P (List.range n) i (by simpa using h), List.getElem_range]
def mk (l : List (List Int)) (i : Nat) : Nat := maskN 0 (l.getD i [])
theorem maskN_lt2 (n : Nat) (l : List Int) : ∀ m, m < 2 ^ n → (∀ x ∈ l, 0 ≤ x ∧ x ≤ (n : Int) - 1) → maskN m l < 2 ^ n := by
  induction l with
  | nil => intro m hm _; exact hm
  | cons x l ih =>
    intro m hm h
    refine ih _ ?_ (fun y hy => h y (List.mem_cons_of_mem _ hy))
    have hx := h x (List.mem_cons_self ..)
    exact Nat.or_lt_two_pow hm (Nat.pow_lt_pow_right (by decide) (by omega))
def SetsOk (m : Int) (l : List (List Int)) : Prop := (1 ≤ m ∧ m ≤ 9) ∧ ∀ x ∈ l, isSetB x m = true ∧ x.length ≤ 1048576
theorem SetsOk.elem {m : Int} {l : List (List Int)} (h : SetsOk m l) {x : List Int} (hx : x ∈ l) : ∀ y ∈ x, 0 ≤ y ∧ y ≤ (9 : Nat) - 1 := fun y hy => by
  have := isSetB_mem (h.2 x hx).1 y hy
  have := h.1
  omega
theorem SetsOk.lt {m : Int} {l : List (List Int)} (h : SetsOk m l) {i : Nat} (hi : i < l.length) : mk l i < 512 := by
  unfold mk
  rw [getD_get hi]
  exact maskN_lt2 9 _ 0 (by decide) (h.elem (List.getElem_mem hi))
theorem SetsOk.masks {m : Int} {l : List (List Int)} (h : SetsOk m l) {i : Nat} (hi : i < l.length) : Ev (fun k => impl_maskOf.f k l[i]) (mk l i : Int) ∧ Ev (fun k => spec_voBits.f k l[i]) (mk l i : Int) := by
  have hx := List.getElem_mem hi
  have := maskOf_ev l[i] (Nat.le_trans (h.2 _ hx).2 (by decide)) (fun y hy => by have := h.elem hx y hy; omega)
  unfold mk
  rw [getD_get hi]
  exact this
theorem and_eq_nat {a b c : Nat} (ha : a < 512) (hb : b < 512) : (Go.bits .and .i64 (a : Int) (b : Int) = (c : Int)) ↔ ((a &&& b == c) = true) := by
  rw [and_nat a b (by omega) (by omega), beq_iff_eq]
  omega
theorem SetsOk.of {m : Int} {l : List (List Int)} (hm : inB m 1 9 = true) (hs : (l.all fun s => decide (s ≠ []) && isSetB s m) = true) (hb : ∀ x ∈ l, x.length ≤ 1048576) : SetsOk m l := by
  refine ⟨inB_iff.1 hm, fun x hx => ⟨?_, hb x hx⟩⟩
  have := List.all_eq_true.1 hs x hx
  rw [Bool.and_eq_true] at this
  exact this.2
theorem rdOf_get {xs : List Bool} {i : Nat} (h : i < xs.length) : rdOf false xs (i : Int) = xs[i] := by unfold rdOf; rw [Int.toNat_natCast]; exact getD_get h
def tabB (g : Nat → Bool) (n : Nat) : List Bool := (List.range n).map g
theorem tabB_len (g : Nat → Bool) (n : Nat) : (tabB g n).length = n := by simp [tabB]
theorem tabB_get (g : Nat → Bool) (n i : Nat) (h : i < (tabB g n).length) : (tabB g n)[i] = g i := by simp [tabB]
theorem tabB_succ (g : Nat → Bool) (n : Nat) : tabB g (n + 1) = tabB g n ++ [g n] := by simp [tabB, List.range_succ]
theorem tabB_set (g : Nat → Bool) (i : Nat) (b b' : Bool) (l : List Bool) : (tabB g i ++ b :: l).set i b' = tabB g i ++ b' :: l := by
  rw [List.set_append_right _ _ (by rw [tabB_len]; omega), tabB_len, Nat.sub_self]; rfl
theorem tabB_next (g : Nat → Bool) (i : Nat) (l : List Bool) : tabB g i ++ g i :: l = tabB g (i + 1) ++ l := by rw [tabB_succ, List.append_assoc]; rfl
def winB (l : List (List Int)) (i : Nat) : Bool := l.any fun s => i &&& maskN 0 s == maskN 0 s
def winT (m : Int) (l : List (List Int)) : List Bool := tabB (winB l) (2 ^ m.toNat)
theorem and_self_nat {a b : Nat} (ha : a < 512) (hb : b < 512) : (Go.bits .and .i64 (a : Int) (b : Int) == (b : Int)) = (a &&& b == b) := by
  rw [Bool.eq_iff_iff, ← and_eq_nat ha hb, beq_iff_eq]
theorem pow_le512 {m : Int} (h : 1 ≤ m ∧ m ≤ 9) : 2 ^ m.toNat ≤ 512 := Nat.pow_le_pow_right (n := 2) (by decide) (show m.toNat ≤ 9 by omega)
theorem andNot_nat (a b : Nat) (ha : a < 2 ^ 62) (hb : b < 2 ^ 62) : Go.bits .andNot .i64 (a : Int) (b : Int) = ((a ^^^ (a &&& b) : Nat) : Int) := by
  have ha' : a % 2 ^ 64 = a := Nat.mod_eq_of_lt (by omega)
  have hb' : b % 2 ^ 64 = b := Nat.mod_eq_of_lt (by omega)
  have e : a &&& (2 ^ 64 - (b + 1)) = a ^^^ (a &&& b) := by
    refine Nat.eq_of_testBit_eq fun i => ?_
    rw [Nat.testBit_and, Nat.testBit_xor, Nat.testBit_and, Nat.testBit_two_pow_sub_succ (by omega)]
    by_cases hi : i < 64
    · cases a.testBit i <;> cases b.testBit i <;> simp [hi]
    · have : a.testBit i = false := Nat.testBit_lt_two_pow (Nat.lt_of_lt_of_le (show a < 2 ^ 64 by omega) (Nat.pow_le_pow_right (by decide) (by omega)))
      simp [this]
  have h : Go.bits .andNot .i64 (a : Int) (b : Int) = IntKind.i64.wrap ((a &&& (2 ^ 64 - 1 - b % 2 ^ 64) : Nat) : Int) := by
    show IntKind.i64.wrap ((BitVec.ofInt 64 (a : Int) &&& ~~~ (BitVec.ofInt 64 (b : Int))).toNat : Int) = _
    rw [BitVec.ofInt_natCast, BitVec.ofInt_natCast, BitVec.toNat_and, BitVec.toNat_not, BitVec.toNat_ofNat, BitVec.toNat_ofNat, ha']
  rw [h, hb', show 2 ^ 64 - 1 - b = 2 ^ 64 - (b + 1) by omega, e]
  have : a ^^^ (a &&& b) < 2 ^ 62 := Nat.xor_lt_two_pow ha (Nat.and_lt_two_pow _ hb)
  exact wraps_i64 _ (by omega) (by exact_mod_cast this)
def bitB (m i : Nat) : Bool := m >>> i % 2 == 1
theorem has_eq (m i : Nat) (hm : m < 65536) (hi : i ≤ 64) : impl_has.f (m : Int) (i : Int) = some (bitB m i) := by
  unfold impl_has.f bitB
  have h2 : m >>> i < 2 ^ 62 := shr_lt _ _ (by omega)
  rw [if_pos (by omega), shr_nat _ _ hi, and_one_nat _ h2]
  congr 1
  rw [Bool.eq_iff_iff, beq_iff_eq, beq_iff_eq]
  omega
theorem tmod_bit (m i : Nat) (hi : i ≤ 64) : Int.tmod (shr .i64 (m : Int) (i : Int)) 2 = 0 ↔ bitB m i = false := by
  rw [shr_nat _ _ hi, tmod_two]
  unfold bitB
  rw [beq_eq_false_iff_ne]
  omega
theorem fin512 {P : Nat → Nat → Prop} [∀ m i, Decidable (P m i)] (h : ((List.range 512).all fun m => (List.range 9).all fun i => decide (P m i)) = true) : ∀ m i, m < 512 → i < 9 → P m i := fun m i hm hi =>
  of_decide_eq_true (List.all_eq_true.1 (List.all_eq_true.1 h m (List.mem_range.2 hm)) i (List.mem_range.2 hi))
theorem or_bit : ∀ m i, m < 512 → i < 9 → m ||| 2 ^ i = if bitB m i = true then m else m + 2 ^ i := fin512 (by decide +kernel)
theorem all_andNot : ∀ m n, m < 512 → n < 10 → m < 2 ^ n → (2 ^ n - 1) ^^^ ((2 ^ n - 1) &&& m) = 2 ^ n - 1 - m := by
  have h : ((List.range 512).all fun m => (List.range 10).all fun n => decide (m < 2 ^ n → (2 ^ n - 1) ^^^ ((2 ^ n - 1) &&& m) = 2 ^ n - 1 - m)) = true := by decide +kernel
  exact fun m n hm hn => of_decide_eq_true (List.all_eq_true.1 (List.all_eq_true.1 h m (List.mem_range.2 hm)) n (List.mem_range.2 hn))
theorem rdOf_tab {g : Nat → Bool} {N i : Nat} (h : i < N) : rdOf false (tabB g N) (i : Int) = g i := by
  rw [rdOf_get (by rw [tabB_len]; exact h), tabB_get]
theorem pow_lt9 {i n : Nat} (h : i < n) (hn : n ≤ 9) : 2 ^ i < 2 ^ n ∧ 2 ^ n ≤ 512 :=
  ⟨Nat.pow_lt_pow_right (by decide) h, Nat.pow_le_pow_right (n := 2) (by decide) hn⟩
def cntB (g : Nat → Bool) (N i : Nat) : Int := (((List.range N).drop i).filter g).length
theorem cntB_end (g : Nat → Bool) (N : Nat) : cntB g N N = 0 := by
  unfold cntB
  rw [List.drop_of_length_le (by simp)]; rfl
theorem cntB_step (g : Nat → Bool) (N i : Nat) (h : i < N) : cntB g N i = (if g i = true then 1 else 0) + cntB g N (i + 1) := by
  unfold cntB
  rw [List.drop_eq_getElem_cons (by simpa using h), List.getElem_range, List.filter_cons]
  by_cases e : g i = true
  · rw [if_pos e, if_pos e, List.length_cons]; omega
  · rw [if_neg e, if_neg e]; omega
theorem countWins_ev (a : Int) (g : Nat → Bool) (N : Nat) (hN : N ≤ 512) : Ev (fun k => impl_votes_countWins.f k a (tabB g N)) (cntB g N 0) := by
  unfold impl_votes_countWins.f
  have := ev_rangeS N (fun k i s => impl_votes_countWins.l0 k s (tabB g N) (N : Int) (i : Int)) (fun i s => s + cntB g N i) (fun i s => 0 ≤ s ∧ s ≤ i) ?_ ?_ 0 (0 : Int) (Nat.zero_le _) ⟨Int.le_refl _, Int.le_refl _⟩
  · simpa [tabB_len] using this
  · intro s _
    refine ev_succ ?_
    simp only [impl_votes_countWins.l0]
    exact ev_neg (Int.lt_irrefl _) (ev_eqv (Ev.now _) (by rw [cntB_end]; omega))
  · intro i s hi hs ih
    refine ev_succ ?_
    simp only [impl_votes_countWins.l0]
    refine ev_pos (by omega) (ev_pos (by omega) (ev_pos (by rw [tabB_len]; omega) ?_))
    rw [rdOf_tab hi, wrap_succ hi (by omega), cntB_step g N i hi]
    refine ev_bool (fun e => ?_) (fun e => ?_)
    · rw [if_pos e, wrap64_id (by omega), ← Int.add_assoc]; exact ih _ (by omega)
    · rw [if_neg (by simp [e]), Int.zero_add]; exact ih _ (by omega)
theorem pzOne_eq (b : Bool) : spec_pzOne.f b = some (if b = true then 1 else 0) := by unfold spec_pzOne.f; cases b <;> rfl
theorem oneIf_eq (b : Bool) : impl_oneIf.f b = some (if b = true then 1 else 0) := by unfold impl_oneIf.f; cases b <;> rfl
theorem pzValue_l0 (g : Nat → Bool) (N : Nat) (hN : N ≤ 512) : Ev (fun k => spec_pzValue.l0 k 0 (tabB g N) (N : Int) 0) (cntB g N 0) := by
  have := ev_rangeS N (fun k i s => spec_pzValue.l0 k s (tabB g N) (N : Int) (i : Int)) (fun i s => s + cntB g N i) (fun i s => 0 ≤ s ∧ s ≤ i) ?_ ?_ 0 (0 : Int) (Nat.zero_le _) ⟨Int.le_refl _, Int.le_refl _⟩
  · simpa using this
  · intro s _
    refine ev_succ ?_
    simp only [spec_pzValue.l0]
    exact ev_neg (Int.lt_irrefl _) (ev_eqv (Ev.now _) (by rw [cntB_end]; omega))
  · intro i s hi hs ih
    refine ev_succ ?_
    simp only [spec_pzValue.l0]
    refine ev_pos (by omega) (ev_pos (by omega) (ev_pos (by rw [tabB_len]; omega) ?_))
    rw [rdOf_tab hi, wrap_succ hi (by omega), cntB_step g N i hi]
    simp only [pzOne_eq, Option.bind_some]
    by_cases e : g i = true
    · rw [if_pos e, wrap64_id (by omega), ← Int.add_assoc]; exact ih _ (by omega)
    · rw [if_neg e, Int.zero_add, Int.add_zero, wrap64_id (by omega)]; exact ih _ (by omega)
theorem all_eq (m : Int) (l : List Bool) (h : 1 ≤ m ∧ m ≤ 9) : impl_votes_all.f m l = some (((2 ^ m.toNat - 1 : Nat) : Int)) := by
  unfold impl_votes_all.f
  rw [if_pos (by omega), all_bits m (by omega)]
  have : 1 ≤ 2 ^ m.toNat := Nat.one_le_two_pow
  congr 1
  rw [Int.ofNat_sub this]; simp
theorem rest_mask (m : Int) (h : 1 ≤ m ∧ m ≤ 9) (i : Nat) (hi : i < 2 ^ m.toNat) : Go.bits .andNot .i64 ((2 ^ m.toNat - 1 : Nat) : Int) (i : Int) = ((2 ^ m.toNat - 1 - i : Nat) : Int) := by
  have hp := pow_le512 h
  rw [andNot_nat _ _ (by omega) (by omega), all_andNot i m.toNat (by omega) (by omega) hi]
def properB (g : Nat → Bool) (N : Nat) : Bool := allR (fun i => !(g i && g (N - 1 - i))) N 0
def strongB (g : Nat → Bool) (N : Nat) : Bool := allR (fun i => g i || g (N - 1 - i)) N 0
theorem isProper_ev (m : Int) (h : 1 ≤ m ∧ m ≤ 9) (g : Nat → Bool) : Ev (fun k => impl_votes_isProper.f k m (tabB g (2 ^ m.toNat))) (properB g (2 ^ m.toNat)) := by
  unfold impl_votes_isProper.f properB
  have hp := pow_le512 h
  have hr := rest_mask m h
  have ha := all_eq m (tabB g (2 ^ m.toNat)) h
  generalize 2 ^ m.toNat = N at *
  have := ev_range N (fun k i => impl_votes_isProper.l0 k (tabB g N) (N : Int) (i : Int) m (tabB g N)) (allR (fun i => !(g i && g (N - 1 - i))) N) ?_ ?_ 0 (Nat.zero_le _)
  · simpa [tabB_len] using this
  · refine ev_succ ?_
    simp only [impl_votes_isProper.l0]
    exact ev_neg (Int.lt_irrefl _) (ev_eqv (Ev.now _) (by rw [allR_end]))
  · intro i hi ih
    refine ev_succ ?_
    simp only [impl_votes_isProper.l0]
    refine ev_pos (by omega) (ev_pos (by omega) (ev_pos (by rw [tabB_len]; omega) ?_))
    rw [rdOf_tab hi, wrap_succ hi (by omega), allR_step _ _ _ hi]
    simp only [ha, Option.bind_some, hr i hi]
    rw [rdOf_tab (show N - 1 - i < N by omega)]
    refine ev_bool (fun e => ?_) (fun e => ?_)
    · rw [e]
      refine ev_pos (by omega) (ev_pos (by rw [tabB_len]; omega) (ev_bool (fun e2 => ?_) (fun e2 => ?_)))
      · rw [e2]; exact Ev.now _
      · rw [e2]; exact ih
    · rw [e]; exact ih
theorem isStrong_ev (m : Int) (h : 1 ≤ m ∧ m ≤ 9) (g : Nat → Bool) : Ev (fun k => impl_votes_isStrong.f k m (tabB g (2 ^ m.toNat))) (strongB g (2 ^ m.toNat)) := by
  unfold impl_votes_isStrong.f strongB
  have hp := pow_le512 h
  have hr := rest_mask m h
  have ha := all_eq m (tabB g (2 ^ m.toNat)) h
  generalize 2 ^ m.toNat = N at *
  have := ev_range N (fun k i => impl_votes_isStrong.l0 k (tabB g N) (N : Int) (i : Int) m (tabB g N)) (allR (fun i => g i || g (N - 1 - i)) N) ?_ ?_ 0 (Nat.zero_le _)
  · simpa [tabB_len] using this
  · refine ev_succ ?_
    simp only [impl_votes_isStrong.l0]
    exact ev_neg (Int.lt_irrefl _) (ev_eqv (Ev.now _) (by rw [allR_end]))
  · intro i hi ih
    refine ev_succ ?_
    simp only [impl_votes_isStrong.l0]
    refine ev_pos (by omega) (ev_pos (by omega) (ev_pos (by rw [tabB_len]; omega) ?_))
    rw [rdOf_tab hi, wrap_succ hi (by omega), allR_step _ _ _ hi]
    simp only [ha, Option.bind_some, hr i hi]
    rw [rdOf_tab (show N - 1 - i < N by omega)]
    refine ev_bool (fun e => ?_) (fun e => ?_)
    · rw [e]; exact ih
    · rw [e]
      refine ev_pos (by omega) (ev_pos (by rw [tabB_len]; omega) (ev_bool (fun e2 => ?_) (fun e2 => ?_)))
      · rw [e2]; exact ih
      · rw [e2]; exact Ev.now _
theorem ev_ite {α : Type} {c : Prop} [Decidable c] {f g : Nat → Option α} {r : α} (h1 : c → Ev f r) (h2 : ¬ c → Ev g r) : Ev (fun n => if c then f n else g n) r := by
  by_cases h : c
  · exact ev_pos h (h1 h)
  · exact ev_neg h (h2 h)
theorem pzValue_l1 (kind : Int) (hk : kind = 4 ∨ kind = 5) (g : Nat → Bool) (N : Nat) (hN : N ≤ 512) (h1 : 1 ≤ N) :
    Ev (fun k => spec_pzValue.l1 k kind (tabB g N) ((N - 1 : Nat) : Int) (N : Int) 0) (if (if kind = 4 then properB g N else strongB g N) = true then 1 else 0) := by
  unfold properB strongB
  have := ev_range N (fun k i => spec_pzValue.l1 k kind (tabB g N) ((N - 1 : Nat) : Int) (N : Int) (i : Int)) (fun i => if (if kind = 4 then allR (fun i => !(g i && g (N - 1 - i))) N i else allR (fun i => g i || g (N - 1 - i)) N i) = true then 1 else 0) ?_ ?_ 0 (Nat.zero_le _)
  · simpa using this
  · refine ev_succ ?_
    simp only [spec_pzValue.l1]
    exact ev_neg (Int.lt_irrefl _) (ev_eqv (Ev.now _) (by rw [allR_end, allR_end]; simp))
  · intro i hi ih
    refine ev_succ ?_
    simp only [spec_pzValue.l1]
    have hw : wrap64 (((N - 1 : Nat) : Int) - (i : Int)) = ((N - 1 - i : Nat) : Int) := by unfold wrap64; omega
    refine ev_pos (by omega) ?_
    rw [hw, rdOf_tab hi, rdOf_tab (show N - 1 - i < N by omega), wrap_succ hi (by omega), allR_step _ _ _ hi, allR_step _ _ _ hi, tabB_len]
    rcases hk with rfl | rfl
    · refine ev_pos rfl (ev_pos (by omega) (ev_pos (by omega) ?_))
      simp only [if_true] at ih ⊢
      refine ev_bool (fun e => ?_) (fun e => ?_)
      · rw [e]
        refine ev_pos (by omega) (ev_pos (by omega) (ev_bool (fun e2 => ?_) (fun e2 => ?_)))
        · rw [e2]; exact Ev.now _
        · rw [e2]; exact ev_neg (by decide) ih
      · rw [e]; exact ev_neg (by decide) ih
    · refine ev_neg (by decide) (ev_pos rfl (ev_pos (by omega) (ev_pos (by omega) ?_)))
      simp only [show ¬ ((5 : Int) = 4) by decide, if_false] at ih ⊢
      refine ev_bool (fun e => ?_) (fun e => ?_)
      · rw [e]; exact ih
      · rw [e]
        refine ev_pos (by omega) (ev_pos (by omega) (ev_bool (fun e2 => ?_) (fun e2 => ?_)))
        · rw [e2]; exact ih
        · rw [e2]; exact Ev.now _
def swB (g : Nat → Bool) (i m : Nat) : Bool := !bitB m i && (!g m && g (m + 2 ^ i))
theorem or_shl (m i : Nat) (hm : m < 512) (hi : i < 9) (hb : bitB m i = false) : Go.bits .or .i64 (m : Int) (shl .i64 1 (i : Int)) = ((m + 2 ^ i : Nat) : Int) := by
  have hp := (pow_lt9 (show i < 9 from hi) (Nat.le_refl _)).1
  rw [shl_one_nat i (by omega), or_nat m (2 ^ i) (by omega) (by omega), or_bit m i hm hi, if_neg (by simp [hb])]
theorem add_lt (m i n : Nat) (hn : n ≤ 9) (hm : m < 2 ^ n) (hi : i < n) (hb : bitB m i = false) : m + 2 ^ i < 2 ^ n := by
  have hp := (pow_lt9 hi hn).2
  have := Nat.or_lt_two_pow hm (pow_lt9 hi hn).1
  rw [or_bit m i (by omega) (by omega), if_neg (by simp [hb])] at this
  exact this
theorem isSwing_eq (a : Int) (g : Nat → Bool) (n m i : Nat) (hn : n ≤ 9) (hm : m < 2 ^ n) (hi : i < n) : impl_votes_isSwing.f a (tabB g (2 ^ n)) (m : Int) (i : Int) = some (swB g i m) := by
  have hp := (pow_lt9 hi hn).2
  unfold impl_votes_isSwing.f swB
  rw [has_eq m i (by omega) (by omega), Option.bind_some, rdOf_tab hm, tabB_len]
  cases hb : bitB m i
  · rw [if_neg (by decide), if_pos (by omega), if_pos (by omega)]
    cases hg : g m
    · rw [if_neg (by decide), if_pos (by omega), or_shl m i (by omega) (by omega) hb, if_pos (Int.natCast_nonneg _), if_pos (Int.ofNat_lt.2 (add_lt m i n hn hm hi hb)), rdOf_tab (add_lt m i n hn hm hi hb)]
      rfl
    · rw [if_pos rfl]; rfl
  · rw [if_pos rfl]; rfl
theorem set_same {α : Type} (l : List α) (i : Nat) (h : i < l.length) (x : α) (hx : l[i] = x) : l.set i x = l := by subst hx; exact List.set_getElem_self h
theorem swings_ev (m : Int) (h : 1 ≤ m ∧ m ≤ 9) (g : Nat → Bool) : Ev (fun k => impl_votes_swings.f k m (tabB g (2 ^ m.toNat))) (tab (fun i => cntB (swB g i) (2 ^ m.toNat) 0) m.toNat) := by
  obtain ⟨n, rfl⟩ := Int.eq_ofNat_of_zero_le (show 0 ≤ m by omega)
  have hn : n ≤ 9 := by omega
  have hp := pow_le512 h
  unfold impl_votes_swings.f
  rw [Int.toNat_natCast] at *
  have key : ∀ x : List Int, x.length = n → ∀ i, i < n → rd x (i : Int) = 0 → ∀ r, Ev (fun k => impl_votes_swings.l0 k (x.set i (cntB (swB g i) (2 ^ n) 0)) (n : Int) ((i + 1 : Nat) : Int) (n : Int) (tabB g (2 ^ n))) r →
      Ev (fun k => impl_votes_swings.l1 k x (i : Int) (n : Int) (i : Int) ((2 ^ n : Nat) : Int) 0 (n : Int) (tabB g (2 ^ n))) r := by
    intro x hx i hi h0 r hr
    have := ev_rangeS (2 ^ n) (fun k j (y : List Int) => impl_votes_swings.l1 k y (i : Int) (n : Int) (i : Int) ((2 ^ n : Nat) : Int) (j : Int) (n : Int) (tabB g (2 ^ n))) (fun _ _ => r)
      (fun j y => ∃ c : Int, 0 ≤ c ∧ c ≤ j ∧ y = x.set i c ∧ c + cntB (swB g i) (2 ^ n) j = cntB (swB g i) (2 ^ n) 0) ?_ ?_ 0 x (Nat.zero_le _) ⟨0, Int.le_refl _, Int.le_refl _, ?_, by omega⟩
    · simpa using this
    · rintro y ⟨c, _, _, rfl, hc⟩
      refine ev_succ ?_
      simp only [impl_votes_swings.l1]
      refine ev_neg (Int.lt_irrefl _) ?_
      rw [cntB_end, Int.add_zero] at hc
      rw [hc, wrap_succ hi (by omega)]
      exact hr
    · rintro j y hj ⟨c, hc0, hcj, rfl, hc⟩ ih
      refine ev_succ ?_
      simp only [impl_votes_swings.l1]
      refine ev_pos (by omega) (ev_bindS (isSwing_eq _ g n j i hn hj hi) ?_)
      rw [wrap_succ hj (by omega)]
      rw [cntB_step _ _ _ hj] at hc
      refine ev_bool (fun e => ?_) (fun e => ?_)
      · rw [if_pos e] at hc
        refine ev_pos (by omega) (ev_pos (by rw [List.length_set]; omega) (ih _ ⟨c + 1, by omega, by omega, ?_, by omega⟩))
        rw [rd_get (by rw [List.length_set]; omega), List.getElem_set_self, Int.toNat_natCast, List.set_set, wrap64_id (by omega)]
      · rw [if_neg (by simp [e])] at hc
        exact ih _ ⟨c, hc0, by omega, rfl, by omega⟩
    · exact (set_same x i (by omega) 0 (by rw [rd_get (by omega)] at h0; exact h0)).symm
  refine ev_pos (by omega) (ev_pos (by omega) (ev_bindS rfl ?_))
  have := ev_range n (fun k i => impl_votes_swings.l0 k (tab (fun i => cntB (swB g i) (2 ^ n) 0) i ++ List.replicate (n - i) 0) (n : Int) (i : Int) (n : Int) (tabB g (2 ^ n))) (fun _ => tab (fun i => cntB (swB g i) (2 ^ n) 0) n) ?_ ?_ 0 (Nat.zero_le _)
  · simpa [tab] using this
  · refine ev_succ ?_
    simp only [impl_votes_swings.l0]
    exact ev_neg (Int.lt_irrefl _) (ev_eqv (Ev.now _) (by simp))
  · intro i hi ih
    refine ev_succ ?_
    simp only [impl_votes_swings.l0, tabB_len]
    have hl : (tab (fun i => cntB (swB g i) (2 ^ n) 0) i ++ List.replicate (n - i) 0).length = n := by rw [List.length_append, tab_len, List.length_replicate]; omega
    refine ev_pos (by omega) (key _ hl i hi ?_ _ ?_)
    · rw [rd_get (by omega), List.getElem_append_right (by rw [tab_len]; omega)]; simp
    · rw [show n - i = (n - (i + 1)) + 1 by omega, List.replicate_succ, List.set_append_right _ _ (by rw [tab_len]; omega), tab_len, Nat.sub_self, List.set_cons_zero]
      rw [tab_succ, List.append_assoc] at ih
      exact ih
theorem pwSwings_ev (n i : Nat) (hn : n ≤ 9) (hi : i < n) (g : Nat → Bool) : Ev (fun k => spec_pwSwings.f k (tabB g (2 ^ n)) (i : Int)) (((List.range (2 ^ n)).filter (swB g i)).map fun (x : Nat) => (x : Int)) := by
  have hp := (pow_lt9 hi hn).2
  have hp1 := (pow_lt9 hi hn).1
  unfold spec_pwSwings.f
  have := ev_rangeS (2 ^ n) (fun k j (y : List Int) => spec_pwSwings.l0 k (tabB g (2 ^ n)) (i : Int) y (tabB g (2 ^ n)) ((2 ^ n : Nat) : Int) (j : Int)) (fun j y => y ++ (((List.range (2 ^ n)).drop j).filter (swB g i)).map fun (x : Nat) => (x : Int))
      (fun j y => y.length ≤ j) ?_ ?_ 0 ([] : List Int) (Nat.zero_le _) (Nat.le_refl _)
  · simpa [tabB_len] using this
  · intro y _
    refine ev_succ ?_
    simp only [spec_pwSwings.l0]
    exact ev_neg (Int.lt_irrefl _) (ev_eqv (Ev.now _) (by rw [List.drop_of_length_le (by simp)]; simp))
  · intro j y hj hy ih
    refine ev_succ ?_
    simp only [spec_pwSwings.l0, tabB_len]
    have hd : (List.range (2 ^ n)).drop j = j :: (List.range (2 ^ n)).drop (j + 1) := by rw [List.drop_eq_getElem_cons (by simpa using hj), List.getElem_range]
    rw [hd, List.filter_cons]
    refine ev_pos (by omega) (ev_pos (by omega) (ev_pos (by omega) (ev_pos (by omega) ?_)))
    rw [wrap_succ hj (by omega), rdOf_tab hj]
    refine ev_ite (fun hb => ?_) (fun hb => ?_)
    · rw [tmod_bit j i (by omega)] at hb
      refine ev_bool (fun e => ?_) (fun e => ?_)
      · rw [if_neg (by simp [swB, e])]; exact ih y (by omega)
      · have hw : wrap64 ((j : Int) + shl .i64 1 (i : Int)) = ((j + 2 ^ i : Nat) : Int) := by
          rw [shl_one_nat i (by omega)]
          generalize 2 ^ i = q at *
          unfold wrap64; omega
        have hl := add_lt j i n hn hj hi hb
        rw [hw, rdOf_tab hl]
        refine ev_pos (Int.natCast_nonneg _) (ev_pos (Int.ofNat_lt.2 hl) (ev_bool (fun e2 => ?_) (fun e2 => ?_)))
        · refine ev_pos (by omega) (ev_eqv (ih (y ++ [(j : Int)]) (by simp; omega)) ?_)
          rw [if_pos (by simp [swB, e, hb, e2]), List.map_cons, List.append_assoc]; rfl
        · rw [if_neg (by simp [swB, e2])]; exact ih y (by omega)
    · rw [tmod_bit j i (by omega), Bool.not_eq_false] at hb
      rw [if_neg (by simp [swB, hb])]; exact ih y (by omega)
theorem rest_lt (n M : Nat) : 2 ^ n - 1 - M < 2 ^ n := by
  have : 1 ≤ 2 ^ n := Nat.one_le_two_pow
  generalize 2 ^ n = N at *
  omega
def tellA (k a : Int) (g : Nat → Bool) (N : Nat) : Int :=
  if k = 1 then cntB g N 0 else if k = 4 then (if properB g N = true then 1 else 0) else if k = 5 then (if strongB g N = true then 1 else 0) else a
def tellB (k a : Int) (g : Nat → Bool) (N : Nat) : Int :=
  if k = 0 then (if g a.toNat = true then 1 else 0) else if k = 2 then (if g (N - 1 - 2 ^ a.toNat) = true then 0 else 1) else if k = 3 then cntB (swB g a.toNat) N 0 else 0
def AskOk (n : Nat) (k a : Int) : Prop := (k = 0 → 0 ≤ a ∧ a < ((2 ^ n : Nat) : Int)) ∧ (k = 2 → 0 ≤ a ∧ a < (n : Int)) ∧ (k = 3 → 0 ≤ a ∧ a < (n : Int))
theorem clueOk_ask {n : Nat} {k a b : Int} (h : clueOk (n : Int) k a b = true) : AskOk n k a := by
  unfold clueOk at h
  refine ⟨?_, ?_, ?_⟩
  · rintro rfl
    rw [if_pos rfl, Bool.and_eq_true, inB_iff, Int.toNat_natCast] at h
    refine ⟨h.1.1, ?_⟩
    have := h.1.2
    push_cast
    omega
  · rintro rfl
    rw [if_neg (by decide), if_neg (by decide), if_pos rfl, Bool.and_eq_true, inB_iff] at h
    omega
  · rintro rfl
    rw [if_neg (by decide), if_neg (by decide), if_neg (by decide), if_pos rfl, Bool.and_eq_true, inB_iff] at h
    omega
theorem told_ev (n : Nat) (h : 1 ≤ n ∧ n ≤ 9) (g : Nat → Bool) (k a : Int) (hk : 0 ≤ k ∧ k ≤ 5) (ha : AskOk n k a) :
    Ev (fun r => impl_votes_told.f r (n : Int) (tabB g (2 ^ n)) k a) (k, if k = 0 ∨ k = 1 ∨ k = 2 ∨ k = 3 ∨ k = 4 ∨ k = 5 then tellA k a g (2 ^ n) else 0, tellB k a g (2 ^ n)) := by
  have hm : 1 ≤ (n : Int) ∧ (n : Int) ≤ 9 := by omega
  have e0 : (n : Int).toNat = n := Int.toNat_natCast n
  have hj : ∀ x y z : Int, Ev (fun r => impl_votes_told.j0 r x y z) (x, y, z) := fun x y z => by
    refine ev_succ ?_
    simp only [impl_votes_told.j0]
    exact Ev.now _
  have hp : 2 ^ n ≤ 512 := Nat.pow_le_pow_right (n := 2) (by decide) (show n ≤ 9 by omega)
  unfold impl_votes_told.f
  have hcase : k = 0 ∨ k = 1 ∨ k = 2 ∨ k = 3 ∨ k = 4 ∨ k = 5 := by omega
  rw [if_pos hcase]
  rcases hcase with rfl | rfl | rfl | rfl | rfl | rfl
  · obtain ⟨h0, h1⟩ := ha.1 rfl
    obtain ⟨x, rfl⟩ := Int.eq_ofNat_of_zero_le h0
    have hx : x < 2 ^ n := by exact_mod_cast h1
    refine ev_pos rfl (ev_pos h0 (ev_pos (by rw [tabB_len]; exact h1) ?_))
    rw [rdOf_tab hx]
    refine ev_bindS (oneIf_eq _) (ev_eqv (hj _ _ _) ?_)
    unfold tellA tellB
    simp
  · refine ev_neg (by decide) (ev_pos rfl (Ev.bind (countWins_ev _ g _ hp) (ev_eqv (hj _ _ _) ?_)))
    unfold tellA tellB
    simp
  · obtain ⟨h0, h1⟩ := ha.2.1 rfl
    obtain ⟨x, rfl⟩ := Int.eq_ofNat_of_zero_le h0
    have hx : x < n := by exact_mod_cast h1
    have hq := (pow_lt9 hx h.2).1
    have hr := rest_mask (n : Int) hm (2 ^ x) (by rw [e0]; exact hq)
    have hall := all_eq (n : Int) (tabB g (2 ^ n)) hm
    rw [e0] at hr hall
    refine ev_neg (by decide) (ev_neg (by decide) (ev_pos rfl (ev_bindS hall (ev_pos h0 ?_))))
    rw [shl_one_nat x (by omega), hr, tabB_len]
    refine ev_pos (Int.natCast_nonneg _) (ev_pos (Int.ofNat_lt.2 (rest_lt n _)) ?_)
    rw [rdOf_tab (rest_lt n (2 ^ x))]
    refine ev_bindS (oneIf_eq _) (ev_eqv (hj _ _ _) ?_)
    unfold tellA tellB
    simp
    by_cases hg : g (2 ^ n - 1 - 2 ^ x) = true <;> simp [hg]
  · obtain ⟨h0, h1⟩ := ha.2.2 rfl
    obtain ⟨x, rfl⟩ := Int.eq_ofNat_of_zero_le h0
    have hx : x < n := by exact_mod_cast h1
    have hs := swings_ev (n : Int) hm g
    rw [e0] at hs
    refine ev_neg (by decide) (ev_neg (by decide) (ev_neg (by decide) (ev_pos rfl (Ev.bind hs (ev_pos h0 (ev_pos (by rw [tab_len]; exact h1) (ev_eqv (hj _ _ _) ?_)))))))
    rw [rd_get (by rw [tab_len]; exact hx), tab_get]
    unfold tellA tellB
    simp
  · have hs := isProper_ev (n : Int) hm g
    rw [e0] at hs
    refine ev_neg (by decide) (ev_neg (by decide) (ev_neg (by decide) (ev_neg (by decide) (ev_pos rfl (Ev.bind hs (ev_bindS (oneIf_eq _) (ev_eqv (hj _ _ _) ?_)))))))
    unfold tellA tellB
    simp
  · have hs := isStrong_ev (n : Int) hm g
    rw [e0] at hs
    refine ev_neg (by decide) (ev_neg (by decide) (ev_neg (by decide) (ev_neg (by decide) (ev_neg (by decide) (ev_pos rfl (Ev.bind hs (ev_bindS (oneIf_eq _) (ev_eqv (hj _ _ _) ?_))))))))
    unfold tellA tellB
    simp
def tellV (k a : Int) (g : Nat → Bool) (N : Nat) : Int := if k = 1 ∨ 3 < k then tellA k a g N else tellB k a g N
theorem pzValue_ev (n : Nat) (h : 1 ≤ n ∧ n ≤ 9) (g : Nat → Bool) (k a : Int) (hk : 0 ≤ k ∧ k ≤ 5) (ha : AskOk n k a) : Ev (fun r => spec_pzValue.f r k a (tabB g (2 ^ n))) (tellV k a g (2 ^ n)) := by
  have hp : 2 ^ n ≤ 512 := Nat.pow_le_pow_right (n := 2) (by decide) (show n ≤ 9 by omega)
  have h1p : 1 ≤ 2 ^ n := Nat.one_le_two_pow
  unfold spec_pzValue.f
  rw [tabB_len]
  have hw : wrap64 (((2 ^ n : Nat) : Int) - 1) = ((2 ^ n - 1 : Nat) : Int) := by
    generalize 2 ^ n = N at *
    unfold wrap64; omega
  rw [hw]
  have hcase : k = 0 ∨ k = 1 ∨ k = 2 ∨ k = 3 ∨ (k = 4 ∨ k = 5) := by omega
  rcases hcase with rfl | rfl | rfl | rfl | hk45
  · obtain ⟨h0, h1⟩ := ha.1 rfl
    obtain ⟨x, rfl⟩ := Int.eq_ofNat_of_zero_le h0
    have hx : x < 2 ^ n := by exact_mod_cast h1
    refine ev_pos rfl (ev_pos h0 (ev_pos h1 ?_))
    rw [rdOf_tab hx]
    refine ev_bindS (pzOne_eq _) (ev_eqv (Ev.now _) ?_)
    simp [tellV, tellB]
  · exact ev_neg (by decide) (ev_pos rfl (ev_eqv (pzValue_l0 g _ hp) (by simp [tellV, tellA])))
  · obtain ⟨h0, h1⟩ := ha.2.1 rfl
    obtain ⟨x, rfl⟩ := Int.eq_ofNat_of_zero_le h0
    have hx : x < n := by exact_mod_cast h1
    have hq := (pow_lt9 hx h.2).1
    have hw2 : wrap64 (((2 ^ n - 1 : Nat) : Int) - shl .i64 1 (x : Int)) = ((2 ^ n - 1 - 2 ^ x : Nat) : Int) := by
      rw [shl_one_nat x (by omega)]
      generalize 2 ^ n = N at *
      generalize 2 ^ x = M at *
      unfold wrap64; omega
    refine ev_neg (by decide) (ev_neg (by decide) (ev_pos rfl (ev_pos h0 ?_)))
    rw [hw2]
    refine ev_pos (Int.natCast_nonneg _) (ev_pos (Int.ofNat_lt.2 (rest_lt n _)) ?_)
    rw [rdOf_tab (rest_lt n (2 ^ x))]
    refine ev_bindS (pzOne_eq _) (ev_eqv (Ev.now _) ?_)
    simp [tellV, tellB]
    by_cases hg : g (2 ^ n - 1 - 2 ^ x) = true <;> simp [hg]
  · obtain ⟨h0, h1⟩ := ha.2.2 rfl
    obtain ⟨x, rfl⟩ := Int.eq_ofNat_of_zero_le h0
    have hx : x < n := by exact_mod_cast h1
    refine ev_neg (by decide) (ev_neg (by decide) (ev_neg (by decide) (ev_pos rfl (Ev.bind (pwSwings_ev n x h.2 hx g) (ev_eqv (Ev.now _) ?_)))))
    simp [tellV, tellB, cntB]
  · refine ev_neg (by omega) (ev_neg (by omega) (ev_neg (by omega) (ev_neg (by omega) (ev_eqv (pzValue_l1 k hk45 g _ hp h1p) ?_))))
    rcases hk45 with rfl | rfl <;> simp [tellV, tellA]
theorem pzFits_ev (n : Nat) (h : 1 ≤ n ∧ n ≤ 9) (g : Nat → Bool) (k a b : Int) (hk : 0 ≤ k ∧ k ≤ 5) (ha : AskOk n k a) (hb : k = 1 ∨ 3 < k → b = 0) :
    Ev (fun r => spec_pzFits.f r k a b (tabB g (2 ^ n))) (decide (tellA k a g (2 ^ n) = a ∧ tellB k a g (2 ^ n) = b)) := by
  have key : ∀ x, x = decide (k = 1 ∨ 3 < k) → Ev (fun r => spec_pzFits.j0 r (tabB g (2 ^ n)) x k a b) (decide (tellA k a g (2 ^ n) = a ∧ tellB k a g (2 ^ n) = b)) := by
    rintro x rfl
    refine ev_succ ?_
    simp only [spec_pzFits.j0]
    by_cases c : k = 1 ∨ 3 < k
    · refine ev_pos (by simpa using c) (Ev.bind (pzValue_ev n h g k 0 hk ⟨by omega, by omega, by omega⟩) (ev_eqv (Ev.now _) ?_))
      have e1 : tellV k 0 g (2 ^ n) = tellA k a g (2 ^ n) := by
        have : k = 1 ∨ k = 4 ∨ k = 5 := by omega
        rcases this with rfl | rfl | rfl <;> simp [tellV, tellA]
      have e2 : tellB k a g (2 ^ n) = 0 := by
        have : k = 1 ∨ k = 4 ∨ k = 5 := by omega
        rcases this with rfl | rfl | rfl <;> simp [tellB]
      rw [e1, e2, hb c, Bool.eq_iff_iff]; simp
    · refine ev_neg (by simpa using c) (Ev.bind (pzValue_ev n h g k a hk ha) (ev_eqv (Ev.now _) ?_))
      have e1 : tellV k a g (2 ^ n) = tellB k a g (2 ^ n) := by unfold tellV; rw [if_neg c]
      have e2 : tellA k a g (2 ^ n) = a := by
        have : k = 0 ∨ k = 2 ∨ k = 3 := by omega
        rcases this with rfl | rfl | rfl <;> simp [tellA]
      rw [e1, e2, Bool.eq_iff_iff]; simp
  unfold spec_pzFits.f
  exact ev_ite (fun e => key _ (by simp [e])) (fun e => key _ (by simp [e]))
def setK (m : Nat) : List Int := ((List.range 4).filter fun i => m >>> i % 2 == 1).map fun (i : Nat) => (i : Int)
def lookT : Nat → List Bool → Option (List (List Bool))
  | 0, p => some (if rdOf false p ((p.length - 1 : Nat) : Int) = false then [] else if rdOf false p 0 = true then [] else [p])
  | d + 1, p => (mustO p (setK p.length) false).bind fun m => (lookT d (p ++ [true])).bind fun l1 => if m = true then some l1 else (lookT d (p ++ [false])).bind fun l2 => some (l1 ++ l2)
def tabsK (n : Nat) : List (List Bool) := (lookT (2 ^ n) []).getD []
def leastK (t : List Bool) : List (List Int) := sortL lexB (((List.range t.length).filter fun m => t.getD m false && (List.range 4).all fun i => !(m >>> i % 2 == 1 && t.getD (m - 2 ^ i) false)).map setK)
def gamesK (n : Nat) : List (List (List Int)) := sortL lexG ((tabsK n).map leastK)
theorem voList_K : ∀ m : Nat, m < 16 → spec_voList.f 40 (m : Int) = some (setK m) := by decide +kernel
theorem look_K : ∀ n, n < 5 → (lookT (2 ^ n) []).isSome = true := by decide +kernel
theorem gmOf_K : ∀ n : Nat, n < 5 → 1 ≤ n → ∀ t ∈ tabsK n, (spec_gmOf.f 100 n t) = some ((n : Int), leastK t) := by decide +kernel
theorem win_K : ∀ n : Nat, n < 5 → 1 ≤ n → ∀ t ∈ tabsK n, winT n (leastK t) = t := by decide +kernel
theorem games_K1 : (impl_allGames.f 1200 1).map (·.map fun g => (g.f0, g.f1)) = some ((gamesK 1).map fun s => (1, s)) := by decide +kernel
theorem games_K2 : (impl_allGames.f 1200 2).map (·.map fun g => (g.f0, g.f1)) = some ((gamesK 2).map fun s => (2, s)) := by decide +kernel
theorem games_K3 : (impl_allGames.f 1200 3).map (·.map fun g => (g.f0, g.f1)) = some ((gamesK 3).map fun s => (3, s)) := by decide +kernel
theorem games_K4 : (impl_allGames.f 1200 4).map (·.map fun g => (g.f0, g.f1)) = some ((gamesK 4).map fun s => (4, s)) := by decide +kernel
theorem len_K : ∀ n : Nat, n < 5 → 1 ≤ n → ((tabsK n).length ≤ 1000000 ∧ ∀ t ∈ tabsK n, t.length = 2 ^ n) := by decide +kernel
theorem sets_K : ∀ n : Nat, n < 5 → 1 ≤ n → ∀ t ∈ tabsK n, (leastK t).length ≤ 16 ∧ ∀ s ∈ leastK t, isSetB s n = true ∧ s.length ≤ 16 := by decide +kernel
theorem games_K : ∀ n : Nat, n < 5 → 1 ≤ n → (impl_allGames.f 1200 n).map (·.map fun g => (g.f0, g.f1)) = some ((gamesK n).map fun s => ((n : Int), s))
  | 1, _, _ => games_K1
  | 2, _, _ => games_K2
  | 3, _, _ => games_K3
  | 4, _, _ => games_K4
  | n + 5, h, _ => absurd h (by omega)
  | 0, _, h => absurd h (by decide)
theorem any_eq_mem {α : Type} {p q : α → Bool} : ∀ {l : List α}, (∀ x ∈ l, p x = q x) → l.any p = l.any q
  | [], _ => rfl
  | x :: xs, h => by rw [List.any_cons, List.any_cons, h x (List.mem_cons_self ..), any_eq_mem fun y hy => h y (List.mem_cons_of_mem _ hy)]
theorem votesOf_l0 (p : Int → Option Bool) (q : Nat → Bool) (a n : Nat) (m : Int) (hn : n ≤ 1048576) (h : ∀ i, i < n → p (i : Int) = some (q i)) : Ev (fun k => impl_votesOf.l0 p k (n : Int) 0 m (List.replicate n false)) (m, tabB q n) := by
  have := ev_range n (fun k i => impl_votesOf.l0 p k (n : Int) (i : Int) m (tabB q i ++ List.replicate (n - i) false)) (fun _ => (m, tabB q n)) ?_ ?_ 0 (Nat.zero_le _)
  · simpa [tabB] using this
  · refine ev_succ ?_
    simp only [impl_votesOf.l0]
    exact ev_neg (Int.lt_irrefl _) (ev_eqv (Ev.now _) (by simp))
  · intro i hi ih
    refine ev_succ ?_
    simp only [impl_votesOf.l0]
    have hlen : (tabB q i ++ List.replicate (n - i) false).length = n := by rw [List.length_append, tabB_len, List.length_replicate]; omega
    refine ev_pos (by omega) (ev_bindS (h i hi) (ev_pos (by omega) (ev_pos (by rw [hlen]; omega) ?_)))
    rw [wrap_succ hi (Nat.le_trans hn (by decide)), Int.toNat_natCast, show n - i = (n - (i + 1)) + 1 by omega, List.replicate_succ, tabB_set, tabB_next]
    exact ih
theorem votesOf_ev (p : Int → Option Bool) (q : Nat → Bool) (m : Int) (hm : 0 ≤ m ∧ m ≤ 9) (h : ∀ i : Nat, i < 2 ^ m.toNat → p (i : Int) = some (q i)) : Ev (fun k => impl_votesOf.f k m p) (m, tabB q (2 ^ m.toNat)) := by
  have hp : 2 ^ m.toNat ≤ 512 := Nat.pow_le_pow_right (n := 2) (by decide) (show m.toNat ≤ 9 by omega)
  have hs : shl .i64 1 m = ((2 ^ m.toNat : Nat) : Int) := by rw [shl_one m (by omega)]; simp
  have hl0 := votesOf_l0 p q 0 (2 ^ m.toNat) m (by omega) h
  unfold impl_votesOf.f
  refine ev_pos hm.1 ?_
  rw [hs]
  generalize 2 ^ m.toNat = n at *
  have hn2 : (n : Int).toNat ≤ 281474976710656 := by rw [Int.toNat_natCast]; exact Nat.le_trans hp (by decide)
  refine ev_pos (Int.natCast_nonneg n) (ev_pos hn2 (ev_bindS rfl ?_))
  simp only [Int.toNat_natCast, List.length_replicate]
  exact hl0
theorem votesBy_l0 (m : Int) (l : List (List Int)) (hl : l.length ≤ 1048576) (h : SetsOk m l) : Ev (fun k => impl_votesBy.l0 k m l (l.length : Int) 0 []) (m, winT m l) := by
  have := ev_range l.length (fun k i => impl_votesBy.l0 k m l (l.length : Int) (i : Int) ((l.take i).map fun s => ((maskN 0 s : Nat) : Int))) (fun _ => (m, winT m l)) ?_ ?_ 0 (Nat.zero_le _)
  · simpa using this
  · refine ev_succ ?_
    simp only [impl_votesBy.l0]
    refine ev_neg (Int.lt_irrefl _) ?_
    rw [List.take_length]
    unfold votesOf_votesBy.f
    refine Ev.bind (votesOf_ev _ (winB l) m (by have := h.1; omega) (fun i hi => ?_)) (Ev.now _)
    have hp := pow_le512 h.1
    rw [anyO_some (q := fun x => Go.bits .and .i64 (i : Int) x == x) (fun _ _ => rfl), List.any_map]
    congr 1
    unfold winB
    refine any_eq_mem fun s hs => ?_
    obtain ⟨j, hj, rfl⟩ := List.mem_iff_getElem.1 hs
    have hlt := h.lt hj
    unfold mk at hlt
    rw [getD_get hj] at hlt
    exact and_self_nat (by omega) hlt
  · intro i hi ih
    refine ev_succ ?_
    simp only [impl_votesBy.l0]
    refine ev_pos (by omega) (ev_pos (by omega) (ev_pos (by omega) ?_))
    rw [rdL1_get hi, wrap_succ hi (Nat.le_trans hl (by decide))]
    have hm := (h.masks hi).1
    have hk : mk l i = maskN 0 l[i] := by unfold mk; rw [getD_get hi]
    rw [hk] at hm
    refine Ev.bind hm (ev_pos (by rw [List.length_map, List.length_take]; omega) ?_)
    rw [List.take_succ_eq_append_getElem hi, List.map_append] at ih
    exact ih
theorem votesBy_ev (m : Int) (l : List (List Int)) (hl : l.length ≤ 1048576) (h : SetsOk m l) : Ev (fun k => impl_votesBy.f k m l) (m, winT m l) := by
  unfold impl_votesBy.f
  exact votesBy_l0 m l hl h
theorem Game_votes_ev (m : Int) (l : List (List Int)) (hl : l.length ≤ 1048576) (h : SetsOk m l) : Ev (fun k => impl_Game_votes.f k m l) (m, winT m l) := by
  unfold impl_Game_votes.f
  exact Ev.bind (votesBy_ev m l hl h) (Ev.now _)
def mkG (n : Nat) (s : List (List Int)) : S46 := ⟨(n : Int), s⟩
def fitC (n : Nat) (t : List Bool) (c : S72) : Bool := decide (tellA c.f0 c.f1 (fun i => t.getD i false) (2 ^ n) = c.f1 ∧ tellB c.f0 c.f1 (fun i => t.getD i false) (2 ^ n) = c.f2)
def fitA (n : Nat) (l : List S72) (t : List Bool) : Bool := l.all (fitC n t)
def solsK (n : Nat) (l : List S72) : List (List (List Int)) := (gamesK n).filter fun s => fitA n l (winT n s)
def CluesOk (n : Nat) (l : List S72) : Prop := ∀ c ∈ l, clueOk (n : Int) c.f0 c.f1 c.f2 = true
theorem tab_self {N : Nat} (t : List Bool) (h : t.length = N) : tabB (fun i => t.getD i false) N = t := by
  refine List.ext_getElem (by rw [tabB_len, h]) fun i h1 h2 => ?_
  rw [tabB_get, getD_get h2]
theorem clueOk_kind {n k a b : Int} (h : clueOk n k a b = true) : (0 ≤ k ∧ k ≤ 5) ∧ (k = 1 ∨ 3 < k → b = 0) := by
  unfold clueOk at h
  split at h
  · omega
  split at h
  · simp at h; omega
  split at h
  · omega
  split at h
  · omega
  split at h
  · simp at h; omega
  split at h
  · simp at h; omega
  · cases h
theorem fitC_ev {n : Nat} (hn : 1 ≤ n ∧ n ≤ 9) (t : List Bool) (ht : t.length = 2 ^ n) (c : S72) (hc : clueOk (n : Int) c.f0 c.f1 c.f2 = true) : Ev (fun k => spec_pzFits.f k c.f0 c.f1 c.f2 t) (fitC n t c) := by
  obtain ⟨hk, hk2⟩ := clueOk_kind hc
  have := pzFits_ev n hn (fun i => t.getD i false) c.f0 c.f1 c.f2 hk (clueOk_ask hc) hk2
  rwa [tab_self t ht] at this
theorem fitsO_ev {n : Nat} (hn : 1 ≤ n ∧ n ≤ 9) (t : List Bool) (ht : t.length = 2 ^ n) : ∀ (l : List S72), CluesOk n l → Ev (fun k => fitsO k t l) (fitA n l t)
  | [], _ => Ev.now _
  | c :: l, h => by
    have h1 := fitC_ev hn t ht c (h c (List.mem_cons_self ..))
    have h2 := fitsO_ev hn t ht l (fun x hx => h x (List.mem_cons_of_mem _ hx))
    unfold fitA
    rw [List.all_cons]
    refine Ev.bind h1 (ev_bool (fun e => ?_) (fun e => ?_))
    · rw [e]; exact h2
    · rw [e]; exact Ev.now _
theorem look_ev {n : Nat} (hn : 1 ≤ n ∧ n < 5) (l : List S72) (hl : CluesOk n l) : ∀ (d : Nat) (p : List Bool) (ts : List (List Bool)), p.length + d ≤ 16 → lookT d p = some ts → (∀ t ∈ ts, t ∈ tabsK n) →
    Ev (fun k => spec_pzLook.f k n l d p) ((ts.filter (fitA n l)).map fun t => mkG n (leastK t))
  | 0, p, ts, _, h, hm => by
    unfold lookT at h
    obtain rfl := Option.some.inj h
    unfold spec_pzLook.f
    by_cases h1 : rdOf false p ((p.length - 1 : Nat) : Int) = false
    · refine ev_pos h1 (ev_eqv (Ev.now _) ?_)
      rw [if_pos h1]; rfl
    · refine ev_neg h1 ?_
      rw [if_neg h1] at hm ⊢
      by_cases h2 : rdOf false p 0 = true
      · refine ev_pos h2 (ev_eqv (Ev.now _) ?_)
        rw [if_pos h2]; rfl
      · refine ev_neg h2 ?_
        rw [if_neg h2] at hm ⊢
        have hp := hm p (List.mem_singleton.2 rfl)
        refine Ev.bind (fitsO_ev (n := n) ⟨hn.1, by omega⟩ p ((len_K n hn.2 hn.1).2 p hp) l hl) (ev_bool (fun e => ?_) (fun e => ?_))
        · refine Ev.bind (Ev.of (spec_gmOf.mono _ _) (gmOf_K n hn.2 hn.1 p hp)) (ev_eqv (Ev.now _) ?_)
          rw [List.filter_cons_of_pos e]; rfl
        · rw [List.filter_cons_of_neg (by rw [e]; decide)]; exact Ev.now _
  | d + 1, p, ts, hd, h, hm => by
    unfold lookT at h
    obtain ⟨m, hmu, h⟩ := Option.bind_eq_some_iff.mp h
    obtain ⟨l1, h1, h⟩ := Option.bind_eq_some_iff.mp h
    unfold spec_pzLook.f
    refine Ev.bind (Ev.of (spec_voList.mono _) (voList_K p.length (by omega))) (ev_bindS hmu ?_)
    cases m with
    | true =>
      rw [if_pos rfl] at h
      obtain rfl := Option.some.inj h
      exact Ev.bind (look_ev hn l hl d (p ++ [true]) l1 (by rw [List.length_append, List.length_singleton]; omega) h1 hm) (ev_pos rfl (Ev.now _))
    | false =>
      rw [if_neg (by decide)] at h
      obtain ⟨l2, h2, h⟩ := Option.bind_eq_some_iff.mp h
      obtain rfl := Option.some.inj h
      refine Ev.bind (look_ev hn l hl d (p ++ [true]) l1 (by rw [List.length_append, List.length_singleton]; omega) h1 (fun t ht => hm t (List.mem_append_left _ ht))) (ev_neg (by decide) (Ev.bind (look_ev hn l hl d (p ++ [false]) l2 (by rw [List.length_append, List.length_singleton]; omega) h2 (fun t ht => hm t (List.mem_append_right _ ht))) (ev_eqv (Ev.now _) ?_)))
      rw [List.filter_append, List.map_append]
theorem gmBefore_ev (a b : Int) (l1 l2 : List (List Int)) (h1 : l1.length ≤ 1048576) (hx : ∀ x ∈ l1, x.length ≤ 1048576) (hy : ∀ x ∈ l2, x.length ≤ 1048576) : Ev (fun k => spec_gmBefore.f k a l1 b l2) (lexG l1 l2) := by
  unfold spec_gmBefore.f
  have := ev_range l1.length (fun k i => spec_gmBefore.l0 k l1 (l1.length : Int) (i : Int) a l1 b l2) (fun i => lexG (l1.drop i) (l2.drop i)) ?_ ?_ 0 (Nat.zero_le _)
  · simpa using this
  · refine ev_succ ?_
    simp only [spec_gmBefore.l0]
    refine ev_neg (by omega) (ev_eqv (Ev.now _) ?_)
    rw [drop_end]
    by_cases h : l1.length < l2.length
    · rw [List.drop_eq_getElem_cons h]; exact decide_eq_true (by omega)
    · rw [List.drop_of_length_le (Nat.le_of_not_lt h)]; exact decide_eq_false (by omega)
  · intro i hi ih
    refine ev_succ ?_
    simp only [spec_gmBefore.l0]
    refine ev_pos (by omega) (ev_pos (by omega) (ev_pos (by omega) ?_))
    rw [List.drop_eq_getElem_cons hi]
    by_cases h : i < l2.length
    · refine ev_neg (by omega) (ev_pos (by omega) ?_)
      rw [rdL1_get hi, rdL1_get h, wrap_succ hi (Nat.le_trans h1 (by decide)), List.drop_eq_getElem_cons h]
      refine Ev.bind (voBefore_ev _ _ (Nat.le_trans (hx _ (List.getElem_mem hi)) (by decide))) (ev_bool (fun e => ?_) (fun e => ?_))
      · refine ev_eqv (Ev.now _) ?_
        unfold lexG
        rw [if_neg (fun e2 => by rw [e2, lexB_irrefl] at e; cases e)]
        exact e.symm
      · refine Ev.bind (voBefore_ev _ _ (Nat.le_trans (hy _ (List.getElem_mem h)) (by decide))) (ev_bool (fun e2 => ?_) (fun e2 => ?_))
        · refine ev_eqv (Ev.now _) ?_
          unfold lexG
          rw [if_neg (fun e3 => by rw [e3, lexB_irrefl] at e2; cases e2)]
          exact e.symm
        · have := lexB_total _ _ e e2
          unfold lexG
          rw [if_pos this]
          exact ih
    · rw [List.drop_of_length_le (Nat.le_of_not_lt h)]
      exact ev_pos (by omega) (Ev.now _)
theorem sortL_map {α β : Type} (lt : α → α → Bool) (lt' : β → β → Bool) (f : α → β) (h : ∀ a b, lt' (f a) (f b) = lt a b) (l : List α) : sortL lt' (l.map f) = (sortL lt l).map f := by
  have hi : ∀ x (ys : List α), insL lt' (f x) (ys.map f) = (insL lt x ys).map f := by
    intro x ys
    induction ys with
    | nil => rfl
    | cons y ys ih =>
      simp only [List.map_cons, insL, h]
      split
      · rw [ih]; rfl
      · rfl
  have : ∀ (l out : List α), (l.map f).foldl (fun out x => insL lt' x out) (out.map f) = (l.foldl (fun out x => insL lt x out) out).map f := by
    intro l
    induction l with
    | nil => intro out; rfl
    | cons x l ih => intro out; simp only [List.map_cons, List.foldl_cons]; rw [hi]; exact ih _
  exact this l []
def posL {α : Type} (lt : α → α → Bool) (x : α) : List α → Nat
  | [] => 0
  | y :: ys => if lt y x = true then posL lt x ys + 1 else 0
theorem insL_pos {α : Type} (lt : α → α → Bool) (x : α) : ∀ l, l.take (posL lt x l) ++ [x] ++ l.drop (posL lt x l) = insL lt x l
  | [] => rfl
  | y :: ys => by
    have ih := insL_pos lt x ys
    unfold posL insL
    by_cases h : lt y x = true
    · simp only [if_pos h, List.take_succ_cons, List.drop_succ_cons, List.cons_append]; rw [ih]
    · simp only [if_neg h]; rfl
def ltG (a b : S46) : Bool := lexG a.f1 b.f1
def GOk (g : S46) : Prop := g.f1.length ≤ 1048576 ∧ ∀ x ∈ g.f1, x.length ≤ 1048576
theorem pzPos_ev (g : S46) (hg : GOk g) : ∀ (l : List S46) (i : Nat), (∀ x ∈ l, GOk x) → Ev (fun k => pzPos k g l i) (i + posL ltG g l)
  | [], _, _ => Ev.now _
  | x :: xs, i, h => by
    have hx := h x (List.mem_cons_self ..)
    unfold pzPos posL
    refine Ev.bind (gmBefore_ev _ _ _ _ hx.1 hx.2 hg.2) (ev_bool (fun e => ?_) (fun e => ?_))
    · have e' : ltG x g = true := e
      rw [if_pos e']
      exact ev_eqv (pzPos_ev g hg xs (i + 1) (fun y hy => h y (List.mem_cons_of_mem _ hy))) (by omega)
    · have e' : ¬ ltG x g = true := by rw [show ltG x g = false from e]; decide
      rw [if_neg e']; exact Ev.now _
theorem pzSort_ev : ∀ (gs outs : List S46), (∀ x ∈ gs, GOk x) → (∀ x ∈ outs, GOk x) → Ev (fun k => pzSort k gs outs) (gs.foldl (fun out x => insL ltG x out) outs)
  | [], _, _, _ => Ev.now _
  | g :: gs, outs, h, ho => by
    have hg := h g (List.mem_cons_self ..)
    unfold pzSort pzIns
    refine Ev.bind (Ev.bind (ev_eqv (pzPos_ev g hg outs 0 ho) (Nat.zero_add _)) (Ev.now _)) ?_
    rw [insL_pos, List.foldl_cons]
    exact pzSort_ev gs _ (fun x hx => h x (List.mem_cons_of_mem _ hx)) (fun x hx => by
      rcases List.mem_cons.1 ((insL_perm ltG g outs).mem_iff.1 hx) with rfl | h2
      · exact hg
      · exact ho x h2)
theorem solsK_eq {n : Nat} (hn : 1 ≤ n ∧ n < 5) (l : List S72) : sortL ltG (((tabsK n).filter (fitA n l)).map fun t => mkG n (leastK t)) = (solsK n l).map (mkG n) := by
  have e : (((tabsK n).filter (fitA n l)).map fun t => mkG n (leastK t)) = (((tabsK n).map leastK).filter fun s => fitA n l (winT n s)).map (mkG n) := by
    rw [List.filter_map, List.map_map]
    refine congrArg _ (List.filter_congr fun t ht => ?_)
    show fitA n l t = fitA n l (winT n (leastK t))
    rw [win_K n hn.2 hn.1 t ht]
  rw [e, sortL_map lexG ltG (mkG n) (fun _ _ => rfl), sort_filter lexG lexG_ntrans (fun _ _ => lexG_asymm) lexG_total]
  rfl
theorem look_some {n : Nat} (hn : n < 5) : lookT (2 ^ n) [] = some (tabsK n) := by
  have h := look_K n hn
  unfold tabsK
  cases e : lookT (2 ^ n) [] with
  | none => rw [e] at h; cases h
  | some ts => rfl
theorem leastK_ok {n : Nat} (hn : 1 ≤ n ∧ n < 5) {t : List Bool} (ht : t ∈ tabsK n) : GOk (mkG n (leastK t)) := by
  have h := sets_K n hn.2 hn.1 t ht
  exact ⟨Nat.le_trans h.1 (by decide), fun x hx => Nat.le_trans (h.2 x hx).2 (by decide)⟩
theorem pzAll_ev {n : Nat} (hn : 1 ≤ n ∧ n < 5) (l : List S72) (hl : CluesOk n l) : Ev (fun k => spec_pzAll.f k n l) ((solsK n l).map (mkG n)) := by
  unfold spec_pzAll.f
  have h4 : 2 ^ n ≤ 16 := Nat.pow_le_pow_right (n := 2) (by decide) (show n ≤ 4 by omega)
  refine ev_pos (by omega) ?_
  rw [Int.toNat_natCast]
  refine Ev.bind (look_ev hn l hl (2 ^ n) [] (tabsK n) (by simpa using h4) (look_some hn.2) (fun _ h => h)) (ev_pos ?_ (ev_eqv (pzSort_ev _ [] ?_ ?_) (solsK_eq hn l)))
  · rw [List.length_map]
    exact Nat.le_trans (List.length_filter_le _ _) (len_K n hn.2 hn.1).1
  · intro x hx
    obtain ⟨t, ht, rfl⟩ := List.mem_map.1 hx
    exact leastK_ok hn (List.mem_filter.1 ht).1
  · intro x hx; cases hx
theorem allGames_ev {n : Nat} (hn : 1 ≤ n ∧ n < 5) : Ev (fun k => impl_allGames.f k n) ((gamesK n).map (mkG n)) := by
  have h := games_K n hn.2 hn.1
  cases e : impl_allGames.f 1200 n with
  | none => rw [e] at h; cases h
  | some gs =>
    rw [e] at h
    have h2 := Option.some.inj h
    have : gs = (gamesK n).map (mkG n) := by
      have h3 := congrArg (List.map fun (p : Int × List (List Int)) => (⟨p.1, p.2⟩ : S46)) h2
      rw [List.map_map, List.map_map] at h3
      rw [show (gs.map ((fun (p : Int × List (List Int)) => (⟨p.1, p.2⟩ : S46)) ∘ fun g => (g.f0, g.f1))) = gs from (List.map_congr_left (fun _ _ => rfl)).trans (List.map_id _)] at h3
      exact h3
    rw [← this]
    exact Ev.of (impl_allGames.mono _) e
theorem gamesK_mem {n : Nat} {s : List (List Int)} (h : s ∈ gamesK n) : ∃ t ∈ tabsK n, s = leastK t := by
  obtain ⟨t, ht, rfl⟩ := List.mem_map.1 ((sortL_perm lexG _).mem_iff.1 h)
  exact ⟨t, ht, rfl⟩
theorem gamesK_sets {n : Nat} (hn : 1 ≤ n ∧ n < 5) {s : List (List Int)} (h : s ∈ gamesK n) : s.length ≤ 1048576 ∧ SetsOk n s := by
  obtain ⟨t, ht, rfl⟩ := gamesK_mem h
  have h := sets_K n hn.2 hn.1 t ht
  exact ⟨Nat.le_trans h.1 (by decide), ⟨by omega, fun x hx => ⟨(h.2 x hx).1, Nat.le_trans (h.2 x hx).2 (by decide)⟩⟩⟩
theorem solP_ev {n : Nat} (hn : 1 ≤ n ∧ n < 5) (l : List S72) (hl : CluesOk n l) (s : List (List Int)) (hs : s ∈ gamesK n) : Ev (fun k => solP k l (mkG n s)) (!fitA n l (winT n s)) := by
  obtain ⟨h1, h2⟩ := gamesK_sets hn hs
  unfold solP
  refine Ev.bind (Game_votes_ev (n : Int) s h1 h2) ?_
  have e : (!fitA n l (winT n s)) = l.any fun c => !fitC n (winT n s) c := by
    unfold fitA; rw [List.not_all_eq_any_not]
  rw [e]
  refine ev_anyO _ _ l fun c hc => ?_
  obtain ⟨hk, hk2⟩ := clueOk_kind (hl c hc)
  have ht := told_ev n ⟨hn.1, by omega⟩ (fun i => (winT n s).getD i false) c.f0 c.f1 hk (clueOk_ask (hl c hc))
  rw [if_pos (show c.f0 = 0 ∨ c.f0 = 1 ∨ c.f0 = 2 ∨ c.f0 = 3 ∨ c.f0 = 4 ∨ c.f0 = 5 by omega), tab_self (winT n s) (by unfold winT; rw [tabB_len, Int.toNat_natCast])] at ht
  unfold impl_solutions_1_1.f
  refine Ev.bind ht (ev_eqv (Ev.now _) ?_)
  unfold fitC
  rw [Bool.eq_iff_iff]
  simp [Decidable.not_and_iff_or_not]
theorem filO_ev {α : Type} (p : Nat → α → Option Bool) (q : α → Bool) : ∀ l : List α, (∀ x ∈ l, Ev (fun k => p k x) (!q x)) → Ev (fun k => filO (p k) l) (l.filter q)
  | [], _ => Ev.now _
  | x :: xs, h => by
    unfold filO
    refine Ev.bind (h x (List.mem_cons_self ..)) (Ev.bind (filO_ev p q xs (fun y hy => h y (List.mem_cons_of_mem _ hy))) (ev_eqv (Ev.now _) ?_))
    cases e : q x
    · rw [List.filter_cons_of_neg (by rw [e]; decide)]; rfl
    · rw [List.filter_cons_of_pos e]; rfl
theorem solutions_ev {n : Nat} (hn : 1 ≤ n ∧ n < 5) (l : List S72) (hl : CluesOk n l) : Ev (fun k => impl_solutions.f k n l) ((solsK n l).map (mkG n)) := by
  unfold impl_solutions.f
  refine Ev.bind (allGames_ev hn) (ev_pos ?_ ?_)
  · rw [List.length_map]
    unfold gamesK
    rw [(sortL_perm lexG _).length_eq, List.length_map]
    exact (len_K n hn.2 hn.1).1
  · refine ev_eqv (filO_ev (fun k => solP k l) (fun g => fitA n l (winT n g.f1)) _ ?_) ?_
    · intro x hx
      obtain ⟨s, hs, rfl⟩ := List.mem_map.1 hx
      exact solP_ev hn l hl s hs
    · rw [List.filter_map]; rfl
deriving instance DecidableEq for S72
theorem rdI_get {xs : List S72} {i : Nat} (h : i < xs.length) : rd_T72 xs (i : Int) = xs[i] := by unfold rd_T72; rw [Int.toNat_natCast]; exact getD_get h
theorem eqClue_eq (x y : S72) : laws_eqClue.f x.f0 x.f1 x.f2 y.f0 y.f1 y.f2 = some (decide (x = y)) := by
  unfold laws_eqClue.f
  obtain ⟨a, b, c⟩ := x
  obtain ⟨d, e, f⟩ := y
  simp only [S72.mk.injEq]
  repeat' split
  all_goals simp_all
theorem eqClueS_ev (a b : List S72) (ha : a.length ≤ 1152921504606) : Ev (fun k => laws_eqClueS.f k a b) (decide (a = b)) := by
  unfold laws_eqClueS.f
  by_cases hl : a.length = b.length
  · refine ev_pos (by omega) ?_
    refine ev_range a.length (fun k i => laws_eqClueS.l0 k a b (i : Int)) (fun i => decide (a.drop i = b.drop i)) ?_ ?_ 0 (Nat.zero_le _)
    · refine ev_succ ?_
      simp only [laws_eqClueS.l0]
      refine ev_neg (by omega) (ev_eqv (Ev.now _) ?_)
      rw [List.drop_of_length_le (by omega), List.drop_of_length_le (by omega)]; simp
    · intro i hi ih
      have h2 : i < b.length := by omega
      refine ev_succ ?_
      simp only [laws_eqClueS.l0]
      refine ev_pos (by omega) (ev_pos (by omega) (ev_pos (by omega) ?_))
      rw [rdI_get hi, rdI_get h2, eqClue_eq, wrap_succ hi (by omega), eq_drop a b i hi h2]
      refine ev_bool (fun h => ?_) (fun h => ?_)
      · rw [h]; exact ih
      · rw [h]; exact Ev.now _
  · refine ev_neg (by omega) (ev_eqv (Ev.now false) ?_)
    exact (decide_eq_false fun e => hl (by rw [e])).symm
theorem eqPuzzle_ev (m n : Int) (a b : List S72) (ha : a.length ≤ 1152921504606) : Ev (fun k => laws_eqPuzzle.f k m a n b) (decide (m = n ∧ a = b)) := by
  unfold laws_eqPuzzle.f
  by_cases hm : m = n
  · refine ev_pos hm (Ev.bind (eqClueS_ev a b ha) (ev_bool (fun h => ev_eqv (Ev.now _) ?_) (fun h => ev_eqv (Ev.now _) ?_)))
    · exact (decide_eq_true ⟨hm, of_decide_eq_true h⟩).symm
    · exact (decide_eq_false fun e => of_decide_eq_false h e.2).symm
  · exact ev_neg hm (ev_eqv (Ev.now _) (decide_eq_false fun e => hm e.1).symm)
def clueI (x : S79) : S72 := ⟨x.f0, x.f1, x.f2⟩
theorem rdL_get {xs : List S79} {i : Nat} (h : i < xs.length) : rd_T79 xs (i : Int) = xs[i] := by unfold rd_T79; rw [Int.toNat_natCast]; exact getD_get h
theorem toClueS_ev (l : List S79) (hl : l.length ≤ 1152921504606) : Ev (fun k => laws_toClueS.f k l) (l.map clueI) := by
  unfold laws_toClueS.f
  refine ev_pos (by omega) (ev_pos (by omega) ?_)
  rw [Int.toNat_natCast]
  refine ev_range l.length (fun k i => laws_toClueS.l0 k l ((l.take i).map clueI ++ List.replicate (l.length - i) z72) (i : Int)) (fun _ => l.map clueI) ?_ ?_ 0 (Nat.zero_le _)
  · refine ev_succ ?_
    simp only [laws_toClueS.l0]
    exact ev_neg (by omega) (ev_eqv (Ev.now _) (by simp))
  · intro i hi ih
    refine ev_succ ?_
    simp only [laws_toClueS.l0, laws_toClue.f, Option.bind_some]
    refine ev_pos (by omega) (ev_pos (by omega) (ev_pos (by rw [copy_len _ _ _ _ (by omega)]; omega) ?_))
    rw [wrap_succ hi (by omega), Int.toNat_natCast, rdL_get hi, show (⟨l[i].f0, l[i].f1, l[i].f2⟩ : S72) = clueI l[i] from rfl, set_copy clueI _ l i hi]
    exact ih
theorem toPuzzle_ev (m : Int) (l : List S79) (hl : l.length ≤ 1152921504606) : Ev (fun k => laws_toPuzzle.f k m l) (m, l.map clueI) := by
  unfold laws_toPuzzle.f
  exact Ev.bind (toClueS_ev l hl) (Ev.now _)
theorem szPuzzle_eq (m : Int) (l : List S79) (n : Nat) (hn : n ≤ 1048576) (hl : l.length ≤ 9223372036854775807) : ∃ q, laws_szPuzzle.f m l (n : Int) = some q ∧ (¬ q < 0 → l.length ≤ n) := by
  unfold laws_szPuzzle.f laws_szClueS.f
  rw [wrap64_id (by omega)]
  by_cases h : (n : Int) - (l.length : Int) < 0
  · exact ⟨-1, by rw [if_pos h]; rfl, fun h => absurd (by decide) h⟩
  · exact ⟨_, by rw [if_neg h, Option.bind_some, if_neg h], fun _ => by omega⟩
def puzzleOk (m : Int) (l : List S72) : Bool := inB m 1 4 && (decide (l.length ≤ 8) && l.all fun x => clueOk m x.f0 x.f1 x.f2)
theorem pzGood_ev (m : Int) (l : List S72) : Ev (fun k => spec_pzGood.f k m l) (puzzleOk m l) := by
  unfold spec_pzGood.f puzzleOk
  simp only [pzMembers_eq, Option.bind_some]
  refine ev_bool (fun hb => ?_) (fun hb => ?_)
  · rw [hb]
    refine ev_succ ?_
    simp only [spec_pzGood.j0]
    by_cases hl : l.length ≤ 8
    · rw [decide_eq_true hl, decide_eq_false (show ¬ (l.length : Int) > 8 by omega)]
      refine ev_neg (by simp) ?_
      refine ev_range l.length (fun k i => spec_pzGood.l0 k l (l.length : Int) (i : Int) m l) (fun i => (l.drop i).all fun x => clueOk m x.f0 x.f1 x.f2) ?_ ?_ 0 (Nat.zero_le _)
      · refine ev_succ ?_
        simp only [spec_pzGood.l0]
        exact ev_neg (by omega) (ev_eqv (Ev.now _) (by rw [drop_end]; rfl))
      · intro i hi ih
        refine ev_succ ?_
        simp only [spec_pzGood.l0]
        refine ev_pos (by omega) (ev_pos (by omega) (ev_pos (by omega) ?_))
        rw [rdI_get hi, wrap_succ hi (by omega), pzClue_eq _ _ _ _ (inB_iff.1 hb), all_drop _ _ _ hi]
        exact ev_bool (fun h => by rw [h]; exact ih) (fun h => by rw [h]; exact Ev.now _)
    · rw [decide_eq_false hl, decide_eq_true (show (l.length : Int) > 8 by omega)]
      exact ev_pos (by simp) (Ev.now _)
  · rw [hb]
    refine ev_succ ?_
    simp only [spec_pzGood.j0]
    exact ev_pos (by simp) (Ev.now _)
theorem IsPuzzle_eq (m : Int) (l : List S72) : impl_IsPuzzle.f m l = some (puzzleOk m l) := by
  unfold impl_IsPuzzle.f puzzleOk
  rw [isHidden_eq, Option.bind_some]
  refine bind_ite_false fun hb => ?_
  by_cases hl : l.length ≤ 8
  · rw [if_pos (by omega), decide_eq_true hl]
    rw [anyO_some (q := fun x => !clueOk m x.f0 x.f1 x.f2) (fun x _ => by unfold impl_IsPuzzle_1.f; rw [IsClue_eq, hb]; rfl)]
    rw [Option.bind_some, any_not_all]; rfl
  · rw [if_neg (by omega), decide_eq_false hl]; rfl
def solsM (m : Int) (l : List S72) : List S46 := (solsK m.toNat l).map (mkG m.toNat)
theorem puzzleOk_nat {m : Int} {l : List S72} (h : puzzleOk m l = true) : ∃ n : Nat, m = (n : Int) ∧ (1 ≤ n ∧ n < 5) ∧ CluesOk n l ∧ l.length ≤ 8 := by
  unfold puzzleOk at h
  rw [Bool.and_eq_true, Bool.and_eq_true] at h
  have h1 := inB_iff.1 h.1
  have h2 := of_decide_eq_true h.2.1
  have h3 := List.all_eq_true.1 h.2.2
  obtain ⟨n, rfl⟩ := Int.eq_ofNat_of_zero_le (show 0 ≤ m by omega)
  exact ⟨n, rfl, by omega, fun c hc => h3 c hc, h2⟩
theorem sAll_ev {m : Int} {l l2 : List S72} (h : puzzleOk m l = true) (hs : ∀ c ∈ l2, c ∈ l) : Ev (fun k => spec_pzAll.f k m l2) (solsM m l2) := by
  obtain ⟨n, rfl, hn, hc, _⟩ := puzzleOk_nat h
  unfold solsM
  rw [Int.toNat_natCast]
  exact pzAll_ev hn l2 (fun c h => hc c (hs c h))
theorem iAll_ev {m : Int} {l l2 : List S72} (h : puzzleOk m l = true) (hs : ∀ c ∈ l2, c ∈ l) : Ev (fun k => impl_solutions.f k m l2) (solsM m l2) := by
  obtain ⟨n, rfl, hn, hc, _⟩ := puzzleOk_nat h
  unfold solsM
  rw [Int.toNat_natCast]
  exact solutions_ev hn l2 (fun c h => hc c (hs c h))
theorem mem_one {α : Type} {l : List α} {i j : Nat} {c : α} (h : c ∈ (l.take j).drop i) : c ∈ l := List.mem_of_mem_take (List.mem_of_mem_drop h)
theorem best_both (m : Int) (l : List S72) (h : puzzleOk m l = true) : ∀ (d i : Nat), i + d = l.length → ∀ (x s q : Int), (i = 0 ∧ q = -1 ∨ 0 < i ∧ s = q ∧ 0 ≤ q) →
    ∃ r, Ev (fun k => spec_BestClue.l0 k x s (l.length : Int) (i : Int) m l) r ∧ Ev (fun k => impl_BestClue.l0 k x q (l.length : Int) (i : Int) m l) r
  | 0, i, hd, x, s, q, _ => by
    obtain rfl : i = l.length := hd
    refine ⟨(x, true), ev_succ ?_, ev_succ ?_⟩
    · simp only [spec_BestClue.l0]; exact ev_neg (by omega) (Ev.now _)
    · simp only [impl_BestClue.l0]; exact ev_neg (by omega) (Ev.now _)
  | d + 1, i, hd, x, s, q, hc => by
    obtain ⟨_, _, _, _, hl8⟩ := puzzleOk_nat h
    have hw : wrap64 ((i : Int) + 1) = ((i + 1 : Nat) : Int) := by unfold wrap64; omega
    have hm1 : ∀ c ∈ (l.take (i + 1)).drop i, c ∈ l := fun c hc => mem_one hc
    have es := sAll_ev h hm1
    have ei := iAll_ev h hm1
    have hS : ∀ r, ((i : Int) = 0 → Ev (fun k => spec_BestClue.l0 k (i : Int) ((solsM m ((l.take (i + 1)).drop i)).length : Int) (l.length : Int) ((i + 1 : Nat) : Int) m l) r) → (¬ (i : Int) = 0 → ((solsM m ((l.take (i + 1)).drop i)).length : Int) < s → Ev (fun k => spec_BestClue.l0 k (i : Int) ((solsM m ((l.take (i + 1)).drop i)).length : Int) (l.length : Int) ((i + 1 : Nat) : Int) m l) r) →
        (¬ (i : Int) = 0 → ¬ ((solsM m ((l.take (i + 1)).drop i)).length : Int) < s → Ev (fun k => spec_BestClue.l0 k x s (l.length : Int) ((i + 1 : Nat) : Int) m l) r) → Ev (fun k => spec_BestClue.l0 k x s (l.length : Int) (i : Int) m l) r := by
      intro r h1 h2 h3
      refine ev_succ ?_
      simp only [spec_BestClue.l0, hw, Int.toNat_natCast]
      exact ev_pos (by omega) (ev_pos (by omega) (ev_pos (by omega) (ev_pos (by omega) (Ev.bind es (ev_ite h1 (fun e => ev_ite (h2 e) (h3 e)))))))
    have hI : ∀ r, (q < 0 → Ev (fun k => impl_BestClue.l0 k (i : Int) ((solsM m ((l.take (i + 1)).drop i)).length : Int) (l.length : Int) ((i + 1 : Nat) : Int) m l) r) → (¬ q < 0 → ((solsM m ((l.take (i + 1)).drop i)).length : Int) < q → Ev (fun k => impl_BestClue.l0 k (i : Int) ((solsM m ((l.take (i + 1)).drop i)).length : Int) (l.length : Int) ((i + 1 : Nat) : Int) m l) r) →
        (¬ q < 0 → ¬ ((solsM m ((l.take (i + 1)).drop i)).length : Int) < q → Ev (fun k => impl_BestClue.l0 k x q (l.length : Int) ((i + 1 : Nat) : Int) m l) r) → Ev (fun k => impl_BestClue.l0 k x q (l.length : Int) (i : Int) m l) r := by
      intro r h1 h2 h3
      refine ev_succ ?_
      simp only [impl_BestClue.l0, hw, Int.toNat_natCast]
      exact ev_pos (by omega) (ev_pos (by omega) (ev_pos (by omega) (ev_pos (by omega) (Ev.bind ei (ev_ite h1 (fun e => ev_ite (h2 e) (h3 e)))))))
    rcases hc with ⟨h0, hq⟩ | ⟨h0, hs, hq⟩
    · obtain ⟨r, r1, r2⟩ := best_both m l h d (i + 1) (by omega) (i : Int) ((solsM m ((l.take (i + 1)).drop i)).length : Int) ((solsM m ((l.take (i + 1)).drop i)).length : Int) (.inr ⟨by omega, rfl, Int.natCast_nonneg _⟩)
      exact ⟨r, hS r (fun _ => r1) (fun e => absurd (by omega) e) (fun e => absurd (by omega) e), hI r (fun _ => r2) (fun e => absurd (by omega) e) (fun e => absurd (by omega) e)⟩
    · subst hs
      by_cases hlt : ((solsM m ((l.take (i + 1)).drop i)).length : Int) < s
      · obtain ⟨r, r1, r2⟩ := best_both m l h d (i + 1) (by omega) (i : Int) ((solsM m ((l.take (i + 1)).drop i)).length : Int) ((solsM m ((l.take (i + 1)).drop i)).length : Int) (.inr ⟨by omega, rfl, Int.natCast_nonneg _⟩)
        exact ⟨r, hS r (fun e => absurd e (by omega)) (fun _ _ => r1) (fun _ e => absurd hlt e), hI r (fun e => absurd e (by omega)) (fun _ _ => r2) (fun _ e => absurd hlt e)⟩
      · obtain ⟨r, r1, r2⟩ := best_both m l h d (i + 1) (by omega) x s s (.inr ⟨by omega, rfl, hq⟩)
        exact ⟨r, hS r (fun e => absurd e (by omega)) (fun _ e => absurd e hlt) (fun _ _ => r1), hI r (fun e => absurd e (by omega)) (fun _ e => absurd e hlt) (fun _ _ => r2)⟩
theorem BestClue_both (m : Int) (l : List S72) : ∃ r, Ev (fun k => spec_BestClue.f k m l) r ∧ Ev (fun k => impl_BestClue.f k m l) r := by
  by_cases h : puzzleOk m l = true
  · by_cases h0 : ((l.length : Int) == 0) = true
    · refine ⟨(0, false), ?_, ?_⟩
      · unfold spec_BestClue.f
        refine Ev.bind (pzGood_ev m l) (ev_pos h (ev_succ ?_))
        simp only [spec_BestClue.j0]
        exact ev_pos h0 (Ev.now _)
      · unfold impl_BestClue.f
        refine ev_bindS (IsPuzzle_eq m l) (ev_pos h (ev_succ ?_))
        simp only [impl_BestClue.j0]
        exact ev_pos h0 (Ev.now _)
    · obtain ⟨r, r1, r2⟩ := best_both m l h l.length 0 (Nat.zero_add _) 0 0 (-1) (.inl ⟨rfl, rfl⟩)
      refine ⟨r, ?_, ?_⟩
      · unfold spec_BestClue.f
        refine Ev.bind (pzGood_ev m l) (ev_pos h (ev_succ ?_))
        simp only [spec_BestClue.j0]
        exact ev_neg h0 r1
      · unfold impl_BestClue.f
        refine ev_bindS (IsPuzzle_eq m l) (ev_pos h (ev_succ ?_))
        simp only [impl_BestClue.j0]
        exact ev_neg h0 r2
  · refine ⟨(0, false), ?_, ?_⟩
    · unfold spec_BestClue.f
      refine Ev.bind (pzGood_ev m l) (ev_neg h (ev_succ ?_))
      simp only [spec_BestClue.j0]
      exact ev_pos (by simp) (Ev.now _)
    · unfold impl_BestClue.f
      refine ev_bindS (IsPuzzle_eq m l) (ev_neg h (ev_succ ?_))
      simp only [impl_BestClue.j0]
      exact ev_pos (by simp) (Ev.now _)
theorem FnExactBestClue_pure (a0_0 : Int) (l0_1 : List S79) (g0 : I64 a0_0 ∧ ∀ y ∈ l0_1, I64 y.f0 ∧ I64 y.f1 ∧ I64 y.f2) (hl : l0_1.length ≤ 9223372036854775807) : ∃ k, laws_FnExactBestClue.f k a0_0 l0_1 = some true := by
  refine Ev.rounds ?_
  unfold laws_FnExactBestClue.f
  obtain ⟨q, hq, hq2⟩ := szPuzzle_eq a0_0 l0_1 1048576 (by decide) hl
  refine ev_bindS hq ?_
  by_cases h : q < 0
  · exact ev_pos h (Ev.now _)
  have hn := hq2 h
  refine ev_neg h ?_
  have ht := toPuzzle_ev a0_0 l0_1 (by omega)
  have hm : (l0_1.map clueI).length ≤ 1048576 := by rw [List.length_map]; omega
  obtain ⟨r, r1, r2⟩ := BestClue_both a0_0 (l0_1.map clueI)
  refine Ev.bind ht (Ev.bind r1 (Ev.bind ht (Ev.bind r2 (ev_pos rfl (ev_neg (by simp) (Ev.bind ht ?_))))))
  exact Ev.bind (eqPuzzle_ev _ _ _ _ (Nat.le_trans hm (by decide))) (ev_pos (by simp) (Ev.now _))
end Go.Proofs.YtgjakcpbfbfejaaGreat.Q
end
section
namespace Go.Proofs.YtgjakcpbfbfejaaGreat.Q
open Go.RowKit Go.Proofs.YtgjakcpbfbfejaaGreatW.PrintWords Go.Proofs.YtgjakcpbfbfejaaGreatW.PrintLast Go.Proofs.YtgjakcpbfbfejaaGreatW.PrintMore
set_option linter.unusedVariables false
set_option linter.unusedSimpArgs false
set_option maxRecDepth 100000
section
variable {H : Type} {enc : TypeId × Value → H} {W : World}
instance : Inhabited S79 := ⟨z79⟩
theorem opens_Clue : Opens enc Tryz.prog W 79 k79 (fun x => I64 x.f0 ∧ I64 x.f1 ∧ I64 x.f2) :=
  opens_iso _ (fun x => ⟨x.1, x.2.1, x.2.2⟩) (fun _ => rfl) (opens_triple Tryz.underlying79 (by kernel_rfl) rfl rfl rfl (by kernel_rfl) (by kernel_rfl) (by kernel_rfl) (opens_int Tryz.underlying3) (opens_int Tryz.underlying3) (opens_int Tryz.underlying3))
theorem opens_Puzzle : Opens enc Tryz.prog W 24 (Kd.pair (Kd.int .i64) (Kd.slice 79 k79)) (fun x => I64 x.1 ∧ ∀ y ∈ x.2, I64 y.f0 ∧ I64 y.f1 ∧ I64 y.f2) :=
  opens_pair Tryz.underlying24 (by kernel_rfl) rfl rfl (by kernel_rfl) (by kernel_rfl) (opens_int Tryz.underlying3) (opens_slice Tryz.underlying22 (by kernel_rfl) opens_Clue)
end
open Go.ChangeShapes Go.WideShapes Go.ChangeAt Go.Deep
section
variable {H : Type} {enc : TypeId × Value → H} {W : World} {r : Reach} {b0 : Nat} {v : Value} {y : DataW H} {p : List MemPlace}
theorem arg_Puzzle (hv : Value.okWide Tryz.prog W r b0 24 v) (hr : DataW.Trod enc Tryz.prog W 0 (fun _ => true) true 24 v y p) :
    ∃ a A c l, v = .agg #[.int .i64 a, .slice A (l : List S79).length c] ∧ l.length ≤ c ∧ Kd.C k79 W A l.length l ∧ I64 a ∧ ∀ y ∈ l, I64 y.f0 ∧ I64 y.f1 ∧ I64 y.f2 := by
  obtain ⟨x, ⟨l⟩, rfl, k, g⟩ := open_struct Tryz.underlying24 hv hr opens_Puzzle
  obtain ⟨_, _, rfl, rfl, ⟨A, c, rfl, hl, hC⟩⟩ := k
  exact ⟨_, A, c, _, rfl, hl, hC, g⟩
end
end Go.Proofs.YtgjakcpbfbfejaaGreat.Q
end
section
namespace Go.Proofs.YtgjakcpbfbfejaaGreat.fnExactBestClue
open Go.ChangeShapes Go.WideShapes Go.ChangeAt Go.RowKit Go.Proofs.YtgjakcpbfbfejaaGreat.Q
open Go.ChangeMaps (open_string shut_string)
set_option linter.unusedVariables false
theorem own : ownKnob Tryz.prog.godebug = none := by kernel_rfl
theorem laidOut : laidOutB Tryz.prog = true := by kernel_rfl
set_option maxRecDepth 100000 in
theorem lifted (os : Os) (started : os.Started) (H : Type) (enc : TypeId × Value → H) :
    ReturnsInHanded {} Tryz.checked os 5 .any (Rows.fnExactBestClueSpec.pre6 enc Tryz.prog Tryz.f5 Rows.fnExactBestClueRow.domain false) (Rows.fnExactBestClueSpec.post enc Tryz.prog Tryz.f5 false true false false) := by
  refine returnsInHanded_of_change_sized (C := Tryz.checked) own started (by kernel_rfl) Tryz.func5
    (ChangeSpec.witness6 (enc := enc) (C := Tryz.checked) false ⟨#[], #[.agg #[.int .i64 0, .slice none 0 0]], []⟩ 8 (by kernel_rfl) (by kernel_rfl) (by kernel_rfl) (by kernel_rfl)) ?_
  intro W base args ds gs before hval0 hW hcnd hsz0 _
  have hsz : (DataW.weightsEach Tryz.prog (Tryz.f5.params.toList ++ Rows.fnExactBestClueSpec.plain.varTypes Tryz.prog) (ds ++ gs)).all (· ≤ reachBytes) = true := hsz0
  have hval : ∀ (j : Nat) t v, Tryz.f5.params[j]? = some t → args[j]? = some v → Value.okWide Tryz.prog W .any base t v := hval0
  have hW' := hW
  obtain ⟨p, q, hA0, hV, rfl, hfz, hnd⟩ := hW
  have hA : DataW.TrodAll enc Tryz.prog W 0 (fun _ => true) true Tryz.f5.params.toList args.toList ds p := hA0
  rw [Tryz.params5] at hA hval hsz
  obtain ⟨v0, vs0, d0, ds0, p0, q0, hargs, rfl, rfl, h0, r0⟩ := trodAll_cons hA
  obtain ⟨rfl, rfl, rfl⟩ := trodAll_nil r0
  obtain rfl : args = #[v0] := by cases args; simp_all
  obtain ⟨rfl, rfl⟩ := trodVars_none hV
  have k0 := h0
  have lt0 : ∀ x ∈ p0, x.block < W.heap.size := by obtain ⟨m, hm⟩ := k0; exact DataW.trod_lt m _ _ _ hm
  obtain ⟨a0_0, A0_1, c0_1, l0_1, rfl, hc0_1, hr0_1, g0⟩ := arg_Puzzle (hval 0 24 v0 rfl rfl) h0
  clear hA0 hval0 hsz0 hsz
  obtain ⟨k, hk⟩ := FnExactBestClue_pure a0_0 l0_1 g0 hr0_1.2.1
  refine (laws_FnExactBestClue.calls k a0_0 A0_1 c0_1 l0_1 true W hr0_1 hc0_1 hk).mono fun e W' ⟨he, bel⟩ => ?_
  subst he
  exact ⟨_, rfl, _, _, _, [], _, [], hW', trodAll_mk1 (shut_bool Tryz.underlying4 _), (trodAll_cons_mk (Below.trod laidOut (by kernel_rfl) (of_decide_eq_true (by kernel_rfl)) k0 bel lt0) trodAll_mk0), rfl, bel.frame _, fun h => by cases h⟩
theorem over : Rows.fnExactBestClueRow.holds Tryz.pinned (OpenSpec.ofChange Rows.fnExactBestClueSpec) :=
  OpenClaim.holds_of_wide 5 Tryz.f5 rfl rfl rfl rfl rfl rfl rfl ⟨rfl, rfl, rfl, rfl, rfl⟩ rfl rfl rfl rfl rfl (by kernel_rfl) Tryz.func5 (by kernel_rfl)
    (of_decide_eq_true (by kernel_rfl)) (by unfold Func.isWrapper; first | (rw [if_pos (by decide +kernel)]; kernel_rfl) | (rw [if_neg (by decide +kernel)]; exact ⟨rfl, rfl⟩))
    (fun os started H enc _ => lifted os started H enc)
theorem proved : Rows.FnExactBestClueSaid := over
end Go.Proofs.YtgjakcpbfbfejaaGreat.fnExactBestClue
namespace Go.Proofs.YtgjakcpbfbfejaaGreat
theorem fnExactBestClue_holds : Rows.FnExactBestClueSaid := fnExactBestClue.proved
end Go.Proofs.YtgjakcpbfbfejaaGreat
end
#print axioms Go.Proofs.YtgjakcpbfbfejaaGreat.fnExactBestClue_holds

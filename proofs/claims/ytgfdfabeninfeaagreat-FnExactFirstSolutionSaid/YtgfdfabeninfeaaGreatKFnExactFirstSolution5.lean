/- Part 5 of the proof of FnExactFirstSolution: what it leans on (no condition). -/
import Derived.Test.YtgfdfabeninfeaaGreatKFnExactFirstSolution4
import Derived.Shelf.SlSortCmp.WholeK
section
namespace Go.Proofs.YtgfdfabeninfeaaGreat.Q
open Go.RowKit Go.Proofs.YtgfdfabeninfeaaGreatW.PrintWords Go.Proofs.YtgfdfabeninfeaaGreatW.PrintLast Go.Proofs.YtgfdfabeninfeaaGreatW.PrintMore
attribute [local go_sem] max2_int min2_int max_two min_two max_three min_three max_four min_four
set_option linter.unusedVariables false
set_option linter.unusedSimpArgs false
def impl_votes_game.f (k : Nat) (a0_0 : Int) (l0_1 : List Bool) : Option (Int × (List (List Int))) := (impl_votes_least.f k a0_0 l0_1).bind fun t265 => (some (a0_0, t265))
theorem impl_votes_game.mono : ∀ a0 a1 k, LeO (impl_votes_game.f k a0 a1) (impl_votes_game.f (k + 1) a0 a1) := by
 intro a0 a1 k
 unfold impl_votes_game.f
 repeat' first
   | (with_reducible exact impl_votes_least.mono _ _ _)
   | (with_reducible exact LeO.refl _)
   | (with_reducible exact LeO.none _)
   | (with_reducible refine LeO.ite ?_ ?_)
   | (with_reducible refine LeO.bind ?_ (fun _ => ?_))
   | exact impl_votes_least.mono _ _ _
   | exact LeO.none _
   | refine LeO.ite ?_ ?_
   | refine LeO.bind ?_ (fun _ => ?_)
set_option maxHeartbeats 8000000 in
set_option maxRecDepth 100000 in
theorem impl_votes_game.calls (k : Nat) (a0_0 : Int) (A0_1 : Option Addr) (c0_1 : Nat) (l0_1 : List Bool) (r1 : Int) (r2 : List (List Int)) (w : World) (hr0_1 : Kd.C Kd.bool w A0_1 l0_1.length l0_1) (hc0_1 : l0_1.length ≤ c0_1) (h : impl_votes_game.f k a0_0 l0_1 = some (r1, r2)) :
  Calls Tryz.prog 86 #[.agg #[.int .i64 a0_0, .slice A0_1 l0_1.length c0_1]] w fun e w' => ∃ v1_ : Value, e = .returned (.agg #[.int .i64 r1, v1_]) ∧ Kd.S (Kd.slice 3 (Kd.int .i64)) 59 w' w.heap.size (fun _ => True) v1_ r2 ∧ Below w.heap.size w w' := by
 have hu81 := Tryz.underlying81
 have hu28 := Tryz.underlying28
 have HR0_1 := Aside0.mk hr0_1
 have HC0_1 := Aside0.mk hc0_1
 clear hr0_1 hc0_1
 have HB := Aside0.mk (Below.refl w.heap.size w)
 have H : ((impl_votes_least.f k a0_0 l0_1).bind fun t265 => (some (a0_0, t265))) = some (r1, r2) := h
 clear h
 replace H := Option.bind_eq_some_iff.mp H
 obtain ⟨t265, A20, H⟩ := H
 replace H : (some (a0_0, t265)) = some (r1, r2) := H
 have A2 := Aside0.mk A20
 clear A20
 simp only [Option.some.injEq, Prod.mk.injEq] at H
 obtain ⟨rfl, rfl⟩ := H
 go_enter Tryz.func86, Tryz.ntmps86
 try go_wp2_with (first | ((with_reducible refine gate_dst (N := 1) rfl ?_); refine box_event ?hg (N := 1) ?hd (cs := #[.int .i64 a0_0, .slice A0_1 l0_1.length c0_1]) (t := 81) ?hr ?_; (case hd => rfl); (case hg => rfl); (case hr => first | (go_simp; done) | (go_simp; rfl)); intro gb263 hg w3 hbox hb; have n2_ := Aside0.mk ((by rw [hg]; exact (below_size (zh HB.out)) : w.heap.size ≤ gb263)); replace HB := Aside0.mk (below_step (zh HB.out) hb); have BK263 := Aside0.mk hbox; have GW263 := n2_; have GE263 := n2_; clear n2_ hb hbox hg) | ((with_reducible refine gate_dst (N := 2) rfl ?_); refine box_event ?hg (N := 2) ?hd (cs := #[.int .i64 0, .slice none 0 0]) (t := 28) ?hr ?_; (case hd => rfl); (case hg => rfl); (case hr => first | (go_simp; done) | (go_simp; rfl)); intro gb264 hg w4 hbox hb; have n0_ := Aside0.mk (blk_below (g := gb263) (o := .cells #[.int .i64 a0_0, .slice A0_1 l0_1.length c0_1] 81 (0, 0)) (zb BK263.out) hb); have n1_ := Aside0.mk (below_step (zh HB.out) hb); have n2_ := Aside0.mk (hbox); have n3_ := Aside0.mk ((by rw [hg]; exact (below_size (zh HB.out)) : w.heap.size ≤ gb264)); have n4_ := Aside0.mk ((by rw [hg]; exact (below_size (zh HB.out)) : w.heap.size ≤ gb264)); have n5_ := Aside0.mk ((by rw [hg]; exact Nat.ne_of_lt (blk_lt (g := gb263) (o := .cells #[.int .i64 a0_0, .slice A0_1 l0_1.length c0_1] 81 (0, 0)) (zb BK263.out)) : gb263 ≠ gb264)); have n6_ := Aside0.mk ((by rw [hg]; exact Nat.ne_of_gt (blk_lt (g := gb263) (o := .cells #[.int .i64 a0_0, .slice A0_1 l0_1.length c0_1] 81 (0, 0)) (zb BK263.out)) : gb264 ≠ gb263)); clear BK263; clear HB; have BK263 := n0_; have HB := n1_; have BK264 := n2_; have GW264 := n3_; have GE264 := n4_; have NB263_264 := n5_; have NB264_263 := n6_; clear n0_ n1_ n2_ n3_ n4_ n5_ n6_; clear hb hbox hg))
 have n0_ := Aside0.mk (blk_drew BK263.out)
 have n1_ := Aside0.mk (blk_drew BK264.out)
 have n2_ := Aside0.mk (below_drew1 HB.out)
 clear BK263
 clear BK264
 clear HB
 have BK263 := n0_
 have BK264 := n1_
 have HB := n2_
 clear n0_ n1_ n2_
 refine start_ (n := 6) (S := fun w' => w'.cell? ⟨gb263, 0, none⟩ = some (.int .i64 a0_0) ∧ w'.cell? ⟨gb263, 1, none⟩ = some (.slice A0_1 l0_1.length c0_1)) (ds := []) (tb 6 0) (by kernel_rfl) rfl rfl ⟨(blk_cell BK263.out 0).trans rfl, (blk_cell BK263.out 1).trans rfl⟩ (fun hHeld => ?_)
 generalize w4.drew = w5 at BK263 BK264 HB hHeld ⊢
 refine pure_ (i := 0) (N := some 3) (v := ?_) (a' := ?_) (tb 6 1) rfl rfl (by kernel_rfl) (fun _ _ _ h => h) (Or.inl ⟨by rfl, ?_⟩) ?_ ?_
 rotate_left
 ·intro w'
  go_simp
  with_reducible rfl
 rotate_left
 ·simp only [Act.put, List.setIfInBounds_toArray, List.set_cons_zero, List.set_cons_succ, i64_w, i32_w]
  rfl
 refine take_ (i := 1) (N := some 4) (v := ?_) (a' := ?_) (tb 6 3) rfl rfl (by kernel_rfl) (fun _ _ _ h => h) (Or.inl ⟨by rfl, ?_⟩) hHeld ?_ ?_
 rotate_left
 ·rintro w' ⟨s0, s1⟩
  go_simp
  with_reducible rfl
 rotate_left
 ·simp only [Act.put, List.setIfInBounds_toArray, List.set_cons_zero, List.set_cons_succ, i64_w, i32_w]
  rfl
 refine take_ (i := 2) (N := some 5) (v := ?_) (a' := ?_) (tb 6 7) rfl rfl (by kernel_rfl) (fun _ _ _ h => h) (Or.inl ⟨by rfl, ?_⟩) hHeld ?_ ?_
 rotate_left
 ·rintro w' ⟨s0, s1⟩
  go_simp
  with_reducible rfl
 rotate_left
 ·simp only [Act.put, List.setIfInBounds_toArray, List.set_cons_zero, List.set_cons_succ, i64_w, i32_w]
  rfl
 refine one_ (i := 3) (N := some 6) (tb 6 15) rfl rfl (by kernel_rfl) (by decide) (fun K hK => ?_)
 refine goes_ Tryz.func102 (by kernel_rfl) rfl #[.agg #[.int .i64 a0_0, .slice A0_1 l0_1.length c0_1]] (by rfl) rfl rfl (by (try simp only [List.map_toArray, List.map_cons, List.map_nil]); first | done | rfl | (simp only [List.length_drop, List.length_take]; rfl)) ?_
 with_reducible refine (impl_votes_least.calls k a0_0 _ _ l0_1 t265 _ ?side1 ?side2 A2.out).mono ?_
 (case side1 => repeat (first | exact (Kd.C_below HR0_1.out HB.out) | (with_reducible refine Kd.C_alloc ?_ _) | (with_reducible refine Kd.C_drewN ?_ _) | (with_reducible refine Kd.C_drew ?_)))
 (case side2 => exact HC0_1.out)
 rintro e w6 ⟨v266, rfl, ho0, hb⟩
 refine ⟨_, rfl, ?_⟩
 have n0_ := Aside0.mk (Kd.S_lower ho0 (below_size (zh HB.out)))
 have n1_ := Aside0.mk (blk_below (g := gb263) (o := .cells #[.int .i64 a0_0, .slice A0_1 l0_1.length c0_1] 81 (0, 0)) (zb BK263.out) hb)
 have n2_ := Aside0.mk (blk_below (g := gb264) (o := .cells #[.int .i64 0, .slice none 0 0] 28 (0, 0)) (zb BK264.out) hb)
 have n3_ := Aside0.mk (below_step (zh HB.out) hb)
 clear BK263
 clear BK264
 clear HB
 have HO267 := n0_
 have BK263 := n1_
 have BK264 := n2_
 have HB := n3_
 clear n0_ n1_ n2_ n3_
 (try clear hb)
 (try clear hb2)
 (try clear hk)
 (try clear hi)
 (try clear ho0)
 obtain ⟨Ao7, co7, eo7⟩ := Kd.S_slice HO267.out
 (first | subst eo7 | (injection eo7 with f1_ f2_ f3_; have f4_ := f1_.symm; have f5_ := f3_.symm; clear f1_ f2_ f3_; subst f4_; subst f5_))
 refine hK.out _ _ ⟨(blk_cell BK263.out 0).trans rfl, (blk_cell BK263.out 1).trans rfl⟩ (fun hHeld => ?_)
 clear hK K
 refine norm_ (a' := ?_) ?_ ?_
 rotate_left
 ·show Act.put _ (some 6) _ = _
  simp only [Act.put, List.setIfInBounds_toArray, List.set_cons_zero, List.set_cons_succ, i64_w, i32_w]
  rfl
 refine pure_ (i := 4) (N := some 7) (v := ?_) (a' := ?_) (tb 6 31) rfl rfl (by kernel_rfl) (fun _ _ _ h => h) (Or.inl ⟨by rfl, ?_⟩) ?_ ?_
 rotate_left
 ·intro w'
  go_simp
  with_reducible rfl
 rotate_left
 ·simp only [Act.put, List.setIfInBounds_toArray, List.set_cons_zero, List.set_cons_succ, i64_w, i32_w]
  rfl
 refine one_ (i := 5) (N := none) (tb 6 63) rfl rfl (by kernel_rfl) (by decide) (fun K hK => ?_)
 have hs8 : w6.cell? ⟨gb264, 0, none⟩ = some (.int .i64 0) := (blk_cell BK264.out 0).trans rfl
 have hfs8 := blk_frozen BK264.out 0
 have hns8_0 := NB263_264.out
 have hms8_0 := NB264_263.out
 have hs9 : w6.cell? ⟨gb264, 1, none⟩ = some (.slice none 0 0) := (blk_cell BK264.out 1).trans rfl
 have hfs9 := blk_frozen BK264.out 1
 have hns9_0 := NB263_264.out
 have hms9_0 := NB264_263.out
 refine skip_ (w1 := ?_) (by rfl) rfl ?_ ?_
 rotate_left
 ·go_simp
  rfl
 refine hK.out _ _ ⟨((cell_far (p := ⟨gb264, _, none⟩) NB263_264.out _).trans (((cell_far (p := ⟨gb264, _, none⟩) NB263_264.out _).trans (hHeld.1)))), ((cell_far (p := ⟨gb264, _, none⟩) NB263_264.out _).trans (((cell_far (p := ⟨gb264, _, none⟩) NB263_264.out _).trans (hHeld.2))))⟩ (fun hHeld => ?_)
 clear hK K
 refine done_ (by kernel_rfl) ?_
 try go_wp2
 refine bodyPost_ret (results_cell_row rfl _ _ gb264 28 #[.int .i64 a0_0, .slice Ao7 t265.length co7] (0, 0) _ rfl (by (with_reducible repeat (first | refine blk_drewN ?_ _ | refine blk_drew ?_ | refine blk_alloc ?_ _)); refine blk_put (cs := #[.int .i64 a0_0, .slice none 0 0]) ?_ 1 _ rfl; (with_reducible repeat (first | refine blk_drewN ?_ _ | refine blk_drew ?_ | refine blk_alloc ?_ _)); refine blk_put (cs := #[.int .i64 0, .slice none 0 0]) ?_ 0 _ rfl; (with_reducible repeat (first | refine blk_drewN ?_ _ | refine blk_drew ?_ | refine blk_alloc ?_ _)); exact BK264.out) Tryz.underlying28 rfl (by kernel_rfl)) rfl ?_
 exact ⟨_, by first | rfl | (simp [*, errW_none, errW_some] <;> rfl), by (with_reducible repeat (first | apply Kd.S_alloc | apply Kd.S_drewN | apply Kd.S_drew)); exact Kd.S_mono (Kd.S_far (p := ⟨gb264, 1, none⟩) (Kd.S_far (p := ⟨gb264, 0, none⟩) (Kd.S_types HO267.out BK264.out (by decide)) (fun _ hk => hk.2) (.int .i64 a0_0)) (fun _ hk => hk.2) (.slice Ao7 t265.length co7)) (fun _ hk => trivial), zh HB.out⟩
end Go.Proofs.YtgfdfabeninfeaaGreat.Q
end
section
namespace Go.Proofs.YtgfdfabeninfeaaGreat.Q
open Go.RowKit Go.Proofs.YtgfdfabeninfeaaGreatW.PrintWords Go.Proofs.YtgfdfabeninfeaaGreatW.PrintLast Go.Proofs.YtgfdfabeninfeaaGreatW.PrintMore
set_option linter.unusedVariables false
set_option linter.unusedSimpArgs false
def lexG : List (List Int) → List (List Int) → Bool
  | [], [] => false
  | [], _ :: _ => true
  | _ :: _, [] => false
  | x :: xs, y :: ys => if x = y then lexG xs ys else lexB x y
def cmpG : List (List Int) → List (List Int) → Int
  | [], [] => 0
  | [], _ :: _ => -1
  | _ :: _, [] => 1
  | x :: xs, y :: ys => if x = y then cmpG xs ys else cmpL x y
theorem cmpG_lt : ∀ a b, decide (cmpG a b < 0) = lexG a b
  | [], [] => rfl
  | [], _ :: _ => rfl
  | _ :: _, [] => rfl
  | x :: xs, y :: ys => by
    unfold cmpG lexG
    by_cases h : x = y
    · rw [if_pos h, if_pos h]; exact cmpG_lt xs ys
    · rw [if_neg h, if_neg h]; exact cmpL_lt x y
theorem cmpL_zero : ∀ a b, cmpL a b = 0 ↔ a = b
  | [], [] => by simp [cmpL]
  | [], _ :: _ => by simp [cmpL]
  | _ :: _, [] => by simp [cmpL]
  | x :: xs, y :: ys => by
    unfold cmpL
    by_cases h : x = y
    · subst h; rw [if_pos rfl, cmpL_zero xs ys]; simp
    · rw [if_neg h]
      by_cases h2 : x < y
      · rw [if_pos h2]; simp [h]
      · rw [if_neg h2]; simp [h]
theorem lexG_irrefl : ∀ a, lexG a a = false
  | [] => rfl
  | x :: xs => by rw [lexG, if_pos rfl]; exact lexG_irrefl xs
theorem lexG_trans : ∀ a b c, lexG a b = true → lexG b c = true → lexG a c = true
  | [], [], _, h, _ => by cases h
  | [], _ :: _, [], _, h => by cases h
  | [], _ :: _, _ :: _, _, _ => rfl
  | _ :: _, [], _, h, _ => by cases h
  | _ :: _, _ :: _, [], _, h => by cases h
  | x :: xs, y :: ys, z :: zs, h1, h2 => by
    rw [lexG] at h1 h2 ⊢
    by_cases e1 : x = y
    · subst e1
      rw [if_pos rfl] at h1
      by_cases e2 : x = z
      · subst e2
        rw [if_pos rfl] at h2 ⊢
        exact lexG_trans xs ys zs h1 h2
      · rw [if_neg e2] at h2 ⊢; exact h2
    · rw [if_neg e1] at h1
      by_cases e2 : y = z
      · subst e2
        rw [if_neg e1]; exact h1
      · rw [if_neg e2] at h2
        have h3 := lexB_trans _ _ _ h1 h2
        rw [if_neg (fun e => by subst e; rw [lexB_irrefl] at h3; cases h3)]
        exact h3
theorem lexG_total : ∀ a b, lexG a b = false → lexG b a = false → a = b
  | [], [], _, _ => rfl
  | [], _ :: _, h, _ => by cases h
  | _ :: _, [], _, h => by cases h
  | x :: xs, y :: ys, h1, h2 => by
    rw [lexG] at h1 h2
    by_cases e : x = y
    · subst e
      rw [if_pos rfl] at h1 h2
      rw [lexG_total xs ys h1 h2]
    · rw [if_neg e] at h1
      rw [if_neg (fun q => e q.symm)] at h2
      exact absurd (lexB_total _ _ h1 h2) e
theorem lexG_asymm {a b : List (List Int)} (h : lexG a b = true) : lexG b a = false := by
  cases h2 : lexG b a
  · rfl
  · have := lexG_trans _ _ _ h h2
    rw [lexG_irrefl] at this; cases this
theorem lexG_ntrans (a b c : List (List Int)) (h1 : lexG a b = false) (h2 : lexG b c = false) : lexG a c = false := by
  cases h3 : lexG a c
  · rfl
  · cases h4 : lexG b a
    · have := lexG_total a b h1 h4
      subst this
      rw [h2] at h3; cases h3
    · rw [lexG_trans _ _ _ h4 h3] at h2; cases h2
theorem sort_filter {α : Type} (lt : α → α → Bool) (hnt : ∀ a b c, lt a b = false → lt b c = false → lt a c = false) (has : ∀ a b, lt a b = true → lt b a = false) (tot : ∀ a b, lt a b = false → lt b a = false → a = b) (p : α → Bool) (l : List α) :
    sortL lt (l.filter p) = (sortL lt l).filter p := by
  symm
  exact sortL_eq lt hnt has tot ((sortL_perm lt l).filter p) ((sortL_sorted lt hnt has l).filter p)
theorem cmpG_drop {a b : List (List Int)} {i : Nat} (h : i < a.length) : cmpG (a.drop i) (b.drop i) = if h2 : i < b.length then (if a[i] = b[i] then cmpG (a.drop (i + 1)) (b.drop (i + 1)) else cmpL a[i] b[i]) else 1 := by
  rw [List.drop_eq_getElem_cons h]
  by_cases h2 : i < b.length
  · rw [dif_pos h2, List.drop_eq_getElem_cons h2, cmpG]
  · have hb : b.drop i = [] := List.drop_of_length_le (by omega)
    rw [dif_neg h2, hb]; rfl
theorem drewN_drewN (w : World) (a b : Nat) : (w.drewN a).drewN b = w.drewN (a + b) := by
  induction b with
  | zero => rfl
  | succ b ih => exact congrArg World.drew ih
set_option maxHeartbeats 2000000 in
set_option maxRecDepth 100000 in
theorem compareFunc.calls (A B : Option Addr) (c d : Nat) (a b : List (List Int)) (w : World) (hA : Kd.C (Kd.slice 3 (Kd.int .i64)) w A a.length a) (hc : a.length ≤ c) (hB : Kd.C (Kd.slice 3 (Kd.int .i64)) w B b.length b) (hd : b.length ≤ d) (hx : ∀ x ∈ a, x.length ≤ 1152921504606846976) :
    Calls Tryz.prog 105 #[.slice A a.length c, .slice B b.length d, .func (.func 98) #[] #[]] w fun e w' => e = .returned (.int .i64 (cmpG a b)) ∧ ∃ q, w' = w.drewN q := by
  have hlm := Kd.C_max hA
  have eg : ∀ args w, (callFunc 98 args).run Tryz.prog w = .ok (.enter 98 args) w := enters_of Tryz.func98 (by kernel_rfl) rfl
  have HA := Aside0.mk hA
  have HB := Aside0.mk hB
  have HX := Aside0.mk hx
  clear hA hB hx
  generalize hr : cmpG a b = r
  have HR := Aside0.mk hr
  clear hr
  go_enter Tryz.func105, Tryz.ntmps105
  go_wp2
  go_loopg [13] a.length (fun gg v13 wr => ∃ kk : Nat, kk ≤ a.length ∧ a.length - kk ≤ gg ∧ v13 = .int .i64 kk ∧ Aside0 (∃ q, wr = w.drewN q) ∧ Aside0 (cmpG (a.drop kk) (b.drop kk) = r))
  case atStart => exact ⟨0, Nat.zero_le _, Nat.le_refl _, rfl, ⟨⟨0, rfl⟩⟩, HR⟩
  case round =>
    clear HR
    obtain ⟨kk, hkk, hg, rfl, HQ, HR⟩ := hrel
    have hAr : Kd.C (Kd.slice 3 (Kd.int .i64)) wr A a.length a := by obtain ⟨q, hq⟩ := HQ.out; rw [hq]; exact Kd.C_drewN HA.out q
    have hBr : Kd.C (Kd.slice 3 (Kd.int .i64)) wr B b.length b := by obtain ⟨q, hq⟩ := HQ.out; rw [hq]; exact Kd.C_drewN HB.out q
    have HAr := Aside0.mk hAr
    have HBr := Aside0.mk hBr
    clear hAr hBr
    by_cases hlt : kk < a.length
    · have hltz : (kk : Int) < (a.length : Int) := Int.ofNat_lt.2 hlt
      have hR := HR.out
      rw [cmpG_drop hlt] at hR
      have hxa := HX.out _ (List.getElem_mem hlt)
      obtain ⟨ad, A1, c1, e, x0, hl1, hC1⟩ := at_L4 HAr.out (kk : Int) (Int.natCast_nonneg _) hltz
      subst e
      have ea : rd_L4 a (kk : Int) = a[kk] := by unfold rd_L4; rw [Int.toNat_natCast, List.getD_eq_getElem?_getD, List.getElem?_eq_getElem hlt]; rfl
      rw [ea] at x0 hl1 hC1
      rw [Int.toNat_natCast] at x0
      generalize a[kk] = x at hR hxa x0 hl1 hC1
      clear ea
      by_cases h2 : kk < b.length
      · have h2z : (kk : Int) < (b.length : Int) := Int.ofNat_lt.2 h2
        have h2b : decide ((kk : Int) ≥ (b.length : Int)) = false := decide_eq_false (Int.not_le.2 h2z)
        rw [dif_pos h2] at hR
        obtain ⟨bd, B1, d1, e, y0, hl2, hC2⟩ := at_L4 HBr.out (kk : Int) (Int.natCast_nonneg _) h2z
        subst e
        have eb : rd_L4 b (kk : Int) = b[kk] := by unfold rd_L4; rw [Int.toNat_natCast, List.getD_eq_getElem?_getD, List.getElem?_eq_getElem h2]; rfl
        rw [eb] at y0 hl2 hC2
        rw [Int.toNat_natCast] at y0
        generalize b[kk] = y at hR y0 hl2 hC2
        clear eb
        obtain ⟨K, hK⟩ := Compare_ev x y hxa
        have hk : slices_Compare_int_int.f K x y = some (cmpL x y) := hK K (Nat.le_refl _)
        have HCL := Aside0.mk (slices_Compare_int_int.calls K A1 c1 x B1 d1 y (cmpL x y) wr hC1 hl1 hC2 hl2 hk)
        have HR2 := Aside0.mk hR
        have hcz := cmpL_zero x y
        clear hk hC1 hC2 hK hxa HR hR
        generalize cmpL x y = cv at HCL HR2 hcz
        by_cases hxy : x = y
        · have c0 := hcz.2 hxy
          subst c0
          have hR := HR2.out
          rw [if_pos hxy] at hR
          have HR3 := Aside0.mk hR
          clear hR HR2 hxy hcz
          go_wp2_with (go_at_fn 98; refine HCL.out.mono ?_; rintro e w' ⟨rfl, ⟨m, rfl⟩⟩)
          go_roundg (a.length - (kk + 1))
          case measure => omega
          case rel => exact ⟨kk + 1, by omega, by omega, by congr 1; (try (unfold wrap64; omega)), ⟨by obtain ⟨q, hq⟩ := HQ.out; exact ⟨_, by rw [hq]; exact drewN_drewN _ _ _⟩⟩, HR3⟩
        · have c0 : ¬ cv = 0 := fun e => hxy (hcz.1 e)
          have c0b : (cv == 0) = false := by rw [beq_eq_false_iff_ne]; exact c0
          have c0d : decide (cv = 0) = false := decide_eq_false c0
          have hR := HR2.out
          rw [if_neg hxy] at hR
          subst hR
          clear HR2 hxy hcz
          go_wp2_with (go_at_fn 98; refine HCL.out.mono ?_; rintro e w' ⟨rfl, ⟨m, rfl⟩⟩)
          go_ret
          exact ⟨rfl, by obtain ⟨q, hq⟩ := HQ.out; exact ⟨_, by rw [hq]; exact drewN_drewN _ _ _⟩⟩
      · have h2b : decide ((kk : Int) ≥ (b.length : Int)) = true := decide_eq_true (by omega)
        have h2z : ¬ (kk : Int) < (b.length : Int) := by omega
        rw [dif_neg h2] at hR
        have HR2 := Aside0.mk hR
        clear hR HR hC1
        go_wp2
        go_ret
        exact ⟨by rw [← HR2.out]; rfl, HQ.out⟩
    · have hkl : kk = a.length := by omega
      have hltz : ¬ (kk : Int) < (a.length : Int) := by omega
      subst hkl
      have hR := HR.out
      rw [List.drop_length] at hR
      by_cases h2 : a.length < b.length
      · have h2b : decide ((a.length : Int) < (b.length : Int)) = true := decide_eq_true (by omega)
        have hR2 : r = -1 := by rw [← hR, List.drop_eq_getElem_cons h2]; rfl
        have HR2 := Aside0.mk hR2
        clear hR hR2 HR
        go_wp2
        go_ret
        exact ⟨by rw [HR2.out]; rfl, HQ.out⟩
      · have h2b : decide ((a.length : Int) < (b.length : Int)) = false := decide_eq_false (by omega)
        have hR2 : r = 0 := by rw [← hR, List.drop_of_length_le (by omega)]; rfl
        have HR2 := Aside0.mk hR2
        clear hR hR2 HR
        go_wp2
        go_ret
        exact ⟨by rw [HR2.out]; rfl, HQ.out⟩
set_option maxHeartbeats 2000000 in
set_option maxRecDepth 100000 in
theorem compareGames.lays (m n : Int) (A B : Option Addr) (c d : Nat) (a b : List (List Int)) (w : World) (hA : Kd.C (Kd.slice 3 (Kd.int .i64)) w A a.length a) (hc : a.length ≤ c) (hB : Kd.C (Kd.slice 3 (Kd.int .i64)) w B b.length b) (hd : b.length ≤ d) (hx : ∀ x ∈ a, x.length ≤ 1152921504606846976) :
    Calls Tryz.prog 88 #[.agg #[.int .i64 m, .slice A a.length c], .agg #[.int .i64 n, .slice B b.length d]] w fun e w' => e = .returned (.int .i64 (cmpG a b)) ∧ ∃ q os, w' = Go.Sort.grow (w.drewN q) os := by
  have hcall := fun W (hb : Below w.heap.size w W) => compareFunc.calls A B c d a b W (Kd.C_below hA hb) hc (Kd.C_below hB hb) hd hx
  have HCL := Aside0.mk hcall
  have u1 := Tryz.underlying28
  clear hA hB hx hcall
  go_enter Tryz.func88, Tryz.ntmps88
  have hh := HCL.out ((w.alloc (.cells #[.int .i64 m, .slice A a.length c] 28)).alloc (.cells #[.int .i64 n, .slice B b.length d] 28)) (((Below.refl _ w).alloc (Nat.le_refl _) _).alloc (by simp) _)
  have HH := Aside0.mk hh
  clear hh HCL
  go_wp2_with (go_at_call 105; refine HH.out.mono ?_; rintro e w' ⟨rfl, ⟨q, rfl⟩⟩)
  go_ret
  refine ⟨rfl, q, #[.cells #[.int .i64 m, .slice A a.length c] 28 (0, 0), .cells #[.int .i64 n, .slice B b.length d] 28 (0, 0)], ?_⟩
  rw [Go.Sort.alloc_eq_grow, Go.Sort.alloc_eq_grow, Go.Sort.grow_grow]
  rfl
end Go.Proofs.YtgfdfabeninfeaaGreat.Q
end
section
namespace Go.Proofs.YtgfdfabeninfeaaGreat.Q
open Go.RowKit Go.Proofs.YtgfdfabeninfeaaGreatW.PrintWords Go.Proofs.YtgfdfabeninfeaaGreatW.PrintLast Go.Proofs.YtgfdfabeninfeaaGreatW.PrintMore
set_option linter.unusedVariables false
set_option linter.unusedSimpArgs false
def ly87_ren : Go.Shelf.Ren := ⟨fun | 6 => 87 | 15 => 104 | 14 => 103 | 28 => 125 | 29 => 126 | 20 => 117 | 21 => 118 | 22 => 119 | 23 => 120 | 24 => 121 | 25 => 122 | 26 => 123 | 27 => 124 | 46 => 137 | 47 => 138 | 48 => 139 | 49 => 140 | 50 => 141 | 57 => 145 | n => n, fun | 22 => 40 | 24 => 28 | 25 => 106 | 3 => 3 | 39 => 117 | 0 => 0 | 53 => 135 | 55 => 137 | 4 => 4 | 46 => 129 | 45 => 128 | 50 => 92 | 5 => 5 | 9 => 9 | 66 => 144 | 70 => 148 | 76 => 152 | 77 => 153 | n => n, fun | n => n⟩
theorem ly87 : Go.Proofs.SlLaysF0.n6 Tryz.prog ly87_ren := {
  mixed := by kernel_rfl
  f6 := ⟨Tryz.f87.name, by decide, Tryz.func87.trans (congrArg some (by kernel_rfl))⟩
  f14 := ⟨Tryz.f103.name, by decide, Tryz.func103.trans (congrArg some (by kernel_rfl))⟩
  f15 := Tryz.func104.trans (congrArg some (by kernel_rfl))
  f20 := ⟨Tryz.f117.name, by decide, Tryz.func117.trans (congrArg some (by kernel_rfl))⟩
  f21 := ⟨Tryz.f118.name, by decide, Tryz.func118.trans (congrArg some (by kernel_rfl))⟩
  f22 := ⟨Tryz.f119.name, by decide, Tryz.func119.trans (congrArg some (by kernel_rfl))⟩
  f23 := ⟨Tryz.f120.name, by decide, Tryz.func120.trans (congrArg some (by kernel_rfl))⟩
  f24 := ⟨Tryz.f121.name, by decide, Tryz.func121.trans (congrArg some (by kernel_rfl))⟩
  f25 := ⟨Tryz.f122.name, by decide, Tryz.func122.trans (congrArg some (by kernel_rfl))⟩
  f26 := ⟨Tryz.f123.name, by decide, Tryz.func123.trans (congrArg some (by kernel_rfl))⟩
  f27 := ⟨Tryz.f124.name, by decide, Tryz.func124.trans (congrArg some (by kernel_rfl))⟩
  f28 := Tryz.func125.trans (congrArg some (by kernel_rfl))
  f29 := Tryz.func126.trans (congrArg some (by kernel_rfl))
  f46 := ⟨Tryz.f137.name, by decide, Tryz.func137.trans (congrArg some (by kernel_rfl))⟩
  f47 := Tryz.func138.trans (congrArg some (by kernel_rfl))
  f48 := Tryz.func139.trans (congrArg some (by kernel_rfl))
  f49 := ⟨Tryz.f140.name, by decide, Tryz.func140.trans (congrArg some (by kernel_rfl))⟩
  f50 := ⟨Tryz.f141.name, by decide, Tryz.func141.trans (congrArg some (by kernel_rfl))⟩
  f57 := ⟨Tryz.f145.name, by decide, Tryz.func145.trans (congrArg some (by kernel_rfl))⟩
  t0 := Tryz.underlying0
  a0 := Tryz.isAgg0
  z0 := Tryz.sizeOf0
  v0 := Tryz.zeroValue0
  t3 := Tryz.underlying3
  a3 := Tryz.isAgg3
  z3 := Tryz.sizeOf3
  v3 := Tryz.zeroValue3
  t4 := Tryz.underlying4
  a4 := Tryz.isAgg4
  z4 := Tryz.sizeOf4
  v4 := Tryz.zeroValue4
  t5 := Tryz.underlying5
  a5 := Tryz.isAgg5
  z5 := Tryz.sizeOf5
  v5 := Tryz.zeroValue5
  t9 := Tryz.underlying9
  a9 := Tryz.isAgg9
  z9 := Tryz.sizeOf9
  v9 := Tryz.zeroValue9
  t22 := Tryz.underlying40
  a22 := Tryz.isAgg40
  z22 := Tryz.sizeOf40
  v22 := Tryz.zeroValue40
  t25 := Tryz.underlying106
  a25 := Tryz.isAgg106
  z25 := Tryz.sizeOf106
  v25 := Tryz.zeroValue106
  t39 := Tryz.underlying117
  a39 := Tryz.isAgg117
  z39 := Tryz.sizeOf117
  v39 := Tryz.zeroValue117
  t45 := Tryz.underlying128
  a45 := Tryz.isAgg128
  z45 := Tryz.sizeOf128
  v45 := Tryz.zeroValue128
  t46 := Tryz.underlying129
  a46 := Tryz.isAgg129
  z46 := Tryz.sizeOf129
  v46 := Tryz.zeroValue129
  t50 := Tryz.underlying92
  a50 := Tryz.isAgg92
  z50 := Tryz.sizeOf92
  v50 := Tryz.zeroValue92
  t53 := Tryz.underlying135
  a53 := Tryz.isAgg135
  z53 := Tryz.sizeOf135
  v53 := Tryz.zeroValue135
  t55 := Tryz.underlying137
  a55 := Tryz.isAgg137
  z55 := Tryz.sizeOf137
  v55 := Tryz.zeroValue137
  t66 := Tryz.underlying144
  a66 := Tryz.isAgg144
  z66 := Tryz.sizeOf144
  v66 := Tryz.zeroValue144
  t70 := Tryz.underlying148
  a70 := Tryz.isAgg148
  z70 := Tryz.sizeOf148
  v70 := Tryz.zeroValue148
  t76 := Tryz.underlying152
  a76 := Tryz.isAgg152
  z76 := Tryz.sizeOf152
  v76 := Tryz.zeroValue152
  t77 := Tryz.underlying153
  a77 := Tryz.isAgg153
  z77 := Tryz.sizeOf153
  v77 := Tryz.zeroValue153 }
open Go.Shelf Go.Lib Go.Sort
structure QG (W : World) (okq : Nat → Prop) (base : Nat) where
  v : Value
  x : S28
  hM : Kd.R (Kd.slice 3 (Kd.int .i64)) 59 W base okq v x.f1
  hl : ∀ s ∈ x.f1, s.length ≤ 1152921504606846976
def QG.enc {W okq base} (q : QG W okq base) : List Value := [.int .i64 q.x.f0, q.v]
instance {W okq base} : Inhabited (QG W okq base) := ⟨⟨.slice none 0 0, ⟨0, []⟩, Kd.R_nil _ _ _ _ _, by simp⟩⟩
def sortGames.f (l : List S28) : Option (List S28) := if (decide (l.length < 1000000) && l.all (fun x => decide (x.f0 = (l.headD z28).f0) && x.f1.all fun s => decide (s.length ≤ 1152921504606846976))) = true then some ((sortL lexG (l.map fun x => x.f1)).map fun s => ⟨(l.headD z28).f0, s⟩) else none
theorem isAggG (w : World) : (isAgg 28).run Tryz.prog w = .ok true w := by kernel_rfl
theorem sizeOfG (w : World) : (Go.sizeOf 28).run Tryz.prog w = .ok 2 w := by kernel_rfl
end Go.Proofs.YtgfdfabeninfeaaGreat.Q
end
section
namespace Go.Proofs.YtgfdfabeninfeaaGreat.Q
open Go.RowKit Go.Proofs.YtgfdfabeninfeaaGreatW.PrintWords Go.Proofs.YtgfdfabeninfeaaGreatW.PrintLast Go.Proofs.YtgfdfabeninfeaaGreatW.PrintMore
attribute [local go_sem] max2_int min2_int max_two min_two max_three min_three max_four min_four
set_option linter.unusedVariables false
set_option linter.unusedSimpArgs false
def impl_allGames.l0 : Nat → Int → List (S28) → List Int → Int → Int → Option ((List (S28)))
 | 0, _, _, _, _, _ => none
 | k + 1, x0, x3, x9, x10, x11 => if x11 < x10 then (if 0 ≤ x11 then (if x11 < (x9.length : Int) then ((votesOf_allGames.f k x0 (rd x9 x11)).bind fun bt276 => (if 0 < (bt276.2.length : Int) then (if rdOf false bt276.2 0 = true then (impl_allGames.l0 k x0 x3 x9 x10 (wrap64 (x11 + 1))) else ((impl_votes_all.f bt276.1 bt276.2).bind fun t282 => (if 0 ≤ t282 then (if t282 < (bt276.2.length : Int) then (if rdOf false bt276.2 t282 = true then ((impl_votes_game.f k bt276.1 bt276.2).bind fun bt284 => (if x3.length < 4398046511104 then (impl_allGames.l0 k x0 (x3 ++ [(⟨bt284.1, bt284.2⟩ : S28)]) x9 x10 (wrap64 (x11 + 1))) else (none))) else (impl_allGames.l0 k x0 x3 x9 x10 (wrap64 (x11 + 1)))) else (none)) else (none)))) else (none))) else (none)) else (none)) else ((sortGames.f x3).bind fun t_ => (some t_))
def impl_allGames.f (k : Nat) (a0 : Int) : Option ((List (S28))) := (impl_tables.f k a0).bind fun t271 => (impl_allGames.l0 k a0 (([] : List (S28))) t271 (t271.length : Int) 0)
theorem impl_allGames.mono_l : ∀ k, (∀ y0 y1 y2 y3 y4, LeO (impl_allGames.l0 k y0 y1 y2 y3 y4) (impl_allGames.l0 (k + 1) y0 y1 y2 y3 y4))
 | 0 => fun _ _ _ _ _ r h => by simp [impl_allGames.l0] at h
 | k + 1 => by
  have ih0 := impl_allGames.mono_l k
  ·intro y0 y1 y2 y3 y4
   unfold impl_allGames.l0
   repeat' first
   | (with_reducible exact ih0 _ _ _ _ _)
   | (with_reducible exact impl_tables.mono _ _)
   | (with_reducible exact impl_votes_game.mono _ _ _)
   | (with_reducible exact votesOf_allGames.mono _ _ _)
   | (with_reducible exact LeO.refl _)
   | (with_reducible exact LeO.none _)
   | (with_reducible refine LeO.ite ?_ ?_)
   | (with_reducible refine LeO.bind ?_ (fun _ => ?_))
   | exact ih0 _ _ _ _ _
   | exact impl_tables.mono _ _
   | exact impl_votes_game.mono _ _ _
   | exact votesOf_allGames.mono _ _ _
   | exact LeO.none _
   | refine LeO.ite ?_ ?_
   | refine LeO.bind ?_ (fun _ => ?_)
theorem impl_allGames.mono : ∀ a0 k, LeO (impl_allGames.f k a0) (impl_allGames.f (k + 1) a0) := by
 intro a0 k
 have ih0 := impl_allGames.mono_l k
 unfold impl_allGames.f
 repeat' first
   | (with_reducible exact ih0 _ _ _ _ _)
   | (with_reducible exact impl_tables.mono _ _)
   | (with_reducible exact impl_votes_game.mono _ _ _)
   | (with_reducible exact votesOf_allGames.mono _ _ _)
   | (with_reducible exact LeO.refl _)
   | (with_reducible exact LeO.none _)
   | (with_reducible refine LeO.ite ?_ ?_)
   | (with_reducible refine LeO.bind ?_ (fun _ => ?_))
   | exact ih0 _ _ _ _ _
   | exact impl_tables.mono _ _
   | exact impl_votes_game.mono _ _ _
   | exact votesOf_allGames.mono _ _ _
   | exact LeO.none _
   | refine LeO.ite ?_ ?_
   | refine LeO.bind ?_ (fun _ => ?_)
def impl_allGames.T6 : Bool × List (List Nat × List Nat) := (true, [([], []), ([0], [0]), ([1], [1]), ([2], [2]), ([3], [3]), ([4], [4]), ([5], [5]), ([6, 5], [5, 6]), ([5], [5]), ([8, 5, 5], [5, 8]), ([7, 9, 5], [5, 7, 9]), ([10, 5], [5, 10]), ([5, 11], [5, 11])])
def impl_allGames.B6 : List Nat := [0, 1, 3, 7, 15, 31, 63, 127, 63, 319, 1023, 2047, 4095]
theorem impl_allGames.tab6 : rtab .any (opsOf Tryz.f59 6) = impl_allGames.T6 := by kernel_rfl
theorem impl_allGames.bits6 : waitsOk impl_allGames.T6.2 impl_allGames.B6 = true := by kernel_rfl
end Go.Proofs.YtgfdfabeninfeaaGreat.Q
end
section
namespace Go.Proofs.YtgfdfabeninfeaaGreat.Q
open Go.RowKit Go.Proofs.YtgfdfabeninfeaaGreatW.PrintWords Go.Proofs.YtgfdfabeninfeaaGreatW.PrintLast Go.Proofs.YtgfdfabeninfeaaGreatW.PrintMore
set_option linter.unusedVariables false
set_option linter.unusedSimpArgs false
def solP (k : Nat) (clues : List S67) (g : S28) : Option Bool := (impl_Game_votes.f k g.f0 g.f1).bind fun v => anyO (fun c => impl_solutions_1_1.f k c.f0 c.f1 c.f2 v.1 v.2) clues
theorem impl_solutions_1_1.pred (k : Nat) (n : Int) (A : Option Addr) (c : Nat) (l : List Bool) (b1 : Nat) (w : World) (h1 : w.heap[b1]? = some (.cells #[.int .i64 n, .slice A l.length c] 81 (0, 0))) (hC : Kd.C Kd.bool w A l.length l) (hc : l.length ≤ c) :
    PredK Tryz.prog 62 #[.pointer (some ⟨b1, 0, none⟩)] k67 (fun c => .agg c.toArray) w (fun x => impl_solutions_1_1.f k x.f0 x.f1 x.f2 n l) := by
  intro W x cx b hb hK hp
  obtain rfl := k67_open hK
  exact (impl_solutions_1_1.calls k x.f0 x.f1 x.f2 n A c l b W b1 (blk_below h1 hb) (Kd.C_below hC hb) hc hp).mono (fun _ _ h => ⟨h.1, hb.trans (h.2.mono hb.size)⟩)
set_option maxHeartbeats 2000000 in
theorem impl_solutions_1.pred (k : Nat) (A1 : Option Addr) (c1 : Nat) (clues : List S67) (b1 : Nat) (wb : World) (h1 : wb.heap[b1]? = some (.cells #[.slice A1 clues.length c1] 31 (0, 0))) (hC : Kd.C k67 wb A1 clues.length clues) (hc1 : clues.length ≤ c1) :
    PredG Tryz.prog 60 #[.pointer (some ⟨b1, 0, none⟩)] wb (solP k clues) := by
  intro W x A c b hb hxc hxC hp
  show Calls Tryz.prog 60 #[.agg #[.int .i64 x.f0, .slice A x.f1.length c], .pointer (some ⟨b1, 0, none⟩)] W _
  obtain ⟨⟨v1, v2⟩, hv, hp⟩ := Option.bind_eq_some_iff.mp hp
  have HBK := Aside0.mk (blk_below h1 hb)
  have eg : ∀ args w, (callFunc 62 args).run Tryz.prog w = .ok (.enter 62 args) w := enters_of Tryz.func62 (by kernel_rfl) rfl
  have EG := Aside0.mk eg
  clear eg
  have HB := Aside0.mk hb
  have HX := Aside0.mk hxC
  have HCL := Aside0.mk (Kd.C_below hC hb)
  have HV := Aside0.mk hv
  have HP := Aside0.mk hp
  clear h1 hC hb hxC hv hp
  go_enter Tryz.func60, Tryz.ntmps60
  go_wp2_with (go_at_call 61; refine (impl_Game_votes.calls k x.f0 A c x.f1 v1 v2 _ (Kd.C_below HX.out ((Below.refl _ W).alloc (Nat.le_refl _) _)) hxc HV.out).mono ?_; rintro e w1 ⟨u, rfl, hR, hb1⟩; obtain ⟨Av, cv, rfl⟩ := Kd.R_slice hR; have HR := Aside0.mk (Kd.R_reads' hR).2.2; have HRC := Aside0.mk (Kd.R_reads' hR).2.1; have HB1 := Aside0.mk (((Below.refl _ W).alloc (Nat.le_refl _) _).trans (hb1.mono (by simp))); clear hR hb1; have x0 : w1.cell? ⟨b1, 0, none⟩ = some (.slice A1 clues.length c1) := (blk_cell (blk_below HBK.out HB1.out) 0).trans rfl; have x1 : ∀ o, (w1.alloc o).cell? ⟨b1, 0, none⟩ = some (.slice A1 clues.length c1) := fun o => (blk_cell (blk_alloc (blk_below HBK.out HB1.out) o) 0).trans rfl; have q3 : w1.heap.size ≠ b1 := Nat.ne_of_gt (blk_lt (blk_below HBK.out HB1.out)); have q4 : b1 ≠ w1.heap.size := fun h => q3 h.symm)
  refine (containsFunc_clue (fun c => impl_solutions_1_1.f k c.f0 c.f1 c.f2 v1 v2) 62 #[.pointer (some ⟨w1.heap.size, 0, none⟩)] EG.out A1 c1 clues b _ (Kd.C_below HCL.out ((HB1.out.trans ((Below.refl _ w1).alloc (Nat.le_refl _) _ |>.mono HB1.out.size)))) hc1 (impl_solutions_1_1.pred k v1 Av cv v2 w1.heap.size _ (blk_new w1 _) (Kd.C_below HR.out ((Below.refl _ w1).alloc (Nat.le_refl _) _)) HRC.out) HP.out).mono ?_
  rintro e w2 ⟨rfl, hb2⟩
  have HB2 := Aside0.mk (HB1.out.trans (((Below.refl _ w1).alloc (Nat.le_refl _) _).trans (hb2.mono (by simp)) |>.mono HB1.out.size))
  clear hb2 x1 x0
  go_wp2
  go_ret
  exact ⟨rfl, HB2.out⟩
def impl_solutions.f (k : Nat) (n : Int) (l : List S67) : Option (List S28) := (impl_allGames.f k n).bind fun gs => if gs.length ≤ 1000000 then filO (solP k l) gs else none
end Go.Proofs.YtgfdfabeninfeaaGreat.Q
end
section
namespace Go.Proofs.YtgfdfabeninfeaaGreat.Q
open Go.RowKit Go.Proofs.YtgfdfabeninfeaaGreatW.PrintWords Go.Proofs.YtgfdfabeninfeaaGreatW.PrintLast Go.Proofs.YtgfdfabeninfeaaGreatW.PrintMore
attribute [local go_sem] max2_int min2_int max_two min_two max_three min_three max_four min_four
set_option linter.unusedVariables false
set_option linter.unusedSimpArgs false
def impl_Solutions.f (k : Nat) (a0_0 : Int) (l0_1 : List (S67)) : Option ((List (S28)) × Bool) := (impl_IsPuzzle.f a0_0 l0_1).bind fun t356 => (if t356 = true then ((impl_solutions.f k a0_0 l0_1).bind fun t357 => (some (t357, true))) else (some (([] : List (S28)), false)))
def impl_FirstSolution.f (k : Nat) (a0_0 : Int) (l0_1 : List (S67)) : Option (Int × (List (List Int)) × Bool) := (impl_Solutions.f k a0_0 l0_1).bind fun bt362 => (if bt362.2 = true then (if (bt362.1.length : Int) = 0 then (some (0, ([] : List (List Int)), false)) else (if 0 < (bt362.1.length : Int) then (some ((rd_T28 bt362.1 0).f0, (rd_T28 bt362.1 0).f1, true)) else (none))) else (some (0, ([] : List (List Int)), false)))
end Go.Proofs.YtgfdfabeninfeaaGreat.Q
end
section
namespace Go.Proofs.YtgfdfabeninfeaaGreat.Q
open Go.RowKit Go.Proofs.YtgfdfabeninfeaaGreatW.PrintWords Go.Proofs.YtgfdfabeninfeaaGreatW.PrintLast Go.Proofs.YtgfdfabeninfeaaGreatW.PrintMore
set_option linter.unusedVariables false
set_option linter.unusedSimpArgs false
open Go.Shelf Go.Lib Go.Sort
structure QT (f : Nat → Nat) (W : World) (okq : Nat → Prop) (base : Nat) where
  v : Value
  x : S28 × Nat
  hM : (Kd.tag f kgS).M W base okq x [.int .i64 x.1.f0, v]
  hl : ∀ s ∈ x.1.f1, s.length ≤ 1152921504606846976
def QT.enc {f W okq base} (q : QT f W okq base) : List Value := [.int .i64 q.x.1.f0, q.v]
theorem QT.one {f W okq base} (q : QT f W okq base) : q.v.oneCell' = true := by
  obtain ⟨v1, e, h⟩ := kgS_openM q.hM
  have : q.v = v1 := Option.some.inj (show some q.v = some v1 from congrArg (fun l => l[1]?) e)
  rw [this]
  exact (Kd.R_val (Kd.S_R h)).2
instance {f W okq base} : Inhabited (QT f W okq base) := ⟨⟨.slice none 0 0, (⟨0, []⟩, 0), kgS_mkM W base _ ⟨0, []⟩ (Kd.S_nil _ _ _ _ _), by simp⟩⟩
theorem cmp_laysT (f : Nat → Nat) (W : World) (okq : Nat → Prop) (base g n : Nat) (hg : ∀ k, okq k → k ≠ g) :
    CmpLays Tryz.prog 88 #[] (fun q : QT f W okq base => q.enc) 2 (fun x y => cmpG x.x.1.f1 y.x.1.f1) g 0 n W := by
  intro m os dk hs x y
  have hgr := grownBy_sorted (fun v : Value => v) (w := W) (g := g) (n := m) (os := os) (flatK (fun q : QT f W okq base => q.enc) 2 dk)
  have hx := (Kd.tag f kgS).K_of_M (Kd.M_grown x.hM hgr (fun k hk e => hg k hk (by injection e)))
  have hy := (Kd.tag f kgS).K_of_M (Kd.M_grown y.hM hgr (fun k hk e => hg k hk (by injection e)))
  change kgS.K (sortWorldK (fun q : QT f W okq base => q.enc) 2 W g 0 m dk os) _ _ at hx
  change kgS.K (sortWorldK (fun q : QT f W okq base => q.enc) 2 W g 0 m dk os) _ _ at hy
  generalize sortWorldK (fun q : QT f W okq base => q.enc) 2 W g 0 m dk os = wS at hx hy
  obtain ⟨A, c, hxv, hxl, hxC⟩ := k28_open (kgS_K hx)
  obtain ⟨B, d, hyv, hyl, hyC⟩ := k28_open (kgS_K hy)
  replace hxv : x.v = _ := Option.some.inj (show some x.v = some _ from congrArg (fun l => l[1]?) hxv)
  replace hyv : y.v = _ := Option.some.inj (show some y.v = some _ from congrArg (fun l => l[1]?) hyv)
  have := compareGames.lays x.x.1.f0 y.x.1.f0 A B c d x.x.1.f1 y.x.1.f1 wS hxC hxl hyC hyl x.hl
  show Calls Tryz.prog 88 #[.agg #[.int .i64 x.x.1.f0, x.v], .agg #[.int .i64 y.x.1.f0, y.v]] wS _
  rw [hxv, hyv]
  exact this
theorem swo_lexT {f W okq base} : SWO (ltOf (fun x y : QT f W okq base => cmpG x.x.1.f1 y.x.1.f1)) where
  irrefl x := by unfold ltOf; rw [cmpG_lt]; exact lexG_irrefl _
  trans x y z h1 h2 := by unfold ltOf at *; rw [cmpG_lt] at *; exact lexG_trans _ _ _ h1 h2
  ntrans x y z h1 h2 := by unfold ltOf at *; rw [cmpG_lt] at *; exact lexG_ntrans _ _ _ h1 h2
theorem flat_innerT {f W okq base} {ss : List (QT f W okq base)} {inner : List Value} (hl : inner.length = ss.length * 2) (h : ∀ j (hj : j < ss.length), (inner.drop (j * 2)).take 2 = ss[j].enc) : inner = (flatK (fun q : QT f W okq base => q.enc) 2 ss.toArray).toList := by
  have hfs : (flatK (fun q : QT f W okq base => q.enc) 2 ss.toArray).size = ss.length * 2 := by rw [size_flatK, List.size_toArray]
  refine List.ext_getElem (hl.trans (hfs.symm.trans Array.length_toList.symm)) fun t h1 h2 => ?_
  have ht : t < ss.length * 2 := by omega
  have hj : t / 2 < ss.length := by omega
  have hm : t % 2 < 2 := Nat.mod_lt _ (by decide)
  have e : ((inner.drop (t / 2 * 2)).take 2)[t % 2]? = (ss[t / 2].enc)[t % 2]? := congrArg (fun z => z[t % 2]?) (h (t / 2) hj)
  rw [List.getElem?_take_of_lt hm, List.getElem?_drop, show t / 2 * 2 + t % 2 = t by omega, List.getElem?_eq_getElem h1] at e
  have g := get_flatK (fun q : QT f W okq base => q.enc) 2 ss.toArray t (by rw [List.size_toArray]; exact ht)
  rw [getElem!_pos _ t (by rw [size_flatK, List.size_toArray]; exact ht)] at g
  refine Eq.trans ?_ (Eq.trans g.symm (Array.getElem_toList ..).symm)
  have e2 : ss.toArray[t / 2]! = ss[t / 2] := by rw [getElem!_pos _ _ (by rw [List.size_toArray]; exact hj), List.getElem_toArray]
  rw [e2]
  have hel : (ss[t / 2]).enc.length = 2 := rfl
  rw [List.getElem?_eq_getElem (by rw [hel]; exact hm)] at e
  rw [getElem!_pos (ss[t / 2].enc) (t % 2) (by rw [hel]; exact hm)]
  exact Option.some.inj e
theorem flat_segT {f W okq base} (ss : List (QT f W okq base)) (j : Nat) (hj : j < ss.length) : (((flatK (fun q : QT f W okq base => q.enc) 2 ss.toArray).toList).drop (j * 2)).take 2 = ss[j].enc := by
  have hel : (ss[j]).enc.length = 2 := rfl
  refine List.ext_getElem (by rw [List.length_take, List.length_drop, Array.length_toList, size_flatK, List.size_toArray, hel]; omega) fun t h1 h2 => ?_
  have ht : t < 2 := by rw [hel] at h2; exact h2
  rw [List.getElem_take, List.getElem_drop, Array.getElem_toList]
  have g := get_flatK (fun q : QT f W okq base => q.enc) 2 ss.toArray (j * 2 + t) (by rw [List.size_toArray]; omega)
  rw [getElem!_pos _ _ (by rw [size_flatK, List.size_toArray]; omega)] at g
  rw [g, show (j * 2 + t) / 2 = j by omega, show (j * 2 + t) % 2 = t by omega]
  have e2 : ss.toArray[j]! = ss[j] := by rw [getElem!_pos _ _ (by rw [List.size_toArray]; exact hj), List.getElem_toArray]
  rw [e2, getElem!_pos (ss[j].enc) t h2]
theorem sortGamesT.calls (f : Nat → Nat) (l : List (S28 × Nat)) (t : List S28) (A : Option Addr) (c base : Nat) (ok : Nat → Prop) (w : World) (hR : (Kd.tag f kgS).R 28 w base ok (.slice A l.length c) l) (h : sortGames.f (l.map Prod.fst) = some t) :
    Calls Tryz.prog 87 #[.slice A l.length c, .func (.func 88) #[] #[]] w fun e w' =>
      e = .returned (.tuple #[]) ∧ ∃ t', t'.map Prod.fst = t ∧ t'.Perm l ∧ (Kd.tag f kgS).R 28 w' base ok (.slice A l.length c) t' ∧ w.grownBy w' (Value.slice A l.length c).ownBlock := by
  unfold sortGames.f at h
  split at h
  case isFalse => cases h
  rename_i hall
  rw [Bool.and_eq_true, decide_eq_true_eq] at hall
  obtain ⟨hsz, hall⟩ := hall
  rw [List.length_map] at hsz
  obtain rfl := Option.some.inj h
  generalize ((l.map Prod.fst).headD z28).f0 = m at hall
  have hall0 : ∀ x ∈ l, x.1.f0 = m ∧ ∀ s ∈ x.1.f1, s.length ≤ 1152921504606846976 := fun x hx => by
    have := List.all_eq_true.1 hall x.1 (List.mem_map_of_mem hx)
    rw [Bool.and_eq_true, decide_eq_true_eq] at this
    exact ⟨this.1, fun s hs => of_decide_eq_true (List.all_eq_true.1 this.2 s hs)⟩
  by_cases h0 : l.length = 0
  · have hl0 := List.length_eq_zero_iff.1 h0
    subst hl0
    have hcon := AnyF.slices_SortFunc_none { ly87 with } A c (.func (.func 88) #[] #[]) w
    change Calls Tryz.prog 87 _ _ _ at hcon
    refine hcon.mono ?_
    rintro e w' ⟨rfl, rfl⟩
    exact ⟨rfl, [], rfl, List.Perm.refl _, hR, ⟨rfl, rfl, rfl, Nat.le_refl _, fun _ _ _ => rfl⟩⟩
  obtain ⟨hok, inner, ho, hr⟩ := hR
  rcases ho.2 with ⟨hv, hn⟩ | ⟨g, cap, cur, hv, hbase, hb, h1, h2, h3, h4⟩
  · exact absurd hn h0
  injection hv with hA _ hc
  subst hA; subst hc
  have hil : inner.length = l.length * 2 := ho.1
  change cur.size = c * 2 at h3
  change cur.toList.take (l.length * 2) = inner at h4
  have key : ∀ j : Nat, ∃ q : QT f w (fun k => ok k ∧ k ≠ g) base, j < l.length → q.x = l.getD j (z28, 0) ∧ (inner.drop (j * 2)).take 2 = q.enc := by
    intro j
    by_cases hj : j < l.length
    · have hp := hr.2 j _ (List.getElem?_eq_getElem hj)
      obtain ⟨v, hv, _⟩ := kgS_openM hp
      have hp2 := hp
      rw [hv] at hp2
      refine ⟨⟨v, l[j], (Kd.tag f kgS).M_mono (fun k hk => ⟨hk.1, fun e => hk.2 (by rw [e]; rfl)⟩) hp2, (hall0 _ (List.getElem_mem hj)).2⟩, fun _ => ⟨?_, hv⟩⟩
      rw [List.getD_eq_getElem?_getD, List.getElem?_eq_getElem hj]; rfl
    · exact ⟨default, fun e => absurd e hj⟩
  obtain ⟨fq, hfq⟩ := Classical.axiomOfChoice key
  obtain ⟨ss, hss⟩ : ∃ ss, ss = (List.range l.length).map fq := ⟨_, rfl⟩
  have hsl : ss.length = l.length := by rw [hss]; simp
  have hget : ∀ j (hj : j < ss.length), ss[j] = fq j := fun j hj => by simp [hss]
  have hinn : inner = (flatK (fun q : QT f w (fun k => ok k ∧ k ≠ g) base => q.enc) 2 ss.toArray).toList := flat_innerT (by rw [hil, hsl]) fun j hj => by rw [hget j hj]; exact (hfq j (by omega)).2
  have hsll : ss.map QT.x = l := by
    refine List.ext_getElem (by rw [List.length_map]; exact hsl) fun j h1 h2 => ?_
    rw [List.getElem_map, hget, (hfq j h2).1, List.getD_eq_getElem?_getD, List.getElem?_eq_getElem h2]; rfl
  have hH : HoldsK (fun q : QT f w (fun k => ok k ∧ k ≠ g) base => q.enc) 2 w g 0 ss.toArray := by
    have := holds_of_block (fun v : Value => v) (ss := (flatK (fun q : QT f w (fun k => ok k ∧ k ≠ g) base => q.enc) 2 ss.toArray).toList) hb (by rw [← hinn, hil, h4, List.map_id'])
    rwa [Array.toArray_toList] at this
  have eg : ∀ args w, (callFunc 88 args).run Tryz.prog w = .ok (.enter 88 args) w := enters_of Tryz.func88 (by kernel_rfl) rfl
  have hcon := AnyQ.slices_SortFunc ly87 2 isAggG sizeOfG (fun q : QT f w (fun k => ok k ∧ k ≠ g) base => q.enc) (fun _ => rfl) (fun q v hv => by simp [QT.enc] at hv; rcases hv with rfl | rfl; exact rfl; exact q.one) (fun x y => cmpG x.x.1.f1 y.x.1.f1) swo_lexT 88 #[] g 0 c ss.toArray w eg (cmp_laysT f w _ base g _ (fun k hk => hk.2)) hH (Array.getElem?_eq_some_iff.1 hb).1 (by rw [List.size_toArray, hsl]; omega)
  change Calls Tryz.prog 87 _ _ _ at hcon
  rw [List.size_toArray, hsl] at hcon
  refine hcon.mono ?_
  rintro e w' ⟨rfl, d', n, os, hp, hs, rfl⟩
  obtain ⟨ts, rfl⟩ : ∃ ts : List _, d' = ts.toArray := ⟨d'.toList, rfl⟩
  obtain ⟨fl, hfl⟩ : ∃ fl, fl = flatK (fun q : QT f w (fun k => ok k ∧ k ≠ g) base => q.enc) 2 ts.toArray := ⟨_, rfl⟩
  have hgr := grownBy_sorted (fun v : Value => v) (w := w) (g := g) (n := n) (os := os) fl
  have hhp := heap_sorted (fun v : Value => v) (w := w) (g := g) (n := n) (os := os) fl hb
  have hws : sortWorldK (fun q : QT f w (fun k => ok k ∧ k ≠ g) base => q.enc) 2 w g 0 n ts.toArray os = sortWorld (fun v : Value => v) w g 0 n fl os := by rw [hfl]; rfl
  rw [hws]
  have hperm : ts.Perm ss := perm_of_PermIn (d := ss.toArray) (by simpa [hsl] using hp)
  have htl : ts.length = l.length := by rw [hperm.length_eq, hsl]
  have hsort : ts.Pairwise (fun a b => ltOf (fun x y : QT f w (fun k => ok k ∧ k ≠ g) base => cmpG x.x.1.f1 y.x.1.f1) b a = false) := pairwise_of_SortedIn (d := ts.toArray) (by simpa [htl] using hs)
  have ht1 : ts.map (fun q => q.x.1.f1) = sortL lexG ((l.map Prod.fst).map fun x => x.f1) := by
    refine sortL_eq lexG lexG_ntrans (fun _ _ => lexG_asymm) lexG_total ?_ ?_
    · rw [← hsll, List.map_map, List.map_map]; exact hperm.map _
    · rw [List.pairwise_map]
      refine hsort.imp fun h => ?_
      unfold ltOf at h
      rwa [cmpG_lt] at h
  have hpx : (ts.map QT.x).Perm l := by rw [← hsll]; exact hperm.map _
  have ht : (ts.map QT.x).map Prod.fst = (sortL lexG ((l.map Prod.fst).map fun x => x.f1)).map fun s => (⟨m, s⟩ : S28) := by
    rw [← ht1, List.map_map, List.map_map]
    refine List.map_congr_left fun q hq => ?_
    have hm : q.x ∈ l := by rw [← hsll]; exact List.mem_map_of_mem (hperm.mem_iff.1 hq)
    have := (hall0 _ hm).1
    show q.x.1 = ⟨m, q.x.1.f1⟩
    rw [← this]
  have hfsz : fl.size = l.length * 2 := by rw [hfl, size_flatK, List.size_toArray, htl]
  have htk : (putCells (fun v : Value => v) 0 fl cur).toList.take (l.length * 2) = fl.toList := by
    have := take_putCells (fun v : Value => v) cur fl.toList (by rw [Array.length_toList, hfsz, h3]; omega)
    rw [Array.toArray_toList, Array.length_toList, hfsz, List.map_id'] at this
    exact this
  refine ⟨rfl, ts.map QT.x, ht, hpx, ⟨hok, fl.toList, ⟨by rw [Array.length_toList, List.length_map, htl]; exact hfsz, .inr ⟨g, c, _, by rw [List.length_map, htl], hbase, hhp, by rw [List.length_map, htl]; exact h1, h2, by simp [putCells]; exact h3, by rw [List.length_map, htl]; exact htk⟩⟩, ⟨by rw [Array.length_toList, List.length_map, htl]; exact hfsz, fun j p hj => ?_⟩⟩, hgr⟩
  rw [List.getElem?_map] at hj
  obtain ⟨q, hq, rfl⟩ := Option.map_eq_some_iff.1 hj
  obtain ⟨hjl, hqe⟩ := List.getElem?_eq_some_iff.1 hq
  have hseg := flat_segT ts j hjl
  rw [← hfl, hqe] at hseg
  show (Kd.tag f kgS).M _ _ _ _ ((fl.toList.drop (j * 2)).take 2)
  rw [hseg]
  exact (Kd.tag f kgS).M_mono (fun k hk => ⟨hk.1, fun e => hk.2 (by injection e)⟩) (Kd.M_grown q.hM hgr (fun k hk e => hk.2 (by injection e)))
theorem sortGamesS.calls (l t : List S28) (A : Option Addr) (c base : Nat) (ok : Nat → Prop) (w : World) (hR : Kd.S kgS 28 w base ok (.slice A l.length c) l) (h : sortGames.f l = some t) :
    Calls Tryz.prog 87 #[.slice A l.length c, .func (.func 88) #[] #[]] w fun e w' =>
      e = .returned (.tuple #[]) ∧ Kd.S kgS 28 w' base ok (.slice A l.length c) t ∧ t.length = l.length ∧ w.grownBy w' (Value.slice A l.length c).ownBlock := by
  obtain ⟨f, hf⟩ := hR
  have h2 := sortGamesT.calls f l.zipIdx t A c base ok w (by rw [List.length_zipIdx]; exact hf) (by rw [zip_fst]; exact h)
  rw [List.length_zipIdx] at h2
  refine h2.mono ?_
  rintro e w' ⟨rfl, t', rfl, hp, hR, hg⟩
  exact ⟨rfl, S_retag hR ((hp.map Prod.snd).nodup_iff.2 (zip_nodup l)), by rw [List.length_map, hp.length_eq, List.length_zipIdx], hg⟩
end Go.Proofs.YtgfdfabeninfeaaGreat.Q
end
section
namespace Go.Proofs.YtgfdfabeninfeaaGreat.Q
open Go.RowKit Go.Proofs.YtgfdfabeninfeaaGreatW.PrintWords Go.Proofs.YtgfdfabeninfeaaGreatW.PrintLast Go.Proofs.YtgfdfabeninfeaaGreatW.PrintMore
set_option linter.unusedVariables false
set_option linter.unusedSimpArgs false
theorem S_elderN {α : Type} {d : Kd α} {e base : Nat} {W w1 : World} {ok : Nat → Prop} {u v : Value} {xs : List α} (h : Kd.S d e W base ok u xs) (hbase : ∀ k, v.ownBlock = some k → W.heap.size ≤ k) (hb : Below W.heap.size W w1) : Kd.S d e w1 base (fun k => (ok k ∧ some k ≠ v.ownBlock) ∧ k < W.heap.size) u xs := Kd.S_told (Kd.S_old h hb) hbase
set_option maxHeartbeats 8000000 in
set_option maxRecDepth 100000 in
theorem impl_allGamesS.calls (k : Nat) (a0 : Int) (r : List (S28)) (w : World) (h : impl_allGames.f k a0 = some r) :
  Calls Tryz.prog 59 #[.int .i64 a0] w fun e w' => ∃ v0_ : Value, e = .returned (v0_) ∧ Kd.S kgS 28 w' w.heap.size (fun _ => True) v0_ r ∧ Below w.heap.size w w' := by
 have hu81 := Tryz.underlying81
 have HB := Aside0.mk (Below.refl w.heap.size w)
 have H : ((impl_tables.f k a0).bind fun t271 => (impl_allGames.l0 k a0 (([] : List (S28))) t271 (t271.length : Int) 0)) = some r := h
 clear h
 obtain ⟨y268, hy268⟩ : ∃ y_ : List (S28), y_ = (([] : List (S28))) := ⟨_, rfl⟩
 replace H : ((impl_tables.f k a0).bind fun t271 => (impl_allGames.l0 k a0 y268 t271 (t271.length : Int) 0)) = some r := by first | (rw [hy268]; with_reducible exact H) | (have H2_ := (Option.bind_some _ _).symm.trans H; rw [hy268]; with_reducible exact H2_) | (have H2_ := (Option.bind_some _ _).symm.trans H; with_reducible exact H2_) | with_reducible exact H | (rw [hy268]; exact H) | exact H
 have Ny268 := Aside0.mk hy268
 clear hy268
 replace H := Option.bind_eq_some_iff.mp H
 obtain ⟨t271, A20, H⟩ := H
 replace H : (impl_allGames.l0 k a0 y268 t271 (t271.length : Int) 0) = some r := H
 have A2 := Aside0.mk A20
 clear A20
 have H' := Aside0.mk H
 clear H
 go_enter Tryz.func59, Tryz.ntmps59
 go_wp2_with (first | ((with_reducible refine gate_dst (N := 7) rfl ?_); refine Kd.S_lit kgS _ 28 ?hg (N := 7) ?hd (xs := ([] : List (S28))) (inner := []) (ok := fun _ => True) (okp := fun _ => True) ?hr ?hp (fun _ hk => hk) trivial (Below.refl _ _) (Nat.le_refl _) (by simp) ?_; (case hd => rfl); (case hg => rfl); (case hr => first | (go_simp; done) | (go_simp; rfl)); (case hp => exact (Reps.none _ _)); intro v269 w3 ho4 hb hg_ hnew_; clear hg_ hnew_; (first | rw [← Ny268.out] at ho4 | (simp only [Int.reduceToNat] at ho4; rw [← Ny268.out] at ho4)); have n0_ := Aside0.mk (Kd.S_lower ho4 (below_size (zh HB.out))); have n1_ := Aside0.mk (below_step (zh HB.out) hb); clear HB; have HO270 := n0_; have HB := n1_; clear n0_ n1_; clear hb ho4) | ((with_reducible refine gate_callee (f := 81) rfl ?_); refine goesL_ (some 9) rfl rfl Tryz.func81 (by kernel_rfl) rfl #[.int .i64 a0] rfl (by (try simp only [List.map_toArray, List.map_cons, List.map_nil]); first | done | rfl | (simp only [List.length_drop, List.length_take]; rfl)) ?_; (with_reducible refine (impl_tables.calls k a0 t271 _ A2.out).mono ?_); rintro e w5 ⟨v272, rfl, ho0, hb⟩; refine ⟨_, rfl, ?_⟩; have n0_ := Aside0.mk (Kd.S_elder' (by (with_reducible repeat (first | apply Kd.S_alloc | apply Kd.S_drewN | apply Kd.S_drew)); exact HO270.out) (Kd.R_base ho0) hb); have n1_ := Aside0.mk (Kd.R_lower ho0 (below_size (zh HB.out))); have n2_ := Aside0.mk (below_step (zh HB.out) hb); clear HO270; clear HB; have HO270 := n0_; have HO273 := n1_; have HB := n2_; clear n0_ n1_ n2_; (try clear hb); (try clear hb2); (try clear hk); (try clear hi); (try clear ho0); obtain ⟨Ao6, co6, eo6⟩ := Kd.R_slice HO273.out; subst eo6))
 go_loopg [3, 11] k (fun kq v3 v11 w' => ∃ (x3_1 : List (S28)) (x11_1 : Int), v11 = .int .i64 x11_1 ∧ Aside0 (impl_allGames.l0 kq a0 x3_1 t271 (t271.length : Int) x11_1 = some r) ∧ Aside0 (kq ≤ k) ∧ Aside0 (Kd.S kgS 28 w' w.heap.size (fun k_ => True) v3 x3_1) ∧ Aside0 (Kd.R (Kd.int .i64) 3 w' w.heap.size (fun _ => True) (.slice Ao6 t271.length co6) t271) ∧ Aside0 (Below w.heap.size w w'))
 case atStart => exact ⟨(y268), (0), (by first | rfl | (simp; done) | (simp [*]; done)), H', ⟨Nat.le_refl _⟩, ⟨by (with_reducible repeat (first | apply Kd.S_alloc | apply Kd.S_drewN | apply Kd.S_drew)); exact Kd.S_mono HO270.out (fun _ _ => trivial)⟩, ⟨by (with_reducible repeat (first | apply Kd.R_alloc | apply Kd.R_drewN | apply Kd.R_drew)); exact HO273.out⟩, ⟨by repeat (first | (with_reducible first | exact HB.out | apply below_alloc | apply pw_below_drewN | apply below_drew1) | exact HB.out)⟩⟩
 case round =>
  clear H'
  try clear p2
  try clear c5
  obtain ⟨x3_1, x11_1, rfl, HA, HK1, HO_3, HO_9, HB⟩ := hrel
  cases gk with
  | zero => exact absurd HA.out (by simp [impl_allGames.l0])
  | succ k1 =>
   have H := HA.out
   clear HA
   simp only [impl_allGames.l0] at H
   by_cases c7 : x11_1 < (t271.length : Int)
   rotate_left
   ·rw [if_neg c7] at H
    have c7b0 : decide (x11_1 < (t271.length : Int)) = false := decide_eq_false c7
    clear c7
    replace H := Option.bind_eq_some_iff.mp H
    obtain ⟨t_, A540, H⟩ := H
    replace H : (some t_) = some r := H
    have A54 := Aside0.mk A540
    clear A540
    obtain rfl := Option.some.inj H
    obtain ⟨Ao55, co55, eo55⟩ := Kd.S_slice HO_3.out
    subst eo55
    go_wp2_with (first | ((with_reducible refine gate_callee (f := 87) rfl ?_); refine goesL_ (some 38) rfl rfl Tryz.func87 (by kernel_rfl) rfl #[.slice Ao55 x3_1.length co55, .func (.func 88) #[] #[]] rfl (by (try simp only [List.map_toArray, List.map_cons, List.map_nil]); first | done | rfl | (simp only [List.length_drop, List.length_take]; rfl)) ?_; refine (sortGamesS.calls x3_1 t_ _ _ w.heap.size (fun _ => True) _ ?side1 A54.out).mono ?_; (case side1 => exact Kd.S_mono (by (with_reducible repeat (first | apply Kd.S_alloc | apply Kd.S_drewN | apply Kd.S_drew)); exact HO_3.out) (fun _ _ => trivial)); rintro e w' ⟨rfl, hs_, hl_, hg_⟩; refine ⟨_, rfl, ?_⟩; have n0_ := Aside0.mk hs_; have hB_ := ((zh HB.out) : Below w.heap.size w _); have n2_ := Aside0.mk (Below.grown hB_ hg_ (below_size hB_) (Kd.S_base HO_3.out)); (try clear HO_9); clear HO_3; clear HB; have HO_3 := n0_; have HB := n2_; clear n0_ n2_ hs_ hl_ hg_ hB_))
    go_ret
    exact ⟨_, by first | rfl | (simp [*, errW_none, errW_some] <;> rfl), by (with_reducible repeat (first | apply Kd.S_alloc | apply Kd.S_drewN | apply Kd.S_drew)); exact Kd.S_mono HO_3.out (fun _ _ => trivial), by repeat (first | (with_reducible first | exact HB.out | apply below_alloc | apply pw_below_drewN | apply below_drew1) | exact HB.out)⟩
   rw [if_pos c7] at H
   have c7b0 : decide (x11_1 < (t271.length : Int)) = true := decide_eq_true c7
   clear c7
   by_cases c8 : 0 ≤ x11_1
   rotate_left
   ·rw [if_neg c8] at H
    exact absurd H (by simp)
   rw [if_pos c8] at H
   have c8b0 : decide (0 ≤ x11_1) = true := decide_eq_true c8
   clear c8
   by_cases c9 : x11_1 < (t271.length : Int)
   rotate_left
   ·rw [if_neg c9] at H
    exact absurd H (by simp)
   rw [if_pos c9] at H
   have c9b0 : decide (x11_1 < (t271.length : Int)) = true := decide_eq_true c9
   clear c9
   replace H := Option.bind_eq_some_iff.mp H
   obtain ⟨⟨t276, t277⟩, A100, H⟩ := H
   replace H : (if 0 < (t277.length : Int) then (if rdOf false t277 0 = true then (impl_allGames.l0 k1 a0 x3_1 t271 (t271.length : Int) (wrap64 (x11_1 + 1))) else ((impl_votes_all.f t276 t277).bind fun t282 => (if 0 ≤ t282 then (if t282 < (t277.length : Int) then (if rdOf false t277 t282 = true then ((impl_votes_game.f k1 t276 t277).bind fun bt284 => (if x3_1.length < 4398046511104 then (impl_allGames.l0 k1 a0 (x3_1 ++ [(⟨bt284.1, bt284.2⟩ : S28)]) t271 (t271.length : Int) (wrap64 (x11_1 + 1))) else (none))) else (impl_allGames.l0 k1 a0 x3_1 t271 (t271.length : Int) (wrap64 (x11_1 + 1)))) else (none)) else (none)))) else (none)) = some r := H
   have A10 := Aside0.mk A100
   clear A100
   by_cases c11 : 0 < (t277.length : Int)
   rotate_left
   ·rw [if_neg c11] at H
    exact absurd H (by simp)
   rw [if_pos c11] at H
   have c11b0 : decide (0 < (t277.length : Int)) = true := decide_eq_true c11
   have c11b1 : decide (0 < t277.length) = true := decide_eq_true (by omega)
   clear c11
   obtain ⟨bq12, hbq12⟩ : ∃ b_ : Bool, b_ = (rdOf false t277 0) := ⟨_, rfl⟩
   replace H : (if bq12 = true then (impl_allGames.l0 k1 a0 x3_1 t271 (t271.length : Int) (wrap64 (x11_1 + 1))) else ((impl_votes_all.f t276 t277).bind fun t282 => (if 0 ≤ t282 then (if t282 < (t277.length : Int) then (if rdOf false t277 t282 = true then ((impl_votes_game.f k1 t276 t277).bind fun bt284 => (if x3_1.length < 4398046511104 then (impl_allGames.l0 k1 a0 (x3_1 ++ [(⟨bt284.1, bt284.2⟩ : S28)]) t271 (t271.length : Int) (wrap64 (x11_1 + 1))) else (none))) else (impl_allGames.l0 k1 a0 x3_1 t271 (t271.length : Int) (wrap64 (x11_1 + 1)))) else (none)) else (none)))) = some r := by rw [← hbq12] at H; exact H
   have Nbq12 := Aside0.mk hbq12
   clear hbq12
   by_cases c13 : bq12 = true
   ·subst c13
    have H1 : (impl_allGames.l0 k1 a0 x3_1 t271 (t271.length : Int) (wrap64 (x11_1 + 1))) = some r := by rw [if_pos rfl] at H; exact H
    clear H
    have H := H1
    clear H1
    have H' := Aside0.mk H
    clear H
    have p274 : 0 ≤ (x11_1 : Int) := of_decide_eq_true (by first | (with_reducible assumption) | assumption)
    have q274 : x11_1 < (t271.length : Int) := of_decide_eq_true (by first | (with_reducible assumption) | assumption)
    obtain ⟨ad274, e274, hx274_0⟩ := Kd.at_int (Kd.R_reads' HO_9.out).2.2 x11_1 p274 q274
    cases e274
    replace p274 := eq_true p274
    replace q274 := eq_true q274
    try go_wp2_with (first | ((with_reducible refine gate_dst (N := 5) rfl ?_); refine box_event ?hg (N := 5) ?hd (cs := #[.int .i64 0]) (t := 3) ?hr ?_; (case hd => rfl); (case hg => rfl); (case hr => first | (go_simp; done) | (go_simp; rfl)); intro gb275 hg w14 hbox hb; have n0_ := Aside0.mk (Kd.S_below (Kd.S_elderB (by (with_reducible repeat (first | apply Kd.S_alloc | apply Kd.S_drewN | apply Kd.S_drew)); exact HO_3.out) gb275 (Nat.le_of_eq hg.symm)) hb); have n1_ := Aside0.mk (Kd.R_below (Kd.R_elderB (zr HO_9.out) gb275 (Nat.le_of_eq hg.symm)) hb); have n2_ := Aside0.mk (below_step (zh HB.out) hb); have n3_ := Aside0.mk (hbox); have n4_ := Aside0.mk ((by rw [hg]; exact (below_size (zh HB.out)) : w.heap.size ≤ gb275)); have n5_ := Aside0.mk ((by rw [hg]; exact (below_size (zh HB.out)) : w.heap.size ≤ gb275)); clear HO_3; clear HO_9; clear HB; have HO_3 := n0_; have HO_9 := n1_; have HB := n2_; have BK275 := n3_; have GW275 := n4_; have GE275 := n5_; clear n0_ n1_ n2_ n3_ n4_ n5_; clear hb hbox hg; have hcz15_0 : w14.cell? ⟨gb275, 0, none⟩ = some (.int .i64 0) := (blk_cell BK275.out 0).trans rfl; have hfz15_0 := blk_frozen BK275.out 0) | ((with_reducible refine gate_callee (f := 82) rfl ?_); refine goesL_ (some 17) rfl rfl Tryz.func82 (by kernel_rfl) rfl #[.int .i64 a0, .func (.func 83) #[] #[.pointer (some ⟨gb275, 0, none⟩)]] rfl (by (try simp only [List.map_toArray, List.map_cons, List.map_nil]); first | done | rfl | (simp only [List.length_drop, List.length_take]; rfl)) ?_; (with_reducible refine (votesOf_allGames.calls k1 a0 (rd t271 x11_1) t276 t277 _ gb275 (by first | exact (blk_cell (zb BK275.out) 0).trans rfl | exact (blk_cell (blk_put (zb BK275.out) 0 _ rfl) 0).trans rfl | exact zb BK275.out) A10.out).mono ?_); rintro e w16 ⟨v278, rfl, ho0, hb⟩; refine ⟨_, rfl, ?_⟩; have n0_ := Aside0.mk (Kd.S_below (by (with_reducible repeat (first | apply Kd.S_alloc | apply Kd.S_drewN | apply Kd.S_drew)); exact (Kd.S_mono (Kd.S_far (p := ⟨gb275, 0, none⟩) (Kd.S_mono HO_3.out (fun k_ hk => (⟨hk, hk.2⟩ : _ ∧ k_ ≠ gb275))) (fun _ hk => hk.2) (.int .i64 (rd t271 x11_1))) (fun _ h_ => h_.1))) hb); have n1_ := Aside0.mk (Kd.R_below (by (with_reducible repeat (first | apply Kd.R_alloc | apply Kd.R_drewN | apply Kd.R_drew)); exact (Kd.R_mono (Kd.R_far (p := ⟨gb275, 0, none⟩) (Kd.R_mono HO_9.out (fun k_ hk => (⟨hk, hk.2⟩ : _ ∧ k_ ≠ gb275))) (fun _ hk => hk.2) (.int .i64 (rd t271 x11_1))) (fun _ h_ => h_.1))) hb); have n2_ := Aside0.mk (Kd.R_lower ho0 (below_size (zh HB.out))); have n3_ := Aside0.mk (blk_below (g := gb275) (o := .cells #[.int .i64 (rd t271 x11_1)] 3 (0, 0)) (by (with_reducible repeat (first | refine blk_drewN ?_ _ | refine blk_drew ?_ | refine blk_alloc ?_ _)); refine blk_put (cs := #[.int .i64 0]) ?_ 0 _ rfl; (with_reducible repeat (first | refine blk_drewN ?_ _ | refine blk_drew ?_ | refine blk_alloc ?_ _)); exact BK275.out) hb); have n4_ := Aside0.mk (below_step (zh HB.out) hb); clear HO_3; clear HO_9; clear BK275; clear HB; have HO_3 := n0_; have HO_9 := n1_; have HO279 := n2_; have BK275 := n3_; have HB := n4_; clear n0_ n1_ n2_ n3_ n4_; (try clear hb); (try clear hb2); (try clear hk); (try clear hi); (try clear ho0)) | ((with_reducible refine gate_dst (N := 6) rfl ?_); refine box_event ?hg (N := 6) ?hd (cs := #[.int .i64 0, .slice none 0 0]) (t := 81) ?hr ?_; (case hd => rfl); (case hg => rfl); (case hr => first | (go_simp; done) | (go_simp; rfl)); intro gb280 hg w17 hbox hb; have n0_ := Aside0.mk (Kd.S_below (by (with_reducible repeat (first | apply Kd.S_alloc | apply Kd.S_drewN | apply Kd.S_drew)); exact HO_3.out) hb); have n1_ := Aside0.mk (Kd.R_below (zr HO_9.out) hb); have n2_ := Aside0.mk (Kd.R_below (zr HO279.out) hb); have n3_ := Aside0.mk (blk_below (g := gb275) (o := .cells #[.int .i64 (rd t271 x11_1)] 3 (0, 0)) (zb BK275.out) hb); have n4_ := Aside0.mk (below_step (zh HB.out) hb); have n5_ := Aside0.mk (hbox); have n6_ := Aside0.mk ((by rw [hg]; exact (below_size (zh HB.out)) : w.heap.size ≤ gb280)); have n7_ := Aside0.mk ((by rw [hg]; exact (below_size (zh HB.out)) : w.heap.size ≤ gb280)); have n8_ := Aside0.mk ((by rw [hg]; exact Nat.ne_of_lt (blk_lt (g := gb275) (o := .cells #[.int .i64 (rd t271 x11_1)] 3 (0, 0)) (zb BK275.out)) : gb275 ≠ gb280)); have n9_ := Aside0.mk ((by rw [hg]; exact Nat.ne_of_gt (blk_lt (g := gb275) (o := .cells #[.int .i64 (rd t271 x11_1)] 3 (0, 0)) (zb BK275.out)) : gb280 ≠ gb275)); clear HO_3; clear HO_9; clear HO279; clear BK275; clear HB; have HO_3 := n0_; have HO_9 := n1_; have HO279 := n2_; have BK275 := n3_; have HB := n4_; have BK280 := n5_; have GW280 := n6_; have GE280 := n7_; have NB275_280 := n8_; have NB280_275 := n9_; clear n0_ n1_ n2_ n3_ n4_ n5_ n6_ n7_ n8_ n9_; clear hb hbox hg; have hnb18 := NB280_275.out; have hnc18 := NB275_280.out; have hcz19_0 : w17.cell? ⟨gb280, 0, none⟩ = some (.int .i64 0) := (blk_cell BK280.out 0).trans rfl; have hcz19_1 : w17.cell? ⟨gb280, 1, none⟩ = some (.slice none 0 0) := (blk_cell BK280.out 1).trans rfl; have hfz19_0 := blk_frozen BK280.out 0; have hfz19_1 := blk_frozen BK280.out 1; obtain ⟨Ao20, co20, eo20⟩ := Kd.R_slice HO279.out; subst eo20))
    have n0_ : Aside0 (Kd.S kgS 28 ((w17.setCell ⟨gb280, 0, none⟩ (.int .i64 t276)).setCell ⟨gb280, 1, none⟩ (.slice Ao20 t277.length co20)) w.heap.size (fun k_ => True ∧ k_ ≠ gb275) u3 x3_1) := ⟨by (with_reducible repeat (first | apply Kd.S_alloc | apply Kd.S_drewN | apply Kd.S_drew)); exact Kd.S_mono (Kd.S_far (p := ⟨gb280, 1, none⟩) (Kd.S_far (p := ⟨gb280, 0, none⟩) (Kd.S_types HO_3.out BK280.out (by decide)) (fun _ hk => hk.2) (.int .i64 t276)) (fun _ hk => hk.2) (.slice Ao20 t277.length co20)) (fun _ hk => ⟨hk.1.1, hk.1.2⟩)⟩
    have n1_ : Aside0 (Kd.R (Kd.int .i64) 3 ((w17.setCell ⟨gb280, 0, none⟩ (.int .i64 t276)).setCell ⟨gb280, 1, none⟩ (.slice Ao20 t277.length co20)) w.heap.size (fun k_ => k_ ≠ gb275) (.slice (some ad274) t271.length co6) t271) := ⟨by (with_reducible repeat (first | apply Kd.R_alloc | apply Kd.R_drewN | apply Kd.R_drew)); exact Kd.R_mono (Kd.R_far (p := ⟨gb280, 1, none⟩) (Kd.R_far (p := ⟨gb280, 0, none⟩) (Kd.R_types HO_9.out BK280.out (by decide)) (fun _ hk => hk.2) (.int .i64 t276)) (fun _ hk => hk.2) (.slice Ao20 t277.length co20)) (fun _ hk => hk.1.2)⟩
    have n2_ : Aside0 (Kd.R Kd.bool 4 ((w17.setCell ⟨gb280, 0, none⟩ (.int .i64 t276)).setCell ⟨gb280, 1, none⟩ (.slice Ao20 t277.length co20)) w.heap.size (fun _ => True) (.slice Ao20 t277.length co20) t277) := ⟨by (with_reducible repeat (first | apply Kd.R_alloc | apply Kd.R_drewN | apply Kd.R_drew)); exact Kd.R_mono (Kd.R_far (p := ⟨gb280, 1, none⟩) (Kd.R_far (p := ⟨gb280, 0, none⟩) (Kd.R_types HO279.out BK280.out (by decide)) (fun _ hk => hk.2) (.int .i64 t276)) (fun _ hk => hk.2) (.slice Ao20 t277.length co20)) (fun _ hk => trivial)⟩
    have n3_ : Aside0 (((w17.setCell ⟨gb280, 0, none⟩ (.int .i64 t276)).setCell ⟨gb280, 1, none⟩ (.slice Ao20 t277.length co20)).heap[gb275]? = some (.cells #[.int .i64 (rd t271 x11_1)] 3 (0, 0))) := ⟨by (with_reducible repeat (first | refine blk_drewN ?_ _ | refine blk_drew ?_ | refine blk_alloc ?_ _)); refine blk_far ?_ NB275_280.out _; (with_reducible repeat (first | refine blk_drewN ?_ _ | refine blk_drew ?_ | refine blk_alloc ?_ _)); refine blk_far ?_ NB275_280.out _; (with_reducible repeat (first | refine blk_drewN ?_ _ | refine blk_drew ?_ | refine blk_alloc ?_ _)); exact BK275.out⟩
    have n4_ : Aside0 (((w17.setCell ⟨gb280, 0, none⟩ (.int .i64 t276)).setCell ⟨gb280, 1, none⟩ (.slice Ao20 t277.length co20)).heap[gb280]? = some (.cells #[.int .i64 t276, .slice Ao20 t277.length co20] 81 (0, 0))) := ⟨by (with_reducible repeat (first | refine blk_drewN ?_ _ | refine blk_drew ?_ | refine blk_alloc ?_ _)); refine blk_put (cs := #[.int .i64 t276, .slice none 0 0]) ?_ 1 _ rfl; (with_reducible repeat (first | refine blk_drewN ?_ _ | refine blk_drew ?_ | refine blk_alloc ?_ _)); refine blk_put (cs := #[.int .i64 0, .slice none 0 0]) ?_ 0 _ rfl; (with_reducible repeat (first | refine blk_drewN ?_ _ | refine blk_drew ?_ | refine blk_alloc ?_ _)); exact BK280.out⟩
    have n5_ : Aside0 (Below w.heap.size w ((w17.setCell ⟨gb280, 0, none⟩ (.int .i64 t276)).setCell ⟨gb280, 1, none⟩ (.slice Ao20 t277.length co20))) := ⟨by repeat (first | (with_reducible first | exact HB.out | apply below_alloc | apply pw_below_drewN | apply below_drew1 | refine below_set ?_ GE275.out | refine below_set ?_ GE280.out) | exact HB.out)⟩
    (try clear HO_3)
    (try clear HO_9)
    (try clear HO279)
    (try clear BK275)
    (try clear BK280)
    (try clear HB)
    generalize ((w17.setCell ⟨gb280, 0, none⟩ (.int .i64 t276)).setCell ⟨gb280, 1, none⟩ (.slice Ao20 t277.length co20)) = w21 at n0_ n1_ n2_ n3_ n4_ n5_ ⊢
    have HO_3 := n0_
    have HO_9 := n1_
    have HO279 := n2_
    have BK275 := n3_
    have BK280 := n4_
    have HB := n5_
    clear n0_ n1_ n2_ n3_ n4_ n5_
    have n0_ := Aside0.mk (Kd.S_drew HO_3.out)
    have n1_ := Aside0.mk (Kd.R_drew HO_9.out)
    have n2_ := Aside0.mk (Kd.R_drew HO279.out)
    have n3_ := Aside0.mk (blk_drew BK275.out)
    have n4_ := Aside0.mk (blk_drew BK280.out)
    have n5_ := Aside0.mk (below_drew1 HB.out)
    clear HO_3
    clear HO_9
    clear HO279
    clear BK275
    clear BK280
    clear HB
    have HO_3 := n0_
    have HO_9 := n1_
    have HO279 := n2_
    have BK275 := n3_
    have BK280 := n4_
    have HB := n5_
    clear n0_ n1_ n2_ n3_ n4_ n5_
    have p281 : 0 ≤ (0 : Int) := (by omega)
    have q281 : 0 < (t277.length : Int) := of_decide_eq_true (by first | (with_reducible assumption) | assumption)
    obtain ⟨ad281, e281, hx281_0⟩ := Kd.at_bool (Kd.R_reads' HO279.out).2.2 0 p281 q281
    (try rw [← Nbq12.out] at hx281_0)
    cases e281
    have qi281 : (0 < t277.length) = True := eq_true (by omega)
    (try rw [show ((0 : Int)).toNat = 0 from rfl] at hx281_0)
    (try rw [Addr.add_zero'] at hx281_0)
    replace p281 := eq_true p281
    replace q281 := eq_true q281
    refine start_ (n := 13) (S := fun w' => w'.cell? ⟨gb280, 0, none⟩ = some (.int .i64 t276) ∧ w'.cell? ⟨gb280, 1, none⟩ = some (.slice (some ad281) t277.length co20) ∧ w'.cell? ad281 = some (.bool true)) (ds := []) #[false, false, false, false, false, false, false, false, false, false, false, false, false] (by kernel_rfl) rfl rfl ⟨(blk_cell BK280.out 0).trans rfl, (blk_cell BK280.out 1).trans rfl, hx281_0⟩ (fun hHeld => ?_); refine with_tabW impl_allGames.tab6 impl_allGames.bits6 (fun HT_ HW_ => ?_)
    generalize w21.drew = w22 at HO_3 HO_9 HO279 BK275 BK280 HB hx281_0 hHeld ⊢
    refine pure_ (i := 0) (N := some 18) (v := ?_) (a' := ?_) #[true, false, false, false, false, false, false, false, false, false, false, false, false] rfl rfl (any_of HT_.out (by kernel_rfl)) (fun _ _ _ h => h) (Or.inl ⟨by rfl, ?_⟩) ?_ ?_
    rotate_left
    ·intro w'
     go_simp
     with_reducible rfl
    rotate_left
    ·simp only [Act.put, List.setIfInBounds_toArray, List.set_cons_zero, List.set_cons_succ, i64_w, i32_w]
     rfl
    refine take_ (i := 1) (N := some 19) (v := ?_) (a' := ?_) #[true, true, false, false, false, false, false, false, false, false, false, false, false] rfl rfl (take_ofW HT_.out HW_.out (by kernel_rfl)) (fun _ _ _ h => h) (Or.inl ⟨by rfl, ?_⟩) hHeld ?_ ?_
    rotate_left
    ·rintro w' ⟨s0, s1, s2⟩
     go_simp
     with_reducible rfl
    rotate_left
    ·simp only [Act.put, List.setIfInBounds_toArray, List.set_cons_zero, List.set_cons_succ, i64_w, i32_w]
     rfl
    refine pure_ (i := 2) (N := some 20) (v := ?_) (a' := ?_) #[true, true, true, false, false, false, false, false, false, false, false, false, false] rfl rfl (any_of HT_.out (by kernel_rfl)) (fun _ _ _ h => h) (Or.inl ⟨by rfl, ?_⟩) ?_ ?_
    rotate_left
    ·intro w'
     go_simp
     with_reducible rfl
    rotate_left
    ·simp only [Act.put, List.setIfInBounds_toArray, List.set_cons_zero, List.set_cons_succ, i64_w, i32_w]
     rfl
    refine take_ (i := 3) (N := some 21) (v := ?_) (a' := ?_) #[true, true, true, true, false, false, false, false, false, false, false, false, false] rfl rfl (take_ofW HT_.out HW_.out (by kernel_rfl)) (fun _ _ _ h => h) (Or.inl ⟨by rfl, ?_⟩) hHeld ?_ ?_
    rotate_left
    ·rintro w' ⟨s0, s1, s2⟩
     go_simp
     with_reducible rfl
    rotate_left
    ·simp only [Act.put, List.setIfInBounds_toArray, List.set_cons_zero, List.set_cons_succ, i64_w, i32_w]
     rfl
    refine pure_ (i := 4) (N := some 22) (v := ?_) (a' := ?_) #[true, true, true, true, true, false, false, false, false, false, false, false, false] rfl rfl (any_of HT_.out (by kernel_rfl)) (fun _ _ _ h => h) (Or.inl ⟨by rfl, ?_⟩) ?_ ?_
    rotate_left
    ·intro w'
     go_simp
     with_reducible rfl
    rotate_left
    ·simp only [Act.put, List.setIfInBounds_toArray, List.set_cons_zero, List.set_cons_succ, i64_w, i32_w]
     rfl
    refine pure_ (i := 5) (N := some 23) (v := ?_) (a' := ?_) #[true, true, true, true, true, true, false, false, false, false, false, false, false] rfl rfl (any_of HT_.out (by kernel_rfl)) (fun _ _ _ h => h) (Or.inl ⟨by rfl, ?_⟩) ?_ ?_
    rotate_left
    ·intro w'
     go_simp
     with_reducible rfl
    rotate_left
    ·simp only [Act.put, List.setIfInBounds_toArray, List.set_cons_zero, List.set_cons_succ, i64_w, i32_w]
     rfl
    refine pure_ (i := 6) (N := some 24) (v := undef) (a' := ?_) #[true, true, true, true, true, true, true, false, false, false, false, false, false] rfl rfl (any_of HT_.out (by kernel_rfl)) (fun _ _ _ h => h) (Or.inr ⟨by rfl, rfl⟩) ?_ ?_
    rotate_left
    ·simp only [Act.put, List.setIfInBounds_toArray, List.set_cons_zero, List.set_cons_succ, i64_w, i32_w]
     rfl
    refine pure_ (i := 7) (N := some 25) (v := undef) (a' := ?_) #[true, true, true, true, true, true, true, true, false, false, false, false, false] rfl rfl (any_of HT_.out (by kernel_rfl)) (fun _ _ _ h => h) (Or.inr ⟨by rfl, rfl⟩) ?_ ?_
    rotate_left
    ·simp only [Act.put, List.setIfInBounds_toArray, List.set_cons_zero, List.set_cons_succ, i64_w, i32_w]
     rfl
    refine pure_ (i := 8) (N := some 26) (v := undef) (a' := ?_) #[true, true, true, true, true, true, true, true, true, false, false, false, false] rfl rfl (any_of HT_.out (by kernel_rfl)) (fun _ _ _ h => h) (Or.inr ⟨by rfl, rfl⟩) ?_ ?_
    rotate_left
    ·simp only [Act.put, List.setIfInBounds_toArray, List.set_cons_zero, List.set_cons_succ, i64_w, i32_w]
     rfl
    refine pure_ (i := 9) (N := some 27) (v := undef) (a' := ?_) #[true, true, true, true, true, true, true, true, true, true, false, false, false] rfl rfl (any_of HT_.out (by kernel_rfl)) (fun _ _ _ h => h) (Or.inr ⟨by rfl, rfl⟩) ?_ ?_
    rotate_left
    ·simp only [Act.put, List.setIfInBounds_toArray, List.set_cons_zero, List.set_cons_succ, i64_w, i32_w]
     rfl
    refine pure_ (i := 10) (N := some 28) (v := undef) (a' := ?_) #[true, true, true, true, true, true, true, true, true, true, true, false, false] rfl rfl (any_of HT_.out (by kernel_rfl)) (fun _ _ _ h => h) (Or.inr ⟨by rfl, rfl⟩) ?_ ?_
    rotate_left
    ·simp only [Act.put, List.setIfInBounds_toArray, List.set_cons_zero, List.set_cons_succ, i64_w, i32_w]
     rfl
    refine pure_ (i := 11) (N := some 29) (v := undef) (a' := ?_) #[true, true, true, true, true, true, true, true, true, true, true, true, false] rfl rfl (any_of HT_.out (by kernel_rfl)) (fun _ _ _ h => h) (Or.inr ⟨by rfl, rfl⟩) ?_ ?_
    rotate_left
    ·simp only [Act.put, List.setIfInBounds_toArray, List.set_cons_zero, List.set_cons_succ, i64_w, i32_w]
     rfl
    refine pure_ (i := 12) (N := some 30) (v := ?_) (a' := ?_) #[true, true, true, true, true, true, true, true, true, true, true, true, true] rfl rfl (any_of HT_.out (by kernel_rfl)) (fun _ _ _ h => h) (Or.inl ⟨by rfl, ?_⟩) ?_ ?_
    rotate_left
    ·intro w'
     go_simp
     with_reducible rfl
    rotate_left
    ·simp only [Act.put, List.setIfInBounds_toArray, List.set_cons_zero, List.set_cons_succ, i64_w, i32_w]
     rfl
    refine done_ (done_of HT_.out (by kernel_rfl)) ?_
    try go_wp2
    go_roundg k1
    case measure => have := HK1.out; omega
    case rel => exact ⟨(x3_1), (wrap64 (x11_1 + 1)), (by first | rfl | (simp; done) | (simp [*]; done)), H', ⟨by have := HK1.out; omega⟩, ⟨by (with_reducible repeat (first | apply Kd.S_alloc | apply Kd.S_drewN | apply Kd.S_drew)); exact Kd.S_mono HO_3.out (fun _ _ => trivial)⟩, ⟨by (with_reducible repeat (first | apply Kd.R_alloc | apply Kd.R_drewN | apply Kd.R_drew)); exact Kd.R_mono HO_9.out (fun _ hk => trivial)⟩, ⟨by repeat (first | (with_reducible first | exact HB.out | apply below_alloc | apply pw_below_drewN | apply below_drew1 | refine below_set ?_ GE275.out | refine below_set ?_ GE280.out) | exact HB.out)⟩⟩
   replace c13 := Bool.eq_false_iff.mpr c13
   subst c13
   have H1 : ((impl_votes_all.f t276 t277).bind fun t282 => (if 0 ≤ t282 then (if t282 < (t277.length : Int) then (if rdOf false t277 t282 = true then ((impl_votes_game.f k1 t276 t277).bind fun bt284 => (if x3_1.length < 4398046511104 then (impl_allGames.l0 k1 a0 (x3_1 ++ [(⟨bt284.1, bt284.2⟩ : S28)]) t271 (t271.length : Int) (wrap64 (x11_1 + 1))) else (none))) else (impl_allGames.l0 k1 a0 x3_1 t271 (t271.length : Int) (wrap64 (x11_1 + 1)))) else (none)) else (none))) = some r := by rw [if_neg (show ¬ (false = true) by decide)] at H; exact H
   clear H
   have H := H1
   clear H1
   replace H := Option.bind_eq_some_iff.mp H
   obtain ⟨t282, A230, H⟩ := H
   replace H : (if 0 ≤ t282 then (if t282 < (t277.length : Int) then (if rdOf false t277 t282 = true then ((impl_votes_game.f k1 t276 t277).bind fun bt284 => (if x3_1.length < 4398046511104 then (impl_allGames.l0 k1 a0 (x3_1 ++ [(⟨bt284.1, bt284.2⟩ : S28)]) t271 (t271.length : Int) (wrap64 (x11_1 + 1))) else (none))) else (impl_allGames.l0 k1 a0 x3_1 t271 (t271.length : Int) (wrap64 (x11_1 + 1)))) else (none)) else (none)) = some r := H
   have A23 := Aside0.mk A230
   clear A230
   by_cases c24 : 0 ≤ t282
   rotate_left
   ·rw [if_neg c24] at H
    exact absurd H (by simp)
   rw [if_pos c24] at H
   have c24b0 : decide (0 ≤ t282) = true := decide_eq_true c24
   clear c24
   by_cases c25 : t282 < (t277.length : Int)
   rotate_left
   ·rw [if_neg c25] at H
    exact absurd H (by simp)
   rw [if_pos c25] at H
   have c25b0 : decide (t282 < (t277.length : Int)) = true := decide_eq_true c25
   clear c25
   obtain ⟨bq26, hbq26⟩ : ∃ b_ : Bool, b_ = (rdOf false t277 t282) := ⟨_, rfl⟩
   replace H : (if bq26 = true then ((impl_votes_game.f k1 t276 t277).bind fun bt284 => (if x3_1.length < 4398046511104 then (impl_allGames.l0 k1 a0 (x3_1 ++ [(⟨bt284.1, bt284.2⟩ : S28)]) t271 (t271.length : Int) (wrap64 (x11_1 + 1))) else (none))) else (impl_allGames.l0 k1 a0 x3_1 t271 (t271.length : Int) (wrap64 (x11_1 + 1)))) = some r := by rw [← hbq26] at H; exact H
   have Nbq26 := Aside0.mk hbq26
   clear hbq26
   by_cases c27 : bq26 = true
   rotate_left
   ·replace c27 := Bool.eq_false_iff.mpr c27
    subst c27
    have H1 : (impl_allGames.l0 k1 a0 x3_1 t271 (t271.length : Int) (wrap64 (x11_1 + 1))) = some r := by rw [if_neg (show ¬ (false = true) by decide)] at H; exact H
    clear H
    have H := H1
    clear H1
    have H' := Aside0.mk H
    clear H
    have p274 : 0 ≤ (x11_1 : Int) := of_decide_eq_true (by first | (with_reducible assumption) | assumption)
    have q274 : x11_1 < (t271.length : Int) := of_decide_eq_true (by first | (with_reducible assumption) | assumption)
    obtain ⟨ad274, e274, hx274_0⟩ := Kd.at_int (Kd.R_reads' HO_9.out).2.2 x11_1 p274 q274
    cases e274
    replace p274 := eq_true p274
    replace q274 := eq_true q274
    try go_wp2_with (first | ((with_reducible refine gate_dst (N := 5) rfl ?_); refine box_event ?hg (N := 5) ?hd (cs := #[.int .i64 0]) (t := 3) ?hr ?_; (case hd => rfl); (case hg => rfl); (case hr => first | (go_simp; done) | (go_simp; rfl)); intro gb275 hg w44 hbox hb; have n0_ := Aside0.mk (Kd.S_below (Kd.S_elderB (by (with_reducible repeat (first | apply Kd.S_alloc | apply Kd.S_drewN | apply Kd.S_drew)); exact HO_3.out) gb275 (Nat.le_of_eq hg.symm)) hb); have n1_ := Aside0.mk (Kd.R_below (Kd.R_elderB (zr HO_9.out) gb275 (Nat.le_of_eq hg.symm)) hb); have n2_ := Aside0.mk (below_step (zh HB.out) hb); have n3_ := Aside0.mk (hbox); have n4_ := Aside0.mk ((by rw [hg]; exact (below_size (zh HB.out)) : w.heap.size ≤ gb275)); have n5_ := Aside0.mk ((by rw [hg]; exact (below_size (zh HB.out)) : w.heap.size ≤ gb275)); clear HO_3; clear HO_9; clear HB; have HO_3 := n0_; have HO_9 := n1_; have HB := n2_; have BK275 := n3_; have GW275 := n4_; have GE275 := n5_; clear n0_ n1_ n2_ n3_ n4_ n5_; clear hb hbox hg; have hcz45_0 : w44.cell? ⟨gb275, 0, none⟩ = some (.int .i64 0) := (blk_cell BK275.out 0).trans rfl; have hfz45_0 := blk_frozen BK275.out 0) | ((with_reducible refine gate_callee (f := 82) rfl ?_); refine goesL_ (some 17) rfl rfl Tryz.func82 (by kernel_rfl) rfl #[.int .i64 a0, .func (.func 83) #[] #[.pointer (some ⟨gb275, 0, none⟩)]] rfl (by (try simp only [List.map_toArray, List.map_cons, List.map_nil]); first | done | rfl | (simp only [List.length_drop, List.length_take]; rfl)) ?_; (with_reducible refine (votesOf_allGames.calls k1 a0 (rd t271 x11_1) t276 t277 _ gb275 (by first | exact (blk_cell (zb BK275.out) 0).trans rfl | exact (blk_cell (blk_put (zb BK275.out) 0 _ rfl) 0).trans rfl | exact zb BK275.out) A10.out).mono ?_); rintro e w46 ⟨v278, rfl, ho0, hb⟩; refine ⟨_, rfl, ?_⟩; have n0_ := Aside0.mk (Kd.S_below (by (with_reducible repeat (first | apply Kd.S_alloc | apply Kd.S_drewN | apply Kd.S_drew)); exact (Kd.S_mono (Kd.S_far (p := ⟨gb275, 0, none⟩) (Kd.S_mono HO_3.out (fun k_ hk => (⟨hk, hk.2⟩ : _ ∧ k_ ≠ gb275))) (fun _ hk => hk.2) (.int .i64 (rd t271 x11_1))) (fun _ h_ => h_.1))) hb); have n1_ := Aside0.mk (Kd.R_below (by (with_reducible repeat (first | apply Kd.R_alloc | apply Kd.R_drewN | apply Kd.R_drew)); exact (Kd.R_mono (Kd.R_far (p := ⟨gb275, 0, none⟩) (Kd.R_mono HO_9.out (fun k_ hk => (⟨hk, hk.2⟩ : _ ∧ k_ ≠ gb275))) (fun _ hk => hk.2) (.int .i64 (rd t271 x11_1))) (fun _ h_ => h_.1))) hb); have n2_ := Aside0.mk (Kd.R_lower ho0 (below_size (zh HB.out))); have n3_ := Aside0.mk (blk_below (g := gb275) (o := .cells #[.int .i64 (rd t271 x11_1)] 3 (0, 0)) (by (with_reducible repeat (first | refine blk_drewN ?_ _ | refine blk_drew ?_ | refine blk_alloc ?_ _)); refine blk_put (cs := #[.int .i64 0]) ?_ 0 _ rfl; (with_reducible repeat (first | refine blk_drewN ?_ _ | refine blk_drew ?_ | refine blk_alloc ?_ _)); exact BK275.out) hb); have n4_ := Aside0.mk (below_step (zh HB.out) hb); clear HO_3; clear HO_9; clear BK275; clear HB; have HO_3 := n0_; have HO_9 := n1_; have HO279 := n2_; have BK275 := n3_; have HB := n4_; clear n0_ n1_ n2_ n3_ n4_; (try clear hb); (try clear hb2); (try clear hk); (try clear hi); (try clear ho0)) | ((with_reducible refine gate_dst (N := 6) rfl ?_); refine box_event ?hg (N := 6) ?hd (cs := #[.int .i64 0, .slice none 0 0]) (t := 81) ?hr ?_; (case hd => rfl); (case hg => rfl); (case hr => first | (go_simp; done) | (go_simp; rfl)); intro gb280 hg w47 hbox hb; have n0_ := Aside0.mk (Kd.S_below (by (with_reducible repeat (first | apply Kd.S_alloc | apply Kd.S_drewN | apply Kd.S_drew)); exact HO_3.out) hb); have n1_ := Aside0.mk (Kd.R_below (zr HO_9.out) hb); have n2_ := Aside0.mk (Kd.R_below (zr HO279.out) hb); have n3_ := Aside0.mk (blk_below (g := gb275) (o := .cells #[.int .i64 (rd t271 x11_1)] 3 (0, 0)) (zb BK275.out) hb); have n4_ := Aside0.mk (below_step (zh HB.out) hb); have n5_ := Aside0.mk (hbox); have n6_ := Aside0.mk ((by rw [hg]; exact (below_size (zh HB.out)) : w.heap.size ≤ gb280)); have n7_ := Aside0.mk ((by rw [hg]; exact (below_size (zh HB.out)) : w.heap.size ≤ gb280)); have n8_ := Aside0.mk ((by rw [hg]; exact Nat.ne_of_lt (blk_lt (g := gb275) (o := .cells #[.int .i64 (rd t271 x11_1)] 3 (0, 0)) (zb BK275.out)) : gb275 ≠ gb280)); have n9_ := Aside0.mk ((by rw [hg]; exact Nat.ne_of_gt (blk_lt (g := gb275) (o := .cells #[.int .i64 (rd t271 x11_1)] 3 (0, 0)) (zb BK275.out)) : gb280 ≠ gb275)); clear HO_3; clear HO_9; clear HO279; clear BK275; clear HB; have HO_3 := n0_; have HO_9 := n1_; have HO279 := n2_; have BK275 := n3_; have HB := n4_; have BK280 := n5_; have GW280 := n6_; have GE280 := n7_; have NB275_280 := n8_; have NB280_275 := n9_; clear n0_ n1_ n2_ n3_ n4_ n5_ n6_ n7_ n8_ n9_; clear hb hbox hg; have hnb48 := NB280_275.out; have hnc48 := NB275_280.out; have hcz49_0 : w47.cell? ⟨gb280, 0, none⟩ = some (.int .i64 0) := (blk_cell BK280.out 0).trans rfl; have hcz49_1 : w47.cell? ⟨gb280, 1, none⟩ = some (.slice none 0 0) := (blk_cell BK280.out 1).trans rfl; have hfz49_0 := blk_frozen BK280.out 0; have hfz49_1 := blk_frozen BK280.out 1; obtain ⟨Ao50, co50, eo50⟩ := Kd.R_slice HO279.out; subst eo50))
    have n0_ : Aside0 (Kd.S kgS 28 ((w47.setCell ⟨gb280, 0, none⟩ (.int .i64 t276)).setCell ⟨gb280, 1, none⟩ (.slice Ao50 t277.length co50)) w.heap.size (fun k_ => True ∧ k_ ≠ gb275) u3 x3_1) := ⟨by (with_reducible repeat (first | apply Kd.S_alloc | apply Kd.S_drewN | apply Kd.S_drew)); exact Kd.S_mono (Kd.S_far (p := ⟨gb280, 1, none⟩) (Kd.S_far (p := ⟨gb280, 0, none⟩) (Kd.S_types HO_3.out BK280.out (by decide)) (fun _ hk => hk.2) (.int .i64 t276)) (fun _ hk => hk.2) (.slice Ao50 t277.length co50)) (fun _ hk => ⟨hk.1.1, hk.1.2⟩)⟩
    have n1_ : Aside0 (Kd.R (Kd.int .i64) 3 ((w47.setCell ⟨gb280, 0, none⟩ (.int .i64 t276)).setCell ⟨gb280, 1, none⟩ (.slice Ao50 t277.length co50)) w.heap.size (fun k_ => k_ ≠ gb275) (.slice (some ad274) t271.length co6) t271) := ⟨by (with_reducible repeat (first | apply Kd.R_alloc | apply Kd.R_drewN | apply Kd.R_drew)); exact Kd.R_mono (Kd.R_far (p := ⟨gb280, 1, none⟩) (Kd.R_far (p := ⟨gb280, 0, none⟩) (Kd.R_types HO_9.out BK280.out (by decide)) (fun _ hk => hk.2) (.int .i64 t276)) (fun _ hk => hk.2) (.slice Ao50 t277.length co50)) (fun _ hk => hk.1.2)⟩
    have n2_ : Aside0 (Kd.R Kd.bool 4 ((w47.setCell ⟨gb280, 0, none⟩ (.int .i64 t276)).setCell ⟨gb280, 1, none⟩ (.slice Ao50 t277.length co50)) w.heap.size (fun _ => True) (.slice Ao50 t277.length co50) t277) := ⟨by (with_reducible repeat (first | apply Kd.R_alloc | apply Kd.R_drewN | apply Kd.R_drew)); exact Kd.R_mono (Kd.R_far (p := ⟨gb280, 1, none⟩) (Kd.R_far (p := ⟨gb280, 0, none⟩) (Kd.R_types HO279.out BK280.out (by decide)) (fun _ hk => hk.2) (.int .i64 t276)) (fun _ hk => hk.2) (.slice Ao50 t277.length co50)) (fun _ hk => trivial)⟩
    have n3_ : Aside0 (((w47.setCell ⟨gb280, 0, none⟩ (.int .i64 t276)).setCell ⟨gb280, 1, none⟩ (.slice Ao50 t277.length co50)).heap[gb275]? = some (.cells #[.int .i64 (rd t271 x11_1)] 3 (0, 0))) := ⟨by (with_reducible repeat (first | refine blk_drewN ?_ _ | refine blk_drew ?_ | refine blk_alloc ?_ _)); refine blk_far ?_ NB275_280.out _; (with_reducible repeat (first | refine blk_drewN ?_ _ | refine blk_drew ?_ | refine blk_alloc ?_ _)); refine blk_far ?_ NB275_280.out _; (with_reducible repeat (first | refine blk_drewN ?_ _ | refine blk_drew ?_ | refine blk_alloc ?_ _)); exact BK275.out⟩
    have n4_ : Aside0 (((w47.setCell ⟨gb280, 0, none⟩ (.int .i64 t276)).setCell ⟨gb280, 1, none⟩ (.slice Ao50 t277.length co50)).heap[gb280]? = some (.cells #[.int .i64 t276, .slice Ao50 t277.length co50] 81 (0, 0))) := ⟨by (with_reducible repeat (first | refine blk_drewN ?_ _ | refine blk_drew ?_ | refine blk_alloc ?_ _)); refine blk_put (cs := #[.int .i64 t276, .slice none 0 0]) ?_ 1 _ rfl; (with_reducible repeat (first | refine blk_drewN ?_ _ | refine blk_drew ?_ | refine blk_alloc ?_ _)); refine blk_put (cs := #[.int .i64 0, .slice none 0 0]) ?_ 0 _ rfl; (with_reducible repeat (first | refine blk_drewN ?_ _ | refine blk_drew ?_ | refine blk_alloc ?_ _)); exact BK280.out⟩
    have n5_ : Aside0 (Below w.heap.size w ((w47.setCell ⟨gb280, 0, none⟩ (.int .i64 t276)).setCell ⟨gb280, 1, none⟩ (.slice Ao50 t277.length co50))) := ⟨by repeat (first | (with_reducible first | exact HB.out | apply below_alloc | apply pw_below_drewN | apply below_drew1 | refine below_set ?_ GE275.out | refine below_set ?_ GE280.out) | exact HB.out)⟩
    (try clear HO_3)
    (try clear HO_9)
    (try clear HO279)
    (try clear BK275)
    (try clear BK280)
    (try clear HB)
    generalize ((w47.setCell ⟨gb280, 0, none⟩ (.int .i64 t276)).setCell ⟨gb280, 1, none⟩ (.slice Ao50 t277.length co50)) = w51 at n0_ n1_ n2_ n3_ n4_ n5_ ⊢
    have HO_3 := n0_
    have HO_9 := n1_
    have HO279 := n2_
    have BK275 := n3_
    have BK280 := n4_
    have HB := n5_
    clear n0_ n1_ n2_ n3_ n4_ n5_
    have n0_ := Aside0.mk (Kd.S_drew HO_3.out)
    have n1_ := Aside0.mk (Kd.R_drew HO_9.out)
    have n2_ := Aside0.mk (Kd.R_drew HO279.out)
    have n3_ := Aside0.mk (blk_drew BK275.out)
    have n4_ := Aside0.mk (blk_drew BK280.out)
    have n5_ := Aside0.mk (below_drew1 HB.out)
    clear HO_3
    clear HO_9
    clear HO279
    clear BK275
    clear BK280
    clear HB
    have HO_3 := n0_
    have HO_9 := n1_
    have HO279 := n2_
    have BK275 := n3_
    have BK280 := n4_
    have HB := n5_
    clear n0_ n1_ n2_ n3_ n4_ n5_
    have p281 : 0 ≤ (0 : Int) := (by omega)
    have q281 : 0 < (t277.length : Int) := of_decide_eq_true (by first | (with_reducible assumption) | assumption)
    obtain ⟨ad281, e281, hx281_0⟩ := Kd.at_bool (Kd.R_reads' HO279.out).2.2 0 p281 q281
    (try rw [← Nbq12.out] at hx281_0)
    (try rw [← Nbq26.out] at hx281_0)
    cases e281
    have qi281 : (0 < t277.length) = True := eq_true (by omega)
    (try rw [show ((0 : Int)).toNat = 0 from rfl] at hx281_0)
    (try rw [Addr.add_zero'] at hx281_0)
    replace p281 := eq_true p281
    replace q281 := eq_true q281
    have p283 : 0 ≤ (t282 : Int) := of_decide_eq_true (by first | (with_reducible assumption) | assumption)
    have q283 : t282 < (t277.length : Int) := of_decide_eq_true (by first | (with_reducible assumption) | assumption)
    obtain ⟨ad283, e283, hx283_0⟩ := Kd.at_bool (Kd.R_reads' HO279.out).2.2 t282 p283 q283
    (try rw [← Nbq12.out] at hx283_0)
    (try rw [← Nbq26.out] at hx283_0)
    obtain rfl : ad281 = ad283 := (by injection e283)
    replace p283 := eq_true p283
    replace q283 := eq_true q283
    refine start_ (n := 13) (S := fun w' => w'.cell? ⟨gb280, 0, none⟩ = some (.int .i64 t276) ∧ w'.cell? ⟨gb280, 1, none⟩ = some (.slice (some ad281) t277.length co50) ∧ w'.cell? ad281 = some (.bool false) ∧ w'.cell? (ad281.add (t282).toNat) = some (.bool false)) (ds := []) #[false, false, false, false, false, false, false, false, false, false, false, false, false] (by kernel_rfl) rfl rfl ⟨(blk_cell BK280.out 0).trans rfl, (blk_cell BK280.out 1).trans rfl, hx281_0, hx283_0⟩ (fun hHeld => ?_); refine with_tabW impl_allGames.tab6 impl_allGames.bits6 (fun HT_ HW_ => ?_)
    generalize w51.drew = w52 at HO_3 HO_9 HO279 BK275 BK280 HB hx281_0 hx283_0 hHeld ⊢
    refine pure_ (i := 0) (N := some 18) (v := ?_) (a' := ?_) #[true, false, false, false, false, false, false, false, false, false, false, false, false] rfl rfl (any_of HT_.out (by kernel_rfl)) (fun _ _ _ h => h) (Or.inl ⟨by rfl, ?_⟩) ?_ ?_
    rotate_left
    ·intro w'
     go_simp
     with_reducible rfl
    rotate_left
    ·simp only [Act.put, List.setIfInBounds_toArray, List.set_cons_zero, List.set_cons_succ, i64_w, i32_w]
     rfl
    refine take_ (i := 1) (N := some 19) (v := ?_) (a' := ?_) #[true, true, false, false, false, false, false, false, false, false, false, false, false] rfl rfl (take_ofW HT_.out HW_.out (by kernel_rfl)) (fun _ _ _ h => h) (Or.inl ⟨by rfl, ?_⟩) hHeld ?_ ?_
    rotate_left
    ·rintro w' ⟨s0, s1, s2, s3⟩
     go_simp
     with_reducible rfl
    rotate_left
    ·simp only [Act.put, List.setIfInBounds_toArray, List.set_cons_zero, List.set_cons_succ, i64_w, i32_w]
     rfl
    refine pure_ (i := 2) (N := some 20) (v := ?_) (a' := ?_) #[true, true, true, false, false, false, false, false, false, false, false, false, false] rfl rfl (any_of HT_.out (by kernel_rfl)) (fun _ _ _ h => h) (Or.inl ⟨by rfl, ?_⟩) ?_ ?_
    rotate_left
    ·intro w'
     go_simp
     with_reducible rfl
    rotate_left
    ·simp only [Act.put, List.setIfInBounds_toArray, List.set_cons_zero, List.set_cons_succ, i64_w, i32_w]
     rfl
    refine take_ (i := 3) (N := some 21) (v := ?_) (a' := ?_) #[true, true, true, true, false, false, false, false, false, false, false, false, false] rfl rfl (take_ofW HT_.out HW_.out (by kernel_rfl)) (fun _ _ _ h => h) (Or.inl ⟨by rfl, ?_⟩) hHeld ?_ ?_
    rotate_left
    ·rintro w' ⟨s0, s1, s2, s3⟩
     go_simp
     with_reducible rfl
    rotate_left
    ·simp only [Act.put, List.setIfInBounds_toArray, List.set_cons_zero, List.set_cons_succ, i64_w, i32_w]
     rfl
    refine pure_ (i := 4) (N := some 22) (v := ?_) (a' := ?_) #[true, true, true, true, true, false, false, false, false, false, false, false, false] rfl rfl (any_of HT_.out (by kernel_rfl)) (fun _ _ _ h => h) (Or.inl ⟨by rfl, ?_⟩) ?_ ?_
    rotate_left
    ·intro w'
     go_simp
     with_reducible rfl
    rotate_left
    ·simp only [Act.put, List.setIfInBounds_toArray, List.set_cons_zero, List.set_cons_succ, i64_w, i32_w]
     rfl
    refine pure_ (i := 5) (N := some 23) (v := ?_) (a' := ?_) #[true, true, true, true, true, true, false, false, false, false, false, false, false] rfl rfl (any_of HT_.out (by kernel_rfl)) (fun _ _ _ h => h) (Or.inl ⟨by rfl, ?_⟩) ?_ ?_
    rotate_left
    ·intro w'
     go_simp
     with_reducible rfl
    rotate_left
    ·simp only [Act.put, List.setIfInBounds_toArray, List.set_cons_zero, List.set_cons_succ, i64_w, i32_w]
     rfl
    refine pure_ (i := 6) (N := some 24) (v := ?_) (a' := ?_) #[true, true, true, true, true, true, true, false, false, false, false, false, false] rfl rfl (any_of HT_.out (by kernel_rfl)) (fun _ _ _ h => h) (Or.inl ⟨by rfl, ?_⟩) ?_ ?_
    rotate_left
    ·intro w'
     go_simp
     with_reducible rfl
    rotate_left
    ·simp only [Act.put, List.setIfInBounds_toArray, List.set_cons_zero, List.set_cons_succ, i64_w, i32_w]
     rfl
    refine take_ (i := 7) (N := some 25) (v := ?_) (a' := ?_) #[true, true, true, true, true, true, true, true, false, false, false, false, false] rfl rfl (take_ofW HT_.out HW_.out (by kernel_rfl)) (fun _ _ _ h => h) (Or.inl ⟨by rfl, ?_⟩) hHeld ?_ ?_
    rotate_left
    ·rintro w' ⟨s0, s1, s2, s3⟩
     go_simp
     with_reducible rfl
    rotate_left
    ·simp only [Act.put, List.setIfInBounds_toArray, List.set_cons_zero, List.set_cons_succ, i64_w, i32_w]
     rfl
    refine take_ (i := 8) (N := some 26) (v := ?_) (a' := ?_) #[true, true, true, true, true, true, true, true, true, false, false, false, false] rfl rfl (take_ofW HT_.out HW_.out (by kernel_rfl)) (fun _ _ _ h => h) (Or.inl ⟨by rfl, ?_⟩) hHeld ?_ ?_
    rotate_left
    ·rintro w' ⟨s0, s1, s2, s3⟩
     go_simp
     with_reducible rfl
    rotate_left
    ·simp only [Act.put, List.setIfInBounds_toArray, List.set_cons_zero, List.set_cons_succ, i64_w, i32_w]
     rfl
    refine one_ (i := 9) (N := some 27) #[true, true, true, true, true, true, true, true, true, true, false, false, false] rfl rfl (one_of HT_.out (by kernel_rfl)) (by decide) (fun K hK => ?_)
    refine goes_ Tryz.func85 (by kernel_rfl) rfl #[.agg #[.int .i64 t276, .slice (some ad281) t277.length co50]] (by rfl) rfl rfl (by (try simp only [List.map_toArray, List.map_cons, List.map_nil]); first | done | rfl | (simp only [List.length_drop, List.length_take]; rfl)) ?_
    with_reducible refine (impl_votes_all.calls t276 _ _ t277 t282 _ ?side1 ?side2 A23.out).mono ?_
    (case side1 => repeat (first | exact (Kd.R_reads' HO279.out).2.2 | (with_reducible refine Kd.C_alloc ?_ _) | (with_reducible refine Kd.C_drewN ?_ _) | (with_reducible refine Kd.C_drew ?_)))
    (case side2 => exact (Kd.R_reads' HO279.out).2.1)
    rintro e w53 ⟨rfl, hb⟩
    have HS2_ := (hb.cell (World.block_lt_of_cell? _ _ (hHeld.2.2.1))).trans (hHeld.2.2.1)
    have HS3_ := (hb.cell (World.block_lt_of_cell? _ _ (hHeld.2.2.2))).trans (hHeld.2.2.2)
    refine ⟨_, rfl, ?_⟩
    have n0_ := Aside0.mk (Kd.S_below (by (with_reducible repeat (first | apply Kd.S_alloc | apply Kd.S_drewN | apply Kd.S_drew)); exact HO_3.out) hb)
    have n1_ := Aside0.mk (Kd.R_below (zr HO_9.out) hb)
    have n2_ := Aside0.mk (Kd.R_below (zr HO279.out) hb)
    have n3_ := Aside0.mk (blk_below (g := gb275) (o := .cells #[.int .i64 (rd t271 x11_1)] 3 (0, 0)) (zb BK275.out) hb)
    have n4_ := Aside0.mk (blk_below (g := gb280) (o := .cells #[.int .i64 t276, .slice (some ad281) t277.length co50] 81 (0, 0)) (zb BK280.out) hb)
    have n5_ := Aside0.mk (below_step (zh HB.out) hb)
    clear HO_3
    clear HO_9
    clear HO279
    clear BK275
    clear BK280
    clear HB
    have HO_3 := n0_
    have HO_9 := n1_
    have HO279 := n2_
    have BK275 := n3_
    have BK280 := n4_
    have HB := n5_
    clear n0_ n1_ n2_ n3_ n4_ n5_
    (try clear hb)
    (try clear hb2)
    (try clear hk)
    (try clear hi)
    refine hK.out _ _ ⟨(blk_cell BK280.out 0).trans rfl, (blk_cell BK280.out 1).trans rfl, HS2_, HS3_⟩ (fun hHeld => ?_)
    clear hK K
    refine norm_ (a' := ?_) ?_ ?_
    rotate_left
    ·show Act.put _ (some 27) _ = _
     simp only [Act.put, List.setIfInBounds_toArray, List.set_cons_zero, List.set_cons_succ, i64_w, i32_w]
     rfl
    refine pure_ (i := 10) (N := some 28) (v := ?_) (a' := ?_) #[true, true, true, true, true, true, true, true, true, true, true, false, false] rfl rfl (any_of HT_.out (by kernel_rfl)) (fun _ _ _ h => h) (Or.inl ⟨by rfl, ?_⟩) ?_ ?_
    rotate_left
    ·intro w'
     go_simp
     with_reducible rfl
    rotate_left
    ·simp only [Act.put, List.setIfInBounds_toArray, List.set_cons_zero, List.set_cons_succ, i64_w, i32_w]
     rfl
    refine take_ (i := 11) (N := some 29) (v := ?_) (a' := ?_) #[true, true, true, true, true, true, true, true, true, true, true, true, false] rfl rfl (take_ofW HT_.out HW_.out (by kernel_rfl)) (fun _ _ _ h => h) (Or.inl ⟨by rfl, ?_⟩) hHeld ?_ ?_
    rotate_left
    ·rintro w' ⟨s0, s1, s2, s3⟩
     go_simp
     with_reducible rfl
    rotate_left
    ·simp only [Act.put, List.setIfInBounds_toArray, List.set_cons_zero, List.set_cons_succ, i64_w, i32_w]
     rfl
    refine pure_ (i := 12) (N := some 30) (v := ?_) (a' := ?_) #[true, true, true, true, true, true, true, true, true, true, true, true, true] rfl rfl (any_of HT_.out (by kernel_rfl)) (fun _ _ _ h => h) (Or.inl ⟨by rfl, ?_⟩) ?_ ?_
    rotate_left
    ·intro w'
     go_simp
     with_reducible rfl
    rotate_left
    ·simp only [Act.put, List.setIfInBounds_toArray, List.set_cons_zero, List.set_cons_succ, i64_w, i32_w]
     rfl
    refine done_ (done_of HT_.out (by kernel_rfl)) ?_
    try go_wp2
    go_roundg k1
    case measure => have := HK1.out; omega
    case rel => exact ⟨(x3_1), (wrap64 (x11_1 + 1)), (by first | rfl | (simp; done) | (simp [*]; done)), H', ⟨by have := HK1.out; omega⟩, ⟨by (with_reducible repeat (first | apply Kd.S_alloc | apply Kd.S_drewN | apply Kd.S_drew)); exact Kd.S_mono HO_3.out (fun _ _ => trivial)⟩, ⟨by (with_reducible repeat (first | apply Kd.R_alloc | apply Kd.R_drewN | apply Kd.R_drew)); exact Kd.R_mono HO_9.out (fun _ hk => trivial)⟩, ⟨by repeat (first | (with_reducible first | exact HB.out | apply below_alloc | apply pw_below_drewN | apply below_drew1 | refine below_set ?_ GE275.out | refine below_set ?_ GE280.out) | exact HB.out)⟩⟩
   subst c27
   have H1 : ((impl_votes_game.f k1 t276 t277).bind fun bt284 => (if x3_1.length < 4398046511104 then (impl_allGames.l0 k1 a0 (x3_1 ++ [(⟨bt284.1, bt284.2⟩ : S28)]) t271 (t271.length : Int) (wrap64 (x11_1 + 1))) else (none))) = some r := by rw [if_pos rfl] at H; exact H
   clear H
   have H := H1
   clear H1
   replace H := Option.bind_eq_some_iff.mp H
   obtain ⟨⟨t284, t285⟩, A280, H⟩ := H
   replace H : (if x3_1.length < 4398046511104 then (impl_allGames.l0 k1 a0 (x3_1 ++ [(⟨t284, t285⟩ : S28)]) t271 (t271.length : Int) (wrap64 (x11_1 + 1))) else (none)) = some r := H
   have A28 := Aside0.mk A280
   clear A280
   by_cases c29 : x3_1.length < 4398046511104
   rotate_left
   ·rw [if_neg c29] at H
    exact absurd H (by simp)
   rw [if_pos c29] at H
   have LMc29 := Aside0.mk c29
   clear c29
   obtain ⟨y288, hy288⟩ : ∃ y_ : List (S28), y_ = (x3_1 ++ [(⟨t284, t285⟩ : S28)]) := ⟨_, rfl⟩
   replace H : (impl_allGames.l0 k1 a0 y288 t271 (t271.length : Int) (wrap64 (x11_1 + 1))) = some r := by first | (rw [hy288]; with_reducible exact H) | (have H2_ := (Option.bind_some _ _).symm.trans H; rw [hy288]; with_reducible exact H2_) | (have H2_ := (Option.bind_some _ _).symm.trans H; with_reducible exact H2_) | with_reducible exact H | (rw [hy288]; exact H) | exact H
   have Ny288 := Aside0.mk hy288
   clear hy288
   have H' := Aside0.mk H
   clear H
   have p274 : 0 ≤ (x11_1 : Int) := of_decide_eq_true (by first | (with_reducible assumption) | assumption)
   have q274 : x11_1 < (t271.length : Int) := of_decide_eq_true (by first | (with_reducible assumption) | assumption)
   obtain ⟨ad274, e274, hx274_0⟩ := Kd.at_int (Kd.R_reads' HO_9.out).2.2 x11_1 p274 q274
   cases e274
   replace p274 := eq_true p274
   replace q274 := eq_true q274
   try go_wp2_with (first | ((with_reducible refine gate_dst (N := 5) rfl ?_); refine box_event ?hg (N := 5) ?hd (cs := #[.int .i64 0]) (t := 3) ?hr ?_; (case hd => rfl); (case hg => rfl); (case hr => first | (go_simp; done) | (go_simp; rfl)); intro gb275 hg w30 hbox hb; have n0_ := Aside0.mk (Kd.S_below (Kd.S_elderB (by (with_reducible repeat (first | apply Kd.S_alloc | apply Kd.S_drewN | apply Kd.S_drew)); exact HO_3.out) gb275 (Nat.le_of_eq hg.symm)) hb); have n1_ := Aside0.mk (Kd.R_below (Kd.R_elderB (zr HO_9.out) gb275 (Nat.le_of_eq hg.symm)) hb); have n2_ := Aside0.mk (below_step (zh HB.out) hb); have n3_ := Aside0.mk (hbox); have n4_ := Aside0.mk ((by rw [hg]; exact (below_size (zh HB.out)) : w.heap.size ≤ gb275)); have n5_ := Aside0.mk ((by rw [hg]; exact (below_size (zh HB.out)) : w.heap.size ≤ gb275)); clear HO_3; clear HO_9; clear HB; have HO_3 := n0_; have HO_9 := n1_; have HB := n2_; have BK275 := n3_; have GW275 := n4_; have GE275 := n5_; clear n0_ n1_ n2_ n3_ n4_ n5_; clear hb hbox hg; have hcz31_0 : w30.cell? ⟨gb275, 0, none⟩ = some (.int .i64 0) := (blk_cell BK275.out 0).trans rfl; have hfz31_0 := blk_frozen BK275.out 0) | ((with_reducible refine gate_callee (f := 82) rfl ?_); refine goesL_ (some 17) rfl rfl Tryz.func82 (by kernel_rfl) rfl #[.int .i64 a0, .func (.func 83) #[] #[.pointer (some ⟨gb275, 0, none⟩)]] rfl (by (try simp only [List.map_toArray, List.map_cons, List.map_nil]); first | done | rfl | (simp only [List.length_drop, List.length_take]; rfl)) ?_; (with_reducible refine (votesOf_allGames.calls k1 a0 (rd t271 x11_1) t276 t277 _ gb275 (by first | exact (blk_cell (zb BK275.out) 0).trans rfl | exact (blk_cell (blk_put (zb BK275.out) 0 _ rfl) 0).trans rfl | exact zb BK275.out) A10.out).mono ?_); rintro e w32 ⟨v278, rfl, ho0, hb⟩; refine ⟨_, rfl, ?_⟩; have n0_ := Aside0.mk (Kd.S_below (by (with_reducible repeat (first | apply Kd.S_alloc | apply Kd.S_drewN | apply Kd.S_drew)); exact (Kd.S_mono (Kd.S_far (p := ⟨gb275, 0, none⟩) (Kd.S_mono HO_3.out (fun k_ hk => (⟨hk, hk.2⟩ : _ ∧ k_ ≠ gb275))) (fun _ hk => hk.2) (.int .i64 (rd t271 x11_1))) (fun _ h_ => h_.1))) hb); have n1_ := Aside0.mk (Kd.R_below (by (with_reducible repeat (first | apply Kd.R_alloc | apply Kd.R_drewN | apply Kd.R_drew)); exact (Kd.R_mono (Kd.R_far (p := ⟨gb275, 0, none⟩) (Kd.R_mono HO_9.out (fun k_ hk => (⟨hk, hk.2⟩ : _ ∧ k_ ≠ gb275))) (fun _ hk => hk.2) (.int .i64 (rd t271 x11_1))) (fun _ h_ => h_.1))) hb); have n2_ := Aside0.mk (Kd.R_lower ho0 (below_size (zh HB.out))); have n3_ := Aside0.mk (blk_below (g := gb275) (o := .cells #[.int .i64 (rd t271 x11_1)] 3 (0, 0)) (by (with_reducible repeat (first | refine blk_drewN ?_ _ | refine blk_drew ?_ | refine blk_alloc ?_ _)); refine blk_put (cs := #[.int .i64 0]) ?_ 0 _ rfl; (with_reducible repeat (first | refine blk_drewN ?_ _ | refine blk_drew ?_ | refine blk_alloc ?_ _)); exact BK275.out) hb); have n4_ := Aside0.mk (below_step (zh HB.out) hb); clear HO_3; clear HO_9; clear BK275; clear HB; have HO_3 := n0_; have HO_9 := n1_; have HO279 := n2_; have BK275 := n3_; have HB := n4_; clear n0_ n1_ n2_ n3_ n4_; (try clear hb); (try clear hb2); (try clear hk); (try clear hi); (try clear ho0)) | ((with_reducible refine gate_dst (N := 6) rfl ?_); refine box_event ?hg (N := 6) ?hd (cs := #[.int .i64 0, .slice none 0 0]) (t := 81) ?hr ?_; (case hd => rfl); (case hg => rfl); (case hr => first | (go_simp; done) | (go_simp; rfl)); intro gb280 hg w33 hbox hb; have n0_ := Aside0.mk (Kd.S_below (by (with_reducible repeat (first | apply Kd.S_alloc | apply Kd.S_drewN | apply Kd.S_drew)); exact HO_3.out) hb); have n1_ := Aside0.mk (Kd.R_below (zr HO_9.out) hb); have n2_ := Aside0.mk (Kd.R_below (zr HO279.out) hb); have n3_ := Aside0.mk (blk_below (g := gb275) (o := .cells #[.int .i64 (rd t271 x11_1)] 3 (0, 0)) (zb BK275.out) hb); have n4_ := Aside0.mk (below_step (zh HB.out) hb); have n5_ := Aside0.mk (hbox); have n6_ := Aside0.mk ((by rw [hg]; exact (below_size (zh HB.out)) : w.heap.size ≤ gb280)); have n7_ := Aside0.mk ((by rw [hg]; exact (below_size (zh HB.out)) : w.heap.size ≤ gb280)); have n8_ := Aside0.mk ((by rw [hg]; exact Nat.ne_of_lt (blk_lt (g := gb275) (o := .cells #[.int .i64 (rd t271 x11_1)] 3 (0, 0)) (zb BK275.out)) : gb275 ≠ gb280)); have n9_ := Aside0.mk ((by rw [hg]; exact Nat.ne_of_gt (blk_lt (g := gb275) (o := .cells #[.int .i64 (rd t271 x11_1)] 3 (0, 0)) (zb BK275.out)) : gb280 ≠ gb275)); clear HO_3; clear HO_9; clear HO279; clear BK275; clear HB; have HO_3 := n0_; have HO_9 := n1_; have HO279 := n2_; have BK275 := n3_; have HB := n4_; have BK280 := n5_; have GW280 := n6_; have GE280 := n7_; have NB275_280 := n8_; have NB280_275 := n9_; clear n0_ n1_ n2_ n3_ n4_ n5_ n6_ n7_ n8_ n9_; clear hb hbox hg; have hnb34 := NB280_275.out; have hnc34 := NB275_280.out; have hcz35_0 : w33.cell? ⟨gb280, 0, none⟩ = some (.int .i64 0) := (blk_cell BK280.out 0).trans rfl; have hcz35_1 : w33.cell? ⟨gb280, 1, none⟩ = some (.slice none 0 0) := (blk_cell BK280.out 1).trans rfl; have hfz35_0 := blk_frozen BK280.out 0; have hfz35_1 := blk_frozen BK280.out 1; obtain ⟨Ao36, co36, eo36⟩ := Kd.R_slice HO279.out; subst eo36))
   have n0_ : Aside0 (Kd.S kgS 28 ((w33.setCell ⟨gb280, 0, none⟩ (.int .i64 t276)).setCell ⟨gb280, 1, none⟩ (.slice Ao36 t277.length co36)) w.heap.size (fun k_ => True ∧ k_ ≠ gb275) u3 x3_1) := ⟨by (with_reducible repeat (first | apply Kd.S_alloc | apply Kd.S_drewN | apply Kd.S_drew)); exact Kd.S_mono (Kd.S_far (p := ⟨gb280, 1, none⟩) (Kd.S_far (p := ⟨gb280, 0, none⟩) (Kd.S_types HO_3.out BK280.out (by decide)) (fun _ hk => hk.2) (.int .i64 t276)) (fun _ hk => hk.2) (.slice Ao36 t277.length co36)) (fun _ hk => ⟨hk.1.1, hk.1.2⟩)⟩
   have n1_ : Aside0 (Kd.R (Kd.int .i64) 3 ((w33.setCell ⟨gb280, 0, none⟩ (.int .i64 t276)).setCell ⟨gb280, 1, none⟩ (.slice Ao36 t277.length co36)) w.heap.size (fun k_ => k_ ≠ gb275) (.slice (some ad274) t271.length co6) t271) := ⟨by (with_reducible repeat (first | apply Kd.R_alloc | apply Kd.R_drewN | apply Kd.R_drew)); exact Kd.R_mono (Kd.R_far (p := ⟨gb280, 1, none⟩) (Kd.R_far (p := ⟨gb280, 0, none⟩) (Kd.R_types HO_9.out BK280.out (by decide)) (fun _ hk => hk.2) (.int .i64 t276)) (fun _ hk => hk.2) (.slice Ao36 t277.length co36)) (fun _ hk => hk.1.2)⟩
   have n2_ : Aside0 (Kd.R Kd.bool 4 ((w33.setCell ⟨gb280, 0, none⟩ (.int .i64 t276)).setCell ⟨gb280, 1, none⟩ (.slice Ao36 t277.length co36)) w.heap.size (fun _ => True) (.slice Ao36 t277.length co36) t277) := ⟨by (with_reducible repeat (first | apply Kd.R_alloc | apply Kd.R_drewN | apply Kd.R_drew)); exact Kd.R_mono (Kd.R_far (p := ⟨gb280, 1, none⟩) (Kd.R_far (p := ⟨gb280, 0, none⟩) (Kd.R_types HO279.out BK280.out (by decide)) (fun _ hk => hk.2) (.int .i64 t276)) (fun _ hk => hk.2) (.slice Ao36 t277.length co36)) (fun _ hk => trivial)⟩
   have n3_ : Aside0 (((w33.setCell ⟨gb280, 0, none⟩ (.int .i64 t276)).setCell ⟨gb280, 1, none⟩ (.slice Ao36 t277.length co36)).heap[gb275]? = some (.cells #[.int .i64 (rd t271 x11_1)] 3 (0, 0))) := ⟨by (with_reducible repeat (first | refine blk_drewN ?_ _ | refine blk_drew ?_ | refine blk_alloc ?_ _)); refine blk_far ?_ NB275_280.out _; (with_reducible repeat (first | refine blk_drewN ?_ _ | refine blk_drew ?_ | refine blk_alloc ?_ _)); refine blk_far ?_ NB275_280.out _; (with_reducible repeat (first | refine blk_drewN ?_ _ | refine blk_drew ?_ | refine blk_alloc ?_ _)); exact BK275.out⟩
   have n4_ : Aside0 (((w33.setCell ⟨gb280, 0, none⟩ (.int .i64 t276)).setCell ⟨gb280, 1, none⟩ (.slice Ao36 t277.length co36)).heap[gb280]? = some (.cells #[.int .i64 t276, .slice Ao36 t277.length co36] 81 (0, 0))) := ⟨by (with_reducible repeat (first | refine blk_drewN ?_ _ | refine blk_drew ?_ | refine blk_alloc ?_ _)); refine blk_put (cs := #[.int .i64 t276, .slice none 0 0]) ?_ 1 _ rfl; (with_reducible repeat (first | refine blk_drewN ?_ _ | refine blk_drew ?_ | refine blk_alloc ?_ _)); refine blk_put (cs := #[.int .i64 0, .slice none 0 0]) ?_ 0 _ rfl; (with_reducible repeat (first | refine blk_drewN ?_ _ | refine blk_drew ?_ | refine blk_alloc ?_ _)); exact BK280.out⟩
   have n5_ : Aside0 (Below w.heap.size w ((w33.setCell ⟨gb280, 0, none⟩ (.int .i64 t276)).setCell ⟨gb280, 1, none⟩ (.slice Ao36 t277.length co36))) := ⟨by repeat (first | (with_reducible first | exact HB.out | apply below_alloc | apply pw_below_drewN | apply below_drew1 | refine below_set ?_ GE275.out | refine below_set ?_ GE280.out) | exact HB.out)⟩
   (try clear HO_3)
   (try clear HO_9)
   (try clear HO279)
   (try clear BK275)
   (try clear BK280)
   (try clear HB)
   generalize ((w33.setCell ⟨gb280, 0, none⟩ (.int .i64 t276)).setCell ⟨gb280, 1, none⟩ (.slice Ao36 t277.length co36)) = w37 at n0_ n1_ n2_ n3_ n4_ n5_ ⊢
   have HO_3 := n0_
   have HO_9 := n1_
   have HO279 := n2_
   have BK275 := n3_
   have BK280 := n4_
   have HB := n5_
   clear n0_ n1_ n2_ n3_ n4_ n5_
   have n0_ := Aside0.mk (Kd.S_drew HO_3.out)
   have n1_ := Aside0.mk (Kd.R_drew HO_9.out)
   have n2_ := Aside0.mk (Kd.R_drew HO279.out)
   have n3_ := Aside0.mk (blk_drew BK275.out)
   have n4_ := Aside0.mk (blk_drew BK280.out)
   have n5_ := Aside0.mk (below_drew1 HB.out)
   clear HO_3
   clear HO_9
   clear HO279
   clear BK275
   clear BK280
   clear HB
   have HO_3 := n0_
   have HO_9 := n1_
   have HO279 := n2_
   have BK275 := n3_
   have BK280 := n4_
   have HB := n5_
   clear n0_ n1_ n2_ n3_ n4_ n5_
   have p281 : 0 ≤ (0 : Int) := (by omega)
   have q281 : 0 < (t277.length : Int) := of_decide_eq_true (by first | (with_reducible assumption) | assumption)
   obtain ⟨ad281, e281, hx281_0⟩ := Kd.at_bool (Kd.R_reads' HO279.out).2.2 0 p281 q281
   (try rw [← Nbq12.out] at hx281_0)
   (try rw [← Nbq26.out] at hx281_0)
   cases e281
   have qi281 : (0 < t277.length) = True := eq_true (by omega)
   (try rw [show ((0 : Int)).toNat = 0 from rfl] at hx281_0)
   (try rw [Addr.add_zero'] at hx281_0)
   replace p281 := eq_true p281
   replace q281 := eq_true q281
   have p283 : 0 ≤ (t282 : Int) := of_decide_eq_true (by first | (with_reducible assumption) | assumption)
   have q283 : t282 < (t277.length : Int) := of_decide_eq_true (by first | (with_reducible assumption) | assumption)
   obtain ⟨ad283, e283, hx283_0⟩ := Kd.at_bool (Kd.R_reads' HO279.out).2.2 t282 p283 q283
   (try rw [← Nbq12.out] at hx283_0)
   (try rw [← Nbq26.out] at hx283_0)
   obtain rfl : ad281 = ad283 := (by injection e283)
   replace p283 := eq_true p283
   replace q283 := eq_true q283
   refine start_ (n := 13) (S := fun w' => w'.cell? ⟨gb280, 0, none⟩ = some (.int .i64 t276) ∧ w'.cell? ⟨gb280, 1, none⟩ = some (.slice (some ad281) t277.length co36) ∧ w'.cell? ad281 = some (.bool false) ∧ w'.cell? (ad281.add (t282).toNat) = some (.bool true)) (ds := []) #[false, false, false, false, false, false, false, false, false, false, false, false, false] (by kernel_rfl) rfl rfl ⟨(blk_cell BK280.out 0).trans rfl, (blk_cell BK280.out 1).trans rfl, hx281_0, hx283_0⟩ (fun hHeld => ?_); refine with_tabW impl_allGames.tab6 impl_allGames.bits6 (fun HT_ HW_ => ?_)
   generalize w37.drew = w38 at HO_3 HO_9 HO279 BK275 BK280 HB hx281_0 hx283_0 hHeld ⊢
   refine pure_ (i := 0) (N := some 18) (v := ?_) (a' := ?_) #[true, false, false, false, false, false, false, false, false, false, false, false, false] rfl rfl (any_of HT_.out (by kernel_rfl)) (fun _ _ _ h => h) (Or.inl ⟨by rfl, ?_⟩) ?_ ?_
   rotate_left
   ·intro w'
    go_simp
    with_reducible rfl
   rotate_left
   ·simp only [Act.put, List.setIfInBounds_toArray, List.set_cons_zero, List.set_cons_succ, i64_w, i32_w]
    rfl
   refine take_ (i := 1) (N := some 19) (v := ?_) (a' := ?_) #[true, true, false, false, false, false, false, false, false, false, false, false, false] rfl rfl (take_ofW HT_.out HW_.out (by kernel_rfl)) (fun _ _ _ h => h) (Or.inl ⟨by rfl, ?_⟩) hHeld ?_ ?_
   rotate_left
   ·rintro w' ⟨s0, s1, s2, s3⟩
    go_simp
    with_reducible rfl
   rotate_left
   ·simp only [Act.put, List.setIfInBounds_toArray, List.set_cons_zero, List.set_cons_succ, i64_w, i32_w]
    rfl
   refine pure_ (i := 2) (N := some 20) (v := ?_) (a' := ?_) #[true, true, true, false, false, false, false, false, false, false, false, false, false] rfl rfl (any_of HT_.out (by kernel_rfl)) (fun _ _ _ h => h) (Or.inl ⟨by rfl, ?_⟩) ?_ ?_
   rotate_left
   ·intro w'
    go_simp
    with_reducible rfl
   rotate_left
   ·simp only [Act.put, List.setIfInBounds_toArray, List.set_cons_zero, List.set_cons_succ, i64_w, i32_w]
    rfl
   refine take_ (i := 3) (N := some 21) (v := ?_) (a' := ?_) #[true, true, true, true, false, false, false, false, false, false, false, false, false] rfl rfl (take_ofW HT_.out HW_.out (by kernel_rfl)) (fun _ _ _ h => h) (Or.inl ⟨by rfl, ?_⟩) hHeld ?_ ?_
   rotate_left
   ·rintro w' ⟨s0, s1, s2, s3⟩
    go_simp
    with_reducible rfl
   rotate_left
   ·simp only [Act.put, List.setIfInBounds_toArray, List.set_cons_zero, List.set_cons_succ, i64_w, i32_w]
    rfl
   refine pure_ (i := 4) (N := some 22) (v := ?_) (a' := ?_) #[true, true, true, true, true, false, false, false, false, false, false, false, false] rfl rfl (any_of HT_.out (by kernel_rfl)) (fun _ _ _ h => h) (Or.inl ⟨by rfl, ?_⟩) ?_ ?_
   rotate_left
   ·intro w'
    go_simp
    with_reducible rfl
   rotate_left
   ·simp only [Act.put, List.setIfInBounds_toArray, List.set_cons_zero, List.set_cons_succ, i64_w, i32_w]
    rfl
   refine pure_ (i := 5) (N := some 23) (v := ?_) (a' := ?_) #[true, true, true, true, true, true, false, false, false, false, false, false, false] rfl rfl (any_of HT_.out (by kernel_rfl)) (fun _ _ _ h => h) (Or.inl ⟨by rfl, ?_⟩) ?_ ?_
   rotate_left
   ·intro w'
    go_simp
    with_reducible rfl
   rotate_left
   ·simp only [Act.put, List.setIfInBounds_toArray, List.set_cons_zero, List.set_cons_succ, i64_w, i32_w]
    rfl
   refine pure_ (i := 6) (N := some 24) (v := ?_) (a' := ?_) #[true, true, true, true, true, true, true, false, false, false, false, false, false] rfl rfl (any_of HT_.out (by kernel_rfl)) (fun _ _ _ h => h) (Or.inl ⟨by rfl, ?_⟩) ?_ ?_
   rotate_left
   ·intro w'
    go_simp
    with_reducible rfl
   rotate_left
   ·simp only [Act.put, List.setIfInBounds_toArray, List.set_cons_zero, List.set_cons_succ, i64_w, i32_w]
    rfl
   refine take_ (i := 7) (N := some 25) (v := ?_) (a' := ?_) #[true, true, true, true, true, true, true, true, false, false, false, false, false] rfl rfl (take_ofW HT_.out HW_.out (by kernel_rfl)) (fun _ _ _ h => h) (Or.inl ⟨by rfl, ?_⟩) hHeld ?_ ?_
   rotate_left
   ·rintro w' ⟨s0, s1, s2, s3⟩
    go_simp
    with_reducible rfl
   rotate_left
   ·simp only [Act.put, List.setIfInBounds_toArray, List.set_cons_zero, List.set_cons_succ, i64_w, i32_w]
    rfl
   refine take_ (i := 8) (N := some 26) (v := ?_) (a' := ?_) #[true, true, true, true, true, true, true, true, true, false, false, false, false] rfl rfl (take_ofW HT_.out HW_.out (by kernel_rfl)) (fun _ _ _ h => h) (Or.inl ⟨by rfl, ?_⟩) hHeld ?_ ?_
   rotate_left
   ·rintro w' ⟨s0, s1, s2, s3⟩
    go_simp
    with_reducible rfl
   rotate_left
   ·simp only [Act.put, List.setIfInBounds_toArray, List.set_cons_zero, List.set_cons_succ, i64_w, i32_w]
    rfl
   refine one_ (i := 9) (N := some 27) #[true, true, true, true, true, true, true, true, true, true, false, false, false] rfl rfl (one_of HT_.out (by kernel_rfl)) (by decide) (fun K hK => ?_)
   refine goes_ Tryz.func85 (by kernel_rfl) rfl #[.agg #[.int .i64 t276, .slice (some ad281) t277.length co36]] (by rfl) rfl rfl (by (try simp only [List.map_toArray, List.map_cons, List.map_nil]); first | done | rfl | (simp only [List.length_drop, List.length_take]; rfl)) ?_
   with_reducible refine (impl_votes_all.calls t276 _ _ t277 t282 _ ?side1 ?side2 A23.out).mono ?_
   (case side1 => repeat (first | exact (Kd.R_reads' HO279.out).2.2 | (with_reducible refine Kd.C_alloc ?_ _) | (with_reducible refine Kd.C_drewN ?_ _) | (with_reducible refine Kd.C_drew ?_)))
   (case side2 => exact (Kd.R_reads' HO279.out).2.1)
   rintro e w39 ⟨rfl, hb⟩
   have HS2_ := (hb.cell (World.block_lt_of_cell? _ _ (hHeld.2.2.1))).trans (hHeld.2.2.1)
   have HS3_ := (hb.cell (World.block_lt_of_cell? _ _ (hHeld.2.2.2))).trans (hHeld.2.2.2)
   refine ⟨_, rfl, ?_⟩
   have n0_ := Aside0.mk (Kd.S_below (by (with_reducible repeat (first | apply Kd.S_alloc | apply Kd.S_drewN | apply Kd.S_drew)); exact HO_3.out) hb)
   have n1_ := Aside0.mk (Kd.R_below (zr HO_9.out) hb)
   have n2_ := Aside0.mk (Kd.R_below (zr HO279.out) hb)
   have n3_ := Aside0.mk (blk_below (g := gb275) (o := .cells #[.int .i64 (rd t271 x11_1)] 3 (0, 0)) (zb BK275.out) hb)
   have n4_ := Aside0.mk (blk_below (g := gb280) (o := .cells #[.int .i64 t276, .slice (some ad281) t277.length co36] 81 (0, 0)) (zb BK280.out) hb)
   have n5_ := Aside0.mk (below_step (zh HB.out) hb)
   clear HO_3
   clear HO_9
   clear HO279
   clear BK275
   clear BK280
   clear HB
   have HO_3 := n0_
   have HO_9 := n1_
   have HO279 := n2_
   have BK275 := n3_
   have BK280 := n4_
   have HB := n5_
   clear n0_ n1_ n2_ n3_ n4_ n5_
   (try clear hb)
   (try clear hb2)
   (try clear hk)
   (try clear hi)
   refine hK.out _ _ ⟨(blk_cell BK280.out 0).trans rfl, (blk_cell BK280.out 1).trans rfl, HS2_, HS3_⟩ (fun hHeld => ?_)
   clear hK K
   refine norm_ (a' := ?_) ?_ ?_
   rotate_left
   ·show Act.put _ (some 27) _ = _
    simp only [Act.put, List.setIfInBounds_toArray, List.set_cons_zero, List.set_cons_succ, i64_w, i32_w]
    rfl
   refine pure_ (i := 10) (N := some 28) (v := ?_) (a' := ?_) #[true, true, true, true, true, true, true, true, true, true, true, false, false] rfl rfl (any_of HT_.out (by kernel_rfl)) (fun _ _ _ h => h) (Or.inl ⟨by rfl, ?_⟩) ?_ ?_
   rotate_left
   ·intro w'
    go_simp
    with_reducible rfl
   rotate_left
   ·simp only [Act.put, List.setIfInBounds_toArray, List.set_cons_zero, List.set_cons_succ, i64_w, i32_w]
    rfl
   refine take_ (i := 11) (N := some 29) (v := ?_) (a' := ?_) #[true, true, true, true, true, true, true, true, true, true, true, true, false] rfl rfl (take_ofW HT_.out HW_.out (by kernel_rfl)) (fun _ _ _ h => h) (Or.inl ⟨by rfl, ?_⟩) hHeld ?_ ?_
   rotate_left
   ·rintro w' ⟨s0, s1, s2, s3⟩
    go_simp
    with_reducible rfl
   rotate_left
   ·simp only [Act.put, List.setIfInBounds_toArray, List.set_cons_zero, List.set_cons_succ, i64_w, i32_w]
    rfl
   refine pure_ (i := 12) (N := some 30) (v := ?_) (a' := ?_) #[true, true, true, true, true, true, true, true, true, true, true, true, true] rfl rfl (any_of HT_.out (by kernel_rfl)) (fun _ _ _ h => h) (Or.inl ⟨by rfl, ?_⟩) ?_ ?_
   rotate_left
   ·intro w'
    go_simp
    with_reducible rfl
   rotate_left
   ·simp only [Act.put, List.setIfInBounds_toArray, List.set_cons_zero, List.set_cons_succ, i64_w, i32_w]
    rfl
   refine done_ (done_of HT_.out (by kernel_rfl)) ?_
   have hcz40_0 : w39.cell? ⟨gb280, 0, none⟩ = some (.int .i64 t276) := (blk_cell BK280.out 0).trans rfl
   have hcz40_1 : w39.cell? ⟨gb280, 1, none⟩ = some (.slice (some ad281) t277.length co36) := (blk_cell BK280.out 1).trans rfl
   have hfz40_0 := blk_frozen BK280.out 0
   have hfz40_1 := blk_frozen BK280.out 1
   try go_wp2_with (first | ((with_reducible refine gate_callee (f := 86) rfl ?_); refine goesL_ (some 33) rfl rfl Tryz.func86 (by kernel_rfl) rfl #[.agg #[.int .i64 t276, .slice (some ad281) t277.length co36]] rfl (by (try simp only [List.map_toArray, List.map_cons, List.map_nil]); first | done | rfl | (simp only [List.length_drop, List.length_take]; rfl)) ?_; (with_reducible refine (impl_votes_game.calls k1 t276 _ _ t277 t284 t285 _ ?side1 ?side2 A28.out).mono ?_); (case side1 => repeat (first | exact (Kd.R_reads' HO279.out).2.2 | (with_reducible refine Kd.C_alloc ?_ _) | (with_reducible refine Kd.C_drewN ?_ _) | (with_reducible refine Kd.C_drew ?_))); (case side2 => exact (Kd.R_reads' HO279.out).2.1); rintro e w41 ⟨v286, rfl, ho0, hb⟩; refine ⟨_, rfl, ?_⟩; have n0_ := Aside0.mk (S_elderN (by (with_reducible repeat (first | apply Kd.S_alloc | apply Kd.S_drewN | apply Kd.S_drew)); exact HO_3.out) (Kd.S_base ho0) hb); have n1_ := Aside0.mk (Kd.R_below (zr HO_9.out) hb); have n2_ := Aside0.mk (Kd.R_below (zr HO279.out) hb); have n3_ := Aside0.mk (Kd.S_lower (Kd.S_mono (Kd.S_bound (Kd.S_newB (Kd.S_new' ho0 (Kd.R_lt (zr HO_9.out))) (g := gb275) (o := .cells #[.int .i64 (rd t271 x11_1)] 3 (0, 0)) (zb BK275.out))) (fun _ hk => And.intro hk.2.1 hk.1.2)) (below_size (zh HB.out))); have n4_ := Aside0.mk (blk_below (g := gb275) (o := .cells #[.int .i64 (rd t271 x11_1)] 3 (0, 0)) (zb BK275.out) hb); have n5_ := Aside0.mk (blk_below (g := gb280) (o := .cells #[.int .i64 t276, .slice (some ad281) t277.length co36] 81 (0, 0)) (zb BK280.out) hb); have n6_ := Aside0.mk (below_step (zh HB.out) hb); clear HO_3; clear HO_9; clear HO279; clear BK275; clear BK280; clear HB; have HO_3 := n0_; have HO_9 := n1_; have HO279 := n2_; have HO287 := n3_; have BK275 := n4_; have BK280 := n5_; have HB := n6_; clear n0_ n1_ n2_ n3_ n4_ n5_ n6_; (try clear hb); (try clear hb2); (try clear hk); (try clear hi); (try clear ho0); obtain ⟨Ao43, co43, eo43⟩ := Kd.S_slice HO287.out; subst eo43) | ((with_reducible refine gate_builtin (b := .append) (xs := #[.tmp 31, .tmp 34]) rfl ?_); at_builtin; refine Kd.S_append kgS (w0 := w) w.heap.size rfl (.tmp 31) (.tmp 34) 40 28 (.agg #[(.int .i64 0), (.slice none 0 0)]) 32 rfl Tryz.underlying40 info28 rfl (by decide) (by omega) u3 x3_1 (⟨t284, t285⟩ : S28) [.int .i64 t284, .slice Ao43 t285.length co43] (fun k_ => True ∧ k_ ≠ gb275) _ rfl rfl (kgS_mkM _ _ _ (⟨t284, t285⟩ : S28) (Kd.S_apart' HO287.out (Kd.S_typed HO_3.out) (by decide))) (fun k_ hk => ⟨⟨trivial, hk.1.2⟩, hk.2⟩) ?aF ?aO ?aB ?aS ?aL ?_; (case aB => exact (zh HB.out)); (case aF => exact (fun k_ hk => ⟨trivial, Kd.freshB (g := gb275) (o := .cells #[.int .i64 (rd t271 x11_1)] 3 (0, 0)) (zb BK275.out) k_ hk⟩)); (case aO => exact (by (with_reducible repeat (first | apply Kd.S_alloc | apply Kd.S_drewN | apply Kd.S_drew)); exact Kd.S_mono HO_3.out (fun _ hk => ⟨hk.1.1, fun hp => absurd hk.2 (Nat.not_lt.2 hp.1.1)⟩))); (case aS => exact (below_size (zh HB.out))); (case aL => have := LMc29.out; omega); intro v289 w42 ho hb hg hat; rw [← Ny288.out] at ho; have n0_ := Aside0.mk (Kd.R_over' (zr HO_9.out) (Kd.S_typed HO_3.out) (by decide) hg); have n1_ := Aside0.mk (blk_grown (g := gb275) (o := .cells #[.int .i64 (rd t271 x11_1)] 3 (0, 0)) (zb BK275.out) hg (Kd.S_ne HO_3.out BK275.out (by decide))); have n2_ := Aside0.mk (Kd.R_over' (zr HO279.out) (Kd.S_typed HO_3.out) (by decide) hg); have n3_ := Aside0.mk (blk_grown (g := gb280) (o := .cells #[.int .i64 t276, .slice (some ad281) t277.length co36] 81 (0, 0)) (zb BK280.out) hg (Kd.S_ne HO_3.out BK280.out (by decide))); have n4_ := Aside0.mk (hb); have n5_ := Aside0.mk (ho); clear HO_9; clear BK275; clear HO279; clear BK280; clear HB; clear HO_3; clear HO287; have HO_9 := n0_; have BK275 := n1_; have HO279 := n2_; have BK280 := n3_; have HB := n4_; have HO290 := n5_; clear n0_ n1_ n2_ n3_ n4_ n5_; clear ho hb hg hat))
   go_roundg k1
   case measure => have := HK1.out; omega
   case rel => exact ⟨(y288), (wrap64 (x11_1 + 1)), (by first | rfl | (simp; done) | (simp [*]; done)), H', ⟨by have := HK1.out; omega⟩, ⟨by (with_reducible repeat (first | apply Kd.S_alloc | apply Kd.S_drewN | apply Kd.S_drew)); exact Kd.S_mono HO290.out (fun _ _ => trivial)⟩, ⟨by (with_reducible repeat (first | apply Kd.R_alloc | apply Kd.R_drewN | apply Kd.R_drew)); exact Kd.R_mono HO_9.out (fun _ hk => trivial)⟩, ⟨by repeat (first | (with_reducible first | exact HB.out | apply below_alloc | apply pw_below_drewN | apply below_drew1 | refine below_set ?_ GE275.out | refine below_set ?_ GE280.out) | exact HB.out)⟩⟩
theorem C_fst {f : Nat → Nat} {w : World} {A : Option Addr} {l : List (S28 × Nat)} (h : Kd.C (Kd.tag f kgS) w A l.length l) : Kd.C k28 w A (l.map Prod.fst).length (l.map Prod.fst) := by
  obtain ⟨_, h2, h3⟩ := h
  refine ⟨rfl, by rw [List.length_map]; exact h2, fun hp => ?_⟩
  obtain ⟨ad, e, hc⟩ := h3 (by rw [List.length_map] at hp; exact hp)
  refine ⟨ad, e, fun j p hj => ?_⟩
  rw [List.getElem?_map] at hj
  obtain ⟨z, hz, rfl⟩ := Option.map_eq_some_iff.1 hj
  exact hc j z hz
theorem idxO_fst (p : S28 → Option Bool) : ∀ (l : List (S28 × Nat)) (k : Nat), idxO (fun x => p x.1) l k = idxO p (l.map Prod.fst) k
  | [], _ => rfl
  | x :: xs, k => by
    simp only [idxO, List.map_cons]
    rw [idxO_fst p xs (k + 1)]
theorem two_segM {f : Nat → Nat} {W : World} {base : Nat} {ok : Nat → Prop} {x : S28 × Nat} {a b : Value} {ci : List Value} (h : ci.length = 2) (hF : (Kd.tag f kgS).M W base ok x [a, b]) : (Kd.tag f kgS).M W base ok x (ci.take 0 ++ [a, b] ++ ci.drop (0 + [a, b].length)) := by
  match ci, h with
  | [_, _], _ => exact hF
theorem R_tail {α : Type} {d : Kd α} {e base i c g : Nat} {ok : Nat → Prop} {W : World} {xs : List α} {cur cur' : Array Value} (h : d.R e W base ok (.slice (some ⟨g, 0, none⟩) i c) xs) (hb : W.heap[g]? = some (.cells cur e (0, 0))) (hs : cur'.size = cur.size) (ht : cur'.toList.take (i * d.sz) = cur.toList.take (i * d.sz)) :
    d.R e (W.setRow g cur') base ok (.slice (some ⟨g, 0, none⟩) i c) xs := by
  obtain ⟨hok, inner, ho, hr⟩ := h
  refine ⟨hok, inner, ⟨ho.1, ?_⟩, ?_⟩
  · rcases ho.2 with ⟨hv, _⟩ | ⟨g', cap, cur0, hv, hbase, hb0, h1, h2, h3, h4⟩
    · cases hv
    · injection hv with hA hn hc
      injection hA with hA
      injection hA with hA
      subst hA; subst hc
      rw [hb] at hb0
      injection hb0 with hb0
      injection hb0 with hb0
      subst hb0
      refine .inr ⟨g, c, cur', by rw [← hn], hbase, setRow_heap _ _ _ _ _ _ hb, h1, h2, hs.trans h3, ?_⟩
      rw [← h4, ← hn]; exact ht
  · exact hr.imp_ fun _ _ hp => Kd.M_step hp (fun k hk _ => setRow_other _ _ _ _ (fun e => hk.2 (by rw [e]; rfl)))
theorem filO_sub {α : Type} (p : α → Option Bool) : ∀ (l r : List α), filO p l = some r → r.Sublist l
  | [], r, h => by obtain rfl := Option.some.inj h; exact List.Sublist.refl _
  | x :: xs, r, h => by
    obtain ⟨b, hb, h⟩ := Option.bind_eq_some_iff.mp h
    obtain ⟨r1, h1, h⟩ := Option.bind_eq_some_iff.mp h
    obtain rfl := Option.some.inj h
    have ih := filO_sub p xs r1 h1
    split
    · exact ih.cons x
    · exact ih.cons_cons x
theorem filO_fst (p : S28 → Option Bool) : ∀ (l : List (S28 × Nat)) (r : List S28), filO p (l.map Prod.fst) = some r → ∃ r', filO (fun x => p x.1) l = some r' ∧ r'.map Prod.fst = r
  | [], r, h => ⟨[], rfl, Option.some.inj h⟩
  | x :: xs, r, h => by
    rw [List.map_cons] at h
    obtain ⟨b, hb, h⟩ := Option.bind_eq_some_iff.mp h
    obtain ⟨r1, h1, h⟩ := Option.bind_eq_some_iff.mp h
    obtain rfl := Option.some.inj h
    obtain ⟨r', h2, h3⟩ := filO_fst p xs r1 h1
    refine ⟨if b = true then r' else x :: r', ?_, ?_⟩
    · show (p x.1).bind _ = _
      rw [hb, Option.bind_some, h2]; rfl
    · split
      · exact h3
      · rw [List.map_cons, h3]
set_option maxHeartbeats 8000000 in
set_option maxRecDepth 100000 in
theorem deleteFunc_gamesT (f : Nat → Nat) (p : S28 → Option Bool) (g : Nat) (lb : Array Value) (eg : ∀ args w, (callFunc g args).run Tryz.prog w = .ok (.enter g args) w) (wb w : World) (A : Option Addr) (c : Nat) (l r : List (S28 × Nat))
    (hp : PredG Tryz.prog g lb wb p) (hB : Below wb.heap.size wb w) (hN : (Kd.tag f kgS).R 28 w wb.heap.size (fun z => wb.heap.size ≤ z) (.slice A l.length c) l) (hl : l.length ≤ 1000000) (h : filO (fun x => p x.1) l = some r) :
    Calls Tryz.prog 58 #[.slice A l.length c, .func (.func g) #[] lb] w fun e w' => ∃ A' c', e = .returned (.slice A' r.length c') ∧ (Kd.tag f kgS).R 28 w' wb.heap.size (fun z => wb.heap.size ≤ z) (.slice A' r.length c') r ∧ Below wb.heap.size wb w' := by
  obtain ⟨i, hi, hcase⟩ := filO_idx (fun x : S28 × Nat => p x.1) l 0 r h
  have hrd := Kd.R_reads' hN
  have hix := indexFunc_game p g lb eg wb A c (l.map Prod.fst) i w hB (C_fst hrd.2.2) (by rw [List.length_map]; exact hrd.2.1) hp (by rw [idxO_fst] at hi; exact hi)
  rw [List.length_map] at hix
  have HI := Aside0.mk hix
  have HN := Aside0.mk hN
  have HB := Aside0.mk hB
  have HP := Aside0.mk hp
  have hlc := hrd.2.1
  clear hN hB hp hi hrd h hix
  rcases hcase with ⟨rfl, rfl⟩ | ⟨n0, rfl, hn0, rest0, hrest0, hr0⟩
  · go_enter Tryz.func58, Tryz.ntmps58
    go_wp2_with (go_at_call 80; refine HI.out.mono ?_; rintro e w1 ⟨rfl, hb1⟩; have HB1 := Aside0.mk hb1; clear hb1)
    go_ret
    exact ⟨A, c, rfl, Kd.R_below HN.out HB1.out, HB.out.trans (HB1.out.mono HB.out.size)⟩
  · rw [Nat.zero_add] at HI
    obtain ⟨g0, cap, hv, hg0, hglt, cells, hcells⟩ := Kd.R_form HN.out (Nat.lt_of_le_of_lt (Nat.zero_le _) hn0)
    injection hv with hA _ hc
    subst hA; subst hc
    obtain ⟨inf, hinf, _, hinf2, _⟩ := info_parts info28
    have hm1 : ((n0 : Int) == -1) = false := by rw [beq_eq_false_iff_ne]; omega
    have hm2 : ¬ ((n0 : Int) = -1) := by omega
    have hw1 : wrap64 ((n0 : Int) + 1) = ((n0 + 1 : Nat) : Int) := om3 hn0 (Nat.le_trans hl (by decide))
    have HR0 := Aside0.mk hr0
    have HRS := Aside0.mk hrest0
    clear hr0 hrest0 hcells
    go_enter Tryz.func58, Tryz.ntmps58
    go_wp2_with (go_at_call 80; refine HI.out.mono ?_; rintro e w1 ⟨rfl, hb1⟩; have HN1 := Aside0.mk (Kd.R_below HN.out hb1); have HB1 := Aside0.mk (HB.out.trans (hb1.mono HB.out.size)); clear hb1 HN HI)
    go_loopg [5, 6] l.length (fun gg v5 v6 wr => ∃ (i j : Nat) (cur : List (S28 × Nat)), i < j ∧ j ≤ l.length ∧ l.length - j ≤ gg ∧ v5 = .int .i64 i ∧ v6 = .int .i64 j ∧ Aside0 (cur.length = l.length) ∧ Aside0 (cur.drop j = l.drop j) ∧ Aside0 (∃ rest, filO (fun x : S28 × Nat => p x.1) (l.drop j) = some rest ∧ r = cur.take i ++ rest) ∧ Aside0 ((Kd.tag f kgS).R 28 wr wb.heap.size (fun z => wb.heap.size ≤ z) (.slice (some ⟨g0, 0, none⟩) l.length c) cur) ∧ Aside0 (Below wb.heap.size wb wr))
    case atStart => exact ⟨n0, n0 + 1, l, Nat.lt_succ_self _, hn0, Nat.sub_le _ _, rfl, by first | rfl | (congr 1; omega), ⟨rfl⟩, ⟨rfl⟩, ⟨⟨rest0, HRS.out, HR0.out⟩⟩, HN1, HB1⟩
    case round =>
      clear HN1 HB1 HR0 HRS hw1 hm1 hm2
      obtain ⟨i, j, cur, hij, hj, hg, rfl, rfl, HL, HD, HR, HN, HB⟩ := hrel
      by_cases hlt : j < l.length
      · have hltz : (j : Int) < (l.length : Int) := Int.ofNat_lt.2 hlt
        have hdec : decide ((j : Int) < (l.length : Int)) = true := decide_eq_true hltz
        have hil : i < l.length := Nat.lt_trans hij hlt
        have hilz : (i : Int) < (l.length : Int) := Int.ofNat_lt.2 hil
        have hjc : j < cur.length := by rw [HL.out]; exact hlt
        obtain ⟨cj, hcl, hFK, hcc, hfr⟩ := Kd.R_elem HN.out (z28, 0) (j : Int) (Int.natCast_nonneg _) hltz
        rw [Int.toNat_natCast] at hFK hcc
        have hDj : l.drop j = cur.getD j (z28, 0) :: l.drop (j + 1) := by
          have h1 := HD.out
          rw [List.drop_eq_getElem_cons hjc, List.drop_eq_getElem_cons hlt] at h1
          rw [List.drop_eq_getElem_cons hlt, List.getD_eq_getElem?_getD, List.getElem?_eq_getElem hjc]
          exact congrArg (· :: l.drop (j + 1)) (List.cons.inj h1).1.symm
        have hDn : cur.drop (j + 1) = l.drop (j + 1) := by
          have h1 := HD.out
          rw [List.drop_eq_getElem_cons hjc, List.drop_eq_getElem_cons hlt] at h1
          exact (List.cons.inj h1).2
        obtain ⟨rest, hrest, hr⟩ := HR.out
        rw [hDj] at hrest
        clear hDj
        generalize cur.getD j (z28, 0) = x at hFK hrest
        obtain ⟨b, hpb, hrest⟩ := Option.bind_eq_some_iff.mp hrest
        obtain ⟨r1, hr1, hrest⟩ := Option.bind_eq_some_iff.mp hrest
        have hrst := Option.some.inj hrest
        obtain ⟨v1, rfl, hxS⟩ := kgS_openM hFK
        obtain ⟨Ax, cx, rfl⟩ := Kd.S_slice hxS
        obtain ⟨_, hxl, hxF⟩ := Kd.S_reads' hxS
        have x0 : wr.cell? ⟨g0, j * 2, none⟩ = some (.int .i64 x.1.f0) := hcc 0 _ rfl
        have x1 : wr.cell? ⟨g0, j * 2 + 1, none⟩ = some (.slice Ax x.1.f1.length cx) := hcc 1 _ rfl
        have HFK := Aside0.mk hFK
        have HCL := Aside0.mk (fun (W : World) (hb : Below wr.heap.size wr W) => HP.out W x.1 Ax cx b (HB.out.trans (hb.mono HB.out.size)) hxl (Kd.C_below hxF hb) hpb)
        have HR1 := Aside0.mk hr1
        have HRR := Aside0.mk hr
        have HDN := Aside0.mk hDn
        have HST := Aside0.mk hrst
        clear hFK hcc hfr hxF hxS hpb hr1 hr hDn hrst hrest HR HD hcl
        cases b
        case true =>
          have hs := HST.out
          rw [if_pos rfl] at hs
          subst hs
          clear HST
          go_wp2_with (go_at_fn g; refine (HCL.out _ ((Below.refl _ wr).alloc (Nat.le_refl _) _)).mono ?_; rintro e w2 ⟨rfl, hb2⟩; have HB2 := Aside0.mk (((Below.refl _ wr).alloc (Nat.le_refl _) _).trans (hb2.mono (by simp))); clear hb2)
          go_roundg (l.length - (j + 1))
          case measure => exact om2 hlt hg
          case rel => exact ⟨i, j + 1, cur, om8 hij, hlt, Nat.le_refl _, rfl, by congr 1; (try exact om3 hlt (Nat.le_trans hl (by decide))), HL, HDN, ⟨⟨r1, HR1.out, HRR.out⟩⟩, ⟨Kd.R_below HN.out HB2.out⟩, ⟨HB.out.trans (HB2.out.mono HB.out.size)⟩⟩
        case false =>
          have hs := HST.out
          rw [if_neg (by decide)] at hs
          subst hs
          clear HST
          have hso : i * 2 = (i : Int).toNat * Kd.sz (Kd.tag f kgS) + 0 := by rw [Int.toNat_natCast]; rfl
          have hsst : (Tryz.prog.info? 28).map (·.size) = some ([.int .i64 x.1.f0, .slice Ax x.1.f1.length cx] : List Value).length := by rw [hinf]; exact congrArg some hinf2
          have hs1 : ∀ q ∈ ([.int .i64 x.1.f0, .slice Ax x.1.f1.length cx] : List Value), q.oneCell' = true := fun q hq => by
            simp only [List.mem_cons, List.not_mem_nil, or_false] at hq
            rcases hq with rfl | rfl <;> rfl
          have HSO := Aside0.mk hso
          have HSS := Aside0.mk hsst
          have HS1 := Aside0.mk hs1
          clear hso hsst hs1
          go_wp2_with (first | (go_at_fn g; refine (HCL.out _ ((Below.refl _ wr).alloc (Nat.le_refl _) _)).mono ?_; rintro e w2 ⟨rfl, hb2⟩; have hbx := blk_below (blk_new wr (.cells #[.int .i64 x.1.f0, .slice Ax x.1.f1.length cx] 28 (0, 0))) hb2; have y0 := (blk_cell hbx 0).trans rfl; have y1 := (blk_cell hbx 1).trans rfl; have HB2 := Aside0.mk (((Below.refl _ wr).alloc (Nat.le_refl _) _).trans (hb2.mono (by simp))); clear hb2 hbx) | ((with_reducible refine gate_store (t := 28) (p := 33) rfl ?_); obtain ⟨ci, hcil, _, hcic, _⟩ := Kd.R_elem (Kd.R_below HN.out HB2.out) (z28, 0) (i : Int) (Int.natCast_nonneg _) hilz; refine Kd.R_store (Kd.tag f kgS) (w0 := wb) wb.heap.size rfl rfl 28 (.tmp 33) (.tmp 32) rfl 28 (i : Int) 0 cur x (.agg #[.int .i64 x.1.f0, .slice Ax x.1.f1.length cx]) [.int .i64 x.1.f0, .slice Ax x.1.f1.length cx] ci (fun z => wb.heap.size ≤ z) (fun z => wb.heap.size ≤ z ∧ z ≠ g0) rfl HSO.out rfl rfl HSS.out HS1.out (Kd.R_below HN.out HB2.out) (Int.natCast_nonneg _) hilz hcil hcic (Nat.le_refl 2) (two_segM hcil (Kd.M_below HFK.out HB2.out)) (fun _ hz => hz) (HB.out.trans (HB2.out.mono HB.out.size)) ?_; intro w3 hn3 hb3 hg3; have HN3 := Aside0.mk hn3; have HB3 := Aside0.mk hb3; clear hn3 hb3 hg3))
          go_roundg (l.length - (j + 1))
          case measure => exact om2 hlt hg
          case rel => exact ⟨i + 1, j + 1, cur.set i x, om7 hij, hlt, Nat.le_refl _, by congr 1; (try exact om3 hil (Nat.le_trans hl (by decide))), by congr 1; (try exact om3 hlt (Nat.le_trans hl (by decide))), ⟨by rw [List.length_set]; exact HL.out⟩, ⟨by rw [drop_set_lt _ _ _ _ (om8 hij)]; exact HDN.out⟩, ⟨⟨r1, HR1.out, by rw [take_set_same _ _ _ (by rw [HL.out]; exact hil), List.append_assoc]; exact HRR.out⟩⟩, ⟨by have := HN3.out; rwa [Int.toNat_natCast] at this⟩, HB3⟩
      · have hjl : j = l.length := Nat.le_antisymm hj (Nat.le_of_not_lt hlt)
        have hltz : ¬ (j : Int) < (l.length : Int) := fun e => hlt (Int.ofNat_lt.1 e)
        obtain ⟨rest, hrest, hr⟩ := HR.out
        rw [hjl, List.drop_length] at hrest
        obtain rfl := Option.some.inj hrest
        rw [List.append_nil] at hr
        have hil : i < l.length := by omega
        have hrl : r.length = i := by rw [hr, List.length_take, HL.out]; exact Nat.min_eq_left (Nat.le_of_lt hil)
        have HRr := Aside0.mk hr
        have HRl := Aside0.mk hrl
        clear hr hrl HR HD hrest hjl
        have hiz : (i : Int) ≤ (l.length : Int) := Int.ofNat_le.2 (Nat.le_of_lt hil)
        have hcut1 := cut_from (P := Tryz.prog) 40 28 .i64 Tryz.underlying40 hinf 2 hinf2 (some ⟨g0, 0, none⟩) l.length c (i : Int) (Int.natCast_nonneg _) hiz
        simp only [Int.toNat_natCast, if_neg (show ¬ c = i by omega), Option.map_some, add_at, Nat.zero_add] at hcut1
        have hcut2 := cut_to (P := Tryz.prog) 40 28 .i64 Tryz.underlying40 hinf (some ⟨g0, 0, none⟩) l.length c (i : Int) (Int.natCast_nonneg _) hiz hlc
        simp only [Int.toNat_natCast] at hcut2
        obtain ⟨m, hm⟩ := om9 hil
        rw [hm] at hcut1
        have hNi := Kd.R_take HN.out (show i ≤ cur.length by rw [HL.out]; exact Nat.le_of_lt hil)
        rw [← HRr.out] at hNi
        obtain ⟨curA, hcurA, hsz, hst⟩ : ∃ curA, wr.heap[g0]? = some (.cells curA 28 (0, 0)) ∧ curA.size = c * 2 ∧ l.length ≤ c := by
          obtain ⟨_, inner, ho, _⟩ := HN.out
          rcases ho.2 with ⟨hv, _⟩ | ⟨g', cap', cur0, hv, hbase, hb0, h1, h2, h3, h4⟩
          · cases hv
          · injection hv with hA hn hc
            injection hA with hA
            injection hA with hA
            subst hA; subst hc
            exact ⟨cur0, hb0, h3, hlc⟩
        have hz2 := zero_cells2 (.int .i64 0) (.slice none 0 0) (m + 1)
        have hclr : ∀ ty cc, (Builtin.clear_ #[40] ty #[.slice (some ⟨g0, i * 2, none⟩) (m + 1) cc]).run Tryz.prog wr = .ok (.tuple #[]) (wr.setRow g0 (curA.toList.take (i * 2) ++ (Builtin.zeroCells #[.int .i64 0, .slice none 0 0] (m + 1)).toList ++ curA.toList.drop (i * 2 + (Builtin.zeroCells #[.int .i64 0, .slice none 0 0] (m + 1)).toList.length)).toArray) := by
          intro ty cc
          exact run_clear_n wr _ 28 ty m _ _ Tryz.underlying40 zeroG rfl (by intro u hu; rcases hz2.2 u hu with rfl | rfl <;> rfl) g0 _ _ _ hcurA (by show i * 2 + (Builtin.zeroCells #[.int .i64 0, .slice none 0 0] (m + 1)).toList.length ≤ _; rw [hz2.1, hsz]; omega)
        have hNt := R_tail hNi hcurA (cur' := (curA.toList.take (i * 2) ++ (Builtin.zeroCells #[.int .i64 0, .slice none 0 0] (m + 1)).toList ++ curA.toList.drop (i * 2 + (Builtin.zeroCells #[.int .i64 0, .slice none 0 0] (m + 1)).toList.length)).toArray) (by rw [hz2.1]; simp [hsz, hz2.1]; omega) (by
          show List.take (i * 2) _ = List.take (i * 2) _
          rw [List.toList_toArray, List.append_assoc, List.take_append_of_le_length (by simp [hsz]; omega), List.take_take, Nat.min_self])
        have HNT := Aside0.mk hNt
        have HBT := Aside0.mk (below_setRow HB.out hg0 (curA.toList.take (i * 2) ++ (Builtin.zeroCells #[.int .i64 0, .slice none 0 0] (m + 1)).toList ++ curA.toList.drop (i * 2 + (Builtin.zeroCells #[.int .i64 0, .slice none 0 0] (m + 1)).toList.length)).toArray)
        generalize (curA.toList.take (i * 2) ++ (Builtin.zeroCells #[.int .i64 0, .slice none 0 0] (m + 1)).toList ++ curA.toList.drop (i * 2 + (Builtin.zeroCells #[.int .i64 0, .slice none 0 0] (m + 1)).toList.length)).toArray = rowz at hclr HNT HBT
        clear hNt hNi hcurA hsz hst hz2 hm
        go_wp2
        go_ret
        exact ⟨_, _, by rw [HRl.out]; rfl, by rw [HRl.out]; exact HNT.out, HBT.out⟩
theorem deleteFunc_gamesS (p : S28 → Option Bool) (g : Nat) (lb : Array Value) (eg : ∀ args w, (callFunc g args).run Tryz.prog w = .ok (.enter g args) w) (wb w : World) (A : Option Addr) (c : Nat) (l r : List S28)
    (hp : PredG Tryz.prog g lb wb p) (hB : Below wb.heap.size wb w) (hN : Kd.S kgS 28 w wb.heap.size (fun z => wb.heap.size ≤ z) (.slice A l.length c) l) (hl : l.length ≤ 1000000) (h : filO p l = some r) :
    Calls Tryz.prog 58 #[.slice A l.length c, .func (.func g) #[] lb] w fun e w' => ∃ A' c', e = .returned (.slice A' r.length c') ∧ Kd.S kgS 28 w' wb.heap.size (fun z => wb.heap.size ≤ z) (.slice A' r.length c') r ∧ Below wb.heap.size wb w' := by
  obtain ⟨f, hf⟩ := hN
  obtain ⟨r', h1, h2⟩ := filO_fst p l.zipIdx r (by rw [zip_fst]; exact h)
  have h3 := deleteFunc_gamesT f p g lb eg wb w A c l.zipIdx r' hp hB (by rw [List.length_zipIdx]; exact hf) (by rw [List.length_zipIdx]; exact hl) h1
  rw [List.length_zipIdx] at h3
  refine h3.mono ?_
  rintro e w' ⟨A', c', rfl, hR, hb⟩
  have hs : ((r'.map Prod.snd)).Nodup := ((filO_sub _ _ _ h1).map Prod.snd).nodup (zip_nodup l)
  have hS := S_retag hR hs
  rw [h2] at hS
  have hl2 : r'.length = r.length := by rw [← h2, List.length_map]
  rw [hl2] at hS ⊢
  exact ⟨A', c', rfl, hS, hb⟩
set_option maxHeartbeats 2000000 in
theorem impl_solutionsS.calls (k : Nat) (n : Int) (A : Option Addr) (c : Nat) (l : List S67) (r : List S28) (w : World) (hC : Kd.C k67 w A l.length l) (hc : l.length ≤ c) (h : impl_solutions.f k n l = some r) :
    Calls Tryz.prog 36 #[.int .i64 n, .slice A l.length c] w fun e w' => ∃ v0_ : Value, e = .returned v0_ ∧ Kd.S kgS 28 w' w.heap.size (fun k_ => w.heap.size ≤ k_) v0_ r ∧ Below w.heap.size w w' := by
  have eg : ∀ args w, (callFunc 60 args).run Tryz.prog w = .ok (.enter 60 args) w := enters_of Tryz.func60 (by kernel_rfl) rfl
  have EG := Aside0.mk eg
  clear eg
  obtain ⟨gs, hg, h⟩ := Option.bind_eq_some_iff.mp h
  by_cases hl : gs.length ≤ 1000000
  case neg => rw [if_neg hl] at h; cases h
  rw [if_pos hl] at h
  have HC := Aside0.mk hC
  have HG := Aside0.mk hg
  have HL := Aside0.mk hl
  have HH := Aside0.mk h
  clear hC hg hl h
  go_enter Tryz.func36, Tryz.ntmps36
  go_wp2_with (go_at_call 59; refine (impl_allGamesS.calls k n gs _ HG.out).mono ?_; rintro e w1 ⟨u, rfl, hR, hb1⟩; obtain ⟨Av, cv, rfl⟩ := Kd.S_slice hR; have HN := Aside0.mk (Kd.S_mono (Kd.S_bound hR) (ok' := fun z => (w.alloc (.cells #[.slice A l.length c] 31 (0, 0))).heap.size ≤ z) (fun _ h => h.2.1)); have HB1 := Aside0.mk hb1; clear hR hb1)
  refine (deleteFunc_gamesS (solP k l) 60 #[.pointer (some ⟨w.heap.size, 0, none⟩)] EG.out (w.alloc (.cells #[.slice A l.length c] 31 (0, 0))) w1 Av cv gs r (impl_solutions_1.pred k A c l w.heap.size _ (blk_new w _) (Kd.C_below HC.out ((Below.refl _ w).alloc (Nat.le_refl _) _)) hc) HB1.out HN.out HL.out HH.out).mono ?_
  rintro e w2 ⟨A2, c2, rfl, hN2, hB2⟩
  have HN2 := Aside0.mk hN2
  have HB2 := Aside0.mk hB2
  clear hN2 hB2 HN HB1
  go_wp2
  go_ret
  exact ⟨_, rfl, Kd.S_lower (Kd.S_mono HN2.out (fun z hz => Nat.le_trans (by simp) hz)) (by simp), ((Below.refl _ w).alloc (Nat.le_refl _) _).trans (HB2.out.mono (by simp))⟩
set_option maxHeartbeats 8000000 in
set_option maxRecDepth 100000 in
theorem impl_SolutionsS.calls (k : Nat) (a0_0 : Int) (A0_1 : Option Addr) (c0_1 : Nat) (l0_1 : List (S67)) (r1 : List (S28)) (r2 : Bool) (w : World) (hr0_1 : Kd.C k67 w A0_1 l0_1.length l0_1) (hc0_1 : l0_1.length ≤ c0_1) (h : impl_Solutions.f k a0_0 l0_1 = some (r1, r2)) :
  Calls Tryz.prog 17 #[.agg #[.int .i64 a0_0, .slice A0_1 l0_1.length c0_1]] w fun e w' => ∃ v0_ : Value, e = .returned (.tuple #[v0_, .bool r2]) ∧ Kd.S kgS 28 w' w.heap.size (fun k_ => (w.heap.size ≤ k_)) v0_ r1 ∧ Below w.heap.size w w' := by
 have hu33 := Tryz.underlying33
 have HR0_1 := Aside0.mk hr0_1
 have HC0_1 := Aside0.mk hc0_1
 clear hr0_1 hc0_1
 have HB := Aside0.mk (Below.refl w.heap.size w)
 have H : ((impl_IsPuzzle.f a0_0 l0_1).bind fun t356 => (if t356 = true then ((impl_solutions.f k a0_0 l0_1).bind fun t357 => (some (t357, true))) else (some (([] : List (S28)), false)))) = some (r1, r2) := h
 clear h
 replace H := Option.bind_eq_some_iff.mp H
 obtain ⟨t356, A20, H⟩ := H
 replace H : (if t356 = true then ((impl_solutions.f k a0_0 l0_1).bind fun t357 => (some (t357, true))) else (some (([] : List (S28)), false))) = some (r1, r2) := H
 have A2 := Aside0.mk A20
 clear A20
 by_cases c3 : t356 = true
 rotate_left
 ·replace c3 := Bool.eq_false_iff.mpr c3
  subst c3
  have H1 : (some (([] : List (S28)), false)) = some (r1, r2) := by rw [if_neg (show ¬ (false = true) by decide)] at H; exact H
  clear H
  have H := H1
  clear H1
  simp only [Option.some.injEq, Prod.mk.injEq] at H
  obtain ⟨rfl, rfl⟩ := H
  go_enter Tryz.func17, Tryz.ntmps17
  go_wp2_with (first | ((with_reducible refine gate_dst (N := 1) rfl ?_); refine box_event ?hg (N := 1) ?hd (cs := #[.int .i64 a0_0, .slice A0_1 l0_1.length c0_1]) (t := 33) ?hr ?_; (case hd => rfl); (case hg => rfl); (case hr => first | (go_simp; done) | (go_simp; rfl)); intro gb355 hg w10 hbox hb; have n2_ := Aside0.mk ((by rw [hg]; exact (below_size (zh HB.out)) : w.heap.size ≤ gb355)); replace HB := Aside0.mk (below_step (zh HB.out) hb); have BK355 := Aside0.mk hbox; have GW355 := n2_; have GE355 := n2_; clear n2_ hb hbox hg; have hcz11_0 : w10.cell? ⟨gb355, 0, none⟩ = some (.int .i64 a0_0) := (blk_cell BK355.out 0).trans rfl; have hcz11_1 : w10.cell? ⟨gb355, 1, none⟩ = some (.slice A0_1 l0_1.length c0_1) := (blk_cell BK355.out 1).trans rfl; have hfz11_0 := blk_frozen BK355.out 0; have hfz11_1 := blk_frozen BK355.out 1) | ((with_reducible refine gate_callee (f := 35) rfl ?_); refine goesL_ (some 5) rfl rfl Tryz.func35 (by kernel_rfl) rfl #[.agg #[.int .i64 a0_0, .slice A0_1 l0_1.length c0_1]] rfl (by (try simp only [List.map_toArray, List.map_cons, List.map_nil]); first | done | rfl | (simp only [List.length_drop, List.length_take]; rfl)) ?_; (with_reducible refine (impl_IsPuzzle.calls a0_0 _ _ l0_1 false _ ?side1 ?side2 A2.out).mono ?_); (case side1 => repeat (first | exact (Kd.C_below HR0_1.out HB.out) | (with_reducible refine Kd.C_alloc ?_ _) | (with_reducible refine Kd.C_drewN ?_ _) | (with_reducible refine Kd.C_drew ?_))); (case side2 => exact HC0_1.out); rintro e w12 ⟨rfl, hb⟩; refine ⟨_, rfl, ?_⟩; have n0_ := Aside0.mk (blk_below (g := gb355) (o := .cells #[.int .i64 a0_0, .slice A0_1 l0_1.length c0_1] 33 (0, 0)) (zb BK355.out) hb); have n1_ := Aside0.mk (below_step (zh HB.out) hb); clear BK355; clear HB; have BK355 := n0_; have HB := n1_; clear n0_ n1_; (try clear hb); (try clear hb2); (try clear hk); (try clear hi)))
  go_ret2
  exact ⟨_, by first | rfl | (simp [*, errW_none, errW_some] <;> rfl), (by first | exact Kd.S_nil _ _ _ _ _ | exact Kd.R_V (Kd.R_nil _ _ 0 _ _) | exact Kd.N_nil _ _ _ _ _ | exact Kd.S_nil _ _ _ _ _ | exact Kd.Q_nil _ _ _ _ _ | exact Kd.S_nil _ _ _ _ _), by repeat (first | (with_reducible first | exact HB.out | apply below_alloc | apply pw_below_drewN | apply below_drew1 | refine below_set ?_ GE355.out) | exact HB.out)⟩
 subst c3
 have H1 : ((impl_solutions.f k a0_0 l0_1).bind fun t357 => (some (t357, true))) = some (r1, r2) := by rw [if_pos rfl] at H; exact H
 clear H
 have H := H1
 clear H1
 replace H := Option.bind_eq_some_iff.mp H
 obtain ⟨t357, A40, H⟩ := H
 replace H : (some (t357, true)) = some (r1, r2) := H
 have A4 := Aside0.mk A40
 clear A40
 simp only [Option.some.injEq, Prod.mk.injEq] at H
 obtain ⟨rfl, rfl⟩ := H
 go_enter Tryz.func17, Tryz.ntmps17
 go_wp2_with (first | ((with_reducible refine gate_dst (N := 1) rfl ?_); refine box_event ?hg (N := 1) ?hd (cs := #[.int .i64 a0_0, .slice A0_1 l0_1.length c0_1]) (t := 33) ?hr ?_; (case hd => rfl); (case hg => rfl); (case hr => first | (go_simp; done) | (go_simp; rfl)); intro gb355 hg w5 hbox hb; have n2_ := Aside0.mk ((by rw [hg]; exact (below_size (zh HB.out)) : w.heap.size ≤ gb355)); replace HB := Aside0.mk (below_step (zh HB.out) hb); have BK355 := Aside0.mk hbox; have GW355 := n2_; have GE355 := n2_; clear n2_ hb hbox hg; have hcz6_0 : w5.cell? ⟨gb355, 0, none⟩ = some (.int .i64 a0_0) := (blk_cell BK355.out 0).trans rfl; have hcz6_1 : w5.cell? ⟨gb355, 1, none⟩ = some (.slice A0_1 l0_1.length c0_1) := (blk_cell BK355.out 1).trans rfl; have hfz6_0 := blk_frozen BK355.out 0; have hfz6_1 := blk_frozen BK355.out 1) | ((with_reducible refine gate_callee (f := 35) rfl ?_); refine goesL_ (some 5) rfl rfl Tryz.func35 (by kernel_rfl) rfl #[.agg #[.int .i64 a0_0, .slice A0_1 l0_1.length c0_1]] rfl (by (try simp only [List.map_toArray, List.map_cons, List.map_nil]); first | done | rfl | (simp only [List.length_drop, List.length_take]; rfl)) ?_; (with_reducible refine (impl_IsPuzzle.calls a0_0 _ _ l0_1 true _ ?side1 ?side2 A2.out).mono ?_); (case side1 => repeat (first | exact (Kd.C_below HR0_1.out HB.out) | (with_reducible refine Kd.C_alloc ?_ _) | (with_reducible refine Kd.C_drewN ?_ _) | (with_reducible refine Kd.C_drew ?_))); (case side2 => exact HC0_1.out); rintro e w7 ⟨rfl, hb⟩; refine ⟨_, rfl, ?_⟩; have n0_ := Aside0.mk (blk_below (g := gb355) (o := .cells #[.int .i64 a0_0, .slice A0_1 l0_1.length c0_1] 33 (0, 0)) (zb BK355.out) hb); have n1_ := Aside0.mk (below_step (zh HB.out) hb); clear BK355; clear HB; have BK355 := n0_; have HB := n1_; clear n0_ n1_; (try clear hb); (try clear hb2); (try clear hk); (try clear hi); have hcz8_0 : w7.cell? ⟨gb355, 0, none⟩ = some (.int .i64 a0_0) := (blk_cell BK355.out 0).trans rfl; have hcz8_1 : w7.cell? ⟨gb355, 1, none⟩ = some (.slice A0_1 l0_1.length c0_1) := (blk_cell BK355.out 1).trans rfl; have hfz8_0 := blk_frozen BK355.out 0; have hfz8_1 := blk_frozen BK355.out 1) | ((with_reducible refine gate_callee (f := 36) rfl ?_); refine goesL_ (some 11) rfl rfl Tryz.func36 (by kernel_rfl) rfl #[.int .i64 a0_0, .slice A0_1 l0_1.length c0_1] rfl (by (try simp only [List.map_toArray, List.map_cons, List.map_nil]); first | done | rfl | (simp only [List.length_drop, List.length_take]; rfl)) ?_; (with_reducible refine (impl_solutionsS.calls k a0_0 _ _ l0_1 t357 _ ?side1 ?side2 A4.out).mono ?_); (case side1 => repeat (first | exact (Kd.C_below HR0_1.out HB.out) | (with_reducible refine Kd.C_alloc ?_ _) | (with_reducible refine Kd.C_drewN ?_ _) | (with_reducible refine Kd.C_drew ?_))); (case side2 => exact HC0_1.out); rintro e w9 ⟨v358, rfl, ho0, hb⟩; refine ⟨_, rfl, ?_⟩; have n0_ := Aside0.mk (Kd.S_lower (Kd.S_mono (ok' := fun k_ => (w.heap.size ≤ k_) ∧ k_ ≠ gb355) ho0 (fun k_ hk_ => ⟨(Nat.le_trans (below_size (zh HB.out)) hk_), (Kd.freshB (g := gb355) (o := .cells #[.int .i64 a0_0, .slice A0_1 l0_1.length c0_1] 33 (0, 0)) (zb BK355.out) k_ hk_)⟩)) (below_size (zh HB.out))); have n1_ := Aside0.mk (blk_below (g := gb355) (o := .cells #[.int .i64 a0_0, .slice A0_1 l0_1.length c0_1] 33 (0, 0)) (zb BK355.out) hb); have n2_ := Aside0.mk (below_step (zh HB.out) hb); clear BK355; clear HB; have HO359 := n0_; have BK355 := n1_; have HB := n2_; clear n0_ n1_ n2_; (try clear hb); (try clear hb2); (try clear hk); (try clear hi); (try clear ho0)))
 go_ret2
 exact ⟨_, by first | rfl | (simp [*, errW_none, errW_some] <;> rfl), by (with_reducible repeat (first | apply Kd.S_alloc | apply Kd.S_drewN | apply Kd.S_drew)); exact Kd.S_mono HO359.out (fun _ hk => hk.1), by repeat (first | (with_reducible first | exact HB.out | apply below_alloc | apply pw_below_drewN | apply below_drew1 | refine below_set ?_ GE355.out) | exact HB.out)⟩
set_option maxHeartbeats 8000000 in
set_option maxRecDepth 100000 in
theorem impl_FirstSolutionS.calls (k : Nat) (a0_0 : Int) (A0_1 : Option Addr) (c0_1 : Nat) (l0_1 : List (S67)) (r1 : Int) (r2 : List (List Int)) (r3 : Bool) (w : World) (hr0_1 : Kd.C k67 w A0_1 l0_1.length l0_1) (hc0_1 : l0_1.length ≤ c0_1) (h : impl_FirstSolution.f k a0_0 l0_1 = some (r1, r2, r3)) :
  Calls Tryz.prog 10 #[.agg #[.int .i64 a0_0, .slice A0_1 l0_1.length c0_1]] w fun e w' => ∃ v1_ : Value, e = .returned (.tuple #[.agg #[.int .i64 r1, v1_], .bool r3]) ∧ Kd.S (Kd.slice 3 (Kd.int .i64)) 59 w' w.heap.size (fun k_ => (w.heap.size ≤ k_)) v1_ r2 ∧ Below w.heap.size w w' := by
 have hu33 := Tryz.underlying33
 have hu28 := Tryz.underlying28
 have HR0_1 := Aside0.mk hr0_1
 have HC0_1 := Aside0.mk hc0_1
 clear hr0_1 hc0_1
 have HB := Aside0.mk (Below.refl w.heap.size w)
 have H : ((impl_Solutions.f k a0_0 l0_1).bind fun bt362 => (if bt362.2 = true then (if (bt362.1.length : Int) = 0 then (some (0, ([] : List (List Int)), false)) else (if 0 < (bt362.1.length : Int) then (some ((rd_T28 bt362.1 0).f0, (rd_T28 bt362.1 0).f1, true)) else (none))) else (some (0, ([] : List (List Int)), false)))) = some (r1, r2, r3) := h
 clear h
 replace H := Option.bind_eq_some_iff.mp H
 obtain ⟨⟨t362, t365⟩, A20, H⟩ := H
 replace H : (if t365 = true then (if (t362.length : Int) = 0 then (some (0, ([] : List (List Int)), false)) else (if 0 < (t362.length : Int) then (some ((rd_T28 t362 0).f0, (rd_T28 t362 0).f1, true)) else (none))) else (some (0, ([] : List (List Int)), false))) = some (r1, r2, r3) := H
 have A2 := Aside0.mk A20
 clear A20
 by_cases c3 : t365 = true
 rotate_left
 ·replace c3 := Bool.eq_false_iff.mpr c3
  subst c3
  have H1 : (some (0, ([] : List (List Int)), false)) = some (r1, r2, r3) := by rw [if_neg (show ¬ (false = true) by decide)] at H; exact H
  clear H
  have H := H1
  clear H1
  simp only [Option.some.injEq, Prod.mk.injEq] at H
  obtain ⟨rfl, rfl, rfl⟩ := H
  go_enter Tryz.func10, Tryz.ntmps10
  go_wp2_with (first | ((with_reducible refine gate_dst (N := 1) rfl ?_); (try (refine gate_guard (by rfl) ?_; dsimp only)); refine box_event ?hg (N := 1) ?hd (cs := #[.int .i64 a0_0, .slice A0_1 l0_1.length c0_1]) (t := 33) ?hr ?_; (case hd => rfl); (case hg => rfl); (case hr => first | (go_simp; done) | (go_simp; rfl)); intro gb360 hg w20 hbox hb; have n2_ := Aside0.mk ((by rw [hg]; exact (below_size (zh HB.out)) : w.heap.size ≤ gb360)); replace HB := Aside0.mk (below_step (zh HB.out) hb); have BK360 := Aside0.mk hbox; have GW360 := n2_; have GE360 := n2_; clear n2_ hb hbox hg) | ((with_reducible refine gate_dst (N := 2) rfl ?_); (try (refine gate_guard (by rfl) ?_; dsimp only)); refine box_event ?hg (N := 2) ?hd (cs := #[.int .i64 0, .slice none 0 0]) (t := 28) ?hr ?_; (case hd => rfl); (case hg => rfl); (case hr => first | (go_simp; done) | (go_simp; rfl)); intro gb361 hg w21 hbox hb; have n0_ := Aside0.mk (blk_below (g := gb360) (o := .cells #[.int .i64 a0_0, .slice A0_1 l0_1.length c0_1] 33 (0, 0)) (zb BK360.out) hb); have n1_ := Aside0.mk (below_step (zh HB.out) hb); have n2_ := Aside0.mk (hbox); have n3_ := Aside0.mk ((by rw [hg]; exact (below_size (zh HB.out)) : w.heap.size ≤ gb361)); have n4_ := Aside0.mk ((by rw [hg]; exact (below_size (zh HB.out)) : w.heap.size ≤ gb361)); have n5_ := Aside0.mk ((by rw [hg]; exact Nat.ne_of_lt (blk_lt (g := gb360) (o := .cells #[.int .i64 a0_0, .slice A0_1 l0_1.length c0_1] 33 (0, 0)) (zb BK360.out)) : gb360 ≠ gb361)); have n6_ := Aside0.mk ((by rw [hg]; exact Nat.ne_of_gt (blk_lt (g := gb360) (o := .cells #[.int .i64 a0_0, .slice A0_1 l0_1.length c0_1] 33 (0, 0)) (zb BK360.out)) : gb361 ≠ gb360)); clear BK360; clear HB; have BK360 := n0_; have HB := n1_; have BK361 := n2_; have GW361 := n3_; have GE361 := n4_; have NB360_361 := n5_; have NB361_360 := n6_; clear n0_ n1_ n2_ n3_ n4_ n5_ n6_; clear hb hbox hg; have hnb22 := NB360_361.out; have hnc22 := NB361_360.out; have hcz23_0 : w21.cell? ⟨gb360, 0, none⟩ = some (.int .i64 a0_0) := (blk_cell BK360.out 0).trans rfl; have hcz23_1 : w21.cell? ⟨gb360, 1, none⟩ = some (.slice A0_1 l0_1.length c0_1) := (blk_cell BK360.out 1).trans rfl; have hfz23_0 := blk_frozen BK360.out 0; have hfz23_1 := blk_frozen BK360.out 1) | ((with_reducible refine gate_callee (f := 17) rfl ?_); refine goesL_ (some 8) rfl rfl Tryz.func17 (by kernel_rfl) rfl #[.agg #[.int .i64 a0_0, .slice A0_1 l0_1.length c0_1]] rfl (by (try simp only [List.map_toArray, List.map_cons, List.map_nil]); first | done | rfl | (simp only [List.length_drop, List.length_take]; rfl)) ?_; (with_reducible refine (impl_SolutionsS.calls k a0_0 _ _ l0_1 t362 false _ ?side1 ?side2 A2.out).mono ?_); (case side1 => repeat (first | exact (Kd.C_below HR0_1.out HB.out) | (with_reducible refine Kd.C_alloc ?_ _) | (with_reducible refine Kd.C_drewN ?_ _) | (with_reducible refine Kd.C_drew ?_))); (case side2 => exact HC0_1.out); rintro e w24 ⟨v363, rfl, ho0, hb⟩; refine ⟨_, rfl, ?_⟩; have n0_ := Aside0.mk (Kd.S_lower (Kd.S_mono (ok' := fun k_ => (w.heap.size ≤ k_) ∧ k_ ≠ gb360 ∧ k_ ≠ gb361) ho0 (fun k_ hk_ => ⟨(Nat.le_trans (below_size (zh HB.out)) hk_), (Kd.freshB (g := gb360) (o := .cells #[.int .i64 a0_0, .slice A0_1 l0_1.length c0_1] 33 (0, 0)) (zb BK360.out) k_ hk_), (Kd.freshB (g := gb361) (o := .cells #[.int .i64 0, .slice none 0 0] 28 (0, 0)) (zb BK361.out) k_ hk_)⟩)) (below_size (zh HB.out))); have n1_ := Aside0.mk (blk_below (g := gb360) (o := .cells #[.int .i64 a0_0, .slice A0_1 l0_1.length c0_1] 33 (0, 0)) (zb BK360.out) hb); have n2_ := Aside0.mk (blk_below (g := gb361) (o := .cells #[.int .i64 0, .slice none 0 0] 28 (0, 0)) (zb BK361.out) hb); have n3_ := Aside0.mk (below_step (zh HB.out) hb); clear BK360; clear BK361; clear HB; have HO364 := n0_; have BK360 := n1_; have BK361 := n2_; have HB := n3_; clear n0_ n1_ n2_ n3_; (try clear hb); (try clear hb2); (try clear hk); (try clear hi); (try clear ho0); have hcz25_0 : w24.cell? ⟨gb361, 0, none⟩ = some (.int .i64 0) := (blk_cell BK361.out 0).trans rfl; have hcz25_1 : w24.cell? ⟨gb361, 1, none⟩ = some (.slice none 0 0) := (blk_cell BK361.out 1).trans rfl; have hfz25_0 := blk_frozen BK361.out 0; have hfz25_1 := blk_frozen BK361.out 1))
  refine bodyPost_ret (results_ct rfl _ _ gb361 28 #[.int .i64 0, .slice none 0 0] (0, 0) _ rfl (by (with_reducible repeat (first | refine blk_drewN ?_ _ | refine blk_drew ?_ | refine blk_alloc ?_ _)); refine blk_put (cs := #[.int .i64 0, .slice none 0 0]) ?_ 1 _ rfl; (with_reducible repeat (first | refine blk_drewN ?_ _ | refine blk_drew ?_ | refine blk_alloc ?_ _)); refine blk_put (cs := #[.int .i64 0, .slice none 0 0]) ?_ 0 _ rfl; (with_reducible repeat (first | refine blk_drewN ?_ _ | refine blk_drew ?_ | refine blk_alloc ?_ _)); exact BK361.out) Tryz.underlying28 rfl (by kernel_rfl)) rfl ?_
  exact ⟨_, by first | rfl | (simp [*, errW_none, errW_some] <;> rfl), (Kd.S_nil _ _ _ _ _), by repeat (first | (with_reducible first | exact HB.out | apply below_alloc | apply pw_below_drewN | apply below_drew1 | refine below_set ?_ GE360.out | refine below_set ?_ GE361.out) | exact HB.out)⟩
 subst c3
 have H1 : (if (t362.length : Int) = 0 then (some (0, ([] : List (List Int)), false)) else (if 0 < (t362.length : Int) then (some ((rd_T28 t362 0).f0, (rd_T28 t362 0).f1, true)) else (none))) = some (r1, r2, r3) := by rw [if_pos rfl] at H; exact H
 clear H
 have H := H1
 clear H1
 by_cases c4 : (t362.length : Int) = 0
 ·rw [if_pos c4] at H
  have c4b0 : ((t362.length : Int) == 0) = true := beq_iff_eq.mpr c4
  have c4b1 : ((t362.length : Int) != 0) = false := bne_eq_false_iff_eq.mpr c4
  clear c4
  simp only [Option.some.injEq, Prod.mk.injEq] at H
  obtain ⟨rfl, rfl, rfl⟩ := H
  go_enter Tryz.func10, Tryz.ntmps10
  go_wp2_with (first | ((with_reducible refine gate_dst (N := 1) rfl ?_); (try (refine gate_guard (by rfl) ?_; dsimp only)); refine box_event ?hg (N := 1) ?hd (cs := #[.int .i64 a0_0, .slice A0_1 l0_1.length c0_1]) (t := 33) ?hr ?_; (case hd => rfl); (case hg => rfl); (case hr => first | (go_simp; done) | (go_simp; rfl)); intro gb360 hg w5 hbox hb; have n2_ := Aside0.mk ((by rw [hg]; exact (below_size (zh HB.out)) : w.heap.size ≤ gb360)); replace HB := Aside0.mk (below_step (zh HB.out) hb); have BK360 := Aside0.mk hbox; have GW360 := n2_; have GE360 := n2_; clear n2_ hb hbox hg) | ((with_reducible refine gate_dst (N := 2) rfl ?_); (try (refine gate_guard (by rfl) ?_; dsimp only)); refine box_event ?hg (N := 2) ?hd (cs := #[.int .i64 0, .slice none 0 0]) (t := 28) ?hr ?_; (case hd => rfl); (case hg => rfl); (case hr => first | (go_simp; done) | (go_simp; rfl)); intro gb361 hg w6 hbox hb; have n0_ := Aside0.mk (blk_below (g := gb360) (o := .cells #[.int .i64 a0_0, .slice A0_1 l0_1.length c0_1] 33 (0, 0)) (zb BK360.out) hb); have n1_ := Aside0.mk (below_step (zh HB.out) hb); have n2_ := Aside0.mk (hbox); have n3_ := Aside0.mk ((by rw [hg]; exact (below_size (zh HB.out)) : w.heap.size ≤ gb361)); have n4_ := Aside0.mk ((by rw [hg]; exact (below_size (zh HB.out)) : w.heap.size ≤ gb361)); have n5_ := Aside0.mk ((by rw [hg]; exact Nat.ne_of_lt (blk_lt (g := gb360) (o := .cells #[.int .i64 a0_0, .slice A0_1 l0_1.length c0_1] 33 (0, 0)) (zb BK360.out)) : gb360 ≠ gb361)); have n6_ := Aside0.mk ((by rw [hg]; exact Nat.ne_of_gt (blk_lt (g := gb360) (o := .cells #[.int .i64 a0_0, .slice A0_1 l0_1.length c0_1] 33 (0, 0)) (zb BK360.out)) : gb361 ≠ gb360)); clear BK360; clear HB; have BK360 := n0_; have HB := n1_; have BK361 := n2_; have GW361 := n3_; have GE361 := n4_; have NB360_361 := n5_; have NB361_360 := n6_; clear n0_ n1_ n2_ n3_ n4_ n5_ n6_; clear hb hbox hg; have hnb7 := NB360_361.out; have hnc7 := NB361_360.out; have hcz8_0 : w6.cell? ⟨gb360, 0, none⟩ = some (.int .i64 a0_0) := (blk_cell BK360.out 0).trans rfl; have hcz8_1 : w6.cell? ⟨gb360, 1, none⟩ = some (.slice A0_1 l0_1.length c0_1) := (blk_cell BK360.out 1).trans rfl; have hfz8_0 := blk_frozen BK360.out 0; have hfz8_1 := blk_frozen BK360.out 1) | ((with_reducible refine gate_callee (f := 17) rfl ?_); refine goesL_ (some 8) rfl rfl Tryz.func17 (by kernel_rfl) rfl #[.agg #[.int .i64 a0_0, .slice A0_1 l0_1.length c0_1]] rfl (by (try simp only [List.map_toArray, List.map_cons, List.map_nil]); first | done | rfl | (simp only [List.length_drop, List.length_take]; rfl)) ?_; (with_reducible refine (impl_SolutionsS.calls k a0_0 _ _ l0_1 t362 true _ ?side1 ?side2 A2.out).mono ?_); (case side1 => repeat (first | exact (Kd.C_below HR0_1.out HB.out) | (with_reducible refine Kd.C_alloc ?_ _) | (with_reducible refine Kd.C_drewN ?_ _) | (with_reducible refine Kd.C_drew ?_))); (case side2 => exact HC0_1.out); rintro e w9 ⟨v363, rfl, ho0, hb⟩; refine ⟨_, rfl, ?_⟩; have n0_ := Aside0.mk (Kd.S_lower (Kd.S_mono (ok' := fun k_ => (w.heap.size ≤ k_) ∧ k_ ≠ gb360 ∧ k_ ≠ gb361) ho0 (fun k_ hk_ => ⟨(Nat.le_trans (below_size (zh HB.out)) hk_), (Kd.freshB (g := gb360) (o := .cells #[.int .i64 a0_0, .slice A0_1 l0_1.length c0_1] 33 (0, 0)) (zb BK360.out) k_ hk_), (Kd.freshB (g := gb361) (o := .cells #[.int .i64 0, .slice none 0 0] 28 (0, 0)) (zb BK361.out) k_ hk_)⟩)) (below_size (zh HB.out))); have n1_ := Aside0.mk (blk_below (g := gb360) (o := .cells #[.int .i64 a0_0, .slice A0_1 l0_1.length c0_1] 33 (0, 0)) (zb BK360.out) hb); have n2_ := Aside0.mk (blk_below (g := gb361) (o := .cells #[.int .i64 0, .slice none 0 0] 28 (0, 0)) (zb BK361.out) hb); have n3_ := Aside0.mk (below_step (zh HB.out) hb); clear BK360; clear BK361; clear HB; have HO364 := n0_; have BK360 := n1_; have BK361 := n2_; have HB := n3_; clear n0_ n1_ n2_ n3_; (try clear hb); (try clear hb2); (try clear hk); (try clear hi); (try clear ho0); obtain ⟨Ao10, co10, eo10⟩ := Kd.S_slice HO364.out; subst eo10; have hcz11_0 : w9.cell? ⟨gb361, 0, none⟩ = some (.int .i64 0) := (blk_cell BK361.out 0).trans rfl; have hcz11_1 : w9.cell? ⟨gb361, 1, none⟩ = some (.slice none 0 0) := (blk_cell BK361.out 1).trans rfl; have hfz11_0 := blk_frozen BK361.out 0; have hfz11_1 := blk_frozen BK361.out 1))
  refine bodyPost_ret (results_ct rfl _ _ gb361 28 #[.int .i64 0, .slice none 0 0] (0, 0) _ rfl (by (with_reducible repeat (first | refine blk_drewN ?_ _ | refine blk_drew ?_ | refine blk_alloc ?_ _)); refine blk_put (cs := #[.int .i64 0, .slice none 0 0]) ?_ 1 _ rfl; (with_reducible repeat (first | refine blk_drewN ?_ _ | refine blk_drew ?_ | refine blk_alloc ?_ _)); refine blk_put (cs := #[.int .i64 0, .slice none 0 0]) ?_ 0 _ rfl; (with_reducible repeat (first | refine blk_drewN ?_ _ | refine blk_drew ?_ | refine blk_alloc ?_ _)); exact BK361.out) Tryz.underlying28 rfl (by kernel_rfl)) rfl ?_
  exact ⟨_, by first | rfl | (simp [*, errW_none, errW_some] <;> rfl), (Kd.S_nil _ _ _ _ _), by repeat (first | (with_reducible first | exact HB.out | apply below_alloc | apply pw_below_drewN | apply below_drew1 | refine below_set ?_ GE360.out | refine below_set ?_ GE361.out) | exact HB.out)⟩
 rw [if_neg c4] at H
 have c4b0 : ((t362.length : Int) == 0) = false := beq_eq_false_iff_ne.mpr c4
 have c4b1 : ((t362.length : Int) != 0) = true := bne_iff_ne.mpr c4
 have c4b2 : ¬ (t362 = []) := fun h_ => c4 (by rw [h_]; rfl)
 by_cases c12 : 0 < (t362.length : Int)
 rotate_left
 ·rw [if_neg c12] at H
  exact absurd H (by simp)
 rw [if_pos c12] at H
 have c12b0 : decide (0 < (t362.length : Int)) = true := decide_eq_true c12
 have c12b1 : decide (0 < t362.length) = true := decide_eq_true (by omega)
 clear c12
 simp only [Option.some.injEq, Prod.mk.injEq] at H
 obtain ⟨rfl, rfl, rfl⟩ := H
 go_enter Tryz.func10, Tryz.ntmps10
 go_wp2_with (first | ((with_reducible refine gate_dst (N := 1) rfl ?_); (try (refine gate_guard (by rfl) ?_; dsimp only)); refine box_event ?hg (N := 1) ?hd (cs := #[.int .i64 a0_0, .slice A0_1 l0_1.length c0_1]) (t := 33) ?hr ?_; (case hd => rfl); (case hg => rfl); (case hr => first | (go_simp; done) | (go_simp; rfl)); intro gb360 hg w13 hbox hb; have n2_ := Aside0.mk ((by rw [hg]; exact (below_size (zh HB.out)) : w.heap.size ≤ gb360)); replace HB := Aside0.mk (below_step (zh HB.out) hb); have BK360 := Aside0.mk hbox; have GW360 := n2_; have GE360 := n2_; clear n2_ hb hbox hg) | ((with_reducible refine gate_dst (N := 2) rfl ?_); (try (refine gate_guard (by rfl) ?_; dsimp only)); refine box_event ?hg (N := 2) ?hd (cs := #[.int .i64 0, .slice none 0 0]) (t := 28) ?hr ?_; (case hd => rfl); (case hg => rfl); (case hr => first | (go_simp; done) | (go_simp; rfl)); intro gb361 hg w14 hbox hb; have n0_ := Aside0.mk (blk_below (g := gb360) (o := .cells #[.int .i64 a0_0, .slice A0_1 l0_1.length c0_1] 33 (0, 0)) (zb BK360.out) hb); have n1_ := Aside0.mk (below_step (zh HB.out) hb); have n2_ := Aside0.mk (hbox); have n3_ := Aside0.mk ((by rw [hg]; exact (below_size (zh HB.out)) : w.heap.size ≤ gb361)); have n4_ := Aside0.mk ((by rw [hg]; exact (below_size (zh HB.out)) : w.heap.size ≤ gb361)); have n5_ := Aside0.mk ((by rw [hg]; exact Nat.ne_of_lt (blk_lt (g := gb360) (o := .cells #[.int .i64 a0_0, .slice A0_1 l0_1.length c0_1] 33 (0, 0)) (zb BK360.out)) : gb360 ≠ gb361)); have n6_ := Aside0.mk ((by rw [hg]; exact Nat.ne_of_gt (blk_lt (g := gb360) (o := .cells #[.int .i64 a0_0, .slice A0_1 l0_1.length c0_1] 33 (0, 0)) (zb BK360.out)) : gb361 ≠ gb360)); clear BK360; clear HB; have BK360 := n0_; have HB := n1_; have BK361 := n2_; have GW361 := n3_; have GE361 := n4_; have NB360_361 := n5_; have NB361_360 := n6_; clear n0_ n1_ n2_ n3_ n4_ n5_ n6_; clear hb hbox hg; have hnb15 := NB360_361.out; have hnc15 := NB361_360.out; have hcz16_0 : w14.cell? ⟨gb360, 0, none⟩ = some (.int .i64 a0_0) := (blk_cell BK360.out 0).trans rfl; have hcz16_1 : w14.cell? ⟨gb360, 1, none⟩ = some (.slice A0_1 l0_1.length c0_1) := (blk_cell BK360.out 1).trans rfl; have hfz16_0 := blk_frozen BK360.out 0; have hfz16_1 := blk_frozen BK360.out 1) | ((with_reducible refine gate_callee (f := 17) rfl ?_); refine goesL_ (some 8) rfl rfl Tryz.func17 (by kernel_rfl) rfl #[.agg #[.int .i64 a0_0, .slice A0_1 l0_1.length c0_1]] rfl (by (try simp only [List.map_toArray, List.map_cons, List.map_nil]); first | done | rfl | (simp only [List.length_drop, List.length_take]; rfl)) ?_; (with_reducible refine (impl_SolutionsS.calls k a0_0 _ _ l0_1 t362 true _ ?side1 ?side2 A2.out).mono ?_); (case side1 => repeat (first | exact (Kd.C_below HR0_1.out HB.out) | (with_reducible refine Kd.C_alloc ?_ _) | (with_reducible refine Kd.C_drewN ?_ _) | (with_reducible refine Kd.C_drew ?_))); (case side2 => exact HC0_1.out); rintro e w17 ⟨v363, rfl, ho0, hb⟩; refine ⟨_, rfl, ?_⟩; have n0_ := Aside0.mk (Kd.S_lower (Kd.S_mono (ok' := fun k_ => (w.heap.size ≤ k_) ∧ k_ ≠ gb360 ∧ k_ ≠ gb361) ho0 (fun k_ hk_ => ⟨(Nat.le_trans (below_size (zh HB.out)) hk_), (Kd.freshB (g := gb360) (o := .cells #[.int .i64 a0_0, .slice A0_1 l0_1.length c0_1] 33 (0, 0)) (zb BK360.out) k_ hk_), (Kd.freshB (g := gb361) (o := .cells #[.int .i64 0, .slice none 0 0] 28 (0, 0)) (zb BK361.out) k_ hk_)⟩)) (below_size (zh HB.out))); have n1_ := Aside0.mk (blk_below (g := gb360) (o := .cells #[.int .i64 a0_0, .slice A0_1 l0_1.length c0_1] 33 (0, 0)) (zb BK360.out) hb); have n2_ := Aside0.mk (blk_below (g := gb361) (o := .cells #[.int .i64 0, .slice none 0 0] 28 (0, 0)) (zb BK361.out) hb); have n3_ := Aside0.mk (below_step (zh HB.out) hb); clear BK360; clear BK361; clear HB; have HO364 := n0_; have BK360 := n1_; have BK361 := n2_; have HB := n3_; clear n0_ n1_ n2_ n3_; (try clear hb); (try clear hb2); (try clear hk); (try clear hi); (try clear ho0); obtain ⟨Ao18, co18, eo18⟩ := Kd.S_slice HO364.out; subst eo18; have p366 : 0 ≤ (0 : Int) := (by omega); have q366 : 0 < (t362.length : Int) := of_decide_eq_true (by first | (with_reducible assumption) | assumption); obtain ⟨ad366, A366_1, c366_1, e366, hx366_0, hx366_1, hl366_1, hi366_1⟩ := at_T28 (kgS_C (Kd.S_reads' HO364.out).2.2) 0 p366 q366; cases e366; obtain ⟨ce366, hce366, hMe366, hcc366⟩ := Kd.S_get HO364.out z28 0 p366 (by first | exact q366 | exact of_decide_eq_true (by first | (with_reducible assumption) | assumption) | (have e_ := (Kd.S_reads' HO364.out).1; omega)); obtain ⟨uv_, rfl, gs_⟩ := kgS_openM hMe366; obtain ⟨ua366_1, uc366_1, rfl⟩ := Kd.S_slice gs_; have hv366_1 := hcc366 1 _ rfl; rw [add_field _ _ 1 (by omega)] at hv366_1; replace hv366_1 := Option.some.inj (hv366_1.symm.trans hx366_1); injection hv366_1 with hva_ hvn_ hvc_; rw [hva_, hvc_] at gs_; have HL366_1 := Aside0.mk (show Kd.S (Kd.slice 3 (Kd.int .i64)) 59 _ w.heap.size _ _ ((rd_T28 t362 0).f1) from gs_); clear hva_ hvn_ hvc_ gs_; clear hcc366 hce366; have qi366 : (0 < t362.length) = True := eq_true (by omega); (try rw [show ((0 : Int)).toNat = 0 from rfl] at hx366_0); (try rw [show 0 * 2 = 0 from rfl] at hx366_0); (try rw [Addr.add_zero'] at hx366_0); (try rw [show ((0 : Int)).toNat = 0 from rfl] at hx366_1); (try rw [show 0 * 2 = 0 from rfl] at hx366_1); (try rw [Addr.add_zero'] at hx366_1); have HR366_1 := Aside0.mk hi366_1; have HC366_1 := Aside0.mk hl366_1; clear hi366_1 hl366_1; replace p366 := eq_true p366; replace q366 := eq_true q366; have hcz19_0 : w17.cell? ⟨gb361, 0, none⟩ = some (.int .i64 0) := (blk_cell BK361.out 0).trans rfl; have hcz19_1 : w17.cell? ⟨gb361, 1, none⟩ = some (.slice none 0 0) := (blk_cell BK361.out 1).trans rfl; have hfz19_0 := blk_frozen BK361.out 0; have hfz19_1 := blk_frozen BK361.out 1))
 refine bodyPost_ret (results_ct rfl _ _ gb361 28 #[.int .i64 ((rd_T28 t362 0).f0), .slice A366_1 ((rd_T28 t362 0).f1).length c366_1] (0, 0) _ rfl (by (with_reducible repeat (first | refine blk_drewN ?_ _ | refine blk_drew ?_ | refine blk_alloc ?_ _)); refine blk_put (cs := #[.int .i64 ((rd_T28 t362 0).f0), .slice none 0 0]) ?_ 1 _ rfl; (with_reducible repeat (first | refine blk_drewN ?_ _ | refine blk_drew ?_ | refine blk_alloc ?_ _)); refine blk_put (cs := #[.int .i64 0, .slice none 0 0]) ?_ 0 _ rfl; (with_reducible repeat (first | refine blk_drewN ?_ _ | refine blk_drew ?_ | refine blk_alloc ?_ _)); exact BK361.out) Tryz.underlying28 rfl (by kernel_rfl)) rfl ?_
 exact ⟨_, by first | rfl | (simp [*, errW_none, errW_some] <;> rfl), by (with_reducible repeat (first | apply Kd.S_alloc | apply Kd.S_drewN | apply Kd.S_drew)); exact Kd.S_mono (Kd.S_far (p := ⟨gb361, 1, none⟩) (Kd.S_far (p := ⟨gb361, 0, none⟩) (Kd.S_mono HL366_1.out (fun k_ hk => (⟨hk, hk.1.2.2⟩ : _ ∧ k_ ≠ gb361))) (fun _ hk => hk.2) (.int .i64 ((rd_T28 t362 0).f0))) (fun _ hk => hk.2) (.slice A366_1 ((rd_T28 t362 0).f1).length c366_1)) (fun _ hk => hk.1.1.1), by repeat (first | (with_reducible first | exact HB.out | apply below_alloc | apply pw_below_drewN | apply below_drew1 | refine below_set ?_ GE360.out | refine below_set ?_ GE361.out) | exact HB.out)⟩
end Go.Proofs.YtgfdfabeninfeaaGreat.Q
end
section
namespace Go.Proofs.YtgfdfabeninfeaaGreat.Q
open Go.RowKit Go.Proofs.YtgfdfabeninfeaaGreatW.PrintWords Go.Proofs.YtgfdfabeninfeaaGreatW.PrintLast Go.Proofs.YtgfdfabeninfeaaGreatW.PrintMore
attribute [local go_sem] max2_int min2_int max_two min_two max_three min_three max_four min_four
set_option linter.unusedVariables false
set_option linter.unusedSimpArgs false
def laws_heldGame.f (k : Nat) (a0_0 : Int) (l0_1 : List (List Int)) (a1 : Int) : Option (Int) := (laws_heldIntSS.f k l0_1 a1).bind fun t396 => (if t396 < 0 then (some (-1)) else (some t396))
set_option maxHeartbeats 8000000 in
set_option maxRecDepth 100000 in
theorem laws_heldGame.calls (k : Nat) (a0_0 : Int) (A0_1 : Option Addr) (c0_1 : Nat) (l0_1 : List (List Int)) (a1 : Int) (r : Int) (w : World) (hr0_1 : Kd.C (Kd.slice 3 (Kd.int .i64)) w A0_1 l0_1.length l0_1) (hc0_1 : l0_1.length ≤ c0_1) (h : laws_heldGame.f k a0_0 l0_1 a1 = some r) :
  Calls Tryz.prog 15 #[.agg #[.int .i64 a0_0, .slice A0_1 l0_1.length c0_1], .int .i64 a1] w fun e w' => e = .returned (.int .i64 r) ∧ Below w.heap.size w w' := by
 have hu28 := Tryz.underlying28
 have HR0_1 := Aside0.mk hr0_1
 have HC0_1 := Aside0.mk hc0_1
 clear hr0_1 hc0_1
 have HB := Aside0.mk (Below.refl w.heap.size w)
 have H : ((laws_heldIntSS.f k l0_1 a1).bind fun t396 => (if t396 < 0 then (some (-1)) else (some t396))) = some r := h
 clear h
 replace H := Option.bind_eq_some_iff.mp H
 obtain ⟨t396, A30, H⟩ := H
 replace H : (if t396 < 0 then (some (-1)) else (some t396)) = some r := H
 have A3 := Aside0.mk A30
 clear A30
 by_cases c4 : t396 < 0
 ·rw [if_pos c4] at H
  have c4b0 : decide (t396 < 0) = true := decide_eq_true c4
  clear c4
  obtain rfl := Option.some.inj H
  go_enter Tryz.func15, Tryz.ntmps15
  go_wp2_with (first | ((with_reducible refine gate_dst (N := 2) rfl ?_); refine box_event ?hg (N := 2) ?hd (cs := #[.int .i64 a0_0, .slice A0_1 l0_1.length c0_1]) (t := 28) ?hr ?_; (case hd => rfl); (case hg => rfl); (case hr => first | (go_simp; done) | (go_simp; rfl)); intro gb395 hg w5 hbox hb; have n2_ := Aside0.mk ((by rw [hg]; exact (below_size (zh HB.out)) : w.heap.size ≤ gb395)); replace HB := Aside0.mk (below_step (zh HB.out) hb); have BK395 := Aside0.mk hbox; have GW395 := n2_; have GE395 := n2_; clear n2_ hb hbox hg; have hcz6_0 : w5.cell? ⟨gb395, 0, none⟩ = some (.int .i64 a0_0) := (blk_cell BK395.out 0).trans rfl; have hcz6_1 : w5.cell? ⟨gb395, 1, none⟩ = some (.slice A0_1 l0_1.length c0_1) := (blk_cell BK395.out 1).trans rfl; have hfz6_0 := blk_frozen BK395.out 0; have hfz6_1 := blk_frozen BK395.out 1) | ((with_reducible refine gate_callee (f := 25) rfl ?_); refine goesL_ (some 8) rfl rfl Tryz.func25 (by kernel_rfl) rfl #[.slice A0_1 l0_1.length c0_1, .int .i64 a1] rfl (by (try simp only [List.map_toArray, List.map_cons, List.map_nil]); first | done | rfl | (simp only [List.length_drop, List.length_take]; rfl)) ?_; (with_reducible refine (laws_heldIntSS.calls k _ _ l0_1 a1 t396 _ ?side1 ?side2 A3.out).mono ?_); (case side1 => repeat (first | exact (Kd.C_below HR0_1.out HB.out) | (with_reducible refine Kd.C_alloc ?_ _) | (with_reducible refine Kd.C_drewN ?_ _) | (with_reducible refine Kd.C_drew ?_))); (case side2 => exact HC0_1.out); rintro e w' ⟨rfl, ⟨nd, rfl⟩⟩; refine ⟨_, rfl, ?_⟩))
  go_ret
  exact ⟨by first | rfl | (simp [*, errW_none, errW_some] <;> rfl), zh HB.out⟩
 rw [if_neg c4] at H
 have c4b0 : decide (t396 < 0) = false := decide_eq_false c4
 clear c4
 obtain rfl := Option.some.inj H
 go_enter Tryz.func15, Tryz.ntmps15
 go_wp2_with (first | ((with_reducible refine gate_dst (N := 2) rfl ?_); refine box_event ?hg (N := 2) ?hd (cs := #[.int .i64 a0_0, .slice A0_1 l0_1.length c0_1]) (t := 28) ?hr ?_; (case hd => rfl); (case hg => rfl); (case hr => first | (go_simp; done) | (go_simp; rfl)); intro gb395 hg w7 hbox hb; have n2_ := Aside0.mk ((by rw [hg]; exact (below_size (zh HB.out)) : w.heap.size ≤ gb395)); replace HB := Aside0.mk (below_step (zh HB.out) hb); have BK395 := Aside0.mk hbox; have GW395 := n2_; have GE395 := n2_; clear n2_ hb hbox hg; have hcz8_0 : w7.cell? ⟨gb395, 0, none⟩ = some (.int .i64 a0_0) := (blk_cell BK395.out 0).trans rfl; have hcz8_1 : w7.cell? ⟨gb395, 1, none⟩ = some (.slice A0_1 l0_1.length c0_1) := (blk_cell BK395.out 1).trans rfl; have hfz8_0 := blk_frozen BK395.out 0; have hfz8_1 := blk_frozen BK395.out 1) | ((with_reducible refine gate_callee (f := 25) rfl ?_); refine goesL_ (some 8) rfl rfl Tryz.func25 (by kernel_rfl) rfl #[.slice A0_1 l0_1.length c0_1, .int .i64 a1] rfl (by (try simp only [List.map_toArray, List.map_cons, List.map_nil]); first | done | rfl | (simp only [List.length_drop, List.length_take]; rfl)) ?_; (with_reducible refine (laws_heldIntSS.calls k _ _ l0_1 a1 t396 _ ?side1 ?side2 A3.out).mono ?_); (case side1 => repeat (first | exact (Kd.C_below HR0_1.out HB.out) | (with_reducible refine Kd.C_alloc ?_ _) | (with_reducible refine Kd.C_drewN ?_ _) | (with_reducible refine Kd.C_drew ?_))); (case side2 => exact HC0_1.out); rintro e w' ⟨rfl, ⟨nd, rfl⟩⟩; refine ⟨_, rfl, ?_⟩))
 go_ret
 exact ⟨by first | rfl | (simp [*, errW_none, errW_some] <;> rfl), zh HB.out⟩
def laws_eqGame.f (k : Nat) (a0_0 : Int) (l0_1 : List (List Int)) (a1_0 : Int) (l1_1 : List (List Int)) : Option (Bool) := if a0_0 = a1_0 then ((laws_eqIntSS.f k l0_1 l1_1).bind fun t374 => (if t374 = true then (some true) else (some false))) else (some false)
set_option maxHeartbeats 8000000 in
set_option maxRecDepth 100000 in
theorem laws_eqGame.calls (k : Nat) (a0_0 : Int) (A0_1 : Option Addr) (c0_1 : Nat) (l0_1 : List (List Int)) (a1_0 : Int) (A1_1 : Option Addr) (c1_1 : Nat) (l1_1 : List (List Int)) (r : Bool) (w : World) (hr0_1 : Kd.C (Kd.slice 3 (Kd.int .i64)) w A0_1 l0_1.length l0_1) (hc0_1 : l0_1.length ≤ c0_1) (hr1_1 : Kd.C (Kd.slice 3 (Kd.int .i64)) w A1_1 l1_1.length l1_1) (hc1_1 : l1_1.length ≤ c1_1) (h : laws_eqGame.f k a0_0 l0_1 a1_0 l1_1 = some r) :
  Calls Tryz.prog 11 #[.agg #[.int .i64 a0_0, .slice A0_1 l0_1.length c0_1], .agg #[.int .i64 a1_0, .slice A1_1 l1_1.length c1_1]] w fun e w' => e = .returned (.bool r) ∧ Below w.heap.size w w' := by
 have hu28 := Tryz.underlying28
 have HR0_1 := Aside0.mk hr0_1
 have HC0_1 := Aside0.mk hc0_1
 clear hr0_1 hc0_1
 have HR1_1 := Aside0.mk hr1_1
 have HC1_1 := Aside0.mk hc1_1
 clear hr1_1 hc1_1
 have HB := Aside0.mk (Below.refl w.heap.size w)
 have H : (if a0_0 = a1_0 then ((laws_eqIntSS.f k l0_1 l1_1).bind fun t374 => (if t374 = true then (some true) else (some false))) else (some false)) = some r := h
 clear h
 by_cases c3 : a0_0 = a1_0
 rotate_left
 ·rw [if_neg c3] at H
  have c3b0 : (a0_0 == a1_0) = false := beq_eq_false_iff_ne.mpr c3
  have c3b1 : (a0_0 != a1_0) = true := bne_iff_ne.mpr c3
  obtain rfl := Option.some.inj H
  go_enter Tryz.func11, Tryz.ntmps11
  go_wp2_with (first | ((with_reducible refine gate_dst (N := 2) rfl ?_); refine box_event ?hg (N := 2) ?hd (cs := #[.int .i64 a0_0, .slice A0_1 l0_1.length c0_1]) (t := 28) ?hr ?_; (case hd => rfl); (case hg => rfl); (case hr => first | (go_simp; done) | (go_simp; rfl)); intro gb372 hg w16 hbox hb; have n2_ := Aside0.mk ((by rw [hg]; exact (below_size (zh HB.out)) : w.heap.size ≤ gb372)); replace HB := Aside0.mk (below_step (zh HB.out) hb); have BK372 := Aside0.mk hbox; have GW372 := n2_; have GE372 := n2_; clear n2_ hb hbox hg) | ((with_reducible refine gate_dst (N := 3) rfl ?_); refine box_event ?hg (N := 3) ?hd (cs := #[.int .i64 a1_0, .slice A1_1 l1_1.length c1_1]) (t := 28) ?hr ?_; (case hd => rfl); (case hg => rfl); (case hr => first | (go_simp; done) | (go_simp; rfl)); intro gb373 hg w17 hbox hb; have n0_ := Aside0.mk (blk_below (g := gb372) (o := .cells #[.int .i64 a0_0, .slice A0_1 l0_1.length c0_1] 28 (0, 0)) (zb BK372.out) hb); have n1_ := Aside0.mk (below_step (zh HB.out) hb); have n2_ := Aside0.mk (hbox); have n3_ := Aside0.mk ((by rw [hg]; exact (below_size (zh HB.out)) : w.heap.size ≤ gb373)); have n4_ := Aside0.mk ((by rw [hg]; exact (below_size (zh HB.out)) : w.heap.size ≤ gb373)); have n5_ := Aside0.mk ((by rw [hg]; exact Nat.ne_of_lt (blk_lt (g := gb372) (o := .cells #[.int .i64 a0_0, .slice A0_1 l0_1.length c0_1] 28 (0, 0)) (zb BK372.out)) : gb372 ≠ gb373)); have n6_ := Aside0.mk ((by rw [hg]; exact Nat.ne_of_gt (blk_lt (g := gb372) (o := .cells #[.int .i64 a0_0, .slice A0_1 l0_1.length c0_1] 28 (0, 0)) (zb BK372.out)) : gb373 ≠ gb372)); clear BK372; clear HB; have BK372 := n0_; have HB := n1_; have BK373 := n2_; have GW373 := n3_; have GE373 := n4_; have NB372_373 := n5_; have NB373_372 := n6_; clear n0_ n1_ n2_ n3_ n4_ n5_ n6_; clear hb hbox hg; have hnb18 := NB372_373.out; have hnc18 := NB373_372.out; have hcz19_0 : w17.cell? ⟨gb372, 0, none⟩ = some (.int .i64 a0_0) := (blk_cell BK372.out 0).trans rfl; have hcz19_1 : w17.cell? ⟨gb372, 1, none⟩ = some (.slice A0_1 l0_1.length c0_1) := (blk_cell BK372.out 1).trans rfl; have hfz19_0 := blk_frozen BK372.out 0; have hfz19_1 := blk_frozen BK372.out 1; have hcz20_0 : w17.cell? ⟨gb373, 0, none⟩ = some (.int .i64 a1_0) := (blk_cell BK373.out 0).trans rfl; have hcz20_1 : w17.cell? ⟨gb373, 1, none⟩ = some (.slice A1_1 l1_1.length c1_1) := (blk_cell BK373.out 1).trans rfl; have hfz20_0 := blk_frozen BK373.out 0; have hfz20_1 := blk_frozen BK373.out 1))
  go_ret
  exact ⟨by first | rfl | (simp [*, errW_none, errW_some] <;> rfl), zh HB.out⟩
 rw [if_pos c3] at H
 have c3b0 : (a0_0 == a1_0) = true := beq_iff_eq.mpr c3
 have c3b1 : (a0_0 != a1_0) = false := bne_eq_false_iff_eq.mpr c3
 clear c3
 replace H := Option.bind_eq_some_iff.mp H
 obtain ⟨t374, A40, H⟩ := H
 replace H : (if t374 = true then (some true) else (some false)) = some r := H
 have A4 := Aside0.mk A40
 clear A40
 by_cases c5 : t374 = true
 ·subst c5
  have H1 : (some true) = some r := by rw [if_pos rfl] at H; exact H
  clear H
  have H := H1
  clear H1
  obtain rfl := Option.some.inj H
  go_enter Tryz.func11, Tryz.ntmps11
  go_wp2_with (first | ((with_reducible refine gate_dst (N := 2) rfl ?_); refine box_event ?hg (N := 2) ?hd (cs := #[.int .i64 a0_0, .slice A0_1 l0_1.length c0_1]) (t := 28) ?hr ?_; (case hd => rfl); (case hg => rfl); (case hr => first | (go_simp; done) | (go_simp; rfl)); intro gb372 hg w6 hbox hb; have n2_ := Aside0.mk ((by rw [hg]; exact (below_size (zh HB.out)) : w.heap.size ≤ gb372)); replace HB := Aside0.mk (below_step (zh HB.out) hb); have BK372 := Aside0.mk hbox; have GW372 := n2_; have GE372 := n2_; clear n2_ hb hbox hg) | ((with_reducible refine gate_dst (N := 3) rfl ?_); refine box_event ?hg (N := 3) ?hd (cs := #[.int .i64 a1_0, .slice A1_1 l1_1.length c1_1]) (t := 28) ?hr ?_; (case hd => rfl); (case hg => rfl); (case hr => first | (go_simp; done) | (go_simp; rfl)); intro gb373 hg w7 hbox hb; have n0_ := Aside0.mk (blk_below (g := gb372) (o := .cells #[.int .i64 a0_0, .slice A0_1 l0_1.length c0_1] 28 (0, 0)) (zb BK372.out) hb); have n1_ := Aside0.mk (below_step (zh HB.out) hb); have n2_ := Aside0.mk (hbox); have n3_ := Aside0.mk ((by rw [hg]; exact (below_size (zh HB.out)) : w.heap.size ≤ gb373)); have n4_ := Aside0.mk ((by rw [hg]; exact (below_size (zh HB.out)) : w.heap.size ≤ gb373)); have n5_ := Aside0.mk ((by rw [hg]; exact Nat.ne_of_lt (blk_lt (g := gb372) (o := .cells #[.int .i64 a0_0, .slice A0_1 l0_1.length c0_1] 28 (0, 0)) (zb BK372.out)) : gb372 ≠ gb373)); have n6_ := Aside0.mk ((by rw [hg]; exact Nat.ne_of_gt (blk_lt (g := gb372) (o := .cells #[.int .i64 a0_0, .slice A0_1 l0_1.length c0_1] 28 (0, 0)) (zb BK372.out)) : gb373 ≠ gb372)); clear BK372; clear HB; have BK372 := n0_; have HB := n1_; have BK373 := n2_; have GW373 := n3_; have GE373 := n4_; have NB372_373 := n5_; have NB373_372 := n6_; clear n0_ n1_ n2_ n3_ n4_ n5_ n6_; clear hb hbox hg; have hnb8 := NB372_373.out; have hnc8 := NB373_372.out; have hcz9_0 : w7.cell? ⟨gb372, 0, none⟩ = some (.int .i64 a0_0) := (blk_cell BK372.out 0).trans rfl; have hcz9_1 : w7.cell? ⟨gb372, 1, none⟩ = some (.slice A0_1 l0_1.length c0_1) := (blk_cell BK372.out 1).trans rfl; have hfz9_0 := blk_frozen BK372.out 0; have hfz9_1 := blk_frozen BK372.out 1; have hcz10_0 : w7.cell? ⟨gb373, 0, none⟩ = some (.int .i64 a1_0) := (blk_cell BK373.out 0).trans rfl; have hcz10_1 : w7.cell? ⟨gb373, 1, none⟩ = some (.slice A1_1 l1_1.length c1_1) := (blk_cell BK373.out 1).trans rfl; have hfz10_0 := blk_frozen BK373.out 0; have hfz10_1 := blk_frozen BK373.out 1) | ((with_reducible refine gate_callee (f := 23) rfl ?_); refine goesL_ (some 14) rfl rfl Tryz.func23 (by kernel_rfl) rfl #[.slice A0_1 l0_1.length c0_1, .slice A1_1 l1_1.length c1_1] rfl (by (try simp only [List.map_toArray, List.map_cons, List.map_nil]); first | done | rfl | (simp only [List.length_drop, List.length_take]; rfl)) ?_; (with_reducible refine (laws_eqIntSS.calls k _ _ l0_1 _ _ l1_1 true _ ?side1 ?side2 ?side3 ?side4 A4.out).mono ?_); (case side1 => repeat (first | exact (Kd.C_below HR0_1.out HB.out) | (with_reducible refine Kd.C_alloc ?_ _) | (with_reducible refine Kd.C_drewN ?_ _) | (with_reducible refine Kd.C_drew ?_))); (case side2 => exact HC0_1.out); (case side3 => repeat (first | exact (Kd.C_below HR1_1.out HB.out) | (with_reducible refine Kd.C_alloc ?_ _) | (with_reducible refine Kd.C_drewN ?_ _) | (with_reducible refine Kd.C_drew ?_))); (case side4 => exact HC1_1.out); rintro e w' ⟨rfl, ⟨nd, rfl⟩⟩; refine ⟨_, rfl, ?_⟩))
  go_ret
  exact ⟨by first | rfl | (simp [*, errW_none, errW_some] <;> rfl), zh HB.out⟩
 replace c5 := Bool.eq_false_iff.mpr c5
 subst c5
 have H1 : (some false) = some r := by rw [if_neg (show ¬ (false = true) by decide)] at H; exact H
 clear H
 have H := H1
 clear H1
 obtain rfl := Option.some.inj H
 go_enter Tryz.func11, Tryz.ntmps11
 go_wp2_with (first | ((with_reducible refine gate_dst (N := 2) rfl ?_); refine box_event ?hg (N := 2) ?hd (cs := #[.int .i64 a0_0, .slice A0_1 l0_1.length c0_1]) (t := 28) ?hr ?_; (case hd => rfl); (case hg => rfl); (case hr => first | (go_simp; done) | (go_simp; rfl)); intro gb372 hg w11 hbox hb; have n2_ := Aside0.mk ((by rw [hg]; exact (below_size (zh HB.out)) : w.heap.size ≤ gb372)); replace HB := Aside0.mk (below_step (zh HB.out) hb); have BK372 := Aside0.mk hbox; have GW372 := n2_; have GE372 := n2_; clear n2_ hb hbox hg) | ((with_reducible refine gate_dst (N := 3) rfl ?_); refine box_event ?hg (N := 3) ?hd (cs := #[.int .i64 a1_0, .slice A1_1 l1_1.length c1_1]) (t := 28) ?hr ?_; (case hd => rfl); (case hg => rfl); (case hr => first | (go_simp; done) | (go_simp; rfl)); intro gb373 hg w12 hbox hb; have n0_ := Aside0.mk (blk_below (g := gb372) (o := .cells #[.int .i64 a0_0, .slice A0_1 l0_1.length c0_1] 28 (0, 0)) (zb BK372.out) hb); have n1_ := Aside0.mk (below_step (zh HB.out) hb); have n2_ := Aside0.mk (hbox); have n3_ := Aside0.mk ((by rw [hg]; exact (below_size (zh HB.out)) : w.heap.size ≤ gb373)); have n4_ := Aside0.mk ((by rw [hg]; exact (below_size (zh HB.out)) : w.heap.size ≤ gb373)); have n5_ := Aside0.mk ((by rw [hg]; exact Nat.ne_of_lt (blk_lt (g := gb372) (o := .cells #[.int .i64 a0_0, .slice A0_1 l0_1.length c0_1] 28 (0, 0)) (zb BK372.out)) : gb372 ≠ gb373)); have n6_ := Aside0.mk ((by rw [hg]; exact Nat.ne_of_gt (blk_lt (g := gb372) (o := .cells #[.int .i64 a0_0, .slice A0_1 l0_1.length c0_1] 28 (0, 0)) (zb BK372.out)) : gb373 ≠ gb372)); clear BK372; clear HB; have BK372 := n0_; have HB := n1_; have BK373 := n2_; have GW373 := n3_; have GE373 := n4_; have NB372_373 := n5_; have NB373_372 := n6_; clear n0_ n1_ n2_ n3_ n4_ n5_ n6_; clear hb hbox hg; have hnb13 := NB372_373.out; have hnc13 := NB373_372.out; have hcz14_0 : w12.cell? ⟨gb372, 0, none⟩ = some (.int .i64 a0_0) := (blk_cell BK372.out 0).trans rfl; have hcz14_1 : w12.cell? ⟨gb372, 1, none⟩ = some (.slice A0_1 l0_1.length c0_1) := (blk_cell BK372.out 1).trans rfl; have hfz14_0 := blk_frozen BK372.out 0; have hfz14_1 := blk_frozen BK372.out 1; have hcz15_0 : w12.cell? ⟨gb373, 0, none⟩ = some (.int .i64 a1_0) := (blk_cell BK373.out 0).trans rfl; have hcz15_1 : w12.cell? ⟨gb373, 1, none⟩ = some (.slice A1_1 l1_1.length c1_1) := (blk_cell BK373.out 1).trans rfl; have hfz15_0 := blk_frozen BK373.out 0; have hfz15_1 := blk_frozen BK373.out 1) | ((with_reducible refine gate_callee (f := 23) rfl ?_); refine goesL_ (some 14) rfl rfl Tryz.func23 (by kernel_rfl) rfl #[.slice A0_1 l0_1.length c0_1, .slice A1_1 l1_1.length c1_1] rfl (by (try simp only [List.map_toArray, List.map_cons, List.map_nil]); first | done | rfl | (simp only [List.length_drop, List.length_take]; rfl)) ?_; (with_reducible refine (laws_eqIntSS.calls k _ _ l0_1 _ _ l1_1 false _ ?side1 ?side2 ?side3 ?side4 A4.out).mono ?_); (case side1 => repeat (first | exact (Kd.C_below HR0_1.out HB.out) | (with_reducible refine Kd.C_alloc ?_ _) | (with_reducible refine Kd.C_drewN ?_ _) | (with_reducible refine Kd.C_drew ?_))); (case side2 => exact HC0_1.out); (case side3 => repeat (first | exact (Kd.C_below HR1_1.out HB.out) | (with_reducible refine Kd.C_alloc ?_ _) | (with_reducible refine Kd.C_drewN ?_ _) | (with_reducible refine Kd.C_drew ?_))); (case side4 => exact HC1_1.out); rintro e w' ⟨rfl, ⟨nd, rfl⟩⟩; refine ⟨_, rfl, ?_⟩))
 go_ret
 exact ⟨by first | rfl | (simp [*, errW_none, errW_some] <;> rfl), zh HB.out⟩
def laws_eqClueS.l0 : Nat → List (S67) → List (S67) → Int → Option (Bool)
 | 0, _, _, _ => none
 | k + 1, x0, x1, x5 => if x5 < (x0.length : Int) then (if 0 ≤ x5 then (if x5 < (x1.length : Int) then ((laws_eqClue.f ((rd_T67 x0 x5).f0) ((rd_T67 x0 x5).f1) ((rd_T67 x0 x5).f2) ((rd_T67 x1 x5).f0) ((rd_T67 x1 x5).f1) ((rd_T67 x1 x5).f2)).bind fun t379 => (if t379 = true then (laws_eqClueS.l0 k x0 x1 (wrap64 (x5 + 1))) else (some false))) else (none)) else (none)) else (some true)
def laws_eqClueS.f (k : Nat) (l0 : List (S67)) (l1 : List (S67)) : Option (Bool) := if (l0.length : Int) = (l1.length : Int) then (laws_eqClueS.l0 k l0 l1 0) else (some false)
def laws_eqClueS.T6 : Bool × List (List Nat × List Nat) := (true, [([], []), ([], []), ([0, 1], [0, 1]), ([2], [2]), ([], []), ([], []), ([4, 5], [4, 5]), ([6], [6]), ([3, 7], [3, 7]), ([8], [8])])
def laws_eqClueS.B6 : List Nat := [0, 0, 3, 7, 0, 0, 48, 112, 255, 511]
theorem laws_eqClueS.tab6 : rtab .any (opsOf Tryz.f33 6) = laws_eqClueS.T6 := by kernel_rfl
theorem laws_eqClueS.bits6 : waitsOk laws_eqClueS.T6.2 laws_eqClueS.B6 = true := by kernel_rfl
set_option maxHeartbeats 8000000 in
set_option maxRecDepth 100000 in
theorem laws_eqClueS.calls (k : Nat) (A0 : Option Addr) (c0 : Nat) (l0 : List (S67)) (A1 : Option Addr) (c1 : Nat) (l1 : List (S67)) (r : Bool) (w : World) (hr0 : Kd.C k67 w A0 l0.length l0) (hc0 : l0.length ≤ c0) (hr1 : Kd.C k67 w A1 l1.length l1) (hc1 : l1.length ≤ c1) (h : laws_eqClueS.f k l0 l1 = some r) :
  Calls Tryz.prog 33 #[.slice A0 l0.length c0, .slice A1 l1.length c1] w fun e w' => e = .returned (.bool r) ∧ Below w.heap.size w w' := by
 have hu67 := Tryz.underlying67
 have HR0 := Aside0.mk hr0
 have HC0 := Aside0.mk hc0
 clear hr0 hc0
 have HR1 := Aside0.mk hr1
 have HC1 := Aside0.mk hc1
 clear hr1 hc1
 have HB := Aside0.mk (Below.refl w.heap.size w)
 have H : (if (l0.length : Int) = (l1.length : Int) then (laws_eqClueS.l0 k l0 l1 0) else (some false)) = some r := h
 clear h
 by_cases c3 : (l0.length : Int) = (l1.length : Int)
 rotate_left
 ·rw [if_neg c3] at H
  have c3b0 : ((l0.length : Int) == (l1.length : Int)) = false := beq_eq_false_iff_ne.mpr c3
  have c3b1 : ((l0.length : Int) != (l1.length : Int)) = true := bne_iff_ne.mpr c3
  have c3b2 : (l0.length == l1.length) = false := by first | simpa using c3 | (simp at c3 ⊢; omega)
  obtain rfl := Option.some.inj H
  go_enter Tryz.func33, Tryz.ntmps33
  go_wp2
  go_ret
  exact ⟨by first | rfl | (simp [*, errW_none, errW_some] <;> rfl), zh HB.out⟩
 rw [if_pos c3] at H
 have c3b0 : ((l0.length : Int) == (l1.length : Int)) = true := beq_iff_eq.mpr c3
 have c3b1 : ((l0.length : Int) != (l1.length : Int)) = false := bne_eq_false_iff_eq.mpr c3
 have c3b2 : (l0.length == l1.length) = true := by first | simpa using c3 | (simp at c3 ⊢; omega)
 clear c3
 have H' := Aside0.mk H
 clear H
 go_enter Tryz.func33, Tryz.ntmps33
 go_wp2
 go_loopg [5] k (fun kq v5 w' => ∃ (x5_1 : Int), v5 = .int .i64 x5_1 ∧ Aside0 (laws_eqClueS.l0 kq l0 l1 x5_1 = some r) ∧ Aside0 (kq ≤ k) ∧ Aside0 (Below w.heap.size w w'))
 case atStart => exact ⟨(0), (by first | rfl | (simp; done) | (simp [*]; done)), H', ⟨Nat.le_refl _⟩, ⟨zh HB.out⟩⟩
 case round =>
  clear H'
  try clear c1
  try clear p2
  try clear c3
  try clear c3b0
  try clear c3b1
  try clear c3b2
  obtain ⟨x5_1, rfl, HA, HK1, HB⟩ := hrel
  cases gk with
  | zero => exact absurd HA.out (by simp [laws_eqClueS.l0])
  | succ k1 =>
   have H := HA.out
   clear HA
   simp only [laws_eqClueS.l0] at H
   by_cases c4 : x5_1 < (l0.length : Int)
   rotate_left
   ·rw [if_neg c4] at H
    have c4b0 : decide (x5_1 < (l0.length : Int)) = false := decide_eq_false c4
    clear c4
    obtain rfl := Option.some.inj H
    go_wp2
    go_ret
    exact ⟨by first | rfl | (simp [*, errW_none, errW_some] <;> rfl), zh HB.out⟩
   rw [if_pos c4] at H
   have c4b0 : decide (x5_1 < (l0.length : Int)) = true := decide_eq_true c4
   clear c4
   by_cases c5 : 0 ≤ x5_1
   rotate_left
   ·rw [if_neg c5] at H
    exact absurd H (by simp)
   rw [if_pos c5] at H
   have c5b0 : decide (0 ≤ x5_1) = true := decide_eq_true c5
   clear c5
   by_cases c6 : x5_1 < (l1.length : Int)
   rotate_left
   ·rw [if_neg c6] at H
    exact absurd H (by simp)
   rw [if_pos c6] at H
   have c6b0 : decide (x5_1 < (l1.length : Int)) = true := decide_eq_true c6
   clear c6
   replace H := Option.bind_eq_some_iff.mp H
   obtain ⟨t379, A70, H⟩ := H
   replace H : (if t379 = true then (laws_eqClueS.l0 k1 l0 l1 (wrap64 (x5_1 + 1))) else (some false)) = some r := H
   have A7 := Aside0.mk A70
   clear A70
   by_cases c8 : t379 = true
   rotate_left
   ·replace c8 := Bool.eq_false_iff.mpr c8
    subst c8
    have H1 : (some false) = some r := by rw [if_neg (show ¬ (false = true) by decide)] at H; exact H
    clear H
    have H := H1
    clear H1
    obtain rfl := Option.some.inj H
    try go_wp2
    have n0_ := Aside0.mk (below_drew1 HB.out)
    clear HB
    have HB := n0_
    clear n0_
    have p377 : 0 ≤ (x5_1 : Int) := of_decide_eq_true (by first | (with_reducible assumption) | assumption)
    have q377 : x5_1 < (l0.length : Int) := of_decide_eq_true (by first | (with_reducible assumption) | assumption)
    obtain ⟨ad377, e377, hx377_0, hx377_1, hx377_2⟩ := at_T67 HR0.out x5_1 p377 q377
    have hw377_2 := hx377_2
    have hw377_1 := hx377_1
    have hw377_0 := hx377_0
    cases e377
    replace hx377_0 := (HB.out.cell (World.block_lt_of_cell? w _ hx377_0)).trans hx377_0
    replace hx377_1 := (HB.out.cell (World.block_lt_of_cell? w _ hx377_1)).trans hx377_1
    replace hx377_2 := (HB.out.cell (World.block_lt_of_cell? w _ hx377_2)).trans hx377_2
    replace p377 := eq_true p377
    replace q377 := eq_true q377
    have p378 : 0 ≤ (x5_1 : Int) := of_decide_eq_true (by first | (with_reducible assumption) | assumption)
    have q378 : x5_1 < (l1.length : Int) := of_decide_eq_true (by first | (with_reducible assumption) | assumption)
    obtain ⟨ad378, e378, hx378_0, hx378_1, hx378_2⟩ := at_T67 HR1.out x5_1 p378 q378
    have hw378_2 := hx378_2
    have hw378_1 := hx378_1
    have hw378_0 := hx378_0
    cases e378
    replace hx378_0 := (HB.out.cell (World.block_lt_of_cell? w _ hx378_0)).trans hx378_0
    replace hx378_1 := (HB.out.cell (World.block_lt_of_cell? w _ hx378_1)).trans hx378_1
    replace hx378_2 := (HB.out.cell (World.block_lt_of_cell? w _ hx378_2)).trans hx378_2
    replace p378 := eq_true p378
    replace q378 := eq_true q378
    refine start_ (n := 10) (S := fun w' => w'.cell? (ad377.add ((x5_1).toNat * 3)) = some (.int .i64 ((rd_T67 l0 x5_1).f0)) ∧ w'.cell? ⟨(ad377.add ((x5_1).toNat * 3)).block, (ad377.add ((x5_1).toNat * 3)).off + 1, none⟩ = some (.int .i64 ((rd_T67 l0 x5_1).f1)) ∧ w'.cell? ⟨(ad377.add ((x5_1).toNat * 3)).block, (ad377.add ((x5_1).toNat * 3)).off + 2, none⟩ = some (.int .i64 ((rd_T67 l0 x5_1).f2)) ∧ w'.cell? (ad378.add ((x5_1).toNat * 3)) = some (.int .i64 ((rd_T67 l1 x5_1).f0)) ∧ w'.cell? ⟨(ad378.add ((x5_1).toNat * 3)).block, (ad378.add ((x5_1).toNat * 3)).off + 1, none⟩ = some (.int .i64 ((rd_T67 l1 x5_1).f1)) ∧ w'.cell? ⟨(ad378.add ((x5_1).toNat * 3)).block, (ad378.add ((x5_1).toNat * 3)).off + 2, none⟩ = some (.int .i64 ((rd_T67 l1 x5_1).f2))) (ds := []) (tb 10 0) (by kernel_rfl) rfl rfl ⟨((HB.out.cell (World.block_lt_of_cell? w _ hw377_0)).trans hw377_0), ((HB.out.cell (World.block_lt_of_cell? w _ hw377_1)).trans hw377_1), ((HB.out.cell (World.block_lt_of_cell? w _ hw377_2)).trans hw377_2), ((HB.out.cell (World.block_lt_of_cell? w _ hw378_0)).trans hw378_0), ((HB.out.cell (World.block_lt_of_cell? w _ hw378_1)).trans hw378_1), ((HB.out.cell (World.block_lt_of_cell? w _ hw378_2)).trans hw378_2)⟩ (fun hHeld => ?_); refine with_tabW laws_eqClueS.tab6 laws_eqClueS.bits6 (fun HT_ HW_ => ?_)
    generalize wr.drew = w11 at HB hx377_0 hx377_1 hx377_2 hx378_0 hx378_1 hx378_2 hHeld ⊢
    refine zu (i := 0) (N := some 17) (tb 10 1) rfl rfl HT_ ?_
    refine zu (i := 1) (N := some 18) (tb 10 3) rfl rfl HT_ ?_
    refine zu (i := 2) (N := some 19) (tb 10 7) rfl rfl HT_ ?_
    refine zu (i := 4) (N := some 21) (tb 10 23) rfl rfl HT_ ?_
    refine zu (i := 5) (N := some 22) (tb 10 55) rfl rfl HT_ ?_
    refine zu (i := 6) (N := some 23) (tb 10 119) rfl rfl HT_ ?_
    refine take_ (i := 3) (N := some 20) (v := ?_) (a' := ?_) (tb 10 127) rfl rfl (take_ofW HT_.out HW_.out (by kernel_rfl)) (fun _ _ _ h => h) (Or.inl ⟨by rfl, ?_⟩) hHeld ?_ ?_
    rotate_left
    ·rintro w' ⟨s0, s1, s2, s3, s4, s5⟩
     go_simp
     with_reducible rfl
    rotate_left
    ·simp only [Act.put, List.setIfInBounds_toArray, List.set_cons_zero, List.set_cons_succ, i64_w, i32_w]
     rfl
    refine take_ (i := 7) (N := some 24) (v := ?_) (a' := ?_) (tb 10 255) rfl rfl (take_ofW HT_.out HW_.out (by kernel_rfl)) (fun _ _ _ h => h) (Or.inl ⟨by rfl, ?_⟩) hHeld ?_ ?_
    rotate_left
    ·rintro w' ⟨s0, s1, s2, s3, s4, s5⟩
     go_simp
     with_reducible rfl
    rotate_left
    ·simp only [Act.put, List.setIfInBounds_toArray, List.set_cons_zero, List.set_cons_succ, i64_w, i32_w]
     rfl
    refine one_ (i := 8) (N := some 25) (tb 10 511) rfl rfl (one_of HT_.out (by kernel_rfl)) (by decide) (fun K hK => ?_)
    refine goes_ Tryz.func53 (by kernel_rfl) rfl #[.agg #[.int .i64 ((rd_T67 l0 x5_1).f0), .int .i64 ((rd_T67 l0 x5_1).f1), .int .i64 ((rd_T67 l0 x5_1).f2)], .agg #[.int .i64 ((rd_T67 l1 x5_1).f0), .int .i64 ((rd_T67 l1 x5_1).f1), .int .i64 ((rd_T67 l1 x5_1).f2)]] (by rfl) rfl rfl (by (try simp only [List.map_toArray, List.map_cons, List.map_nil]); first | done | rfl | (simp only [List.length_drop, List.length_take]; rfl)) ?_
    with_reducible refine (laws_eqClue.calls ((rd_T67 l0 x5_1).f0) ((rd_T67 l0 x5_1).f1) ((rd_T67 l0 x5_1).f2) ((rd_T67 l1 x5_1).f0) ((rd_T67 l1 x5_1).f1) ((rd_T67 l1 x5_1).f2) false _ A7.out).mono ?_
    rintro e w12 ⟨rfl, hb⟩
    refine ⟨_, rfl, ?_⟩
    have n0_ := Aside0.mk (below_step (zh HB.out) hb)
    clear HB
    have HB := n0_
    clear n0_
    (try clear hb)
    (try clear hb2)
    (try clear hk)
    (try clear hi)
    refine hK.out _ _ ⟨((HB.out.cell (World.block_lt_of_cell? w _ hw377_0)).trans hw377_0), ((HB.out.cell (World.block_lt_of_cell? w _ hw377_1)).trans hw377_1), ((HB.out.cell (World.block_lt_of_cell? w _ hw377_2)).trans hw377_2), ((HB.out.cell (World.block_lt_of_cell? w _ hw378_0)).trans hw378_0), ((HB.out.cell (World.block_lt_of_cell? w _ hw378_1)).trans hw378_1), ((HB.out.cell (World.block_lt_of_cell? w _ hw378_2)).trans hw378_2)⟩ (fun hHeld => ?_)
    clear hK K
    refine norm_ (a' := ?_) ?_ ?_
    rotate_left
    ·show Act.put _ (some 25) _ = _
     simp only [Act.put, List.setIfInBounds_toArray, List.set_cons_zero, List.set_cons_succ, i64_w, i32_w]
     rfl
    refine zu (i := 9) (N := some 26) (tb 10 1023) rfl rfl HT_ ?_
    refine done_ (done_of HT_.out (by kernel_rfl)) ?_
    try go_wp2
    go_ret
    exact ⟨by first | rfl | (simp [*, errW_none, errW_some] <;> rfl), zh HB.out⟩
   subst c8
   have H1 : (laws_eqClueS.l0 k1 l0 l1 (wrap64 (x5_1 + 1))) = some r := by rw [if_pos rfl] at H; exact H
   clear H
   have H := H1
   clear H1
   have H' := Aside0.mk H
   clear H
   try go_wp2
   have n0_ := Aside0.mk (below_drew1 HB.out)
   clear HB
   have HB := n0_
   clear n0_
   have p377 : 0 ≤ (x5_1 : Int) := of_decide_eq_true (by first | (with_reducible assumption) | assumption)
   have q377 : x5_1 < (l0.length : Int) := of_decide_eq_true (by first | (with_reducible assumption) | assumption)
   obtain ⟨ad377, e377, hx377_0, hx377_1, hx377_2⟩ := at_T67 HR0.out x5_1 p377 q377
   have hw377_2 := hx377_2
   have hw377_1 := hx377_1
   have hw377_0 := hx377_0
   cases e377
   replace hx377_0 := (HB.out.cell (World.block_lt_of_cell? w _ hx377_0)).trans hx377_0
   replace hx377_1 := (HB.out.cell (World.block_lt_of_cell? w _ hx377_1)).trans hx377_1
   replace hx377_2 := (HB.out.cell (World.block_lt_of_cell? w _ hx377_2)).trans hx377_2
   replace p377 := eq_true p377
   replace q377 := eq_true q377
   have p378 : 0 ≤ (x5_1 : Int) := of_decide_eq_true (by first | (with_reducible assumption) | assumption)
   have q378 : x5_1 < (l1.length : Int) := of_decide_eq_true (by first | (with_reducible assumption) | assumption)
   obtain ⟨ad378, e378, hx378_0, hx378_1, hx378_2⟩ := at_T67 HR1.out x5_1 p378 q378
   have hw378_2 := hx378_2
   have hw378_1 := hx378_1
   have hw378_0 := hx378_0
   cases e378
   replace hx378_0 := (HB.out.cell (World.block_lt_of_cell? w _ hx378_0)).trans hx378_0
   replace hx378_1 := (HB.out.cell (World.block_lt_of_cell? w _ hx378_1)).trans hx378_1
   replace hx378_2 := (HB.out.cell (World.block_lt_of_cell? w _ hx378_2)).trans hx378_2
   replace p378 := eq_true p378
   replace q378 := eq_true q378
   refine start_ (n := 10) (S := fun w' => w'.cell? (ad377.add ((x5_1).toNat * 3)) = some (.int .i64 ((rd_T67 l0 x5_1).f0)) ∧ w'.cell? ⟨(ad377.add ((x5_1).toNat * 3)).block, (ad377.add ((x5_1).toNat * 3)).off + 1, none⟩ = some (.int .i64 ((rd_T67 l0 x5_1).f1)) ∧ w'.cell? ⟨(ad377.add ((x5_1).toNat * 3)).block, (ad377.add ((x5_1).toNat * 3)).off + 2, none⟩ = some (.int .i64 ((rd_T67 l0 x5_1).f2)) ∧ w'.cell? (ad378.add ((x5_1).toNat * 3)) = some (.int .i64 ((rd_T67 l1 x5_1).f0)) ∧ w'.cell? ⟨(ad378.add ((x5_1).toNat * 3)).block, (ad378.add ((x5_1).toNat * 3)).off + 1, none⟩ = some (.int .i64 ((rd_T67 l1 x5_1).f1)) ∧ w'.cell? ⟨(ad378.add ((x5_1).toNat * 3)).block, (ad378.add ((x5_1).toNat * 3)).off + 2, none⟩ = some (.int .i64 ((rd_T67 l1 x5_1).f2))) (ds := []) (tb 10 0) (by kernel_rfl) rfl rfl ⟨((HB.out.cell (World.block_lt_of_cell? w _ hw377_0)).trans hw377_0), ((HB.out.cell (World.block_lt_of_cell? w _ hw377_1)).trans hw377_1), ((HB.out.cell (World.block_lt_of_cell? w _ hw377_2)).trans hw377_2), ((HB.out.cell (World.block_lt_of_cell? w _ hw378_0)).trans hw378_0), ((HB.out.cell (World.block_lt_of_cell? w _ hw378_1)).trans hw378_1), ((HB.out.cell (World.block_lt_of_cell? w _ hw378_2)).trans hw378_2)⟩ (fun hHeld => ?_); refine with_tabW laws_eqClueS.tab6 laws_eqClueS.bits6 (fun HT_ HW_ => ?_)
   generalize wr.drew = w9 at HB hx377_0 hx377_1 hx377_2 hx378_0 hx378_1 hx378_2 hHeld ⊢
   refine zu (i := 0) (N := some 17) (tb 10 1) rfl rfl HT_ ?_
   refine zu (i := 1) (N := some 18) (tb 10 3) rfl rfl HT_ ?_
   refine zu (i := 2) (N := some 19) (tb 10 7) rfl rfl HT_ ?_
   refine zu (i := 4) (N := some 21) (tb 10 23) rfl rfl HT_ ?_
   refine zu (i := 5) (N := some 22) (tb 10 55) rfl rfl HT_ ?_
   refine zu (i := 6) (N := some 23) (tb 10 119) rfl rfl HT_ ?_
   refine take_ (i := 3) (N := some 20) (v := ?_) (a' := ?_) (tb 10 127) rfl rfl (take_ofW HT_.out HW_.out (by kernel_rfl)) (fun _ _ _ h => h) (Or.inl ⟨by rfl, ?_⟩) hHeld ?_ ?_
   rotate_left
   ·rintro w' ⟨s0, s1, s2, s3, s4, s5⟩
    go_simp
    with_reducible rfl
   rotate_left
   ·simp only [Act.put, List.setIfInBounds_toArray, List.set_cons_zero, List.set_cons_succ, i64_w, i32_w]
    rfl
   refine take_ (i := 7) (N := some 24) (v := ?_) (a' := ?_) (tb 10 255) rfl rfl (take_ofW HT_.out HW_.out (by kernel_rfl)) (fun _ _ _ h => h) (Or.inl ⟨by rfl, ?_⟩) hHeld ?_ ?_
   rotate_left
   ·rintro w' ⟨s0, s1, s2, s3, s4, s5⟩
    go_simp
    with_reducible rfl
   rotate_left
   ·simp only [Act.put, List.setIfInBounds_toArray, List.set_cons_zero, List.set_cons_succ, i64_w, i32_w]
    rfl
   refine one_ (i := 8) (N := some 25) (tb 10 511) rfl rfl (one_of HT_.out (by kernel_rfl)) (by decide) (fun K hK => ?_)
   refine goes_ Tryz.func53 (by kernel_rfl) rfl #[.agg #[.int .i64 ((rd_T67 l0 x5_1).f0), .int .i64 ((rd_T67 l0 x5_1).f1), .int .i64 ((rd_T67 l0 x5_1).f2)], .agg #[.int .i64 ((rd_T67 l1 x5_1).f0), .int .i64 ((rd_T67 l1 x5_1).f1), .int .i64 ((rd_T67 l1 x5_1).f2)]] (by rfl) rfl rfl (by (try simp only [List.map_toArray, List.map_cons, List.map_nil]); first | done | rfl | (simp only [List.length_drop, List.length_take]; rfl)) ?_
   with_reducible refine (laws_eqClue.calls ((rd_T67 l0 x5_1).f0) ((rd_T67 l0 x5_1).f1) ((rd_T67 l0 x5_1).f2) ((rd_T67 l1 x5_1).f0) ((rd_T67 l1 x5_1).f1) ((rd_T67 l1 x5_1).f2) true _ A7.out).mono ?_
   rintro e w10 ⟨rfl, hb⟩
   refine ⟨_, rfl, ?_⟩
   have n0_ := Aside0.mk (below_step (zh HB.out) hb)
   clear HB
   have HB := n0_
   clear n0_
   (try clear hb)
   (try clear hb2)
   (try clear hk)
   (try clear hi)
   refine hK.out _ _ ⟨((HB.out.cell (World.block_lt_of_cell? w _ hw377_0)).trans hw377_0), ((HB.out.cell (World.block_lt_of_cell? w _ hw377_1)).trans hw377_1), ((HB.out.cell (World.block_lt_of_cell? w _ hw377_2)).trans hw377_2), ((HB.out.cell (World.block_lt_of_cell? w _ hw378_0)).trans hw378_0), ((HB.out.cell (World.block_lt_of_cell? w _ hw378_1)).trans hw378_1), ((HB.out.cell (World.block_lt_of_cell? w _ hw378_2)).trans hw378_2)⟩ (fun hHeld => ?_)
   clear hK K
   refine norm_ (a' := ?_) ?_ ?_
   rotate_left
   ·show Act.put _ (some 25) _ = _
    simp only [Act.put, List.setIfInBounds_toArray, List.set_cons_zero, List.set_cons_succ, i64_w, i32_w]
    rfl
   refine zu (i := 9) (N := some 26) (tb 10 1023) rfl rfl HT_ ?_
   refine done_ (done_of HT_.out (by kernel_rfl)) ?_
   try go_wp2
   go_roundg k1
   case measure => have := HK1.out; omega
   case rel => exact ⟨(wrap64 (x5_1 + 1)), (by first | rfl | (simp; done) | (simp [*]; done)), H', ⟨by have := HK1.out; omega⟩, ⟨zh HB.out⟩⟩
def laws_eqPuzzle.f (k : Nat) (a0_0 : Int) (l0_1 : List (S67)) (a1_0 : Int) (l1_1 : List (S67)) : Option (Bool) := if a0_0 = a1_0 then ((laws_eqClueS.f k l0_1 l1_1).bind fun t382 => (if t382 = true then (some true) else (some false))) else (some false)
set_option maxHeartbeats 8000000 in
set_option maxRecDepth 100000 in
theorem laws_eqPuzzle.calls (k : Nat) (a0_0 : Int) (A0_1 : Option Addr) (c0_1 : Nat) (l0_1 : List (S67)) (a1_0 : Int) (A1_1 : Option Addr) (c1_1 : Nat) (l1_1 : List (S67)) (r : Bool) (w : World) (hr0_1 : Kd.C k67 w A0_1 l0_1.length l0_1) (hc0_1 : l0_1.length ≤ c0_1) (hr1_1 : Kd.C k67 w A1_1 l1_1.length l1_1) (hc1_1 : l1_1.length ≤ c1_1) (h : laws_eqPuzzle.f k a0_0 l0_1 a1_0 l1_1 = some r) :
  Calls Tryz.prog 12 #[.agg #[.int .i64 a0_0, .slice A0_1 l0_1.length c0_1], .agg #[.int .i64 a1_0, .slice A1_1 l1_1.length c1_1]] w fun e w' => e = .returned (.bool r) ∧ Below w.heap.size w w' := by
 have hu33 := Tryz.underlying33
 have HR0_1 := Aside0.mk hr0_1
 have HC0_1 := Aside0.mk hc0_1
 clear hr0_1 hc0_1
 have HR1_1 := Aside0.mk hr1_1
 have HC1_1 := Aside0.mk hc1_1
 clear hr1_1 hc1_1
 have HB := Aside0.mk (Below.refl w.heap.size w)
 have H : (if a0_0 = a1_0 then ((laws_eqClueS.f k l0_1 l1_1).bind fun t382 => (if t382 = true then (some true) else (some false))) else (some false)) = some r := h
 clear h
 by_cases c3 : a0_0 = a1_0
 rotate_left
 ·rw [if_neg c3] at H
  have c3b0 : (a0_0 == a1_0) = false := beq_eq_false_iff_ne.mpr c3
  have c3b1 : (a0_0 != a1_0) = true := bne_iff_ne.mpr c3
  obtain rfl := Option.some.inj H
  go_enter Tryz.func12, Tryz.ntmps12
  go_wp2_with (first | ((with_reducible refine gate_dst (N := 2) rfl ?_); refine box_event ?hg (N := 2) ?hd (cs := #[.int .i64 a0_0, .slice A0_1 l0_1.length c0_1]) (t := 33) ?hr ?_; (case hd => rfl); (case hg => rfl); (case hr => first | (go_simp; done) | (go_simp; rfl)); intro gb380 hg w18 hbox hb; have n2_ := Aside0.mk ((by rw [hg]; exact (below_size (zh HB.out)) : w.heap.size ≤ gb380)); replace HB := Aside0.mk (below_step (zh HB.out) hb); have BK380 := Aside0.mk hbox; have GW380 := n2_; have GE380 := n2_; clear n2_ hb hbox hg) | ((with_reducible refine gate_dst (N := 3) rfl ?_); refine box_event ?hg (N := 3) ?hd (cs := #[.int .i64 a1_0, .slice A1_1 l1_1.length c1_1]) (t := 33) ?hr ?_; (case hd => rfl); (case hg => rfl); (case hr => first | (go_simp; done) | (go_simp; rfl)); intro gb381 hg w19 hbox hb; have n0_ := Aside0.mk (blk_below (g := gb380) (o := .cells #[.int .i64 a0_0, .slice A0_1 l0_1.length c0_1] 33 (0, 0)) (zb BK380.out) hb); have n1_ := Aside0.mk (below_step (zh HB.out) hb); have n2_ := Aside0.mk (hbox); have n3_ := Aside0.mk ((by rw [hg]; exact (below_size (zh HB.out)) : w.heap.size ≤ gb381)); have n4_ := Aside0.mk ((by rw [hg]; exact (below_size (zh HB.out)) : w.heap.size ≤ gb381)); have n5_ := Aside0.mk ((by rw [hg]; exact Nat.ne_of_lt (blk_lt (g := gb380) (o := .cells #[.int .i64 a0_0, .slice A0_1 l0_1.length c0_1] 33 (0, 0)) (zb BK380.out)) : gb380 ≠ gb381)); have n6_ := Aside0.mk ((by rw [hg]; exact Nat.ne_of_gt (blk_lt (g := gb380) (o := .cells #[.int .i64 a0_0, .slice A0_1 l0_1.length c0_1] 33 (0, 0)) (zb BK380.out)) : gb381 ≠ gb380)); clear BK380; clear HB; have BK380 := n0_; have HB := n1_; have BK381 := n2_; have GW381 := n3_; have GE381 := n4_; have NB380_381 := n5_; have NB381_380 := n6_; clear n0_ n1_ n2_ n3_ n4_ n5_ n6_; clear hb hbox hg; have hnb20 := NB380_381.out; have hnc20 := NB381_380.out; have hcz21_0 : w19.cell? ⟨gb380, 0, none⟩ = some (.int .i64 a0_0) := (blk_cell BK380.out 0).trans rfl; have hcz21_1 : w19.cell? ⟨gb380, 1, none⟩ = some (.slice A0_1 l0_1.length c0_1) := (blk_cell BK380.out 1).trans rfl; have hfz21_0 := blk_frozen BK380.out 0; have hfz21_1 := blk_frozen BK380.out 1; have hcz22_0 : w19.cell? ⟨gb381, 0, none⟩ = some (.int .i64 a1_0) := (blk_cell BK381.out 0).trans rfl; have hcz22_1 : w19.cell? ⟨gb381, 1, none⟩ = some (.slice A1_1 l1_1.length c1_1) := (blk_cell BK381.out 1).trans rfl; have hfz22_0 := blk_frozen BK381.out 0; have hfz22_1 := blk_frozen BK381.out 1))
  go_ret
  exact ⟨by first | rfl | (simp [*, errW_none, errW_some] <;> rfl), zh HB.out⟩
 rw [if_pos c3] at H
 have c3b0 : (a0_0 == a1_0) = true := beq_iff_eq.mpr c3
 have c3b1 : (a0_0 != a1_0) = false := bne_eq_false_iff_eq.mpr c3
 clear c3
 replace H := Option.bind_eq_some_iff.mp H
 obtain ⟨t382, A40, H⟩ := H
 replace H : (if t382 = true then (some true) else (some false)) = some r := H
 have A4 := Aside0.mk A40
 clear A40
 by_cases c5 : t382 = true
 ·subst c5
  have H1 : (some true) = some r := by rw [if_pos rfl] at H; exact H
  clear H
  have H := H1
  clear H1
  obtain rfl := Option.some.inj H
  go_enter Tryz.func12, Tryz.ntmps12
  go_wp2_with (first | ((with_reducible refine gate_dst (N := 2) rfl ?_); refine box_event ?hg (N := 2) ?hd (cs := #[.int .i64 a0_0, .slice A0_1 l0_1.length c0_1]) (t := 33) ?hr ?_; (case hd => rfl); (case hg => rfl); (case hr => first | (go_simp; done) | (go_simp; rfl)); intro gb380 hg w6 hbox hb; have n2_ := Aside0.mk ((by rw [hg]; exact (below_size (zh HB.out)) : w.heap.size ≤ gb380)); replace HB := Aside0.mk (below_step (zh HB.out) hb); have BK380 := Aside0.mk hbox; have GW380 := n2_; have GE380 := n2_; clear n2_ hb hbox hg) | ((with_reducible refine gate_dst (N := 3) rfl ?_); refine box_event ?hg (N := 3) ?hd (cs := #[.int .i64 a1_0, .slice A1_1 l1_1.length c1_1]) (t := 33) ?hr ?_; (case hd => rfl); (case hg => rfl); (case hr => first | (go_simp; done) | (go_simp; rfl)); intro gb381 hg w7 hbox hb; have n0_ := Aside0.mk (blk_below (g := gb380) (o := .cells #[.int .i64 a0_0, .slice A0_1 l0_1.length c0_1] 33 (0, 0)) (zb BK380.out) hb); have n1_ := Aside0.mk (below_step (zh HB.out) hb); have n2_ := Aside0.mk (hbox); have n3_ := Aside0.mk ((by rw [hg]; exact (below_size (zh HB.out)) : w.heap.size ≤ gb381)); have n4_ := Aside0.mk ((by rw [hg]; exact (below_size (zh HB.out)) : w.heap.size ≤ gb381)); have n5_ := Aside0.mk ((by rw [hg]; exact Nat.ne_of_lt (blk_lt (g := gb380) (o := .cells #[.int .i64 a0_0, .slice A0_1 l0_1.length c0_1] 33 (0, 0)) (zb BK380.out)) : gb380 ≠ gb381)); have n6_ := Aside0.mk ((by rw [hg]; exact Nat.ne_of_gt (blk_lt (g := gb380) (o := .cells #[.int .i64 a0_0, .slice A0_1 l0_1.length c0_1] 33 (0, 0)) (zb BK380.out)) : gb381 ≠ gb380)); clear BK380; clear HB; have BK380 := n0_; have HB := n1_; have BK381 := n2_; have GW381 := n3_; have GE381 := n4_; have NB380_381 := n5_; have NB381_380 := n6_; clear n0_ n1_ n2_ n3_ n4_ n5_ n6_; clear hb hbox hg; have hnb8 := NB380_381.out; have hnc8 := NB381_380.out; have hcz9_0 : w7.cell? ⟨gb380, 0, none⟩ = some (.int .i64 a0_0) := (blk_cell BK380.out 0).trans rfl; have hcz9_1 : w7.cell? ⟨gb380, 1, none⟩ = some (.slice A0_1 l0_1.length c0_1) := (blk_cell BK380.out 1).trans rfl; have hfz9_0 := blk_frozen BK380.out 0; have hfz9_1 := blk_frozen BK380.out 1; have hcz10_0 : w7.cell? ⟨gb381, 0, none⟩ = some (.int .i64 a1_0) := (blk_cell BK381.out 0).trans rfl; have hcz10_1 : w7.cell? ⟨gb381, 1, none⟩ = some (.slice A1_1 l1_1.length c1_1) := (blk_cell BK381.out 1).trans rfl; have hfz10_0 := blk_frozen BK381.out 0; have hfz10_1 := blk_frozen BK381.out 1) | ((with_reducible refine gate_callee (f := 33) rfl ?_); refine goesL_ (some 14) rfl rfl Tryz.func33 (by kernel_rfl) rfl #[.slice A0_1 l0_1.length c0_1, .slice A1_1 l1_1.length c1_1] rfl (by (try simp only [List.map_toArray, List.map_cons, List.map_nil]); first | done | rfl | (simp only [List.length_drop, List.length_take]; rfl)) ?_; (with_reducible refine (laws_eqClueS.calls k _ _ l0_1 _ _ l1_1 true _ ?side1 ?side2 ?side3 ?side4 A4.out).mono ?_); (case side1 => repeat (first | exact (Kd.C_below HR0_1.out HB.out) | (with_reducible refine Kd.C_alloc ?_ _) | (with_reducible refine Kd.C_drewN ?_ _) | (with_reducible refine Kd.C_drew ?_))); (case side2 => exact HC0_1.out); (case side3 => repeat (first | exact (Kd.C_below HR1_1.out HB.out) | (with_reducible refine Kd.C_alloc ?_ _) | (with_reducible refine Kd.C_drewN ?_ _) | (with_reducible refine Kd.C_drew ?_))); (case side4 => exact HC1_1.out); rintro e w11 ⟨rfl, hb⟩; refine ⟨_, rfl, ?_⟩; have n0_ := Aside0.mk (blk_below (g := gb380) (o := .cells #[.int .i64 a0_0, .slice A0_1 l0_1.length c0_1] 33 (0, 0)) (zb BK380.out) hb); have n1_ := Aside0.mk (blk_below (g := gb381) (o := .cells #[.int .i64 a1_0, .slice A1_1 l1_1.length c1_1] 33 (0, 0)) (zb BK381.out) hb); have n2_ := Aside0.mk (below_step (zh HB.out) hb); clear BK380; clear BK381; clear HB; have BK380 := n0_; have BK381 := n1_; have HB := n2_; clear n0_ n1_ n2_; (try clear hb); (try clear hb2); (try clear hk); (try clear hi)))
  go_ret
  exact ⟨by first | rfl | (simp [*, errW_none, errW_some] <;> rfl), zh HB.out⟩
 replace c5 := Bool.eq_false_iff.mpr c5
 subst c5
 have H1 : (some false) = some r := by rw [if_neg (show ¬ (false = true) by decide)] at H; exact H
 clear H
 have H := H1
 clear H1
 obtain rfl := Option.some.inj H
 go_enter Tryz.func12, Tryz.ntmps12
 go_wp2_with (first | ((with_reducible refine gate_dst (N := 2) rfl ?_); refine box_event ?hg (N := 2) ?hd (cs := #[.int .i64 a0_0, .slice A0_1 l0_1.length c0_1]) (t := 33) ?hr ?_; (case hd => rfl); (case hg => rfl); (case hr => first | (go_simp; done) | (go_simp; rfl)); intro gb380 hg w12 hbox hb; have n2_ := Aside0.mk ((by rw [hg]; exact (below_size (zh HB.out)) : w.heap.size ≤ gb380)); replace HB := Aside0.mk (below_step (zh HB.out) hb); have BK380 := Aside0.mk hbox; have GW380 := n2_; have GE380 := n2_; clear n2_ hb hbox hg) | ((with_reducible refine gate_dst (N := 3) rfl ?_); refine box_event ?hg (N := 3) ?hd (cs := #[.int .i64 a1_0, .slice A1_1 l1_1.length c1_1]) (t := 33) ?hr ?_; (case hd => rfl); (case hg => rfl); (case hr => first | (go_simp; done) | (go_simp; rfl)); intro gb381 hg w13 hbox hb; have n0_ := Aside0.mk (blk_below (g := gb380) (o := .cells #[.int .i64 a0_0, .slice A0_1 l0_1.length c0_1] 33 (0, 0)) (zb BK380.out) hb); have n1_ := Aside0.mk (below_step (zh HB.out) hb); have n2_ := Aside0.mk (hbox); have n3_ := Aside0.mk ((by rw [hg]; exact (below_size (zh HB.out)) : w.heap.size ≤ gb381)); have n4_ := Aside0.mk ((by rw [hg]; exact (below_size (zh HB.out)) : w.heap.size ≤ gb381)); have n5_ := Aside0.mk ((by rw [hg]; exact Nat.ne_of_lt (blk_lt (g := gb380) (o := .cells #[.int .i64 a0_0, .slice A0_1 l0_1.length c0_1] 33 (0, 0)) (zb BK380.out)) : gb380 ≠ gb381)); have n6_ := Aside0.mk ((by rw [hg]; exact Nat.ne_of_gt (blk_lt (g := gb380) (o := .cells #[.int .i64 a0_0, .slice A0_1 l0_1.length c0_1] 33 (0, 0)) (zb BK380.out)) : gb381 ≠ gb380)); clear BK380; clear HB; have BK380 := n0_; have HB := n1_; have BK381 := n2_; have GW381 := n3_; have GE381 := n4_; have NB380_381 := n5_; have NB381_380 := n6_; clear n0_ n1_ n2_ n3_ n4_ n5_ n6_; clear hb hbox hg; have hnb14 := NB380_381.out; have hnc14 := NB381_380.out; have hcz15_0 : w13.cell? ⟨gb380, 0, none⟩ = some (.int .i64 a0_0) := (blk_cell BK380.out 0).trans rfl; have hcz15_1 : w13.cell? ⟨gb380, 1, none⟩ = some (.slice A0_1 l0_1.length c0_1) := (blk_cell BK380.out 1).trans rfl; have hfz15_0 := blk_frozen BK380.out 0; have hfz15_1 := blk_frozen BK380.out 1; have hcz16_0 : w13.cell? ⟨gb381, 0, none⟩ = some (.int .i64 a1_0) := (blk_cell BK381.out 0).trans rfl; have hcz16_1 : w13.cell? ⟨gb381, 1, none⟩ = some (.slice A1_1 l1_1.length c1_1) := (blk_cell BK381.out 1).trans rfl; have hfz16_0 := blk_frozen BK381.out 0; have hfz16_1 := blk_frozen BK381.out 1) | ((with_reducible refine gate_callee (f := 33) rfl ?_); refine goesL_ (some 14) rfl rfl Tryz.func33 (by kernel_rfl) rfl #[.slice A0_1 l0_1.length c0_1, .slice A1_1 l1_1.length c1_1] rfl (by (try simp only [List.map_toArray, List.map_cons, List.map_nil]); first | done | rfl | (simp only [List.length_drop, List.length_take]; rfl)) ?_; (with_reducible refine (laws_eqClueS.calls k _ _ l0_1 _ _ l1_1 false _ ?side1 ?side2 ?side3 ?side4 A4.out).mono ?_); (case side1 => repeat (first | exact (Kd.C_below HR0_1.out HB.out) | (with_reducible refine Kd.C_alloc ?_ _) | (with_reducible refine Kd.C_drewN ?_ _) | (with_reducible refine Kd.C_drew ?_))); (case side2 => exact HC0_1.out); (case side3 => repeat (first | exact (Kd.C_below HR1_1.out HB.out) | (with_reducible refine Kd.C_alloc ?_ _) | (with_reducible refine Kd.C_drewN ?_ _) | (with_reducible refine Kd.C_drew ?_))); (case side4 => exact HC1_1.out); rintro e w17 ⟨rfl, hb⟩; refine ⟨_, rfl, ?_⟩; have n0_ := Aside0.mk (blk_below (g := gb380) (o := .cells #[.int .i64 a0_0, .slice A0_1 l0_1.length c0_1] 33 (0, 0)) (zb BK380.out) hb); have n1_ := Aside0.mk (blk_below (g := gb381) (o := .cells #[.int .i64 a1_0, .slice A1_1 l1_1.length c1_1] 33 (0, 0)) (zb BK381.out) hb); have n2_ := Aside0.mk (below_step (zh HB.out) hb); clear BK380; clear BK381; clear HB; have BK380 := n0_; have BK381 := n1_; have HB := n2_; clear n0_ n1_ n2_; (try clear hb); (try clear hb2); (try clear hk); (try clear hi)))
 go_ret
 exact ⟨by first | rfl | (simp [*, errW_none, errW_some] <;> rfl), zh HB.out⟩
def laws_markClueS.l0 : Nat → List (S67) → Int → Int → Option (Int × (List (S67)))
 | 0, _, _, _ => none
 | k + 1, x0, x1, x5 => if x5 < (x0.length : Int) then (if 0 ≤ x5 then ((some (x0.set (x5 : Int).toNat (⟨x1, (rd_T67 x0 x5).f1, (rd_T67 x0 x5).f2⟩ : S67) : List (S67))).bind fun y383 => ((some (y383.set (x5 : Int).toNat (⟨(rd_T67 y383 x5).f0, wrap64 (x1 + 1), (rd_T67 y383 x5).f2⟩ : S67) : List (S67))).bind fun y384 => (laws_markClueS.l0 k (y384.set (x5 : Int).toNat (⟨(rd_T67 y384 x5).f0, (rd_T67 y384 x5).f1, wrap64 ((wrap64 (x1 + 1)) + 1)⟩ : S67)) (wrap64 ((wrap64 ((wrap64 (x1 + 1)) + 1)) + 1)) (wrap64 (x5 + 1))))) else (none)) else (some (x1, x0))
def laws_markClueS.f (k : Nat) (l0 : List (S67)) (a1 : Int) : Option (Int × (List (S67))) := laws_markClueS.l0 k l0 a1 0
set_option maxHeartbeats 8000000 in
set_option maxRecDepth 100000 in
theorem laws_markClueS.calls (k : Nat) (P0_ : Nat → Prop) (u9000_ : Value) (l0 : List (S67)) (a1 : Int) (r1 : Int) (r2 : List (S67)) (w0 w : World) (hB : Below w0.heap.size w0 w) (ho0 : Kd.R k67 67 w w0.heap.size P0_ u9000_ l0) (h : laws_markClueS.f k l0 a1 = some (r1, r2)) :
  Calls Tryz.prog 34 #[u9000_, .int .i64 a1] w fun e w' => e = .returned (.int .i64 r1) ∧ Kd.R k67 67 w' w0.heap.size (fun k_ => (P0_ k_ ∨ w.heap.size ≤ k_)) u9000_ r2 ∧ Below w0.heap.size w0 w' ∧ Kept w w' (fun k_ => P0_ k_) := by
 have HO0 := Aside0.mk (show Kd.R k67 67 w w0.heap.size (fun k_ => (P0_ k_ ∨ w.heap.size ≤ k_)) u9000_ l0 from Kd.R_mono ho0 (fun k_ hk => (.inl hk)))
 have HK := Aside0.mk (Kept.refl w (fun k_ => P0_ k_))
 have HW0 := Aside0.mk hB.size
 have HB := Aside0.mk hB
 clear hB
 have H : (laws_markClueS.l0 k l0 a1 0) = some (r1, r2) := h
 clear h
 have H' := Aside0.mk H
 clear H
 go_enter Tryz.func34, Tryz.ntmps34
 go_wp2
 go_loopg [1, 5] k (fun kq v1 v5 w' => ∃ (x0_1 : List (S67)) (x1_1 : Int) (x5_1 : Int), v1 = .int .i64 x1_1 ∧ v5 = .int .i64 x5_1 ∧ Aside0 (laws_markClueS.l0 kq x0_1 x1_1 x5_1 = some (r1, r2)) ∧ Aside0 (kq ≤ k) ∧ Aside0 (Kd.R k67 67 w' w0.heap.size (fun k_ => (P0_ k_ ∨ w.heap.size ≤ k_)) u9000_ x0_1) ∧ Aside0 (Kept w w' (fun k_ => P0_ k_)) ∧ Aside0 (Below w0.heap.size w0 w'))
 case atStart => exact ⟨(l0), (a1), (0), (by first | rfl | (simp; done) | (simp [*]; done)), (by first | rfl | (simp; done) | (simp [*]; done)), H', ⟨Nat.le_refl _⟩, ⟨zr HO0.out⟩, ⟨by repeat (first | (with_reducible first | exact HK.out | apply Kept.alloc | apply Kept.drewN | apply Kept.drew) | exact HK.out)⟩, ⟨zh HB.out⟩⟩
 case round =>
  clear H'
  try clear p2
  obtain ⟨x0_1, x1_1, x5_1, rfl, rfl, HA, HK1, HO_0, HK, HB⟩ := hrel
  cases gk with
  | zero => exact absurd HA.out (by simp [laws_markClueS.l0])
  | succ k1 =>
   have H := HA.out
   clear HA
   simp only [laws_markClueS.l0] at H
   by_cases c3 : x5_1 < (x0_1.length : Int)
   rotate_left
   ·rw [if_neg c3] at H
    have c3b0 : decide (x5_1 < (x0_1.length : Int)) = false := decide_eq_false c3
    clear c3
    simp only [Option.some.injEq, Prod.mk.injEq] at H
    obtain ⟨rfl, rfl⟩ := H
    obtain ⟨Ao15, co15, eo15⟩ := Kd.R_slice HO_0.out
    subst eo15
    go_wp2
    go_ret
    exact ⟨by first | rfl | (simp [*, errW_none, errW_some] <;> rfl), by (with_reducible repeat (first | apply Kd.R_alloc | apply Kd.R_drewN | apply Kd.R_drew)); exact HO_0.out, by repeat (first | (with_reducible first | exact HB.out | apply below_alloc | apply pw_below_drewN | apply below_drew1) | exact HB.out), by repeat (first | (with_reducible first | exact HK.out | apply Kept.alloc | apply Kept.drewN | apply Kept.drew) | exact HK.out)⟩
   rw [if_pos c3] at H
   have c3b0 : decide (x5_1 < (x0_1.length : Int)) = true := decide_eq_true c3
   clear c3
   by_cases c4 : 0 ≤ x5_1
   rotate_left
   ·rw [if_neg c4] at H
    exact absurd H (by simp)
   rw [if_pos c4] at H
   have c4b0 : decide (0 ≤ x5_1) = true := decide_eq_true c4
   clear c4
   obtain ⟨y383, hy383⟩ : ∃ y_ : List (S67), y_ = (x0_1.set (x5_1 : Int).toNat (⟨x1_1, (rd_T67 x0_1 x5_1).f1, (rd_T67 x0_1 x5_1).f2⟩ : S67)) := ⟨_, rfl⟩
   replace H : ((some (y383.set (x5_1 : Int).toNat (⟨(rd_T67 y383 x5_1).f0, wrap64 (x1_1 + 1), (rd_T67 y383 x5_1).f2⟩ : S67) : List (S67))).bind fun y384 => (laws_markClueS.l0 k1 (y384.set (x5_1 : Int).toNat (⟨(rd_T67 y384 x5_1).f0, (rd_T67 y384 x5_1).f1, wrap64 ((wrap64 (x1_1 + 1)) + 1)⟩ : S67)) (wrap64 ((wrap64 ((wrap64 (x1_1 + 1)) + 1)) + 1)) (wrap64 (x5_1 + 1)))) = some (r1, r2) := by first | (rw [hy383]; with_reducible exact H) | (have H2_ := (Option.bind_some _ _).symm.trans H; rw [hy383]; with_reducible exact H2_) | (have H2_ := (Option.bind_some _ _).symm.trans H; with_reducible exact H2_) | with_reducible exact H | (rw [hy383]; exact H) | exact H
   have Ny383 := Aside0.mk hy383
   clear hy383
   obtain ⟨y384, hy384⟩ : ∃ y_ : List (S67), y_ = (y383.set (x5_1 : Int).toNat (⟨(rd_T67 y383 x5_1).f0, wrap64 (x1_1 + 1), (rd_T67 y383 x5_1).f2⟩ : S67)) := ⟨_, rfl⟩
   replace H : (laws_markClueS.l0 k1 (y384.set (x5_1 : Int).toNat (⟨(rd_T67 y384 x5_1).f0, (rd_T67 y384 x5_1).f1, wrap64 ((wrap64 (x1_1 + 1)) + 1)⟩ : S67)) (wrap64 ((wrap64 ((wrap64 (x1_1 + 1)) + 1)) + 1)) (wrap64 (x5_1 + 1))) = some (r1, r2) := by first | (rw [hy384]; with_reducible exact H) | (have H2_ := (Option.bind_some _ _).symm.trans H; rw [hy384]; with_reducible exact H2_) | (have H2_ := (Option.bind_some _ _).symm.trans H; with_reducible exact H2_) | with_reducible exact H | (rw [hy384]; exact H) | exact H
   have Ny384 := Aside0.mk hy384
   clear hy384
   obtain ⟨y385, hy385⟩ : ∃ y_ : List (S67), y_ = (y384.set (x5_1 : Int).toNat (⟨(rd_T67 y384 x5_1).f0, (rd_T67 y384 x5_1).f1, wrap64 ((wrap64 (x1_1 + 1)) + 1)⟩ : S67)) := ⟨_, rfl⟩
   replace H : (laws_markClueS.l0 k1 y385 (wrap64 ((wrap64 ((wrap64 (x1_1 + 1)) + 1)) + 1)) (wrap64 (x5_1 + 1))) = some (r1, r2) := by first | (rw [hy385]; with_reducible exact H) | (have H2_ := (Option.bind_some _ _).symm.trans H; rw [hy385]; with_reducible exact H2_) | (have H2_ := (Option.bind_some _ _).symm.trans H; with_reducible exact H2_) | with_reducible exact H | (rw [hy385]; exact H) | exact H
   have Ny385 := Aside0.mk hy385
   clear hy385
   have H' := Aside0.mk H
   clear H
   obtain ⟨Ao8, co8, eo8⟩ := Kd.R_slice HO_0.out
   subst eo8
   have p5 : 0 ≤ (x5_1 : Int) := of_decide_eq_true (by first | (with_reducible assumption) | assumption)
   have q5 : (x5_1 : Int) < ((x0_1.length : Int) : Int) := of_decide_eq_true (by first | (with_reducible assumption) | assumption)
   obtain ⟨go5, co5, eo5, gb5, gl5, cl5, HG5⟩ := Kd.R_form HO_0.out (by omega)
   (first | cases eo5 | (injection eo5 with ea_ en_ ec_; (first | subst ea_ | (injection ea_ with ea_; subst ea_)); subst ec_; clear en_))
   have GB5 := Aside0.mk gb5
   have GG5 := Aside0.mk HG5
   clear gb5 gl5 HG5
   have HMgo5 := Aside0.mk (show (P0_ go5 ∨ w.heap.size ≤ go5) from (HO_0.out.1 _ rfl))
   obtain ⟨ce5, hcl5, hM5, hcc5, hfr5⟩ := Kd.R_elem HO_0.out z67 (x5_1 : Int) p5 q5
   obtain rfl := k67_openM hM5
   have hx5_0 : wr.cell? ⟨go5, (x5_1 : Int).toNat * 3, none⟩ = some (.int .i64 ((rd_T67 x0_1 x5_1).f0)) := hcc5 0 _ rfl
   have hx5_1 : wr.cell? ⟨go5, (x5_1 : Int).toNat * 3 + 1, none⟩ = some (.int .i64 ((rd_T67 x0_1 x5_1).f1)) := hcc5 1 _ rfl
   have hx5_2 : wr.cell? ⟨go5, (x5_1 : Int).toNat * 3 + 2, none⟩ = some (.int .i64 ((rd_T67 x0_1 x5_1).f2)) := hcc5 2 _ rfl
   have hf5_0 : wr.frozen? ⟨go5, (x5_1 : Int).toNat * 3, none⟩ = false := hfr5 0
   have hf5_1 : wr.frozen? ⟨go5, (x5_1 : Int).toNat * 3 + 1, none⟩ = false := hfr5 1
   have hf5_2 : wr.frozen? ⟨go5, (x5_1 : Int).toNat * 3 + 2, none⟩ = false := hfr5 2
   (try clear hM5); clear hcl5 hcc5 hfr5
   replace p5 := eq_true p5
   replace q5 := eq_true q5
   have HX9 := Aside0.mk (show Kd.R k67 67 wr w0.heap.size (fun k_ => (P0_ k_ ∨ w.heap.size ≤ k_)) (.slice (some ⟨go5, 0, none⟩) x0_1.length co8) x0_1 from (zr HO_0.out))
   obtain ⟨ce9, hcl9, hM9, hcc9, hfr9⟩ := Kd.R_elem HX9.out z67 (x5_1 : Int) (of_decide_eq_true (by first | (with_reducible assumption) | assumption)) (by have h_ : (x5_1 : Int) < ((x0_1.length : Int) : Int) := of_decide_eq_true (by first | (with_reducible assumption) | assumption); first | exact h_ | (have e_ := (Kd.R_reads' HO_0.out).1; omega) | simpa using h_)
   obtain rfl := k67_openM hM9
   have HP9 := Kd.R_seg HX9.out (x5_1 : Int) (of_decide_eq_true (by first | (with_reducible assumption) | assumption)) (by have h_ : (x5_1 : Int) < ((x0_1.length : Int) : Int) := of_decide_eq_true (by first | (with_reducible assumption) | assumption); first | exact h_ | (have e_ := (Kd.R_reads' HO_0.out).1; omega) | simpa using h_) (seg := [.int .i64 x1_1]) (j := 0) hcl9 hcc9 (show 1 ≤ 3 from by decide) (x' := (⟨x1_1, (rd_T67 x0_1 x5_1).f1, (rd_T67 x0_1 x5_1).f2⟩ : S67)) (k67_mkM _ _ _ (⟨x1_1, (rd_T67 x0_1 x5_1).f1, (rd_T67 x0_1 x5_1).f2⟩ : S67) ) (fun _ hk => hk)
   have hx9_0 := hcc9 0 _ rfl
   (try simp only [show (k67).sz = 3 from rfl, Nat.mul_one, Nat.add_zero] at hx9_0)
   have hf9_0 := hfr9 0
   (try simp only [show (k67).sz = 3 from rfl, Nat.mul_one, Nat.add_zero] at hf9_0)
   (try clear hM9); clear hcl9 hcc9 hfr9
   go_wp2_with (first | ((with_reducible refine gate_store (t := 3) (p := 16) rfl ?_); refine store_event (t := 3) (p := 16) (v := ?vo_w10) (w1 := (wr.setCell ⟨go5, (x5_1 : Int).toNat * 3, none⟩ (.int .i64 x1_1))) ?hg ?ho ?hn ?hr ?_; (case ho => rfl); (case hg => rfl); (case hn => rfl); (case hr => first | (go_simp; done) | (go_simp; rfl)); intro w10 hw; have hg : wr.grownBy w10 (some go5) := (by rw [hw]; exact HP9.2); have hp_ : Kd.R k67 67 w10 w0.heap.size (fun k_ => (P0_ k_ ∨ w.heap.size ≤ k_)) (.slice (some ⟨go5, 0, none⟩) x0_1.length co8) y383 := (by rw [hw, Ny383.out]; exact HP9.1); clear HP9; have n0_ := Aside0.mk (hp_); have n1_ := Aside0.mk ((by rw [hw]; exact below_set (HB.out) GB5.out : Below w0.heap.size w0 w10)); have n2_ := Aside0.mk (Kept.of_grown (S := (fun k_ => P0_ k_)) hg (by repeat (first | (with_reducible first | exact HK.out | apply Kept.alloc | apply Kept.drewN | apply Kept.drew) | exact HK.out)) (fun k_ e_ => (HO_0.out.1 k_ e_))); clear HO_0; clear HB; clear HK; have HO_0 := n0_; have HB := n1_; have HK := n2_; clear n0_ n1_ n2_; clear hg hw hp_; have p6 : 0 ≤ (x5_1 : Int) := of_decide_eq_true (by first | (with_reducible assumption) | assumption); have q6 : (x5_1 : Int) < ((x0_1.length : Int) : Int) := of_decide_eq_true (by first | (with_reducible assumption) | assumption); obtain ⟨ce6, hcl6, hM6, hcc6, hfr6⟩ := Kd.R_elem HO_0.out z67 (x5_1 : Int) p6 q6; obtain rfl := k67_openM hM6; have hx6_0 : w10.cell? ⟨go5, (x5_1 : Int).toNat * 3, none⟩ = some (.int .i64 ((rd_T67 y383 x5_1).f0)) := hcc6 0 _ rfl; have hx6_1 : w10.cell? ⟨go5, (x5_1 : Int).toNat * 3 + 1, none⟩ = some (.int .i64 ((rd_T67 y383 x5_1).f1)) := hcc6 1 _ rfl; have hx6_2 : w10.cell? ⟨go5, (x5_1 : Int).toNat * 3 + 2, none⟩ = some (.int .i64 ((rd_T67 y383 x5_1).f2)) := hcc6 2 _ rfl; have hf6_0 : w10.frozen? ⟨go5, (x5_1 : Int).toNat * 3, none⟩ = false := hfr6 0; have hf6_1 : w10.frozen? ⟨go5, (x5_1 : Int).toNat * 3 + 1, none⟩ = false := hfr6 1; have hf6_2 : w10.frozen? ⟨go5, (x5_1 : Int).toNat * 3 + 2, none⟩ = false := hfr6 2; (try clear hM6); clear hcl6 hcc6 hfr6; replace p6 := eq_true p6; replace q6 := eq_true q6; have HX11 := Aside0.mk (show Kd.R k67 67 w10 w0.heap.size (fun k_ => (P0_ k_ ∨ w.heap.size ≤ k_)) (.slice (some ⟨go5, 0, none⟩) x0_1.length co8) y383 from (zr HO_0.out)); obtain ⟨ce11, hcl11, hM11, hcc11, hfr11⟩ := Kd.R_elem HX11.out z67 (x5_1 : Int) (of_decide_eq_true (by first | (with_reducible assumption) | assumption)) (by have h_ : (x5_1 : Int) < ((x0_1.length : Int) : Int) := of_decide_eq_true (by first | (with_reducible assumption) | assumption); first | exact h_ | (have e_ := (Kd.R_reads' HO_0.out).1; omega) | simpa using h_); obtain rfl := k67_openM hM11; have HP11 := Kd.R_seg HX11.out (x5_1 : Int) (of_decide_eq_true (by first | (with_reducible assumption) | assumption)) (by have h_ : (x5_1 : Int) < ((x0_1.length : Int) : Int) := of_decide_eq_true (by first | (with_reducible assumption) | assumption); first | exact h_ | (have e_ := (Kd.R_reads' HO_0.out).1; omega) | simpa using h_) (seg := [.int .i64 (wrap64 (x1_1 + 1))]) (j := 1) hcl11 hcc11 (show 2 ≤ 3 from by decide) (x' := (⟨(rd_T67 y383 x5_1).f0, wrap64 (x1_1 + 1), (rd_T67 y383 x5_1).f2⟩ : S67)) (k67_mkM _ _ _ (⟨(rd_T67 y383 x5_1).f0, wrap64 (x1_1 + 1), (rd_T67 y383 x5_1).f2⟩ : S67) ) (fun _ hk => hk); have hx11_1 := hcc11 1 _ rfl; (try simp only [show (k67).sz = 3 from rfl, Nat.mul_one, Nat.add_zero] at hx11_1); have hf11_1 := hfr11 1; (try simp only [show (k67).sz = 3 from rfl, Nat.mul_one, Nat.add_zero] at hf11_1); (try clear hM11); clear hcl11 hcc11 hfr11) | ((with_reducible refine gate_store (t := 3) (p := 23) rfl ?_); refine store_event (t := 3) (p := 23) (v := ?vo_w12) (w1 := (w10.setCell ⟨go5, (x5_1 : Int).toNat * 3 + 1, none⟩ (.int .i64 (wrap64 (x1_1 + 1))))) ?hg ?ho ?hn ?hr ?_; (case ho => rfl); (case hg => rfl); (case hn => rfl); (case hr => first | (go_simp; done) | (go_simp; rfl)); intro w12 hw; have hg : w10.grownBy w12 (some go5) := (by rw [hw]; exact HP11.2); have hp_ : Kd.R k67 67 w12 w0.heap.size (fun k_ => (P0_ k_ ∨ w.heap.size ≤ k_)) (.slice (some ⟨go5, 0, none⟩) x0_1.length co8) y384 := (by rw [hw, Ny384.out]; exact HP11.1); clear HP11; have n0_ := Aside0.mk (hp_); have n1_ := Aside0.mk ((by rw [hw]; exact below_set (HB.out) GB5.out : Below w0.heap.size w0 w12)); have n2_ := Aside0.mk (Kept.of_grown (S := (fun k_ => P0_ k_)) hg (by repeat (first | (with_reducible first | exact HK.out | apply Kept.alloc | apply Kept.drewN | apply Kept.drew) | exact HK.out)) (fun k_ e_ => (HO_0.out.1 k_ e_))); clear HO_0; clear HB; clear HK; have HO_0 := n0_; have HB := n1_; have HK := n2_; clear n0_ n1_ n2_; clear hg hw hp_; have p7 : 0 ≤ (x5_1 : Int) := of_decide_eq_true (by first | (with_reducible assumption) | assumption); have q7 : (x5_1 : Int) < ((x0_1.length : Int) : Int) := of_decide_eq_true (by first | (with_reducible assumption) | assumption); obtain ⟨ce7, hcl7, hM7, hcc7, hfr7⟩ := Kd.R_elem HO_0.out z67 (x5_1 : Int) p7 q7; obtain rfl := k67_openM hM7; have hx7_0 : w12.cell? ⟨go5, (x5_1 : Int).toNat * 3, none⟩ = some (.int .i64 ((rd_T67 y384 x5_1).f0)) := hcc7 0 _ rfl; have hx7_1 : w12.cell? ⟨go5, (x5_1 : Int).toNat * 3 + 1, none⟩ = some (.int .i64 ((rd_T67 y384 x5_1).f1)) := hcc7 1 _ rfl; have hx7_2 : w12.cell? ⟨go5, (x5_1 : Int).toNat * 3 + 2, none⟩ = some (.int .i64 ((rd_T67 y384 x5_1).f2)) := hcc7 2 _ rfl; have hf7_0 : w12.frozen? ⟨go5, (x5_1 : Int).toNat * 3, none⟩ = false := hfr7 0; have hf7_1 : w12.frozen? ⟨go5, (x5_1 : Int).toNat * 3 + 1, none⟩ = false := hfr7 1; have hf7_2 : w12.frozen? ⟨go5, (x5_1 : Int).toNat * 3 + 2, none⟩ = false := hfr7 2; (try clear hM7); clear hcl7 hcc7 hfr7; replace p7 := eq_true p7; replace q7 := eq_true q7; have HX13 := Aside0.mk (show Kd.R k67 67 w12 w0.heap.size (fun k_ => (P0_ k_ ∨ w.heap.size ≤ k_)) (.slice (some ⟨go5, 0, none⟩) x0_1.length co8) y384 from (zr HO_0.out)); obtain ⟨ce13, hcl13, hM13, hcc13, hfr13⟩ := Kd.R_elem HX13.out z67 (x5_1 : Int) (of_decide_eq_true (by first | (with_reducible assumption) | assumption)) (by have h_ : (x5_1 : Int) < ((x0_1.length : Int) : Int) := of_decide_eq_true (by first | (with_reducible assumption) | assumption); first | exact h_ | (have e_ := (Kd.R_reads' HO_0.out).1; omega) | simpa using h_); obtain rfl := k67_openM hM13; have HP13 := Kd.R_seg HX13.out (x5_1 : Int) (of_decide_eq_true (by first | (with_reducible assumption) | assumption)) (by have h_ : (x5_1 : Int) < ((x0_1.length : Int) : Int) := of_decide_eq_true (by first | (with_reducible assumption) | assumption); first | exact h_ | (have e_ := (Kd.R_reads' HO_0.out).1; omega) | simpa using h_) (seg := [.int .i64 (wrap64 ((wrap64 (x1_1 + 1)) + 1))]) (j := 2) hcl13 hcc13 (show 3 ≤ 3 from by decide) (x' := (⟨(rd_T67 y384 x5_1).f0, (rd_T67 y384 x5_1).f1, wrap64 ((wrap64 (x1_1 + 1)) + 1)⟩ : S67)) (k67_mkM _ _ _ (⟨(rd_T67 y384 x5_1).f0, (rd_T67 y384 x5_1).f1, wrap64 ((wrap64 (x1_1 + 1)) + 1)⟩ : S67) ) (fun _ hk => hk); have hx13_2 := hcc13 2 _ rfl; (try simp only [show (k67).sz = 3 from rfl, Nat.mul_one, Nat.add_zero] at hx13_2); have hf13_2 := hfr13 2; (try simp only [show (k67).sz = 3 from rfl, Nat.mul_one, Nat.add_zero] at hf13_2); (try clear hM13); clear hcl13 hcc13 hfr13) | ((with_reducible refine gate_store (t := 3) (p := 30) rfl ?_); refine store_event (t := 3) (p := 30) (v := ?vo_w14) (w1 := (w12.setCell ⟨go5, (x5_1 : Int).toNat * 3 + 2, none⟩ (.int .i64 (wrap64 ((wrap64 (x1_1 + 1)) + 1))))) ?hg ?ho ?hn ?hr ?_; (case ho => rfl); (case hg => rfl); (case hn => rfl); (case hr => first | (go_simp; done) | (go_simp; rfl)); intro w14 hw; have hg : w12.grownBy w14 (some go5) := (by rw [hw]; exact HP13.2); have hp_ : Kd.R k67 67 w14 w0.heap.size (fun k_ => (P0_ k_ ∨ w.heap.size ≤ k_)) (.slice (some ⟨go5, 0, none⟩) x0_1.length co8) y385 := (by rw [hw, Ny385.out]; exact HP13.1); clear HP13; have n0_ := Aside0.mk (hp_); have n1_ := Aside0.mk ((by rw [hw]; exact below_set (HB.out) GB5.out : Below w0.heap.size w0 w14)); have n2_ := Aside0.mk (Kept.of_grown (S := (fun k_ => P0_ k_)) hg (by repeat (first | (with_reducible first | exact HK.out | apply Kept.alloc | apply Kept.drewN | apply Kept.drew) | exact HK.out)) (fun k_ e_ => (HO_0.out.1 k_ e_))); clear HO_0; clear HB; clear HK; have HO_0 := n0_; have HB := n1_; have HK := n2_; clear n0_ n1_ n2_; clear hg hw hp_))
   go_roundg k1
   case measure => have := HK1.out; omega
   case rel => exact ⟨(y385), (wrap64 ((wrap64 ((wrap64 (x1_1 + 1)) + 1)) + 1)), (wrap64 (x5_1 + 1)), (by first | rfl | (simp; done) | (simp [*]; done)), (by first | rfl | (simp; done) | (simp [*]; done)), H', ⟨by have := HK1.out; omega⟩, ⟨zr HO_0.out⟩, ⟨by repeat (first | (with_reducible first | exact HK.out | apply Kept.alloc | apply Kept.drewN | apply Kept.drew) | exact HK.out)⟩, ⟨zh HB.out⟩⟩
def laws_markPuzzle.f (k : Nat) (a0_0 : Int) (l0_1 : List (S67)) (a1 : Int) : Option (Int × (List (S67))) := (laws_markClueS.f k l0_1 a1).bind fun bt387 => (some (bt387.1, bt387.2))
set_option maxHeartbeats 8000000 in
set_option maxRecDepth 100000 in
theorem laws_markPuzzle.calls (k : Nat) (a0_0 : Int) (P0_1_ : Nat → Prop) (u9000_ : Value) (l0_1 : List (S67)) (a1 : Int) (r1 : Int) (r2 : List (S67)) (w0 w : World) (hB : Below w0.heap.size w0 w) (ho0_1 : Kd.R k67 67 w w0.heap.size P0_1_ u9000_ l0_1) (h : laws_markPuzzle.f k a0_0 l0_1 a1 = some (r1, r2)) :
  Calls Tryz.prog 13 #[.agg #[.int .i64 a0_0, u9000_], .int .i64 a1] w fun e w' => e = .returned (.int .i64 r1) ∧ Kd.R k67 67 w' w0.heap.size (fun k_ => (P0_1_ k_ ∨ w.heap.size ≤ k_)) u9000_ r2 ∧ Below w0.heap.size w0 w' ∧ Kept w w' (fun k_ => P0_1_ k_) := by
 have hu33 := Tryz.underlying33
 have HO0_1 := Aside0.mk (show Kd.R k67 67 w w0.heap.size (fun k_ => (P0_1_ k_ ∨ w.heap.size ≤ k_)) u9000_ l0_1 from Kd.R_mono ho0_1 (fun k_ hk => (.inl hk)))
 have HK := Aside0.mk (Kept.refl w (fun k_ => P0_1_ k_))
 have HW0 := Aside0.mk hB.size
 have HB := Aside0.mk hB
 clear hB
 have H : ((laws_markClueS.f k l0_1 a1).bind fun bt387 => (some (bt387.1, bt387.2))) = some (r1, r2) := h
 clear h
 replace H := Option.bind_eq_some_iff.mp H
 obtain ⟨⟨t387, t388⟩, A30, H⟩ := H
 replace H : (some (t387, t388)) = some (r1, r2) := H
 have A3 := Aside0.mk A30
 clear A30
 simp only [Option.some.injEq, Prod.mk.injEq] at H
 obtain ⟨rfl, rfl⟩ := H
 obtain ⟨Ao4, co4, eo4⟩ := Kd.R_slice HO0_1.out
 subst eo4
 go_enter Tryz.func13, Tryz.ntmps13
 go_wp2_with (first | ((with_reducible refine gate_dst (N := 2) rfl ?_); refine box_event ?hg (N := 2) ?hd (cs := #[.int .i64 a0_0, .slice Ao4 l0_1.length co4]) (t := 33) ?hr ?_; (case hd => rfl); (case hg => rfl); (case hr => first | (go_simp; done) | (go_simp; rfl)); intro gb386 hg w5 hbox hb; have n0_ := Aside0.mk (Kd.R_below (zr HO0_1.out) hb); have n1_ := Aside0.mk (Kept.below (S := (fun k_ => P0_1_ k_)) (by repeat (first | (with_reducible first | exact HK.out | apply Kept.alloc | apply Kept.drewN | apply Kept.drew) | exact HK.out)) hb); have n2_ := Aside0.mk (below_step (zh HB.out) hb); have n3_ := Aside0.mk (hbox); have n4_ := Aside0.mk ((by rw [hg]; exact (by first | exact HK.out.1 | exact (show Kept w _ (fun k_ => P0_1_ k_) from by repeat (first | (with_reducible first | exact HK.out | apply Kept.alloc | apply Kept.drewN | apply Kept.drew) | exact HK.out)).1) : w.heap.size ≤ gb386)); have n5_ := Aside0.mk ((by rw [hg]; exact (below_size (zh HB.out)) : w0.heap.size ≤ gb386)); clear HO0_1; clear HK; clear HB; have HO0_1 := n0_; have HK := n1_; have HB := n2_; have BK386 := n3_; have GW386 := n4_; have GE386 := n5_; clear n0_ n1_ n2_ n3_ n4_ n5_; clear hb hbox hg; have hcz6_0 : w5.cell? ⟨gb386, 0, none⟩ = some (.int .i64 a0_0) := (blk_cell BK386.out 0).trans rfl; have hcz6_1 : w5.cell? ⟨gb386, 1, none⟩ = some (.slice Ao4 l0_1.length co4) := (blk_cell BK386.out 1).trans rfl; have hfz6_0 := blk_frozen BK386.out 0; have hfz6_1 := blk_frozen BK386.out 1) | ((with_reducible refine gate_callee (f := 34) rfl ?_); refine goesL_ (some 8) rfl rfl Tryz.func34 (by kernel_rfl) rfl #[.slice Ao4 l0_1.length co4, .int .i64 a1] rfl (by (try simp only [List.map_toArray, List.map_cons, List.map_nil]); first | done | rfl | (simp only [List.length_drop, List.length_take]; rfl)) ?_; (with_reducible refine (laws_markClueS.calls k (fun k_ => some k_ = (.slice Ao4 l0_1.length co4 : Value).ownBlock) (.slice Ao4 l0_1.length co4) l0_1 a1 t387 t388 w0 _ ?side1 ?side2 A3.out).mono ?_); (case side1 => repeat (first | (with_reducible first | exact HB.out | apply below_alloc | apply pw_below_drewN | apply below_drew1 | refine below_set ?_ GE386.out) | exact HB.out)); (case side2 => exact Kd.R_tight rfl HO0_1.out); rintro e w7 ⟨rfl, hy0, hb, hkp⟩; refine ⟨_, rfl, ?_⟩; have n0_ := Aside0.mk (Kd.R_reok rfl hy0 (fun k_ e_ => HO0_1.out.1 k_ e_)); have n1_ := Aside0.mk (blk_kept (zb BK386.out) hkp (fun hs_ => (fun e_ => (Kd.R_ne HO0_1.out BK386.out (by decide)) e_) hs_)); have n2_ := Aside0.mk (Kept.then_ (S := (fun k_ => P0_1_ k_)) (by repeat (first | (with_reducible first | exact HK.out | apply Kept.alloc | apply Kept.drewN | apply Kept.drew | refine Kept.setCell ?_ (.inr GW386.out) _) | exact HK.out)) hkp (fun k_ hs_ => (fun e_ => (HO0_1.out.1 k_ e_.symm)) hs_)); have n3_ := Aside0.mk (hb); clear HO0_1; clear BK386; clear HK; clear HB; have HO0_1 := n0_; have BK386 := n1_; have HK := n2_; have HB := n3_; clear n0_ n1_ n2_ n3_; (try clear hb); (try clear hkp); (try clear hy0)))
 go_ret
 exact ⟨by first | rfl | (simp [*, errW_none, errW_some] <;> rfl), by (with_reducible repeat (first | apply Kd.R_alloc | apply Kd.R_drewN | apply Kd.R_drew)); exact HO0_1.out, by repeat (first | (with_reducible first | exact HB.out | apply below_alloc | apply pw_below_drewN | apply below_drew1 | refine below_set ?_ GE386.out) | exact HB.out), by repeat (first | (with_reducible first | exact HK.out | apply Kept.alloc | apply Kept.drewN | apply Kept.drew | refine Kept.setCell ?_ (.inr GW386.out) _) | exact HK.out)⟩
end Go.Proofs.YtgfdfabeninfeaaGreat.Q
end

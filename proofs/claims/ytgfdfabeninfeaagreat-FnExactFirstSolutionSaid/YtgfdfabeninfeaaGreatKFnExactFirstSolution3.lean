/- Part 3 of the proof of FnExactFirstSolution: what it leans on (no condition). -/
import Derived.Test.YtgfdfabeninfeaaGreatKFnExactFirstSolution2
import Derived.Shelf.GgClosure.Gives
import Derived.Shelf.SlSortCmp.NoneTotal
section
namespace Go.Proofs.YtgfdfabeninfeaaGreat.Q
open Go.RowKit Go.Proofs.YtgfdfabeninfeaaGreatW.PrintWords Go.Proofs.YtgfdfabeninfeaaGreatW.PrintLast Go.Proofs.YtgfdfabeninfeaaGreatW.PrintMore
set_option linter.unusedVariables false
set_option linter.unusedSimpArgs false
set_option maxHeartbeats 2000000 in
theorem indexFunc_clue (p : S67 → Option Bool) (g : Nat) (lb : Array Value) (eg : ∀ args w, (callFunc g args).run Tryz.prog w = .ok (.enter g args) w)
    (A0 : Option Addr) (c0 : Nat) (l0 : List S67) (r : Int) (w : World) (hr0 : Kd.C k67 w A0 l0.length l0) (hc0 : l0.length ≤ c0)
    (hp : PredK Tryz.prog g lb k67 (fun c => .agg c.toArray) w p) (h : idxO p l0 0 = some r) :
    Calls Tryz.prog 79 #[.slice A0 l0.length c0, .func (.func g) #[] lb] w fun e w' => e = .returned (.int .i64 r) ∧ Below w.heap.size w w' := by
  have hlen := hr0.2.1
  have HR0 := Aside0.mk hr0
  clear hr0
  have HP := Aside0.mk hp
  clear hp
  have H0 := Aside0.mk h
  clear h
  go_enter Tryz.func79, Tryz.ntmps79
  go_wp2
  go_loopg [5, 8] l0.length (fun gg _ s8 wr => ∃ kk : Nat, kk ≤ l0.length ∧ l0.length - kk ≤ gg ∧ s8 = .int .i64 kk ∧ Aside0 (Below w.heap.size w wr) ∧ Aside0 (idxO p (l0.drop kk) kk = some r))
  case atStart => exact ⟨0, Nat.zero_le _, by omega, rfl, ⟨Below.refl _ w⟩, H0⟩
  case round =>
    obtain ⟨kk, hkk, hg, rfl, BW, A⟩ := hrel
    by_cases hlt : kk < l0.length
    · have hltz : (kk : Int) < (l0.length : Int) := by omega
      obtain ⟨ad, e, x0, x1, x2⟩ := at_T67 HR0.out (kk : Int) (by omega) hltz
      subst e
      replace x0 := (BW.out.cell (World.block_lt_of_cell? w _ x0)).trans x0
      replace x1 := (BW.out.cell (World.block_lt_of_cell? w _ x1)).trans x1
      replace x2 := (BW.out.cell (World.block_lt_of_cell? w _ x2)).trans x2
      rw [Int.toNat_natCast] at x0 x1 x2
      obtain ⟨b, hb, h1, h2⟩ := idxO_step A.out (show l0[kk]? = some (rd_T67 l0 (kk : Int)) by unfold rd_T67; rw [Int.toNat_natCast, List.getD_eq_getElem?_getD, List.getElem?_eq_getElem hlt]; rfl)
      have hcall := HP.out wr _ _ b BW.out (k67_mk w _) hb
      generalize rd_T67 l0 (kk : Int) = y at x0 x1 x2 hcall hb
      have B := Aside0.mk hb
      clear hb
      cases b with
      | true =>
        have E := Aside0.mk (h1 rfl)
        clear h1 h2
        go_wp2_with (go_at_fn g; refine hcall.mono ?_; rintro e w' ⟨rfl, hb'⟩)
        go_ret
        exact ⟨ret_i E.out.symm, hb'⟩
      | false =>
        have E := Aside0.mk (h2 rfl)
        clear h1 h2
        go_wp2_with (go_at_fn g; refine hcall.mono ?_; rintro e w' ⟨rfl, hb'⟩)
        go_roundg (l0.length - (kk + 1))
        case measure => omega
        case rel => exact ⟨kk + 1, by omega, by omega, by go_num, ⟨hb'⟩, E⟩
    · have hltz : ¬ (kk : Int) < (l0.length : Int) := by omega
      have : kk = l0.length := by omega
      subst this
      go_wp2
      go_ret
      refine ⟨?_, BW.out⟩
      have h3 := A.out
      rw [List.drop_length] at h3
      have h4 : (-1 : Int) = r := by simpa [idxO] using h3
      exact ret_i h4
set_option maxHeartbeats 1000000 in
theorem containsFunc_clue (p : S67 → Option Bool) (g : Nat) (lb : Array Value) (eg : ∀ args w, (callFunc g args).run Tryz.prog w = .ok (.enter g args) w)
    (A0 : Option Addr) (c0 : Nat) (l0 : List S67) (r : Bool) (w : World) (hr0 : Kd.C k67 w A0 l0.length l0) (hc0 : l0.length ≤ c0)
    (hp : PredK Tryz.prog g lb k67 (fun c => .agg c.toArray) w p) (h : anyO p l0 = some r) :
    Calls Tryz.prog 55 #[.slice A0 l0.length c0, .func (.func g) #[] lb] w fun e w' => e = .returned (.bool r) ∧ Below w.heap.size w w' := by
  obtain ⟨i, hi, rfl⟩ := anyO_idxO p l0 0 r h
  have hcon := indexFunc_clue p g lb eg A0 c0 l0 i w hr0 hc0 hp hi
  clear hr0 hp h hi
  go_enter Tryz.func55, Tryz.ntmps55
  go_wp2_with (go_at_call 79; refine hcon.mono ?_; rintro e w' ⟨rfl, hb'⟩)
  go_ret
  exact ⟨rfl, hb'⟩
def impl_IsPuzzle_1.f (m : Int) (x : S67) : Option Bool := (impl_IsClue.f m x.f0 x.f1 x.f2).bind fun b => some (!b)
set_option maxHeartbeats 1000000 in
theorem impl_IsPuzzle_1.pred (m : Int) (v : Value) (b1 : Nat) (w : World) (h1 : w.cell? ⟨b1, 0, none⟩ = some (.int .i64 m)) :
    PredK Tryz.prog 56 #[.pointer (some ⟨b1, 0, none⟩)] k67 (fun c => .agg c.toArray) w (impl_IsPuzzle_1.f m) := by
  intro W x c b hb hK hp
  obtain rfl := k67_open hK
  show Calls Tryz.prog 56 #[.agg #[.int .i64 x.f0, .int .i64 x.f1, .int .i64 x.f2], .pointer (some ⟨b1, 0, none⟩)] W _
  have q1 := (hb.cell (World.block_lt_of_cell? w _ h1)).trans h1
  have q2 := Nat.lt_of_lt_of_le (World.block_lt_of_cell? w _ h1) hb.size
  obtain ⟨t, ht, hr⟩ := Option.bind_eq_some_iff.mp hp
  have hr' : (!t) = b := Option.some.inj hr
  have hB := Aside0.mk hb
  have hT := Aside0.mk ht
  have hE := Aside0.mk hr'
  have q3 : W.heap.size ≠ b1 := by have : b1 < W.heap.size := q2; omega
  have q4 : b1 ≠ W.heap.size := fun h => q3 h.symm
  clear h1 hb hK hp hr hr' ht
  go_enter Tryz.func56, Tryz.ntmps56
  go_wp2_with (go_at_call 57; refine (impl_IsClue.calls _ _ _ _ _ _ hT.out).mono ?_; rintro e w' ⟨rfl, hb'⟩)
  go_ret
  exact ⟨ret_b hE.out, hB.out.trans (((Below.refl W.heap.size W).alloc (Nat.le_refl _) _).trans (hb'.mono (by simp)) |>.mono hB.out.size)⟩
def impl_IsPuzzle.f (a0_0 : Int) (l0_1 : List S67) : Option Bool :=
  (impl_isHidden.f a0_0).bind fun t => if t = true then (if (l0_1.length : Int) ≤ 8 then (anyO (impl_IsPuzzle_1.f a0_0) l0_1).bind fun b => some (!b) else some false) else some false
set_option maxHeartbeats 2000000 in
theorem impl_IsPuzzle.calls (a0_0 : Int) (A0_1 : Option Addr) (c0_1 : Nat) (l0_1 : List S67) (r : Bool) (w : World) (hr0_1 : Kd.C k67 w A0_1 l0_1.length l0_1) (hc0_1 : l0_1.length ≤ c0_1) (h : impl_IsPuzzle.f a0_0 l0_1 = some r) :
    Calls Tryz.prog 35 #[.agg #[.int .i64 a0_0, .slice A0_1 l0_1.length c0_1]] w fun e w' => e = .returned (.bool r) ∧ Below w.heap.size w w' := by
  have eg : ∀ args w, (callFunc 56 args).run Tryz.prog w = .ok (.enter 56 args) w := enters_of Tryz.func56 (by kernel_rfl) rfl
  obtain ⟨t, ht, h⟩ := Option.bind_eq_some_iff.mp h
  have hT := Aside0.mk ht
  have HR := Aside0.mk hr0_1
  clear ht hr0_1
  cases t with
  | false =>
    rw [if_neg (by simp)] at h
    obtain rfl := Option.some.inj h
    go_enter Tryz.func35, Tryz.ntmps35
    go_wp2_with (go_at_call 54; refine (impl_isHidden.calls _ _ _ hT.out).mono ?_; rintro e w' ⟨rfl, nd, rfl⟩)
    go_ret
    exact ⟨rfl, pw_below_drewN ((Below.refl _ w).alloc (Nat.le_refl _) _) _⟩
  | true =>
    rw [if_pos rfl] at h
    by_cases hl : l0_1.length ≤ 8
    · rw [if_pos (by omega)] at h
      obtain ⟨b, hb, h⟩ := Option.bind_eq_some_iff.mp h
      obtain rfl := Option.some.inj h
      have hBB := Aside0.mk hb
      clear hb h
      have hl2 : (l0_1.length : Int) ≤ 8 := by omega
      go_enter Tryz.func35, Tryz.ntmps35
      go_wp2_with (go_at_call 54; refine (impl_isHidden.calls _ _ _ hT.out).mono ?_; rintro e w' ⟨rfl, nd, rfl⟩)
      refine (containsFunc_clue (impl_IsPuzzle_1.f a0_0) 56 #[.pointer (some ⟨w.heap.size, 0, none⟩)] eg A0_1 c0_1 l0_1 b _ ?_ hc0_1 ?_ hBB.out).mono ?_
      · exact Kd.C_below HR.out (pw_below_drewN ((Below.refl _ w).alloc (Nat.le_refl _) _) _)
      · exact impl_IsPuzzle_1.pred a0_0 undef _ _ (by go_simp)
      · rintro e w' ⟨rfl, hb⟩
        go_wp2
        go_ret
        exact ⟨rfl, (pw_below_drewN ((Below.refl _ w).alloc (Nat.le_refl _) _) nd).trans (hb.mono (by simp))⟩
    · rw [if_neg (by omega)] at h
      obtain rfl := Option.some.inj h
      have hl2 : ¬ (l0_1.length : Int) ≤ 8 := by omega
      go_enter Tryz.func35, Tryz.ntmps35
      go_wp2_with (go_at_call 54; refine (impl_isHidden.calls _ _ _ hT.out).mono ?_; rintro e w' ⟨rfl, nd, rfl⟩)
      go_ret
      exact ⟨rfl, pw_below_drewN ((Below.refl _ w).alloc (Nat.le_refl _) _) _⟩
section
variable {P : Program} {ops : Array Oper} {Q : Exit → Act → World → Prop}
theorem goesF_ {oi : Oper} {N : Option Tmp} {a : Act} {w : World} {K : Act → World → Prop} {g : Nat} {fa lb : Array Value} {c : Operand} {os : Array Operand} {ts : Array TypeId} (eg : ∀ args w, (callFunc g args).run P w = .ok (.enter g args) w) (hc : a.eval c = .func (.func g) fa lb) (args : Array Value)
    (hw : Region.wanted oi (yielded ops a.tmps) = true) (hN : oi.dst = N) (hop : oi.op = .call { callee := .value c, args := os, argTypes := ts }) (hargs : os.map a.eval = args)
    (h : Calls P g (fa ++ args ++ lb) w fun e w' => ∃ v, e = .returned v ∧ K (a.put N v) w') : if Region.wanted oi (yielded ops a.tmps) = true then Oper.wp P oi a w K Q else K (a.put N undef) w := by
  refine call_ g (fa ++ args ++ lb) hw hN ?_ h
  have he := eg (fa ++ args ++ lb) w
  have he2 := he
  rw [Array.append_assoc] at he2
  unfold execOp
  simp [hop, resolve, Deferred.ofValue, invoke, hc, hargs, he, he2]
theorem goesLF_ {rest : List Oper} {oi : Oper} {a : Act} {w : World} (N : Option Tmp) (hd : oi.dst = N) (hg : oi.guard = none) {g : Nat} {fa lb : Array Value} {c : Operand} {os : Array Operand} {ts : Array TypeId} (eg : ∀ args w, (callFunc g args).run P w = .ok (.enter g args) w) (hc : a.eval c = .func (.func g) fa lb) (args : Array Value)
    (hop : oi.op = .call { callee := .value c, args := os, argTypes := ts }) (hargs : os.map a.eval = args)
    (h : Calls P g (fa ++ args ++ lb) w fun e w' => ∃ v, e = .returned v ∧ wpList P ops Q rest (a.put N v) w') : wpList P ops Q (oi :: rest) a w := by
  refine wpList_plain hg fun K hK => ?_
  have he := eg (fa ++ args ++ lb) w
  have he2 := he
  rw [Array.append_assoc] at he2
  have hrun : (execOp a.eval oi).run P w = .ok (.enter g (fa ++ args ++ lb)) w := by
    unfold execOp
    simp [hop, resolve, Deferred.ofValue, invoke, hc, hargs, he, he2]
  unfold Oper.wp
  rw [hrun, Oper.upon_enter]
  refine h.mono fun e w'' hh => ?_
  obtain ⟨v, rfl, hk⟩ := hh
  subst hd
  exact hK _ _ hk
end
@[reducible] def PredI (P : Program) (g : Nat) (fa lb : Array Value) (w : World) (p : Int → Option Bool) : Prop :=
  ∀ (W : World) (x : Int) (b : Bool), Below w.heap.size w W → p x = some b → Calls P g (fa ++ #[.int .i64 x] ++ lb) W fun e w' => e = .returned (.bool b) ∧ Below W.heap.size W w'
end Go.Proofs.YtgfdfabeninfeaaGreat.Q
end
section
namespace Go.Proofs.YtgfdfabeninfeaaGreat.Q
open Go.RowKit Go.Proofs.YtgfdfabeninfeaaGreatW.PrintWords Go.Proofs.YtgfdfabeninfeaaGreatW.PrintLast Go.Proofs.YtgfdfabeninfeaaGreatW.PrintMore
attribute [local go_sem] max2_int min2_int max_two min_two max_three min_three max_four min_four
set_option linter.unusedVariables false
set_option linter.unusedSimpArgs false
def impl_votes_all.f (a0_0 : Int) (l0_1 : List Bool) : Option (Int) := if 0 ≤ a0_0 then (some (wrap64 ((shl .i64 1 a0_0) - 1))) else (none)
set_option maxHeartbeats 8000000 in
set_option maxRecDepth 100000 in
theorem impl_votes_all.calls (a0_0 : Int) (A0_1 : Option Addr) (c0_1 : Nat) (l0_1 : List Bool) (r : Int) (w : World) (hr0_1 : Kd.C Kd.bool w A0_1 l0_1.length l0_1) (hc0_1 : l0_1.length ≤ c0_1) (h : impl_votes_all.f a0_0 l0_1 = some r) :
  Calls Tryz.prog 85 #[.agg #[.int .i64 a0_0, .slice A0_1 l0_1.length c0_1]] w fun e w' => e = .returned (.int .i64 r) ∧ Below w.heap.size w w' := by
 have hu81 := Tryz.underlying81
 have HR0_1 := Aside0.mk hr0_1
 have HC0_1 := Aside0.mk hc0_1
 clear hr0_1 hc0_1
 have HB := Aside0.mk (Below.refl w.heap.size w)
 have H : (if 0 ≤ a0_0 then (some (wrap64 ((shl .i64 1 a0_0) - 1))) else (none)) = some r := h
 clear h
 by_cases c2 : 0 ≤ a0_0
 rotate_left
 ·rw [if_neg c2] at H
  exact absurd H (by simp)
 rw [if_pos c2] at H
 have c2b0 := eq_true c2
 have c2b1 : decide (0 ≤ a0_0) = true := decide_eq_true c2
 clear c2
 obtain ⟨ji3, hji3⟩ : ∃ j_ : Int, (shl .i64 1 a0_0) = j_ := ⟨_, rfl⟩
 replace H : (some (wrap64 ((ji3) - 1))) = some r := by first | (rw [hji3] at H; exact H) | (simp only [hji3] at H ⊢; exact H)
 have hji3_ : (IntKind.i64.wrap (1 * 2 ^ min a0_0.toNat 64)) = ji3 := hji3
 have hji3z : a0_0 ≤ 64 → (IntKind.i64.wrap (1 * 2 ^ a0_0.toNat)) = ji3 := shl_small hji3
 have hji3u : (IntKind.i64.wrap (2 ^ min a0_0.toNat 64)) = ji3 := by have h_ := hji3_; rw [Int.one_mul] at h_; exact h_
 have hji3v : a0_0 ≤ 64 → (IntKind.i64.wrap (2 ^ a0_0.toNat)) = ji3 := fun hle_ => by have h_ := hji3z hle_; rw [Int.one_mul] at h_; exact h_
 have hji3y : (wrap64 (1 * 2 ^ min a0_0.toNat 64)) = ji3 := (i64_w _).symm.trans hji3_
 have hji3x : a0_0 ≤ 64 → (wrap64 (1 * 2 ^ a0_0.toNat)) = ji3 := fun h_ => (i64_w _).symm.trans (hji3z h_)
 obtain rfl := Option.some.inj H
 go_enter Tryz.func85, Tryz.ntmps85
 go_wp2_with (first | ((with_reducible refine gate_dst (N := 1) rfl ?_); refine box_event ?hg (N := 1) ?hd (cs := #[.int .i64 a0_0, .slice A0_1 l0_1.length c0_1]) (t := 81) ?hr ?_; (case hd => rfl); (case hg => rfl); (case hr => first | (go_simp; done) | (go_simp; rfl)); intro gb234 hg w4 hbox hb; have n2_ := Aside0.mk ((by rw [hg]; exact (below_size (zh HB.out)) : w.heap.size ≤ gb234)); replace HB := Aside0.mk (below_step (zh HB.out) hb); have BK234 := Aside0.mk hbox; have GW234 := n2_; have GE234 := n2_; clear n2_ hb hbox hg; have hcz5_0 : w4.cell? ⟨gb234, 0, none⟩ = some (.int .i64 a0_0) := (blk_cell BK234.out 0).trans rfl; have hcz5_1 : w4.cell? ⟨gb234, 1, none⟩ = some (.slice A0_1 l0_1.length c0_1) := (blk_cell BK234.out 1).trans rfl; have hfz5_0 := blk_frozen BK234.out 0; have hfz5_1 := blk_frozen BK234.out 1))
 go_ret
 exact ⟨by first | rfl | (simp [errW_none, errW_some] <;> rfl) | (simp only [← hji3]; first | rfl | (simp [errW_none, errW_some] <;> rfl)) | (simp [*, errW_none, errW_some] <;> rfl), zh HB.out⟩
def impl_setOf.l0 : Nat → Int → List Int → Int → Option (List Int)
 | 0, _, _, _ => none
 | k + 1, x0, x3, x4 => if 0 ≤ x4 then (if (shr .i64 x0 x4) > 0 then (if (Go.bits .and .i64 (shr .i64 x0 x4) 1) = 1 then (if x3.length < 17592186044416 then (impl_setOf.l0 k x0 (x3 ++ [x4]) (wrap64 (x4 + 1))) else (none)) else (impl_setOf.l0 k x0 x3 (wrap64 (x4 + 1)))) else (some x3)) else (none)
def impl_setOf.f (k : Nat) (a0 : Int) : Option (List Int) := impl_setOf.l0 k a0 (([] : List Int)) 0
theorem impl_setOf.mono_l : ∀ k, (∀ y0 y1 y2, LeO (impl_setOf.l0 k y0 y1 y2) (impl_setOf.l0 (k + 1) y0 y1 y2))
 | 0 => fun _ _ _ r h => by simp [impl_setOf.l0] at h
 | k + 1 => by
  have ih0 := impl_setOf.mono_l k
  ·intro y0 y1 y2
   unfold impl_setOf.l0
   repeat' first
   | (with_reducible exact ih0 _ _ _)
   | (with_reducible exact LeO.refl _)
   | (with_reducible exact LeO.none _)
   | (with_reducible refine LeO.ite ?_ ?_)
   | (with_reducible refine LeO.bind ?_ (fun _ => ?_))
   | exact ih0 _ _ _
   | exact LeO.none _
   | refine LeO.ite ?_ ?_
   | refine LeO.bind ?_ (fun _ => ?_)
theorem impl_setOf.mono : ∀ a0 k, LeO (impl_setOf.f k a0) (impl_setOf.f (k + 1) a0) := by
 intro a0 k
 have ih0 := impl_setOf.mono_l k
 unfold impl_setOf.f
 repeat' first
   | (with_reducible exact ih0 _ _ _)
   | (with_reducible exact LeO.refl _)
   | (with_reducible exact LeO.none _)
   | (with_reducible refine LeO.ite ?_ ?_)
   | (with_reducible refine LeO.bind ?_ (fun _ => ?_))
   | exact ih0 _ _ _
   | exact LeO.none _
   | refine LeO.ite ?_ ?_
   | refine LeO.bind ?_ (fun _ => ?_)
set_option maxHeartbeats 8000000 in
set_option maxRecDepth 100000 in
theorem impl_setOf.calls (k : Nat) (a0 : Int) (r : List Int) (w : World) (h : impl_setOf.f k a0 = some r) :
  Calls Tryz.prog 96 #[.int .i64 a0] w fun e w' => ∃ v0_ : Value, e = .returned (v0_) ∧ Kd.R (Kd.int .i64) 3 w' w.heap.size (fun _ => True) v0_ r ∧ Below w.heap.size w w' := by
 have HB := Aside0.mk (Below.refl w.heap.size w)
 have H : (impl_setOf.l0 k a0 (([] : List Int)) 0) = some r := h
 clear h
 obtain ⟨y235, hy235⟩ : ∃ y_ : List Int, y_ = (([] : List Int)) := ⟨_, rfl⟩
 replace H : (impl_setOf.l0 k a0 y235 0) = some r := by first | (rw [hy235]; with_reducible exact H) | (have H2_ := (Option.bind_some _ _).symm.trans H; rw [hy235]; with_reducible exact H2_) | (have H2_ := (Option.bind_some _ _).symm.trans H; with_reducible exact H2_) | with_reducible exact H | (rw [hy235]; exact H) | exact H
 have Ny235 := Aside0.mk hy235
 clear hy235
 have H' := Aside0.mk H
 clear H
 go_enter Tryz.func96, Tryz.ntmps96
 go_wp2_with (first | ((with_reducible refine gate_dst (N := 5) rfl ?_); refine Kd.R_lit (Kd.int .i64) _ 3 ?hg (N := 5) ?hd (xs := ([] : List Int)) (inner := []) (ok := fun _ => True) (okp := fun _ => True) ?hr ?hp (fun _ hk => hk) trivial (Below.refl _ _) (Nat.le_refl _) (by simp) ?_; (case hd => rfl); (case hg => rfl); (case hr => first | (go_simp; done) | (go_simp; rfl)); (case hp => exact (Reps.none _ _)); intro v236 w2 ho3 hb hg_ hnew_; clear hg_ hnew_; (first | rw [← Ny235.out] at ho3 | (simp only [Int.reduceToNat] at ho3; rw [← Ny235.out] at ho3)); have n0_ := Aside0.mk (Kd.R_lower ho3 (below_size (zh HB.out))); have n1_ := Aside0.mk (below_step (zh HB.out) hb); clear HB; have HO237 := n0_; have HB := n1_; clear n0_ n1_; clear hb ho3))
 go_loopg [3, 4] k (fun kq v3 v4 w' => ∃ (x3_1 : List Int) (x4_1 : Int), v4 = .int .i64 x4_1 ∧ Aside0 (impl_setOf.l0 kq a0 x3_1 x4_1 = some r) ∧ Aside0 (kq ≤ k) ∧ Aside0 (Kd.R (Kd.int .i64) 3 w' w.heap.size (fun _ => True) v3 x3_1) ∧ Aside0 (Below w.heap.size w w'))
 case atStart => exact ⟨(y235), (0), (by first | rfl | (simp; done) | (simp [*]; done)), H', ⟨Nat.le_refl _⟩, ⟨zr HO237.out⟩, ⟨zh HB.out⟩⟩
 case round =>
  clear H'
  try clear p2
  obtain ⟨x3_1, x4_1, rfl, HA, HK1, HO_3, HB⟩ := hrel
  cases gk with
  | zero => exact absurd HA.out (by simp [impl_setOf.l0])
  | succ k1 =>
   have H := HA.out
   clear HA
   simp only [impl_setOf.l0] at H
   by_cases c4 : 0 ≤ x4_1
   rotate_left
   ·rw [if_neg c4] at H
    exact absurd H (by simp)
   rw [if_pos c4] at H
   have c4b0 := eq_true c4
   have c4b1 : decide (0 ≤ x4_1) = true := decide_eq_true c4
   clear c4
   obtain ⟨ji5, hji5⟩ : ∃ j_ : Int, (shr .i64 a0 x4_1) = j_ := ⟨_, rfl⟩
   replace H : (if (ji5) > 0 then (if (Go.bits .and .i64 (ji5) 1) = 1 then (if x3_1.length < 17592186044416 then (impl_setOf.l0 k1 a0 (x3_1 ++ [x4_1]) (wrap64 (x4_1 + 1))) else (none)) else (impl_setOf.l0 k1 a0 x3_1 (wrap64 (x4_1 + 1)))) else (some x3_1)) = some r := by first | (rw [hji5] at H; exact H) | (simp only [hji5] at H ⊢; exact H)
   have hji5_ : (a0 / 2 ^ min x4_1.toNat 64) = ji5 := hji5
   have hji5z : x4_1 ≤ 64 → (a0 / 2 ^ x4_1.toNat) = ji5 := shr_small hji5
   by_cases c6 : (ji5) > 0
   rotate_left
   ·rw [if_neg c6] at H
    have c6b0 : decide (0 < (ji5)) = false := decide_eq_false c6
    clear c6
    obtain rfl := Option.some.inj H
    go_wp2
    go_ret
    exact ⟨_, by first | rfl | (simp [errW_none, errW_some] <;> rfl) | (simp only [← hji5]; first | rfl | (simp [errW_none, errW_some] <;> rfl)) | (simp [*, errW_none, errW_some] <;> rfl), by (with_reducible repeat (first | apply Kd.R_alloc | apply Kd.R_drewN | apply Kd.R_drew)); exact HO_3.out, zh HB.out⟩
   rw [if_pos c6] at H
   have c6b0 : decide (0 < (ji5)) = true := decide_eq_true c6
   clear c6
   have c7b0 := eq_true (of_decide_eq_true (by first | (with_reducible assumption) | assumption) : 0 ≤ x4_1)
   by_cases c8 : (Go.bits .and .i64 (ji5) 1) = 1
   rotate_left
   ·rw [if_neg c8] at H
    have c8b0 : ((Go.bits .and .i64 (ji5) 1) == 1) = false := beq_eq_false_iff_ne.mpr c8
    have c8b1 : ((Go.bits .and .i64 (ji5) 1) != 1) = true := bne_iff_ne.mpr c8
    have H' := Aside0.mk H
    clear H
    go_wp2
    go_roundg k1
    case measure => have := HK1.out; omega
    case rel => exact ⟨(x3_1), (wrap64 (x4_1 + 1)), (by first | rfl | (simp; done) | (simp [*]; done)), H', ⟨by have := HK1.out; omega⟩, ⟨zr HO_3.out⟩, ⟨zh HB.out⟩⟩
   rw [if_pos c8] at H
   have c8b0 : ((Go.bits .and .i64 (ji5) 1) == 1) = true := beq_iff_eq.mpr c8
   have c8b1 : ((Go.bits .and .i64 (ji5) 1) != 1) = false := bne_eq_false_iff_eq.mpr c8
   clear c8
   by_cases c9 : x3_1.length < 17592186044416
   rotate_left
   ·rw [if_neg c9] at H
    exact absurd H (by simp)
   rw [if_pos c9] at H
   have LMc9 := Aside0.mk c9
   clear c9
   obtain ⟨y238, hy238⟩ : ∃ y_ : List Int, y_ = (x3_1 ++ [x4_1]) := ⟨_, rfl⟩
   replace H : (impl_setOf.l0 k1 a0 y238 (wrap64 (x4_1 + 1))) = some r := by first | (rw [hy238]; with_reducible exact H) | (have H2_ := (Option.bind_some _ _).symm.trans H; rw [hy238]; with_reducible exact H2_) | (have H2_ := (Option.bind_some _ _).symm.trans H; with_reducible exact H2_) | with_reducible exact H | (rw [hy238]; exact H) | exact H
   have Ny238 := Aside0.mk hy238
   clear hy238
   have H' := Aside0.mk H
   clear H
   go_wp2_with (first | ((with_reducible refine gate_builtin (b := .append) (xs := #[.tmp 17, .tmp 19]) rfl ?_); at_builtin; refine Kd.R_append (Kd.int .i64) (w0 := w) w.heap.size rfl (.tmp 17) (.tmp 19) 59 3 (.int .i64 0) 8 rfl Tryz.underlying59 info3 rfl (by decide) (by omega) u3 x3_1 x4_1 [.int .i64 x4_1] (fun _ => True) (fun _ => False) rfl rfl ?aP (fun _ hk => hk.elim) ?aF ?aO ?aB ?aS ?aL ?_; (case aP => exact rfl); (case aB => exact (zh HB.out)); (case aF => exact (fun _ _ => trivial)); (case aO => exact (zr HO_3.out)); (case aS => exact (below_size (zh HB.out))); (case aL => have := LMc9.out; omega); intro v239 w10 ho hb hg hat; rw [← Ny238.out] at ho; have n0_ := Aside0.mk (hb); have n1_ := Aside0.mk (ho); clear HB; clear HO_3; have HB := n0_; have HO240 := n1_; clear n0_ n1_; clear ho hb hg hat))
   go_roundg k1
   case measure => have := HK1.out; omega
   case rel => exact ⟨(y238), (wrap64 (x4_1 + 1)), (by first | rfl | (simp; done) | (simp [*]; done)), H', ⟨by have := HK1.out; omega⟩, ⟨zr HO240.out⟩, ⟨zh HB.out⟩⟩
end Go.Proofs.YtgfdfabeninfeaaGreat.Q
end
section
namespace Go.Proofs.YtgfdfabeninfeaaGreat.Q
open Go.RowKit Go.Proofs.YtgfdfabeninfeaaGreatW.PrintWords Go.Proofs.YtgfdfabeninfeaaGreatW.PrintLast Go.Proofs.YtgfdfabeninfeaaGreatW.PrintMore
set_option linter.unusedVariables false
set_option linter.unusedSimpArgs false
def lexB : List Int → List Int → Bool
  | [], [] => false
  | [], _ :: _ => true
  | _ :: _, [] => false
  | x :: xs, y :: ys => if x = y then lexB xs ys else decide (x < y)
def cmpL : List Int → List Int → Int
  | [], [] => 0
  | [], _ :: _ => -1
  | _ :: _, [] => 1
  | x :: xs, y :: ys => if x = y then cmpL xs ys else if x < y then -1 else 1
theorem lexB_drop_nil (a b : List Int) : lexB [] (b.drop a.length) = decide ((a.length : Int) < (b.length : Int)) := by
  by_cases h : a.length < b.length
  · rw [List.drop_eq_getElem_cons h, decide_eq_true (by omega)]; rfl
  · rw [List.drop_of_length_le (by omega), decide_eq_false (by omega)]; rfl
theorem lexB_cons_nil (a b : List Int) (i : Nat) (h : i < a.length) (h2 : ¬ i < b.length) : lexB (a.drop i) (b.drop i) = decide ((a.length : Int) < (b.length : Int)) := by
  have hb : b.drop i = [] := List.drop_of_length_le (by omega)
  rw [List.drop_eq_getElem_cons h, hb, decide_eq_false (by omega)]; rfl
theorem lexB_irrefl : ∀ a, lexB a a = false
  | [] => rfl
  | x :: xs => by rw [lexB, if_pos rfl]; exact lexB_irrefl xs
theorem lexB_trans : ∀ a b c, lexB a b = true → lexB b c = true → lexB a c = true
  | [], [], _, h, _ => by cases h
  | [], _ :: _, [], _, h => by cases h
  | [], _ :: _, _ :: _, _, _ => rfl
  | _ :: _, [], _, h, _ => by cases h
  | _ :: _, _ :: _, [], _, h => by cases h
  | x :: xs, y :: ys, z :: zs, h1, h2 => by
    rw [lexB] at h1 h2 ⊢
    by_cases e1 : x = y
    · subst e1
      rw [if_pos rfl] at h1
      by_cases e2 : x = z
      · subst e2
        rw [if_pos rfl] at h2 ⊢
        exact lexB_trans xs ys zs h1 h2
      · rw [if_neg e2] at h2 ⊢; exact h2
    · rw [if_neg e1, decide_eq_true_eq] at h1
      by_cases e2 : y = z
      · subst e2
        rw [if_neg e1, decide_eq_true_eq]; exact h1
      · rw [if_neg e2, decide_eq_true_eq] at h2
        rw [if_neg (by omega), decide_eq_true_eq]; omega
theorem lexB_total : ∀ a b, lexB a b = false → lexB b a = false → a = b
  | [], [], _, _ => rfl
  | [], _ :: _, h, _ => by cases h
  | _ :: _, [], _, h => by cases h
  | x :: xs, y :: ys, h1, h2 => by
    rw [lexB] at h1 h2
    by_cases e : x = y
    · subst e
      rw [if_pos rfl] at h1 h2
      rw [lexB_total xs ys h1 h2]
    · rw [if_neg e, decide_eq_false_iff_not] at h1
      rw [if_neg (fun q => e q.symm), decide_eq_false_iff_not] at h2
      omega
theorem lexB_asymm {a b : List Int} (h : lexB a b = true) : lexB b a = false := by
  cases h2 : lexB b a
  · rfl
  · have := lexB_trans _ _ _ h h2
    rw [lexB_irrefl] at this; cases this
theorem lexB_ntrans (a b c : List Int) (h1 : lexB a b = false) (h2 : lexB b c = false) : lexB a c = false := by
  cases h3 : lexB a c
  · rfl
  · cases h4 : lexB b a
    · have := lexB_total a b h1 h4
      subst this
      rw [h2] at h3; cases h3
    · rw [lexB_trans _ _ _ h4 h3] at h2; cases h2
theorem cmpL_lt : ∀ a b, decide (cmpL a b < 0) = lexB a b
  | [], [] => rfl
  | [], _ :: _ => rfl
  | _ :: _, [] => rfl
  | x :: xs, y :: ys => by
    unfold cmpL lexB
    by_cases h : x = y
    · rw [if_pos h, if_pos h]; exact cmpL_lt xs ys
    · rw [if_neg h, if_neg h]
      by_cases h2 : x < y
      · rw [if_pos h2, decide_eq_true h2]; rfl
      · rw [if_neg h2, decide_eq_false h2]; rfl
def inB (n lo hi : Int) : Bool := decide (lo ≤ n) && decide (n ≤ hi)
theorem bind_ite_false {b : Bool} {x : Option Bool} {y : Bool} (h : b = true → x = some y) : (if b = true then x else some false) = some (b && y) := by
  cases b
  · rfl
  · simpa using h rfl
theorem shl_one (n : Int) (h : 0 ≤ n ∧ n ≤ 16) : shl .i64 1 n = 2 ^ n.toNat := by
  obtain ⟨m, rfl⟩ := Int.eq_ofNat_of_zero_le h.1
  have hm : m ≤ 16 := by omega
  have : ∀ m : Nat, m ≤ 16 → shl .i64 1 (m : Int) = 2 ^ (m : Int).toNat := by decide
  exact this m hm
theorem pow_le16 (n : Int) (h : 0 ≤ n ∧ n ≤ 16) : 1 ≤ (2 : Int) ^ n.toNat ∧ (2 : Int) ^ n.toNat ≤ 65536 := by
  obtain ⟨m, rfl⟩ := Int.eq_ofNat_of_zero_le h.1
  have hm : m ≤ 16 := by omega
  have : ∀ m : Nat, m ≤ 16 → 1 ≤ (2 : Int) ^ (m : Int).toNat ∧ (2 : Int) ^ (m : Int).toNat ≤ 65536 := by decide
  exact this m hm
theorem wrap64_id {x : Int} (h : -9223372036854775808 ≤ x ∧ x ≤ 9223372036854775807) : wrap64 x = x := by unfold wrap64; omega
theorem all_bits (n : Int) (h : 0 ≤ n ∧ n ≤ 16) : wrap64 (shl .i64 1 n - 1) = 2 ^ n.toNat - 1 := by
  rw [shl_one n h]
  have := pow_le16 n h
  exact wrap64_id (by omega)
theorem within_eq (n lo hi : Int) : impl_within.f n lo hi = some (inB n lo hi) := by
  unfold impl_within.f inB
  split <;> simp_all <;> omega
theorem l1In_eq (n lo hi : Int) : spec_l1In.f n lo hi = some (inB n lo hi) := by
  unfold spec_l1In.f inB
  split <;> simp_all <;> omega
theorem voAll_eq (n : Int) (h : 0 ≤ n ∧ n ≤ 16) : spec_voAll.f n = some (2 ^ n.toNat - 1) := by
  unfold spec_voAll.f
  rw [if_pos h.1, all_bits n h]
theorem isHidden_eq (n : Int) : impl_isHidden.f n = some (inB n 1 4) := by unfold impl_isHidden.f; rw [within_eq]; rfl
theorem pzMembers_eq (n : Int) : spec_pzMembers.f n = some (inB n 1 4) := by unfold spec_pzMembers.f; rw [l1In_eq]; rfl
theorem inB_iff {n lo hi : Int} : inB n lo hi = true ↔ lo ≤ n ∧ n ≤ hi := by unfold inB; simp
def clueOk (n k a b : Int) : Bool :=
  if k = 0 then inB a 0 (2 ^ n.toNat - 1) && inB b 0 1 else if k = 1 then inB a 1 15 && (b == 0) else if k = 2 then inB a 0 (n - 1) && inB b 0 1
  else if k = 3 then inB a 0 (n - 1) && inB b 0 8 else if k = 4 then inB a 0 1 && (b == 0) else if k = 5 then inB a 0 1 && (b == 0) else false
theorem pzClue_eq (n k a b : Int) (h : 1 ≤ n ∧ n ≤ 4) : spec_pzClue.f n k a b = some (clueOk n k a b) := by
  unfold spec_pzClue.f clueOk
  simp only [l1In_eq, voAll_eq n (by omega), Option.bind_some, wrap64_id (show -9223372036854775808 ≤ n - 1 ∧ n - 1 ≤ 9223372036854775807 by omega)]
  repeat' split
  all_goals simp_all
theorem IsClue_eq (n k a b : Int) : impl_IsClue.f n k a b = some (inB n 1 4 && clueOk n k a b) := by
  unfold impl_IsClue.f
  rw [isHidden_eq, Option.bind_some]
  refine bind_ite_false fun h => ?_
  have hn := inB_iff.1 h
  unfold clueOk
  simp only [within_eq, if_pos (show 0 ≤ n by omega), Option.bind_some, all_bits n (by omega), wrap64_id (show -9223372036854775808 ≤ n - 1 ∧ n - 1 ≤ 9223372036854775807 by omega)]
  repeat' split
  all_goals simp_all
theorem ev_pos {α : Type} {c : Prop} [Decidable c] {f g : Nat → Option α} {r : α} (h : c) (k : Ev f r) : Ev (fun n => if c then f n else g n) r := by
  simp only [if_pos h]; exact k
theorem ev_neg {α : Type} {c : Prop} [Decidable c] {f g : Nat → Option α} {r : α} (h : ¬ c) (k : Ev g r) : Ev (fun n => if c then f n else g n) r := by
  simp only [if_neg h]; exact k
theorem ev_bindS {α β : Type} {x : Option α} {f : Nat → α → Option β} {a : α} {r : β} (h : x = some a) (k : Ev (fun n => f n a) r) : Ev (fun n => x.bind (f n)) r := by
  subst h; exact k
theorem ev_succ {α : Type} {g : Nat → Option α} {r : α} (k : Ev (fun n => g (n + 1)) r) : Ev g r := Ev.step (fun _ => rfl) k
theorem ev_eqv {α : Type} {f : Nat → Option α} {r q : α} (h : Ev f r) (e : r = q) : Ev f q := e ▸ h
theorem ev_bool {α : Type} {c : Bool} {f g : Nat → Option α} {r : α} (h1 : c = true → Ev f r) (h2 : c = false → Ev g r) : Ev (fun n => if c = true then f n else g n) r := by
  cases c
  · simpa using h2 rfl
  · simpa using h1 rfl
theorem rd_get {xs : List Int} {i : Nat} (h : i < xs.length) : rd xs (i : Int) = xs[i] := by
  unfold rd
  simp [List.getD_eq_getElem?_getD, List.getElem?_eq_getElem h]
theorem wrap_succ {i : Nat} {n : Nat} (h : i < n) (hn : n ≤ 1152921504606846976) : wrap64 ((i : Int) + 1) = ((i + 1 : Nat) : Int) := by
  unfold wrap64; omega
def iotaL (m : Int) (n : Nat) : List Int := (List.range n).map fun (i : Nat) => m + (i : Int)
theorem iotaL_len (m : Int) (n : Nat) : (iotaL m n).length = n := by simp [iotaL]
theorem iotaL_get {m : Int} {n i : Nat} (h : i < n) : rd (iotaL m n) (i : Int) = m + i := by
  rw [rd_get (by rw [iotaL_len]; exact h)]; simp [iotaL]
theorem eqIntS_ev (a b : List Int) (ha : a.length ≤ 1152921504606846976) : Ev (fun k => laws_eqIntS.f k a b) (decide (a = b)) := by
  unfold laws_eqIntS.f
  by_cases hl : a.length = b.length
  · refine ev_pos (by omega) ?_
    have key : ∀ d i : Nat, i + d = a.length → Ev (fun k => laws_eqIntS.l0 k a b (i : Int)) (decide (a.drop i = b.drop i)) := by
      intro d
      induction d with
      | zero =>
        intro i hi
        refine ev_succ ?_
        simp only [laws_eqIntS.l0]
        refine ev_neg (by omega) ?_
        rw [List.drop_of_length_le (by omega), List.drop_of_length_le (by omega)]
        exact Ev.now _
      | succ d ih =>
        intro i hi
        have h1 : i < a.length := by omega
        have h2 : i < b.length := by omega
        refine ev_succ ?_
        simp only [laws_eqIntS.l0]
        refine ev_pos (by omega) (ev_pos (by omega) (ev_pos (by omega) ?_))
        rw [List.drop_eq_getElem_cons h1, List.drop_eq_getElem_cons h2, rd_get h1, rd_get h2, wrap_succ h1 ha]
        by_cases e : a[i] = b[i]
        · refine ev_pos e (ev_eqv (ih (i + 1) (by omega)) ?_)
          exact decide_eq_decide.2 ⟨fun h => by rw [e, h], fun h => (List.cons.inj h).2⟩
        · refine ev_neg e (ev_eqv (Ev.now false) ?_)
          exact (decide_eq_false (fun h => e (List.cons.inj h).1)).symm
    exact key a.length 0 (by omega)
  · refine ev_neg (by omega) (ev_eqv (Ev.now false) ?_)
    have : a ≠ b := fun e => hl (by rw [e])
    simp [this]
theorem markIntS_ev (l : List Int) (m : Int) (hl : l.length ≤ 1152921504606846976) (hm : 0 ≤ m ∧ m ≤ 1152921504606846976) : Ev (fun k => laws_markIntS.f k l m) (m + l.length, iotaL m l.length) := by
  unfold laws_markIntS.f
  have key : ∀ (d i : Nat) (x : List Int), x.length = l.length → i + d = l.length → Ev (fun k => laws_markIntS.l0 k x (m + i) (i : Int)) (m + l.length, x.take i ++ iotaL (m + i) (l.length - i)) := by
    intro d
    induction d with
    | zero =>
      intro i x hx hi
      refine ev_succ ?_
      simp only [laws_markIntS.l0]
      refine ev_neg (by omega) (ev_eqv (Ev.now _) ?_)
      have : l.length - i = 0 := by omega
      rw [this, List.take_of_length_le (by omega), show i = l.length by omega]
      simp [iotaL]
    | succ d ih =>
      intro i x hx hi
      have h1 : i < l.length := by omega
      refine ev_succ ?_
      simp only [laws_markIntS.l0]
      refine ev_pos (by omega) (ev_pos (by omega) ?_)
      rw [wrap_succ h1 hl, wrap64_id (show -9223372036854775808 ≤ m + i + 1 ∧ m + i + 1 ≤ 9223372036854775807 by omega), show m + (i : Int) + 1 = m + ((i + 1 : Nat) : Int) by omega, Int.toNat_natCast]
      refine ev_eqv (ih (i + 1) (x.set i (m + i)) (by simpa using hx) (by omega)) ?_
      congr 1
      have e1 : (x.set i (m + i)).take (i + 1) = x.take i ++ [m + (i : Int)] := by
        rw [List.take_succ_eq_append_getElem (by rw [List.length_set]; omega), List.getElem_set_self, List.take_set_of_le (Nat.le_refl _)]
      have e2 : iotaL (m + i) (l.length - i) = (m + (i : Int)) :: iotaL (m + ((i + 1 : Nat) : Int)) (l.length - (i + 1)) := by
        rw [show l.length - i = (l.length - (i + 1)) + 1 by omega]
        unfold iotaL
        rw [List.range_succ_eq_map, List.map_cons, List.map_map]
        congr 1
        · simp
        · refine List.map_congr_left fun j _ => ?_
          simp only [Function.comp]
          omega
      rw [e1, e2, List.append_assoc]; rfl
  have := key l.length 0 l rfl (by omega)
  simpa using this
theorem heldIntS_ev (m : Int) (n : Nat) (hl : n ≤ 1152921504606846976) (hm : 0 ≤ m ∧ m ≤ 1152921504606846976) : Ev (fun k => laws_heldIntS.f k (iotaL m n) m) (m + n) := by
  unfold laws_heldIntS.f
  have key : ∀ (d i : Nat), i + d = n → Ev (fun k => laws_heldIntS.l0 k (iotaL m n) (m + i) (i : Int)) (m + n) := by
    intro d
    induction d with
    | zero =>
      intro i hi
      refine ev_succ ?_
      simp only [laws_heldIntS.l0, iotaL_len]
      refine ev_neg (by omega) (ev_eqv (Ev.now _) ?_)
      rw [show i = n by omega]
    | succ d ih =>
      intro i hi
      have h1 : i < n := by omega
      refine ev_succ ?_
      simp only [laws_heldIntS.l0, iotaL_len]
      refine ev_pos (by omega) (ev_pos (by omega) (ev_pos (iotaL_get h1) ?_))
      rw [wrap_succ h1 hl, wrap64_id (show -9223372036854775808 ≤ m + i + 1 ∧ m + i + 1 ≤ 9223372036854775807 by omega), show m + (i : Int) + 1 = m + ((i + 1 : Nat) : Int) by omega]
      exact ih (i + 1) (by omega)
  have := key n 0 (by omega)
  simpa using this
theorem ev_range {R : Type} (n : Nat) (L : Nat → Nat → Option R) (v : Nat → R) (hend : Ev (fun k => L k n) (v n)) (hstep : ∀ i, i < n → Ev (fun k => L k (i + 1)) (v (i + 1)) → Ev (fun k => L k i) (v i)) :
    ∀ i, i ≤ n → Ev (fun k => L k i) (v i) := by
  have key : ∀ d i, i + d = n → Ev (fun k => L k i) (v i) := by
    intro d
    induction d with
    | zero => intro i hi; rw [show i = n by omega]; exact hend
    | succ d ih => intro i hi; exact hstep i (by omega) (ih (i + 1) (by omega))
  exact fun i hi => key (n - i) i (by omega)
theorem ev_rangeS {R σ : Type} (n : Nat) (L : Nat → Nat → σ → Option R) (v : Nat → σ → R) (I : Nat → σ → Prop) (hend : ∀ s, I n s → Ev (fun k => L k n s) (v n s))
    (hstep : ∀ i s, i < n → I i s → (∀ s', I (i + 1) s' → Ev (fun k => L k (i + 1) s') (v (i + 1) s')) → Ev (fun k => L k i s) (v i s)) :
    ∀ i s, i ≤ n → I i s → Ev (fun k => L k i s) (v i s) := by
  have key : ∀ d i s, i + d = n → I i s → Ev (fun k => L k i s) (v i s) := by
    intro d
    induction d with
    | zero =>
      intro i s hi h
      have e : i = n := by omega
      subst e
      exact hend s h
    | succ d ih => intro i s hi h; exact hstep i s (by omega) h (fun s' h' => ih (i + 1) s' (by omega) h')
  exact fun i s hi h => key (n - i) i s (by omega) h
theorem set_copy {α β : Type} (g : α → β) (z : β) (l : List α) (i : Nat) (h : i < l.length) :
    ((l.take i).map g ++ List.replicate (l.length - i) z).set i (g l[i]) = (l.take (i + 1)).map g ++ List.replicate (l.length - (i + 1)) z := by
  rw [List.set_append_right _ _ (by rw [List.length_map, List.length_take]; omega), List.length_map, List.length_take, Nat.min_eq_left (by omega), Nat.sub_self, show l.length - i = (l.length - (i + 1)) + 1 by omega, List.replicate_succ, List.set_cons_zero, List.take_succ_eq_append_getElem h, List.map_append, List.append_assoc]
  rfl
theorem copy_len {α β : Type} (g : α → β) (z : β) (l : List α) (i : Nat) (h : i ≤ l.length) : ((l.take i).map g ++ List.replicate (l.length - i) z).length = l.length := by
  rw [List.length_append, List.length_map, List.length_take, List.length_replicate]; omega
theorem getD_get {α : Type} {xs : List α} {z : α} {i : Nat} (h : i < xs.length) : xs.getD i z = xs[i] := by
  simp [List.getD_eq_getElem?_getD, List.getElem?_eq_getElem h]
theorem all_drop {α : Type} (p : α → Bool) (l : List α) (i : Nat) (h : i < l.length) : (l.drop i).all p = (p l[i] && (l.drop (i + 1)).all p) := by
  rw [List.drop_eq_getElem_cons h, List.all_cons]
theorem drop_end {α : Type} (l : List α) : l.drop l.length = [] := by simp
theorem eq_drop {α : Type} [DecidableEq α] (a b : List α) (i : Nat) (h1 : i < a.length) (h2 : i < b.length) : decide (a.drop i = b.drop i) = (decide (a[i] = b[i]) && decide (a.drop (i + 1) = b.drop (i + 1))) := by
  rw [List.drop_eq_getElem_cons h1, List.drop_eq_getElem_cons h2]
  by_cases e : a[i] = b[i]
  · by_cases e2 : a.drop (i + 1) = b.drop (i + 1)
    · rw [decide_eq_true e, decide_eq_true e2, decide_eq_true (by rw [e, e2])]; rfl
    · rw [decide_eq_false e2, decide_eq_false (fun h => e2 (List.cons.inj h).2)]; simp
  · rw [decide_eq_false e, decide_eq_false (fun h => e (List.cons.inj h).1)]; rfl
def tab {α : Type} (g : Nat → α) (n : Nat) : List α := (List.range n).map g
theorem tab_len {α : Type} (g : Nat → α) (n : Nat) : (tab g n).length = n := by simp [tab]
theorem tab_get {α : Type} (g : Nat → α) (n i : Nat) (h : i < (tab g n).length) : (tab g n)[i] = g i := by simp [tab]
theorem tab_succ {α : Type} (g : Nat → α) (n : Nat) : tab g (n + 1) = tab g n ++ [g n] := by simp [tab, List.range_succ]
theorem set_tab {α : Type} (g : Nat → α) (l : List α) (i : Nat) (h : i < l.length) : (tab g i ++ l.drop i).set i (g i) = tab g (i + 1) ++ l.drop (i + 1) := by
  rw [List.set_append_right _ _ (by rw [tab_len]; omega), tab_len, Nat.sub_self, List.drop_eq_getElem_cons h, List.set_cons_zero, tab_succ, List.append_assoc]; rfl
theorem tab_drop_len {α : Type} (g : Nat → α) (l : List α) (i : Nat) (h : i ≤ l.length) : (tab g i ++ l.drop i).length = l.length := by
  rw [List.length_append, tab_len, List.length_drop]; omega
end Go.Proofs.YtgfdfabeninfeaaGreat.Q
end
section
namespace Go.Proofs.YtgfdfabeninfeaaGreat.Q
open Go.RowKit Go.Proofs.YtgfdfabeninfeaaGreatW.PrintWords Go.Proofs.YtgfdfabeninfeaaGreatW.PrintLast Go.Proofs.YtgfdfabeninfeaaGreatW.PrintMore
attribute [local go_sem] max2_int min2_int max_two min_two max_three min_three max_four min_four
set_option linter.unusedVariables false
set_option linter.unusedSimpArgs false
mutual
def impl_tables.l0 : Nat → Int → List Int → List Int → List Int → Int → Int → Option (List Int)
 | 0, _, _, _, _, _, _ => none
 | k + 1, x0, x3, x4, x16, x17, x18 => if x18 < x17 then (if 0 ≤ x18 then (if x18 < (x16.length : Int) then (impl_tables.l1 k x0 x3 x4 (rd x16 x18) x16 x17 x18 x3 (x3.length : Int) 0) else (none)) else (none)) else (some x4)
def impl_tables.l1 : Nat → Int → List Int → List Int → Int → List Int → Int → Int → List Int → Int → Int → Option (List Int)
 | 0, _, _, _, _, _, _, _, _, _, _ => none
 | k + 1, x0, x3, x4, x6, x16, x17, x18, x22, x23, x24 => if x24 < x23 then (if 0 ≤ x24 then (if x24 < (x22.length : Int) then (if (Go.bits .and .i64 x6 (rd x22 x24)) = x6 then (if 0 ≤ (wrap64 (x0 - 1)) then (if x4.length < 17592186044416 then (impl_tables.l1 k x0 x3 (x4 ++ [Go.bits .or .i64 (shl .i64 (rd x22 x24) (shl .u64 1 (wrap64 (x0 - 1)))) x6]) x6 x16 x17 x18 x22 x23 (wrap64 (x24 + 1))) else (none)) else (none)) else (impl_tables.l1 k x0 x3 x4 x6 x16 x17 x18 x22 x23 (wrap64 (x24 + 1)))) else (none)) else (none)) else (impl_tables.l0 k x0 x3 x4 x16 x17 (wrap64 (x18 + 1)))
def impl_tables.f : Nat → Int → Option (List Int)
 | 0, _ => none
 | k + 1, a0 => if a0 = 0 then (some (([0, 1] : List Int))) else ((impl_tables.f k (wrap64 (a0 - 1))).bind fun t216 => (impl_tables.l0 k a0 t216 (([] : List Int)) t216 (t216.length : Int) 0))
end
theorem impl_tables.mono_l : ∀ k, (∀ y0, LeO (impl_tables.f k y0) (impl_tables.f (k + 1) y0)) ∧ (∀ y0 y1 y2 y3 y4 y5, LeO (impl_tables.l0 k y0 y1 y2 y3 y4 y5) (impl_tables.l0 (k + 1) y0 y1 y2 y3 y4 y5)) ∧ (∀ y0 y1 y2 y3 y4 y5 y6 y7 y8 y9, LeO (impl_tables.l1 k y0 y1 y2 y3 y4 y5 y6 y7 y8 y9) (impl_tables.l1 (k + 1) y0 y1 y2 y3 y4 y5 y6 y7 y8 y9))
 | 0 => ⟨fun _ r h => by simp [impl_tables.f] at h, fun _ _ _ _ _ _ r h => by simp [impl_tables.l0] at h, fun _ _ _ _ _ _ _ _ _ _ r h => by simp [impl_tables.l1] at h⟩
 | k + 1 => by
  obtain ⟨ih0, ih1, ih2⟩ := impl_tables.mono_l k
  refine ⟨?_, ?_, ?_⟩
  ·intro y0
   unfold impl_tables.f
   repeat' first
   | (with_reducible exact ih0 _)
   | (with_reducible exact ih1 _ _ _ _ _ _)
   | (with_reducible exact ih2 _ _ _ _ _ _ _ _ _ _)
   | (with_reducible exact LeO.refl _)
   | (with_reducible exact LeO.none _)
   | (with_reducible refine LeO.ite ?_ ?_)
   | (with_reducible refine LeO.bind ?_ (fun _ => ?_))
   | exact ih0 _
   | exact ih1 _ _ _ _ _ _
   | exact ih2 _ _ _ _ _ _ _ _ _ _
   | exact LeO.none _
   | refine LeO.ite ?_ ?_
   | refine LeO.bind ?_ (fun _ => ?_)
  ·intro y0 y1 y2 y3 y4 y5
   unfold impl_tables.l0
   repeat' first
   | (with_reducible exact ih0 _)
   | (with_reducible exact ih1 _ _ _ _ _ _)
   | (with_reducible exact ih2 _ _ _ _ _ _ _ _ _ _)
   | (with_reducible exact LeO.refl _)
   | (with_reducible exact LeO.none _)
   | (with_reducible refine LeO.ite ?_ ?_)
   | (with_reducible refine LeO.bind ?_ (fun _ => ?_))
   | exact ih0 _
   | exact ih1 _ _ _ _ _ _
   | exact ih2 _ _ _ _ _ _ _ _ _ _
   | exact LeO.none _
   | refine LeO.ite ?_ ?_
   | refine LeO.bind ?_ (fun _ => ?_)
  ·intro y0 y1 y2 y3 y4 y5 y6 y7 y8 y9
   unfold impl_tables.l1
   repeat' first
   | (with_reducible exact ih0 _)
   | (with_reducible exact ih1 _ _ _ _ _ _)
   | (with_reducible exact ih2 _ _ _ _ _ _ _ _ _ _)
   | (with_reducible exact LeO.refl _)
   | (with_reducible exact LeO.none _)
   | (with_reducible refine LeO.ite ?_ ?_)
   | (with_reducible refine LeO.bind ?_ (fun _ => ?_))
   | exact ih0 _
   | exact ih1 _ _ _ _ _ _
   | exact ih2 _ _ _ _ _ _ _ _ _ _
   | exact LeO.none _
   | refine LeO.ite ?_ ?_
   | refine LeO.bind ?_ (fun _ => ?_)
theorem impl_tables.mono : ∀ a0 k, LeO (impl_tables.f k a0) (impl_tables.f (k + 1) a0) := by
 intro a0 k
 obtain ⟨ih0, ih1, ih2⟩ := impl_tables.mono_l k
 exact ih0 a0
set_option maxHeartbeats 8000000 in
set_option maxRecDepth 100000 in
theorem impl_tables.calls (k : Nat) : ∀ (a0 : Int) (r : List Int) (w : World) (h : impl_tables.f k a0 = some r),
  Calls Tryz.prog 81 #[.int .i64 a0] w fun e w' => ∃ v0_ : Value, e = .returned (v0_) ∧ Kd.R (Kd.int .i64) 3 w' w.heap.size (fun _ => True) v0_ r ∧ Below w.heap.size w w' := by
 induction k using Nat.strongRecOn with
 | _ k ih =>
 intro a0 r w h
 cases k with
 | zero => exact absurd h (by simp [impl_tables.f])
 | succ k =>
 simp only [impl_tables.f] at h
 have HB := Aside0.mk (Below.refl w.heap.size w)
 have H : (if a0 = 0 then (some (([0, 1] : List Int))) else ((impl_tables.f k (wrap64 (a0 - 1))).bind fun t216 => (impl_tables.l0 k a0 t216 (([] : List Int)) t216 (t216.length : Int) 0))) = some r := h
 clear h
 by_cases c2 : a0 = 0
 ·rw [if_pos c2] at H
  have c2b0 : (a0 == 0) = true := beq_iff_eq.mpr c2
  have c2b1 : (a0 != 0) = false := bne_eq_false_iff_eq.mpr c2
  clear c2
  obtain ⟨y213, hy213⟩ : ∃ y_ : List Int, y_ = (([0, 1] : List Int)) := ⟨_, rfl⟩
  replace H : (some y213) = some r := by first | (rw [hy213]; with_reducible exact H) | (have H2_ := (Option.bind_some _ _).symm.trans H; rw [hy213]; with_reducible exact H2_) | (have H2_ := (Option.bind_some _ _).symm.trans H; with_reducible exact H2_) | with_reducible exact H | (rw [hy213]; exact H) | exact H
  have Ny213 := Aside0.mk hy213
  clear hy213
  obtain rfl := Option.some.inj H
  go_enter Tryz.func81, Tryz.ntmps81
  go_wp2_with (first | ((with_reducible refine gate_dst (N := 11) rfl ?_); refine Kd.R_lit (Kd.int .i64) _ 3 ?hg (N := 11) ?hd (xs := ([0, 1] : List Int)) (inner := [.int .i64 0, .int .i64 1]) (ok := fun _ => True) (okp := fun _ => True) ?hr ?hp (fun _ hk => hk) trivial (Below.refl _ _) (Nat.le_refl _) (by simp) ?_; (case hd => rfl); (case hg => rfl); (case hr => first | (go_simp; done) | (go_simp; rfl)); (case hp => exact (Reps.one (show Kd.M (Kd.int .i64) _ _ _ 0 [.int .i64 0] from rfl) (Reps.one (show Kd.M (Kd.int .i64) _ _ _ 1 [.int .i64 1] from rfl) (Reps.none _ _)))); intro v214 w3 ho4 hb hg_ hnew_; clear hg_ hnew_; (first | rw [← Ny213.out] at ho4 | (simp only [Int.reduceToNat] at ho4; rw [← Ny213.out] at ho4)); have n0_ := Aside0.mk (Kd.R_lower ho4 (below_size (zh HB.out))); have n1_ := Aside0.mk (below_step (zh HB.out) hb); clear HB; have HO215 := n0_; have HB := n1_; clear n0_ n1_; clear hb ho4))
  go_ret
  exact ⟨_, by first | rfl | (simp [*, errW_none, errW_some] <;> rfl), by (with_reducible repeat (first | apply Kd.R_alloc | apply Kd.R_drewN | apply Kd.R_drew)); exact HO215.out, zh HB.out⟩
 ·rw [if_neg c2] at H
  have c2b0 : (a0 == 0) = false := beq_eq_false_iff_ne.mpr c2
  have c2b1 : (a0 != 0) = true := bne_iff_ne.mpr c2
  replace H := Option.bind_eq_some_iff.mp H
  obtain ⟨t216, A50, H⟩ := H
  replace H : (impl_tables.l0 k a0 t216 (([] : List Int)) t216 (t216.length : Int) 0) = some r := H
  have A5 := Aside0.mk A50
  clear A50
  obtain ⟨y219, hy219⟩ : ∃ y_ : List Int, y_ = (([] : List Int)) := ⟨_, rfl⟩
  replace H : (impl_tables.l0 k a0 t216 y219 t216 (t216.length : Int) 0) = some r := by first | (rw [hy219]; with_reducible exact H) | (have H2_ := (Option.bind_some _ _).symm.trans H; rw [hy219]; with_reducible exact H2_) | (have H2_ := (Option.bind_some _ _).symm.trans H; with_reducible exact H2_) | with_reducible exact H | (rw [hy219]; exact H) | exact H
  have Ny219 := Aside0.mk hy219
  clear hy219
  have H' := Aside0.mk H
  clear H
  go_enter Tryz.func81, Tryz.ntmps81
  go_wp2_with (first | ((with_reducible refine gate_callee (f := 81) rfl ?_); refine goesL_ (some 14) rfl rfl Tryz.func81 (by kernel_rfl) rfl #[.int .i64 (wrap64 (a0 - 1))] rfl (by (try simp only [List.map_toArray, List.map_cons, List.map_nil]); first | done | rfl | (simp only [List.length_drop, List.length_take]; rfl)) ?_; (with_reducible refine (ih k (by omega) (wrap64 (a0 - 1)) t216 _ A5.out).mono ?_); rintro e w6 ⟨v217, rfl, ho0, hb⟩; refine ⟨_, rfl, ?_⟩; have n0_ := Aside0.mk (Kd.R_lower ho0 (below_size (zh HB.out))); have n1_ := Aside0.mk (below_step (zh HB.out) hb); clear HB; have HO218 := n0_; have HB := n1_; clear n0_ n1_; (try clear hb); (try clear hb2); (try clear hk); (try clear hi); (try clear ho0)) | ((with_reducible refine gate_dst (N := 15) rfl ?_); refine Kd.R_lit (Kd.int .i64) _ 3 ?hg (N := 15) ?hd (xs := ([] : List Int)) (inner := []) (ok := fun _ => True) (okp := fun _ => True) ?hr ?hp (fun _ hk => hk) trivial (Below.refl _ _) (Nat.le_refl _) (by simp) ?_; (case hd => rfl); (case hg => rfl); (case hr => first | (go_simp; done) | (go_simp; rfl)); (case hp => exact (Reps.none _ _)); intro v220 w7 ho8 hb hg_ hnew_; clear hg_ hnew_; (first | rw [← Ny219.out] at ho8 | (simp only [Int.reduceToNat] at ho8; rw [← Ny219.out] at ho8)); have n0_ := Aside0.mk (Kd.R_elder' (zr HO218.out) (Kd.R_base ho8) hb); have n1_ := Aside0.mk (Kd.R_lower (Kd.R_new' ho8 (Kd.R_lt (zr HO218.out))) (below_size (zh HB.out))); have n2_ := Aside0.mk (below_step (zh HB.out) hb); clear HO218; clear HB; have HO218 := n0_; have HO221 := n1_; have HB := n2_; clear n0_ n1_ n2_; clear hb ho8; obtain ⟨Ao9, co9, eo9⟩ := Kd.R_slice HO218.out; subst eo9))
  go_loopg [4, 18] k (fun kq v4 v18 w' => ∃ (x4_1 : List Int) (x18_1 : Int), v18 = .int .i64 x18_1 ∧ Aside0 (impl_tables.l0 kq a0 t216 x4_1 t216 (t216.length : Int) x18_1 = some r) ∧ Aside0 (kq ≤ k) ∧ Aside0 (Kd.R (Kd.int .i64) 3 w' w.heap.size (fun k_ => some k_ ≠ (v4 : Value).ownBlock) (.slice Ao9 t216.length co9) t216) ∧ Aside0 (Kd.R (Kd.int .i64) 3 w' w.heap.size (fun k_ => some k_ ≠ ((.slice Ao9 t216.length co9) : Value).ownBlock ∧ some k_ ≠ ((.slice Ao9 t216.length co9) : Value).ownBlock) v4 x4_1) ∧ Aside0 (Kd.R (Kd.int .i64) 3 w' w.heap.size (fun k_ => some k_ ≠ (v4 : Value).ownBlock) (.slice Ao9 t216.length co9) t216) ∧ Aside0 (Below w.heap.size w w'))
  case atStart => exact ⟨(y219), (0), (by first | rfl | (simp; done) | (simp [*]; done)), H', ⟨Nat.le_refl _⟩, ⟨by (with_reducible repeat (first | apply Kd.R_alloc | apply Kd.R_drewN | apply Kd.R_drew)); exact Kd.R_mono HO218.out (fun _ hk => hk.2)⟩, ⟨by (with_reducible repeat (first | apply Kd.R_alloc | apply Kd.R_drewN | apply Kd.R_drew)); exact Kd.R_mono HO221.out (fun _ hk => ⟨hk.2, hk.2⟩)⟩, ⟨by (with_reducible repeat (first | apply Kd.R_alloc | apply Kd.R_drewN | apply Kd.R_drew)); exact Kd.R_mono HO218.out (fun _ hk => hk.2)⟩, ⟨zh HB.out⟩⟩
  case round =>
   clear H'
   try clear c2
   try clear c2b0
   try clear c2b1
   try clear p2
   try clear p6
   try clear c8
   obtain ⟨x4_1, x18_1, rfl, HA, HK1, HO_3, HO_4, HO_16, HB⟩ := hrel
   cases gk with
   | zero => exact absurd HA.out (by simp [impl_tables.l0])
   | succ k1 =>
    have H := HA.out
    clear HA
    simp only [impl_tables.l0] at H
    by_cases c10 : x18_1 < (t216.length : Int)
    ·rw [if_pos c10] at H
     have c10b0 : decide (x18_1 < (t216.length : Int)) = true := decide_eq_true c10
     clear c10
     by_cases c11 : 0 ≤ x18_1
     ·rw [if_pos c11] at H
      have c11b0 : decide (0 ≤ x18_1) = true := decide_eq_true c11
      clear c11
      by_cases c12 : x18_1 < (t216.length : Int)
      ·rw [if_pos c12] at H
       have c12b0 : decide (x18_1 < (t216.length : Int)) = true := decide_eq_true c12
       clear c12
       have H' := Aside0.mk H
       clear H
       have p222 : 0 ≤ (x18_1 : Int) := of_decide_eq_true (by first | (with_reducible assumption) | assumption)
       have q222 : x18_1 < (t216.length : Int) := of_decide_eq_true (by first | (with_reducible assumption) | assumption)
       obtain ⟨ad222, e222, hx222_0⟩ := Kd.at_int (Kd.R_reads' HO_16.out).2.2 x18_1 p222 q222
       cases e222
       replace p222 := eq_true p222
       replace q222 := eq_true q222
       go_wp2
       go_loopg [4, 24] k1 (fun kq v4 v24 w' => ∃ (x4_2 : List Int) (x24_2 : Int), v24 = .int .i64 x24_2 ∧ Aside0 (impl_tables.l1 kq a0 t216 x4_2 (rd t216 x18_1) t216 (t216.length : Int) x18_1 t216 (t216.length : Int) x24_2 = some r) ∧ Aside0 (kq ≤ k1) ∧ Aside0 (Kd.R (Kd.int .i64) 3 w' w.heap.size (fun k_ => some k_ ≠ (v4 : Value).ownBlock) (.slice (some ad222) t216.length co9) t216) ∧ Aside0 (Kd.R (Kd.int .i64) 3 w' w.heap.size (fun k_ => some k_ ≠ ((.slice (some ad222) t216.length co9) : Value).ownBlock ∧ some k_ ≠ ((.slice (some ad222) t216.length co9) : Value).ownBlock ∧ some k_ ≠ ((.slice (some ad222) t216.length co9) : Value).ownBlock) v4 x4_2) ∧ Aside0 (Kd.R (Kd.int .i64) 3 w' w.heap.size (fun k_ => some k_ ≠ (v4 : Value).ownBlock) (.slice (some ad222) t216.length co9) t216) ∧ Aside0 (Kd.R (Kd.int .i64) 3 w' w.heap.size (fun k_ => some k_ ≠ (v4 : Value).ownBlock) (.slice (some ad222) t216.length co9) t216) ∧ Aside0 (Below w.heap.size w w'))
       case atStart => exact ⟨(x4_1), (0), (by first | rfl | (simp; done) | (simp [*]; done)), H', ⟨Nat.le_refl _⟩, ⟨zr HO_3.out⟩, ⟨by (with_reducible repeat (first | apply Kd.R_alloc | apply Kd.R_drewN | apply Kd.R_drew)); exact Kd.R_mono HO_4.out (fun _ hk => ⟨hk.1, ⟨hk.2, hk.1⟩⟩)⟩, ⟨zr HO_16.out⟩, ⟨zr HO_3.out⟩, ⟨zh HB.out⟩⟩
       case round =>
        clear H'
        try clear c1
        try clear c2
        try clear c2b0
        try clear c2b1
        try clear p2
        try clear q2
        try clear hx2
        try clear p6
        try clear c8
        try clear c10
        try clear c10b0
        try clear c11
        try clear c11b0
        try clear c12
        try clear c12b0
        try clear hx222_0
        try clear p2
        try clear p222
        try clear p6
        try clear q222
        obtain ⟨x4_2, x24_2, rfl, HA, HK2, HO_3, HO_4, HO_16, HO_22, HB⟩ := hrel
        cases gk with
        | zero => exact absurd HA.out (by simp [impl_tables.l1])
        | succ k2 =>
         have H := HA.out
         clear HA
         simp only [impl_tables.l1] at H
         by_cases c13 : x24_2 < (t216.length : Int)
         ·rw [if_pos c13] at H
          have c13b0 : decide (x24_2 < (t216.length : Int)) = true := decide_eq_true c13
          clear c13
          by_cases c14 : 0 ≤ x24_2
          ·rw [if_pos c14] at H
           have c14b0 : decide (0 ≤ x24_2) = true := decide_eq_true c14
           clear c14
           by_cases c15 : x24_2 < (t216.length : Int)
           ·rw [if_pos c15] at H
            have c15b0 : decide (x24_2 < (t216.length : Int)) = true := decide_eq_true c15
            clear c15
            by_cases c16 : (Go.bits .and .i64 (rd t216 x18_1) (rd t216 x24_2)) = (rd t216 x18_1)
            ·rw [if_pos c16] at H
             have c16b0 : ((Go.bits .and .i64 (rd t216 x18_1) (rd t216 x24_2)) == (rd t216 x18_1)) = true := beq_iff_eq.mpr c16
             have c16b1 : ((Go.bits .and .i64 (rd t216 x18_1) (rd t216 x24_2)) != (rd t216 x18_1)) = false := bne_eq_false_iff_eq.mpr c16
             clear c16
             obtain ⟨ji17, hji17⟩ : ∃ j_ : Int, (wrap64 (a0 - 1)) = j_ := ⟨_, rfl⟩
             replace H : (if 0 ≤ (ji17) then (if x4_2.length < 17592186044416 then (impl_tables.l1 k2 a0 t216 (x4_2 ++ [Go.bits .or .i64 (shl .i64 (rd t216 x24_2) (shl .u64 1 (ji17))) (rd t216 x18_1)]) (rd t216 x18_1) t216 (t216.length : Int) x18_1 t216 (t216.length : Int) (wrap64 (x24_2 + 1))) else (none)) else (none)) = some r := by first | (rw [hji17] at H; exact H) | (simp only [hji17] at H ⊢; exact H)
             have hji17w : (IntKind.i64.wrap (a0 - 1)) = ji17 := (i64_w _).trans hji17
             by_cases c18 : 0 ≤ (ji17)
             ·rw [if_pos c18] at H
              have c18b0 := eq_true c18
              have c18b1 : decide (0 ≤ (ji17)) = true := decide_eq_true c18
              clear c18
              obtain ⟨ji19, hji19⟩ : ∃ j_ : Int, (shl .u64 1 (ji17)) = j_ := ⟨_, rfl⟩
              replace H : (if x4_2.length < 17592186044416 then (impl_tables.l1 k2 a0 t216 (x4_2 ++ [Go.bits .or .i64 (shl .i64 (rd t216 x24_2) (ji19)) (rd t216 x18_1)]) (rd t216 x18_1) t216 (t216.length : Int) x18_1 t216 (t216.length : Int) (wrap64 (x24_2 + 1))) else (none)) = some r := by first | (rw [hji19] at H; exact H) | (simp only [hji19] at H ⊢; exact H)
              have hji19_ : (IntKind.u64.wrap (1 * 2 ^ min (ji17).toNat 64)) = ji19 := hji19
              have hji19n : 0 ≤ ji19 := by rw [← hji19_]; exact u64_wrap_nn _
              have hji19n0 := eq_true hji19n
              have hji19n1 : decide (0 ≤ ji19) = true := decide_eq_true hji19n
              have hji19z : (ji17) ≤ 64 → (IntKind.u64.wrap (1 * 2 ^ (ji17).toNat)) = ji19 := shl_small hji19
              have hji19u : (IntKind.u64.wrap (2 ^ min (ji17).toNat 64)) = ji19 := by have h_ := hji19_; rw [Int.one_mul] at h_; exact h_
              have hji19v : (ji17) ≤ 64 → (IntKind.u64.wrap (2 ^ (ji17).toNat)) = ji19 := fun hle_ => by have h_ := hji19z hle_; rw [Int.one_mul] at h_; exact h_
              obtain ⟨ji20, hji20⟩ : ∃ j_ : Int, (shl .i64 (rd t216 x24_2) (ji19)) = j_ := ⟨_, rfl⟩
              replace H : (if x4_2.length < 17592186044416 then (impl_tables.l1 k2 a0 t216 (x4_2 ++ [Go.bits .or .i64 (ji20) (rd t216 x18_1)]) (rd t216 x18_1) t216 (t216.length : Int) x18_1 t216 (t216.length : Int) (wrap64 (x24_2 + 1))) else (none)) = some r := by first | (rw [hji20] at H; exact H) | (simp only [hji20] at H ⊢; exact H)
              have hji20_ : (IntKind.i64.wrap ((rd t216 x24_2) * 2 ^ min (ji19).toNat 64)) = ji20 := hji20
              have hji20z : (ji19) ≤ 64 → (IntKind.i64.wrap ((rd t216 x24_2) * 2 ^ (ji19).toNat)) = ji20 := shl_small hji20
              have hji20y : (wrap64 ((rd t216 x24_2) * 2 ^ min (ji19).toNat 64)) = ji20 := (i64_w _).symm.trans hji20_
              have hji20x : (ji19) ≤ 64 → (wrap64 ((rd t216 x24_2) * 2 ^ (ji19).toNat)) = ji20 := fun h_ => (i64_w _).symm.trans (hji20z h_)
              by_cases c21 : x4_2.length < 17592186044416
              ·rw [if_pos c21] at H
               have LMc21 := Aside0.mk c21
               clear c21
               obtain ⟨y224, hy224⟩ : ∃ y_ : List Int, y_ = (x4_2 ++ [Go.bits .or .i64 (ji20) (rd t216 x18_1)]) := ⟨_, rfl⟩
               replace H : (impl_tables.l1 k2 a0 t216 y224 (rd t216 x18_1) t216 (t216.length : Int) x18_1 t216 (t216.length : Int) (wrap64 (x24_2 + 1))) = some r := by first | (rw [hy224]; with_reducible exact H) | (have H2_ := (Option.bind_some _ _).symm.trans H; rw [hy224]; with_reducible exact H2_) | (have H2_ := (Option.bind_some _ _).symm.trans H; with_reducible exact H2_) | with_reducible exact H | (rw [hy224]; exact H) | exact H
               have Ny224 := Aside0.mk hy224
               clear hy224
               have H' := Aside0.mk H
               clear H
               have p223 : 0 ≤ (x24_2 : Int) := of_decide_eq_true (by first | (with_reducible assumption) | assumption)
               have q223 : x24_2 < (t216.length : Int) := of_decide_eq_true (by first | (with_reducible assumption) | assumption)
               obtain ⟨ad223, e223, hx223_0⟩ := Kd.at_int (Kd.R_reads' HO_22.out).2.2 x24_2 p223 q223
               obtain rfl : ad222 = ad223 := (by injection e223)
               replace p223 := eq_true p223
               replace q223 := eq_true q223
               go_wp2_with (first | ((with_reducible refine gate_builtin (b := .append) (xs := #[.tmp 33, .tmp 41]) rfl ?_); at_builtin; refine Kd.R_append (Kd.int .i64) (w0 := w) w.heap.size rfl (.tmp 33) (.tmp 41) 59 3 (.int .i64 0) 8 rfl Tryz.underlying59 info3 rfl (by decide) (by omega) u4 x4_2 (Go.bits .or .i64 (ji20) (rd t216 x18_1)) [.int .i64 (Go.bits .or .i64 (ji20) (rd t216 x18_1))] (fun k_ => some k_ ≠ (.slice (some ad222) t216.length co9 : Value).ownBlock ∧ some k_ ≠ (.slice (some ad222) t216.length co9 : Value).ownBlock ∧ some k_ ≠ (.slice (some ad222) t216.length co9 : Value).ownBlock) (fun _ => False) rfl rfl ?aP (fun _ hk => hk.elim) ?aF ?aO ?aB ?aS ?aL ?_; (case aP => exact rfl); (case aB => exact (zh HB.out)); (case aF => exact (fun k_ hk => ⟨Kd.fresh' (Kd.R_lt (zr HO_3.out)) k_ hk, Kd.fresh' (Kd.R_lt (zr HO_16.out)) k_ hk, Kd.fresh' (Kd.R_lt (zr HO_22.out)) k_ hk⟩)); (case aO => exact (zr HO_4.out)); (case aS => exact (below_size (zh HB.out))); (case aL => have := LMc21.out; omega); intro v225 w22 ho hb hg hat; rw [← Ny224.out] at ho; have n0_ := Aside0.mk (Kd.R_after (ok := (fun _ => True)) (by (with_reducible repeat (first | apply Kd.R_alloc | apply Kd.R_drewN | apply Kd.R_drew)); exact Kd.R_mono HO_3.out (fun _ hk => ⟨trivial, hk⟩)) hg hat); have n1_ := Aside0.mk (Kd.R_after (ok := (fun _ => True)) (by (with_reducible repeat (first | apply Kd.R_alloc | apply Kd.R_drewN | apply Kd.R_drew)); exact Kd.R_mono HO_16.out (fun _ hk => ⟨trivial, hk⟩)) hg hat); have n2_ := Aside0.mk (Kd.R_after (ok := (fun _ => True)) (by (with_reducible repeat (first | apply Kd.R_alloc | apply Kd.R_drewN | apply Kd.R_drew)); exact Kd.R_mono HO_22.out (fun _ hk => ⟨trivial, hk⟩)) hg hat); have n3_ := Aside0.mk (hb); have n4_ := Aside0.mk (ho); clear HO_3; clear HO_16; clear HO_22; clear HB; clear HO_4; have HO_3 := n0_; have HO_16 := n1_; have HO_22 := n2_; have HB := n3_; have HO226 := n4_; clear n0_ n1_ n2_ n3_ n4_; clear ho hb hg hat))
               try subst hji17
               try subst hji19
               try subst hji20
               go_roundg k2
               case measure => have := HK1.out; have := HK2.out; omega
               case rel => exact ⟨(y224), (wrap64 (x24_2 + 1)), (by first | rfl | (simp; done) | (simp [*]; done)), H', ⟨by have := HK1.out; have := HK2.out; omega⟩, ⟨by (with_reducible repeat (first | apply Kd.R_alloc | apply Kd.R_drewN | apply Kd.R_drew)); exact Kd.R_mono HO_3.out (fun _ hk => hk.2)⟩, ⟨zr HO226.out⟩, ⟨by (with_reducible repeat (first | apply Kd.R_alloc | apply Kd.R_drewN | apply Kd.R_drew)); exact Kd.R_mono HO_16.out (fun _ hk => hk.2)⟩, ⟨by (with_reducible repeat (first | apply Kd.R_alloc | apply Kd.R_drewN | apply Kd.R_drew)); exact Kd.R_mono HO_22.out (fun _ hk => hk.2)⟩, ⟨zh HB.out⟩⟩
              ·rw [if_neg c21] at H
               exact absurd H (by simp)
             ·rw [if_neg c18] at H
              exact absurd H (by simp)
            ·rw [if_neg c16] at H
             have c16b0 : ((Go.bits .and .i64 (rd t216 x18_1) (rd t216 x24_2)) == (rd t216 x18_1)) = false := beq_eq_false_iff_ne.mpr c16
             have c16b1 : ((Go.bits .and .i64 (rd t216 x18_1) (rd t216 x24_2)) != (rd t216 x18_1)) = true := bne_iff_ne.mpr c16
             have H' := Aside0.mk H
             clear H
             have p223 : 0 ≤ (x24_2 : Int) := of_decide_eq_true (by first | (with_reducible assumption) | assumption)
             have q223 : x24_2 < (t216.length : Int) := of_decide_eq_true (by first | (with_reducible assumption) | assumption)
             obtain ⟨ad223, e223, hx223_0⟩ := Kd.at_int (Kd.R_reads' HO_22.out).2.2 x24_2 p223 q223
             obtain rfl : ad222 = ad223 := (by injection e223)
             replace p223 := eq_true p223
             replace q223 := eq_true q223
             go_wp2
             try subst hji17
             try subst hji19
             try subst hji20
             go_roundg k2
             case measure => have := HK1.out; have := HK2.out; omega
             case rel => exact ⟨(x4_2), (wrap64 (x24_2 + 1)), (by first | rfl | (simp; done) | (simp [*]; done)), H', ⟨by have := HK1.out; have := HK2.out; omega⟩, ⟨zr HO_3.out⟩, ⟨zr HO_4.out⟩, ⟨zr HO_16.out⟩, ⟨zr HO_22.out⟩, ⟨zh HB.out⟩⟩
           ·rw [if_neg c15] at H
            exact absurd H (by simp)
          ·rw [if_neg c14] at H
           exact absurd H (by simp)
         ·rw [if_neg c13] at H
          have c13b0 : decide (x24_2 < (t216.length : Int)) = false := decide_eq_false c13
          clear c13
          have H' := Aside0.mk H
          clear H
          go_wp2
          try subst hji17
          try subst hji19
          try subst hji20
          go_roundg k2
          case measure => have := HK1.out; have := HK2.out; omega
          case rel => exact ⟨(x4_2), (wrap64 (x18_1 + 1)), (by first | rfl | (simp; done) | (simp [*]; done)), H', ⟨by have := HK1.out; have := HK2.out; omega⟩, ⟨zr HO_3.out⟩, ⟨by (with_reducible repeat (first | apply Kd.R_alloc | apply Kd.R_drewN | apply Kd.R_drew)); exact Kd.R_mono HO_4.out (fun _ hk => ⟨hk.1, hk.2.1⟩)⟩, ⟨zr HO_16.out⟩, ⟨zh HB.out⟩⟩
      ·rw [if_neg c12] at H
       exact absurd H (by simp)
     ·rw [if_neg c11] at H
      exact absurd H (by simp)
    ·rw [if_neg c10] at H
     have c10b0 : decide (x18_1 < (t216.length : Int)) = false := decide_eq_false c10
     clear c10
     obtain rfl := Option.some.inj H
     go_wp2
     go_ret
     exact ⟨_, by first | rfl | (simp [*, errW_none, errW_some] <;> rfl), by (with_reducible repeat (first | apply Kd.R_alloc | apply Kd.R_drewN | apply Kd.R_drew)); exact Kd.R_mono HO_4.out (fun _ hk => trivial), zh HB.out⟩
section
variable (a1 : Int → Option Bool)
def impl_votesOf.l0 : Nat → Int → Int → Int → List Bool → Option (Int × List Bool)
 | 0, _, _, _, _ => none
 | k + 1, x14, x15, x232000, x232001 => if x15 < x14 then ((a1 x15).bind fun t232 => (if 0 ≤ x15 then (if x15 < (x232001.length : Int) then (impl_votesOf.l0 k x14 (wrap64 (x15 + 1)) x232000 (x232001.set (x15 : Int).toNat t232)) else (none)) else (none))) else (some (x232000, x232001))
def impl_votesOf.f (k : Nat) (a0 : Int) (a1 : Int → Option Bool) : Option (Int × List Bool) := if 0 ≤ a0 then (if 0 ≤ (shl .i64 1 a0) then (if (shl .i64 1 a0 : Int).toNat ≤ 281474976710656 then ((some (List.replicate (shl .i64 1 a0 : Int).toNat false : List Bool)).bind fun y228 => (impl_votesOf.l0 a1 k (y228.length : Int) 0 a0 y228)) else (none)) else (none)) else (none)
theorem impl_votesOf.mono_l : ∀ k, (∀ y0 y1 y2 y3, LeO (impl_votesOf.l0 a1 k y0 y1 y2 y3) (impl_votesOf.l0 a1 (k + 1) y0 y1 y2 y3))
 | 0 => fun _ _ _ _ r h => by simp [impl_votesOf.l0] at h
 | k + 1 => by
  have ih0 := impl_votesOf.mono_l k
  ·intro y0 y1 y2 y3
   unfold impl_votesOf.l0
   repeat' first
   | (with_reducible exact ih0 _ _ _ _)
   | (with_reducible exact LeO.refl _)
   | (with_reducible exact LeO.none _)
   | (with_reducible refine LeO.ite ?_ ?_)
   | (with_reducible refine LeO.bind ?_ (fun _ => ?_))
   | exact ih0 _ _ _ _
   | exact LeO.none _
   | refine LeO.ite ?_ ?_
   | refine LeO.bind ?_ (fun _ => ?_)
theorem impl_votesOf.mono : ∀ a0 a1 k, LeO (impl_votesOf.f k a0 a1) (impl_votesOf.f (k + 1) a0 a1) := by
 intro a0 a1 k
 have ih0 := impl_votesOf.mono_l a1 k
 unfold impl_votesOf.f
 repeat' first
   | (with_reducible exact ih0 _ _ _ _)
   | (with_reducible exact LeO.refl _)
   | (with_reducible exact LeO.none _)
   | (with_reducible refine LeO.ite ?_ ?_)
   | (with_reducible refine LeO.bind ?_ (fun _ => ?_))
   | exact ih0 _ _ _ _
   | exact LeO.none _
   | refine LeO.ite ?_ ?_
   | refine LeO.bind ?_ (fun _ => ?_)
def impl_votesOf.T5 : Bool × List (List Nat × List Nat) := (true, [([], []), ([0], [0]), ([], []), ([], []), ([], []), ([3, 4], [3, 4]), ([1, 2, 0, 1, 2, 3, 4, 5], [1, 2]), ([6, 5, 5, 0, 1, 2, 3, 4, 5], [5, 6])])
def impl_votesOf.B5 : List Nat := [0, 1, 0, 0, 0, 24, 63, 127]
theorem impl_votesOf.tab5 : rtab .any (opsOf Tryz.f82 5) = impl_votesOf.T5 := by kernel_rfl
theorem impl_votesOf.bits5 : waitsOk impl_votesOf.T5.2 impl_votesOf.B5 = true := by kernel_rfl
set_option maxHeartbeats 8000000 in
set_option maxRecDepth 100000 in
theorem impl_votesOf.calls (k : Nat) (a0 : Int) (a1 : Int → Option Bool) (g_ : Nat) (fa_ lb_ : Array Value) (eg_ : ∀ args w, (callFunc g_ args).run Tryz.prog w = .ok (.enter g_ args) w) (r1 : Int) (r2 : List Bool) (w : World) (hp0_ : PredI Tryz.prog g_ fa_ lb_ w a1) (h : impl_votesOf.f k a0 a1 = some (r1, r2)) :
  Calls Tryz.prog 82 #[.int .i64 a0, .func (.func g_) fa_ lb_] w fun e w' => ∃ v1_ : Value, e = .returned (.agg #[.int .i64 r1, v1_]) ∧ Kd.R Kd.bool 4 w' w.heap.size (fun _ => True) v1_ r2 ∧ Below w.heap.size w w' := by
 have hp_ := Aside0.mk hp0_
 clear hp0_
 have hu81 := Tryz.underlying81
 have HB := Aside0.mk (Below.refl w.heap.size w)
 have H : (if 0 ≤ a0 then (if 0 ≤ (shl .i64 1 a0) then (if (shl .i64 1 a0 : Int).toNat ≤ 281474976710656 then ((some (List.replicate (shl .i64 1 a0 : Int).toNat false : List Bool)).bind fun y228 => (impl_votesOf.l0 a1 k (y228.length : Int) 0 a0 y228)) else (none)) else (none)) else (none)) = some (r1, r2) := h
 clear h
 by_cases c3 : 0 ≤ a0
 ·rw [if_pos c3] at H
  have c3b0 := eq_true c3
  have c3b1 : decide (0 ≤ a0) = true := decide_eq_true c3
  clear c3
  obtain ⟨ji4, hji4⟩ : ∃ j_ : Int, (shl .i64 1 a0) = j_ := ⟨_, rfl⟩
  replace H : (if 0 ≤ (ji4) then (if (ji4 : Int).toNat ≤ 281474976710656 then ((some (List.replicate (ji4 : Int).toNat false : List Bool)).bind fun y228 => (impl_votesOf.l0 a1 k (y228.length : Int) 0 a0 y228)) else (none)) else (none)) = some (r1, r2) := by first | (rw [hji4] at H; exact H) | (simp only [hji4] at H ⊢; exact H)
  have hji4_ : (IntKind.i64.wrap (1 * 2 ^ min a0.toNat 64)) = ji4 := hji4
  have hji4z : a0 ≤ 64 → (IntKind.i64.wrap (1 * 2 ^ a0.toNat)) = ji4 := shl_small hji4
  have hji4u : (IntKind.i64.wrap (2 ^ min a0.toNat 64)) = ji4 := by have h_ := hji4_; rw [Int.one_mul] at h_; exact h_
  have hji4v : a0 ≤ 64 → (IntKind.i64.wrap (2 ^ a0.toNat)) = ji4 := fun hle_ => by have h_ := hji4z hle_; rw [Int.one_mul] at h_; exact h_
  have hji4y : (wrap64 (1 * 2 ^ min a0.toNat 64)) = ji4 := (i64_w _).symm.trans hji4_
  have hji4x : a0 ≤ 64 → (wrap64 (1 * 2 ^ a0.toNat)) = ji4 := fun h_ => (i64_w _).symm.trans (hji4z h_)
  by_cases c5 : 0 ≤ (ji4)
  ·rw [if_pos c5] at H
   have c5b0 := eq_true c5
   have c5b1 : decide (0 ≤ (ji4)) = true := decide_eq_true c5
   clear c5
   by_cases c6 : (ji4 : Int).toNat ≤ 281474976710656
   ·rw [if_pos c6] at H
    have c6b0 := eq_true c6
    have c6b1 : decide ((ji4 : Int).toNat ≤ 281474976710656) = true := decide_eq_true c6
    clear c6
    obtain ⟨y228, hy228⟩ : ∃ y_ : List Bool, y_ = (List.replicate (ji4 : Int).toNat false) := ⟨_, rfl⟩
    replace H : (impl_votesOf.l0 a1 k (y228.length : Int) 0 a0 y228) = some (r1, r2) := by first | (rw [hy228]; with_reducible exact H) | (have H2_ := (Option.bind_some _ _).symm.trans H; rw [hy228]; with_reducible exact H2_) | (have H2_ := (Option.bind_some _ _).symm.trans H; with_reducible exact H2_) | with_reducible exact H | (rw [hy228]; exact H) | exact H
    have Ny228 := Aside0.mk hy228
    clear hy228
    have H' := Aside0.mk H
    clear H
    go_enter Tryz.func82, Tryz.ntmps82
    go_wp2_with (first | ((with_reducible refine gate_dst (N := 4) rfl ?_); refine box_event ?hg (N := 4) ?hd (cs := #[.int .i64 0, .slice none 0 0]) (t := 81) ?hr ?_; (case hd => rfl); (case hg => rfl); (case hr => first | (go_simp; done) | (go_simp; rfl)); intro gb227 hg w7 hbox hb; have n2_ := Aside0.mk ((by rw [hg]; exact (below_size (zh HB.out)) : w.heap.size ≤ gb227)); replace HB := Aside0.mk (below_step (zh HB.out) hb); have BK227 := Aside0.mk hbox; have GW227 := n2_; have GE227 := n2_; clear n2_ hb hbox hg) | ((with_reducible refine gate_dst (N := 10) rfl ?_); refine Kd.R_make Kd.bool _ 4 rfl (N := 10) rfl 71 _ _ rfl ji4 rfl rfl Tryz.underlying71 (.bool false) 1 info4 rfl (by decide) (by omega) false (ok := fun _ => True) (okp := fun _ => True) rfl (fun _ hk => hk) trivial (of_decide_eq_true (by first | (with_reducible assumption) | assumption)) (Nat.le_trans (Nat.mul_le_mul_right _ (of_decide_eq_true (by first | (with_reducible assumption) | assumption) : ji4.toNat ≤ 281474976710656)) (by omega)) (Below.refl _ _) (Nat.le_refl _) ?_; intro v229 w8 ho9 hb hg_ hnew_; clear hg_ hnew_; (first | rw [← Ny228.out] at ho9 | (simp only [Int.reduceToNat] at ho9; rw [← Ny228.out] at ho9)); have n0_ := Aside0.mk (Kd.R_lower ho9 (below_size (zh HB.out))); have n1_ := Aside0.mk (blk_below (g := gb227) (o := .cells #[.int .i64 0, .slice none 0 0] 81 (0, 0)) (zb BK227.out) hb); have n2_ := Aside0.mk (below_step (zh HB.out) hb); clear BK227; clear HB; have HO230 := n0_; have BK227 := n1_; have HB := n2_; clear n0_ n1_ n2_; clear hb ho9; obtain ⟨Ao10, co10, eo10⟩ := Kd.R_slice HO230.out; subst eo10) | ((with_reducible refine gate_dst (N := 5) rfl ?_); refine box_event ?hg (N := 5) ?hd (cs := #[.int .i64 0, .slice none 0 0]) (t := 81) ?hr ?_; (case hd => rfl); (case hg => rfl); (case hr => first | (go_simp; done) | (go_simp; rfl)); intro gb231 hg w11 hbox hb; have n0_ := Aside0.mk (Kd.R_below (zr HO230.out) hb); have n1_ := Aside0.mk (blk_below (g := gb227) (o := .cells #[.int .i64 0, .slice none 0 0] 81 (0, 0)) (zb BK227.out) hb); have n2_ := Aside0.mk (below_step (zh HB.out) hb); have n3_ := Aside0.mk (hbox); have n4_ := Aside0.mk ((by rw [hg]; exact (below_size (zh HB.out)) : w.heap.size ≤ gb231)); have n5_ := Aside0.mk ((by rw [hg]; exact (below_size (zh HB.out)) : w.heap.size ≤ gb231)); have n6_ := Aside0.mk ((by rw [hg]; exact Nat.ne_of_lt (blk_lt (g := gb227) (o := .cells #[.int .i64 0, .slice none 0 0] 81 (0, 0)) (zb BK227.out)) : gb227 ≠ gb231)); have n7_ := Aside0.mk ((by rw [hg]; exact Nat.ne_of_gt (blk_lt (g := gb227) (o := .cells #[.int .i64 0, .slice none 0 0] 81 (0, 0)) (zb BK227.out)) : gb231 ≠ gb227)); clear HO230; clear BK227; clear HB; have HO230 := n0_; have BK227 := n1_; have HB := n2_; have BK231 := n3_; have GW231 := n4_; have GE231 := n5_; have NB227_231 := n6_; have NB231_227 := n7_; clear n0_ n1_ n2_ n3_ n4_ n5_ n6_ n7_; clear hb hbox hg; have hnb12 := NB231_227.out; have hnc12 := NB227_231.out; have hcz13_0 : w11.cell? ⟨gb231, 0, none⟩ = some (.int .i64 0) := (blk_cell BK231.out 0).trans rfl; have hcz13_1 : w11.cell? ⟨gb231, 1, none⟩ = some (.slice none 0 0) := (blk_cell BK231.out 1).trans rfl; have hfz13_0 := blk_frozen BK231.out 0; have hfz13_1 := blk_frozen BK231.out 1))
    go_loopg [15] k (fun kq v15 w' => ∃ (x15_1 : Int) (x232001_1 : List Bool) (u232001 : Value), v15 = .int .i64 x15_1 ∧ Aside0 (impl_votesOf.l0 a1 kq (y228.length : Int) x15_1 a0 x232001_1 = some (r1, r2)) ∧ Aside0 (kq ≤ k) ∧ Aside0 (Kd.R Kd.bool 4 w' w.heap.size (fun _ => True) u232001 x232001_1) ∧ Aside0 (w'.heap[gb227]? = some (.cells #[.int .i64 0, (.slice none 0 0)] 81 (0, 0))) ∧ Aside0 (w'.heap[gb231]? = some (.cells #[.int .i64 a0, u232001] 81 (0, 0))) ∧ Aside0 (Below w.heap.size w w'))
    case atStart => exact ⟨(0), (y228), (.slice Ao10 y228.length co10), (by first | rfl | (simp; done) | (simp [*]; done)), H', ⟨Nat.le_refl _⟩, ⟨by (with_reducible repeat (first | apply Kd.R_alloc | apply Kd.R_drewN | apply Kd.R_drew)); exact Kd.R_mono (Kd.R_far (p := ⟨gb231, 1, none⟩) (Kd.R_far (p := ⟨gb231, 0, none⟩) (Kd.R_types HO230.out BK231.out (by decide)) (fun _ hk => hk.2) (.int .i64 a0)) (fun _ hk => hk.2) (.slice Ao10 y228.length co10)) (fun _ hk => trivial)⟩, ⟨by (with_reducible repeat (first | refine blk_drewN ?_ _ | refine blk_drew ?_ | refine blk_alloc ?_ _)); refine blk_far ?_ NB227_231.out _; (with_reducible repeat (first | refine blk_drewN ?_ _ | refine blk_drew ?_ | refine blk_alloc ?_ _)); refine blk_far ?_ NB227_231.out _; (with_reducible repeat (first | refine blk_drewN ?_ _ | refine blk_drew ?_ | refine blk_alloc ?_ _)); exact BK227.out⟩, ⟨by (with_reducible repeat (first | refine blk_drewN ?_ _ | refine blk_drew ?_ | refine blk_alloc ?_ _)); refine blk_put (cs := #[.int .i64 a0, .slice none 0 0]) ?_ 1 _ rfl; (with_reducible repeat (first | refine blk_drewN ?_ _ | refine blk_drew ?_ | refine blk_alloc ?_ _)); refine blk_put (cs := #[.int .i64 0, .slice none 0 0]) ?_ 0 _ rfl; (with_reducible repeat (first | refine blk_drewN ?_ _ | refine blk_drew ?_ | refine blk_alloc ?_ _)); exact BK231.out⟩, ⟨zh HB.out⟩⟩
    case round =>
     clear H'
     try clear c1
     try clear p2
     try clear c3
     try clear c3b0
     try clear c3b1
     try clear c5
     try clear c5b0
     try clear c5b1
     try clear c6
     try clear c6b0
     try clear c6b1
     try clear p6
     try clear c8
     try clear c12
     try clear hcz13_0
     try clear hcz13_1
     try clear hfz13_0
     try clear hfz13_1
     obtain ⟨x15_1, x232001_1, u232001, rfl, HA, HK1, HO_232001, BK227, BK231, HB⟩ := hrel
     cases gk with
     | zero => exact absurd HA.out (by simp [impl_votesOf.l0])
     | succ k1 =>
      have H := HA.out
      clear HA
      simp only [impl_votesOf.l0] at H
      by_cases c14 : x15_1 < (y228.length : Int)
      ·rw [if_pos c14] at H
       have c14b0 : decide (x15_1 < (y228.length : Int)) = true := decide_eq_true c14
       clear c14
       replace H := Option.bind_eq_some_iff.mp H
       obtain ⟨t232, A150, H⟩ := H
       replace H : (if 0 ≤ x15_1 then (if x15_1 < (x232001_1.length : Int) then (impl_votesOf.l0 a1 k1 (y228.length : Int) (wrap64 (x15_1 + 1)) a0 (x232001_1.set (x15_1 : Int).toNat t232)) else (none)) else (none)) = some (r1, r2) := H
       have A15 := Aside0.mk A150
       clear A150
       by_cases c16 : 0 ≤ x15_1
       ·rw [if_pos c16] at H
        have c16b0 : decide (0 ≤ x15_1) = true := decide_eq_true c16
        clear c16
        by_cases c17 : x15_1 < (x232001_1.length : Int)
        ·rw [if_pos c17] at H
         have c17b0 : decide (x15_1 < (x232001_1.length : Int)) = true := decide_eq_true c17
         clear c17
         obtain ⟨y233, hy233⟩ : ∃ y_ : List Bool, y_ = (x232001_1.set (x15_1 : Int).toNat t232) := ⟨_, rfl⟩
         replace H : (impl_votesOf.l0 a1 k1 (y228.length : Int) (wrap64 (x15_1 + 1)) a0 y233) = some (r1, r2) := by first | (rw [hy233]; with_reducible exact H) | (have H2_ := (Option.bind_some _ _).symm.trans H; rw [hy233]; with_reducible exact H2_) | (have H2_ := (Option.bind_some _ _).symm.trans H; with_reducible exact H2_) | with_reducible exact H | (rw [hy233]; exact H) | exact H
         have Ny233 := Aside0.mk hy233
         clear hy233
         have H' := Aside0.mk H
         clear H
         try go_wp2
         have n0_ := Aside0.mk (Kd.R_drew HO_232001.out)
         have n1_ := Aside0.mk (blk_drew BK227.out)
         have n2_ := Aside0.mk (blk_drew BK231.out)
         have n3_ := Aside0.mk (below_drew1 HB.out)
         clear HO_232001
         clear BK227
         clear BK231
         clear HB
         have HO_232001 := n0_
         have BK227 := n1_
         have BK231 := n2_
         have HB := n3_
         clear n0_ n1_ n2_ n3_
         refine start_ (n := 8) (S := fun w' => w'.cell? ⟨gb231, 0, none⟩ = some (.int .i64 a0) ∧ w'.cell? ⟨gb231, 1, none⟩ = some (u232001)) (ds := [7]) (tb 8 0) (by kernel_rfl) rfl rfl ⟨(blk_cell BK231.out 0).trans rfl, (blk_cell BK231.out 1).trans rfl⟩ (fun hHeld => ?_); refine with_tabW impl_votesOf.tab5 impl_votesOf.bits5 (fun HT_ HW_ => ?_)
         generalize wr.drew = w19 at HO_232001 BK227 BK231 HB hHeld ⊢
         refine zu (i := 0) (N := some 18) (tb 8 1) rfl rfl HT_ ?_
         refine zu (i := 2) (N := some 20) (tb 8 5) rfl rfl HT_ ?_
         refine zu (i := 3) (N := some 21) (tb 8 13) rfl rfl HT_ ?_
         refine zu (i := 4) (N := some 22) (tb 8 29) rfl rfl HT_ ?_
         refine take_ (i := 1) (N := some 19) (v := ?_) (a' := ?_) (tb 8 31) rfl rfl (take_ofW HT_.out HW_.out (by kernel_rfl)) (fun _ _ _ h => h) (Or.inl ⟨by rfl, ?_⟩) hHeld ?_ ?_
         rotate_left
         ·rintro w' ⟨s0, s1⟩
          go_simp
          with_reducible rfl
         rotate_left
         ·simp only [Act.put, List.setIfInBounds_toArray, List.set_cons_zero, List.set_cons_succ, i64_w, i32_w]
          rfl
         refine one_ (i := 5) (N := some 23) (tb 8 63) rfl rfl (one_of HT_.out (by kernel_rfl)) (by decide) (fun K hK => ?_)
         refine goesF_ eg_ (by rfl) #[.int .i64 x15_1] (by rfl) rfl rfl (by (try simp only [List.map_toArray, List.map_cons, List.map_nil]); first | done | rfl | (simp only [List.length_drop, List.length_take]; rfl)) ?_
         with_reducible refine (hp_.out _ x15_1 t232 (zh HB.out) A15.out).mono ?_
         rintro e w20 ⟨rfl, hb⟩
         refine ⟨_, rfl, ?_⟩
         have n0_ := Aside0.mk (Kd.R_below (zr HO_232001.out) hb)
         have n1_ := Aside0.mk (blk_below (g := gb227) (o := .cells #[.int .i64 0, .slice none 0 0] 81 (0, 0)) (zb BK227.out) hb)
         have n2_ := Aside0.mk (blk_below (g := gb231) (o := .cells #[.int .i64 a0, u232001] 81 (0, 0)) (zb BK231.out) hb)
         have n3_ := Aside0.mk (below_step (zh HB.out) hb)
         clear HO_232001
         clear BK227
         clear BK231
         clear HB
         have HO_232001 := n0_
         have BK227 := n1_
         have BK231 := n2_
         have HB := n3_
         clear n0_ n1_ n2_ n3_
         (try clear hb)
         (try clear hb2)
         (try clear hk)
         (try clear hi)
         have p18 : 0 ≤ (x15_1 : Int) := of_decide_eq_true (by first | (with_reducible assumption) | assumption)
         have q18 : (x15_1 : Int) < ((x232001_1.length : Int) : Int) := of_decide_eq_true (by first | (with_reducible assumption) | assumption)
         obtain ⟨go18, co18, eo18, gb18, gl18, cl18, HG18⟩ := Kd.R_form HO_232001.out (by omega)
         (first | cases eo18 | (injection eo18 with ea_ en_ ec_; (first | subst ea_ | (injection ea_ with ea_; subst ea_)); subst ec_; clear en_))
         have GB18 := Aside0.mk gb18
         have GG18 := Aside0.mk HG18
         clear gb18 gl18 HG18
         obtain ⟨hx18_0, hf18_0⟩ := Kd.R_celln false HO_232001.out (x15_1 : Int) p18 q18
         replace p18 := eq_true p18
         replace q18 := eq_true q18
         have HP21 := Kd.R_putn HO_232001.out (x15_1 : Int) t232
         rw [← Ny233.out] at HP21
         have HQ21 := Aside0.mk HP21
         clear HP21
         refine hK.out _ _ ⟨(blk_cell BK231.out 0).trans rfl, (blk_cell BK231.out 1).trans rfl⟩ (fun hHeld => ?_)
         clear hK K
         refine norm_ (a' := ?_) ?_ ?_
         rotate_left
         ·show Act.put _ (some 23) _ = _
          simp only [Act.put, List.setIfInBounds_toArray, List.set_cons_zero, List.set_cons_succ, i64_w, i32_w]
          rfl
         refine zu (i := 6) (N := some 24) (tb 8 127) rfl rfl HT_ ?_
         refine last_ (i := 7) (N := none) (tb 8 255) rfl rfl (one_of HT_.out (by kernel_rfl)) (by decide) (fun K hK => ?_)
         refine skip_ (w1 := ?_) (by rfl) rfl ?_ ?_
         rotate_left
         ·go_simp
          rfl
         refine hK.out _ _ ?_
         clear hK K
         refine done_ (done_of HT_.out (by kernel_rfl)) ?_
         try go_wp2
         go_roundg k1
         case measure => have := HK1.out; omega
         case rel => exact ⟨(wrap64 (x15_1 + 1)), (y233), (.slice (some ⟨go18, 0, none⟩) x232001_1.length co18), (by first | rfl | (simp; done) | (simp [*]; done)), H', ⟨by have := HK1.out; omega⟩, ⟨zr HQ21.out⟩, ⟨by (with_reducible repeat (first | refine blk_drewN ?_ _ | refine blk_drew ?_ | refine blk_alloc ?_ _)); refine blk_far ?_ (by have h_ := Kd.R_ne HO_232001.out BK227.out (by decide); intro e_; exact h_ (by rw [e_]; rfl)) _; (with_reducible repeat (first | refine blk_drewN ?_ _ | refine blk_drew ?_ | refine blk_alloc ?_ _)); exact BK227.out⟩, ⟨by (with_reducible repeat (first | refine blk_drewN ?_ _ | refine blk_drew ?_ | refine blk_alloc ?_ _)); refine blk_far ?_ (by have h_ := Kd.R_ne HO_232001.out BK231.out (by decide); intro e_; exact h_ (by rw [e_]; rfl)) _; (with_reducible repeat (first | refine blk_drewN ?_ _ | refine blk_drew ?_ | refine blk_alloc ?_ _)); exact BK231.out⟩, ⟨zh HB.out⟩⟩
        ·rw [if_neg c17] at H
         exact absurd H (by simp)
       ·rw [if_neg c16] at H
        exact absurd H (by simp)
      ·rw [if_neg c14] at H
       have c14b0 : decide (x15_1 < (y228.length : Int)) = false := decide_eq_false c14
       clear c14
       simp only [Option.some.injEq, Prod.mk.injEq] at H
       obtain ⟨rfl, rfl⟩ := H
       have hnb22 := NB231_227.out
       have hnc22 := NB227_231.out
       have hcz23_0 : wr.cell? ⟨gb231, 0, none⟩ = some (.int .i64 a0) := (blk_cell BK231.out 0).trans rfl
       have hcz23_1 : wr.cell? ⟨gb231, 1, none⟩ = some (u232001) := (blk_cell BK231.out 1).trans rfl
       have hfz23_0 := blk_frozen BK231.out 0
       have hfz23_1 := blk_frozen BK231.out 1
       have hcz24_0 : wr.cell? ⟨gb227, 0, none⟩ = some (.int .i64 0) := (blk_cell BK227.out 0).trans rfl
       have hcz24_1 : wr.cell? ⟨gb227, 1, none⟩ = some (.slice none 0 0) := (blk_cell BK227.out 1).trans rfl
       have hfz24_0 := blk_frozen BK227.out 0
       have hfz24_1 := blk_frozen BK227.out 1
       obtain ⟨Ao25, co25, eo25⟩ := Kd.R_slice HO_232001.out
       subst eo25
       go_wp2
       refine bodyPost_ret (results_cell_row rfl _ _ gb227 81 #[.int .i64 a0, .slice Ao25 x232001_1.length co25] (0, 0) _ rfl (by (with_reducible repeat (first | refine blk_drewN ?_ _ | refine blk_drew ?_ | refine blk_alloc ?_ _)); refine blk_put (cs := #[.int .i64 a0, .slice none 0 0]) ?_ 1 _ rfl; (with_reducible repeat (first | refine blk_drewN ?_ _ | refine blk_drew ?_ | refine blk_alloc ?_ _)); refine blk_put (cs := #[.int .i64 0, .slice none 0 0]) ?_ 0 _ rfl; (with_reducible repeat (first | refine blk_drewN ?_ _ | refine blk_drew ?_ | refine blk_alloc ?_ _)); exact BK227.out) Tryz.underlying81 rfl (by kernel_rfl)) rfl ?_
       exact ⟨_, by first | rfl | (simp [errW_none, errW_some] <;> rfl) | (simp only [← hji4]; first | rfl | (simp [errW_none, errW_some] <;> rfl)) | (simp [*, errW_none, errW_some] <;> rfl), by (with_reducible repeat (first | apply Kd.R_alloc | apply Kd.R_drewN | apply Kd.R_drew)); exact Kd.R_mono (Kd.R_far (p := ⟨gb227, 1, none⟩) (Kd.R_far (p := ⟨gb227, 0, none⟩) (Kd.R_types HO_232001.out BK227.out (by decide)) (fun _ hk => hk.2) (.int .i64 a0)) (fun _ hk => hk.2) (.slice Ao25 x232001_1.length co25)) (fun _ hk => trivial), zh HB.out⟩
   ·rw [if_neg c6] at H
    exact absurd H (by simp)
  ·rw [if_neg c5] at H
   exact absurd H (by simp)
 ·rw [if_neg c3] at H
  exact absurd H (by simp)
end
def impl_has.f (a0 : Int) (a1 : Int) : Option (Bool) := if 0 ≤ a1 then (some ((Go.bits .and .i64 (shr .i64 a0 a1) 1) == 1)) else (none)
set_option maxHeartbeats 8000000 in
set_option maxRecDepth 100000 in
theorem impl_has.calls (a0 : Int) (a1 : Int) (r : Bool) (w : World) (h : impl_has.f a0 a1 = some r) :
  Calls Tryz.prog 84 #[.int .i64 a0, .int .i64 a1] w fun e w' => e = .returned (.bool r) ∧ Drawn0 w w' := by
 have H : (if 0 ≤ a1 then (some ((Go.bits .and .i64 (shr .i64 a0 a1) 1) == 1)) else (none)) = some r := h
 clear h
 by_cases c3 : 0 ≤ a1
 rotate_left
 ·rw [if_neg c3] at H
  exact absurd H (by simp)
 rw [if_pos c3] at H
 have c3b0 := eq_true c3
 have c3b1 : decide (0 ≤ a1) = true := decide_eq_true c3
 clear c3
 obtain ⟨ji4, hji4⟩ : ∃ j_ : Int, (shr .i64 a0 a1) = j_ := ⟨_, rfl⟩
 replace H : (some ((Go.bits .and .i64 (ji4) 1) == 1)) = some r := by first | (rw [hji4] at H; exact H) | (simp only [hji4] at H ⊢; exact H)
 have hji4_ : (a0 / 2 ^ min a1.toNat 64) = ji4 := hji4
 have hji4z : a1 ≤ 64 → (a0 / 2 ^ a1.toNat) = ji4 := shr_small hji4
 obtain rfl := Option.some.inj H
 go_enter Tryz.func84, Tryz.ntmps84
 go_wp2
 go_ret
 exact ⟨by first | rfl | (simp; done) | (simp only [← hji4] <;> (first | rfl | simp)) | (simp [*]; done), by repeat (first | exact Drawn0.refl _ | apply Drawn0.step)⟩
def cmp_isNaN_int.f (a0 : Int) : Option (Bool) := some (a0 != a0)
set_option maxHeartbeats 8000000 in
set_option maxRecDepth 100000 in
theorem cmp_isNaN_int.calls (a0 : Int) (r : Bool) (w : World) (h : cmp_isNaN_int.f a0 = some r) :
  Calls Tryz.prog 136 #[.int .i64 a0] w fun e w' => e = .returned (.bool r) ∧ Drawn0 w w' := by
 have H : (some (a0 != a0)) = some r := h
 clear h
 obtain rfl := Option.some.inj H
 go_enter Tryz.func136, Tryz.ntmps136
 go_wp2
 go_ret
 exact ⟨by first | rfl | (simp; done) | (simp [*]; done), by repeat (first | exact Drawn0.refl _ | apply Drawn0.step)⟩
def cmp_Compare_int.f (a0 : Int) (a1 : Int) : Option (Int) := (cmp_isNaN_int.f a0).bind fun t243 => ((cmp_isNaN_int.f a1).bind fun t244 => (if t243 = true then (if t244 = true then (some 0) else (some (-1))) else (if t244 = true then (some 1) else (if a0 < a1 then (some (-1)) else (if a0 > a1 then (some 1) else (some 0))))))
set_option maxHeartbeats 8000000 in
set_option maxRecDepth 100000 in
theorem cmp_Compare_int.calls (a0 : Int) (a1 : Int) (r : Int) (w : World) (h : cmp_Compare_int.f a0 a1 = some r) :
  Calls Tryz.prog 113 #[.int .i64 a0, .int .i64 a1] w fun e w' => e = .returned (.int .i64 r) ∧ Drawn0 w w' := by
 have H : ((cmp_isNaN_int.f a0).bind fun t243 => ((cmp_isNaN_int.f a1).bind fun t244 => (if t243 = true then (if t244 = true then (some 0) else (some (-1))) else (if t244 = true then (some 1) else (if a0 < a1 then (some (-1)) else (if a0 > a1 then (some 1) else (some 0))))))) = some r := h
 clear h
 replace H := Option.bind_eq_some_iff.mp H
 obtain ⟨t243, A30, H⟩ := H
 replace H : ((cmp_isNaN_int.f a1).bind fun t244 => (if t243 = true then (if t244 = true then (some 0) else (some (-1))) else (if t244 = true then (some 1) else (if a0 < a1 then (some (-1)) else (if a0 > a1 then (some 1) else (some 0)))))) = some r := H
 have A3 := Aside0.mk A30
 clear A30
 replace H := Option.bind_eq_some_iff.mp H
 obtain ⟨t244, A40, H⟩ := H
 replace H : (if t243 = true then (if t244 = true then (some 0) else (some (-1))) else (if t244 = true then (some 1) else (if a0 < a1 then (some (-1)) else (if a0 > a1 then (some 1) else (some 0))))) = some r := H
 have A4 := Aside0.mk A40
 clear A40
 by_cases c5 : t243 = true
 ·subst c5
  have H1 : (if t244 = true then (some 0) else (some (-1))) = some r := by rw [if_pos rfl] at H; exact H
  clear H
  have H := H1
  clear H1
  by_cases c6 : t244 = true
  ·subst c6
   have H1 : (some 0) = some r := by rw [if_pos rfl] at H; exact H
   clear H
   have H := H1
   clear H1
   obtain rfl := Option.some.inj H
   go_enter Tryz.func113, Tryz.ntmps113
   go_wp2_with (first | ((with_reducible refine gate_callee (f := 136) rfl ?_); refine goesL_ (some 8) rfl rfl Tryz.func136 (by kernel_rfl) rfl #[.int .i64 a0] rfl (by (try simp only [List.map_toArray, List.map_cons, List.map_nil]); first | done | rfl | (simp only [List.length_drop, List.length_take]; rfl)) ?_; (with_reducible refine (cmp_isNaN_int.calls a0 true _ A3.out).mono ?_); rintro e w' ⟨rfl, ⟨nd, rfl⟩⟩; refine ⟨_, rfl, ?_⟩) | ((with_reducible refine gate_callee (f := 136) rfl ?_); refine goesL_ (some 10) rfl rfl Tryz.func136 (by kernel_rfl) rfl #[.int .i64 a1] rfl (by (try simp only [List.map_toArray, List.map_cons, List.map_nil]); first | done | rfl | (simp only [List.length_drop, List.length_take]; rfl)) ?_; (with_reducible refine (cmp_isNaN_int.calls a1 true _ A4.out).mono ?_); rintro e w' ⟨rfl, ⟨nd, rfl⟩⟩; refine ⟨_, rfl, ?_⟩))
   go_ret
   exact ⟨by first | rfl | (simp; done) | (simp [*]; done), by repeat (first | exact Drawn0.refl _ | apply Drawn0.step)⟩
  replace c6 := Bool.eq_false_iff.mpr c6
  subst c6
  have H1 : (some (-1)) = some r := by rw [if_neg (show ¬ (false = true) by decide)] at H; exact H
  clear H
  have H := H1
  clear H1
  obtain rfl := Option.some.inj H
  go_enter Tryz.func113, Tryz.ntmps113
  go_wp2_with (first | ((with_reducible refine gate_callee (f := 136) rfl ?_); refine goesL_ (some 8) rfl rfl Tryz.func136 (by kernel_rfl) rfl #[.int .i64 a0] rfl (by (try simp only [List.map_toArray, List.map_cons, List.map_nil]); first | done | rfl | (simp only [List.length_drop, List.length_take]; rfl)) ?_; (with_reducible refine (cmp_isNaN_int.calls a0 true _ A3.out).mono ?_); rintro e w' ⟨rfl, ⟨nd, rfl⟩⟩; refine ⟨_, rfl, ?_⟩) | ((with_reducible refine gate_callee (f := 136) rfl ?_); refine goesL_ (some 10) rfl rfl Tryz.func136 (by kernel_rfl) rfl #[.int .i64 a1] rfl (by (try simp only [List.map_toArray, List.map_cons, List.map_nil]); first | done | rfl | (simp only [List.length_drop, List.length_take]; rfl)) ?_; (with_reducible refine (cmp_isNaN_int.calls a1 false _ A4.out).mono ?_); rintro e w' ⟨rfl, ⟨nd, rfl⟩⟩; refine ⟨_, rfl, ?_⟩))
  go_ret
  exact ⟨by first | rfl | (simp; done) | (simp [*]; done), by repeat (first | exact Drawn0.refl _ | apply Drawn0.step)⟩
 replace c5 := Bool.eq_false_iff.mpr c5
 subst c5
 have H1 : (if t244 = true then (some 1) else (if a0 < a1 then (some (-1)) else (if a0 > a1 then (some 1) else (some 0)))) = some r := by rw [if_neg (show ¬ (false = true) by decide)] at H; exact H
 clear H
 have H := H1
 clear H1
 by_cases c7 : t244 = true
 ·subst c7
  have H1 : (some 1) = some r := by rw [if_pos rfl] at H; exact H
  clear H
  have H := H1
  clear H1
  obtain rfl := Option.some.inj H
  go_enter Tryz.func113, Tryz.ntmps113
  go_wp2_with (first | ((with_reducible refine gate_callee (f := 136) rfl ?_); refine goesL_ (some 8) rfl rfl Tryz.func136 (by kernel_rfl) rfl #[.int .i64 a0] rfl (by (try simp only [List.map_toArray, List.map_cons, List.map_nil]); first | done | rfl | (simp only [List.length_drop, List.length_take]; rfl)) ?_; (with_reducible refine (cmp_isNaN_int.calls a0 false _ A3.out).mono ?_); rintro e w' ⟨rfl, ⟨nd, rfl⟩⟩; refine ⟨_, rfl, ?_⟩) | ((with_reducible refine gate_callee (f := 136) rfl ?_); refine goesL_ (some 10) rfl rfl Tryz.func136 (by kernel_rfl) rfl #[.int .i64 a1] rfl (by (try simp only [List.map_toArray, List.map_cons, List.map_nil]); first | done | rfl | (simp only [List.length_drop, List.length_take]; rfl)) ?_; (with_reducible refine (cmp_isNaN_int.calls a1 true _ A4.out).mono ?_); rintro e w' ⟨rfl, ⟨nd, rfl⟩⟩; refine ⟨_, rfl, ?_⟩))
  go_ret
  exact ⟨by first | rfl | (simp; done) | (simp [*]; done), by repeat (first | exact Drawn0.refl _ | apply Drawn0.step)⟩
 replace c7 := Bool.eq_false_iff.mpr c7
 subst c7
 have H1 : (if a0 < a1 then (some (-1)) else (if a0 > a1 then (some 1) else (some 0))) = some r := by rw [if_neg (show ¬ (false = true) by decide)] at H; exact H
 clear H
 have H := H1
 clear H1
 by_cases c8 : a0 < a1
 ·rw [if_pos c8] at H
  have c8b0 : decide (a0 < a1) = true := decide_eq_true c8
  clear c8
  obtain rfl := Option.some.inj H
  go_enter Tryz.func113, Tryz.ntmps113
  go_wp2_with (first | ((with_reducible refine gate_callee (f := 136) rfl ?_); refine goesL_ (some 8) rfl rfl Tryz.func136 (by kernel_rfl) rfl #[.int .i64 a0] rfl (by (try simp only [List.map_toArray, List.map_cons, List.map_nil]); first | done | rfl | (simp only [List.length_drop, List.length_take]; rfl)) ?_; (with_reducible refine (cmp_isNaN_int.calls a0 false _ A3.out).mono ?_); rintro e w' ⟨rfl, ⟨nd, rfl⟩⟩; refine ⟨_, rfl, ?_⟩) | ((with_reducible refine gate_callee (f := 136) rfl ?_); refine goesL_ (some 10) rfl rfl Tryz.func136 (by kernel_rfl) rfl #[.int .i64 a1] rfl (by (try simp only [List.map_toArray, List.map_cons, List.map_nil]); first | done | rfl | (simp only [List.length_drop, List.length_take]; rfl)) ?_; (with_reducible refine (cmp_isNaN_int.calls a1 false _ A4.out).mono ?_); rintro e w' ⟨rfl, ⟨nd, rfl⟩⟩; refine ⟨_, rfl, ?_⟩))
  go_ret
  exact ⟨by first | rfl | (simp; done) | (simp [*]; done), by repeat (first | exact Drawn0.refl _ | apply Drawn0.step)⟩
 rw [if_neg c8] at H
 have c8b0 : decide (a0 < a1) = false := decide_eq_false c8
 clear c8
 by_cases c9 : a0 > a1
 ·rw [if_pos c9] at H
  have c9b0 : decide (a1 < a0) = true := decide_eq_true c9
  clear c9
  obtain rfl := Option.some.inj H
  go_enter Tryz.func113, Tryz.ntmps113
  go_wp2_with (first | ((with_reducible refine gate_callee (f := 136) rfl ?_); refine goesL_ (some 8) rfl rfl Tryz.func136 (by kernel_rfl) rfl #[.int .i64 a0] rfl (by (try simp only [List.map_toArray, List.map_cons, List.map_nil]); first | done | rfl | (simp only [List.length_drop, List.length_take]; rfl)) ?_; (with_reducible refine (cmp_isNaN_int.calls a0 false _ A3.out).mono ?_); rintro e w' ⟨rfl, ⟨nd, rfl⟩⟩; refine ⟨_, rfl, ?_⟩) | ((with_reducible refine gate_callee (f := 136) rfl ?_); refine goesL_ (some 10) rfl rfl Tryz.func136 (by kernel_rfl) rfl #[.int .i64 a1] rfl (by (try simp only [List.map_toArray, List.map_cons, List.map_nil]); first | done | rfl | (simp only [List.length_drop, List.length_take]; rfl)) ?_; (with_reducible refine (cmp_isNaN_int.calls a1 false _ A4.out).mono ?_); rintro e w' ⟨rfl, ⟨nd, rfl⟩⟩; refine ⟨_, rfl, ?_⟩))
  go_ret
  exact ⟨by first | rfl | (simp; done) | (simp [*]; done), by repeat (first | exact Drawn0.refl _ | apply Drawn0.step)⟩
 rw [if_neg c9] at H
 have c9b0 : decide (a1 < a0) = false := decide_eq_false c9
 clear c9
 obtain rfl := Option.some.inj H
 go_enter Tryz.func113, Tryz.ntmps113
 go_wp2_with (first | ((with_reducible refine gate_callee (f := 136) rfl ?_); refine goesL_ (some 8) rfl rfl Tryz.func136 (by kernel_rfl) rfl #[.int .i64 a0] rfl (by (try simp only [List.map_toArray, List.map_cons, List.map_nil]); first | done | rfl | (simp only [List.length_drop, List.length_take]; rfl)) ?_; (with_reducible refine (cmp_isNaN_int.calls a0 false _ A3.out).mono ?_); rintro e w' ⟨rfl, ⟨nd, rfl⟩⟩; refine ⟨_, rfl, ?_⟩) | ((with_reducible refine gate_callee (f := 136) rfl ?_); refine goesL_ (some 10) rfl rfl Tryz.func136 (by kernel_rfl) rfl #[.int .i64 a1] rfl (by (try simp only [List.map_toArray, List.map_cons, List.map_nil]); first | done | rfl | (simp only [List.length_drop, List.length_take]; rfl)) ?_; (with_reducible refine (cmp_isNaN_int.calls a1 false _ A4.out).mono ?_); rintro e w' ⟨rfl, ⟨nd, rfl⟩⟩; refine ⟨_, rfl, ?_⟩))
 go_ret
 exact ⟨by first | rfl | (simp; done) | (simp [*]; done), by repeat (first | exact Drawn0.refl _ | apply Drawn0.step)⟩
def slices_Compare_int_int.l0 : Nat → List Int → List Int → List Int → Int → Int → Option (Int)
 | 0, _, _, _, _, _ => none
 | k + 1, x0, x1, x9, x10, x11 => if x11 < x10 then (if 0 ≤ x11 then (if x11 < (x9.length : Int) then (if x11 ≥ (x1.length : Int) then (some 1) else (if x11 < (x1.length : Int) then ((cmp_Compare_int.f (rd x9 x11) (rd x1 x11)).bind fun t247 => (if t247 = 0 then (slices_Compare_int_int.l0 k x0 x1 x9 x10 (wrap64 (x11 + 1))) else (some t247))) else (none))) else (none)) else (none)) else (if (x0.length : Int) < (x1.length : Int) then (some (-1)) else (some 0))
def slices_Compare_int_int.f (k : Nat) (l0 : List Int) (l1 : List Int) : Option (Int) := slices_Compare_int_int.l0 k l0 l1 l0 (l0.length : Int) 0
set_option maxHeartbeats 8000000 in
set_option maxRecDepth 100000 in
theorem slices_Compare_int_int.calls (k : Nat) (A0 : Option Addr) (c0 : Nat) (l0 : List Int) (A1 : Option Addr) (c1 : Nat) (l1 : List Int) (r : Int) (w : World) (hr0 : Kd.C (Kd.int .i64) w A0 l0.length l0) (hc0 : l0.length ≤ c0) (hr1 : Kd.C (Kd.int .i64) w A1 l1.length l1) (hc1 : l1.length ≤ c1) (h : slices_Compare_int_int.f k l0 l1 = some r) :
  Calls Tryz.prog 98 #[.slice A0 l0.length c0, .slice A1 l1.length c1] w fun e w' => e = .returned (.int .i64 r) ∧ Drawn0 w w' := by
 have HR0 := Aside0.mk hr0
 have HC0 := Aside0.mk hc0
 clear hr0 hc0
 have HR1 := Aside0.mk hr1
 have HC1 := Aside0.mk hc1
 clear hr1 hc1
 have H : (slices_Compare_int_int.l0 k l0 l1 l0 (l0.length : Int) 0) = some r := h
 clear h
 have H' := Aside0.mk H
 clear H
 go_enter Tryz.func98, Tryz.ntmps98
 go_wp2
 go_loopg [11] k (fun kq v11 w' => ∃ (x11_1 : Int), v11 = .int .i64 x11_1 ∧ Aside0 (slices_Compare_int_int.l0 kq l0 l1 l0 (l0.length : Int) x11_1 = some r) ∧ Aside0 (kq ≤ k) ∧ Drawn0 w w')
 case atStart => exact ⟨(0), (by first | rfl | (simp; done) | (simp [*]; done)), H', ⟨Nat.le_refl _⟩, by repeat (first | exact Drawn0.refl _ | apply Drawn0.step)⟩
 case round =>
  clear H'
  try clear c1
  try clear p2
  obtain ⟨x11_1, rfl, HA, HK1, ⟨m1, rfl⟩⟩ := hrel
  cases gk with
  | zero => exact absurd HA.out (by simp [slices_Compare_int_int.l0])
  | succ k1 =>
   have H := HA.out
   clear HA
   simp only [slices_Compare_int_int.l0] at H
   by_cases c3 : x11_1 < (l0.length : Int)
   rotate_left
   ·rw [if_neg c3] at H
    have c3b0 : decide (x11_1 < (l0.length : Int)) = false := decide_eq_false c3
    clear c3
    by_cases c10 : (l0.length : Int) < (l1.length : Int)
    ·rw [if_pos c10] at H
     have c10b0 : decide ((l0.length : Int) < (l1.length : Int)) = true := decide_eq_true c10
     have c10b1 : decide (l0.length < l1.length) = true := decide_eq_true (Int.ofNat_lt.mp c10)
     clear c10
     obtain rfl := Option.some.inj H
     go_wp2
     go_ret
     exact ⟨by first | rfl | (simp; done) | (simp [*]; done), by repeat (first | exact Drawn0.refl _ | apply Drawn0.step)⟩
    rw [if_neg c10] at H
    have c10b0 : decide ((l0.length : Int) < (l1.length : Int)) = false := decide_eq_false c10
    have c10b1 : decide (l0.length < l1.length) = false := decide_eq_false (fun h => c10 (Int.ofNat_lt.mpr h))
    clear c10
    obtain rfl := Option.some.inj H
    go_wp2
    go_ret
    exact ⟨by first | rfl | (simp; done) | (simp [*]; done), by repeat (first | exact Drawn0.refl _ | apply Drawn0.step)⟩
   rw [if_pos c3] at H
   have c3b0 : decide (x11_1 < (l0.length : Int)) = true := decide_eq_true c3
   clear c3
   by_cases c4 : 0 ≤ x11_1
   rotate_left
   ·rw [if_neg c4] at H
    exact absurd H (by simp)
   rw [if_pos c4] at H
   have c4b0 : decide (0 ≤ x11_1) = true := decide_eq_true c4
   clear c4
   by_cases c5 : x11_1 < (l0.length : Int)
   rotate_left
   ·rw [if_neg c5] at H
    exact absurd H (by simp)
   rw [if_pos c5] at H
   have c5b0 : decide (x11_1 < (l0.length : Int)) = true := decide_eq_true c5
   clear c5
   by_cases c6 : x11_1 ≥ (l1.length : Int)
   ·rw [if_pos c6] at H
    have c6b0 : decide ((l1.length : Int) ≤ x11_1) = true := decide_eq_true c6
    clear c6
    obtain rfl := Option.some.inj H
    have p245 : 0 ≤ (x11_1 : Int) := of_decide_eq_true (by first | (with_reducible assumption) | assumption)
    have q245 : x11_1 < (l0.length : Int) := of_decide_eq_true (by first | (with_reducible assumption) | assumption)
    obtain ⟨ad245, e245, hx245_0⟩ := Kd.at_int HR0.out x11_1 p245 q245
    cases e245
    replace p245 := eq_true p245
    replace q245 := eq_true q245
    go_wp2
    go_ret
    exact ⟨by first | rfl | (simp; done) | (simp [*]; done), by repeat (first | exact Drawn0.refl _ | apply Drawn0.step)⟩
   rw [if_neg c6] at H
   have c6b0 : decide ((l1.length : Int) ≤ x11_1) = false := decide_eq_false c6
   clear c6
   by_cases c7 : x11_1 < (l1.length : Int)
   rotate_left
   ·rw [if_neg c7] at H
    exact absurd H (by simp)
   rw [if_pos c7] at H
   have c7b0 : decide (x11_1 < (l1.length : Int)) = true := decide_eq_true c7
   clear c7
   replace H := Option.bind_eq_some_iff.mp H
   obtain ⟨t247, A80, H⟩ := H
   replace H : (if t247 = 0 then (slices_Compare_int_int.l0 k1 l0 l1 l0 (l0.length : Int) (wrap64 (x11_1 + 1))) else (some t247)) = some r := H
   have A8 := Aside0.mk A80
   clear A80
   by_cases c9 : t247 = 0
   rotate_left
   ·rw [if_neg c9] at H
    have c9b0 : (t247 == 0) = false := beq_eq_false_iff_ne.mpr c9
    have c9b1 : (t247 != 0) = true := bne_iff_ne.mpr c9
    obtain rfl := Option.some.inj H
    have p245 : 0 ≤ (x11_1 : Int) := of_decide_eq_true (by first | (with_reducible assumption) | assumption)
    have q245 : x11_1 < (l0.length : Int) := of_decide_eq_true (by first | (with_reducible assumption) | assumption)
    obtain ⟨ad245, e245, hx245_0⟩ := Kd.at_int HR0.out x11_1 p245 q245
    cases e245
    replace p245 := eq_true p245
    replace q245 := eq_true q245
    have p246 : 0 ≤ (x11_1 : Int) := of_decide_eq_true (by first | (with_reducible assumption) | assumption)
    have q246 : x11_1 < (l1.length : Int) := of_decide_eq_true (by first | (with_reducible assumption) | assumption)
    obtain ⟨ad246, e246, hx246_0⟩ := Kd.at_int HR1.out x11_1 p246 q246
    cases e246
    replace p246 := eq_true p246
    replace q246 := eq_true q246
    go_wp2_with (first | ((with_reducible refine gate_callee (f := 113) rfl ?_); refine goesL_ (some 26) rfl rfl Tryz.func113 (by kernel_rfl) rfl #[.int .i64 (rd l0 x11_1), .int .i64 (rd l1 x11_1)] rfl (by (try simp only [List.map_toArray, List.map_cons, List.map_nil]); first | done | rfl | (simp only [List.length_drop, List.length_take]; rfl)) ?_; (with_reducible refine (cmp_Compare_int.calls (rd l0 x11_1) (rd l1 x11_1) t247 _ A8.out).mono ?_); rintro e w' ⟨rfl, ⟨nd, rfl⟩⟩; refine ⟨_, rfl, ?_⟩))
    go_ret
    exact ⟨by first | rfl | (simp; done) | (simp [*]; done), by repeat (first | exact Drawn0.refl _ | apply Drawn0.step)⟩
   rw [if_pos c9] at H
   have c9b0 : (t247 == 0) = true := beq_iff_eq.mpr c9
   have c9b1 : (t247 != 0) = false := bne_eq_false_iff_eq.mpr c9
   clear c9
   have H' := Aside0.mk H
   clear H
   have p245 : 0 ≤ (x11_1 : Int) := of_decide_eq_true (by first | (with_reducible assumption) | assumption)
   have q245 : x11_1 < (l0.length : Int) := of_decide_eq_true (by first | (with_reducible assumption) | assumption)
   obtain ⟨ad245, e245, hx245_0⟩ := Kd.at_int HR0.out x11_1 p245 q245
   cases e245
   replace p245 := eq_true p245
   replace q245 := eq_true q245
   have p246 : 0 ≤ (x11_1 : Int) := of_decide_eq_true (by first | (with_reducible assumption) | assumption)
   have q246 : x11_1 < (l1.length : Int) := of_decide_eq_true (by first | (with_reducible assumption) | assumption)
   obtain ⟨ad246, e246, hx246_0⟩ := Kd.at_int HR1.out x11_1 p246 q246
   cases e246
   replace p246 := eq_true p246
   replace q246 := eq_true q246
   go_wp2_with (first | ((with_reducible refine gate_callee (f := 113) rfl ?_); refine goesL_ (some 26) rfl rfl Tryz.func113 (by kernel_rfl) rfl #[.int .i64 (rd l0 x11_1), .int .i64 (rd l1 x11_1)] rfl (by (try simp only [List.map_toArray, List.map_cons, List.map_nil]); first | done | rfl | (simp only [List.length_drop, List.length_take]; rfl)) ?_; (with_reducible refine (cmp_Compare_int.calls (rd l0 x11_1) (rd l1 x11_1) t247 _ A8.out).mono ?_); rintro e w' ⟨rfl, ⟨nd, rfl⟩⟩; refine ⟨_, rfl, ?_⟩))
   go_roundg k1
   case measure => have := HK1.out; omega
   case rel => exact ⟨(wrap64 (x11_1 + 1)), (by first | rfl | (simp; done) | (simp [*]; done)), H', ⟨by have := HK1.out; omega⟩, by repeat (first | exact Drawn0.refl _ | apply Drawn0.step)⟩
def impl_votes_isLeast.l0 : Nat → Int → Int → Int → Int → List Bool → Option (Bool)
 | 0, _, _, _, _, _ => none
 | k + 1, x1, x13, x14, x260000, x260001 => if x14 < x13 then ((impl_has.f x1 x14).bind fun t261 => (if t261 = true then (if 0 ≤ x14 then (if 0 ≤ (Go.bits .andNot .i64 x1 (shl .i64 1 x14)) then (if (Go.bits .andNot .i64 x1 (shl .i64 1 x14)) < (x260001.length : Int) then (if rdOf false x260001 (Go.bits .andNot .i64 x1 (shl .i64 1 x14)) = true then (some false) else (impl_votes_isLeast.l0 k x1 x13 (wrap64 (x14 + 1)) x260000 x260001)) else (none)) else (none)) else (none)) else (impl_votes_isLeast.l0 k x1 x13 (wrap64 (x14 + 1)) x260000 x260001))) else (some true)
def impl_votes_isLeast.f (k : Nat) (a0_0 : Int) (l0_1 : List Bool) (a1 : Int) : Option (Bool) := if 0 ≤ a1 then (if a1 < (l0_1.length : Int) then (if rdOf false l0_1 a1 = true then (impl_votes_isLeast.l0 k a1 a0_0 0 a0_0 l0_1) else (some false)) else (none)) else (none)
theorem impl_votes_isLeast.mono_l : ∀ k, (∀ y0 y1 y2 y3 y4, LeO (impl_votes_isLeast.l0 k y0 y1 y2 y3 y4) (impl_votes_isLeast.l0 (k + 1) y0 y1 y2 y3 y4))
 | 0 => fun _ _ _ _ _ r h => by simp [impl_votes_isLeast.l0] at h
 | k + 1 => by
  have ih0 := impl_votes_isLeast.mono_l k
  ·intro y0 y1 y2 y3 y4
   unfold impl_votes_isLeast.l0
   repeat' first
   | (with_reducible exact ih0 _ _ _ _ _)
   | (with_reducible exact LeO.refl _)
   | (with_reducible exact LeO.none _)
   | (with_reducible refine LeO.ite ?_ ?_)
   | (with_reducible refine LeO.bind ?_ (fun _ => ?_))
   | exact ih0 _ _ _ _ _
   | exact LeO.none _
   | refine LeO.ite ?_ ?_
   | refine LeO.bind ?_ (fun _ => ?_)
theorem impl_votes_isLeast.mono : ∀ a0 a1 a2 k, LeO (impl_votes_isLeast.f k a0 a1 a2) (impl_votes_isLeast.f (k + 1) a0 a1 a2) := by
 intro a0 a1 a2 k
 have ih0 := impl_votes_isLeast.mono_l k
 unfold impl_votes_isLeast.f
 repeat' first
   | (with_reducible exact ih0 _ _ _ _ _)
   | (with_reducible exact LeO.refl _)
   | (with_reducible exact LeO.none _)
   | (with_reducible refine LeO.ite ?_ ?_)
   | (with_reducible refine LeO.bind ?_ (fun _ => ?_))
   | exact ih0 _ _ _ _ _
   | exact LeO.none _
   | refine LeO.ite ?_ ?_
   | refine LeO.bind ?_ (fun _ => ?_)
set_option maxHeartbeats 8000000 in
set_option maxRecDepth 100000 in
theorem impl_votes_isLeast.calls (k : Nat) (a0_0 : Int) (A0_1 : Option Addr) (c0_1 : Nat) (l0_1 : List Bool) (a1 : Int) (r : Bool) (w : World) (hr0_1 : Kd.C Kd.bool w A0_1 l0_1.length l0_1) (hc0_1 : l0_1.length ≤ c0_1) (h : impl_votes_isLeast.f k a0_0 l0_1 a1 = some r) :
  Calls Tryz.prog 116 #[.agg #[.int .i64 a0_0, .slice A0_1 l0_1.length c0_1], .int .i64 a1] w fun e w' => e = .returned (.bool r) ∧ Below w.heap.size w w' := by
 have hu81 := Tryz.underlying81
 have HR0_1 := Aside0.mk hr0_1
 have HC0_1 := Aside0.mk hc0_1
 clear hr0_1 hc0_1
 have HB := Aside0.mk (Below.refl w.heap.size w)
 have H : (if 0 ≤ a1 then (if a1 < (l0_1.length : Int) then (if rdOf false l0_1 a1 = true then (impl_votes_isLeast.l0 k a1 a0_0 0 a0_0 l0_1) else (some false)) else (none)) else (none)) = some r := h
 clear h
 by_cases c3 : 0 ≤ a1
 rotate_left
 ·rw [if_neg c3] at H
  exact absurd H (by simp)
 rw [if_pos c3] at H
 have c3b0 : decide (0 ≤ a1) = true := decide_eq_true c3
 clear c3
 by_cases c4 : a1 < (l0_1.length : Int)
 rotate_left
 ·rw [if_neg c4] at H
  exact absurd H (by simp)
 rw [if_pos c4] at H
 have c4b0 : decide (a1 < (l0_1.length : Int)) = true := decide_eq_true c4
 clear c4
 obtain ⟨bq5, hbq5⟩ : ∃ b_ : Bool, b_ = (rdOf false l0_1 a1) := ⟨_, rfl⟩
 replace H : (if bq5 = true then (impl_votes_isLeast.l0 k a1 a0_0 0 a0_0 l0_1) else (some false)) = some r := by rw [← hbq5] at H; exact H
 have Nbq5 := Aside0.mk hbq5
 clear hbq5
 by_cases c6 : bq5 = true
 rotate_left
 ·replace c6 := Bool.eq_false_iff.mpr c6
  subst c6
  have H1 : (some false) = some r := by rw [if_neg (show ¬ (false = true) by decide)] at H; exact H
  clear H
  have H := H1
  clear H1
  obtain rfl := Option.some.inj H
  go_enter Tryz.func116, Tryz.ntmps116
  go_wp2_with (first | ((with_reducible refine gate_dst (N := 2) rfl ?_); refine box_event ?hg (N := 2) ?hd (cs := #[.int .i64 a0_0, .slice A0_1 l0_1.length c0_1]) (t := 81) ?hr ?_; (case hd => rfl); (case hg => rfl); (case hr => first | (go_simp; done) | (go_simp; rfl)); intro gb259 hg w20 hbox hb; have n2_ := Aside0.mk ((by rw [hg]; exact (below_size (zh HB.out)) : w.heap.size ≤ gb259)); replace HB := Aside0.mk (below_step (zh HB.out) hb); have BK259 := Aside0.mk hbox; have GW259 := n2_; have GE259 := n2_; clear n2_ hb hbox hg; have hcz21_0 : w20.cell? ⟨gb259, 0, none⟩ = some (.int .i64 a0_0) := (blk_cell BK259.out 0).trans rfl; have hcz21_1 : w20.cell? ⟨gb259, 1, none⟩ = some (.slice A0_1 l0_1.length c0_1) := (blk_cell BK259.out 1).trans rfl; have hfz21_0 := blk_frozen BK259.out 0; have hfz21_1 := blk_frozen BK259.out 1; have p260 : 0 ≤ (a1 : Int) := of_decide_eq_true (by first | (with_reducible assumption) | assumption); have q260 : a1 < (l0_1.length : Int) := of_decide_eq_true (by first | (with_reducible assumption) | assumption); obtain ⟨ad260, e260, hx260_0⟩ := Kd.at_bool HR0_1.out a1 p260 q260; (try rw [← Nbq5.out] at hx260_0); cases e260; replace hx260_0 := (HB.out.cell (World.block_lt_of_cell? w _ hx260_0)).trans hx260_0; replace p260 := eq_true p260; replace q260 := eq_true q260))
  repeat (go_quiet (first | ((with_reducible refine gate_dst (N := 2) rfl ?_); refine box_event ?hg (N := 2) ?hd (cs := #[.int .i64 a0_0, .slice A0_1 l0_1.length c0_1]) (t := 81) ?hr ?_; (case hd => rfl); (case hg => rfl); (case hr => first | (go_simp; done) | (go_simp; rfl)); intro gb259 hg w20 hbox hb; have n2_ := Aside0.mk ((by rw [hg]; exact (below_size (zh HB.out)) : w.heap.size ≤ gb259)); replace HB := Aside0.mk (below_step (zh HB.out) hb); have BK259 := Aside0.mk hbox; have GW259 := n2_; have GE259 := n2_; clear n2_ hb hbox hg; have hcz21_0 : w20.cell? ⟨gb259, 0, none⟩ = some (.int .i64 a0_0) := (blk_cell BK259.out 0).trans rfl; have hcz21_1 : w20.cell? ⟨gb259, 1, none⟩ = some (.slice A0_1 l0_1.length c0_1) := (blk_cell BK259.out 1).trans rfl; have hfz21_0 := blk_frozen BK259.out 0; have hfz21_1 := blk_frozen BK259.out 1; have p260 : 0 ≤ (a1 : Int) := of_decide_eq_true (by first | (with_reducible assumption) | assumption); have q260 : a1 < (l0_1.length : Int) := of_decide_eq_true (by first | (with_reducible assumption) | assumption); obtain ⟨ad260, e260, hx260_0⟩ := Kd.at_bool HR0_1.out a1 p260 q260; (try rw [← Nbq5.out] at hx260_0); cases e260; replace hx260_0 := (HB.out.cell (World.block_lt_of_cell? w _ hx260_0)).trans hx260_0; replace p260 := eq_true p260; replace q260 := eq_true q260)); try go_wp2_with (first | ((with_reducible refine gate_dst (N := 2) rfl ?_); refine box_event ?hg (N := 2) ?hd (cs := #[.int .i64 a0_0, .slice A0_1 l0_1.length c0_1]) (t := 81) ?hr ?_; (case hd => rfl); (case hg => rfl); (case hr => first | (go_simp; done) | (go_simp; rfl)); intro gb259 hg w20 hbox hb; have n2_ := Aside0.mk ((by rw [hg]; exact (below_size (zh HB.out)) : w.heap.size ≤ gb259)); replace HB := Aside0.mk (below_step (zh HB.out) hb); have BK259 := Aside0.mk hbox; have GW259 := n2_; have GE259 := n2_; clear n2_ hb hbox hg; have hcz21_0 : w20.cell? ⟨gb259, 0, none⟩ = some (.int .i64 a0_0) := (blk_cell BK259.out 0).trans rfl; have hcz21_1 : w20.cell? ⟨gb259, 1, none⟩ = some (.slice A0_1 l0_1.length c0_1) := (blk_cell BK259.out 1).trans rfl; have hfz21_0 := blk_frozen BK259.out 0; have hfz21_1 := blk_frozen BK259.out 1; have p260 : 0 ≤ (a1 : Int) := of_decide_eq_true (by first | (with_reducible assumption) | assumption); have q260 : a1 < (l0_1.length : Int) := of_decide_eq_true (by first | (with_reducible assumption) | assumption); obtain ⟨ad260, e260, hx260_0⟩ := Kd.at_bool HR0_1.out a1 p260 q260; (try rw [← Nbq5.out] at hx260_0); cases e260; replace hx260_0 := (HB.out.cell (World.block_lt_of_cell? w _ hx260_0)).trans hx260_0; replace p260 := eq_true p260; replace q260 := eq_true q260)))
  go_ret
  exact ⟨by first | rfl | (simp [*, errW_none, errW_some] <;> rfl), zh HB.out⟩
 subst c6
 have H1 : (impl_votes_isLeast.l0 k a1 a0_0 0 a0_0 l0_1) = some r := by rw [if_pos rfl] at H; exact H
 clear H
 have H := H1
 clear H1
 have H' := Aside0.mk H
 clear H
 go_enter Tryz.func116, Tryz.ntmps116
 go_wp2_with (first | ((with_reducible refine gate_dst (N := 2) rfl ?_); refine box_event ?hg (N := 2) ?hd (cs := #[.int .i64 a0_0, .slice A0_1 l0_1.length c0_1]) (t := 81) ?hr ?_; (case hd => rfl); (case hg => rfl); (case hr => first | (go_simp; done) | (go_simp; rfl)); intro gb259 hg w7 hbox hb; have n2_ := Aside0.mk ((by rw [hg]; exact (below_size (zh HB.out)) : w.heap.size ≤ gb259)); replace HB := Aside0.mk (below_step (zh HB.out) hb); have BK259 := Aside0.mk hbox; have GW259 := n2_; have GE259 := n2_; clear n2_ hb hbox hg; have hcz8_0 : w7.cell? ⟨gb259, 0, none⟩ = some (.int .i64 a0_0) := (blk_cell BK259.out 0).trans rfl; have hcz8_1 : w7.cell? ⟨gb259, 1, none⟩ = some (.slice A0_1 l0_1.length c0_1) := (blk_cell BK259.out 1).trans rfl; have hfz8_0 := blk_frozen BK259.out 0; have hfz8_1 := blk_frozen BK259.out 1; have p260 : 0 ≤ (a1 : Int) := of_decide_eq_true (by first | (with_reducible assumption) | assumption); have q260 : a1 < (l0_1.length : Int) := of_decide_eq_true (by first | (with_reducible assumption) | assumption); obtain ⟨ad260, e260, hx260_0⟩ := Kd.at_bool HR0_1.out a1 p260 q260; (try rw [← Nbq5.out] at hx260_0); cases e260; replace hx260_0 := (HB.out.cell (World.block_lt_of_cell? w _ hx260_0)).trans hx260_0; replace p260 := eq_true p260; replace q260 := eq_true q260))
 repeat (go_quiet (first | ((with_reducible refine gate_dst (N := 2) rfl ?_); refine box_event ?hg (N := 2) ?hd (cs := #[.int .i64 a0_0, .slice A0_1 l0_1.length c0_1]) (t := 81) ?hr ?_; (case hd => rfl); (case hg => rfl); (case hr => first | (go_simp; done) | (go_simp; rfl)); intro gb259 hg w7 hbox hb; have n2_ := Aside0.mk ((by rw [hg]; exact (below_size (zh HB.out)) : w.heap.size ≤ gb259)); replace HB := Aside0.mk (below_step (zh HB.out) hb); have BK259 := Aside0.mk hbox; have GW259 := n2_; have GE259 := n2_; clear n2_ hb hbox hg; have hcz8_0 : w7.cell? ⟨gb259, 0, none⟩ = some (.int .i64 a0_0) := (blk_cell BK259.out 0).trans rfl; have hcz8_1 : w7.cell? ⟨gb259, 1, none⟩ = some (.slice A0_1 l0_1.length c0_1) := (blk_cell BK259.out 1).trans rfl; have hfz8_0 := blk_frozen BK259.out 0; have hfz8_1 := blk_frozen BK259.out 1; have p260 : 0 ≤ (a1 : Int) := of_decide_eq_true (by first | (with_reducible assumption) | assumption); have q260 : a1 < (l0_1.length : Int) := of_decide_eq_true (by first | (with_reducible assumption) | assumption); obtain ⟨ad260, e260, hx260_0⟩ := Kd.at_bool HR0_1.out a1 p260 q260; (try rw [← Nbq5.out] at hx260_0); cases e260; replace hx260_0 := (HB.out.cell (World.block_lt_of_cell? w _ hx260_0)).trans hx260_0; replace p260 := eq_true p260; replace q260 := eq_true q260)); try go_wp2_with (first | ((with_reducible refine gate_dst (N := 2) rfl ?_); refine box_event ?hg (N := 2) ?hd (cs := #[.int .i64 a0_0, .slice A0_1 l0_1.length c0_1]) (t := 81) ?hr ?_; (case hd => rfl); (case hg => rfl); (case hr => first | (go_simp; done) | (go_simp; rfl)); intro gb259 hg w7 hbox hb; have n2_ := Aside0.mk ((by rw [hg]; exact (below_size (zh HB.out)) : w.heap.size ≤ gb259)); replace HB := Aside0.mk (below_step (zh HB.out) hb); have BK259 := Aside0.mk hbox; have GW259 := n2_; have GE259 := n2_; clear n2_ hb hbox hg; have hcz8_0 : w7.cell? ⟨gb259, 0, none⟩ = some (.int .i64 a0_0) := (blk_cell BK259.out 0).trans rfl; have hcz8_1 : w7.cell? ⟨gb259, 1, none⟩ = some (.slice A0_1 l0_1.length c0_1) := (blk_cell BK259.out 1).trans rfl; have hfz8_0 := blk_frozen BK259.out 0; have hfz8_1 := blk_frozen BK259.out 1; have p260 : 0 ≤ (a1 : Int) := of_decide_eq_true (by first | (with_reducible assumption) | assumption); have q260 : a1 < (l0_1.length : Int) := of_decide_eq_true (by first | (with_reducible assumption) | assumption); obtain ⟨ad260, e260, hx260_0⟩ := Kd.at_bool HR0_1.out a1 p260 q260; (try rw [← Nbq5.out] at hx260_0); cases e260; replace hx260_0 := (HB.out.cell (World.block_lt_of_cell? w _ hx260_0)).trans hx260_0; replace p260 := eq_true p260; replace q260 := eq_true q260)))
 go_loopg [14] k (fun kq v14 w' => ∃ (x14_1 : Int), v14 = .int .i64 x14_1 ∧ Aside0 (impl_votes_isLeast.l0 kq a1 a0_0 x14_1 a0_0 l0_1 = some r) ∧ Aside0 (kq ≤ k) ∧ Aside0 (w'.heap[gb259]? = some (.cells #[.int .i64 a0_0, (.slice (some ad260) l0_1.length c0_1)] 81 (0, 0))) ∧ Aside0 (Below w.heap.size w w'))
 case atStart => exact ⟨(0), (by first | rfl | (simp; done) | (simp [*]; done)), H', ⟨Nat.le_refl _⟩, ⟨zb BK259.out⟩, ⟨zh HB.out⟩⟩
 case round =>
  clear H'
  try clear c1
  try clear p2
  try clear q2
  try clear hx2
  try clear c3
  try clear c3b0
  try clear c4
  try clear c4b0
  try clear q5
  try clear c6
  try clear hcz8_0
  try clear hcz8_1
  try clear hfz8_0
  try clear hfz8_1
  try clear hx260_0
  try clear p260
  try clear q260
  obtain ⟨x14_1, rfl, HA, HK1, BK259, HB⟩ := hrel
  cases gk with
  | zero => exact absurd HA.out (by simp [impl_votes_isLeast.l0])
  | succ k1 =>
   have H := HA.out
   clear HA
   simp only [impl_votes_isLeast.l0] at H
   by_cases c9 : x14_1 < a0_0
   rotate_left
   ·rw [if_neg c9] at H
    have c9b0 : decide (x14_1 < a0_0) = false := decide_eq_false c9
    clear c9
    obtain rfl := Option.some.inj H
    go_wp2
    repeat (go_quiet (fail); try go_wp2)
    go_ret
    exact ⟨by first | rfl | (simp [*, errW_none, errW_some] <;> rfl), zh HB.out⟩
   rw [if_pos c9] at H
   have c9b0 : decide (x14_1 < a0_0) = true := decide_eq_true c9
   clear c9
   replace H := Option.bind_eq_some_iff.mp H
   obtain ⟨t261, A100, H⟩ := H
   replace H : (if t261 = true then (if 0 ≤ x14_1 then (if 0 ≤ (Go.bits .andNot .i64 a1 (shl .i64 1 x14_1)) then (if (Go.bits .andNot .i64 a1 (shl .i64 1 x14_1)) < (l0_1.length : Int) then (if rdOf false l0_1 (Go.bits .andNot .i64 a1 (shl .i64 1 x14_1)) = true then (some false) else (impl_votes_isLeast.l0 k1 a1 a0_0 (wrap64 (x14_1 + 1)) a0_0 l0_1)) else (none)) else (none)) else (none)) else (impl_votes_isLeast.l0 k1 a1 a0_0 (wrap64 (x14_1 + 1)) a0_0 l0_1)) = some r := H
   have A10 := Aside0.mk A100
   clear A100
   by_cases c11 : t261 = true
   rotate_left
   ·replace c11 := Bool.eq_false_iff.mpr c11
    subst c11
    have H1 : (impl_votes_isLeast.l0 k1 a1 a0_0 (wrap64 (x14_1 + 1)) a0_0 l0_1) = some r := by rw [if_neg (show ¬ (false = true) by decide)] at H; exact H
    clear H
    have H := H1
    clear H1
    have H' := Aside0.mk H
    clear H
    go_wp2_with (first | (go_at_call 84; (with_reducible refine (impl_has.calls a1 x14_1 false _ A10.out).mono ?_); rintro e w' ⟨rfl, ⟨nd, rfl⟩⟩; (try first | exact ⟨rfl, _, zd⟩ | exact ⟨rfl, _, ze⟩)))
    repeat (go_quiet (first | (go_at_call 84; (with_reducible refine (impl_has.calls a1 x14_1 false _ A10.out).mono ?_); rintro e w' ⟨rfl, ⟨nd, rfl⟩⟩; (try first | exact ⟨rfl, _, zd⟩ | exact ⟨rfl, _, ze⟩))); try go_wp2_with (first | (go_at_call 84; (with_reducible refine (impl_has.calls a1 x14_1 false _ A10.out).mono ?_); rintro e w' ⟨rfl, ⟨nd, rfl⟩⟩; (try first | exact ⟨rfl, _, zd⟩ | exact ⟨rfl, _, ze⟩))))
    go_roundg k1
    case measure => have := HK1.out; omega
    case rel => exact ⟨(wrap64 (x14_1 + 1)), (by first | rfl | (simp; done) | (simp [*]; done)), H', ⟨by have := HK1.out; omega⟩, ⟨zb BK259.out⟩, ⟨zh HB.out⟩⟩
   subst c11
   have H1 : (if 0 ≤ x14_1 then (if 0 ≤ (Go.bits .andNot .i64 a1 (shl .i64 1 x14_1)) then (if (Go.bits .andNot .i64 a1 (shl .i64 1 x14_1)) < (l0_1.length : Int) then (if rdOf false l0_1 (Go.bits .andNot .i64 a1 (shl .i64 1 x14_1)) = true then (some false) else (impl_votes_isLeast.l0 k1 a1 a0_0 (wrap64 (x14_1 + 1)) a0_0 l0_1)) else (none)) else (none)) else (none)) = some r := by rw [if_pos rfl] at H; exact H
   clear H
   have H := H1
   clear H1
   by_cases c12 : 0 ≤ x14_1
   rotate_left
   ·rw [if_neg c12] at H
    exact absurd H (by simp)
   rw [if_pos c12] at H
   have c12b0 := eq_true c12
   have c12b1 : decide (0 ≤ x14_1) = true := decide_eq_true c12
   clear c12
   obtain ⟨ji13, hji13⟩ : ∃ j_ : Int, (shl .i64 1 x14_1) = j_ := ⟨_, rfl⟩
   replace H : (if 0 ≤ (Go.bits .andNot .i64 a1 (ji13)) then (if (Go.bits .andNot .i64 a1 (ji13)) < (l0_1.length : Int) then (if rdOf false l0_1 (Go.bits .andNot .i64 a1 (ji13)) = true then (some false) else (impl_votes_isLeast.l0 k1 a1 a0_0 (wrap64 (x14_1 + 1)) a0_0 l0_1)) else (none)) else (none)) = some r := by first | (rw [hji13] at H; exact H) | (simp only [hji13] at H ⊢; exact H)
   (try rw [hji13] at A10)
   have hji13_ : (IntKind.i64.wrap (1 * 2 ^ min x14_1.toNat 64)) = ji13 := hji13
   have hji13z : x14_1 ≤ 64 → (IntKind.i64.wrap (1 * 2 ^ x14_1.toNat)) = ji13 := shl_small hji13
   have hji13u : (IntKind.i64.wrap (2 ^ min x14_1.toNat 64)) = ji13 := by have h_ := hji13_; rw [Int.one_mul] at h_; exact h_
   have hji13v : x14_1 ≤ 64 → (IntKind.i64.wrap (2 ^ x14_1.toNat)) = ji13 := fun hle_ => by have h_ := hji13z hle_; rw [Int.one_mul] at h_; exact h_
   have hji13y : (wrap64 (1 * 2 ^ min x14_1.toNat 64)) = ji13 := (i64_w _).symm.trans hji13_
   have hji13x : x14_1 ≤ 64 → (wrap64 (1 * 2 ^ x14_1.toNat)) = ji13 := fun h_ => (i64_w _).symm.trans (hji13z h_)
   by_cases c14 : 0 ≤ (Go.bits .andNot .i64 a1 (ji13))
   rotate_left
   ·rw [if_neg c14] at H
    exact absurd H (by simp)
   rw [if_pos c14] at H
   have c14b0 : decide (0 ≤ (Go.bits .andNot .i64 a1 (ji13))) = true := decide_eq_true c14
   clear c14
   by_cases c15 : (Go.bits .andNot .i64 a1 (ji13)) < (l0_1.length : Int)
   rotate_left
   ·rw [if_neg c15] at H
    exact absurd H (by simp)
   rw [if_pos c15] at H
   have c15b0 : decide ((Go.bits .andNot .i64 a1 (ji13)) < (l0_1.length : Int)) = true := decide_eq_true c15
   clear c15
   obtain ⟨bq16, hbq16⟩ : ∃ b_ : Bool, b_ = (rdOf false l0_1 (Go.bits .andNot .i64 a1 (ji13))) := ⟨_, rfl⟩
   replace H : (if bq16 = true then (some false) else (impl_votes_isLeast.l0 k1 a1 a0_0 (wrap64 (x14_1 + 1)) a0_0 l0_1)) = some r := by rw [← hbq16] at H; exact H
   have Nbq16 := Aside0.mk hbq16
   clear hbq16
   by_cases c17 : bq16 = true
   ·subst c17
    have H1 : (some false) = some r := by rw [if_pos rfl] at H; exact H
    clear H
    have H := H1
    clear H1
    obtain rfl := Option.some.inj H
    go_wp2_with (first | (go_at_call 84; (with_reducible refine (impl_has.calls a1 x14_1 true _ A10.out).mono ?_); rintro e w' ⟨rfl, ⟨nd, rfl⟩⟩; (try first | exact ⟨rfl, _, zd⟩ | exact ⟨rfl, _, ze⟩); have hcz18_0 : wr.cell? ⟨gb259, 0, none⟩ = some (.int .i64 a0_0) := (blk_cell BK259.out 0).trans rfl; have hcz18_1 : wr.cell? ⟨gb259, 1, none⟩ = some (.slice (some ad260) l0_1.length c0_1) := (blk_cell BK259.out 1).trans rfl; have hfz18_0 := blk_frozen BK259.out 0; have hfz18_1 := blk_frozen BK259.out 1; have p262 : 0 ≤ ((Go.bits .andNot .i64 a1 (ji13)) : Int) := of_decide_eq_true (by first | (with_reducible assumption) | assumption); have q262 : (Go.bits .andNot .i64 a1 (ji13)) < (l0_1.length : Int) := of_decide_eq_true (by first | (with_reducible assumption) | assumption); obtain ⟨ad262, e262, hx262_0⟩ := Kd.at_bool HR0_1.out (Go.bits .andNot .i64 a1 (ji13)) p262 q262; (try rw [← Nbq5.out] at hx262_0); (try rw [← Nbq16.out] at hx262_0); obtain rfl : ad260 = ad262 := (by injection e262); replace hx262_0 := (HB.out.cell (World.block_lt_of_cell? w _ hx262_0)).trans hx262_0; replace p262 := eq_true p262; replace q262 := eq_true q262))
    repeat (go_quiet (first | (go_at_call 84; (with_reducible refine (impl_has.calls a1 x14_1 true _ A10.out).mono ?_); rintro e w' ⟨rfl, ⟨nd, rfl⟩⟩; (try first | exact ⟨rfl, _, zd⟩ | exact ⟨rfl, _, ze⟩); have hcz18_0 : wr.cell? ⟨gb259, 0, none⟩ = some (.int .i64 a0_0) := (blk_cell BK259.out 0).trans rfl; have hcz18_1 : wr.cell? ⟨gb259, 1, none⟩ = some (.slice (some ad260) l0_1.length c0_1) := (blk_cell BK259.out 1).trans rfl; have hfz18_0 := blk_frozen BK259.out 0; have hfz18_1 := blk_frozen BK259.out 1; have p262 : 0 ≤ ((Go.bits .andNot .i64 a1 (ji13)) : Int) := of_decide_eq_true (by first | (with_reducible assumption) | assumption); have q262 : (Go.bits .andNot .i64 a1 (ji13)) < (l0_1.length : Int) := of_decide_eq_true (by first | (with_reducible assumption) | assumption); obtain ⟨ad262, e262, hx262_0⟩ := Kd.at_bool HR0_1.out (Go.bits .andNot .i64 a1 (ji13)) p262 q262; (try rw [← Nbq5.out] at hx262_0); (try rw [← Nbq16.out] at hx262_0); obtain rfl : ad260 = ad262 := (by injection e262); replace hx262_0 := (HB.out.cell (World.block_lt_of_cell? w _ hx262_0)).trans hx262_0; replace p262 := eq_true p262; replace q262 := eq_true q262)); try go_wp2_with (first | (go_at_call 84; (with_reducible refine (impl_has.calls a1 x14_1 true _ A10.out).mono ?_); rintro e w' ⟨rfl, ⟨nd, rfl⟩⟩; (try first | exact ⟨rfl, _, zd⟩ | exact ⟨rfl, _, ze⟩); have hcz18_0 : wr.cell? ⟨gb259, 0, none⟩ = some (.int .i64 a0_0) := (blk_cell BK259.out 0).trans rfl; have hcz18_1 : wr.cell? ⟨gb259, 1, none⟩ = some (.slice (some ad260) l0_1.length c0_1) := (blk_cell BK259.out 1).trans rfl; have hfz18_0 := blk_frozen BK259.out 0; have hfz18_1 := blk_frozen BK259.out 1; have p262 : 0 ≤ ((Go.bits .andNot .i64 a1 (ji13)) : Int) := of_decide_eq_true (by first | (with_reducible assumption) | assumption); have q262 : (Go.bits .andNot .i64 a1 (ji13)) < (l0_1.length : Int) := of_decide_eq_true (by first | (with_reducible assumption) | assumption); obtain ⟨ad262, e262, hx262_0⟩ := Kd.at_bool HR0_1.out (Go.bits .andNot .i64 a1 (ji13)) p262 q262; (try rw [← Nbq5.out] at hx262_0); (try rw [← Nbq16.out] at hx262_0); obtain rfl : ad260 = ad262 := (by injection e262); replace hx262_0 := (HB.out.cell (World.block_lt_of_cell? w _ hx262_0)).trans hx262_0; replace p262 := eq_true p262; replace q262 := eq_true q262)))
    go_ret
    exact ⟨by first | rfl | (simp [errW_none, errW_some] <;> rfl) | (simp only [← hji13]; first | rfl | (simp [errW_none, errW_some] <;> rfl)) | (simp [*, errW_none, errW_some] <;> rfl), zh HB.out⟩
   replace c17 := Bool.eq_false_iff.mpr c17
   subst c17
   have H1 : (impl_votes_isLeast.l0 k1 a1 a0_0 (wrap64 (x14_1 + 1)) a0_0 l0_1) = some r := by rw [if_neg (show ¬ (false = true) by decide)] at H; exact H
   clear H
   have H := H1
   clear H1
   have H' := Aside0.mk H
   clear H
   go_wp2_with (first | (go_at_call 84; (with_reducible refine (impl_has.calls a1 x14_1 true _ A10.out).mono ?_); rintro e w' ⟨rfl, ⟨nd, rfl⟩⟩; (try first | exact ⟨rfl, _, zd⟩ | exact ⟨rfl, _, ze⟩); have hcz19_0 : wr.cell? ⟨gb259, 0, none⟩ = some (.int .i64 a0_0) := (blk_cell BK259.out 0).trans rfl; have hcz19_1 : wr.cell? ⟨gb259, 1, none⟩ = some (.slice (some ad260) l0_1.length c0_1) := (blk_cell BK259.out 1).trans rfl; have hfz19_0 := blk_frozen BK259.out 0; have hfz19_1 := blk_frozen BK259.out 1; have p262 : 0 ≤ ((Go.bits .andNot .i64 a1 (ji13)) : Int) := of_decide_eq_true (by first | (with_reducible assumption) | assumption); have q262 : (Go.bits .andNot .i64 a1 (ji13)) < (l0_1.length : Int) := of_decide_eq_true (by first | (with_reducible assumption) | assumption); obtain ⟨ad262, e262, hx262_0⟩ := Kd.at_bool HR0_1.out (Go.bits .andNot .i64 a1 (ji13)) p262 q262; (try rw [← Nbq5.out] at hx262_0); (try rw [← Nbq16.out] at hx262_0); obtain rfl : ad260 = ad262 := (by injection e262); replace hx262_0 := (HB.out.cell (World.block_lt_of_cell? w _ hx262_0)).trans hx262_0; replace p262 := eq_true p262; replace q262 := eq_true q262))
   repeat (go_quiet (first | (go_at_call 84; (with_reducible refine (impl_has.calls a1 x14_1 true _ A10.out).mono ?_); rintro e w' ⟨rfl, ⟨nd, rfl⟩⟩; (try first | exact ⟨rfl, _, zd⟩ | exact ⟨rfl, _, ze⟩); have hcz19_0 : wr.cell? ⟨gb259, 0, none⟩ = some (.int .i64 a0_0) := (blk_cell BK259.out 0).trans rfl; have hcz19_1 : wr.cell? ⟨gb259, 1, none⟩ = some (.slice (some ad260) l0_1.length c0_1) := (blk_cell BK259.out 1).trans rfl; have hfz19_0 := blk_frozen BK259.out 0; have hfz19_1 := blk_frozen BK259.out 1; have p262 : 0 ≤ ((Go.bits .andNot .i64 a1 (ji13)) : Int) := of_decide_eq_true (by first | (with_reducible assumption) | assumption); have q262 : (Go.bits .andNot .i64 a1 (ji13)) < (l0_1.length : Int) := of_decide_eq_true (by first | (with_reducible assumption) | assumption); obtain ⟨ad262, e262, hx262_0⟩ := Kd.at_bool HR0_1.out (Go.bits .andNot .i64 a1 (ji13)) p262 q262; (try rw [← Nbq5.out] at hx262_0); (try rw [← Nbq16.out] at hx262_0); obtain rfl : ad260 = ad262 := (by injection e262); replace hx262_0 := (HB.out.cell (World.block_lt_of_cell? w _ hx262_0)).trans hx262_0; replace p262 := eq_true p262; replace q262 := eq_true q262)); try go_wp2_with (first | (go_at_call 84; (with_reducible refine (impl_has.calls a1 x14_1 true _ A10.out).mono ?_); rintro e w' ⟨rfl, ⟨nd, rfl⟩⟩; (try first | exact ⟨rfl, _, zd⟩ | exact ⟨rfl, _, ze⟩); have hcz19_0 : wr.cell? ⟨gb259, 0, none⟩ = some (.int .i64 a0_0) := (blk_cell BK259.out 0).trans rfl; have hcz19_1 : wr.cell? ⟨gb259, 1, none⟩ = some (.slice (some ad260) l0_1.length c0_1) := (blk_cell BK259.out 1).trans rfl; have hfz19_0 := blk_frozen BK259.out 0; have hfz19_1 := blk_frozen BK259.out 1; have p262 : 0 ≤ ((Go.bits .andNot .i64 a1 (ji13)) : Int) := of_decide_eq_true (by first | (with_reducible assumption) | assumption); have q262 : (Go.bits .andNot .i64 a1 (ji13)) < (l0_1.length : Int) := of_decide_eq_true (by first | (with_reducible assumption) | assumption); obtain ⟨ad262, e262, hx262_0⟩ := Kd.at_bool HR0_1.out (Go.bits .andNot .i64 a1 (ji13)) p262 q262; (try rw [← Nbq5.out] at hx262_0); (try rw [← Nbq16.out] at hx262_0); obtain rfl : ad260 = ad262 := (by injection e262); replace hx262_0 := (HB.out.cell (World.block_lt_of_cell? w _ hx262_0)).trans hx262_0; replace p262 := eq_true p262; replace q262 := eq_true q262)))
   go_roundg k1
   case measure => have := HK1.out; omega
   case rel => exact ⟨(wrap64 (x14_1 + 1)), (by first | rfl | (simp; done) | (simp [*]; done)), H', ⟨by have := HK1.out; omega⟩, ⟨zb BK259.out⟩, ⟨zh HB.out⟩⟩
end Go.Proofs.YtgfdfabeninfeaaGreat.Q
end
section
namespace Go.Proofs.YtgfdfabeninfeaaGreat.Q
open Go.RowKit Go.Proofs.YtgfdfabeninfeaaGreatW.PrintWords Go.Proofs.YtgfdfabeninfeaaGreatW.PrintLast Go.Proofs.YtgfdfabeninfeaaGreatW.PrintMore
set_option linter.unusedVariables false
set_option linter.unusedSimpArgs false
theorem voBefore_ev (a b : List Int) (ha : a.length ≤ 1152921504606846976) : Ev (fun k => spec_voBefore.f k a b) (lexB a b) := by
  unfold spec_voBefore.f
  have := ev_range a.length (fun k i => spec_voBefore.l0 k a b (i : Int)) (fun i => lexB (a.drop i) (b.drop i)) ?_ ?_ 0 (Nat.zero_le _)
  · simpa using this
  · refine ev_succ ?_
    simp only [spec_voBefore.l0]
    refine ev_neg (by omega) (ev_succ ?_)
    simp only [spec_voBefore.j1]
    refine ev_neg (by simp) (ev_eqv (Ev.now _) ?_)
    rw [drop_end, lexB_drop_nil]
  · intro i hi ih
    refine ev_succ ?_
    simp only [spec_voBefore.l0]
    refine ev_pos (by omega) (ev_succ ?_)
    simp only [spec_voBefore.j1]
    by_cases h2 : i < b.length
    · refine ev_pos (by simp; omega) (ev_pos (by omega) (ev_pos (by omega) (ev_pos (by omega) ?_)))
      rw [rd_get hi, rd_get h2, wrap_succ hi ha]
      show Ev _ (lexB (a.drop i) (b.drop i))
      rw [List.drop_eq_getElem_cons hi, List.drop_eq_getElem_cons h2]
      unfold lexB
      by_cases e : a[i] = b[i]
      · rw [if_pos e]; exact ev_pos e ih
      · rw [if_neg e]; exact ev_neg e (Ev.now _)
    · refine ev_neg (by simp; omega) (ev_eqv (Ev.now _) ?_)
      rw [lexB_cons_nil a b i hi h2]
theorem cmpInt_eq (a b : Int) : cmp_Compare_int.f a b = some (if a < b then -1 else if a > b then 1 else 0) := by
  unfold cmp_Compare_int.f cmp_isNaN_int.f
  simp
  repeat' split
  all_goals rfl
theorem Compare_ev (a b : List Int) (ha : a.length ≤ 1152921504606846976) : Ev (fun k => slices_Compare_int_int.f k a b) (cmpL a b) := by
  unfold slices_Compare_int_int.f
  have := ev_range a.length (fun k i => slices_Compare_int_int.l0 k a b a (a.length : Int) (i : Int)) (fun i => cmpL (a.drop i) (b.drop i)) ?_ ?_ 0 (Nat.zero_le _)
  · simpa using this
  · refine ev_succ ?_
    simp only [slices_Compare_int_int.l0]
    refine ev_neg (by omega) ?_
    rw [drop_end]
    by_cases h : a.length < b.length
    · rw [List.drop_eq_getElem_cons h]; exact ev_pos (by omega) (Ev.now _)
    · rw [List.drop_of_length_le (by omega)]; exact ev_neg (by omega) (Ev.now _)
  · intro i hi ih
    refine ev_succ ?_
    simp only [slices_Compare_int_int.l0]
    refine ev_pos (by omega) (ev_pos (by omega) (ev_pos (by omega) ?_))
    by_cases h2 : i < b.length
    · refine ev_neg (by omega) (ev_pos (by omega) ?_)
      simp only [rd_get hi, rd_get h2, wrap_succ hi ha, cmpInt_eq, Option.bind_some]
      show Ev _ (cmpL (a.drop i) (b.drop i))
      rw [List.drop_eq_getElem_cons hi, List.drop_eq_getElem_cons h2]
      unfold cmpL
      by_cases e : a[i] = b[i]
      · rw [if_pos e, if_neg (by omega), if_neg (by omega)]; exact ev_pos rfl ih
      · rw [if_neg e]
        by_cases e2 : a[i] < b[i]
        · rw [if_pos e2, if_pos e2]; exact ev_neg (by decide) (Ev.now _)
        · rw [if_neg e2, if_neg e2, if_pos (by omega)]; exact ev_neg (by decide) (Ev.now _)
    · refine ev_pos (by omega) (ev_eqv (Ev.now _) ?_)
      show 1 = cmpL (a.drop i) (b.drop i)
      have hb : b.drop i = [] := List.drop_of_length_le (by omega)
      rw [List.drop_eq_getElem_cons hi, hb]; rfl
theorem rdL1_get {xs : List (List Int)} {i : Nat} (h : i < xs.length) : rd_L4 xs (i : Int) = xs[i] := by unfold rd_L4; rw [Int.toNat_natCast]; exact getD_get h
section
variable {α : Type} (lt : α → α → Bool)
def insL (x : α) : List α → List α
  | [] => [x]
  | y :: ys => if lt y x = true then y :: insL x ys else x :: y :: ys
def sortL (l : List α) : List α := l.foldl (fun out x => insL lt x out) []
theorem insL_perm (x : α) : ∀ l, (insL lt x l).Perm (x :: l)
  | [] => List.Perm.refl _
  | y :: ys => by
    unfold insL
    split
    · exact ((insL_perm x ys).cons y).trans (List.Perm.swap x y ys)
    · exact List.Perm.refl _
theorem foldl_perm : ∀ (l out : List α), (l.foldl (fun out x => insL lt x out) out).Perm (l ++ out)
  | [], out => List.Perm.refl _
  | x :: xs, out => by
    rw [List.foldl_cons]
    refine (foldl_perm xs _).trans ?_
    exact ((insL_perm lt x out).append_left xs).trans (List.perm_middle.trans (List.Perm.refl _))
theorem sortL_perm (l : List α) : (sortL lt l).Perm l := by
  have := foldl_perm lt l []
  rwa [List.append_nil] at this
variable (htr : ∀ a b c, lt a b = true → lt b c = true → lt a c = true) (hnt : ∀ a b c, lt a b = false → lt b c = false → lt a c = false) (has : ∀ a b, lt a b = true → lt b a = false)
include hnt has
theorem insL_sorted (x : α) : ∀ l : List α, l.Pairwise (fun a b => lt b a = false) → (insL lt x l).Pairwise (fun a b => lt b a = false)
  | [], _ => List.pairwise_singleton _ _
  | y :: ys, h => by
    rw [List.pairwise_cons] at h
    unfold insL
    split
    · rename_i hy
      rw [List.pairwise_cons]
      refine ⟨fun z hz => ?_, insL_sorted x ys h.2⟩
      rcases List.mem_cons.1 ((insL_perm lt x ys).mem_iff.1 hz) with rfl | hz
      · exact has _ _ hy
      · exact h.1 z hz
    · rename_i hy
      rw [Bool.not_eq_true] at hy
      rw [List.pairwise_cons]
      refine ⟨fun z hz => ?_, List.pairwise_cons.2 h⟩
      rcases List.mem_cons.1 hz with rfl | hz
      · exact hy
      · exact hnt _ _ _ (h.1 z hz) hy
theorem foldl_sorted : ∀ (l out : List α), out.Pairwise (fun a b => lt b a = false) → (l.foldl (fun out x => insL lt x out) out).Pairwise (fun a b => lt b a = false)
  | [], _, h => h
  | x :: xs, out, h => foldl_sorted xs _ (insL_sorted lt hnt has x out h)
theorem sortL_sorted (l : List α) : (sortL lt l).Pairwise (fun a b => lt b a = false) := foldl_sorted lt hnt has l [] List.Pairwise.nil
omit hnt has in
theorem sorted_unique (tot : ∀ a b, lt a b = false → lt b a = false → a = b) : ∀ {l1 l2 : List α}, l1.Perm l2 → l1.Pairwise (fun a b => lt b a = false) → l2.Pairwise (fun a b => lt b a = false) → l1 = l2
  | [], l2, hp, _, _ => (List.Perm.nil_eq hp)
  | x :: xs, [], hp, _, _ => by have := hp.length_eq; simp at this
  | x :: xs, y :: ys, hp, h1, h2 => by
    rw [List.pairwise_cons] at h1 h2
    have hxy : x = y := by
      rcases List.mem_cons.1 (hp.mem_iff.1 (List.mem_cons_self ..)) with e | hx
      · exact e
      · rcases List.mem_cons.1 (hp.mem_iff.2 (List.mem_cons_self ..)) with e | hy
        · exact e.symm
        · exact tot _ _ (h2.1 x hx) (h1.1 y hy)
    subst hxy
    rw [sorted_unique tot ((List.perm_cons x).1 hp) h1.2 h2.2]
theorem sortL_eq (tot : ∀ a b, lt a b = false → lt b a = false → a = b) {l t : List α} (hp : t.Perm l) (hs : t.Pairwise (fun a b => lt b a = false)) : t = sortL lt l :=
  sorted_unique lt tot (hp.trans (sortL_perm lt l).symm) hs (sortL_sorted lt hnt has l)
end
end Go.Proofs.YtgfdfabeninfeaaGreat.Q
end
section
namespace Go.Proofs.YtgfdfabeninfeaaGreat.Q
open Go.RowKit Go.Proofs.YtgfdfabeninfeaaGreatW.PrintWords Go.Proofs.YtgfdfabeninfeaaGreatW.PrintLast Go.Proofs.YtgfdfabeninfeaaGreatW.PrintMore
set_option linter.unusedVariables false
set_option linter.unusedSimpArgs false
def ly97_ren : Go.Shelf.Ren := ⟨fun | 6 => 97 | 15 => 104 | 14 => 112 | 28 => 125 | 29 => 126 | 20 => 128 | 21 => 129 | 22 => 130 | 23 => 131 | 24 => 132 | 25 => 133 | 26 => 134 | 27 => 135 | 46 => 142 | 47 => 138 | 48 => 139 | 49 => 143 | 50 => 144 | 57 => 146 | n => n, fun | 22 => 26 | 24 => 59 | 25 => 113 | 3 => 3 | 39 => 117 | 0 => 0 | 53 => 135 | 55 => 137 | 4 => 4 | 46 => 129 | 45 => 128 | 50 => 92 | 5 => 5 | 9 => 9 | 66 => 144 | 70 => 148 | 76 => 152 | 77 => 153 | n => n, fun | n => n⟩
theorem ly97 : Go.Proofs.SlLaysF.n6 Tryz.prog ly97_ren := {
  mixed := by kernel_rfl
  f6 := ⟨Tryz.f97.name, by decide, Tryz.func97.trans (congrArg some (by kernel_rfl))⟩
  f14 := ⟨Tryz.f112.name, by decide, Tryz.func112.trans (congrArg some (by kernel_rfl))⟩
  f15 := Tryz.func104.trans (congrArg some (by kernel_rfl))
  f20 := ⟨Tryz.f128.name, by decide, Tryz.func128.trans (congrArg some (by kernel_rfl))⟩
  f21 := ⟨Tryz.f129.name, by decide, Tryz.func129.trans (congrArg some (by kernel_rfl))⟩
  f22 := ⟨Tryz.f130.name, by decide, Tryz.func130.trans (congrArg some (by kernel_rfl))⟩
  f23 := ⟨Tryz.f131.name, by decide, Tryz.func131.trans (congrArg some (by kernel_rfl))⟩
  f24 := ⟨Tryz.f132.name, by decide, Tryz.func132.trans (congrArg some (by kernel_rfl))⟩
  f25 := ⟨Tryz.f133.name, by decide, Tryz.func133.trans (congrArg some (by kernel_rfl))⟩
  f26 := ⟨Tryz.f134.name, by decide, Tryz.func134.trans (congrArg some (by kernel_rfl))⟩
  f27 := ⟨Tryz.f135.name, by decide, Tryz.func135.trans (congrArg some (by kernel_rfl))⟩
  f28 := Tryz.func125.trans (congrArg some (by kernel_rfl))
  f29 := Tryz.func126.trans (congrArg some (by kernel_rfl))
  f46 := ⟨Tryz.f142.name, by decide, Tryz.func142.trans (congrArg some (by kernel_rfl))⟩
  f47 := Tryz.func138.trans (congrArg some (by kernel_rfl))
  f48 := Tryz.func139.trans (congrArg some (by kernel_rfl))
  f49 := ⟨Tryz.f143.name, by decide, Tryz.func143.trans (congrArg some (by kernel_rfl))⟩
  f50 := ⟨Tryz.f144.name, by decide, Tryz.func144.trans (congrArg some (by kernel_rfl))⟩
  f57 := ⟨Tryz.f146.name, by decide, Tryz.func146.trans (congrArg some (by kernel_rfl))⟩
  t0 := Tryz.underlying0
  a0 := Tryz.isAgg0
  z0 := Tryz.sizeOf0
  v0 := Tryz.zeroValue0
  t3 := Tryz.underlying3
  a3 := Tryz.isAgg3
  z3 := Tryz.sizeOf3
  v3 := Tryz.zeroValue3
  t4 := Tryz.underlying4
  a4 := Tryz.isAgg4
  z4 := Tryz.sizeOf4
  v4 := Tryz.zeroValue4
  t5 := Tryz.underlying5
  a5 := Tryz.isAgg5
  z5 := Tryz.sizeOf5
  v5 := Tryz.zeroValue5
  t9 := Tryz.underlying9
  a9 := Tryz.isAgg9
  z9 := Tryz.sizeOf9
  v9 := Tryz.zeroValue9
  t22 := Tryz.underlying26
  a22 := Tryz.isAgg26
  z22 := Tryz.sizeOf26
  v22 := Tryz.zeroValue26
  a24 := Tryz.isAgg59
  z24 := Tryz.sizeOf59
  t25 := Tryz.underlying113
  a25 := Tryz.isAgg113
  z25 := Tryz.sizeOf113
  v25 := Tryz.zeroValue113
  t39 := Tryz.underlying117
  a39 := Tryz.isAgg117
  z39 := Tryz.sizeOf117
  v39 := Tryz.zeroValue117
  t45 := Tryz.underlying128
  a45 := Tryz.isAgg128
  z45 := Tryz.sizeOf128
  v45 := Tryz.zeroValue128
  t46 := Tryz.underlying129
  a46 := Tryz.isAgg129
  z46 := Tryz.sizeOf129
  v46 := Tryz.zeroValue129
  t50 := Tryz.underlying92
  a50 := Tryz.isAgg92
  z50 := Tryz.sizeOf92
  v50 := Tryz.zeroValue92
  t53 := Tryz.underlying135
  a53 := Tryz.isAgg135
  z53 := Tryz.sizeOf135
  v53 := Tryz.zeroValue135
  t55 := Tryz.underlying137
  a55 := Tryz.isAgg137
  z55 := Tryz.sizeOf137
  v55 := Tryz.zeroValue137
  t66 := Tryz.underlying144
  a66 := Tryz.isAgg144
  z66 := Tryz.sizeOf144
  v66 := Tryz.zeroValue144
  t70 := Tryz.underlying148
  a70 := Tryz.isAgg148
  z70 := Tryz.sizeOf148
  v70 := Tryz.zeroValue148
  t76 := Tryz.underlying152
  a76 := Tryz.isAgg152
  z76 := Tryz.sizeOf152
  v76 := Tryz.zeroValue152
  t77 := Tryz.underlying153
  a77 := Tryz.isAgg153
  z77 := Tryz.sizeOf153
  v77 := Tryz.zeroValue153 }
open Go.Shelf Go.Lib Go.Sort
section
variable {α : Type} [Inhabited α]
theorem holds_of_block (enc : α → Value) {w : World} {g : Nat} {cur : Array Value} {e : TypeId} {ss : List α} (hb : w.heap[g]? = some (.cells cur e (0, 0))) (ht : cur.toList.take ss.length = ss.map enc) : Holds enc w g 0 ss.toArray := by
  intro j hj
  have hj' : j < ss.length := by simpa using hj
  refine ⟨?_, by simp [World.frozen?, hb]⟩
  have h1 : (cur.toList.take ss.length)[j]? = (ss.map enc)[j]? := by rw [ht]
  rw [List.getElem?_take_of_lt hj'] at h1
  simp only [World.cell?, hb, Nat.zero_add]
  simp only [Option.isSome_none, Bool.false_eq_true, if_false]
  rw [← Array.getElem?_toList, h1]
  simp [hj']
theorem heap_sorted (enc : α → Value) {w : World} {g n : Nat} {os : Array Obj} {cur : Array Value} {e : TypeId} {fr : Nat × Nat} (d : Array α) (hb : w.heap[g]? = some (.cells cur e fr)) :
    (sortWorld enc w g 0 n d os).heap[g]? = some (.cells (putCells enc 0 d cur) e fr) := by
  have hg : g < w.heap.size := (Array.getElem?_eq_some_iff.1 hb).1
  unfold sortWorld
  rw [Go.Sort.heap_grow_old _ _ (by simpa using hg)]
  simp [putRow, mapBlock, Sort.ahead, Array.getElem?_modify, hb, onCells]
theorem grownBy_sorted (enc : α → Value) {w : World} {g n : Nat} {os : Array Obj} (d : Array α) : w.grownBy (sortWorld enc w g 0 n d os) (some g) := by
  unfold sortWorld
  refine ⟨rfl, rfl, rfl, by simp, fun k hk hne => ?_⟩
  rw [Go.Sort.heap_grow_old _ _ (by simpa using hk)]
  have : g ≠ k := fun e => hne (by rw [e])
  simp [putRow, mapBlock, Sort.ahead, Array.getElem?_modify, this]
theorem take_putCells (enc : α → Value) (cur : Array Value) (ts : List α) (h : ts.length ≤ cur.size) : (putCells enc 0 ts.toArray cur).toList.take ts.length = ts.map enc := by
  apply List.ext_getElem?
  intro j
  by_cases hj : j < ts.length
  · rw [List.getElem?_take_of_lt hj, Array.getElem?_toList]
    simp [putCells, hj, show j < cur.size by omega]
  · rw [List.getElem?_take_eq_none (by omega), List.getElem?_eq_none (by simp; omega)]
theorem ownsRow_sorted (enc : α → Value) {w : World} {base g cap n : Nat} {e : TypeId} {os : Array Obj} {cur : Array Value} {ts : List α} (hbase : base ≤ g) (hb : w.heap[g]? = some (.cells cur e (0, 0)))
    (h1 : ts.length ≤ cap) (h2 : cap ≤ maxLen) (h3 : cur.size = cap * 1) :
    (sortWorld enc w g 0 n ts.toArray os).ownsRow base e 1 (.slice (some ⟨g, 0, none⟩) ts.length cap) ts.length (ts.map enc) :=
  ⟨by simp, .inr ⟨g, cap, _, rfl, hbase, heap_sorted enc _ hb, h1, h2, by simp [putCells, h3], by rw [Nat.mul_one]; exact take_putCells enc cur ts (by omega)⟩⟩
theorem perm_of_PermIn {d d' : Array α} (h : PermIn 0 d.size d d') : d'.toList.Perm d.toList := by
  have h1 := h.2.2
  have e1 : d.extract 0 d.size = d := by simp
  have e2 : d'.extract 0 d.size = d' := by rw [← h.1]; simp
  rw [e1, e2] at h1
  exact h1
theorem pairwise_of_SortedIn {lt : α → α → Bool} {d : Array α} (h : SortedIn lt 0 d.size d) : d.toList.Pairwise (fun a b => lt b a = false) := by
  rw [List.pairwise_iff_getElem]
  intro i j hi hj hij
  have h1 := h i j (Nat.zero_le _) hij (by simpa using hj)
  rwa [getElem!_pos d j (by simpa using hj), getElem!_pos d i (by simpa using hi)] at h1
end
structure QS (W : World) (okq : Nat → Prop) (f : Nat → Nat) (base : Nat) where
  v : Value
  l : List Int
  j : Nat
  hM : Kd.R (Kd.int .i64) 3 W base (fun k => okq k ∧ f k = j) v l
  hl : l.length ≤ 1152921504606846976
instance {W okq f base} : Inhabited (QS W okq f base) := ⟨⟨.slice none 0 0, [], 0, Kd.R_nil _ _ _ _ _, by simp⟩⟩
def sortSets.f (l : List (List Int)) : Option (List (List Int)) := if (decide (l.length < 4611686018427387904) && l.all fun x => decide (x.length ≤ 1152921504606846976)) = true then some (sortL lexB l) else none
theorem cmp_lays (W : World) (okq : Nat → Prop) (f : Nat → Nat) (base g n : Nat) (hg : ∀ k, okq k → k ≠ g) :
    CmpLays1 Tryz.prog 98 #[] (fun q : QS W okq f base => q.v) (fun x y => cmpL x.l y.l) g 0 n W := by
  intro m os dk hs x y
  have hgr := grownBy_sorted (fun q : QS W okq f base => q.v) (w := W) (g := g) (n := m) (os := os) dk
  generalize hw : sortWorld (fun q : QS W okq f base => q.v) W g 0 m dk os = wS at hgr
  have hx := Kd.R_grown x.hM hgr (fun k hk e => hg k hk.1 (by injection e))
  have hy := Kd.R_grown y.hM hgr (fun k hk e => hg k hk.1 (by injection e))
  obtain ⟨A, c, hxv, hxl, hxC⟩ := Kd.R_reads hx
  obtain ⟨B, d, hyv, hyl, hyC⟩ := Kd.R_reads hy
  obtain ⟨k, hk⟩ := Compare_ev x.l y.l x.hl
  have := slices_Compare_int_int.calls k A c x.l B d y.l _ wS hxC hxl hyC hyl (hk k (Nat.le_refl _))
  show Calls Tryz.prog 98 #[x.v, y.v] wS _
  rw [hxv, hyv]
  refine this.mono ?_
  rintro e w' ⟨rfl, ⟨q, rfl⟩⟩
  exact ⟨rfl, q, #[], by rw [grow_empty]⟩
theorem swo_lex {W okq f base} : SWO (ltOf (fun x y : QS W okq f base => cmpL x.l y.l)) where
  irrefl x := by unfold ltOf; rw [cmpL_lt]; exact lexB_irrefl _
  trans x y z h1 h2 := by unfold ltOf at *; rw [cmpL_lt] at *; exact lexB_trans _ _ _ h1 h2
  ntrans x y z h1 h2 := by unfold ltOf at *; rw [cmpL_lt] at *; exact lexB_ntrans _ _ _ h1 h2
theorem sortSets.calls (l t : List (List Int)) (A : Option Addr) (c base : Nat) (ok : Nat → Prop) (w : World) (hS : Kd.S (Kd.slice 3 (Kd.int .i64)) 59 w base ok (.slice A l.length c) l) (h : sortSets.f l = some t) :
    Calls Tryz.prog 97 #[.slice A l.length c, .func (.func 98) #[] #[]] w fun e w' =>
      e = .returned (.tuple #[]) ∧ Kd.S (Kd.slice 3 (Kd.int .i64)) 59 w' base ok (.slice A l.length c) t ∧ t.length = l.length ∧ w.grownBy w' (Value.slice A l.length c).ownBlock := by
  unfold sortSets.f at h
  split at h
  · rename_i hall
    rw [Bool.and_eq_true, decide_eq_true_eq] at hall
    obtain ⟨hsz, hall⟩ := hall
    injection h with h
    subst h
    have hlen : (sortL lexB l).length = l.length := (sortL_perm lexB l).length_eq
    by_cases h0 : l.length = 0
    · have hl0 := List.length_eq_zero_iff.1 h0
      subst hl0
      have hcon := AnyF.slices_SortFunc_none { ly97 with } A c (.func (.func 98) #[] #[]) w
      change Calls Tryz.prog 97 _ _ _ at hcon
      refine hcon.mono ?_
      rintro e w' ⟨rfl, rfl⟩
      exact ⟨rfl, hS, rfl, ⟨rfl, rfl, rfl, Nat.le_refl _, fun _ _ _ => rfl⟩⟩
    · obtain ⟨f, hok, inner, ho, hr⟩ := hS
      rw [List.length_zipIdx] at ho
      rcases ho.2 with ⟨hv, hn⟩ | ⟨g, cap, cur, hv, hbase, hb, h1, h2, h3, h4⟩
      · exact absurd hn h0
      · injection hv with hA _ hc
        subst hA; subst hc
        have hil : inner.length = l.length := by
          have := ho.1
          change inner.length = l.length * 1 at this
          omega
        change cur.size = c * 1 at h3
        change cur.toList.take (l.length * 1) = inner at h4
        rw [Nat.mul_one] at h4
        have key : ∀ j : Nat, ∃ q : QS w (fun k => ok k ∧ k ≠ g) f base, j < l.length → q.l = l.getD j [] ∧ q.j = j ∧ inner[j]? = some q.v := by
          intro j
          by_cases hj : j < l.length
          · have hp := hr.2 j _ (Kd.zip_at (List.getElem?_eq_getElem hj))
            obtain ⟨v, hv, hR⟩ := hp
            refine ⟨⟨v, l[j], j, Kd.R_mono hR (fun k hk => ⟨⟨hk.1.1, fun e => hk.1.2 (by rw [e]; rfl)⟩, hk.2⟩), ?_⟩, fun _ => ⟨?_, rfl, ?_⟩⟩
            · exact of_decide_eq_true (List.all_eq_true.1 hall _ (List.getElem_mem hj))
            · rw [List.getD_eq_getElem?_getD, List.getElem?_eq_getElem hj]; rfl
            · have hx := congrArg (fun z => z[0]?) hv
              simpa [show (Kd.tag f (Kd.slice 3 (Kd.int .i64))).sz = 1 from rfl, List.getElem?_take, List.getElem?_drop] using hx
          · exact ⟨default, fun e => absurd e hj⟩
        obtain ⟨fq, hfq⟩ := Classical.axiomOfChoice key
        obtain ⟨ss, hss⟩ : ∃ ss, ss = (List.range l.length).map fq := ⟨_, rfl⟩
        have hsl : ss.length = l.length := by rw [hss]; simp
        have hget : ∀ j (hj : j < ss.length), ss[j] = fq j := fun j hj => by simp [hss]
        have hinn : inner = ss.map QS.v := by
          refine List.ext_getElem? fun j => ?_
          by_cases hj : j < l.length
          · rw [(hfq j hj).2.2, List.getElem?_map, List.getElem?_eq_getElem (by omega), hget]; rfl
          · rw [List.getElem?_eq_none (by omega), List.getElem?_eq_none (by rw [List.length_map]; omega)]
        have hsll : ss.map QS.l = l := by
          refine List.ext_getElem (by rw [List.length_map]; exact hsl) fun j h1 h2 => ?_
          rw [List.getElem_map, hget, (hfq j h2).1, List.getD_eq_getElem?_getD, List.getElem?_eq_getElem h2]; rfl
        have hsj : ss.map QS.j = List.range l.length := by
          refine List.ext_getElem (by rw [List.length_map, List.length_range]; exact hsl) fun j h1 h2 => ?_
          rw [List.getElem_map, hget, (hfq j (by simpa using h2)).2.1, List.getElem_range]
        have hH : Holds QS.v w g 0 ss.toArray := holds_of_block QS.v hb (by rw [hsl, h4, hinn])
        have eg : ∀ args w, (callFunc 98 args).run Tryz.prog w = .ok (.enter 98 args) w := enters_of Tryz.func98 (by kernel_rfl) rfl
        have hcon := Any.slices_SortFunc ly97 QS.v (fun q => (Kd.R_val q.hM).2) (fun x y => cmpL x.l y.l) swo_lex 98 #[] g 0 c ss.toArray w eg (cmp_lays w _ f base g _ (fun k hk => hk.2)) hH (Array.getElem?_eq_some_iff.1 hb).1 (by simpa [hsl] using hsz)
        change Calls Tryz.prog 97 _ _ _ at hcon
        rw [List.size_toArray, hsl] at hcon
        refine hcon.mono ?_
        rintro e w' ⟨rfl, d', n, os, hp, hs, rfl⟩
        obtain ⟨ts, rfl⟩ : ∃ ts : List _, d' = ts.toArray := ⟨d'.toList, rfl⟩
        have hgr := grownBy_sorted QS.v (w := w) (g := g) (n := n) (os := os) ts.toArray
        have hperm : ts.Perm ss := perm_of_PermIn (d := ss.toArray) (by simpa [hsl] using hp)
        have htl : ts.length = l.length := by rw [hperm.length_eq, hsl]
        have hsort : ts.Pairwise (fun a b => ltOf (fun x y : QS w _ f base => cmpL x.l y.l) b a = false) := pairwise_of_SortedIn (d := ts.toArray) (by simpa [htl] using hs)
        have ht : ts.map QS.l = sortL lexB l := by
          refine sortL_eq lexB lexB_ntrans (fun _ _ => lexB_asymm) lexB_total ?_ ?_
          · rw [← hsll]; exact hperm.map QS.l
          · rw [List.pairwise_map]
            refine hsort.imp fun h => ?_
            unfold ltOf at h
            rwa [cmpL_lt] at h
        rw [← ht]
        have hnd : (ts.map QS.j).Nodup := by
          refine (hperm.map QS.j).nodup_iff.2 ?_
          rw [hsj]; exact List.nodup_range
        have hblk : ∀ k, (ok k ∧ k ≠ g) → some k ≠ some g := fun k hk e => hk.2 (by injection e)
        refine ⟨rfl, ⟨fun k => (ts.map QS.j).idxOf (f k), hok, ts.map QS.v, ?_, ?_, fun j p hj => ?_⟩, by rw [List.length_map]; exact htl, hgr⟩
        · rw [List.length_zipIdx, List.length_map, htl]
          have := ownsRow_sorted QS.v (w := w) (base := base) (g := g) (cap := c) (n := n) (e := 59) (os := os) (ts := ts) hbase hb (by omega) h2 h3
          rwa [htl] at this
        · rw [List.length_map, List.length_zipIdx, List.length_map]; exact (Nat.mul_one _).symm
        · rw [List.getElem?_zipIdx, List.getElem?_map, Nat.zero_add] at hj
          obtain ⟨x, hx, rfl⟩ := Option.map_eq_some_iff.1 hj
          obtain ⟨q, hq, rfl⟩ := Option.map_eq_some_iff.1 hx
          obtain ⟨hjl, hqe⟩ := List.getElem?_eq_some_iff.1 hq
          show ∃ v, _ ∧ _
          refine ⟨q.v, ?_, ?_⟩
          · refine List.ext_getElem? fun i => ?_
            rw [show (Kd.tag (fun k => (ts.map QS.j).idxOf (f k)) (Kd.slice 3 (Kd.int .i64))).sz = 1 from rfl, Nat.mul_one]
            cases i with
            | zero => rw [List.getElem?_take_of_lt (by omega), List.getElem?_drop, List.getElem?_map, Nat.add_zero, hq]; rfl
            | succ i => rw [List.getElem?_eq_none (by rw [List.length_take]; omega), List.getElem?_eq_none (by simp)]
          · refine Kd.R_mono (Kd.R_grown q.hM hgr (fun k hk => hblk k hk.1)) (fun k hk => ⟨⟨hk.1.1, ?_⟩, ?_⟩)
            · exact fun e => hk.1.2 (by injection e)
            · show (ts.map QS.j).idxOf (f k) = j
              rw [hk.2, ← hqe, show ts[j].j = (ts.map QS.j)[j]'(by rw [List.length_map]; exact hjl) from by rw [List.getElem_map]]
              exact hnd.idxOf_getElem j _
  · cases h
end Go.Proofs.YtgfdfabeninfeaaGreat.Q
end
section
namespace Go.Proofs.YtgfdfabeninfeaaGreat.Q
open Go.RowKit Go.Proofs.YtgfdfabeninfeaaGreatW.PrintWords Go.Proofs.YtgfdfabeninfeaaGreatW.PrintLast Go.Proofs.YtgfdfabeninfeaaGreatW.PrintMore
set_option linter.unusedVariables false
set_option linter.unusedSimpArgs false
structure Q_ (W : World) (ok : Nat → Prop) where
  A : Option Addr
  c : Nat
  l : List Int
  hl : l.length ≤ c
  hF : Kd.F (Kd.int .i64) W ok A l.length l
section
variable {W w : World} {ok ok' : Nat → Prop}
@[reducible] def Q_.val (x : Q_ W ok) : Value := .slice x.A x.l.length x.c
def Q_.nil : Q_ W ok := ⟨none, 0, [], Nat.le_refl _, Kd.F_nil _ _ _⟩
def KQ_ (W : World) (ok : Nat → Prop) : Kd (Q_ W ok) := Kd.scalar Q_.val (fun _ => rfl)
theorem at_Q_ {A : Option Addr} {n : Nat} {xs : List (Q_ W ok)} (h : (KQ_ W ok).C w A n xs) (i : Int) (h0 : 0 ≤ i) (h1 : i < n) : ∃ ad, A = some ad ∧ w.cell? (ad.add i.toNat) = some (Q_.val (rdOf Q_.nil xs i)) :=
  ReadsOf.at_ (Kd.reads_of_C (enc := Q_.val) (d := Q_.nil) (h1 := fun _ => rfl) h) i h0 h1
theorem Q_of_F {A : Option Addr} {n : Nat} {xs : List (List Int)} (h : Kd.F (Kd.slice 3 (Kd.int .i64)) W ok A n xs) : ∃ qs : List (Q_ W ok), qs.map Q_.l = xs ∧ Kd.C (KQ_ W ok) W A n qs := by
  have hC := Kd.F_now h
  have hn : xs.length = n := hC.1
  have key : ∀ i : Nat, ∃ q : Q_ W ok, i < n → q.l = xs.getD i [] ∧ ∀ ad, A = some ad → W.cell? (ad.add i) = some q.val := by
    intro i
    by_cases hi : i < n
    · obtain ⟨ad, c, rfl, _, hK, hcc, _⟩ := Kd.F_get h [] (i : Int) (by omega) (by omega)
      obtain ⟨A', c', rfl, hl, hF⟩ := Kd.FK_slice_open hK
      rw [Int.toNat_natCast] at hl hF hcc
      refine ⟨⟨A', c', _, hl, hF⟩, fun _ => ⟨rfl, fun ad' e => ?_⟩⟩
      injection e with e
      subst e
      have := hcc 0 _ rfl
      rwa [show i * (Kd.slice 3 (Kd.int .i64)).sz + 0 = i from by show i * 1 + 0 = i; omega] at this
    · exact ⟨Q_.nil, fun e => absurd e hi⟩
  obtain ⟨f, hf⟩ := Classical.axiomOfChoice key
  refine ⟨(List.range n).map f, ?_, ?_, hC.2.1, fun h0 => ?_⟩
  · refine List.ext_getElem (by simp [hn]) fun i h1 h2 => ?_
    have hi : i < n := by omega
    rw [List.getElem_map, List.getElem_map, List.getElem_range, (hf i hi).1, List.getD_eq_getElem?_getD, List.getElem?_eq_getElem h2]; rfl
  · simp
  · obtain ⟨ad, rfl, _⟩ := hC.2.2 h0
    refine ⟨ad, rfl, fun j p hj => ?_⟩
    rw [List.getElem?_map] at hj
    obtain ⟨j', hj', rfl⟩ := Option.map_eq_some_iff.1 hj
    obtain ⟨hlt, e⟩ := List.getElem?_eq_some_iff.1 hj'
    rw [List.getElem_range] at e
    subst e
    refine ⟨[(f j).val], rfl, rfl, fun i u hu => ?_⟩
    cases i with
    | zero =>
      injection hu with hu
      subst hu
      rw [show j * (KQ_ W ok).sz + 0 = j from by show j * 1 + 0 = j; omega]
      exact (hf j (by simpa using hlt)).2 ad rfl
    | succ i => simp at hu
theorem F_of_Q {A : Option Addr} {n : Nat} {qs : List (Q_ W ok)} (hb : Below W.heap.size W w) (h : Kd.F (KQ_ W ok) w ok' A n qs) (hok : ∀ k, ok k → ok' k) : Kd.F (Kd.slice 3 (Kd.int .i64)) w ok' A n (qs.map Q_.l) := by
  intro W' hW
  obtain ⟨h1, h2, h3⟩ := h W' hW
  refine ⟨by rw [List.length_map]; exact h1, h2, fun h0 => ?_⟩
  obtain ⟨ad, e, hc⟩ := h3 h0
  refine ⟨ad, e, fun j p hj => ?_⟩
  rw [List.getElem?_map] at hj
  obtain ⟨q, hq, rfl⟩ := Option.map_eq_some_iff.1 hj
  obtain ⟨c, hcl, hK, hcc⟩ := hc j q hq
  have hK1 : c = [q.val] := hK
  subst hK1
  exact ⟨_, rfl, ⟨q.A, q.c, rfl, q.hl, (Kd.F_mono (Kd.F_below q.hF hb) hok) W' hW⟩, hcc⟩
end
section
variable {W_ : World} {ok_ : Nat → Prop}
def spec_voBefore_q.f (k : Nat) (x y : Q_ W_ ok_) : Option Bool := spec_voBefore.f k x.l y.l
theorem spec_voBefore_q.calls (k : Nat) (x y : Q_ W_ ok_) (r : Bool) (w : World) (h : spec_voBefore_q.f k x y = some r) (hB : Below W_.heap.size W_ w := by repeat (first | (with_reducible first | exact Aside0.out (by with_reducible assumption) | apply below_alloc | apply pw_below_drewN | apply below_drew1) | exact Aside0.out (by with_reducible assumption))) :
    Calls Tryz.prog 77 #[Q_.val x, Q_.val y] w fun e w' => e = .returned (.bool r) ∧ Below w.heap.size w w' :=
  (spec_voBefore.calls k x.A x.c x.l y.A y.c y.l r w (Kd.F_now (Kd.F_below x.hF hB)) x.hl (Kd.F_now (Kd.F_below y.hF hB)) y.hl h).mono fun _ _ ⟨he, hd⟩ => ⟨he, hd.below⟩
mutual
def spec_voSorted_q.l0 : Nat → List (Q_ W_ ok_) → List (Q_ W_ ok_) → Int → Int → Option (List (Q_ W_ ok_))
 | 0, _, _, _, _ => none
 | k + 1, x3, x8, x9, x10 => if x10 < x9 then (if 0 ≤ x10 then (if x10 < (x8.length : Int) then (spec_voSorted_q.l1 k x3 (rdOf Q_.nil x8 x10) 0 x8 x9 x10) else (none)) else (none)) else (some x3)
def spec_voSorted_q.l1 : Nat → List (Q_ W_ ok_) → (Q_ W_ ok_) → Int → List (Q_ W_ ok_) → Int → Int → Option (List (Q_ W_ ok_))
 | 0, _, _, _, _, _, _ => none
 | k + 1, x3, x5, x6, x8, x9, x10 => if x6 < (x3.length : Int) then (if 0 ≤ x6 then ((spec_voBefore_q.f k (rdOf Q_.nil x3 x6) x5).bind fun t103 => (if t103 = true then (spec_voSorted_q.l1 k x3 x5 (wrap64 (x6 + 1)) x8 x9 x10) else ((some (([] : List (Q_ W_ ok_)) : List (Q_ W_ ok_))).bind fun y104 => (if x6 ≤ (x3.length : Int) then ((some (x3.take (x6 : Int).toNat : List (Q_ W_ ok_))).bind fun y107 => (if y104.length + y107.length < 5864062014805 then ((some (y104 ++ y107 : List (Q_ W_ ok_))).bind fun y111 => (if y111.length < 5864062014805 then ((some (y111 ++ [x5] : List (Q_ W_ ok_))).bind fun y114 => ((some (x3.drop (x6 : Int).toNat : List (Q_ W_ ok_))).bind fun y117 => (if y114.length + y117.length < 5864062014805 then (spec_voSorted_q.l0 k (y114 ++ y117) x8 x9 (wrap64 (x10 + 1))) else (none)))) else (none))) else (none))) else (none))))) else (none)) else ((some (([] : List (Q_ W_ ok_)) : List (Q_ W_ ok_))).bind fun y124 => (if 0 ≤ x6 then (if x6 ≤ (x3.length : Int) then ((some (x3.take (x6 : Int).toNat : List (Q_ W_ ok_))).bind fun y127 => (if y124.length + y127.length < 5864062014805 then ((some (y124 ++ y127 : List (Q_ W_ ok_))).bind fun y131 => (if y131.length < 5864062014805 then ((some (y131 ++ [x5] : List (Q_ W_ ok_))).bind fun y134 => ((some (x3.drop (x6 : Int).toNat : List (Q_ W_ ok_))).bind fun y137 => (if y134.length + y137.length < 5864062014805 then (spec_voSorted_q.l0 k (y134 ++ y137) x8 x9 (wrap64 (x10 + 1))) else (none)))) else (none))) else (none))) else (none)) else (none)))
end
def spec_voSorted_q.f (k : Nat) (l0 : List (Q_ W_ ok_)) : Option (List (Q_ W_ ok_)) := spec_voSorted_q.l0 k ([] : List (Q_ W_ ok_)) l0 (l0.length : Int) 0
set_option maxHeartbeats 8000000 in
set_option maxRecDepth 100000 in
theorem spec_voSorted_q.calls (w : World) (ok_ : Nat → Prop) (k : Nat) (A0 : Option Addr) (c0 : Nat) (l0 : List (Q_ w ok_)) (r : List (Q_ w ok_)) (hr0 : Kd.C (KQ_ w ok_) w A0 l0.length l0) (hc0 : l0.length ≤ c0) (h : spec_voSorted_q.f k l0 = some r) :
  Calls Tryz.prog 66 #[.slice A0 l0.length c0] w fun e w' => ∃ v0_ : Value, e = .returned (v0_) ∧ Kd.R (KQ_ w ok_) 59 w' w.heap.size (fun _ => True) v0_ r ∧ Below w.heap.size w w' := by
 have HR0 := Aside0.mk hr0
 have HC0 := Aside0.mk hc0
 clear hr0 hc0
 have HB := Aside0.mk (Below.refl w.heap.size w)
 have H : (spec_voSorted_q.l0 k ([] : List (Q_ w ok_)) l0 (l0.length : Int) 0) = some r := h
 clear h
 have H' := Aside0.mk H
 clear H
 go_enter Tryz.func66, Tryz.ntmps66
 go_wp2
 go_loopg [3, 10] k (fun kq v3 v10 w' => ∃ (x3_1 : List (Q_ w ok_)) (x10_1 : Int), v10 = .int .i64 x10_1 ∧ Aside0 (spec_voSorted_q.l0 kq x3_1 l0 (l0.length : Int) x10_1 = some r) ∧ Aside0 (kq ≤ k) ∧ Aside0 (Kd.R (KQ_ w ok_) 59 w' w.heap.size (fun _ => True) v3 x3_1) ∧ Aside0 (Below w.heap.size w w'))
 case atStart => exact ⟨(([] : List (Q_ w ok_))), (0), (by first | rfl | (simp; done) | (simp [*]; done)), H', ⟨Nat.le_refl _⟩, ⟨by first | exact Kd.R_nil _ _ _ _ _ | exact Kd.N_nil _ _ _ _ _ | exact Kd.V_nil _ _ _ _ _ | exact Kd.Q_nil _ _ _ _ _ | exact Kd.S_nil _ _ _ _ _⟩, ⟨zh HB.out⟩⟩
 case round =>
  clear H'
  obtain ⟨x3_1, x10_1, rfl, HA, HK1, HO_3, HB⟩ := hrel
  cases gk with
  | zero => exact absurd HA.out (by simp [spec_voSorted_q.l0])
  | succ k1 =>
   have H := HA.out
   clear HA
   simp only [spec_voSorted_q.l0] at H
   by_cases c2 : x10_1 < (l0.length : Int)
   rotate_left
   ·rw [if_neg c2] at H
    have c2b0 : decide (x10_1 < (l0.length : Int)) = false := decide_eq_false c2
    clear c2
    obtain rfl := Option.some.inj H
    go_wp2
    go_ret
    exact ⟨_, by first | rfl | (simp [errW_none, errW_some] <;> rfl) | (simp [*, errW_none, errW_some] <;> rfl), by (with_reducible repeat (first | apply Kd.R_alloc | apply Kd.R_drewN | apply Kd.R_drew)); exact HO_3.out, zh HB.out⟩
   rw [if_pos c2] at H
   have c2b0 : decide (x10_1 < (l0.length : Int)) = true := decide_eq_true c2
   clear c2
   by_cases c3 : 0 ≤ x10_1
   rotate_left
   ·rw [if_neg c3] at H
    exact absurd H (by simp)
   rw [if_pos c3] at H
   have c3b0 : decide (0 ≤ x10_1) = true := decide_eq_true c3
   clear c3
   by_cases c4 : x10_1 < (l0.length : Int)
   rotate_left
   ·rw [if_neg c4] at H
    exact absurd H (by simp)
   rw [if_pos c4] at H
   have c4b0 : decide (x10_1 < (l0.length : Int)) = true := decide_eq_true c4
   clear c4
   have H' := Aside0.mk H
   clear H
   have p101 : 0 ≤ (x10_1 : Int) := of_decide_eq_true (by first | (with_reducible assumption) | assumption)
   have q101 : x10_1 < (l0.length : Int) := of_decide_eq_true (by first | (with_reducible assumption) | assumption)
   obtain ⟨ad101, e101, hx101_0⟩ := at_Q_ HR0.out x10_1 p101 q101
   cases e101
   replace hx101_0 := (HB.out.cell (World.block_lt_of_cell? w _ hx101_0)).trans hx101_0
   replace p101 := eq_true p101
   replace q101 := eq_true q101
   go_wp2
   go_loopg [6] k1 (fun kq v6 w' => ∃ (x6_2 : Int), v6 = .int .i64 x6_2 ∧ Aside0 (spec_voSorted_q.l1 kq x3_1 (rdOf Q_.nil l0 x10_1) x6_2 l0 (l0.length : Int) x10_1 = some r) ∧ Aside0 (kq ≤ k1) ∧ Aside0 (Kd.R (KQ_ w ok_) 59 w' w.heap.size (fun _ => True) u3 x3_1) ∧ Aside0 (Below w.heap.size w w'))
   case atStart => exact ⟨(0), (by first | rfl | (simp; done) | (simp [*]; done)), H', ⟨Nat.le_refl _⟩, ⟨zr HO_3.out⟩, ⟨zh HB.out⟩⟩
   case round =>
    clear H'
    try clear p1
    try clear q1
    try clear hx1
    try clear c2
    try clear c2b0
    try clear p2
    try clear c3
    try clear c3b0
    try clear c4
    try clear c4b0
    try clear hx101_0
    try clear p101
    try clear q101
    obtain ⟨x6_2, rfl, HA, HK2, HO_3, HB⟩ := hrel
    cases gk with
    | zero => exact absurd HA.out (by simp [spec_voSorted_q.l1])
    | succ k2 =>
     have H := HA.out
     clear HA
     simp only [spec_voSorted_q.l1] at H
     by_cases c5 : x6_2 < (x3_1.length : Int)
     rotate_left
     ·rw [if_neg c5] at H
      have c5b0 : decide (x6_2 < (x3_1.length : Int)) = false := decide_eq_false c5
      clear c5
      obtain ⟨y124, hy124⟩ : ∃ y_ : List (Q_ w ok_), y_ = (([] : List (Q_ w ok_))) := ⟨_, rfl⟩
      replace H : (if 0 ≤ x6_2 then (if x6_2 ≤ (x3_1.length : Int) then ((some (x3_1.take (x6_2 : Int).toNat : List (Q_ w ok_))).bind fun y127 => (if y124.length + y127.length < 5864062014805 then ((some (y124 ++ y127 : List (Q_ w ok_))).bind fun y131 => (if y131.length < 5864062014805 then ((some (y131 ++ [(rdOf Q_.nil l0 x10_1)] : List (Q_ w ok_))).bind fun y134 => ((some (x3_1.drop (x6_2 : Int).toNat : List (Q_ w ok_))).bind fun y137 => (if y134.length + y137.length < 5864062014805 then (spec_voSorted_q.l0 k2 (y134 ++ y137) l0 (l0.length : Int) (wrap64 (x10_1 + 1))) else (none)))) else (none))) else (none))) else (none)) else (none)) = some r := by first | (rw [hy124]; with_reducible exact H) | (have H2_ := (Option.bind_some _ _).symm.trans H; rw [hy124]; with_reducible exact H2_) | (have H2_ := (Option.bind_some _ _).symm.trans H; with_reducible exact H2_) | with_reducible exact H | (rw [hy124]; exact H) | exact H
      have Ny124 := Aside0.mk hy124
      clear hy124
      by_cases c27 : 0 ≤ x6_2
      rotate_left
      ·rw [if_neg c27] at H
       exact absurd H (by simp)
      rw [if_pos c27] at H
      have c27b0 := eq_true c27
      have c27b1 : decide (0 ≤ x6_2) = true := decide_eq_true c27
      clear c27
      by_cases c28 : x6_2 ≤ (x3_1.length : Int)
      rotate_left
      ·rw [if_neg c28] at H
       exact absurd H (by simp)
      rw [if_pos c28] at H
      have c28b0 := eq_true c28
      have c28b1 : decide (x6_2 ≤ (x3_1.length : Int)) = true := decide_eq_true c28
      clear c28
      obtain ⟨y127, hy127⟩ : ∃ y_ : List (Q_ w ok_), y_ = (x3_1.take (x6_2 : Int).toNat) := ⟨_, rfl⟩
      replace H : (if y124.length + y127.length < 5864062014805 then ((some (y124 ++ y127 : List (Q_ w ok_))).bind fun y131 => (if y131.length < 5864062014805 then ((some (y131 ++ [(rdOf Q_.nil l0 x10_1)] : List (Q_ w ok_))).bind fun y134 => ((some (x3_1.drop (x6_2 : Int).toNat : List (Q_ w ok_))).bind fun y137 => (if y134.length + y137.length < 5864062014805 then (spec_voSorted_q.l0 k2 (y134 ++ y137) l0 (l0.length : Int) (wrap64 (x10_1 + 1))) else (none)))) else (none))) else (none)) = some r := by first | (rw [hy127]; with_reducible exact H) | (have H2_ := (Option.bind_some _ _).symm.trans H; rw [hy127]; with_reducible exact H2_) | (have H2_ := (Option.bind_some _ _).symm.trans H; with_reducible exact H2_) | with_reducible exact H | (rw [hy127]; exact H) | exact H
      have Ny127 := Aside0.mk hy127
      clear hy127
      by_cases c29 : y124.length + y127.length < 5864062014805
      rotate_left
      ·rw [if_neg c29] at H
       exact absurd H (by simp)
      rw [if_pos c29] at H
      have LMc29 := Aside0.mk c29
      clear c29
      obtain ⟨y131, hy131⟩ : ∃ y_ : List (Q_ w ok_), y_ = (y124 ++ y127) := ⟨_, rfl⟩
      replace H : (if y131.length < 5864062014805 then ((some (y131 ++ [(rdOf Q_.nil l0 x10_1)] : List (Q_ w ok_))).bind fun y134 => ((some (x3_1.drop (x6_2 : Int).toNat : List (Q_ w ok_))).bind fun y137 => (if y134.length + y137.length < 5864062014805 then (spec_voSorted_q.l0 k2 (y134 ++ y137) l0 (l0.length : Int) (wrap64 (x10_1 + 1))) else (none)))) else (none)) = some r := by first | (rw [hy131]; with_reducible exact H) | (have H2_ := (Option.bind_some _ _).symm.trans H; rw [hy131]; with_reducible exact H2_) | (have H2_ := (Option.bind_some _ _).symm.trans H; with_reducible exact H2_) | with_reducible exact H | (rw [hy131]; exact H) | exact H
      have Ny131 := Aside0.mk hy131
      clear hy131
      by_cases c30 : y131.length < 5864062014805
      rotate_left
      ·rw [if_neg c30] at H
       exact absurd H (by simp)
      rw [if_pos c30] at H
      have LMc30 := Aside0.mk c30
      clear c30
      obtain ⟨y134, hy134⟩ : ∃ y_ : List (Q_ w ok_), y_ = (y131 ++ [(rdOf Q_.nil l0 x10_1)]) := ⟨_, rfl⟩
      replace H : ((some (x3_1.drop (x6_2 : Int).toNat : List (Q_ w ok_))).bind fun y137 => (if y134.length + y137.length < 5864062014805 then (spec_voSorted_q.l0 k2 (y134 ++ y137) l0 (l0.length : Int) (wrap64 (x10_1 + 1))) else (none))) = some r := by first | (rw [hy134]; with_reducible exact H) | (have H2_ := (Option.bind_some _ _).symm.trans H; rw [hy134]; with_reducible exact H2_) | (have H2_ := (Option.bind_some _ _).symm.trans H; with_reducible exact H2_) | with_reducible exact H | (rw [hy134]; exact H) | exact H
      have Ny134 := Aside0.mk hy134
      clear hy134
      have c31b0 := eq_true (of_decide_eq_true (by first | (with_reducible assumption) | assumption) : 0 ≤ x6_2)
      have c32b0 := eq_true (of_decide_eq_true (by first | (with_reducible assumption) | assumption) : x6_2 ≤ (x3_1.length : Int))
      obtain ⟨y137, hy137⟩ : ∃ y_ : List (Q_ w ok_), y_ = (x3_1.drop (x6_2 : Int).toNat) := ⟨_, rfl⟩
      replace H : (if y134.length + y137.length < 5864062014805 then (spec_voSorted_q.l0 k2 (y134 ++ y137) l0 (l0.length : Int) (wrap64 (x10_1 + 1))) else (none)) = some r := by first | (rw [hy137]; with_reducible exact H) | (have H2_ := (Option.bind_some _ _).symm.trans H; rw [hy137]; with_reducible exact H2_) | (have H2_ := (Option.bind_some _ _).symm.trans H; with_reducible exact H2_) | with_reducible exact H | (rw [hy137]; exact H) | exact H
      have Ny137 := Aside0.mk hy137
      clear hy137
      by_cases c33 : y134.length + y137.length < 5864062014805
      rotate_left
      ·rw [if_neg c33] at H
       exact absurd H (by simp)
      rw [if_pos c33] at H
      have LMc33 := Aside0.mk c33
      clear c33
      obtain ⟨y141, hy141⟩ : ∃ y_ : List (Q_ w ok_), y_ = (y134 ++ y137) := ⟨_, rfl⟩
      replace H : (spec_voSorted_q.l0 k2 y141 l0 (l0.length : Int) (wrap64 (x10_1 + 1))) = some r := by first | (rw [hy141]; with_reducible exact H) | (have H2_ := (Option.bind_some _ _).symm.trans H; rw [hy141]; with_reducible exact H2_) | (have H2_ := (Option.bind_some _ _).symm.trans H; with_reducible exact H2_) | with_reducible exact H | (rw [hy141]; exact H) | exact H
      have Ny141 := Aside0.mk hy141
      clear hy141
      have H' := Aside0.mk H
      clear H
      obtain ⟨Ao34, co34, eo34⟩ := Kd.R_slice HO_3.out
      subst eo34
      go_wp2_with (first | ((with_reducible refine gate_dst (N := 28) rfl ?_); refine Kd.R_lit (KQ_ w ok_) _ 59 ?hg (N := 28) ?hd (xs := ([] : List (Q_ w ok_))) (inner := []) (ok := fun _ => True) (okp := fun _ => True) ?hr ?hp (fun _ hk => hk) trivial (Below.refl _ _) (Nat.le_refl _) (by simp) ?_; (case hd => rfl); (case hg => rfl); (case hr => first | (go_simp; done) | (go_simp; rfl)); (case hp => exact (Reps.none _ _)); intro v125 w35 ho36 hb hg_ hnew_; clear hg_ hnew_; (first | rw [← Ny124.out] at ho36 | (simp only [Int.reduceToNat] at ho36; rw [← Ny124.out] at ho36)); have n0_ := Aside0.mk (Kd.R_elder' (zr HO_3.out) (Kd.R_base ho36) hb); have n1_ := Aside0.mk (Kd.R_lower (Kd.R_new' ho36 (Kd.R_lt (zr HO_3.out))) (below_size (zh HB.out))); have n2_ := Aside0.mk (below_step (zh HB.out) hb); clear HO_3; clear HB; have HO_3 := n0_; have HO126 := n1_; have HB := n2_; clear n0_ n1_ n2_; clear hb ho36; have q37 : (x6_2 : Int) ≤ ((x3_1.length : Int) : Int) := of_decide_eq_true (by first | (with_reducible assumption) | assumption); obtain ⟨i037, hi037, _, hsz37, _⟩ := info_parts info59; have hroom37 : x3_1.length ≤ co34 := (Kd.R_reads' HO_3.out).2.1; have hC37 : Kd.C (KQ_ w ok_) _ Ao34 x3_1.length x3_1 := (Kd.R_reads' HO_3.out).2.2; have hcut37 := cut_to (P := Tryz.prog) 26 59 .i64 Tryz.underlying26 hi037 Ao34 x3_1.length co34 x6_2 (of_decide_eq_true (by first | (with_reducible assumption) | assumption)) q37 hroom37; have hr37 := Kd.C_take (m := (x6_2 : Int).toNat) hC37 (by omega); have hy37 : y127.length = (x6_2 : Int).toNat := (by rw [Ny127.out, List.length_take]; omega); rw [← Ny127.out] at hr37; rw [← hy37] at hcut37; have HR130 := Aside0.mk hr37; have HC130 := Aside0.mk (show y127.length ≤ co34 from by omega); clear hr37 hC37 hroom37 hi037 hsz37; have KY37 := Aside0.mk hy37; clear hy37; have KL37 := Aside0.mk (show (x6_2 : Int).toNat ≤ x3_1.length from by omega); replace q37 := eq_true q37) | ((with_reducible refine gate_builtin (b := .append) (xs := #[.tmp 28, .tmp 31]) rfl ?_); at_builtin; refine Kd.R_append_rows (KQ_ w ok_) (w0 := w) w.heap.size rfl (.tmp 28) (.tmp 31) 26 59 (.slice none 0 0) 24 rfl Tryz.underlying26 info59 rfl (by first | decide | exact Nat.zero_lt_one) (by omega) v125 y124 y127 _ _ _ (fun k_ => some k_ ≠ (.slice Ao34 x3_1.length co34 : Value).ownBlock) (fun _ => False) rfl rfl ?aO ?aR (fun _ _ h => h) (fun _ h => h.elim) ?aF ?aB ?aS ?aL ?_; (case aR => repeat (first | exact (by repeat (first | (with_reducible exact HR130.out) | (with_reducible refine Kd.C_alloc ?_ _) | (with_reducible refine Kd.C_drewN ?_ _) | (with_reducible refine Kd.C_drew ?_) | exact HR130.out)) | (with_reducible refine Kd.C_alloc ?_ _) | (with_reducible refine Kd.C_drewN ?_ _) | (with_reducible refine Kd.C_drew ?_))); (case aB => exact (zh HB.out)); (case aF => exact (fun k_ hk => Kd.fresh' (Kd.R_lt (zr HO_3.out)) k_ hk)); (case aO => exact (zr (Kd.R_mono HO126.out (fun _ hk => hk.2)))); (case aS => exact (below_size (zh HB.out))); (case aL => have := LMc29.out; omega); intro v132 w38 ho hb hg hat; rw [← Ny131.out] at ho; have n0_ := Aside0.mk (Kd.R_after (ok := (fun _ => True)) (zr HO_3.out) hg hat); have n1_ := Aside0.mk (hb); have n2_ := Aside0.mk ((show Kd.C (KQ_ w ok_) w38 Ao34 y127.length y127 from by rw [Ny127.out]; exact Kd.C_take (m := (x6_2 : Int).toNat) ((Kd.R_reads' (Kd.R_after (ok := (fun _ => True)) (zr HO_3.out) hg hat)).2.2) KL37.out)); have n3_ := Aside0.mk (ho); clear HO_3; clear HB; clear HR130; clear HO126; have HO_3 := n0_; have HB := n1_; have HR130 := n2_; have HO133 := n3_; clear n0_ n1_ n2_ n3_; clear ho hb hg hat) | ((with_reducible refine gate_builtin (b := .append) (xs := #[.tmp 32, .tmp 34]) rfl ?_); at_builtin; refine Kd.R_append (KQ_ w ok_) (w0 := w) w.heap.size rfl (.tmp 32) (.tmp 34) 26 59 (.slice none 0 0) 24 rfl Tryz.underlying26 info59 rfl (by first | decide | exact Nat.zero_lt_one) (by omega) v132 y131 (rdOf Q_.nil l0 x10_1) [Q_.val (rdOf Q_.nil l0 x10_1)] (fun k_ => some k_ ≠ (.slice Ao34 x3_1.length co34 : Value).ownBlock) (fun _ => False) rfl rfl ?aP (fun _ hk => hk.elim) ?aF ?aO ?aB ?aS ?aL ?_; (case aP => exact rfl); (case aB => exact (zh HB.out)); (case aF => exact (fun k_ hk => Kd.fresh' (Kd.R_lt (zr HO_3.out)) k_ hk)); (case aO => exact (zr HO133.out)); (case aS => exact (below_size (zh HB.out))); (case aL => have := LMc30.out; omega); intro v135 w39 ho hb hg hat; rw [← Ny134.out] at ho; have n0_ := Aside0.mk (Kd.R_after (ok := (fun _ => True)) (zr HO_3.out) hg hat); have n1_ := Aside0.mk (hb); have n2_ := Aside0.mk ((show Kd.C (KQ_ w ok_) w39 Ao34 y127.length y127 from by rw [Ny127.out]; exact Kd.C_take (m := (x6_2 : Int).toNat) ((Kd.R_reads' (Kd.R_after (ok := (fun _ => True)) (zr HO_3.out) hg hat)).2.2) KL37.out)); have n3_ := Aside0.mk (ho); clear HO_3; clear HB; clear HR130; clear HO133; have HO_3 := n0_; have HB := n1_; have HR130 := n2_; have HO136 := n3_; clear n0_ n1_ n2_ n3_; clear ho hb hg hat; have q40 : (x6_2 : Int) ≤ ((x3_1.length : Int) : Int) := of_decide_eq_true (by first | (with_reducible assumption) | assumption); obtain ⟨i040, hi040, _, hsz40, _⟩ := info_parts info59; have hroom40 : x3_1.length ≤ co34 := (Kd.R_reads' HO_3.out).2.1; have hC40 : Kd.C (KQ_ w ok_) _ Ao34 x3_1.length x3_1 := (Kd.R_reads' HO_3.out).2.2; have q040 : (0 : Int) ≤ (x6_2 : Int) := of_decide_eq_true (by first | (with_reducible assumption) | assumption); have hcut40 := cut_from (P := Tryz.prog) 26 59 .i64 Tryz.underlying26 hi040 1 hsz40 Ao34 x3_1.length co34 x6_2 q040 q40; have hr40 := Kd.C_drop (m := (x6_2 : Int).toNat) (c := co34) hC40 (by omega) hroom40; obtain ⟨A40, hA40⟩ : ∃ A1, A1 = (if co34 = (x6_2 : Int).toNat then Ao34 else (Ao34 : Option Addr).map (·.add ((x6_2 : Int).toNat * 1))) := ⟨_, rfl⟩; obtain ⟨c40, hc40⟩ : ∃ c1, c1 = co34 - (x6_2 : Int).toNat := ⟨_, rfl⟩; have hy40 : y137.length = x3_1.length - (x6_2 : Int).toNat := (by rw [Ny137.out, List.length_drop] <;> omega); rw [show (x3_1).drop (x6_2 : Int).toNat = y137 from Ny137.out.symm] at hr40; replace hr40 : Kd.C (KQ_ w ok_) _ A40 y137.length y137 := (by rw [hA40]; exact hr40); rw [← hy40, ← hA40, ← hc40] at hcut40; have HR140 := Aside0.mk hr40; have HC140 := Aside0.mk (show y137.length ≤ c40 from by rw [hy40, hc40]; exact Nat.sub_le_sub_right hroom40 _); clear hr40 hC40 hroom40 hi040 hsz40 hc40; have KY40 := Aside0.mk hy40; have KA40 := Aside0.mk hA40; clear hy40 hA40; have KL40 := Aside0.mk (show (x6_2 : Int).toNat ≤ x3_1.length from by omega); replace q40 := eq_true q40) | ((with_reducible refine gate_builtin (b := .append) (xs := #[.tmp 36, .tmp 39]) rfl ?_); at_builtin; refine Kd.R_append_rows (KQ_ w ok_) (w0 := w) w.heap.size rfl (.tmp 36) (.tmp 39) 26 59 (.slice none 0 0) 24 rfl Tryz.underlying26 info59 rfl (by first | decide | exact Nat.zero_lt_one) (by omega) v135 y134 y137 _ _ _ (fun k_ => some k_ ≠ (.slice Ao34 x3_1.length co34 : Value).ownBlock) (fun _ => False) rfl rfl ?aO ?aR (fun _ _ h => h) (fun _ h => h.elim) ?aF ?aB ?aS ?aL ?_; (case aR => repeat (first | exact (by repeat (first | (with_reducible exact HR140.out) | (with_reducible refine Kd.C_alloc ?_ _) | (with_reducible refine Kd.C_drewN ?_ _) | (with_reducible refine Kd.C_drew ?_) | exact HR140.out)) | (with_reducible refine Kd.C_alloc ?_ _) | (with_reducible refine Kd.C_drewN ?_ _) | (with_reducible refine Kd.C_drew ?_))); (case aB => exact (zh HB.out)); (case aF => exact (fun k_ hk => Kd.fresh' (Kd.R_lt (zr HO_3.out)) k_ hk)); (case aO => exact (zr HO136.out)); (case aS => exact (below_size (zh HB.out))); (case aL => have := LMc33.out; omega); intro v142 w41 ho hb hg hat; rw [← Ny141.out] at ho; have n0_ := Aside0.mk (Kd.R_after (ok := (fun _ => True)) (zr HO_3.out) hg hat); have n1_ := Aside0.mk (hb); have n2_ := Aside0.mk ((show Kd.C (KQ_ w ok_) w41 Ao34 y127.length y127 from by rw [Ny127.out]; exact Kd.C_take (m := (x6_2 : Int).toNat) ((Kd.R_reads' (Kd.R_after (ok := (fun _ => True)) (zr HO_3.out) hg hat)).2.2) KL37.out)); have n3_ := Aside0.mk ((show Kd.C (KQ_ w ok_) w41 A40 y137.length y137 from by rw [Ny137.out, KA40.out]; exact Kd.C_drop (m := (x6_2 : Int).toNat) (c := co34) ((Kd.R_reads' (Kd.R_after (ok := (fun _ => True)) (zr HO_3.out) hg hat)).2.2) KL40.out ((Kd.R_reads' (Kd.R_after (ok := (fun _ => True)) (zr HO_3.out) hg hat)).2.1))); have n4_ := Aside0.mk (ho); clear HO_3; clear HB; clear HR130; clear HR140; clear HO136; have HO_3 := n0_; have HB := n1_; have HR130 := n2_; have HR140 := n3_; have HO143 := n4_; clear n0_ n1_ n2_ n3_ n4_; clear ho hb hg hat))
      go_roundg k2
      case measure => have := HK1.out; have := HK2.out; omega
      case rel => exact ⟨(y141), (wrap64 (x10_1 + 1)), (by first | rfl | (simp; done) | (simp [*]; done)), H', ⟨by have := HK1.out; have := HK2.out; omega⟩, ⟨by (with_reducible repeat (first | apply Kd.R_alloc | apply Kd.R_drewN | apply Kd.R_drew)); exact Kd.R_mono HO143.out (fun _ hk => trivial)⟩, ⟨zh HB.out⟩⟩
     rw [if_pos c5] at H
     have c5b0 : decide (x6_2 < (x3_1.length : Int)) = true := decide_eq_true c5
     clear c5
     by_cases c6 : 0 ≤ x6_2
     rotate_left
     ·rw [if_neg c6] at H
      exact absurd H (by simp)
     rw [if_pos c6] at H
     have c6b0 : decide (0 ≤ x6_2) = true := decide_eq_true c6
     clear c6
     replace H := Option.bind_eq_some_iff.mp H
     obtain ⟨t103, A70, H⟩ := H
     replace H : (if t103 = true then (spec_voSorted_q.l1 k2 x3_1 (rdOf Q_.nil l0 x10_1) (wrap64 (x6_2 + 1)) l0 (l0.length : Int) x10_1) else ((some (([] : List (Q_ w ok_)) : List (Q_ w ok_))).bind fun y104 => (if x6_2 ≤ (x3_1.length : Int) then ((some (x3_1.take (x6_2 : Int).toNat : List (Q_ w ok_))).bind fun y107 => (if y104.length + y107.length < 5864062014805 then ((some (y104 ++ y107 : List (Q_ w ok_))).bind fun y111 => (if y111.length < 5864062014805 then ((some (y111 ++ [(rdOf Q_.nil l0 x10_1)] : List (Q_ w ok_))).bind fun y114 => ((some (x3_1.drop (x6_2 : Int).toNat : List (Q_ w ok_))).bind fun y117 => (if y114.length + y117.length < 5864062014805 then (spec_voSorted_q.l0 k2 (y114 ++ y117) l0 (l0.length : Int) (wrap64 (x10_1 + 1))) else (none)))) else (none))) else (none))) else (none)))) = some r := H
     have A7 := Aside0.mk A70
     clear A70
     by_cases c8 : t103 = true
     ·subst c8
      have H1 : (spec_voSorted_q.l1 k2 x3_1 (rdOf Q_.nil l0 x10_1) (wrap64 (x6_2 + 1)) l0 (l0.length : Int) x10_1) = some r := by rw [if_pos rfl] at H; exact H
      clear H
      have H := H1
      clear H1
      have H' := Aside0.mk H
      clear H
      obtain ⟨Ao9, co9, eo9⟩ := Kd.R_slice HO_3.out
      subst eo9
      have p102 : 0 ≤ (x6_2 : Int) := of_decide_eq_true (by first | (with_reducible assumption) | assumption)
      have q102 : x6_2 < (x3_1.length : Int) := of_decide_eq_true (by first | (with_reducible assumption) | assumption)
      obtain ⟨ad102, e102, hx102_0⟩ := at_Q_ (Kd.R_reads' HO_3.out).2.2 x6_2 p102 q102
      cases e102
      replace p102 := eq_true p102
      replace q102 := eq_true q102
      go_wp2_with (first | (go_at_call 77; (with_reducible refine (spec_voBefore_q.calls k2 (rdOf Q_.nil x3_1 x6_2) (rdOf Q_.nil l0 x10_1) true _ A7.out).mono ?_); rintro e w10 ⟨rfl, hb⟩; have n0_ := Aside0.mk (Kd.R_below (zr HO_3.out) hb); have n1_ := Aside0.mk (below_step (zh HB.out) hb); clear HO_3; clear HB; have HO_3 := n0_; have HB := n1_; clear n0_ n1_; (try clear hb); (try clear hb2); (try clear hk); (try clear hi)))
      go_roundg k2
      case measure => have := HK1.out; have := HK2.out; omega
      case rel => exact ⟨(wrap64 (x6_2 + 1)), (by first | rfl | (simp; done) | (simp [*]; done)), H', ⟨by have := HK1.out; have := HK2.out; omega⟩, ⟨zr HO_3.out⟩, ⟨zh HB.out⟩⟩
     replace c8 := Bool.eq_false_iff.mpr c8
     subst c8
     have H1 : ((some (([] : List (Q_ w ok_)) : List (Q_ w ok_))).bind fun y104 => (if x6_2 ≤ (x3_1.length : Int) then ((some (x3_1.take (x6_2 : Int).toNat : List (Q_ w ok_))).bind fun y107 => (if y104.length + y107.length < 5864062014805 then ((some (y104 ++ y107 : List (Q_ w ok_))).bind fun y111 => (if y111.length < 5864062014805 then ((some (y111 ++ [(rdOf Q_.nil l0 x10_1)] : List (Q_ w ok_))).bind fun y114 => ((some (x3_1.drop (x6_2 : Int).toNat : List (Q_ w ok_))).bind fun y117 => (if y114.length + y117.length < 5864062014805 then (spec_voSorted_q.l0 k2 (y114 ++ y117) l0 (l0.length : Int) (wrap64 (x10_1 + 1))) else (none)))) else (none))) else (none))) else (none))) = some r := by rw [if_neg (show ¬ (false = true) by decide)] at H; exact H
     clear H
     have H := H1
     clear H1
     obtain ⟨y104, hy104⟩ : ∃ y_ : List (Q_ w ok_), y_ = (([] : List (Q_ w ok_))) := ⟨_, rfl⟩
     replace H : (if x6_2 ≤ (x3_1.length : Int) then ((some (x3_1.take (x6_2 : Int).toNat : List (Q_ w ok_))).bind fun y107 => (if y104.length + y107.length < 5864062014805 then ((some (y104 ++ y107 : List (Q_ w ok_))).bind fun y111 => (if y111.length < 5864062014805 then ((some (y111 ++ [(rdOf Q_.nil l0 x10_1)] : List (Q_ w ok_))).bind fun y114 => ((some (x3_1.drop (x6_2 : Int).toNat : List (Q_ w ok_))).bind fun y117 => (if y114.length + y117.length < 5864062014805 then (spec_voSorted_q.l0 k2 (y114 ++ y117) l0 (l0.length : Int) (wrap64 (x10_1 + 1))) else (none)))) else (none))) else (none))) else (none)) = some r := by first | (rw [hy104]; with_reducible exact H) | (have H2_ := (Option.bind_some _ _).symm.trans H; rw [hy104]; with_reducible exact H2_) | (have H2_ := (Option.bind_some _ _).symm.trans H; with_reducible exact H2_) | with_reducible exact H | (rw [hy104]; exact H) | exact H
     have Ny104 := Aside0.mk hy104
     clear hy104
     have c11b0 := eq_true (of_decide_eq_true (by first | (with_reducible assumption) | assumption) : 0 ≤ x6_2)
     by_cases c12 : x6_2 ≤ (x3_1.length : Int)
     rotate_left
     ·rw [if_neg c12] at H
      exact absurd H (by simp)
     rw [if_pos c12] at H
     have c12b0 := eq_true c12
     have c12b1 : decide (x6_2 ≤ (x3_1.length : Int)) = true := decide_eq_true c12
     clear c12
     obtain ⟨y107, hy107⟩ : ∃ y_ : List (Q_ w ok_), y_ = (x3_1.take (x6_2 : Int).toNat) := ⟨_, rfl⟩
     replace H : (if y104.length + y107.length < 5864062014805 then ((some (y104 ++ y107 : List (Q_ w ok_))).bind fun y111 => (if y111.length < 5864062014805 then ((some (y111 ++ [(rdOf Q_.nil l0 x10_1)] : List (Q_ w ok_))).bind fun y114 => ((some (x3_1.drop (x6_2 : Int).toNat : List (Q_ w ok_))).bind fun y117 => (if y114.length + y117.length < 5864062014805 then (spec_voSorted_q.l0 k2 (y114 ++ y117) l0 (l0.length : Int) (wrap64 (x10_1 + 1))) else (none)))) else (none))) else (none)) = some r := by first | (rw [hy107]; with_reducible exact H) | (have H2_ := (Option.bind_some _ _).symm.trans H; rw [hy107]; with_reducible exact H2_) | (have H2_ := (Option.bind_some _ _).symm.trans H; with_reducible exact H2_) | with_reducible exact H | (rw [hy107]; exact H) | exact H
     have Ny107 := Aside0.mk hy107
     clear hy107
     by_cases c13 : y104.length + y107.length < 5864062014805
     rotate_left
     ·rw [if_neg c13] at H
      exact absurd H (by simp)
     rw [if_pos c13] at H
     have LMc13 := Aside0.mk c13
     clear c13
     obtain ⟨y111, hy111⟩ : ∃ y_ : List (Q_ w ok_), y_ = (y104 ++ y107) := ⟨_, rfl⟩
     replace H : (if y111.length < 5864062014805 then ((some (y111 ++ [(rdOf Q_.nil l0 x10_1)] : List (Q_ w ok_))).bind fun y114 => ((some (x3_1.drop (x6_2 : Int).toNat : List (Q_ w ok_))).bind fun y117 => (if y114.length + y117.length < 5864062014805 then (spec_voSorted_q.l0 k2 (y114 ++ y117) l0 (l0.length : Int) (wrap64 (x10_1 + 1))) else (none)))) else (none)) = some r := by first | (rw [hy111]; with_reducible exact H) | (have H2_ := (Option.bind_some _ _).symm.trans H; rw [hy111]; with_reducible exact H2_) | (have H2_ := (Option.bind_some _ _).symm.trans H; with_reducible exact H2_) | with_reducible exact H | (rw [hy111]; exact H) | exact H
     have Ny111 := Aside0.mk hy111
     clear hy111
     by_cases c14 : y111.length < 5864062014805
     rotate_left
     ·rw [if_neg c14] at H
      exact absurd H (by simp)
     rw [if_pos c14] at H
     have LMc14 := Aside0.mk c14
     clear c14
     obtain ⟨y114, hy114⟩ : ∃ y_ : List (Q_ w ok_), y_ = (y111 ++ [(rdOf Q_.nil l0 x10_1)]) := ⟨_, rfl⟩
     replace H : ((some (x3_1.drop (x6_2 : Int).toNat : List (Q_ w ok_))).bind fun y117 => (if y114.length + y117.length < 5864062014805 then (spec_voSorted_q.l0 k2 (y114 ++ y117) l0 (l0.length : Int) (wrap64 (x10_1 + 1))) else (none))) = some r := by first | (rw [hy114]; with_reducible exact H) | (have H2_ := (Option.bind_some _ _).symm.trans H; rw [hy114]; with_reducible exact H2_) | (have H2_ := (Option.bind_some _ _).symm.trans H; with_reducible exact H2_) | with_reducible exact H | (rw [hy114]; exact H) | exact H
     have Ny114 := Aside0.mk hy114
     clear hy114
     have c15b0 := eq_true (of_decide_eq_true (by first | (with_reducible assumption) | assumption) : 0 ≤ x6_2)
     have c16b0 := eq_true (of_decide_eq_true (by first | (with_reducible assumption) | assumption) : x6_2 ≤ (x3_1.length : Int))
     obtain ⟨y117, hy117⟩ : ∃ y_ : List (Q_ w ok_), y_ = (x3_1.drop (x6_2 : Int).toNat) := ⟨_, rfl⟩
     replace H : (if y114.length + y117.length < 5864062014805 then (spec_voSorted_q.l0 k2 (y114 ++ y117) l0 (l0.length : Int) (wrap64 (x10_1 + 1))) else (none)) = some r := by first | (rw [hy117]; with_reducible exact H) | (have H2_ := (Option.bind_some _ _).symm.trans H; rw [hy117]; with_reducible exact H2_) | (have H2_ := (Option.bind_some _ _).symm.trans H; with_reducible exact H2_) | with_reducible exact H | (rw [hy117]; exact H) | exact H
     have Ny117 := Aside0.mk hy117
     clear hy117
     by_cases c17 : y114.length + y117.length < 5864062014805
     rotate_left
     ·rw [if_neg c17] at H
      exact absurd H (by simp)
     rw [if_pos c17] at H
     have LMc17 := Aside0.mk c17
     clear c17
     obtain ⟨y121, hy121⟩ : ∃ y_ : List (Q_ w ok_), y_ = (y114 ++ y117) := ⟨_, rfl⟩
     replace H : (spec_voSorted_q.l0 k2 y121 l0 (l0.length : Int) (wrap64 (x10_1 + 1))) = some r := by first | (rw [hy121]; with_reducible exact H) | (have H2_ := (Option.bind_some _ _).symm.trans H; rw [hy121]; with_reducible exact H2_) | (have H2_ := (Option.bind_some _ _).symm.trans H; with_reducible exact H2_) | with_reducible exact H | (rw [hy121]; exact H) | exact H
     have Ny121 := Aside0.mk hy121
     clear hy121
     have H' := Aside0.mk H
     clear H
     obtain ⟨Ao18, co18, eo18⟩ := Kd.R_slice HO_3.out
     subst eo18
     have p102 : 0 ≤ (x6_2 : Int) := of_decide_eq_true (by first | (with_reducible assumption) | assumption)
     have q102 : x6_2 < (x3_1.length : Int) := of_decide_eq_true (by first | (with_reducible assumption) | assumption)
     obtain ⟨ad102, e102, hx102_0⟩ := at_Q_ (Kd.R_reads' HO_3.out).2.2 x6_2 p102 q102
     cases e102
     replace p102 := eq_true p102
     replace q102 := eq_true q102
     go_wp2_with (first | (go_at_call 77; (with_reducible refine (spec_voBefore_q.calls k2 (rdOf Q_.nil x3_1 x6_2) (rdOf Q_.nil l0 x10_1) false _ A7.out).mono ?_); rintro e w19 ⟨rfl, hb⟩; have n0_ := Aside0.mk (Kd.R_below (zr HO_3.out) hb); have n1_ := Aside0.mk (below_step (zh HB.out) hb); clear HO_3; clear HB; have HO_3 := n0_; have HB := n1_; clear n0_ n1_; (try clear hb); (try clear hb2); (try clear hk); (try clear hi)) | ((with_reducible refine gate_dst (N := 28) rfl ?_); refine Kd.R_lit (KQ_ w ok_) _ 59 ?hg (N := 28) ?hd (xs := ([] : List (Q_ w ok_))) (inner := []) (ok := fun _ => True) (okp := fun _ => True) ?hr ?hp (fun _ hk => hk) trivial (Below.refl _ _) (Nat.le_refl _) (by simp) ?_; (case hd => rfl); (case hg => rfl); (case hr => first | (go_simp; done) | (go_simp; rfl)); (case hp => exact (Reps.none _ _)); intro v105 w20 ho21 hb hg_ hnew_; clear hg_ hnew_; (first | rw [← Ny104.out] at ho21 | (simp only [Int.reduceToNat] at ho21; rw [← Ny104.out] at ho21)); have n0_ := Aside0.mk (Kd.R_elder' (zr HO_3.out) (Kd.R_base ho21) hb); have n1_ := Aside0.mk (Kd.R_lower (Kd.R_new' ho21 (Kd.R_lt (zr HO_3.out))) (below_size (zh HB.out))); have n2_ := Aside0.mk (below_step (zh HB.out) hb); clear HO_3; clear HB; have HO_3 := n0_; have HO106 := n1_; have HB := n2_; clear n0_ n1_ n2_; clear hb ho21; have q22 : (x6_2 : Int) ≤ ((x3_1.length : Int) : Int) := of_decide_eq_true (by first | (with_reducible assumption) | assumption); obtain ⟨i022, hi022, _, hsz22, _⟩ := info_parts info59; have hroom22 : x3_1.length ≤ co18 := (Kd.R_reads' HO_3.out).2.1; have hC22 : Kd.C (KQ_ w ok_) _ (some ad102) x3_1.length x3_1 := (Kd.R_reads' HO_3.out).2.2; have hcut22 := cut_to (P := Tryz.prog) 26 59 .i64 Tryz.underlying26 hi022 (some ad102) x3_1.length co18 x6_2 (of_decide_eq_true (by first | (with_reducible assumption) | assumption)) q22 hroom22; have hr22 := Kd.C_take (m := (x6_2 : Int).toNat) hC22 (by omega); have hy22 : y107.length = (x6_2 : Int).toNat := (by rw [Ny107.out, List.length_take]; omega); rw [← Ny107.out] at hr22; rw [← hy22] at hcut22; have HR110 := Aside0.mk hr22; have HC110 := Aside0.mk (show y107.length ≤ co18 from by omega); clear hr22 hC22 hroom22 hi022 hsz22; have KY22 := Aside0.mk hy22; clear hy22; have KL22 := Aside0.mk (show (x6_2 : Int).toNat ≤ x3_1.length from by omega); replace q22 := eq_true q22) | ((with_reducible refine gate_builtin (b := .append) (xs := #[.tmp 28, .tmp 31]) rfl ?_); at_builtin; refine Kd.R_append_rows (KQ_ w ok_) (w0 := w) w.heap.size rfl (.tmp 28) (.tmp 31) 26 59 (.slice none 0 0) 24 rfl Tryz.underlying26 info59 rfl (by first | decide | exact Nat.zero_lt_one) (by omega) v105 y104 y107 _ _ _ (fun k_ => some k_ ≠ (.slice (some ad102) x3_1.length co18 : Value).ownBlock) (fun _ => False) rfl rfl ?aO ?aR (fun _ _ h => h) (fun _ h => h.elim) ?aF ?aB ?aS ?aL ?_; (case aR => repeat (first | exact (by repeat (first | (with_reducible exact HR110.out) | (with_reducible refine Kd.C_alloc ?_ _) | (with_reducible refine Kd.C_drewN ?_ _) | (with_reducible refine Kd.C_drew ?_) | exact HR110.out)) | (with_reducible refine Kd.C_alloc ?_ _) | (with_reducible refine Kd.C_drewN ?_ _) | (with_reducible refine Kd.C_drew ?_))); (case aB => exact (zh HB.out)); (case aF => exact (fun k_ hk => Kd.fresh' (Kd.R_lt (zr HO_3.out)) k_ hk)); (case aO => exact (zr (Kd.R_mono HO106.out (fun _ hk => hk.2)))); (case aS => exact (below_size (zh HB.out))); (case aL => have := LMc13.out; omega); intro v112 w23 ho hb hg hat; rw [← Ny111.out] at ho; have n0_ := Aside0.mk (Kd.R_after (ok := (fun _ => True)) (zr HO_3.out) hg hat); have n1_ := Aside0.mk (hb); have n2_ := Aside0.mk ((show Kd.C (KQ_ w ok_) w23 (some ad102) y107.length y107 from by rw [Ny107.out]; exact Kd.C_take (m := (x6_2 : Int).toNat) ((Kd.R_reads' (Kd.R_after (ok := (fun _ => True)) (zr HO_3.out) hg hat)).2.2) KL22.out)); have n3_ := Aside0.mk (ho); clear HO_3; clear HB; clear HR110; clear HO106; have HO_3 := n0_; have HB := n1_; have HR110 := n2_; have HO113 := n3_; clear n0_ n1_ n2_ n3_; clear ho hb hg hat) | ((with_reducible refine gate_builtin (b := .append) (xs := #[.tmp 32, .tmp 34]) rfl ?_); at_builtin; refine Kd.R_append (KQ_ w ok_) (w0 := w) w.heap.size rfl (.tmp 32) (.tmp 34) 26 59 (.slice none 0 0) 24 rfl Tryz.underlying26 info59 rfl (by first | decide | exact Nat.zero_lt_one) (by omega) v112 y111 (rdOf Q_.nil l0 x10_1) [Q_.val (rdOf Q_.nil l0 x10_1)] (fun k_ => some k_ ≠ (.slice (some ad102) x3_1.length co18 : Value).ownBlock) (fun _ => False) rfl rfl ?aP (fun _ hk => hk.elim) ?aF ?aO ?aB ?aS ?aL ?_; (case aP => exact rfl); (case aB => exact (zh HB.out)); (case aF => exact (fun k_ hk => Kd.fresh' (Kd.R_lt (zr HO_3.out)) k_ hk)); (case aO => exact (zr HO113.out)); (case aS => exact (below_size (zh HB.out))); (case aL => have := LMc14.out; omega); intro v115 w24 ho hb hg hat; rw [← Ny114.out] at ho; have n0_ := Aside0.mk (Kd.R_after (ok := (fun _ => True)) (zr HO_3.out) hg hat); have n1_ := Aside0.mk (hb); have n2_ := Aside0.mk ((show Kd.C (KQ_ w ok_) w24 (some ad102) y107.length y107 from by rw [Ny107.out]; exact Kd.C_take (m := (x6_2 : Int).toNat) ((Kd.R_reads' (Kd.R_after (ok := (fun _ => True)) (zr HO_3.out) hg hat)).2.2) KL22.out)); have n3_ := Aside0.mk (ho); clear HO_3; clear HB; clear HR110; clear HO113; have HO_3 := n0_; have HB := n1_; have HR110 := n2_; have HO116 := n3_; clear n0_ n1_ n2_ n3_; clear ho hb hg hat; have q25 : (x6_2 : Int) ≤ ((x3_1.length : Int) : Int) := of_decide_eq_true (by first | (with_reducible assumption) | assumption); obtain ⟨i025, hi025, _, hsz25, _⟩ := info_parts info59; have hroom25 : x3_1.length ≤ co18 := (Kd.R_reads' HO_3.out).2.1; have hC25 : Kd.C (KQ_ w ok_) _ (some ad102) x3_1.length x3_1 := (Kd.R_reads' HO_3.out).2.2; have q025 : (0 : Int) ≤ (x6_2 : Int) := of_decide_eq_true (by first | (with_reducible assumption) | assumption); have hcut25 := cut_from (P := Tryz.prog) 26 59 .i64 Tryz.underlying26 hi025 1 hsz25 (some ad102) x3_1.length co18 x6_2 q025 q25; have hr25 := Kd.C_drop (m := (x6_2 : Int).toNat) (c := co18) hC25 (by omega) hroom25; obtain ⟨A25, hA25⟩ : ∃ A1, A1 = (if co18 = (x6_2 : Int).toNat then (some ad102) else ((some ad102) : Option Addr).map (·.add ((x6_2 : Int).toNat * 1))) := ⟨_, rfl⟩; obtain ⟨c25, hc25⟩ : ∃ c1, c1 = co18 - (x6_2 : Int).toNat := ⟨_, rfl⟩; have hy25 : y117.length = x3_1.length - (x6_2 : Int).toNat := (by rw [Ny117.out, List.length_drop] <;> omega); rw [show (x3_1).drop (x6_2 : Int).toNat = y117 from Ny117.out.symm] at hr25; replace hr25 : Kd.C (KQ_ w ok_) _ A25 y117.length y117 := (by rw [hA25]; exact hr25); rw [← hy25, ← hA25, ← hc25] at hcut25; have HR120 := Aside0.mk hr25; have HC120 := Aside0.mk (show y117.length ≤ c25 from by rw [hy25, hc25]; exact Nat.sub_le_sub_right hroom25 _); clear hr25 hC25 hroom25 hi025 hsz25 hc25; have KY25 := Aside0.mk hy25; have KA25 := Aside0.mk hA25; clear hy25 hA25; have KL25 := Aside0.mk (show (x6_2 : Int).toNat ≤ x3_1.length from by omega); replace q25 := eq_true q25) | ((with_reducible refine gate_builtin (b := .append) (xs := #[.tmp 36, .tmp 39]) rfl ?_); at_builtin; refine Kd.R_append_rows (KQ_ w ok_) (w0 := w) w.heap.size rfl (.tmp 36) (.tmp 39) 26 59 (.slice none 0 0) 24 rfl Tryz.underlying26 info59 rfl (by first | decide | exact Nat.zero_lt_one) (by omega) v115 y114 y117 _ _ _ (fun k_ => some k_ ≠ (.slice (some ad102) x3_1.length co18 : Value).ownBlock) (fun _ => False) rfl rfl ?aO ?aR (fun _ _ h => h) (fun _ h => h.elim) ?aF ?aB ?aS ?aL ?_; (case aR => repeat (first | exact (by repeat (first | (with_reducible exact HR120.out) | (with_reducible refine Kd.C_alloc ?_ _) | (with_reducible refine Kd.C_drewN ?_ _) | (with_reducible refine Kd.C_drew ?_) | exact HR120.out)) | (with_reducible refine Kd.C_alloc ?_ _) | (with_reducible refine Kd.C_drewN ?_ _) | (with_reducible refine Kd.C_drew ?_))); (case aB => exact (zh HB.out)); (case aF => exact (fun k_ hk => Kd.fresh' (Kd.R_lt (zr HO_3.out)) k_ hk)); (case aO => exact (zr HO116.out)); (case aS => exact (below_size (zh HB.out))); (case aL => have := LMc17.out; omega); intro v122 w26 ho hb hg hat; rw [← Ny121.out] at ho; have n0_ := Aside0.mk (Kd.R_after (ok := (fun _ => True)) (zr HO_3.out) hg hat); have n1_ := Aside0.mk (hb); have n2_ := Aside0.mk ((show Kd.C (KQ_ w ok_) w26 (some ad102) y107.length y107 from by rw [Ny107.out]; exact Kd.C_take (m := (x6_2 : Int).toNat) ((Kd.R_reads' (Kd.R_after (ok := (fun _ => True)) (zr HO_3.out) hg hat)).2.2) KL22.out)); have n3_ := Aside0.mk ((show Kd.C (KQ_ w ok_) w26 A25 y117.length y117 from by rw [Ny117.out, KA25.out]; exact Kd.C_drop (m := (x6_2 : Int).toNat) (c := co18) ((Kd.R_reads' (Kd.R_after (ok := (fun _ => True)) (zr HO_3.out) hg hat)).2.2) KL25.out ((Kd.R_reads' (Kd.R_after (ok := (fun _ => True)) (zr HO_3.out) hg hat)).2.1))); have n4_ := Aside0.mk (ho); clear HO_3; clear HB; clear HR110; clear HR120; clear HO116; have HO_3 := n0_; have HB := n1_; have HR110 := n2_; have HR120 := n3_; have HO123 := n4_; clear n0_ n1_ n2_ n3_ n4_; clear ho hb hg hat))
     go_roundg k2
     case measure => have := HK1.out; have := HK2.out; omega
     case rel => exact ⟨(y121), (wrap64 (x10_1 + 1)), (by first | rfl | (simp; done) | (simp [*]; done)), H', ⟨by have := HK1.out; have := HK2.out; omega⟩, ⟨by (with_reducible repeat (first | apply Kd.R_alloc | apply Kd.R_drewN | apply Kd.R_drew)); exact Kd.R_mono HO123.out (fun _ hk => trivial)⟩, ⟨zh HB.out⟩⟩
end
mutual
def spec_voSorted.l0 : Nat → List (List Int) → List (List Int) → Int → Int → Option (List (List Int))
 | 0, _, _, _, _ => none
 | k + 1, x3, x8, x9, x10 => if x10 < x9 then (if 0 ≤ x10 then (if x10 < (x8.length : Int) then (spec_voSorted.l1 k x3 (rdOf [] x8 x10) 0 x8 x9 x10) else (none)) else (none)) else (some x3)
def spec_voSorted.l1 : Nat → List (List Int) → (List Int) → Int → List (List Int) → Int → Int → Option (List (List Int))
 | 0, _, _, _, _, _, _ => none
 | k + 1, x3, x5, x6, x8, x9, x10 => if x6 < (x3.length : Int) then (if 0 ≤ x6 then ((spec_voBefore.f k (rdOf [] x3 x6) x5).bind fun t103 => (if t103 = true then (spec_voSorted.l1 k x3 x5 (wrap64 (x6 + 1)) x8 x9 x10) else ((some (([] : List (List Int)) : List (List Int))).bind fun y104 => (if x6 ≤ (x3.length : Int) then ((some (x3.take (x6 : Int).toNat : List (List Int))).bind fun y107 => (if y104.length + y107.length < 5864062014805 then ((some (y104 ++ y107 : List (List Int))).bind fun y111 => (if y111.length < 5864062014805 then ((some (y111 ++ [x5] : List (List Int))).bind fun y114 => ((some (x3.drop (x6 : Int).toNat : List (List Int))).bind fun y117 => (if y114.length + y117.length < 5864062014805 then (spec_voSorted.l0 k (y114 ++ y117) x8 x9 (wrap64 (x10 + 1))) else (none)))) else (none))) else (none))) else (none))))) else (none)) else ((some (([] : List (List Int)) : List (List Int))).bind fun y124 => (if 0 ≤ x6 then (if x6 ≤ (x3.length : Int) then ((some (x3.take (x6 : Int).toNat : List (List Int))).bind fun y127 => (if y124.length + y127.length < 5864062014805 then ((some (y124 ++ y127 : List (List Int))).bind fun y131 => (if y131.length < 5864062014805 then ((some (y131 ++ [x5] : List (List Int))).bind fun y134 => ((some (x3.drop (x6 : Int).toNat : List (List Int))).bind fun y137 => (if y134.length + y137.length < 5864062014805 then (spec_voSorted.l0 k (y134 ++ y137) x8 x9 (wrap64 (x10 + 1))) else (none)))) else (none))) else (none))) else (none)) else (none)))
end
def spec_voSorted.f (k : Nat) (l0 : List (List Int)) : Option (List (List Int)) := spec_voSorted.l0 k ([] : List (List Int)) l0 (l0.length : Int) 0
theorem spec_voSorted.mono_l : ∀ k, (∀ y0 y1 y2 y3, LeO (spec_voSorted.l0 k y0 y1 y2 y3) (spec_voSorted.l0 (k + 1) y0 y1 y2 y3)) ∧ (∀ y0 y1 y2 y3 y4 y5, LeO (spec_voSorted.l1 k y0 y1 y2 y3 y4 y5) (spec_voSorted.l1 (k + 1) y0 y1 y2 y3 y4 y5))
 | 0 => ⟨fun _ _ _ _ r h => by simp [spec_voSorted.l0] at h, fun _ _ _ _ _ _ r h => by simp [spec_voSorted.l1] at h⟩
 | k + 1 => by
  obtain ⟨ih0, ih1⟩ := spec_voSorted.mono_l k
  refine ⟨?_, ?_⟩
  ·intro y0 y1 y2 y3
   unfold spec_voSorted.l0
   repeat' first
   | (with_reducible exact ih0 _ _ _ _)
   | (with_reducible exact ih1 _ _ _ _ _ _)
   | (with_reducible exact spec_voBefore.mono _ _ _)
   | (with_reducible exact LeO.refl _)
   | (with_reducible exact LeO.none _)
   | (with_reducible refine LeO.ite ?_ ?_)
   | (with_reducible refine LeO.bind ?_ (fun _ => ?_))
   | exact ih0 _ _ _ _
   | exact ih1 _ _ _ _ _ _
   | exact spec_voBefore.mono _ _ _
   | exact LeO.none _
   | refine LeO.ite ?_ ?_
   | refine LeO.bind ?_ (fun _ => ?_)
  ·intro y0 y1 y2 y3 y4 y5
   unfold spec_voSorted.l1
   repeat' first
   | (with_reducible exact ih0 _ _ _ _)
   | (with_reducible exact ih1 _ _ _ _ _ _)
   | (with_reducible exact spec_voBefore.mono _ _ _)
   | (with_reducible exact LeO.refl _)
   | (with_reducible exact LeO.none _)
   | (with_reducible refine LeO.ite ?_ ?_)
   | (with_reducible refine LeO.bind ?_ (fun _ => ?_))
   | exact ih0 _ _ _ _
   | exact ih1 _ _ _ _ _ _
   | exact spec_voBefore.mono _ _ _
   | exact LeO.none _
   | refine LeO.ite ?_ ?_
   | refine LeO.bind ?_ (fun _ => ?_)
theorem spec_voSorted.mono : ∀ a0 k, LeO (spec_voSorted.f k a0) (spec_voSorted.f (k + 1) a0) := by
 intro a0 k
 obtain ⟨ih0, ih1⟩ := spec_voSorted.mono_l k
 unfold spec_voSorted.f
 repeat' first
   | (with_reducible exact ih0 _ _ _ _)
   | (with_reducible exact ih1 _ _ _ _ _ _)
   | (with_reducible exact spec_voBefore.mono _ _ _)
   | (with_reducible exact LeO.refl _)
   | (with_reducible exact LeO.none _)
   | (with_reducible refine LeO.ite ?_ ?_)
   | (with_reducible refine LeO.bind ?_ (fun _ => ?_))
   | exact ih0 _ _ _ _
   | exact ih1 _ _ _ _ _ _
   | exact spec_voBefore.mono _ _ _
   | exact LeO.none _
   | refine LeO.ite ?_ ?_
   | refine LeO.bind ?_ (fun _ => ?_)
section
variable {W_ : World} {ok_ : Nat → Prop}
theorem rdQ (xs : List (Q_ W_ ok_)) (i : Int) : (rdOf Q_.nil xs i).l = rdOf [] (xs.map Q_.l) i := by
  unfold rdOf
  rw [List.getD_eq_getElem?_getD, List.getD_eq_getElem?_getD, List.getElem?_map]
  cases xs[i.toNat]? <;> rfl
theorem map_ite {α β : Type} {c : Prop} [Decidable c] {x y : Option α} {x' y' : Option β} {g : α → β} (h1 : c → x.map g = x') (h2 : ¬ c → y.map g = y') : (if c then x else y).map g = if c then x' else y' := by
  by_cases h : c
  · rw [if_pos h, if_pos h]; exact h1 h
  · rw [if_neg h, if_neg h]; exact h2 h
theorem map_bind1 {α β δ : Type} {x : Option α} {f : α → Option β} {f' : α → Option δ} {g : β → δ} (h : ∀ t, (f t).map g = f' t) : (x.bind f).map g = x.bind f' := by
  cases x with
  | none => rfl
  | some t => exact h t
theorem voSorted_map : ∀ k, (∀ (x3 x8 : List (Q_ W_ ok_)) x9 x10, (spec_voSorted_q.l0 k x3 x8 x9 x10).map (List.map Q_.l) = spec_voSorted.l0 k (x3.map Q_.l) (x8.map Q_.l) x9 x10) ∧
    (∀ (x3 : List (Q_ W_ ok_)) (x5 : Q_ W_ ok_) x6 x8 x9 x10, (spec_voSorted_q.l1 k x3 x5 x6 x8 x9 x10).map (List.map Q_.l) = spec_voSorted.l1 k (x3.map Q_.l) x5.l x6 (x8.map Q_.l) x9 x10)
  | 0 => ⟨fun _ _ _ _ => by simp [spec_voSorted_q.l0, spec_voSorted.l0], fun _ _ _ _ _ _ => by simp [spec_voSorted_q.l1, spec_voSorted.l1]⟩
  | k + 1 => by
    obtain ⟨ih0, ih1⟩ := voSorted_map k
    refine ⟨fun x3 x8 x9 x10 => ?_, fun x3 x5 x6 x8 x9 x10 => ?_⟩
    · simp only [spec_voSorted_q.l0, spec_voSorted.l0]
      refine map_ite (fun _ => map_ite (fun _ => ?_) (fun _ => rfl)) (fun _ => rfl)
      rw [List.length_map]
      refine map_ite (fun _ => ?_) (fun _ => rfl)
      rw [ih1, rdQ]
    · simp only [spec_voSorted_q.l1, spec_voSorted.l1, Option.bind_some, ← List.map_take, ← List.map_drop, List.nil_append, List.length_append, List.length_cons, List.length_nil, List.length_map]
      refine map_ite (fun _ => map_ite (fun _ => ?_) (fun _ => rfl)) (fun _ => ?_)
      · refine (map_bind1 fun t => ?_).trans (congrArg (fun z => Option.bind z _) (show spec_voBefore_q.f k _ _ = spec_voBefore.f k _ _ from by rw [← rdQ]; rfl))
        refine map_ite (fun _ => ih1 _ _ _ _ _ _) (fun _ => map_ite (fun _ => map_ite (fun _ => map_ite (fun _ => map_ite (fun _ => ?_) (fun _ => rfl)) (fun _ => rfl)) (fun _ => rfl)) (fun _ => rfl))
        rw [ih0]; simp
      · refine map_ite (fun _ => map_ite (fun _ => map_ite (fun _ => map_ite (fun _ => map_ite (fun _ => ?_) (fun _ => rfl)) (fun _ => rfl)) (fun _ => rfl)) (fun _ => rfl)) (fun _ => rfl)
        rw [ih0]; simp
theorem voSorted_f (k : Nat) (l : List (Q_ W_ ok_)) : (spec_voSorted_q.f k l).map (List.map Q_.l) = spec_voSorted.f k (l.map Q_.l) := by
  unfold spec_voSorted_q.f spec_voSorted.f
  rw [(voSorted_map k).1, List.length_map]; rfl
end
theorem spec_voSorted.calls (k : Nat) (P0_ : Nat → Prop) (A0 : Option Addr) (c0 : Nat) (l0 r : List (List Int)) (w : World) (hV : Kd.V (Kd.slice 3 (Kd.int .i64)) 59 w 0 P0_ (.slice A0 l0.length c0) l0) (h : spec_voSorted.f k l0 = some r) :
    Calls Tryz.prog 66 #[.slice A0 l0.length c0] w fun e w' => ∃ v0_ : Value, e = .returned v0_ ∧ Kd.V (Kd.slice 3 (Kd.int .i64)) 59 w' w.heap.size (fun k_ => P0_ k_ ∨ w.heap.size ≤ k_) v0_ r ∧ Below w.heap.size w w' := by
  obtain ⟨A, c, hv, hl, hF⟩ := hV
  injection hv with hv1 _ hv2
  subst hv1; subst hv2
  obtain ⟨qs, rfl, hC⟩ := Q_of_F hF
  rw [← voSorted_f] at h
  obtain ⟨rq, hq, rfl⟩ := Option.map_eq_some_iff.1 h
  rw [List.length_map] at hC hl ⊢
  refine (spec_voSorted_q.calls w P0_ k A0 c0 qs rq hC hl hq).mono ?_
  rintro e w' ⟨v, rfl, hR, hb⟩
  have hR2 := Kd.R_bound hR
  obtain ⟨A', c', rfl⟩ := Kd.R_slice hR
  refine ⟨_, rfl, ⟨A', c', by rw [List.length_map], by rw [List.length_map]; exact (Kd.R_reads' hR).2.1, ?_⟩, hb⟩
  rw [List.length_map]
  exact F_of_Q hb (Kd.F_mono (Kd.R_F hR2) (fun k hk => .inr hk.2.1)) (fun k hk => .inl hk)
end Go.Proofs.YtgfdfabeninfeaaGreat.Q
end
section
namespace Go.Proofs.YtgfdfabeninfeaaGreat.Q
open Go.RowKit Go.Proofs.YtgfdfabeninfeaaGreatW.PrintWords Go.Proofs.YtgfdfabeninfeaaGreatW.PrintLast Go.Proofs.YtgfdfabeninfeaaGreatW.PrintMore
attribute [local go_sem] max2_int min2_int max_two min_two max_three min_three max_four min_four
set_option linter.unusedVariables false
set_option linter.unusedSimpArgs false
mutual
def spec_voLeast.l0 : Nat → List Bool → List (List Int) → List Bool → Int → Int → Option ((List (List Int)))
 | 0, _, _, _, _, _ => none
 | k + 1, x0, x3, x9, x10, x11 => if x11 < x10 then (if 0 ≤ x11 then (if x11 < (x9.length : Int) then (if rdOf false x9 x11 = true then ((spec_voList.f k x11).bind fun t155 => (spec_voLeast.l1 k x0 x3 x11 true x9 x10 x11 t155 (t155.length : Int) 0)) else (spec_voLeast.l0 k x0 x3 x9 x10 (wrap64 (x11 + 1)))) else (none)) else (none)) else ((spec_voSorted.f k x3).bind fun t151 => (some t151))
def spec_voLeast.l1 : Nat → List Bool → List (List Int) → Int → Bool → List Bool → Int → Int → List Int → Int → Int → Option ((List (List Int)))
 | 0, _, _, _, _, _, _, _, _, _, _ => none
 | k + 1, x0, x3, x4, x6, x9, x10, x11, x19, x20, x21 => if x21 < x20 then (if 0 ≤ x21 then (if x21 < (x19.length : Int) then (if x6 = true then (if 0 ≤ (rd x19 x21) then (if 0 ≤ (wrap64 (x4 - (shl .i64 1 (rd x19 x21)))) then (if (wrap64 (x4 - (shl .i64 1 (rd x19 x21)))) < (x0.length : Int) then (spec_voLeast.l1 k x0 x3 x4 (!(rdOf false x0 (wrap64 (x4 - (shl .i64 1 (rd x19 x21)))))) x9 x10 x11 x19 x20 (wrap64 (x21 + 1))) else (none)) else (none)) else (none)) else (spec_voLeast.l1 k x0 x3 x4 false x9 x10 x11 x19 x20 (wrap64 (x21 + 1)))) else (none)) else (none)) else (if x6 = true then ((spec_voList.f k x4).bind fun t160 => (if x3.length < 5864062014805 then (spec_voLeast.l0 k x0 (x3 ++ [t160]) x9 x10 (wrap64 (x11 + 1))) else (none))) else (spec_voLeast.l0 k x0 x3 x9 x10 (wrap64 (x11 + 1))))
end
def spec_voLeast.f (k : Nat) (l0 : List Bool) : Option ((List (List Int))) := spec_voLeast.l0 k l0 ([] : List (List Int)) l0 (l0.length : Int) 0
theorem spec_voLeast.mono_l : ∀ k, (∀ y0 y1 y2 y3 y4, LeO (spec_voLeast.l0 k y0 y1 y2 y3 y4) (spec_voLeast.l0 (k + 1) y0 y1 y2 y3 y4)) ∧ (∀ y0 y1 y2 y3 y4 y5 y6 y7 y8 y9, LeO (spec_voLeast.l1 k y0 y1 y2 y3 y4 y5 y6 y7 y8 y9) (spec_voLeast.l1 (k + 1) y0 y1 y2 y3 y4 y5 y6 y7 y8 y9))
 | 0 => ⟨fun _ _ _ _ _ r h => by simp [spec_voLeast.l0] at h, fun _ _ _ _ _ _ _ _ _ _ r h => by simp [spec_voLeast.l1] at h⟩
 | k + 1 => by
  obtain ⟨ih0, ih1⟩ := spec_voLeast.mono_l k
  refine ⟨?_, ?_⟩
  ·intro y0 y1 y2 y3 y4
   unfold spec_voLeast.l0
   repeat' first
   | (with_reducible exact ih0 _ _ _ _ _)
   | (with_reducible exact ih1 _ _ _ _ _ _ _ _ _ _)
   | (with_reducible exact spec_voList.mono _ _)
   | (with_reducible exact spec_voSorted.mono _ _)
   | (with_reducible exact LeO.refl _)
   | (with_reducible exact LeO.none _)
   | (with_reducible refine LeO.ite ?_ ?_)
   | (with_reducible refine LeO.bind ?_ (fun _ => ?_))
   | exact ih0 _ _ _ _ _
   | exact ih1 _ _ _ _ _ _ _ _ _ _
   | exact spec_voList.mono _ _
   | exact spec_voSorted.mono _ _
   | exact LeO.none _
   | refine LeO.ite ?_ ?_
   | refine LeO.bind ?_ (fun _ => ?_)
  ·intro y0 y1 y2 y3 y4 y5 y6 y7 y8 y9
   unfold spec_voLeast.l1
   repeat' first
   | (with_reducible exact ih0 _ _ _ _ _)
   | (with_reducible exact ih1 _ _ _ _ _ _ _ _ _ _)
   | (with_reducible exact spec_voList.mono _ _)
   | (with_reducible exact spec_voSorted.mono _ _)
   | (with_reducible exact LeO.refl _)
   | (with_reducible exact LeO.none _)
   | (with_reducible refine LeO.ite ?_ ?_)
   | (with_reducible refine LeO.bind ?_ (fun _ => ?_))
   | exact ih0 _ _ _ _ _
   | exact ih1 _ _ _ _ _ _ _ _ _ _
   | exact spec_voList.mono _ _
   | exact spec_voSorted.mono _ _
   | exact LeO.none _
   | refine LeO.ite ?_ ?_
   | refine LeO.bind ?_ (fun _ => ?_)
theorem spec_voLeast.mono : ∀ a0 k, LeO (spec_voLeast.f k a0) (spec_voLeast.f (k + 1) a0) := by
 intro a0 k
 obtain ⟨ih0, ih1⟩ := spec_voLeast.mono_l k
 unfold spec_voLeast.f
 repeat' first
   | (with_reducible exact ih0 _ _ _ _ _)
   | (with_reducible exact ih1 _ _ _ _ _ _ _ _ _ _)
   | (with_reducible exact spec_voList.mono _ _)
   | (with_reducible exact spec_voSorted.mono _ _)
   | (with_reducible exact LeO.refl _)
   | (with_reducible exact LeO.none _)
   | (with_reducible refine LeO.ite ?_ ?_)
   | (with_reducible refine LeO.bind ?_ (fun _ => ?_))
   | exact ih0 _ _ _ _ _
   | exact ih1 _ _ _ _ _ _ _ _ _ _
   | exact spec_voList.mono _ _
   | exact spec_voSorted.mono _ _
   | exact LeO.none _
   | refine LeO.ite ?_ ?_
   | refine LeO.bind ?_ (fun _ => ?_)
set_option maxHeartbeats 8000000 in
set_option maxRecDepth 100000 in
theorem spec_voLeast.calls (k : Nat) (A0 : Option Addr) (c0 : Nat) (l0 : List Bool) (r : List (List Int)) (w : World) (hr0 : Kd.C Kd.bool w A0 l0.length l0) (hc0 : l0.length ≤ c0) (h : spec_voLeast.f k l0 = some r) :
  Calls Tryz.prog 101 #[.slice A0 l0.length c0] w fun e w' => ∃ v0_ : Value, e = .returned (v0_) ∧ Kd.V (Kd.slice 3 (Kd.int .i64)) 59 w' w.heap.size (fun k_ => (w.heap.size ≤ k_)) v0_ r ∧ Below w.heap.size w w' := by
 have HR0 := Aside0.mk hr0
 have HC0 := Aside0.mk hc0
 clear hr0 hc0
 have HB := Aside0.mk (Below.refl w.heap.size w)
 have H : (spec_voLeast.l0 k l0 ([] : List (List Int)) l0 (l0.length : Int) 0) = some r := h
 clear h
 have H' := Aside0.mk H
 clear H
 go_enter Tryz.func101, Tryz.ntmps101
 go_wp2
 go_loopg [3, 11] k (fun kq v3 v11 w' => ∃ (x3_1 : List (List Int)) (x11_1 : Int), v11 = .int .i64 x11_1 ∧ Aside0 (spec_voLeast.l0 kq l0 x3_1 l0 (l0.length : Int) x11_1 = some r) ∧ Aside0 (kq ≤ k) ∧ Aside0 (Kd.S (Kd.slice 3 (Kd.int .i64)) 59 w' w.heap.size (fun k_ => (w.heap.size ≤ k_)) v3 x3_1) ∧ Aside0 (Below w.heap.size w w'))
 case atStart => exact ⟨(([] : List (List Int))), (0), (by first | rfl | (simp; done) | (simp [*]; done)), H', ⟨Nat.le_refl _⟩, ⟨by first | exact Kd.S_nil _ _ _ _ _ | exact Kd.N_nil _ _ _ _ _ | exact Kd.V_nil _ _ _ _ _ | exact Kd.Q_nil _ _ _ _ _ | exact Kd.R_nil _ _ _ _ _⟩, ⟨zh HB.out⟩⟩
 case round =>
  clear H'
  try clear c1
  obtain ⟨x3_1, x11_1, rfl, HA, HK1, HO_3, HB⟩ := hrel
  cases gk with
  | zero => exact absurd HA.out (by simp [spec_voLeast.l0])
  | succ k1 =>
   have H := HA.out
   clear HA
   simp only [spec_voLeast.l0] at H
   by_cases c2 : x11_1 < (l0.length : Int)
   rotate_left
   ·rw [if_neg c2] at H
    have c2b0 : decide (x11_1 < (l0.length : Int)) = false := decide_eq_false c2
    clear c2
    replace H := Option.bind_eq_some_iff.mp H
    obtain ⟨t151, A250, H⟩ := H
    replace H : (some t151) = some r := H
    have A25 := Aside0.mk A250
    clear A250
    obtain rfl := Option.some.inj H
    obtain ⟨Ao26, co26, eo26⟩ := Kd.S_slice HO_3.out
    subst eo26
    go_wp2_with (first | ((with_reducible refine gate_callee (f := 66) rfl ?_); refine goesL_ (some 45) rfl rfl Tryz.func66 (by kernel_rfl) rfl #[.slice Ao26 x3_1.length co26] rfl (by (try simp only [List.map_toArray, List.map_cons, List.map_nil]); first | done | rfl | (simp only [List.length_drop, List.length_take]; rfl)) ?_; (with_reducible refine (spec_voSorted.calls k1 (fun k_ => (w.heap.size ≤ k_)) _ _ x3_1 t151 _ ?side1 A25.out).mono ?_); (case side1 => exact Kd.S_V (HO_3.out)); rintro e w27 ⟨v152, rfl, ho0, hb⟩; refine ⟨_, rfl, ?_⟩; have n0_ := Aside0.mk (Kd.S_below (by (with_reducible repeat (first | apply Kd.S_alloc | apply Kd.S_drewN | apply Kd.S_drew)); exact HO_3.out) hb); have n1_ := Aside0.mk (Kd.V_lower (Kd.V_mono (ok' := fun k_ => (w.heap.size ≤ k_)) ho0 (fun k_ hk_ => Or.elim hk_ (fun hs_ => hs_) (fun hn_ => (Nat.le_trans (below_size (zh HB.out)) hn_)))) (below_size (zh HB.out))); have n2_ := Aside0.mk (below_step (zh HB.out) hb); clear HO_3; clear HB; have HO_3 := n0_; have HO153 := n1_; have HB := n2_; clear n0_ n1_ n2_; (try clear hb); (try clear hb2); (try clear hk); (try clear hi); (try clear ho0)))
    go_ret
    exact ⟨_, by first | rfl | (simp [*, errW_none, errW_some] <;> rfl), by (with_reducible repeat (first | apply Kd.V_alloc | apply Kd.V_drewN | apply Kd.V_drew)); exact HO153.out, zh HB.out⟩
   rw [if_pos c2] at H
   have c2b0 : decide (x11_1 < (l0.length : Int)) = true := decide_eq_true c2
   clear c2
   by_cases c3 : 0 ≤ x11_1
   rotate_left
   ·rw [if_neg c3] at H
    exact absurd H (by simp)
   rw [if_pos c3] at H
   have c3b0 : decide (0 ≤ x11_1) = true := decide_eq_true c3
   clear c3
   by_cases c4 : x11_1 < (l0.length : Int)
   rotate_left
   ·rw [if_neg c4] at H
    exact absurd H (by simp)
   rw [if_pos c4] at H
   have c4b0 : decide (x11_1 < (l0.length : Int)) = true := decide_eq_true c4
   clear c4
   obtain ⟨bq5, hbq5⟩ : ∃ b_ : Bool, b_ = (rdOf false l0 x11_1) := ⟨_, rfl⟩
   replace H : (if bq5 = true then ((spec_voList.f k1 x11_1).bind fun t155 => (spec_voLeast.l1 k1 l0 x3_1 x11_1 true l0 (l0.length : Int) x11_1 t155 (t155.length : Int) 0)) else (spec_voLeast.l0 k1 l0 x3_1 l0 (l0.length : Int) (wrap64 (x11_1 + 1)))) = some r := by rw [← hbq5] at H; exact H
   have Nbq5 := Aside0.mk hbq5
   clear hbq5
   by_cases c6 : bq5 = true
   rotate_left
   ·replace c6 := Bool.eq_false_iff.mpr c6
    subst c6
    have H1 : (spec_voLeast.l0 k1 l0 x3_1 l0 (l0.length : Int) (wrap64 (x11_1 + 1))) = some r := by rw [if_neg (show ¬ (false = true) by decide)] at H; exact H
    clear H
    have H := H1
    clear H1
    have H' := Aside0.mk H
    clear H
    have p154 : 0 ≤ (x11_1 : Int) := of_decide_eq_true (by first | (with_reducible assumption) | assumption)
    have q154 : x11_1 < (l0.length : Int) := of_decide_eq_true (by first | (with_reducible assumption) | assumption)
    obtain ⟨ad154, e154, hx154_0⟩ := Kd.at_bool HR0.out x11_1 p154 q154
    (try rw [← Nbq5.out] at hx154_0)
    cases e154
    replace hx154_0 := (HB.out.cell (World.block_lt_of_cell? w _ hx154_0)).trans hx154_0
    replace p154 := eq_true p154
    replace q154 := eq_true q154
    go_wp2
    go_roundg k1
    case measure => have := HK1.out; omega
    case rel => exact ⟨(x3_1), (wrap64 (x11_1 + 1)), (by first | rfl | (simp; done) | (simp [*]; done)), H', ⟨by have := HK1.out; omega⟩, ⟨by (with_reducible repeat (first | apply Kd.S_alloc | apply Kd.S_drewN | apply Kd.S_drew)); exact HO_3.out⟩, ⟨zh HB.out⟩⟩
   subst c6
   have H1 : ((spec_voList.f k1 x11_1).bind fun t155 => (spec_voLeast.l1 k1 l0 x3_1 x11_1 true l0 (l0.length : Int) x11_1 t155 (t155.length : Int) 0)) = some r := by rw [if_pos rfl] at H; exact H
   clear H
   have H := H1
   clear H1
   replace H := Option.bind_eq_some_iff.mp H
   obtain ⟨t155, A70, H⟩ := H
   replace H : (spec_voLeast.l1 k1 l0 x3_1 x11_1 true l0 (l0.length : Int) x11_1 t155 (t155.length : Int) 0) = some r := H
   have A7 := Aside0.mk A70
   clear A70
   have H' := Aside0.mk H
   clear H
   have p154 : 0 ≤ (x11_1 : Int) := of_decide_eq_true (by first | (with_reducible assumption) | assumption)
   have q154 : x11_1 < (l0.length : Int) := of_decide_eq_true (by first | (with_reducible assumption) | assumption)
   obtain ⟨ad154, e154, hx154_0⟩ := Kd.at_bool HR0.out x11_1 p154 q154
   (try rw [← Nbq5.out] at hx154_0)
   cases e154
   replace hx154_0 := (HB.out.cell (World.block_lt_of_cell? w _ hx154_0)).trans hx154_0
   replace p154 := eq_true p154
   replace q154 := eq_true q154
   go_wp2_with (first | ((with_reducible refine gate_callee (f := 65) rfl ?_); refine goesL_ (some 19) rfl rfl Tryz.func65 (by kernel_rfl) rfl #[.int .i64 x11_1] rfl (by (try simp only [List.map_toArray, List.map_cons, List.map_nil]); first | done | rfl | (simp only [List.length_drop, List.length_take]; rfl)) ?_; (with_reducible refine (spec_voList.calls k1 x11_1 t155 _ A7.out).mono ?_); rintro e w8 ⟨v156, rfl, ho0, hb⟩; refine ⟨_, rfl, ?_⟩; have n0_ := Aside0.mk (Kd.S_elder' (by (with_reducible repeat (first | apply Kd.S_alloc | apply Kd.S_drewN | apply Kd.S_drew)); exact HO_3.out) (Kd.R_base ho0) hb); have n1_ := Aside0.mk (Kd.R_lower (Kd.R_newM (M := fun k_ => (w.heap.size ≤ k_)) ho0 (below_size (zh HB.out)) (fun k_ h_ => h_)) (below_size (zh HB.out))); have n2_ := Aside0.mk (below_step (zh HB.out) hb); clear HO_3; clear HB; have HO_3 := n0_; have HO157 := n1_; have HB := n2_; clear n0_ n1_ n2_; (try clear hb); (try clear hb2); (try clear hk); (try clear hi); (try clear ho0); obtain ⟨Ao9, co9, eo9⟩ := Kd.R_slice HO157.out; subst eo9))
   go_loopg [6, 21] k1 (fun kq v6 v21 w' => ∃ (x6_2 : Bool) (x21_2 : Int), v6 = .bool x6_2 ∧ v21 = .int .i64 x21_2 ∧ Aside0 (spec_voLeast.l1 kq l0 x3_1 x11_1 x6_2 l0 (l0.length : Int) x11_1 t155 (t155.length : Int) x21_2 = some r) ∧ Aside0 (kq ≤ k1) ∧ Aside0 (Kd.S (Kd.slice 3 (Kd.int .i64)) 59 w' w.heap.size (fun k_ => (w.heap.size ≤ k_) ∧ some k_ ≠ ((.slice Ao9 t155.length co9) : Value).ownBlock) u3 x3_1) ∧ Aside0 (Kd.R (Kd.int .i64) 3 w' w.heap.size (fun k_ => (w.heap.size ≤ k_)) (.slice Ao9 t155.length co9) t155) ∧ Aside0 (Below w.heap.size w w'))
   case atStart => exact ⟨(true), (0), (by first | rfl | (simp; done) | (simp [*]; done)), (by first | rfl | (simp; done) | (simp [*]; done)), H', ⟨Nat.le_refl _⟩, ⟨by (with_reducible repeat (first | apply Kd.S_alloc | apply Kd.S_drewN | apply Kd.S_drew)); exact HO_3.out⟩, ⟨by (with_reducible repeat (first | apply Kd.R_alloc | apply Kd.R_drewN | apply Kd.R_drew)); exact Kd.R_mono HO157.out (fun _ hk => hk.1)⟩, ⟨zh HB.out⟩⟩
   case round =>
    clear H'
    try clear c1
    try clear p1
    try clear q1
    try clear hx1
    try clear c2
    try clear c2b0
    try clear p2
    try clear c3
    try clear c3b0
    try clear c4
    try clear c4b0
    try clear q5
    try clear c6
    try clear p6
    try clear hx154_0
    try clear p154
    try clear q154
    obtain ⟨x6_2, x21_2, rfl, rfl, HA, HK2, HO_3, HO_19, HB⟩ := hrel
    cases gk with
    | zero => exact absurd HA.out (by simp [spec_voLeast.l1])
    | succ k2 =>
     have H := HA.out
     clear HA
     simp only [spec_voLeast.l1] at H
     by_cases c10 : x21_2 < (t155.length : Int)
     rotate_left
     ·rw [if_neg c10] at H
      have c10b0 : decide (x21_2 < (t155.length : Int)) = false := decide_eq_false c10
      clear c10
      by_cases c19 : x6_2 = true
      rotate_left
      ·replace c19 := Bool.eq_false_iff.mpr c19
       subst c19
       have H1 : (spec_voLeast.l0 k2 l0 x3_1 l0 (l0.length : Int) (wrap64 (x11_1 + 1))) = some r := by rw [if_neg (show ¬ (false = true) by decide)] at H; exact H
       clear H
       have H := H1
       clear H1
       have H' := Aside0.mk H
       clear H
       go_wp2
       go_roundg k2
       case measure => have := HK1.out; have := HK2.out; omega
       case rel => exact ⟨(x3_1), (wrap64 (x11_1 + 1)), (by first | rfl | (simp; done) | (simp [*]; done)), H', ⟨by have := HK1.out; have := HK2.out; omega⟩, ⟨by (with_reducible repeat (first | apply Kd.S_alloc | apply Kd.S_drewN | apply Kd.S_drew)); exact Kd.S_mono HO_3.out (fun _ hk => hk.1)⟩, ⟨zh HB.out⟩⟩
      subst c19
      have H1 : ((spec_voList.f k2 x11_1).bind fun t160 => (if x3_1.length < 5864062014805 then (spec_voLeast.l0 k2 l0 (x3_1 ++ [t160]) l0 (l0.length : Int) (wrap64 (x11_1 + 1))) else (none))) = some r := by rw [if_pos rfl] at H; exact H
      clear H
      have H := H1
      clear H1
      replace H := Option.bind_eq_some_iff.mp H
      obtain ⟨t160, A200, H⟩ := H
      replace H : (if x3_1.length < 5864062014805 then (spec_voLeast.l0 k2 l0 (x3_1 ++ [t160]) l0 (l0.length : Int) (wrap64 (x11_1 + 1))) else (none)) = some r := H
      have A20 := Aside0.mk A200
      clear A200
      by_cases c21 : x3_1.length < 5864062014805
      rotate_left
      ·rw [if_neg c21] at H
       exact absurd H (by simp)
      rw [if_pos c21] at H
      have LMc21 := Aside0.mk c21
      clear c21
      obtain ⟨y163, hy163⟩ : ∃ y_ : List (List Int), y_ = (x3_1 ++ [t160]) := ⟨_, rfl⟩
      replace H : (spec_voLeast.l0 k2 l0 y163 l0 (l0.length : Int) (wrap64 (x11_1 + 1))) = some r := by first | (rw [hy163]; with_reducible exact H) | (have H2_ := (Option.bind_some _ _).symm.trans H; rw [hy163]; with_reducible exact H2_) | (have H2_ := (Option.bind_some _ _).symm.trans H; with_reducible exact H2_) | with_reducible exact H | (rw [hy163]; exact H) | exact H
      have Ny163 := Aside0.mk hy163
      clear hy163
      have H' := Aside0.mk H
      clear H
      go_wp2_with (first | ((with_reducible refine gate_callee (f := 65) rfl ?_); refine goesL_ (some 40) rfl rfl Tryz.func65 (by kernel_rfl) rfl #[.int .i64 x11_1] rfl (by (try simp only [List.map_toArray, List.map_cons, List.map_nil]); first | done | rfl | (simp only [List.length_drop, List.length_take]; rfl)) ?_; (with_reducible refine (spec_voList.calls k2 x11_1 t160 _ A20.out).mono ?_); rintro e w22 ⟨v161, rfl, ho0, hb⟩; refine ⟨_, rfl, ?_⟩; have n0_ := Aside0.mk (Kd.S_elder' (by (with_reducible repeat (first | apply Kd.S_alloc | apply Kd.S_drewN | apply Kd.S_drew)); exact HO_3.out) (Kd.R_base ho0) hb); have n1_ := Aside0.mk (Kd.R_elder' (zr HO_19.out) (Kd.R_base ho0) hb); have n2_ := Aside0.mk (Kd.R_lower (Kd.R_new' (Kd.R_newM (M := fun k_ => (w.heap.size ≤ k_)) ho0 (below_size (zh HB.out)) (fun k_ h_ => h_)) (Kd.R_lt (zr HO_19.out))) (below_size (zh HB.out))); have n3_ := Aside0.mk (below_step (zh HB.out) hb); clear HO_3; clear HO_19; clear HB; have HO_3 := n0_; have HO_19 := n1_; have HO162 := n2_; have HB := n3_; clear n0_ n1_ n2_ n3_; (try clear hb); (try clear hb2); (try clear hk); (try clear hi); (try clear ho0); obtain ⟨Ao24, co24, eo24⟩ := Kd.R_slice HO162.out; subst eo24) | ((with_reducible refine gate_builtin (b := .append) (xs := #[.tmp 38, .tmp 41]) rfl ?_); at_builtin; refine Kd.S_append (Kd.slice 3 (Kd.int .i64)) (w0 := w) w.heap.size rfl (.tmp 38) (.tmp 41) 26 59 (.slice none 0 0) 24 rfl Tryz.underlying26 info59 rfl (by decide) (by omega) u3 x3_1 t160 [.slice Ao24 t160.length co24] (fun k_ => (w.heap.size ≤ k_) ∧ some k_ ≠ (.slice Ao9 t155.length co9 : Value).ownBlock) (fun k_ => some k_ = (.slice Ao24 t160.length co24 : Value).ownBlock) rfl rfl ?aP (fun k_ hk_ => ((Kd.R_mono (ok' := fun k_ => ((fun k_ => (w.heap.size ≤ k_) ∧ some k_ ≠ (.slice Ao9 t155.length co9 : Value).ownBlock)) k_ ∧ some k_ ≠ (u3 : Value).ownBlock) (Kd.R_apart' (HO162.out) (Kd.S_typed HO_3.out) (by decide)) (fun k_ hk => ⟨⟨hk.1.1.1, hk.1.2⟩, hk.2⟩))).1 k_ hk_.symm) ?aF ?aO ?aB ?aS ?aL ?_; (case aP => exact Kd.M_row (Kd.R_mono (Kd.R_tight rfl (Kd.R_mono (ok' := fun k_ => ((fun k_ => (w.heap.size ≤ k_) ∧ some k_ ≠ (.slice Ao9 t155.length co9 : Value).ownBlock)) k_ ∧ some k_ ≠ (u3 : Value).ownBlock) (Kd.R_apart' (HO162.out) (Kd.S_typed HO_3.out) (by decide)) (fun k_ hk => ⟨⟨hk.1.1.1, hk.1.2⟩, hk.2⟩))) (fun _ h_ => h_))); (case aB => exact (zh HB.out)); (case aF => exact (fun k_ hk => ⟨(Nat.le_trans (below_size (zh HB.out)) hk), Kd.fresh' (Kd.R_lt (zr HO_19.out)) k_ hk⟩)); (case aO => exact (by (with_reducible repeat (first | apply Kd.S_alloc | apply Kd.S_drewN | apply Kd.S_drew)); exact Kd.S_mono HO_3.out (fun k_ hk => ⟨⟨hk.1.1, hk.1.2⟩, fun e_ => hk.2 e_⟩))); (case aS => exact (below_size (zh HB.out))); (case aL => have := LMc21.out; omega); intro v164 w23 ho hb hg hat; rw [← Ny163.out] at ho; have n0_ := Aside0.mk (Kd.R_over' (zr HO_19.out) (Kd.S_typed (by (with_reducible repeat (first | apply Kd.S_alloc | apply Kd.S_drewN | apply Kd.S_drew)); exact HO_3.out)) (by decide) hg); have n1_ := Aside0.mk (hb); have n2_ := Aside0.mk (ho); clear HO_19; clear HB; clear HO_3; clear HO162; have HO_19 := n0_; have HB := n1_; have HO165 := n2_; clear n0_ n1_ n2_; clear ho hb hg hat))
      go_roundg k2
      case measure => have := HK1.out; have := HK2.out; omega
      case rel => exact ⟨(y163), (wrap64 (x11_1 + 1)), (by first | rfl | (simp; done) | (simp [*]; done)), H', ⟨by have := HK1.out; have := HK2.out; omega⟩, ⟨by (with_reducible repeat (first | apply Kd.S_alloc | apply Kd.S_drewN | apply Kd.S_drew)); exact Kd.S_mono HO165.out (fun _ hk => hk.1)⟩, ⟨zh HB.out⟩⟩
     rw [if_pos c10] at H
     have c10b0 : decide (x21_2 < (t155.length : Int)) = true := decide_eq_true c10
     clear c10
     by_cases c11 : 0 ≤ x21_2
     rotate_left
     ·rw [if_neg c11] at H
      exact absurd H (by simp)
     rw [if_pos c11] at H
     have c11b0 : decide (0 ≤ x21_2) = true := decide_eq_true c11
     clear c11
     by_cases c12 : x21_2 < (t155.length : Int)
     rotate_left
     ·rw [if_neg c12] at H
      exact absurd H (by simp)
     rw [if_pos c12] at H
     have c12b0 : decide (x21_2 < (t155.length : Int)) = true := decide_eq_true c12
     clear c12
     by_cases c13 : x6_2 = true
     rotate_left
     ·replace c13 := Bool.eq_false_iff.mpr c13
      subst c13
      have H1 : (spec_voLeast.l1 k2 l0 x3_1 x11_1 false l0 (l0.length : Int) x11_1 t155 (t155.length : Int) (wrap64 (x21_2 + 1))) = some r := by rw [if_neg (show ¬ (false = true) by decide)] at H; exact H
      clear H
      have H := H1
      clear H1
      have H' := Aside0.mk H
      clear H
      have p158 : 0 ≤ (x21_2 : Int) := of_decide_eq_true (by first | (with_reducible assumption) | assumption)
      have q158 : x21_2 < (t155.length : Int) := of_decide_eq_true (by first | (with_reducible assumption) | assumption)
      obtain ⟨ad158, e158, hx158_0⟩ := Kd.at_int (Kd.R_reads' HO_19.out).2.2 x21_2 p158 q158
      cases e158
      replace p158 := eq_true p158
      replace q158 := eq_true q158
      go_wp2
      go_roundg k2
      case measure => have := HK1.out; have := HK2.out; omega
      case rel => exact ⟨(false), (wrap64 (x21_2 + 1)), (by first | rfl | (simp; done) | (simp [*]; done)), (by first | rfl | (simp; done) | (simp [*]; done)), H', ⟨by have := HK1.out; have := HK2.out; omega⟩, ⟨by (with_reducible repeat (first | apply Kd.S_alloc | apply Kd.S_drewN | apply Kd.S_drew)); exact HO_3.out⟩, ⟨zr HO_19.out⟩, ⟨zh HB.out⟩⟩
     subst c13
     have H1 : (if 0 ≤ (rd t155 x21_2) then (if 0 ≤ (wrap64 (x11_1 - (shl .i64 1 (rd t155 x21_2)))) then (if (wrap64 (x11_1 - (shl .i64 1 (rd t155 x21_2)))) < (l0.length : Int) then (spec_voLeast.l1 k2 l0 x3_1 x11_1 (!(rdOf false l0 (wrap64 (x11_1 - (shl .i64 1 (rd t155 x21_2)))))) l0 (l0.length : Int) x11_1 t155 (t155.length : Int) (wrap64 (x21_2 + 1))) else (none)) else (none)) else (none)) = some r := by rw [if_pos rfl] at H; exact H
     clear H
     have H := H1
     clear H1
     by_cases c14 : 0 ≤ (rd t155 x21_2)
     rotate_left
     ·rw [if_neg c14] at H
      exact absurd H (by simp)
     rw [if_pos c14] at H
     have c14b0 := eq_true c14
     have c14b1 : decide (0 ≤ (rd t155 x21_2)) = true := decide_eq_true c14
     clear c14
     obtain ⟨ji15, hji15⟩ : ∃ j_ : Int, (shl .i64 1 (rd t155 x21_2)) = j_ := ⟨_, rfl⟩
     replace H : (if 0 ≤ (wrap64 (x11_1 - (ji15))) then (if (wrap64 (x11_1 - (ji15))) < (l0.length : Int) then (spec_voLeast.l1 k2 l0 x3_1 x11_1 (!(rdOf false l0 (wrap64 (x11_1 - (ji15))))) l0 (l0.length : Int) x11_1 t155 (t155.length : Int) (wrap64 (x21_2 + 1))) else (none)) else (none)) = some r := by first | (rw [hji15] at H; exact H) | (simp only [hji15] at H ⊢; exact H)
     have hji15_ : (IntKind.i64.wrap (1 * 2 ^ min (rd t155 x21_2).toNat 64)) = ji15 := hji15
     have hji15z : (rd t155 x21_2) ≤ 64 → (IntKind.i64.wrap (1 * 2 ^ (rd t155 x21_2).toNat)) = ji15 := shl_small hji15
     have hji15u : (IntKind.i64.wrap (2 ^ min (rd t155 x21_2).toNat 64)) = ji15 := by have h_ := hji15_; rw [Int.one_mul] at h_; exact h_
     have hji15v : (rd t155 x21_2) ≤ 64 → (IntKind.i64.wrap (2 ^ (rd t155 x21_2).toNat)) = ji15 := fun hle_ => by have h_ := hji15z hle_; rw [Int.one_mul] at h_; exact h_
     have hji15y : (wrap64 (1 * 2 ^ min (rd t155 x21_2).toNat 64)) = ji15 := (i64_w _).symm.trans hji15_
     have hji15x : (rd t155 x21_2) ≤ 64 → (wrap64 (1 * 2 ^ (rd t155 x21_2).toNat)) = ji15 := fun h_ => (i64_w _).symm.trans (hji15z h_)
     obtain ⟨ji16, hji16⟩ : ∃ j_ : Int, (wrap64 (x11_1 - (ji15))) = j_ := ⟨_, rfl⟩
     replace H : (if 0 ≤ (ji16) then (if (ji16) < (l0.length : Int) then (spec_voLeast.l1 k2 l0 x3_1 x11_1 (!(rdOf false l0 (ji16))) l0 (l0.length : Int) x11_1 t155 (t155.length : Int) (wrap64 (x21_2 + 1))) else (none)) else (none)) = some r := by first | (rw [hji16] at H; exact H) | (simp only [hji16] at H ⊢; exact H)
     have hji16w : (IntKind.i64.wrap (x11_1 - (ji15))) = ji16 := (i64_w _).trans hji16
     by_cases c17 : 0 ≤ (ji16)
     rotate_left
     ·rw [if_neg c17] at H
      exact absurd H (by simp)
     rw [if_pos c17] at H
     have c17b0 : decide (0 ≤ (ji16)) = true := decide_eq_true c17
     clear c17
     by_cases c18 : (ji16) < (l0.length : Int)
     rotate_left
     ·rw [if_neg c18] at H
      exact absurd H (by simp)
     rw [if_pos c18] at H
     have c18b0 : decide ((ji16) < (l0.length : Int)) = true := decide_eq_true c18
     clear c18
     have H' := Aside0.mk H
     clear H
     have p158 : 0 ≤ (x21_2 : Int) := of_decide_eq_true (by first | (with_reducible assumption) | assumption)
     have q158 : x21_2 < (t155.length : Int) := of_decide_eq_true (by first | (with_reducible assumption) | assumption)
     obtain ⟨ad158, e158, hx158_0⟩ := Kd.at_int (Kd.R_reads' HO_19.out).2.2 x21_2 p158 q158
     cases e158
     replace p158 := eq_true p158
     replace q158 := eq_true q158
     have p159 : 0 ≤ ((ji16) : Int) := of_decide_eq_true (by first | (with_reducible assumption) | assumption)
     have q159 : (ji16) < (l0.length : Int) := of_decide_eq_true (by first | (with_reducible assumption) | assumption)
     obtain ⟨ad159, e159, hx159_0⟩ := Kd.at_bool HR0.out (ji16) p159 q159
     (try rw [← Nbq5.out] at hx159_0)
     obtain rfl : ad154 = ad159 := (by injection e159)
     replace hx159_0 := (HB.out.cell (World.block_lt_of_cell? w _ hx159_0)).trans hx159_0
     replace p159 := eq_true p159
     replace q159 := eq_true q159
     go_wp2
     go_roundg k2
     case measure => have := HK1.out; have := HK2.out; omega
     case rel => exact ⟨(!(rdOf false l0 (ji16))), (wrap64 (x21_2 + 1)), (by first | rfl | (simp; done) | (simp only [← hji16] <;> (first | rfl | simp)) | (simp [*]; done)), (by first | rfl | (simp; done) | (simp [*]; done)), H', ⟨by have := HK1.out; have := HK2.out; omega⟩, ⟨by (with_reducible repeat (first | apply Kd.S_alloc | apply Kd.S_drewN | apply Kd.S_drew)); exact HO_3.out⟩, ⟨zr HO_19.out⟩, ⟨zh HB.out⟩⟩
def spec_gmOf.f (k : Nat) (a0 : Int) (l1 : List Bool) : Option (Int × (List (List Int))) := (spec_voLeast.f k l1).bind fun t167 => (some (a0, t167))
theorem spec_gmOf.mono : ∀ a0 a1 k, LeO (spec_gmOf.f k a0 a1) (spec_gmOf.f (k + 1) a0 a1) := by
 intro a0 a1 k
 unfold spec_gmOf.f
 repeat' first
   | (with_reducible exact spec_voLeast.mono _ _)
   | (with_reducible exact LeO.refl _)
   | (with_reducible exact LeO.none _)
   | (with_reducible refine LeO.ite ?_ ?_)
   | (with_reducible refine LeO.bind ?_ (fun _ => ?_))
   | exact spec_voLeast.mono _ _
   | exact LeO.none _
   | refine LeO.ite ?_ ?_
   | refine LeO.bind ?_ (fun _ => ?_)
set_option maxHeartbeats 8000000 in
set_option maxRecDepth 100000 in
theorem spec_gmOf.calls (k : Nat) (a0 : Int) (A1 : Option Addr) (c1 : Nat) (l1 : List Bool) (r1 : Int) (r2 : List (List Int)) (w : World) (hr1 : Kd.C Kd.bool w A1 l1.length l1) (hc1 : l1.length ≤ c1) (h : spec_gmOf.f k a0 l1 = some (r1, r2)) :
  Calls Tryz.prog 76 #[.int .i64 a0, .slice A1 l1.length c1] w fun e w' => ∃ v1_ : Value, e = .returned (.agg #[.int .i64 r1, v1_]) ∧ Kd.V (Kd.slice 3 (Kd.int .i64)) 59 w' w.heap.size (fun k_ => (w.heap.size ≤ k_)) v1_ r2 ∧ Below w.heap.size w w' := by
 have hu28 := Tryz.underlying28
 have HR1 := Aside0.mk hr1
 have HC1 := Aside0.mk hc1
 clear hr1 hc1
 have HB := Aside0.mk (Below.refl w.heap.size w)
 have H : ((spec_voLeast.f k l1).bind fun t167 => (some (a0, t167))) = some (r1, r2) := h
 clear h
 replace H := Option.bind_eq_some_iff.mp H
 obtain ⟨t167, A30, H⟩ := H
 replace H : (some (a0, t167)) = some (r1, r2) := H
 have A3 := Aside0.mk A30
 clear A30
 simp only [Option.some.injEq, Prod.mk.injEq] at H
 obtain ⟨rfl, rfl⟩ := H
 go_enter Tryz.func76, Tryz.ntmps76
 go_wp2_with (first | ((with_reducible refine gate_dst (N := 4) rfl ?_); refine box_event ?hg (N := 4) ?hd (cs := #[.int .i64 0, .slice none 0 0]) (t := 28) ?hr ?_; (case hd => rfl); (case hg => rfl); (case hr => first | (go_simp; done) | (go_simp; rfl)); intro gb166 hg w4 hbox hb; have n2_ := Aside0.mk ((by rw [hg]; exact (below_size (zh HB.out)) : w.heap.size ≤ gb166)); replace HB := Aside0.mk (below_step (zh HB.out) hb); have BK166 := Aside0.mk hbox; have GW166 := n2_; have GE166 := n2_; clear n2_ hb hbox hg) | ((with_reducible refine gate_callee (f := 101) rfl ?_); refine goesL_ (some 7) rfl rfl Tryz.func101 (by kernel_rfl) rfl #[.slice A1 l1.length c1] rfl (by (try simp only [List.map_toArray, List.map_cons, List.map_nil]); first | done | rfl | (simp only [List.length_drop, List.length_take]; rfl)) ?_; (with_reducible refine (spec_voLeast.calls k _ _ l1 t167 _ ?side1 ?side2 A3.out).mono ?_); (case side1 => repeat (first | exact (Kd.C_below HR1.out HB.out) | (with_reducible refine Kd.C_alloc ?_ _) | (with_reducible refine Kd.C_drewN ?_ _) | (with_reducible refine Kd.C_drew ?_))); (case side2 => exact HC1.out); rintro e w5 ⟨v168, rfl, ho0, hb⟩; refine ⟨_, rfl, ?_⟩; have n0_ := Aside0.mk (Kd.V_lower (Kd.V_mono (ok' := fun k_ => (w.heap.size ≤ k_) ∧ k_ ≠ gb166) ho0 (fun k_ hk_ => ⟨(Nat.le_trans (below_size (zh HB.out)) hk_), (Kd.freshB (g := gb166) (o := .cells #[.int .i64 0, .slice none 0 0] 28 (0, 0)) (zb BK166.out) k_ hk_)⟩)) (below_size (zh HB.out))); have n1_ := Aside0.mk (blk_below (g := gb166) (o := .cells #[.int .i64 0, .slice none 0 0] 28 (0, 0)) (zb BK166.out) hb); have n2_ := Aside0.mk (below_step (zh HB.out) hb); clear BK166; clear HB; have HO169 := n0_; have BK166 := n1_; have HB := n2_; clear n0_ n1_ n2_; (try clear hb); (try clear hb2); (try clear hk); (try clear hi); (try clear ho0); obtain ⟨Ao6, co6, eo6⟩ := Kd.V_slice HO169.out; subst eo6; have hcz7_0 : w5.cell? ⟨gb166, 0, none⟩ = some (.int .i64 0) := (blk_cell BK166.out 0).trans rfl; have hcz7_1 : w5.cell? ⟨gb166, 1, none⟩ = some (.slice none 0 0) := (blk_cell BK166.out 1).trans rfl; have hfz7_0 := blk_frozen BK166.out 0; have hfz7_1 := blk_frozen BK166.out 1))
 refine bodyPost_ret (results_cell_row rfl _ _ gb166 28 #[.int .i64 a0, .slice Ao6 t167.length co6] (0, 0) _ rfl (by (with_reducible repeat (first | refine blk_drewN ?_ _ | refine blk_drew ?_ | refine blk_alloc ?_ _)); refine blk_put (cs := #[.int .i64 a0, .slice none 0 0]) ?_ 1 _ rfl; (with_reducible repeat (first | refine blk_drewN ?_ _ | refine blk_drew ?_ | refine blk_alloc ?_ _)); refine blk_put (cs := #[.int .i64 0, .slice none 0 0]) ?_ 0 _ rfl; (with_reducible repeat (first | refine blk_drewN ?_ _ | refine blk_drew ?_ | refine blk_alloc ?_ _)); exact BK166.out) Tryz.underlying28 rfl (by kernel_rfl)) rfl ?_
 exact ⟨_, by first | rfl | (simp [*, errW_none, errW_some] <;> rfl), by (with_reducible repeat (first | apply Kd.V_alloc | apply Kd.V_drewN | apply Kd.V_drew)); exact Kd.V_mono (Kd.V_far (p := ⟨gb166, 1, none⟩) (Kd.V_far (p := ⟨gb166, 0, none⟩) (Kd.V_mono HO169.out (fun k_ hk => (⟨hk, hk.2⟩ : _ ∧ k_ ≠ gb166))) (fun _ hk => hk.2) (.int .i64 a0)) (fun _ hk => hk.2) (.slice Ao6 t167.length co6)) (fun _ hk => hk.1.1), zh HB.out⟩
section
variable (a1 : Int → Option Bool)
def impl_votes_sets.l0 : Nat → List (List Int) → Int → Int → Option ((List (List Int)))
 | 0, _, _, _ => none
 | k + 1, x5, x10, x11 => if x11 < x10 then ((a1 x11).bind fun t252 => (if t252 = true then ((impl_setOf.f k x11).bind fun t253 => (if x5.length < 5864062014805 then (impl_votes_sets.l0 k (x5 ++ [t253]) x10 (wrap64 (x11 + 1))) else (none))) else (impl_votes_sets.l0 k x5 x10 (wrap64 (x11 + 1))))) else ((sortSets.f x5).bind fun t_ => (some t_))
def impl_votes_sets.f (k : Nat) (a0_0 : Int) (l0_1 : List Bool) (a1 : Int → Option Bool) : Option ((List (List Int))) := impl_votes_sets.l0 a1 k (([] : List (List Int))) (l0_1.length : Int) 0
theorem impl_votes_sets.mono_l : ∀ k, (∀ y0 y1 y2, LeO (impl_votes_sets.l0 a1 k y0 y1 y2) (impl_votes_sets.l0 a1 (k + 1) y0 y1 y2))
 | 0 => fun _ _ _ r h => by simp [impl_votes_sets.l0] at h
 | k + 1 => by
  have ih0 := impl_votes_sets.mono_l k
  ·intro y0 y1 y2
   unfold impl_votes_sets.l0
   repeat' first
   | (with_reducible exact ih0 _ _ _)
   | (with_reducible exact impl_setOf.mono _ _)
   | (with_reducible exact LeO.refl _)
   | (with_reducible exact LeO.none _)
   | (with_reducible refine LeO.ite ?_ ?_)
   | (with_reducible refine LeO.bind ?_ (fun _ => ?_))
   | exact ih0 _ _ _
   | exact impl_setOf.mono _ _
   | exact LeO.none _
   | refine LeO.ite ?_ ?_
   | refine LeO.bind ?_ (fun _ => ?_)
theorem impl_votes_sets.mono : ∀ a0 a1 a2 k, LeO (impl_votes_sets.f k a0 a1 a2) (impl_votes_sets.f (k + 1) a0 a1 a2) := by
 intro a0 a1 a2 k
 have ih0 := impl_votes_sets.mono_l a2 k
 unfold impl_votes_sets.f
 repeat' first
   | (with_reducible exact ih0 _ _ _)
   | (with_reducible exact impl_setOf.mono _ _)
   | (with_reducible exact LeO.refl _)
   | (with_reducible exact LeO.none _)
   | (with_reducible refine LeO.ite ?_ ?_)
   | (with_reducible refine LeO.bind ?_ (fun _ => ?_))
   | exact ih0 _ _ _
   | exact impl_setOf.mono _ _
   | exact LeO.none _
   | refine LeO.ite ?_ ?_
   | refine LeO.bind ?_ (fun _ => ?_)
set_option maxHeartbeats 8000000 in
set_option maxRecDepth 100000 in
theorem impl_votes_sets.calls (k : Nat) (a0_0 : Int) (A0_1 : Option Addr) (c0_1 : Nat) (l0_1 : List Bool) (a1 : Int → Option Bool) (g_ : Nat) (fa_ lb_ : Array Value) (eg_ : ∀ args w, (callFunc g_ args).run Tryz.prog w = .ok (.enter g_ args) w) (r : List (List Int)) (w : World) (hp0_ : PredI Tryz.prog g_ fa_ lb_ w a1) (hr0_1 : Kd.C Kd.bool w A0_1 l0_1.length l0_1) (hc0_1 : l0_1.length ≤ c0_1) (h : impl_votes_sets.f k a0_0 l0_1 a1 = some r) :
  Calls Tryz.prog 67 #[.agg #[.int .i64 a0_0, .slice A0_1 l0_1.length c0_1], .func (.func g_) fa_ lb_] w fun e w' => ∃ v0_ : Value, e = .returned (v0_) ∧ Kd.S (Kd.slice 3 (Kd.int .i64)) 59 w' w.heap.size (fun _ => True) v0_ r ∧ Below w.heap.size w w' := by
 have hp_ := Aside0.mk hp0_
 clear hp0_
 have hu81 := Tryz.underlying81
 have HR0_1 := Aside0.mk hr0_1
 have HC0_1 := Aside0.mk hc0_1
 clear hr0_1 hc0_1
 have HB := Aside0.mk (Below.refl w.heap.size w)
 have H : (impl_votes_sets.l0 a1 k (([] : List (List Int))) (l0_1.length : Int) 0) = some r := h
 clear h
 obtain ⟨y249, hy249⟩ : ∃ y_ : List (List Int), y_ = (([] : List (List Int))) := ⟨_, rfl⟩
 replace H : (impl_votes_sets.l0 a1 k y249 (l0_1.length : Int) 0) = some r := by first | (rw [hy249]; with_reducible exact H) | (have H2_ := (Option.bind_some _ _).symm.trans H; rw [hy249]; with_reducible exact H2_) | (have H2_ := (Option.bind_some _ _).symm.trans H; with_reducible exact H2_) | with_reducible exact H | (rw [hy249]; exact H) | exact H
 have Ny249 := Aside0.mk hy249
 clear hy249
 have H' := Aside0.mk H
 clear H
 go_enter Tryz.func67, Tryz.ntmps67
 go_wp2_with (first | ((with_reducible refine gate_dst (N := 2) rfl ?_); refine box_event ?hg (N := 2) ?hd (cs := #[.int .i64 a0_0, .slice A0_1 l0_1.length c0_1]) (t := 81) ?hr ?_; (case hd => rfl); (case hg => rfl); (case hr => first | (go_simp; done) | (go_simp; rfl)); intro gb248 hg w3 hbox hb; have n2_ := Aside0.mk ((by rw [hg]; exact (below_size (zh HB.out)) : w.heap.size ≤ gb248)); replace HB := Aside0.mk (below_step (zh HB.out) hb); have BK248 := Aside0.mk hbox; have GW248 := n2_; have GE248 := n2_; clear n2_ hb hbox hg) | ((with_reducible refine gate_dst (N := 7) rfl ?_); refine Kd.S_lit (Kd.slice 3 (Kd.int .i64)) _ 59 ?hg (N := 7) ?hd (xs := ([] : List (List Int))) (inner := []) (ok := fun _ => True) (okp := fun _ => True) ?hr ?hp (fun _ hk => hk) trivial (Below.refl _ _) (Nat.le_refl _) (by simp) ?_; (case hd => rfl); (case hg => rfl); (case hr => first | (go_simp; done) | (go_simp; rfl)); (case hp => exact (Reps.none _ _)); intro v250 w4 ho5 hb hg_ hnew_; clear hg_ hnew_; (first | rw [← Ny249.out] at ho5 | (simp only [Int.reduceToNat] at ho5; rw [← Ny249.out] at ho5)); have n0_ := Aside0.mk (Kd.S_lower ho5 (below_size (zh HB.out))); have n1_ := Aside0.mk (blk_below (g := gb248) (o := .cells #[.int .i64 a0_0, .slice A0_1 l0_1.length c0_1] 81 (0, 0)) (zb BK248.out) hb); have n2_ := Aside0.mk (below_step (zh HB.out) hb); clear BK248; clear HB; have HO251 := n0_; have BK248 := n1_; have HB := n2_; clear n0_ n1_ n2_; clear hb ho5; have hcz6_0 : w4.cell? ⟨gb248, 0, none⟩ = some (.int .i64 a0_0) := (blk_cell BK248.out 0).trans rfl; have hcz6_1 : w4.cell? ⟨gb248, 1, none⟩ = some (.slice A0_1 l0_1.length c0_1) := (blk_cell BK248.out 1).trans rfl; have hfz6_0 := blk_frozen BK248.out 0; have hfz6_1 := blk_frozen BK248.out 1))
 go_loopg [5, 11] k (fun kq v5 v11 w' => ∃ (x5_1 : List (List Int)) (x11_1 : Int), v11 = .int .i64 x11_1 ∧ Aside0 (impl_votes_sets.l0 a1 kq x5_1 (l0_1.length : Int) x11_1 = some r) ∧ Aside0 (kq ≤ k) ∧ Aside0 (Kd.S (Kd.slice 3 (Kd.int .i64)) 59 w' w.heap.size (fun _ => True) v5 x5_1) ∧ Aside0 (w'.heap[gb248]? = some (.cells #[.int .i64 a0_0, (.slice A0_1 l0_1.length c0_1)] 81 (0, 0))) ∧ Aside0 (Below w.heap.size w w'))
 case atStart => exact ⟨(y249), (0), (by first | rfl | (simp; done) | (simp [*]; done)), H', ⟨Nat.le_refl _⟩, ⟨by (with_reducible repeat (first | apply Kd.S_alloc | apply Kd.S_drewN | apply Kd.S_drew)); exact HO251.out⟩, ⟨zb BK248.out⟩, ⟨zh HB.out⟩⟩
 case round =>
  clear H'
  try clear p2
  try clear c6
  try clear hcz6_0
  try clear hcz6_1
  try clear hfz6_0
  try clear hfz6_1
  obtain ⟨x5_1, x11_1, rfl, HA, HK1, HO_5, BK248, HB⟩ := hrel
  cases gk with
  | zero => exact absurd HA.out (by simp [impl_votes_sets.l0])
  | succ k1 =>
   have H := HA.out
   clear HA
   simp only [impl_votes_sets.l0] at H
   by_cases c7 : x11_1 < (l0_1.length : Int)
   ·rw [if_pos c7] at H
    have c7b0 : decide (x11_1 < (l0_1.length : Int)) = true := decide_eq_true c7
    clear c7
    replace H := Option.bind_eq_some_iff.mp H
    obtain ⟨t252, A80, H⟩ := H
    replace H : (if t252 = true then ((impl_setOf.f k1 x11_1).bind fun t253 => (if x5_1.length < 5864062014805 then (impl_votes_sets.l0 a1 k1 (x5_1 ++ [t253]) (l0_1.length : Int) (wrap64 (x11_1 + 1))) else (none))) else (impl_votes_sets.l0 a1 k1 x5_1 (l0_1.length : Int) (wrap64 (x11_1 + 1)))) = some r := H
    have A8 := Aside0.mk A80
    clear A80
    by_cases c9 : t252 = true
    ·subst c9
     have H1 : ((impl_setOf.f k1 x11_1).bind fun t253 => (if x5_1.length < 5864062014805 then (impl_votes_sets.l0 a1 k1 (x5_1 ++ [t253]) (l0_1.length : Int) (wrap64 (x11_1 + 1))) else (none))) = some r := by rw [if_pos rfl] at H; exact H
     clear H
     have H := H1
     clear H1
     replace H := Option.bind_eq_some_iff.mp H
     obtain ⟨t253, A100, H⟩ := H
     replace H : (if x5_1.length < 5864062014805 then (impl_votes_sets.l0 a1 k1 (x5_1 ++ [t253]) (l0_1.length : Int) (wrap64 (x11_1 + 1))) else (none)) = some r := H
     have A10 := Aside0.mk A100
     clear A100
     by_cases c11 : x5_1.length < 5864062014805
     ·rw [if_pos c11] at H
      have LMc11 := Aside0.mk c11
      clear c11
      obtain ⟨y256, hy256⟩ : ∃ y_ : List (List Int), y_ = (x5_1 ++ [t253]) := ⟨_, rfl⟩
      replace H : (impl_votes_sets.l0 a1 k1 y256 (l0_1.length : Int) (wrap64 (x11_1 + 1))) = some r := by first | (rw [hy256]; with_reducible exact H) | (have H2_ := (Option.bind_some _ _).symm.trans H; rw [hy256]; with_reducible exact H2_) | (have H2_ := (Option.bind_some _ _).symm.trans H; with_reducible exact H2_) | with_reducible exact H | (rw [hy256]; exact H) | exact H
      have Ny256 := Aside0.mk hy256
      clear hy256
      have H' := Aside0.mk H
      clear H
      go_wp2_with (first | ((with_reducible refine gate_dst (N := 16) rfl ?_); refine goesLF_ (some 16) rfl rfl eg_ (by rfl) #[.int .i64 x11_1] rfl (by (try simp only [List.map_toArray, List.map_cons, List.map_nil]); first | done | rfl | (simp only [List.length_drop, List.length_take]; rfl)) ?_; (with_reducible refine (hp_.out _ x11_1 true (zh HB.out) A8.out).mono ?_); rintro e w12 ⟨rfl, hb⟩; refine ⟨_, rfl, ?_⟩; have n0_ := Aside0.mk (Kd.S_below (by (with_reducible repeat (first | apply Kd.S_alloc | apply Kd.S_drewN | apply Kd.S_drew)); exact HO_5.out) hb); have n1_ := Aside0.mk (blk_below (g := gb248) (o := .cells #[.int .i64 a0_0, .slice A0_1 l0_1.length c0_1] 81 (0, 0)) (zb BK248.out) hb); have n2_ := Aside0.mk (below_step (zh HB.out) hb); clear HO_5; clear BK248; clear HB; have HO_5 := n0_; have BK248 := n1_; have HB := n2_; clear n0_ n1_ n2_; (try clear hb); (try clear hb2); (try clear hk); (try clear hi)) | ((with_reducible refine gate_callee (f := 96) rfl ?_); refine goesL_ (some 19) rfl rfl Tryz.func96 (by kernel_rfl) rfl #[.int .i64 x11_1] rfl (by (try simp only [List.map_toArray, List.map_cons, List.map_nil]); first | done | rfl | (simp only [List.length_drop, List.length_take]; rfl)) ?_; (with_reducible refine (impl_setOf.calls k1 x11_1 t253 _ A10.out).mono ?_); rintro e w13 ⟨v254, rfl, ho0, hb⟩; refine ⟨_, rfl, ?_⟩; have n0_ := Aside0.mk (Kd.S_elder' (by (with_reducible repeat (first | apply Kd.S_alloc | apply Kd.S_drewN | apply Kd.S_drew)); exact HO_5.out) (Kd.R_base ho0) hb); have n1_ := Aside0.mk (Kd.R_lower ho0 (below_size (zh HB.out))); have n2_ := Aside0.mk (blk_below (g := gb248) (o := .cells #[.int .i64 a0_0, .slice A0_1 l0_1.length c0_1] 81 (0, 0)) (zb BK248.out) hb); have n3_ := Aside0.mk (below_step (zh HB.out) hb); clear HO_5; clear BK248; clear HB; have HO_5 := n0_; have HO255 := n1_; have BK248 := n2_; have HB := n3_; clear n0_ n1_ n2_ n3_; (try clear hb); (try clear hb2); (try clear hk); (try clear hi); (try clear ho0); obtain ⟨Ao15, co15, eo15⟩ := Kd.R_slice HO255.out; subst eo15) | ((with_reducible refine gate_builtin (b := .append) (xs := #[.tmp 17, .tmp 20]) rfl ?_); at_builtin; refine Kd.S_append (Kd.slice 3 (Kd.int .i64)) (w0 := w) w.heap.size rfl (.tmp 17) (.tmp 20) 26 59 (.slice none 0 0) 24 rfl Tryz.underlying26 info59 rfl (by decide) (by omega) u5 x5_1 t253 [.slice Ao15 t253.length co15] (fun _ => True) (fun k_ => some k_ = (.slice Ao15 t253.length co15 : Value).ownBlock) rfl rfl ?aP (fun k_ hk_ => ((Kd.R_mono (ok' := fun k_ => ((fun _ => True)) k_ ∧ some k_ ≠ (u5 : Value).ownBlock) (Kd.R_apart' (HO255.out) (Kd.S_typed HO_5.out) (by decide)) (fun k_ hk => ⟨trivial, hk.2⟩))).1 k_ hk_.symm) ?aF ?aO ?aB ?aS ?aL ?_; (case aP => exact Kd.M_row (Kd.R_mono (Kd.R_tight rfl (Kd.R_mono (ok' := fun k_ => ((fun _ => True)) k_ ∧ some k_ ≠ (u5 : Value).ownBlock) (Kd.R_apart' (HO255.out) (Kd.S_typed HO_5.out) (by decide)) (fun k_ hk => ⟨trivial, hk.2⟩))) (fun _ h_ => h_))); (case aB => exact (zh HB.out)); (case aF => exact (fun _ _ => trivial)); (case aO => exact (by (with_reducible repeat (first | apply Kd.S_alloc | apply Kd.S_drewN | apply Kd.S_drew)); exact Kd.S_mono HO_5.out (fun k_ hk => ⟨trivial, fun e_ => hk.2 e_⟩))); (case aS => exact (below_size (zh HB.out))); (case aL => have := LMc11.out; omega); intro v257 w14 ho hb hg hat; rw [← Ny256.out] at ho; have n0_ := Aside0.mk (blk_grown (g := gb248) (o := .cells #[.int .i64 a0_0, .slice A0_1 l0_1.length c0_1] 81 (0, 0)) (zb BK248.out) hg (Kd.S_ne HO_5.out BK248.out (by decide))); have n1_ := Aside0.mk (hb); have n2_ := Aside0.mk (ho); clear BK248; clear HB; clear HO_5; clear HO255; have BK248 := n0_; have HB := n1_; have HO258 := n2_; clear n0_ n1_ n2_; clear ho hb hg hat))
      go_roundg k1
      case measure => have := HK1.out; omega
      case rel => exact ⟨(y256), (wrap64 (x11_1 + 1)), (by first | rfl | (simp; done) | (simp [*]; done)), H', ⟨by have := HK1.out; omega⟩, ⟨by (with_reducible repeat (first | apply Kd.S_alloc | apply Kd.S_drewN | apply Kd.S_drew)); exact HO258.out⟩, ⟨zb BK248.out⟩, ⟨zh HB.out⟩⟩
     ·rw [if_neg c11] at H
      exact absurd H (by simp)
    ·replace c9 := Bool.eq_false_iff.mpr c9
     subst c9
     have H1 : (impl_votes_sets.l0 a1 k1 x5_1 (l0_1.length : Int) (wrap64 (x11_1 + 1))) = some r := by rw [if_neg (show ¬ (false = true) by decide)] at H; exact H
     clear H
     have H := H1
     clear H1
     have H' := Aside0.mk H
     clear H
     go_wp2_with (first | ((with_reducible refine gate_dst (N := 16) rfl ?_); refine goesLF_ (some 16) rfl rfl eg_ (by rfl) #[.int .i64 x11_1] rfl (by (try simp only [List.map_toArray, List.map_cons, List.map_nil]); first | done | rfl | (simp only [List.length_drop, List.length_take]; rfl)) ?_; (with_reducible refine (hp_.out _ x11_1 false (zh HB.out) A8.out).mono ?_); rintro e w16 ⟨rfl, hb⟩; refine ⟨_, rfl, ?_⟩; have n0_ := Aside0.mk (Kd.S_below (by (with_reducible repeat (first | apply Kd.S_alloc | apply Kd.S_drewN | apply Kd.S_drew)); exact HO_5.out) hb); have n1_ := Aside0.mk (blk_below (g := gb248) (o := .cells #[.int .i64 a0_0, .slice A0_1 l0_1.length c0_1] 81 (0, 0)) (zb BK248.out) hb); have n2_ := Aside0.mk (below_step (zh HB.out) hb); clear HO_5; clear BK248; clear HB; have HO_5 := n0_; have BK248 := n1_; have HB := n2_; clear n0_ n1_ n2_; (try clear hb); (try clear hb2); (try clear hk); (try clear hi)))
     go_roundg k1
     case measure => have := HK1.out; omega
     case rel => exact ⟨(x5_1), (wrap64 (x11_1 + 1)), (by first | rfl | (simp; done) | (simp [*]; done)), H', ⟨by have := HK1.out; omega⟩, ⟨by (with_reducible repeat (first | apply Kd.S_alloc | apply Kd.S_drewN | apply Kd.S_drew)); exact HO_5.out⟩, ⟨zb BK248.out⟩, ⟨zh HB.out⟩⟩
   ·rw [if_neg c7] at H
    have c7b0 : decide (x11_1 < (l0_1.length : Int)) = false := decide_eq_false c7
    clear c7
    replace H := Option.bind_eq_some_iff.mp H
    obtain ⟨t_, A170, H⟩ := H
    replace H : (some t_) = some r := H
    have A17 := Aside0.mk A170
    clear A170
    obtain rfl := Option.some.inj H
    obtain ⟨Ao18, co18, eo18⟩ := Kd.S_slice HO_5.out
    subst eo18
    go_wp2_with (first | ((with_reducible refine gate_callee (f := 97) rfl ?_); refine goesL_ (some 24) rfl rfl Tryz.func97 (by kernel_rfl) rfl #[.slice Ao18 x5_1.length co18, .func (.func 98) #[] #[]] rfl (by (try simp only [List.map_toArray, List.map_cons, List.map_nil]); first | done | rfl | (simp only [List.length_drop, List.length_take]; rfl)) ?_; refine (sortSets.calls x5_1 t_ _ _ w.heap.size (fun _ => True) _ ?side1 A17.out).mono ?_; (case side1 => exact (by (with_reducible repeat (first | apply Kd.S_alloc | apply Kd.S_drewN | apply Kd.S_drew)); exact HO_5.out)); rintro e w' ⟨rfl, hs_, hl_, hg_⟩; refine ⟨_, rfl, ?_⟩; have n0_ := Aside0.mk hs_; have hB_ := ((zh HB.out) : Below w.heap.size w _); have n2_ := Aside0.mk (Below.grown hB_ hg_ (below_size hB_) (Kd.S_base HO_5.out)); clear HO_5; clear HB; have HO_5 := n0_; have HB := n2_; clear n0_ n2_ hs_ hl_ hg_ hB_))
    go_ret
    exact ⟨_, by first | rfl | (simp [*, errW_none, errW_some] <;> rfl), by (with_reducible repeat (first | apply Kd.S_alloc | apply Kd.S_drewN | apply Kd.S_drew)); exact HO_5.out, zh HB.out⟩
end
end Go.Proofs.YtgfdfabeninfeaaGreat.Q
end

/- Part 5 of the proof of FnExactChambersOf: what it leans on (no condition). -/
import Derived.Test.YtmbkmabpebjboaaGreatKFnExactChambersOf4
section
namespace Go.Proofs.YtmbkmabpebjboaaGreat.Q
open Go.RowKit Go.Proofs.YtmbkmabpebjboaaGreatW.PrintWords Go.Proofs.YtmbkmabpebjboaaGreatW.PrintLast Go.Proofs.YtmbkmabpebjboaaGreatW.PrintMore
set_option linter.unusedVariables false
set_option linter.unusedSimpArgs false
set_option maxHeartbeats 1000000 in
theorem indexFunc_ints (p : List Int → Option Bool) (g : Nat) (lb : Array Value) (eg : ∀ args w, (callFunc g args).run Tryz.prog w = .ok (.enter g args) w)
    (A0 : Option Addr) (c0 : Nat) (l0 : List (List Int)) (r : Int) (w : World) (hr0 : Kd.C (Kd.slice 3 (Kd.int .i64)) w A0 l0.length l0) (hc0 : l0.length ≤ c0)
    (hp : PredK Tryz.prog g lb (Kd.slice 3 (Kd.int .i64)) (fun c => c.getD 0 undef) w p) (h : idxO p l0 0 = some r) :
    Calls Tryz.prog 140 #[.slice A0 l0.length c0, .func (.func g) #[] lb] w fun e w' => e = .returned (.int .i64 r) ∧ Below w.heap.size w w' := by
  have hlen := hr0.2.1
  have HR0 := Aside0.mk hr0
  clear hr0
  have HP := Aside0.mk hp
  clear hp
  have H0 := Aside0.mk h
  clear h
  go_enter Tryz.func140, Tryz.ntmps140
  go_wp2
  go_loopg [5, 8] l0.length (fun gg _ s8 wr => ∃ kk : Nat, kk ≤ l0.length ∧ l0.length - kk ≤ gg ∧ s8 = .int .i64 kk ∧ Aside0 (Below w.heap.size w wr) ∧ Aside0 (idxO p (l0.drop kk) kk = some r))
  case atStart => exact ⟨0, Nat.zero_le _, by omega, rfl, ⟨Below.refl _ w⟩, H0⟩
  case round =>
    obtain ⟨kk, hkk, hg, rfl, BW, A⟩ := hrel
    by_cases hlt : kk < l0.length
    · have hltz : (kk : Int) < (l0.length : Int) := by omega
      obtain ⟨ad, c, e, _, hK, hcell⟩ := Kd.C_get HR0.out ([] : List Int) (kk : Int) (by omega) hltz
      subst e
      rw [Int.toNat_natCast] at hK hcell
      have hKK := hK
      obtain ⟨A1, c1, rfl, hl1, hk1⟩ := hKK
      have l2 := (BW.out.cell (World.block_lt_of_cell? w _ (hcell 0 _ rfl))).trans (hcell 0 _ rfl)
      clear hcell
      obtain ⟨b, hb, h1, h2⟩ := idxO_step A.out (show l0[kk]? = some (l0.getD kk []) by rw [List.getD_eq_getElem?_getD, List.getElem?_eq_getElem hlt]; rfl)
      have hcall := HP.out wr _ _ b BW.out hK hb
      have l3 : wr.cell? (ad.add kk) = some (.slice A1 (l0.getD kk []).length c1) := by simpa [show (Kd.slice 3 (Kd.int .i64)).sz = 1 from rfl] using l2
      clear l2 hK hk1
      generalize l0.getD kk [] = y at l3 hcall hb hl1
      have B := Aside0.mk hb
      clear hb
      cases b with
      | true =>
        have E := h1 rfl
        clear h1 h2
        have E' := Aside0.mk E
        clear E
        go_wp2_with (go_at_fn g; refine hcall.mono ?_; rintro e w' ⟨rfl, hb'⟩)
        go_ret
        exact ⟨ret_i E'.out.symm, hb'⟩
      | false =>
        have E := Aside0.mk (h2 rfl)
        clear h1 h2
        go_wp2_with (go_at_fn g; refine hcall.mono ?_; rintro e w' ⟨rfl, hb'⟩)
        go_roundg (l0.length - (kk + 1))
        case measure => omega
        case rel => exact ⟨kk + 1, by omega, by omega, by go_num, ⟨hb'⟩, E⟩
    · have hltz : ¬ (kk : Int) < (l0.length : Int) := by omega
      have : kk = l0.length := by omega
      subst this
      go_wp2
      go_ret
      refine ⟨?_, BW.out⟩
      have h3 := A.out
      rw [List.drop_length] at h3
      have h4 : (-1 : Int) = r := by simpa [idxO] using h3
      exact ret_i h4
set_option maxHeartbeats 1000000 in
theorem containsFunc_ints (p : List Int → Option Bool) (g : Nat) (lb : Array Value) (eg : ∀ args w, (callFunc g args).run Tryz.prog w = .ok (.enter g args) w)
    (A0 : Option Addr) (c0 : Nat) (l0 : List (List Int)) (r : Bool) (w : World) (hr0 : Kd.C (Kd.slice 3 (Kd.int .i64)) w A0 l0.length l0) (hc0 : l0.length ≤ c0)
    (hp : PredK Tryz.prog g lb (Kd.slice 3 (Kd.int .i64)) (fun c => c.getD 0 undef) w p) (h : anyO p l0 = some r) :
    Calls Tryz.prog 123 #[.slice A0 l0.length c0, .func (.func g) #[] lb] w fun e w' => e = .returned (.bool r) ∧ Below w.heap.size w w' := by
  obtain ⟨i, hi, rfl⟩ := anyO_idxO p l0 0 r h
  have hcon := indexFunc_ints p g lb eg A0 c0 l0 i w hr0 hc0 hp hi
  clear hr0 hp h hi
  go_enter Tryz.func123, Tryz.ntmps123
  go_wp2_with (go_at_call 140; refine hcon.mono ?_; rintro e w' ⟨rfl, hb'⟩)
  go_ret
  exact ⟨rfl, hb'⟩
end Go.Proofs.YtmbkmabpebjboaaGreat.Q
end
section
namespace Go.Proofs.YtmbkmabpebjboaaGreat.Q
open Go.RowKit Go.Proofs.YtmbkmabpebjboaaGreatW.PrintWords Go.Proofs.YtmbkmabpebjboaaGreatW.PrintLast Go.Proofs.YtmbkmabpebjboaaGreatW.PrintMore
attribute [local go_sem] max2_int min2_int max_two min_two max_three min_three max_four min_four
set_option linter.unusedVariables false
set_option linter.unusedSimpArgs false
def impl_isSet.f (k : Nat) (l0 : List Int) (a1 : Int) : Option (Bool) := (impl_areIn.f l0 0 (wrap64 (a1 - 1))).bind fun t241 => (if t241 = true then ((impl_isIncreasing.f k l0).bind fun t242 => (some t242)) else (some false))
set_option maxHeartbeats 8000000 in
set_option maxRecDepth 100000 in
theorem impl_isSet.calls (k : Nat) (A0 : Option Addr) (c0 : Nat) (l0 : List Int) (a1 : Int) (r : Bool) (w : World) (hr0 : Kd.C (Kd.int .i64) w A0 l0.length l0) (hc0 : l0.length ≤ c0) (h : impl_isSet.f k l0 a1 = some r) :
  Calls Tryz.prog 125 #[.slice A0 l0.length c0, .int .i64 a1] w fun e w' => e = .returned (.bool r) ∧ Below w.heap.size w w' := by
 have HR0 := Aside0.mk hr0
 have HC0 := Aside0.mk hc0
 clear hr0 hc0
 have HB := Aside0.mk (Below.refl w.heap.size w)
 have H : ((impl_areIn.f l0 0 (wrap64 (a1 - 1))).bind fun t241 => (if t241 = true then ((impl_isIncreasing.f k l0).bind fun t242 => (some t242)) else (some false))) = some r := h
 clear h
 replace H := Option.bind_eq_some_iff.mp H
 obtain ⟨t241, A30, H⟩ := H
 have A3 := Aside0.mk A30
 clear A30
 by_cases c4 : t241 = true
 rotate_left
 ·replace c4 := Bool.eq_false_iff.mpr c4
  subst c4
  rw [if_neg zF] at H
  obtain rfl := Option.some.inj H
  go_enter Tryz.func125, Tryz.ntmps125
  go_wp2_with (first | ((with_reducible refine gate_callee (f := 141) rfl ?_); refine zl 8 Tryz.func141 #[.slice A0 l0.length c0, .int .i64 0, .int .i64 (wrap64 (a1 - 1))] ?_; (with_reducible refine (impl_areIn.calls _ _ l0 0 (wrap64 (a1 - 1)) false _ ?side1 ?side2 A3.out).mono ?_); (case side1 => exact zQ HR0.out); (case side2 => exact HC0.out); rintro e w7 ⟨rfl, hb⟩; refine ⟨_, rfl, ?_⟩; replace HB := zH hb HB; clear hb))
  go_ret
  exact ⟨by first | rfl | (simp [*, errW_none, errW_some] <;> rfl), zh HB.out⟩
 subst c4
 rw [if_pos rfl] at H
 replace H := Option.bind_eq_some_iff.mp H
 obtain ⟨t242, A50, H⟩ := H
 have A5 := Aside0.mk A50
 clear A50
 obtain rfl := Option.some.inj H
 go_enter Tryz.func125, Tryz.ntmps125
 go_wp2_with (first | ((with_reducible refine gate_callee (f := 141) rfl ?_); refine zl 8 Tryz.func141 #[.slice A0 l0.length c0, .int .i64 0, .int .i64 (wrap64 (a1 - 1))] ?_; (with_reducible refine (impl_areIn.calls _ _ l0 0 (wrap64 (a1 - 1)) true _ ?side1 ?side2 A3.out).mono ?_); (case side1 => exact zQ HR0.out); (case side2 => exact HC0.out); rintro e w6 ⟨rfl, hb⟩; refine ⟨_, rfl, ?_⟩; replace HB := zH hb HB; clear hb) | (go_at_call 142; (with_reducible refine (impl_isIncreasing.calls k _ _ l0 t242 _ ?side1 ?side2 A5.out).mono ?_); (case side1 => exact zQ (Kd.C_below HR0.out HB.out)); (case side2 => exact HC0.out); rintro e w' ⟨rfl, ⟨nd, rfl⟩⟩))
 go_ret
 exact ⟨by first | rfl | (simp [*, errW_none, errW_some] <;> rfl), zh HB.out⟩
end Go.Proofs.YtmbkmabpebjboaaGreat.Q
end
section
namespace Go.Proofs.YtmbkmabpebjboaaGreat.Q
open Go.RowKit Go.Proofs.YtmbkmabpebjboaaGreatW.PrintWords Go.Proofs.YtmbkmabpebjboaaGreatW.PrintLast Go.Proofs.YtmbkmabpebjboaaGreatW.PrintMore
set_option linter.unusedVariables false
set_option linter.unusedSimpArgs false
def impl_areSets_1.f (k : Nat) (n : Int) (l : List Int) : Option Bool := if (l.length : Int) = 0 then some true else (impl_isSet.f k l n).bind fun b => some (!b)
set_option maxHeartbeats 1000000 in
theorem impl_areSets_1.pred (k : Nat) (n : Int) (b1 : Nat) (w : World) (h1 : w.cell? ⟨b1, 0, none⟩ = some (.int .i64 n)) :
    PredK Tryz.prog 124 #[.pointer (some ⟨b1, 0, none⟩)] (Kd.slice 3 (Kd.int .i64)) (fun c => c.getD 0 undef) w (impl_areSets_1.f k n) := by
  intro W x c b hb hK hp
  obtain ⟨A1, c1, rfl, hl1, hk1⟩ := hK
  show Calls Tryz.prog 124 #[.slice A1 x.length c1, .pointer (some ⟨b1, 0, none⟩)] W _
  have hk2 : Kd.C (Kd.int .i64) W A1 x.length x := Kd.C_below hk1 hb
  have q1 := (hb.cell (World.block_lt_of_cell? w _ h1)).trans h1
  have hB := Aside0.mk hb
  have hC := Aside0.mk hk2
  have hL := Aside0.mk hl1
  unfold impl_areSets_1.f at hp
  clear h1 hb hk1 hk2 hl1
  by_cases h0 : (x.length : Int) = 0
  · rw [if_pos h0] at hp
    have hr' := Option.some.inj hp
    have hE := Aside0.mk hr'
    clear hp hr'
    have h0b : ((x.length : Int) == 0) = true := by simpa using h0
    go_enter Tryz.func124, Tryz.ntmps124
    go_wp2
    go_ret
    exact ⟨ret_b hE.out, hB.out⟩
  · rw [if_neg h0] at hp
    obtain ⟨t, ht, hr⟩ := Option.bind_eq_some_iff.mp hp
    have hr' : (!t) = b := Option.some.inj hr
    have hT := Aside0.mk ht
    have hE := Aside0.mk hr'
    clear hp ht hr hr'
    have h0b : ((x.length : Int) == 0) = false := by simpa using h0
    go_enter Tryz.func124, Tryz.ntmps124
    go_wp2_with (go_at_call 125; refine (impl_isSet.calls _ _ _ _ _ _ _ hC.out hL.out hT.out).mono ?_; rintro e w' ⟨rfl, hb'⟩)
    go_ret
    exact ⟨ret_b hE.out, hB.out.trans (hb'.mono hB.out.size)⟩
def impl_areSets.f (k : Nat) (l0 : List (List Int)) (a1 : Int) : Option Bool := (anyO (impl_areSets_1.f k a1) l0).bind fun b => some (!b)
set_option maxHeartbeats 1000000 in
theorem impl_areSets.calls (k : Nat) (A0 : Option Addr) (c0 : Nat) (l0 : List (List Int)) (a1 : Int) (r : Bool) (w : World) (hr0 : Kd.C (Kd.slice 3 (Kd.int .i64)) w A0 l0.length l0) (hc0 : l0.length ≤ c0) (h : impl_areSets.f k l0 a1 = some r) :
    Calls Tryz.prog 89 #[.slice A0 l0.length c0, .int .i64 a1] w fun e w' => e = .returned (.bool r) ∧ Below w.heap.size w w' := by
  have eg : ∀ args w, (callFunc 124 args).run Tryz.prog w = .ok (.enter 124 args) w := enters_of Tryz.func124 (by kernel_rfl) rfl
  obtain ⟨t, ht, hr⟩ := Option.bind_eq_some_iff.mp h
  have hE := Aside0.mk (show (!t) = r from Option.some.inj hr)
  have hT := Aside0.mk ht
  have HR := Aside0.mk hr0
  clear h hr ht hr0
  go_enter Tryz.func89, Tryz.ntmps89
  go_wp2_with fail
  refine (containsFunc_ints (impl_areSets_1.f k a1) 124 #[.pointer (some ⟨w.heap.size, 0, none⟩)] eg A0 c0 l0 t _ ?_ hc0 ?_ hT.out).mono ?_
  · exact Kd.C_below HR.out ((Below.refl _ w).alloc (Nat.le_refl _) _)
  · exact impl_areSets_1.pred k a1 _ _ (by go_simp)
  · rintro e w' ⟨rfl, hb⟩
    go_wp2
    go_ret
    exact ⟨ret_b hE.out, ((Below.refl _ w).alloc (Nat.le_refl _) _).trans (hb.mono (by simp))⟩
end Go.Proofs.YtmbkmabpebjboaaGreat.Q
end
section
namespace Go.Proofs.YtmbkmabpebjboaaGreat.Q
open Go.RowKit Go.Proofs.YtmbkmabpebjboaaGreatW.PrintWords Go.Proofs.YtmbkmabpebjboaaGreatW.PrintLast Go.Proofs.YtmbkmabpebjboaaGreatW.PrintMore
attribute [local go_sem] max2_int min2_int max_two min_two max_three min_three max_four min_four
set_option linter.unusedVariables false
set_option linter.unusedSimpArgs false
mutual
def impl_IsGame.j0 : Nat → Bool → Int → List (List Int) → Option (Bool)
 | 0, _, _, _ => none
 | k + 1, x24, x250000, x250001 => if x24 = true then (some false) else (impl_IsGame.l0 k x250001 (x250001.length : Int) 0 x250000 x250001)
def impl_IsGame.l0 : Nat → List (List Int) → Int → Int → Int → List (List Int) → Option (Bool)
 | 0, _, _, _, _, _ => none
 | k + 1, x26, x27, x28, x250000, x250001 => if x28 < x27 then (if 0 ≤ x28 then (if x28 < (x26.length : Int) then (if x28 > 0 then (if 0 ≤ (wrap64 (x28 - 1)) then (if (wrap64 (x28 - 1)) < (x250001.length : Int) then ((slices_Compare_int_int.f k (rd_L1 x250001 (wrap64 (x28 - 1))) (rd_L1 x26 x28)).bind fun t254 => (impl_IsGame.j2 k x28 (rd_L1 x26 x28) x26 x27 x28 (decide (t254 ≥ 0)) x250000 x250001)) else (none)) else (none)) else (impl_IsGame.j2 k x28 (rd_L1 x26 x28) x26 x27 x28 false x250000 x250001)) else (none)) else (none)) else (some true)
def impl_IsGame.j2 : Nat → Int → List Int → List (List Int) → Int → Int → Bool → Int → List (List Int) → Option (Bool)
 | 0, _, _, _, _, _, _, _, _ => none
 | k + 1, x3, x4, x26, x27, x28, x45, x250000, x250001 => if x45 = true then (some false) else (impl_IsGame.l1 k x3 x4 x26 x27 x28 x250001 (x250001.length : Int) 0 x250000 x250001)
def impl_IsGame.l1 : Nat → Int → List Int → List (List Int) → Int → Int → List (List Int) → Int → Int → Int → List (List Int) → Option (Bool)
 | 0, _, _, _, _, _, _, _, _, _, _ => none
 | k + 1, x3, x4, x26, x27, x28, x47, x48, x49, x250000, x250001 => if x49 < x48 then (if 0 ≤ x49 then (if x49 < (x47.length : Int) then (if x49 = x3 then (impl_IsGame.l1 k x3 x4 x26 x27 x28 x47 x48 (wrap64 (x49 + 1)) x250000 x250001) else ((impl_maskOf.f k x4).bind fun t256 => ((impl_maskOf.f k (rd_L1 x47 x49)).bind fun t257 => (if (Go.bits .and .i64 t256 t257) = t257 then (some false) else (impl_IsGame.l1 k x3 x4 x26 x27 x28 x47 x48 (wrap64 (x49 + 1)) x250000 x250001))))) else (none)) else (none)) else (impl_IsGame.l0 k x26 x27 (wrap64 (x28 + 1)) x250000 x250001)
end
def impl_IsGame.f (k : Nat) (a0_0 : Int) (l0_1 : List (List Int)) : Option (Bool) := (impl_within.f a0_0 1 9).bind fun t250 => (if t250 = true then (if (l0_1.length : Int) = 0 then (impl_IsGame.j0 k true a0_0 l0_1) else ((impl_areSets.f k l0_1 a0_0).bind fun t251 => (impl_IsGame.j0 k (!t251) a0_0 l0_1))) else (impl_IsGame.j0 k true a0_0 l0_1))
set_option maxHeartbeats 8000000 in
set_option maxRecDepth 100000 in
theorem impl_IsGame.calls (k : Nat) (a0_0 : Int) (A0_1 : Option Addr) (c0_1 : Nat) (l0_1 : List (List Int)) (r : Bool) (w : World) (hr0_1 : Kd.C (Kd.slice 3 (Kd.int .i64)) w A0_1 l0_1.length l0_1) (hc0_1 : l0_1.length ≤ c0_1) (h : impl_IsGame.f k a0_0 l0_1 = some r) :
  Calls Tryz.prog 55 #[.agg #[.int .i64 a0_0, .slice A0_1 l0_1.length c0_1]] w fun e w' => e = .returned (.bool r) ∧ Below w.heap.size w w' := by
 have hu28 := Tryz.underlying28
 have HR0_1 := Aside0.mk hr0_1
 have HC0_1 := Aside0.mk hc0_1
 clear hr0_1 hc0_1
 have HB := Aside0.mk (Below.refl w.heap.size w)
 have H : ((impl_within.f a0_0 1 9).bind fun t250 => (if t250 = true then (if (l0_1.length : Int) = 0 then (impl_IsGame.j0 k true a0_0 l0_1) else ((impl_areSets.f k l0_1 a0_0).bind fun t251 => (impl_IsGame.j0 k (!t251) a0_0 l0_1))) else (impl_IsGame.j0 k true a0_0 l0_1))) = some r := h
 clear h
 have HC2 := Aside0.mk H
 clear H
 go_enter Tryz.func55, Tryz.ntmps55
 go_upto_region 1 with (first | ((with_reducible refine gate_dst (N := 1) rfl ?_); (try (refine gate_guard (by rfl) ?_; dsimp only)); refine zq 1 #[.int .i64 a0_0, .slice A0_1 l0_1.length c0_1] 28 ?_; intro gb249 hg w3 hbox hb; have n2_ := Aside0.mk ((by rw [hg]; exact (below_size (zh HB.out)) : w.heap.size ≤ gb249)); replace HB := Aside0.mk (below_step (zh HB.out) hb); have BK249 := Aside0.mk hbox; have GW249 := n2_; have GE249 := n2_; clear n2_ hb hbox hg))
 (try simp only [Act.put, List.setIfInBounds_toArray, List.set_cons_zero, List.set_cons_succ])
 go_cut [24] (fun v24 wc => ∃ (kq : Nat) (x24_1 : Bool), v24 = .bool x24_1 ∧ Aside0 (impl_IsGame.j0 kq x24_1 a0_0 l0_1 = some r) ∧ Aside0 (kq ≤ k) ∧ Aside0 (wc.heap[gb249]? = some (.cells #[.int .i64 a0_0, (.slice A0_1 l0_1.length c0_1)] 28 (0, 0))) ∧ Aside0 (Below w.heap.size w wc))
 case first =>
  have H := HC2.out
  clear HC2
  replace H := Option.bind_eq_some_iff.mp H
  obtain ⟨t250, A40, H⟩ := H
  have A4 := Aside0.mk A40
  clear A40
  by_cases c5 : t250 = true
  ·subst c5
   rw [if_pos rfl] at H
   by_cases c6 : (l0_1.length : Int) = 0
   ·rw [if_pos c6] at H
    have c6b0 := beq_iff_eq.mpr c6
    have c6b1 := bne_eq_false_iff_eq.mpr c6
    clear c6
    (first | rw [c6b0] | (simp only [i64_w, i32_w]; rw [c6b0]) | skip)
    have H' := Aside0.mk H
    clear H
    obtain ⟨hcz7_0, hcz7_1, hfz7_0, hfz7_1⟩ := zC2 BK249
    go_wp2_with (first | ((with_reducible refine gate_callee (f := 88) rfl ?_); refine zl 9 Tryz.func88 #[.int .i64 a0_0, .int .i64 1, .int .i64 9] ?_; (with_reducible refine (impl_within.calls a0_0 1 9 true _ A4.out).mono ?_); rintro e w' ⟨rfl, ⟨nd, rfl⟩⟩; refine ⟨_, rfl, ?_⟩))
    go_meet
    case rel => exact ⟨_, (true), zE, H', ⟨by first | omega | exact Nat.le_refl _⟩, ⟨zb BK249.out⟩, ⟨zh HB.out⟩⟩
   ·rw [if_neg c6] at H
    have c6b0 := beq_eq_false_iff_ne.mpr c6
    have c6b1 := bne_iff_ne.mpr c6
    have c6b2 : ¬ (l0_1 = []) := fun h_ => c6 (by rw [h_]; rfl)
    (first | rw [c6b0] | (simp only [i64_w, i32_w]; rw [c6b0]) | skip)
    replace H := Option.bind_eq_some_iff.mp H
    obtain ⟨t251, A80, H⟩ := H
    have A8 := Aside0.mk A80
    clear A80
    have H' := Aside0.mk H
    clear H
    obtain ⟨hcz9_0, hcz9_1, hfz9_0, hfz9_1⟩ := zC2 BK249
    go_wp2_with (first | ((with_reducible refine gate_callee (f := 88) rfl ?_); refine zl 9 Tryz.func88 #[.int .i64 a0_0, .int .i64 1, .int .i64 9] ?_; (with_reducible refine (impl_within.calls a0_0 1 9 true _ A4.out).mono ?_); rintro e w' ⟨rfl, ⟨nd, rfl⟩⟩; refine ⟨_, rfl, ?_⟩) | (go_at_call 89; (with_reducible refine (impl_areSets.calls k _ _ l0_1 a0_0 t251 _ ?side1 ?side2 A8.out).mono ?_); (case side1 => exact zQ (Kd.C_below HR0_1.out (zh HB.out))); (case side2 => exact HC0_1.out); rintro e w10 ⟨rfl, hb⟩; replace BK249 := zK BK249 hb; replace HB := zH hb HB; clear hb))
    go_meet
    case rel => exact ⟨_, (!t251), zE, H', ⟨by first | omega | exact Nat.le_refl _⟩, ⟨zb BK249.out⟩, ⟨zh HB.out⟩⟩
  ·replace c5 := Bool.eq_false_iff.mpr c5
   subst c5
   rw [if_neg zF] at H
   have H' := Aside0.mk H
   clear H
   obtain ⟨hcz11_0, hcz11_1, hfz11_0, hfz11_1⟩ := zC2 BK249
   go_wp2_with (first | ((with_reducible refine gate_callee (f := 88) rfl ?_); refine zl 9 Tryz.func88 #[.int .i64 a0_0, .int .i64 1, .int .i64 9] ?_; (with_reducible refine (impl_within.calls a0_0 1 9 false _ A4.out).mono ?_); rintro e w' ⟨rfl, ⟨nd, rfl⟩⟩; refine ⟨_, rfl, ?_⟩))
   go_meet
   case rel => exact ⟨_, (true), zE, H', ⟨by first | omega | exact Nat.le_refl _⟩, ⟨zb BK249.out⟩, ⟨zh HB.out⟩⟩
 case rest =>
  clear HC2
  try clear p2
  try clear c5
  try clear c6
  try clear c6b0
  try clear c6b1
  try clear c6b2
  try clear c8
  try clear hcz11_0
  try clear hcz11_1
  try clear hcz7_0
  try clear hcz7_1
  try clear hcz9_0
  try clear hcz9_1
  try clear hfz11_0
  try clear hfz11_1
  try clear hfz7_0
  try clear hfz7_1
  try clear hfz9_0
  try clear hfz9_1
  obtain ⟨kq, x24_1, rfl, HA, HJ1, BK249, HB⟩ := hcut
  cases kq with
  | zero => exact absurd HA.out (by simp [impl_IsGame.j0])
  | succ kj1 =>
   have H := HA.out
   clear HA
   simp only [impl_IsGame.j0] at H
   by_cases c12 : x24_1 = true
   ·subst c12
    rw [if_pos rfl] at H
    obtain rfl := Option.some.inj H
    go_wp2
    go_ret
    exact ⟨by first | rfl | (simp [*, errW_none, errW_some] <;> rfl), zh HB.out⟩
   replace c12 := Bool.eq_false_iff.mpr c12
   subst c12
   rw [if_neg zF] at H
   have H' := Aside0.mk H
   clear H
   obtain ⟨hcz13_0, hcz13_1, hfz13_0, hfz13_1⟩ := zC2 BK249
   go_wp2
   go_loopg [28] kj1 (fun kq v28 w' => ∃ (x28_2 : Int), v28 = .int .i64 x28_2 ∧ Aside0 (impl_IsGame.l0 kq l0_1 (l0_1.length : Int) x28_2 a0_0 l0_1 = some r) ∧ Aside0 (kq ≤ kj1) ∧ Aside0 (w'.heap[gb249]? = some (.cells #[.int .i64 a0_0, (.slice A0_1 l0_1.length c0_1)] 28 (0, 0))) ∧ Aside0 (Below w.heap.size w w'))
   case atStart => exact ⟨(0), zE, H', ⟨Nat.le_refl _⟩, ⟨zb BK249.out⟩, ⟨zh HB.out⟩⟩
   case round =>
    clear H'
    try clear c1
    try clear p2
    try clear c5
    try clear c6
    try clear c6b0
    try clear c6b1
    try clear c6b2
    try clear c8
    try clear c12
    try clear hcz11_0
    try clear hcz11_1
    try clear hcz13_0
    try clear hcz13_1
    try clear hcz7_0
    try clear hcz7_1
    try clear hcz9_0
    try clear hcz9_1
    try clear hfz11_0
    try clear hfz11_1
    try clear hfz13_0
    try clear hfz13_1
    try clear hfz7_0
    try clear hfz7_1
    try clear hfz9_0
    try clear hfz9_1
    try clear p2
    obtain ⟨x28_2, rfl, HA, HK2, BK249, HB⟩ := hrel
    cases gk with
    | zero => exact absurd HA.out (by simp [impl_IsGame.l0])
    | succ k2 =>
     have H := HA.out
     clear HA
     simp only [impl_IsGame.l0] at H
     by_cases c14 : x28_2 < (l0_1.length : Int)
     rotate_left
     ·rw [if_neg c14] at H
      have c14b0 := decide_eq_false c14
      clear c14
      obtain rfl := Option.some.inj H
      go_wp2
      go_ret
      exact ⟨by first | rfl | (simp [*, errW_none, errW_some] <;> rfl), zh HB.out⟩
     rw [if_pos c14] at H
     have c14b0 := decide_eq_true c14
     clear c14
     by_cases c15 : 0 ≤ x28_2
     rotate_left
     ·rw [if_neg c15] at H
      cases H
     rw [if_pos c15] at H
     have c15b0 := decide_eq_true c15
     clear c15
     by_cases c16 : x28_2 < (l0_1.length : Int)
     rotate_left
     ·rw [if_neg c16] at H
      cases H
     rw [if_pos c16] at H
     have c16b0 := decide_eq_true c16
     clear c16
     have HC17 := Aside0.mk H
     clear H
     obtain ⟨⟨ad252, A252_0, c252_0, e252, hx252_0, hl252_0, hi252_0⟩, p252, q252⟩ := zW (at_L1 HR0_1.out x28_2)
     cases e252
     replace hx252_0 := zx HB.out hx252_0
     have HR252_0 := Aside0.mk hi252_0
     have HC252_0 := Aside0.mk hl252_0
     clear hi252_0 hl252_0
     go_upto_region 6 with (fail)
     go_cut [45] (fun v45 wc => ∃ (kq : Nat) (x45_16 : Bool), v45 = .bool x45_16 ∧ Aside0 (impl_IsGame.j2 kq x28_2 (rd_L1 l0_1 x28_2) l0_1 (l0_1.length : Int) x28_2 x45_16 a0_0 l0_1 = some r) ∧ Aside0 (kq ≤ k2) ∧ Aside0 (wc.heap[gb249]? = some (.cells #[.int .i64 a0_0, (.slice (some ad252) l0_1.length c0_1)] 28 (0, 0))) ∧ Aside0 (Below w.heap.size w wc))
     case first =>
      have H := HC17.out
      clear HC17
      by_cases c18 : x28_2 > 0
      ·rw [if_pos c18] at H
       have c18b0 := decide_eq_true c18
       clear c18
       (first | rw [c18b0] | (simp only [i64_w, i32_w]; rw [c18b0]) | skip)
       obtain ⟨ji19, hji19⟩ : ∃ j_ : Int, (wrap64 (x28_2 - 1)) = j_ := ⟨_, rfl⟩
       first | rw [hji19] at H | simp only [hji19] at H
       have hji19w := (i64_w _).trans hji19
       by_cases c20 : 0 ≤ (ji19)
       ·rw [if_pos c20] at H
        have c20b0 := decide_eq_true c20
        clear c20
        by_cases c21 : (ji19) < (l0_1.length : Int)
        ·rw [if_pos c21] at H
         have c21b0 := decide_eq_true c21
         clear c21
         replace H := Option.bind_eq_some_iff.mp H
         obtain ⟨t254, A220, H⟩ := H
         have A22 := Aside0.mk A220
         clear A220
         have H' := Aside0.mk H
         clear H
         obtain ⟨hcz23_0, hcz23_1, hfz23_0, hfz23_1⟩ := zC2 BK249
         obtain ⟨⟨ad253, A253_0, c253_0, e253, hx253_0, hl253_0, hi253_0⟩, p253, q253⟩ := zW (at_L1 HR0_1.out (ji19))
         obtain rfl : ad252 = ad253 := (by injection e253)
         replace hx253_0 := zx HB.out hx253_0
         have HR253_0 := Aside0.mk hi253_0
         have HC253_0 := Aside0.mk hl253_0
         clear hi253_0 hl253_0
         go_wp2_with (first | (go_at_call 90; (with_reducible refine (slices_Compare_int_int.calls k2 _ _ (rd_L1 l0_1 (ji19)) _ _ (rd_L1 l0_1 x28_2) t254 _ ?side1 ?side2 ?side3 ?side4 A22.out).mono ?_); (case side1 => exact zQ (Kd.C_below HR253_0.out HB.out)); (case side2 => exact HC253_0.out); (case side3 => exact zQ (Kd.C_below HR252_0.out HB.out)); (case side4 => exact HC252_0.out); rintro e w' ⟨rfl, ⟨nd, rfl⟩⟩))
         go_meet
         case rel => exact ⟨_, (decide (t254 ≥ 0)), zE, H', ⟨by have := HJ1.out; have := HK2.out; first | omega | exact Nat.le_refl _⟩, ⟨zb BK249.out⟩, ⟨zh HB.out⟩⟩
        ·rw [if_neg c21] at H
         cases H
       ·rw [if_neg c20] at H
        cases H
      ·rw [if_neg c18] at H
       have c18b0 := decide_eq_false c18
       clear c18
       (first | rw [c18b0] | (simp only [i64_w, i32_w]; rw [c18b0]) | skip)
       have H' := Aside0.mk H
       clear H
       go_wp2
       go_meet
       case rel => exact ⟨_, (false), zE, H', ⟨by have := HJ1.out; have := HK2.out; first | omega | exact Nat.le_refl _⟩, ⟨zb BK249.out⟩, ⟨zh HB.out⟩⟩
     case rest =>
      clear HC17
      try clear c1
      try clear c2
      try clear p2
      try clear q2
      try clear hx2
      try clear c5
      try clear c6
      try clear c6b0
      try clear c6b1
      try clear c6b2
      try clear p6
      try clear c8
      try clear c12
      try clear c14
      try clear c14b0
      try clear c15
      try clear c15b0
      try clear c16
      try clear c16b0
      try clear c18
      try clear c18b0
      try clear c20
      try clear c20b0
      try clear c21
      try clear c21b0
      try clear hcz11_0
      try clear hcz11_1
      try clear hcz13_0
      try clear hcz13_1
      try clear hcz23_0
      try clear hcz23_1
      try clear hcz7_0
      try clear hcz7_1
      try clear hcz9_0
      try clear hcz9_1
      try clear hfz11_0
      try clear hfz11_1
      try clear hfz13_0
      try clear hfz13_1
      try clear hfz23_0
      try clear hfz23_1
      try clear hfz7_0
      try clear hfz7_1
      try clear hfz9_0
      try clear hfz9_1
      try clear hx252_0
      try clear hx253_0
      try clear p2
      try clear p252
      try clear p253
      try clear q252
      try clear q253
      obtain ⟨kq, x45_16, rfl, HA, HJ16, BK249, HB⟩ := hcut
      cases kq with
      | zero => exact absurd HA.out (by simp [impl_IsGame.j2])
      | succ kj16 =>
       have H := HA.out
       clear HA
       simp only [impl_IsGame.j2] at H
       by_cases c24 : x45_16 = true
       ·subst c24
        rw [if_pos rfl] at H
        obtain rfl := Option.some.inj H
        go_wp2
        go_ret
        exact ⟨by first | rfl | (simp [*, errW_none, errW_some] <;> rfl), zh HB.out⟩
       replace c24 := Bool.eq_false_iff.mpr c24
       subst c24
       rw [if_neg zF] at H
       have H' := Aside0.mk H
       clear H
       obtain ⟨hcz25_0, hcz25_1, hfz25_0, hfz25_1⟩ := zC2 BK249
       go_wp2
       go_loopg [49] kj16 (fun kq v49 w' => ∃ (x49_4 : Int), v49 = .int .i64 x49_4 ∧ Aside0 (impl_IsGame.l1 kq x28_2 (rd_L1 l0_1 x28_2) l0_1 (l0_1.length : Int) x28_2 l0_1 (l0_1.length : Int) x49_4 a0_0 l0_1 = some r) ∧ Aside0 (kq ≤ kj16) ∧ Aside0 (w'.heap[gb249]? = some (.cells #[.int .i64 a0_0, (.slice (some ad252) l0_1.length c0_1)] 28 (0, 0))) ∧ Aside0 (Below w.heap.size w w'))
       case atStart => exact ⟨(0), zE, H', ⟨Nat.le_refl _⟩, ⟨zb BK249.out⟩, ⟨zh HB.out⟩⟩
       case round =>
        clear H'
        try clear c1
        try clear c2
        try clear p2
        try clear q2
        try clear hx2
        try clear c5
        try clear c6
        try clear c6b0
        try clear c6b1
        try clear c6b2
        try clear p6
        try clear c8
        try clear c12
        try clear c14
        try clear c14b0
        try clear c15
        try clear c15b0
        try clear c16
        try clear c16b0
        try clear c18
        try clear c18b0
        try clear c20
        try clear c20b0
        try clear c21
        try clear c21b0
        try clear c24
        try clear c25
        try clear p25
        try clear q25
        try clear hx25
        try clear hcz11_0
        try clear hcz11_1
        try clear hcz13_0
        try clear hcz13_1
        try clear hcz23_0
        try clear hcz23_1
        try clear hcz25_0
        try clear hcz25_1
        try clear hcz7_0
        try clear hcz7_1
        try clear hcz9_0
        try clear hcz9_1
        try clear hfz11_0
        try clear hfz11_1
        try clear hfz13_0
        try clear hfz13_1
        try clear hfz23_0
        try clear hfz23_1
        try clear hfz25_0
        try clear hfz25_1
        try clear hfz7_0
        try clear hfz7_1
        try clear hfz9_0
        try clear hfz9_1
        try clear hx252_0
        try clear hx253_0
        try clear p2
        try clear p252
        try clear p253
        try clear p6
        try clear q2
        try clear q252
        try clear q253
        obtain ⟨x49_4, rfl, HA, HK4, BK249, HB⟩ := hrel
        cases gk with
        | zero => exact absurd HA.out (by simp [impl_IsGame.l1])
        | succ k4 =>
         have H := HA.out
         clear HA
         simp only [impl_IsGame.l1] at H
         by_cases c26 : x49_4 < (l0_1.length : Int)
         rotate_left
         ·rw [if_neg c26] at H
          have c26b0 := decide_eq_false c26
          clear c26
          have H' := Aside0.mk H
          clear H
          go_wp2
          go_roundg k4
          case measure => have := HJ1.out; have := HK2.out; have := HJ16.out; have := HK4.out; omega
          case rel => exact ⟨(wrap64 (x28_2 + 1)), zE, H', ⟨by have := HJ1.out; have := HK2.out; have := HJ16.out; have := HK4.out; omega⟩, ⟨zb BK249.out⟩, ⟨zh HB.out⟩⟩
         rw [if_pos c26] at H
         have c26b0 := decide_eq_true c26
         clear c26
         by_cases c27 : 0 ≤ x49_4
         rotate_left
         ·rw [if_neg c27] at H
          cases H
         rw [if_pos c27] at H
         have c27b0 := decide_eq_true c27
         clear c27
         by_cases c28 : x49_4 < (l0_1.length : Int)
         rotate_left
         ·rw [if_neg c28] at H
          cases H
         rw [if_pos c28] at H
         have c28b0 := decide_eq_true c28
         clear c28
         by_cases c29 : x49_4 = x28_2
         ·rw [if_pos c29] at H
          have c29b0 := beq_iff_eq.mpr c29
          have c29b1 := bne_eq_false_iff_eq.mpr c29
          clear c29
          have H' := Aside0.mk H
          clear H
          obtain ⟨⟨ad255, A255_0, c255_0, e255, hx255_0, hl255_0, hi255_0⟩, p255, q255⟩ := zW (at_L1 HR0_1.out x49_4)
          obtain rfl : ad252 = ad255 := (by injection e255)
          replace hx255_0 := zx HB.out hx255_0
          have HR255_0 := Aside0.mk hi255_0
          have HC255_0 := Aside0.mk hl255_0
          clear hi255_0 hl255_0
          go_wp2
          go_roundg k4
          case measure => have := HJ1.out; have := HK2.out; have := HJ16.out; have := HK4.out; omega
          case rel => exact ⟨(wrap64 (x49_4 + 1)), zE, H', ⟨by have := HJ1.out; have := HK2.out; have := HJ16.out; have := HK4.out; omega⟩, ⟨zb BK249.out⟩, ⟨zh HB.out⟩⟩
         rw [if_neg c29] at H
         have c29b0 := beq_eq_false_iff_ne.mpr c29
         have c29b1 := bne_iff_ne.mpr c29
         replace H := Option.bind_eq_some_iff.mp H
         obtain ⟨t256, A300, H⟩ := H
         have A30 := Aside0.mk A300
         clear A300
         replace H := Option.bind_eq_some_iff.mp H
         obtain ⟨t257, A310, H⟩ := H
         have A31 := Aside0.mk A310
         clear A310
         by_cases c32 : (Go.bits .and .i64 t256 t257) = t257
         ·rw [if_pos c32] at H
          have c32b0 := beq_iff_eq.mpr c32
          have c32b1 := bne_eq_false_iff_eq.mpr c32
          clear c32
          obtain rfl := Option.some.inj H
          obtain ⟨⟨ad255, A255_0, c255_0, e255, hx255_0, hl255_0, hi255_0⟩, p255, q255⟩ := zW (at_L1 HR0_1.out x49_4)
          obtain rfl : ad252 = ad255 := (by injection e255)
          replace hx255_0 := zx HB.out hx255_0
          have HR255_0 := Aside0.mk hi255_0
          have HC255_0 := Aside0.mk hl255_0
          clear hi255_0 hl255_0
          go_wp2_with (first | (go_at_call 91; (with_reducible refine (impl_maskOf.calls k4 _ _ (rd_L1 l0_1 x28_2) t256 _ ?side1 ?side2 A30.out).mono ?_); (case side1 => exact zQ (Kd.C_below HR252_0.out HB.out)); (case side2 => exact HC252_0.out); rintro e w' ⟨rfl, ⟨nd, rfl⟩⟩) | (go_at_call 91; (with_reducible refine (impl_maskOf.calls k4 _ _ (rd_L1 l0_1 x49_4) t257 _ ?side1 ?side2 A31.out).mono ?_); (case side1 => exact zQ (Kd.C_below HR255_0.out (zh HB.out))); (case side2 => exact HC255_0.out); rintro e w' ⟨rfl, ⟨nd, rfl⟩⟩))
          go_ret
          exact ⟨by first | rfl | (simp [*, errW_none, errW_some] <;> rfl), zh HB.out⟩
         rw [if_neg c32] at H
         have c32b0 := beq_eq_false_iff_ne.mpr c32
         have c32b1 := bne_iff_ne.mpr c32
         have H' := Aside0.mk H
         clear H
         obtain ⟨⟨ad255, A255_0, c255_0, e255, hx255_0, hl255_0, hi255_0⟩, p255, q255⟩ := zW (at_L1 HR0_1.out x49_4)
         obtain rfl : ad252 = ad255 := (by injection e255)
         replace hx255_0 := zx HB.out hx255_0
         have HR255_0 := Aside0.mk hi255_0
         have HC255_0 := Aside0.mk hl255_0
         clear hi255_0 hl255_0
         go_wp2_with (first | (go_at_call 91; (with_reducible refine (impl_maskOf.calls k4 _ _ (rd_L1 l0_1 x28_2) t256 _ ?side1 ?side2 A30.out).mono ?_); (case side1 => exact zQ (Kd.C_below HR252_0.out HB.out)); (case side2 => exact HC252_0.out); rintro e w' ⟨rfl, ⟨nd, rfl⟩⟩) | (go_at_call 91; (with_reducible refine (impl_maskOf.calls k4 _ _ (rd_L1 l0_1 x49_4) t257 _ ?side1 ?side2 A31.out).mono ?_); (case side1 => exact zQ (Kd.C_below HR255_0.out (zh HB.out))); (case side2 => exact HC255_0.out); rintro e w' ⟨rfl, ⟨nd, rfl⟩⟩))
         go_roundg k4
         case measure => have := HJ1.out; have := HK2.out; have := HJ16.out; have := HK4.out; omega
         case rel => exact ⟨(wrap64 (x49_4 + 1)), zE, H', ⟨by have := HJ1.out; have := HK2.out; have := HJ16.out; have := HK4.out; omega⟩, ⟨zb BK249.out⟩, ⟨zh HB.out⟩⟩
def impl_isNeededGame.f (k : Nat) (a0_0 : Int) (l0_1 : List (List Int)) : Option (Bool) := (impl_IsGame.f k a0_0 l0_1).bind fun t259 => (if t259 = true then (some (decide (a0_0 ≤ 4))) else (some false))
set_option maxHeartbeats 8000000 in
set_option maxRecDepth 100000 in
theorem impl_isNeededGame.calls (k : Nat) (a0_0 : Int) (A0_1 : Option Addr) (c0_1 : Nat) (l0_1 : List (List Int)) (r : Bool) (w : World) (hr0_1 : Kd.C (Kd.slice 3 (Kd.int .i64)) w A0_1 l0_1.length l0_1) (hc0_1 : l0_1.length ≤ c0_1) (h : impl_isNeededGame.f k a0_0 l0_1 = some r) :
  Calls Tryz.prog 30 #[.agg #[.int .i64 a0_0, .slice A0_1 l0_1.length c0_1]] w fun e w' => e = .returned (.bool r) ∧ Below w.heap.size w w' := by
 have hu28 := Tryz.underlying28
 have HR0_1 := Aside0.mk hr0_1
 have HC0_1 := Aside0.mk hc0_1
 clear hr0_1 hc0_1
 have HB := Aside0.mk (Below.refl w.heap.size w)
 have H : ((impl_IsGame.f k a0_0 l0_1).bind fun t259 => (if t259 = true then (some (decide (a0_0 ≤ 4))) else (some false))) = some r := h
 clear h
 replace H := Option.bind_eq_some_iff.mp H
 obtain ⟨t259, A20, H⟩ := H
 have A2 := Aside0.mk A20
 clear A20
 by_cases c3 : t259 = true
 rotate_left
 ·replace c3 := Bool.eq_false_iff.mpr c3
  subst c3
  rw [if_neg zF] at H
  obtain rfl := Option.some.inj H
  go_enter Tryz.func30, Tryz.ntmps30
  go_wp2_with (first | ((with_reducible refine gate_dst (N := 1) rfl ?_); refine zq 1 #[.int .i64 a0_0, .slice A0_1 l0_1.length c0_1] 28 ?_; intro gb258 hg w8 hbox hb; have GW258 := zG hg HB; replace HB := zH hb HB; have BK258 := Aside0.mk hbox; have GE258 := GW258; clear hb hbox hg; obtain ⟨hcz9_0, hcz9_1, hfz9_0, hfz9_1⟩ := zC2 BK258) | ((with_reducible refine gate_callee (f := 55) rfl ?_); refine zl 4 Tryz.func55 #[.agg #[.int .i64 a0_0, .slice A0_1 l0_1.length c0_1]] ?_; (with_reducible refine (impl_IsGame.calls k a0_0 _ _ l0_1 false _ ?side1 ?side2 A2.out).mono ?_); (case side1 => exact zQ (Kd.C_below HR0_1.out HB.out)); (case side2 => exact HC0_1.out); rintro e w10 ⟨rfl, hb⟩; refine ⟨_, rfl, ?_⟩; replace BK258 := zK BK258 hb; replace HB := zH hb HB; clear hb))
  go_ret
  exact ⟨by first | rfl | (simp [*, errW_none, errW_some] <;> rfl), zh HB.out⟩
 subst c3
 rw [if_pos rfl] at H
 obtain rfl := Option.some.inj H
 go_enter Tryz.func30, Tryz.ntmps30
 go_wp2_with (first | ((with_reducible refine gate_dst (N := 1) rfl ?_); refine zq 1 #[.int .i64 a0_0, .slice A0_1 l0_1.length c0_1] 28 ?_; intro gb258 hg w4 hbox hb; have GW258 := zG hg HB; replace HB := zH hb HB; have BK258 := Aside0.mk hbox; have GE258 := GW258; clear hb hbox hg; obtain ⟨hcz5_0, hcz5_1, hfz5_0, hfz5_1⟩ := zC2 BK258) | ((with_reducible refine gate_callee (f := 55) rfl ?_); refine zl 4 Tryz.func55 #[.agg #[.int .i64 a0_0, .slice A0_1 l0_1.length c0_1]] ?_; (with_reducible refine (impl_IsGame.calls k a0_0 _ _ l0_1 true _ ?side1 ?side2 A2.out).mono ?_); (case side1 => exact zQ (Kd.C_below HR0_1.out HB.out)); (case side2 => exact HC0_1.out); rintro e w6 ⟨rfl, hb⟩; refine ⟨_, rfl, ?_⟩; replace BK258 := zK BK258 hb; replace HB := zH hb HB; clear hb; obtain ⟨hcz7_0, hcz7_1, hfz7_0, hfz7_1⟩ := zC2 BK258))
 go_ret
 exact ⟨by first | rfl | (simp [*, errW_none, errW_some] <;> rfl), zh HB.out⟩
def impl_ChambersOf.l0 : Nat → List (S67) → List (S61) → Int → Int → Option ((List (S67)) × Bool)
 | 0, _, _, _, _ => none
 | k + 1, x4, x15, x16, x17 => if x17 < x16 then (if 0 ≤ x17 then (if x17 < (x15.length : Int) then ((impl_votes_found.f k ((rd_T61 x15 x17).f0) ((rd_T61 x15 x17).f1)).bind fun bt554 => (if x4.length < 4398046511104 then (impl_ChambersOf.l0 k (x4 ++ [(⟨bt554.1, bt554.2.1⟩ : S67)]) x15 x16 (wrap64 (x17 + 1))) else (none))) else (none)) else (none)) else (some (x4, true))
def impl_ChambersOf.f (k : Nat) (a0_0 : Int) (l0_1 : List (List Int)) : Option ((List (S67)) × Bool) := (impl_isNeededGame.f k a0_0 l0_1).bind fun t541 => (if t541 = true then ((impl_Game_votes.f k a0_0 l0_1).bind fun bt545 => ((impl_votes_chambers.f k bt545.1 bt545.2).bind fun t549 => (impl_ChambersOf.l0 k (([] : List (S67))) t549 (t549.length : Int) 0))) else (some (([] : List (S67)), false)))
end Go.Proofs.YtmbkmabpebjboaaGreat.Q
end
section
namespace Go.Proofs.YtmbkmabpebjboaaGreat.Q
open Go.RowKit Go.Proofs.YtmbkmabpebjboaaGreatW.PrintWords Go.Proofs.YtmbkmabpebjboaaGreatW.PrintLast Go.Proofs.YtmbkmabpebjboaaGreatW.PrintMore
set_option linter.unusedVariables false
set_option linter.unusedSimpArgs false
set_option maxHeartbeats 8000000 in
set_option maxRecDepth 100000 in
theorem impl_ChambersOfS.calls (k : Nat) (n : Int) (A : Option Addr) (c : Nat) (l : List (List Int)) (r1 : List S67) (r2 : Bool) (w : World) (hC : Kd.C (Kd.slice 3 (Kd.int .i64)) w A l.length l) (hc : l.length ≤ c) (h : impl_ChambersOf.f k n l = some (r1, r2)) :
    Calls Tryz.prog 12 #[.agg #[.int .i64 n, .slice A l.length c]] w fun e w' => ∃ v0_ : Value, e = .returned (.tuple #[v0_, .bool r2]) ∧ Kd.S k67 67 w' w.heap.size (fun _ => True) v0_ r1 ∧ Below w.heap.size w w' := by
  unfold impl_ChambersOf.f at h
  replace h := Option.bind_eq_some_iff.mp h
  obtain ⟨t, ht, h⟩ := h
  have HC := Aside0.mk hC
  have HT := Aside0.mk ht
  have u1 := Tryz.underlying28
  have u2 := Tryz.underlying61
  have u3 := Tryz.underlying67
  clear hC ht
  cases t
  case false =>
    rw [if_neg (by decide)] at h
    simp only [Option.some.injEq, Prod.mk.injEq] at h
    obtain ⟨rfl, rfl⟩ := h
    go_enter Tryz.func12, Tryz.ntmps12
    go_wp2_with (first
      | ((with_reducible refine gate_dst (N := 1) rfl ?_); refine box_event ?hg (N := 1) ?hd (cs := #[.int .i64 n, .slice A l.length c]) (t := 28) ?hr ?_; (case hd => rfl); (case hg => rfl); (case hr => first | (go_simp; done) | (go_simp; rfl)); intro gb hgb w1 hbox hb1; have HBX := Aside0.mk hbox; have HB1 := Aside0.mk hb1; have z0_ : w1.cell? ⟨gb, 0, none⟩ = some (.int .i64 n) := (blk_cell hbox 0).trans rfl; have z1_ : w1.cell? ⟨gb, 1, none⟩ = some (.slice A l.length c) := (blk_cell hbox 1).trans rfl; have f0_ := blk_frozen hbox 0; have f1_ := blk_frozen hbox 1; clear hbox hb1 hgb)
      | (go_at_call 30; refine (impl_isNeededGame.calls k n A c l false _ (Kd.C_below HC.out HB1.out) hc HT.out).mono ?_; rintro e w2 ⟨rfl, hb⟩; have HB2 := Aside0.mk (HB1.out.trans (hb.mono HB1.out.size)); clear hb z0_ z1_ f0_ f1_))
    go_ret2
    exact ⟨_, by first | rfl | (simp [*] <;> rfl), Kd.S_nil _ _ _ _ _, HB2.out⟩
  rw [if_pos rfl] at h
  replace h := Option.bind_eq_some_iff.mp h
  obtain ⟨⟨m, tb⟩, hv, h⟩ := h
  replace h := Option.bind_eq_some_iff.mp h
  obtain ⟨vs, hch, h⟩ := h
  dsimp only at hch
  have HV := Aside0.mk hv
  have HCH := Aside0.mk hch
  have HH := Aside0.mk h
  clear hv hch h
  go_enter Tryz.func12, Tryz.ntmps12
  go_wp2_with (first
    | ((with_reducible refine gate_dst (N := 1) rfl ?_); refine box_event ?hg (N := 1) ?hd (cs := #[.int .i64 n, .slice A l.length c]) (t := 28) ?hr ?_; (case hd => rfl); (case hg => rfl); (case hr => first | (go_simp; done) | (go_simp; rfl)); intro gb hgb w1 hbox hb1; have HBX := Aside0.mk hbox; have HB1 := Aside0.mk hb1; have z0_ : w1.cell? ⟨gb, 0, none⟩ = some (.int .i64 n) := (blk_cell hbox 0).trans rfl; have z1_ : w1.cell? ⟨gb, 1, none⟩ = some (.slice A l.length c) := (blk_cell hbox 1).trans rfl; have f0_ := blk_frozen hbox 0; have f1_ := blk_frozen hbox 1; clear hbox hb1 hgb)
    | (go_at_call 30; refine (impl_isNeededGame.calls k n A c l true _ (Kd.C_below HC.out HB1.out) hc HT.out).mono ?_; rintro e w2 ⟨rfl, hb⟩; have HB2 := Aside0.mk (HB1.out.trans (hb.mono HB1.out.size)); have HBX2 := Aside0.mk (blk_below HBX.out hb); clear hb z0_ z1_ f0_ f1_ HBX HB1)
    | ((with_reducible refine gate_dst (N := 12) rfl ?_); refine Kd.S_lit k67 _ 67 ?hg (N := 12) ?hd (xs := ([] : List S67)) (inner := []) (ok := fun _ => True) (okp := fun _ => True) ?hr ?hp (fun _ hk => hk) trivial (Below.refl _ _) (Nat.le_refl _) (by simp) ?_; (case hd => rfl); (case hg => rfl); (case hr => first | (go_simp; done) | (go_simp; rfl)); (case hp => exact (Reps.none _ _)); intro v4 w3 ho hb hg_ hnew_; clear hg_ hnew_; have HS3 := Aside0.mk (Kd.S_lower ho HB2.out.size); have HB3 := Aside0.mk (HB2.out.trans (hb.mono HB2.out.size)); have HBX3 := Aside0.mk (blk_below HBX2.out hb); clear ho hb HBX2 HB2; have z0_ : w3.cell? ⟨gb, 0, none⟩ = some (.int .i64 n) := (blk_cell HBX3.out 0).trans rfl; have z1_ : w3.cell? ⟨gb, 1, none⟩ = some (.slice A l.length c) := (blk_cell HBX3.out 1).trans rfl; have f0_ := blk_frozen HBX3.out 0; have f1_ := blk_frozen HBX3.out 1)
    | (go_at_call 31; refine (impl_Game_votes.calls k n A c l m tb _ (Kd.C_below HC.out HB3.out) hc HV.out).mono ?_; rintro e w4 ⟨v5, rfl, hR, hb⟩; obtain ⟨A5, c5, rfl⟩ := Kd.R_slice hR; have HR4 := Aside0.mk (Kd.R_reads' hR); have HS4 := Aside0.mk (Kd.S_below HS3.out hb); have HL4 := Aside0.mk (fun z he => Nat.lt_of_lt_of_le (Kd.S_lt HS3.out z he) hb.size : ∀ z, v4.ownBlock = some z → z < w4.heap.size); have HB4 := Aside0.mk (HB3.out.trans (hb.mono HB3.out.size)); clear hR hb z0_ z1_ f0_ f1_ HS3 HB3 HBX3)
    | (go_at_call 32; refine (impl_votes_chambers.calls k m A5 c5 tb vs _ HR4.out.2.2 HR4.out.2.1 HCH.out).mono ?_; rintro e w5 ⟨v6, rfl, hN, hb⟩; obtain ⟨Ac, cc, rfl⟩ := Kd.V_slice hN; have HF5 := Aside0.mk (Kd.F_mono (Kd.F_bound (Kd.V_F hN)) (ok' := fun z => w4.heap.size ≤ z ∧ z < w5.heap.size) (fun z hz => hz)); have HS5 := Aside0.mk (Kd.S_below HS4.out hb); have HB5 := Aside0.mk (HB4.out.trans (hb.mono HB4.out.size)); clear hN hb HS4 HB4 HR4))
  have hvl : vs.length ≤ 9223372036854775807 := Kd.F_max HF5.out
  go_loopg [4, 17] k (fun kq v4 v17 wr => ∃ (x : List S67) (j : Nat), v17 = .int .i64 j ∧ Aside0 (impl_ChambersOf.l0 kq x vs (vs.length : Int) (j : Int) = some (r1, r2)) ∧ Aside0 (kq ≤ k) ∧ Aside0 (Kd.S k67 67 wr w.heap.size (fun _ => True) v4 x) ∧ Aside0 (Kd.F k61 wr (fun z => w4.heap.size ≤ z ∧ z < w5.heap.size) Ac vs.length vs) ∧ Aside0 (∀ z, v4.ownBlock = some z → z < w4.heap.size ∨ w5.heap.size ≤ z) ∧ Aside0 (Below w.heap.size w wr) ∧ Aside0 (w5.heap.size ≤ wr.heap.size))
  case atStart => exact ⟨[], 0, rfl, HH, ⟨Nat.le_refl _⟩, HS5, HF5, ⟨fun z he => .inl (HL4.out z he)⟩, HB5, ⟨Nat.le_refl _⟩⟩
  case round =>
    clear HH HS5 HF5 HL4 HB5
    obtain ⟨x, j, rfl, HA, HK, HS, HF, HO, HB, HW⟩ := hrel
    cases gk with
    | zero => exact absurd HA.out (by simp [impl_ChambersOf.l0])
    | succ k1 =>
      have h := HA.out
      clear HA
      simp only [impl_ChambersOf.l0] at h
      by_cases hlt : j < vs.length
      · have hltz : (j : Int) < (vs.length : Int) := Int.ofNat_lt.2 hlt
        have hltb : decide ((j : Int) < (vs.length : Int)) = true := decide_eq_true hltz
        have hw1 : wrap64 ((j : Int) + 1) = ((j + 1 : Nat) : Int) := by unfold wrap64; omega
        rw [if_pos hltz, if_pos (Int.natCast_nonneg _), if_pos hltz, hw1] at h
        have hrd : rd_T61 vs (j : Int) = vs.getD j z61 := by unfold rd_T61; rw [Int.toNat_natCast]
        rw [hrd] at h
        replace h := Option.bind_eq_some_iff.mp h
        obtain ⟨⟨q1, q2, q3⟩, hq, h⟩ := h
        dsimp only at h
        by_cases cl : x.length < 4398046511104
        case neg => rw [if_neg cl] at h; cases h
        rw [if_pos cl] at h
        obtain ⟨ad, cs, e, hcl, hK, hcc, _⟩ := Kd.F_get HF.out z61 (j : Int) (Int.natCast_nonneg _) hltz
        subst e
        rw [Int.toNat_natCast] at hK hcc
        generalize vs.getD j z61 = g at hK hq
        obtain ⟨A0, c0, rfl, hl0, hgF⟩ := k61_openF hK
        have x0 : wr.cell? (ad.add (j * 2)) = some (.int .i64 g.f0) := hcc 0 _ rfl
        have x1 : wr.cell? ⟨(ad.add (j * 2)).block, (ad.add (j * 2)).off + 1, none⟩ = some (.slice A0 g.f1.length c0) := by rw [← add_field _ _ 1 (by omega)]; exact hcc 1 _ rfl
        have HQ := Aside0.mk hq
        have HH := Aside0.mk h
        have HGC := Aside0.mk (Kd.C_alloc (Kd.F_now hgF) (.cells #[.int .i64 g.f0, .slice A0 g.f1.length c0] 61))
        have hnew := blk_new wr (.cells #[.int .i64 g.f0, .slice A0 g.f1.length c0] 61)
        have y0 := (blk_cell hnew 0).trans rfl
        have y1 := (blk_cell hnew 1).trans rfl
        have HBa := Aside0.mk ((Below.refl wr.heap.size wr).alloc (Nat.le_refl _) (.cells #[.int .i64 g.f0, .slice A0 g.f1.length c0] 61))
        have CL := Aside0.mk cl
        clear hK hcc hcl hq h hgF hnew cl
        go_wp2_with (first
          | (go_at_call 35; refine (impl_votes_found.calls k1 g.f0 A0 c0 g.f1 q1 q2 q3 _ HGC.out hl0 HQ.out).mono ?_; rintro e w6 ⟨v7, rfl, hR, hb⟩; obtain ⟨A7, c7, rfl⟩ := Kd.R_slice hR; have HR6 := Aside0.mk (Kd.R_bound hR); have HB6 := Aside0.mk (HBa.out.trans (hb.mono HBa.out.size)); have HA6 := Aside0.mk hb.size; clear hR hb x0 x1 y0 y1)
          | ((with_reducible refine gate_dst (N := 7) rfl ?_); refine box_event ?hg (N := 7) ?hd (cs := #[.int .i64 0, .slice none 0 0]) (t := 67) ?hr ?_; (case hd => rfl); (case hg => rfl); (case hr => first | (go_simp; done) | (go_simp; rfl)); intro g7 hg7 w7 hbox hb; have HX7 := Aside0.mk hbox; have HG7 := Aside0.mk (Nat.le_of_eq hg7.symm : w6.heap.size ≤ g7); have HB7 := Aside0.mk (HB6.out.trans (hb.mono HB6.out.size)); have HR7 := Aside0.mk (Kd.R_below HR6.out hb); have z0_ : w7.cell? ⟨g7, 0, none⟩ = some (.int .i64 0) := (blk_cell hbox 0).trans rfl; have z1_ : w7.cell? ⟨g7, 1, none⟩ = some (.slice none 0 0) := (blk_cell hbox 1).trans rfl; have f0_ := blk_frozen hbox 0; have f1_ := blk_frozen hbox 1; clear hbox hb hg7)
          | ((with_reducible refine gate_store (t := 67) (p := 7) rfl ?_); refine store_event (t := 67) (p := 7) (v := ?vo) (w1 := ((w7.setCell ⟨g7, 0, none⟩ (.int .i64 q1)).setCell ⟨g7, 1, none⟩ (.slice A7 q2.length c7))) ?hg ?ho ?hn ?hr ?_; (case ho => rfl); (case hg => rfl); (case hn => rfl); (case hr => first | (go_simp; done) | (go_simp; rfl)); intro w9 hw; have HX9 : Aside0 (w9.heap[g7]? = some (.cells #[.int .i64 q1, .slice A7 q2.length c7] 67 (0, 0))) := ⟨by rw [hw]; exact blk_put (blk_put HX7.out 0 _ rfl) 1 _ rfl⟩; have HB9 : Aside0 (Below wr.heap.size wr w9) := ⟨by rw [hw]; exact below_set (below_set HB7.out (Nat.le_trans HB6.out.size HG7.out)) (Nat.le_trans HB6.out.size HG7.out)⟩; have HR9 : Aside0 (Kd.R (Kd.int .i64) 3 w9 (wr.alloc (.cells #[.int .i64 g.f0, .slice A0 g.f1.length c0] 61)).heap.size (fun z => wr.heap.size ≤ z) (.slice A7 q2.length c7) q2) := ⟨by rw [hw]; exact Kd.R_mono (Kd.R_far (p := ⟨g7, 1, none⟩) (Kd.R_far (p := ⟨g7, 0, none⟩) HR7.out (fun z hz => Nat.ne_of_lt (Nat.lt_of_lt_of_le hz.2.2.1 HG7.out)) _) (fun z hz => Nat.ne_of_lt (Nat.lt_of_lt_of_le hz.2.2.1 HG7.out)) _) (fun z hz => Nat.le_trans HBa.out.size hz.2.1)⟩; clear hw z0_ z1_ f0_ f1_; have z0_ : w9.cell? ⟨g7, 0, none⟩ = some (.int .i64 q1) := (blk_cell HX9.out 0).trans rfl; have z1_ : w9.cell? ⟨g7, 1, none⟩ = some (.slice A7 q2.length c7) := (blk_cell HX9.out 1).trans rfl)
          | ((with_reducible refine gate_builtin (b := .append) (xs := #[.tmp 26, .tmp 28]) rfl ?_); at_builtin; refine Kd.S_append k67 (w0 := wr) w.heap.size rfl (.tmp 26) (.tmp 28) 32 67 (.agg #[(.int .i64 0), (.slice none 0 0)]) 32 rfl Tryz.underlying32 info67 rfl (by decide) (by omega) u4 x ⟨q1, q2⟩ [.int .i64 q1, .slice A7 q2.length c7] (fun _ => True) (fun z => wr.heap.size ≤ z) rfl rfl (k67_mkM _ _ _ ⟨q1, q2⟩ (Kd.R_lower HR9.out (Nat.le_trans HB.out.size HBa.out.size))) (fun z hz => ⟨trivial, fun he => by have := Kd.S_lt HS.out z he.symm; exact absurd hz (Nat.not_le.2 this)⟩) (fun _ _ => trivial) (Kd.S_mono (Kd.S_below (Kd.S_bound HS.out) HB9.out) (fun z hz => ⟨trivial, Nat.not_le.2 hz.2.2.1⟩)) (HB9.out.mono HB.out.size) (Nat.le_trans HB.out.size HB9.out.size) (by have := CL.out; omega) ?_; intro v8 w8 ho hb hg hat; have HS8 := Aside0.mk ho; have HB8 := Aside0.mk hb; have HG8 := Aside0.mk hg; have HAT := Aside0.mk hat; clear ho hb hg hat))
        have HF8 := Aside0.mk (Kd.F_step HF.out (W1 := w8) (fun z hz hlt => by
          have h1 := HG8.out.block z (Nat.lt_of_lt_of_le hlt HB9.out.size) (fun he => by rcases HO.out z he.symm with h | h <;> omega)
          rw [h1]; exact HB9.out.block z hlt))
        have HO8 := Aside0.mk (show ∀ z, v8.ownBlock = some z → z < w4.heap.size ∨ w5.heap.size ≤ z from fun z he => by
          rcases HAT.out with h | ⟨b, h, hle⟩
          · exact HO.out z (h ▸ he)
          · rw [h] at he; injection he with he; have := HB9.out.size; have := HW.out; right; omega)
        go_roundg k1
        case measure => have := HK.out; omega
        case rel => exact ⟨x ++ [⟨q1, q2⟩], j + 1, by congr 1, HH, zO HK, HS8, HF8, HO8, ⟨HB.out.trans HB8.out⟩, ⟨by have := HW.out; have := HB8.out.size; omega⟩⟩
      · have hltz : ¬ (j : Int) < (vs.length : Int) := fun e => hlt (Int.ofNat_lt.1 e)
        rw [if_neg hltz] at h
        have hltb : decide ((j : Int) < (vs.length : Int)) = false := decide_eq_false hltz
        simp only [Option.some.injEq, Prod.mk.injEq] at h
        obtain ⟨rfl, rfl⟩ := h
        go_wp2
        go_ret2
        exact ⟨_, by first | rfl | (simp [*] <;> rfl), HS.out, HB.out⟩
end Go.Proofs.YtmbkmabpebjboaaGreat.Q
end
section
namespace Go.Proofs.YtmbkmabpebjboaaGreat.Q
open Go.RowKit Go.Proofs.YtmbkmabpebjboaaGreatW.PrintWords Go.Proofs.YtmbkmabpebjboaaGreatW.PrintLast Go.Proofs.YtmbkmabpebjboaaGreatW.PrintMore
attribute [local go_sem] max2_int min2_int max_two min_two max_three min_three max_four min_four
set_option linter.unusedVariables false
set_option linter.unusedSimpArgs false
def laws_eqCommitteeS.l0 : Nat → List (S67) → List (S67) → Int → Option (Bool)
 | 0, _, _, _ => none
 | k + 1, x0, x1, x5 => if x5 < (x0.length : Int) then (if 0 ≤ x5 then (if x5 < (x1.length : Int) then ((laws_eqCommittee.f k ((rd_T67 x0 x5).f0) ((rd_T67 x0 x5).f1) ((rd_T67 x1 x5).f0) ((rd_T67 x1 x5).f1)).bind fun t568 => (if t568 = true then (laws_eqCommitteeS.l0 k x0 x1 (wrap64 (x5 + 1))) else (some false))) else (none)) else (none)) else (some true)
def laws_eqCommitteeS.f (k : Nat) (l0 : List (S67)) (l1 : List (S67)) : Option (Bool) := if (l0.length : Int) = (l1.length : Int) then (laws_eqCommitteeS.l0 k l0 l1 0) else (some false)
def laws_eqCommitteeS.T6 : Bool × List (List Nat × List Nat) := (true, [([], []), ([], []), ([0, 1], [0, 1]), ([2], [2]), ([], []), ([], []), ([4, 5], [4, 5]), ([6], [6]), ([3, 7], [3, 7]), ([8], [8])])
def laws_eqCommitteeS.B6 : List Nat := [0, 0, 3, 7, 0, 0, 48, 112, 255, 511]
theorem laws_eqCommitteeS.tab6 : rtab .any (opsOf Tryz.f13 6) = laws_eqCommitteeS.T6 := by kernel_rfl
theorem laws_eqCommitteeS.bits6 : waitsOk laws_eqCommitteeS.T6.2 laws_eqCommitteeS.B6 = true := by kernel_rfl
set_option maxHeartbeats 8000000 in
set_option maxRecDepth 100000 in
theorem laws_eqCommitteeS.calls (k : Nat) (A0 : Option Addr) (c0 : Nat) (l0 : List (S67)) (A1 : Option Addr) (c1 : Nat) (l1 : List (S67)) (r : Bool) (w : World) (hr0 : Kd.C k67 w A0 l0.length l0) (hc0 : l0.length ≤ c0) (hr1 : Kd.C k67 w A1 l1.length l1) (hc1 : l1.length ≤ c1) (h : laws_eqCommitteeS.f k l0 l1 = some r) :
  Calls Tryz.prog 13 #[.slice A0 l0.length c0, .slice A1 l1.length c1] w fun e w' => e = .returned (.bool r) ∧ Below w.heap.size w w' := by
 have hu67 := Tryz.underlying67
 have HR0 := Aside0.mk hr0
 have HC0 := Aside0.mk hc0
 clear hr0 hc0
 have HR1 := Aside0.mk hr1
 have HC1 := Aside0.mk hc1
 clear hr1 hc1
 have HB := Aside0.mk (Below.refl w.heap.size w)
 have H : (if (l0.length : Int) = (l1.length : Int) then (laws_eqCommitteeS.l0 k l0 l1 0) else (some false)) = some r := h
 clear h
 by_cases c3 : (l0.length : Int) = (l1.length : Int)
 rotate_left
 ·rw [if_neg c3] at H
  have c3b0 := beq_eq_false_iff_ne.mpr c3
  have c3b1 := bne_iff_ne.mpr c3
  have c3b2 : (l0.length == l1.length) = false := by first | simpa using c3 | (simp at c3 ⊢; omega)
  obtain rfl := Option.some.inj H
  go_enter Tryz.func13, Tryz.ntmps13
  go_wp2
  go_ret
  exact ⟨by first | rfl | (simp [*, errW_none, errW_some] <;> rfl), zh HB.out⟩
 rw [if_pos c3] at H
 have c3b0 := beq_iff_eq.mpr c3
 have c3b1 := bne_eq_false_iff_eq.mpr c3
 have c3b2 : (l0.length == l1.length) = true := by first | simpa using c3 | (simp at c3 ⊢; omega)
 clear c3
 have H' := Aside0.mk H
 clear H
 go_enter Tryz.func13, Tryz.ntmps13
 go_wp2
 go_loopg [5] k (fun kq v5 w' => ∃ (x5_1 : Int), v5 = .int .i64 x5_1 ∧ Aside0 (laws_eqCommitteeS.l0 kq l0 l1 x5_1 = some r) ∧ Aside0 (kq ≤ k) ∧ Aside0 (Below w.heap.size w w'))
 case atStart => exact ⟨(0), zE, H', ⟨Nat.le_refl _⟩, ⟨zh HB.out⟩⟩
 case round =>
  clear H'
  try clear c1
  try clear p2
  try clear c3
  try clear c3b0
  try clear c3b1
  try clear c3b2
  obtain ⟨x5_1, rfl, HA, HK1, HB⟩ := hrel
  cases gk with
  | zero => exact absurd HA.out (by simp [laws_eqCommitteeS.l0])
  | succ k1 =>
   have H := HA.out
   clear HA
   simp only [laws_eqCommitteeS.l0] at H
   by_cases c4 : x5_1 < (l0.length : Int)
   rotate_left
   ·rw [if_neg c4] at H
    have c4b0 := decide_eq_false c4
    clear c4
    obtain rfl := Option.some.inj H
    go_wp2
    go_ret
    exact ⟨by first | rfl | (simp [*, errW_none, errW_some] <;> rfl), zh HB.out⟩
   rw [if_pos c4] at H
   have c4b0 := decide_eq_true c4
   clear c4
   by_cases c5 : 0 ≤ x5_1
   rotate_left
   ·rw [if_neg c5] at H
    cases H
   rw [if_pos c5] at H
   have c5b0 := decide_eq_true c5
   clear c5
   by_cases c6 : x5_1 < (l1.length : Int)
   rotate_left
   ·rw [if_neg c6] at H
    cases H
   rw [if_pos c6] at H
   have c6b0 := decide_eq_true c6
   clear c6
   replace H := Option.bind_eq_some_iff.mp H
   obtain ⟨t568, A70, H⟩ := H
   have A7 := Aside0.mk A70
   clear A70
   by_cases c8 : t568 = true
   rotate_left
   ·replace c8 := Bool.eq_false_iff.mpr c8
    subst c8
    rw [if_neg zF] at H
    obtain rfl := Option.some.inj H
    try go_wp2
    have n0_ := Aside0.mk (below_drew1 HB.out)
    clear HB
    have HB := n0_
    clear n0_
    obtain ⟨⟨ad566, A566_1, c566_1, e566, hx566_0, hx566_1, hl566_1, hi566_1⟩, p566, q566⟩ := zW (at_T67 HR0.out x5_1)
    have hw566_1 := hx566_1
    have hw566_0 := hx566_0
    cases e566
    replace hx566_0 := zx HB.out hx566_0
    replace hx566_1 := zx HB.out hx566_1
    have HR566_1 := Aside0.mk hi566_1
    have HC566_1 := Aside0.mk hl566_1
    clear hi566_1 hl566_1
    obtain ⟨⟨ad567, A567_1, c567_1, e567, hx567_0, hx567_1, hl567_1, hi567_1⟩, p567, q567⟩ := zW (at_T67 HR1.out x5_1)
    have hw567_1 := hx567_1
    have hw567_0 := hx567_0
    cases e567
    replace hx567_0 := zx HB.out hx567_0
    replace hx567_1 := zx HB.out hx567_1
    have HR567_1 := Aside0.mk hi567_1
    have HC567_1 := Aside0.mk hl567_1
    clear hi567_1 hl567_1
    refine start_ (n := 10) (S := fun w' => w'.cell? (ad566.add ((x5_1).toNat * 2)) = some (.int .i64 ((rd_T67 l0 x5_1).f0)) ∧ w'.cell? ⟨(ad566.add ((x5_1).toNat * 2)).block, (ad566.add ((x5_1).toNat * 2)).off + 1, none⟩ = some (.slice A566_1 ((rd_T67 l0 x5_1).f1).length c566_1) ∧ w'.cell? (ad567.add ((x5_1).toNat * 2)) = some (.int .i64 ((rd_T67 l1 x5_1).f0)) ∧ w'.cell? ⟨(ad567.add ((x5_1).toNat * 2)).block, (ad567.add ((x5_1).toNat * 2)).off + 1, none⟩ = some (.slice A567_1 ((rd_T67 l1 x5_1).f1).length c567_1)) (ds := []) (tb 10 0) (by kernel_rfl) rfl rfl ⟨((HB.out.cell (World.block_lt_of_cell? w _ hw566_0)).trans hw566_0), ((HB.out.cell (World.block_lt_of_cell? w _ hw566_1)).trans hw566_1), ((HB.out.cell (World.block_lt_of_cell? w _ hw567_0)).trans hw567_0), ((HB.out.cell (World.block_lt_of_cell? w _ hw567_1)).trans hw567_1)⟩ (fun hHeld => ?_); refine with_tabW laws_eqCommitteeS.tab6 laws_eqCommitteeS.bits6 (fun HT_ HW_ => ?_)
    generalize wr.drew = w11 at HB HR566_1 HR567_1 hx566_0 hx566_1 hx567_0 hx567_1 hHeld ⊢
    refine zu (i := 0) (N := some 17) (tb 10 1) rfl rfl HT_ ?_
    refine zu (i := 1) (N := some 18) (tb 10 3) rfl rfl HT_ ?_
    refine zu (i := 2) (N := some 19) (tb 10 7) rfl rfl HT_ ?_
    refine zu (i := 4) (N := some 21) (tb 10 23) rfl rfl HT_ ?_
    refine zu (i := 5) (N := some 22) (tb 10 55) rfl rfl HT_ ?_
    refine zu (i := 6) (N := some 23) (tb 10 119) rfl rfl HT_ ?_
    refine zt (i := 3) (N := some 20) (tb 10 127) rfl rfl (take_ofW HT_.out HW_.out (by kernel_rfl)) hHeld ?_
    refine zt (i := 7) (N := some 24) (tb 10 255) rfl rfl (take_ofW HT_.out HW_.out (by kernel_rfl)) hHeld ?_
    refine one_ (i := 8) (N := some 25) (tb 10 511) rfl rfl (one_of HT_.out (by kernel_rfl)) (by decide) (fun K hK => ?_)
    refine goes_ Tryz.func36 (by kernel_rfl) rfl #[.agg #[.int .i64 ((rd_T67 l0 x5_1).f0), .slice A566_1 ((rd_T67 l0 x5_1).f1).length c566_1], .agg #[.int .i64 ((rd_T67 l1 x5_1).f0), .slice A567_1 ((rd_T67 l1 x5_1).f1).length c567_1]] (by rfl) rfl rfl (by (try simp only [List.map_toArray, List.map_cons, List.map_nil]); first | done | rfl | (simp only [List.length_drop, List.length_take]; rfl)) ?_
    with_reducible refine (laws_eqCommittee.calls k1 ((rd_T67 l0 x5_1).f0) _ _ ((rd_T67 l0 x5_1).f1) ((rd_T67 l1 x5_1).f0) _ _ ((rd_T67 l1 x5_1).f1) false _ ?side1 ?side2 ?side3 ?side4 A7.out).mono ?_
    (case side1 => repeat (first | exact (Kd.C_below HR566_1.out HB.out) | (with_reducible refine Kd.C_alloc ?_ _) | (with_reducible refine Kd.C_drewN ?_ _) | (with_reducible refine Kd.C_drew ?_)))
    (case side2 => exact HC566_1.out)
    (case side3 => repeat (first | exact (Kd.C_below HR567_1.out HB.out) | (with_reducible refine Kd.C_alloc ?_ _) | (with_reducible refine Kd.C_drewN ?_ _) | (with_reducible refine Kd.C_drew ?_)))
    (case side4 => exact HC567_1.out)
    rintro e w12 ⟨rfl, hb⟩
    refine ⟨_, rfl, ?_⟩
    have n0_ := Aside0.mk (below_step (zh HB.out) hb)
    clear HB
    have HB := n0_
    clear n0_
    (try clear hb)
    (try clear hb2)
    (try clear hk)
    (try clear hi)
    refine hK.out _ _ ⟨((HB.out.cell (World.block_lt_of_cell? w _ hw566_0)).trans hw566_0), ((HB.out.cell (World.block_lt_of_cell? w _ hw566_1)).trans hw566_1), ((HB.out.cell (World.block_lt_of_cell? w _ hw567_0)).trans hw567_0), ((HB.out.cell (World.block_lt_of_cell? w _ hw567_1)).trans hw567_1)⟩ (fun hHeld => ?_)
    clear hK K
    refine zn1 ?_
    refine zu (i := 9) (N := some 26) (tb 10 1023) rfl rfl HT_ ?_
    refine done_ (done_of HT_.out (by kernel_rfl)) ?_
    try go_wp2
    go_ret
    exact ⟨by first | rfl | (simp [*, errW_none, errW_some] <;> rfl), zh HB.out⟩
   subst c8
   rw [if_pos rfl] at H
   have H' := Aside0.mk H
   clear H
   try go_wp2
   have n0_ := Aside0.mk (below_drew1 HB.out)
   clear HB
   have HB := n0_
   clear n0_
   obtain ⟨⟨ad566, A566_1, c566_1, e566, hx566_0, hx566_1, hl566_1, hi566_1⟩, p566, q566⟩ := zW (at_T67 HR0.out x5_1)
   have hw566_1 := hx566_1
   have hw566_0 := hx566_0
   cases e566
   replace hx566_0 := zx HB.out hx566_0
   replace hx566_1 := zx HB.out hx566_1
   have HR566_1 := Aside0.mk hi566_1
   have HC566_1 := Aside0.mk hl566_1
   clear hi566_1 hl566_1
   obtain ⟨⟨ad567, A567_1, c567_1, e567, hx567_0, hx567_1, hl567_1, hi567_1⟩, p567, q567⟩ := zW (at_T67 HR1.out x5_1)
   have hw567_1 := hx567_1
   have hw567_0 := hx567_0
   cases e567
   replace hx567_0 := zx HB.out hx567_0
   replace hx567_1 := zx HB.out hx567_1
   have HR567_1 := Aside0.mk hi567_1
   have HC567_1 := Aside0.mk hl567_1
   clear hi567_1 hl567_1
   refine start_ (n := 10) (S := fun w' => w'.cell? (ad566.add ((x5_1).toNat * 2)) = some (.int .i64 ((rd_T67 l0 x5_1).f0)) ∧ w'.cell? ⟨(ad566.add ((x5_1).toNat * 2)).block, (ad566.add ((x5_1).toNat * 2)).off + 1, none⟩ = some (.slice A566_1 ((rd_T67 l0 x5_1).f1).length c566_1) ∧ w'.cell? (ad567.add ((x5_1).toNat * 2)) = some (.int .i64 ((rd_T67 l1 x5_1).f0)) ∧ w'.cell? ⟨(ad567.add ((x5_1).toNat * 2)).block, (ad567.add ((x5_1).toNat * 2)).off + 1, none⟩ = some (.slice A567_1 ((rd_T67 l1 x5_1).f1).length c567_1)) (ds := []) (tb 10 0) (by kernel_rfl) rfl rfl ⟨((HB.out.cell (World.block_lt_of_cell? w _ hw566_0)).trans hw566_0), ((HB.out.cell (World.block_lt_of_cell? w _ hw566_1)).trans hw566_1), ((HB.out.cell (World.block_lt_of_cell? w _ hw567_0)).trans hw567_0), ((HB.out.cell (World.block_lt_of_cell? w _ hw567_1)).trans hw567_1)⟩ (fun hHeld => ?_); refine with_tabW laws_eqCommitteeS.tab6 laws_eqCommitteeS.bits6 (fun HT_ HW_ => ?_)
   generalize wr.drew = w9 at HB HR566_1 HR567_1 hx566_0 hx566_1 hx567_0 hx567_1 hHeld ⊢
   refine zu (i := 0) (N := some 17) (tb 10 1) rfl rfl HT_ ?_
   refine zu (i := 1) (N := some 18) (tb 10 3) rfl rfl HT_ ?_
   refine zu (i := 2) (N := some 19) (tb 10 7) rfl rfl HT_ ?_
   refine zu (i := 4) (N := some 21) (tb 10 23) rfl rfl HT_ ?_
   refine zu (i := 5) (N := some 22) (tb 10 55) rfl rfl HT_ ?_
   refine zu (i := 6) (N := some 23) (tb 10 119) rfl rfl HT_ ?_
   refine zt (i := 3) (N := some 20) (tb 10 127) rfl rfl (take_ofW HT_.out HW_.out (by kernel_rfl)) hHeld ?_
   refine zt (i := 7) (N := some 24) (tb 10 255) rfl rfl (take_ofW HT_.out HW_.out (by kernel_rfl)) hHeld ?_
   refine one_ (i := 8) (N := some 25) (tb 10 511) rfl rfl (one_of HT_.out (by kernel_rfl)) (by decide) (fun K hK => ?_)
   refine goes_ Tryz.func36 (by kernel_rfl) rfl #[.agg #[.int .i64 ((rd_T67 l0 x5_1).f0), .slice A566_1 ((rd_T67 l0 x5_1).f1).length c566_1], .agg #[.int .i64 ((rd_T67 l1 x5_1).f0), .slice A567_1 ((rd_T67 l1 x5_1).f1).length c567_1]] (by rfl) rfl rfl (by (try simp only [List.map_toArray, List.map_cons, List.map_nil]); first | done | rfl | (simp only [List.length_drop, List.length_take]; rfl)) ?_
   with_reducible refine (laws_eqCommittee.calls k1 ((rd_T67 l0 x5_1).f0) _ _ ((rd_T67 l0 x5_1).f1) ((rd_T67 l1 x5_1).f0) _ _ ((rd_T67 l1 x5_1).f1) true _ ?side1 ?side2 ?side3 ?side4 A7.out).mono ?_
   (case side1 => repeat (first | exact (Kd.C_below HR566_1.out HB.out) | (with_reducible refine Kd.C_alloc ?_ _) | (with_reducible refine Kd.C_drewN ?_ _) | (with_reducible refine Kd.C_drew ?_)))
   (case side2 => exact HC566_1.out)
   (case side3 => repeat (first | exact (Kd.C_below HR567_1.out HB.out) | (with_reducible refine Kd.C_alloc ?_ _) | (with_reducible refine Kd.C_drewN ?_ _) | (with_reducible refine Kd.C_drew ?_)))
   (case side4 => exact HC567_1.out)
   rintro e w10 ⟨rfl, hb⟩
   refine ⟨_, rfl, ?_⟩
   have n0_ := Aside0.mk (below_step (zh HB.out) hb)
   clear HB
   have HB := n0_
   clear n0_
   (try clear hb)
   (try clear hb2)
   (try clear hk)
   (try clear hi)
   refine hK.out _ _ ⟨((HB.out.cell (World.block_lt_of_cell? w _ hw566_0)).trans hw566_0), ((HB.out.cell (World.block_lt_of_cell? w _ hw566_1)).trans hw566_1), ((HB.out.cell (World.block_lt_of_cell? w _ hw567_0)).trans hw567_0), ((HB.out.cell (World.block_lt_of_cell? w _ hw567_1)).trans hw567_1)⟩ (fun hHeld => ?_)
   clear hK K
   refine zn1 ?_
   refine zu (i := 9) (N := some 26) (tb 10 1023) rfl rfl HT_ ?_
   refine done_ (done_of HT_.out (by kernel_rfl)) ?_
   try go_wp2
   go_roundg k1
   case measure => have := HK1.out; omega
   case rel => exact ⟨(wrap64 (x5_1 + 1)), zE, H', zO HK1, ⟨zh HB.out⟩⟩
def laws_heldCommitteeS.l0 : Nat → List (S67) → Int → Int → Option (Int)
 | 0, _, _, _ => none
 | k + 1, x0, x1, x5 => if x5 < (x0.length : Int) then (if 0 ≤ x5 then (if ((rd_T67 x0 x5).f0) = x1 then ((laws_heldIntS.f k ((rd_T67 x0 x5).f1) (wrap64 (x1 + 1))).bind fun t575 => (if t575 < 0 then (some (-1)) else (laws_heldCommitteeS.l0 k x0 t575 (wrap64 (x5 + 1))))) else (some (-1))) else (none)) else (some x1)
def laws_heldCommitteeS.f (k : Nat) (l0 : List (S67)) (a1 : Int) : Option (Int) := laws_heldCommitteeS.l0 k l0 a1 0
set_option maxHeartbeats 8000000 in
set_option maxRecDepth 100000 in
theorem laws_heldCommitteeS.calls (k : Nat) (A0 : Option Addr) (c0 : Nat) (l0 : List (S67)) (a1 : Int) (r : Int) (w : World) (hr0 : Kd.C k67 w A0 l0.length l0) (hc0 : l0.length ≤ c0) (h : laws_heldCommitteeS.f k l0 a1 = some r) :
  Calls Tryz.prog 16 #[.slice A0 l0.length c0, .int .i64 a1] w fun e w' => e = .returned (.int .i64 r) ∧ Drawn0 w w' := by
 have HR0 := Aside0.mk hr0
 have HC0 := Aside0.mk hc0
 clear hr0 hc0
 have H : (laws_heldCommitteeS.l0 k l0 a1 0) = some r := h
 clear h
 have H' := Aside0.mk H
 clear H
 go_enter Tryz.func16, Tryz.ntmps16
 go_wp2
 go_loopg [1, 5] k (fun kq v1 v5 w' => ∃ (x1_1 : Int) (x5_1 : Int), v1 = .int .i64 x1_1 ∧ v5 = .int .i64 x5_1 ∧ Aside0 (laws_heldCommitteeS.l0 kq l0 x1_1 x5_1 = some r) ∧ Aside0 (kq ≤ k) ∧ Drawn0 w w')
 case atStart => exact ⟨(a1), (0), zE, zE, H', ⟨Nat.le_refl _⟩, zD⟩
 case round =>
  clear H'
  try clear c1
  try clear p2
  obtain ⟨x1_1, x5_1, rfl, rfl, HA, HK1, ⟨m1, rfl⟩⟩ := hrel
  cases gk with
  | zero => exact absurd HA.out (by simp [laws_heldCommitteeS.l0])
  | succ k1 =>
   have H := HA.out
   clear HA
   simp only [laws_heldCommitteeS.l0] at H
   by_cases c3 : x5_1 < (l0.length : Int)
   rotate_left
   ·rw [if_neg c3] at H
    have c3b0 := decide_eq_false c3
    clear c3
    obtain rfl := Option.some.inj H
    go_wp2
    go_ret
    exact za1
   rw [if_pos c3] at H
   have c3b0 := decide_eq_true c3
   clear c3
   by_cases c4 : 0 ≤ x5_1
   rotate_left
   ·rw [if_neg c4] at H
    cases H
   rw [if_pos c4] at H
   have c4b0 := decide_eq_true c4
   clear c4
   by_cases c5 : ((rd_T67 l0 x5_1).f0) = x1_1
   rotate_left
   ·rw [if_neg c5] at H
    have c5b0 := beq_eq_false_iff_ne.mpr c5
    have c5b1 := bne_iff_ne.mpr c5
    obtain rfl := Option.some.inj H
    obtain ⟨⟨ad573, A573_1, c573_1, e573, hx573_0, hx573_1, hl573_1, hi573_1⟩, p573, q573⟩ := zW (at_T67 HR0.out x5_1)
    cases e573
    have HR573_1 := Aside0.mk hi573_1
    have HC573_1 := Aside0.mk hl573_1
    clear hi573_1 hl573_1
    go_wp2
    go_ret
    exact za1
   rw [if_pos c5] at H
   have c5b0 := beq_iff_eq.mpr c5
   have c5b1 := bne_eq_false_iff_eq.mpr c5
   clear c5
   replace H := Option.bind_eq_some_iff.mp H
   obtain ⟨t575, A60, H⟩ := H
   have A6 := Aside0.mk A60
   clear A60
   by_cases c7 : t575 < 0
   ·rw [if_pos c7] at H
    have c7b0 := decide_eq_true c7
    clear c7
    obtain rfl := Option.some.inj H
    obtain ⟨⟨ad573, A573_1, c573_1, e573, hx573_0, hx573_1, hl573_1, hi573_1⟩, p573, q573⟩ := zW (at_T67 HR0.out x5_1)
    cases e573
    have HR573_1 := Aside0.mk hi573_1
    have HC573_1 := Aside0.mk hl573_1
    clear hi573_1 hl573_1
    obtain ⟨⟨ad574, A574_1, c574_1, e574, hx574_0, hx574_1, hl574_1, hi574_1⟩, p574, q574⟩ := zW (at_T67 HR0.out x5_1)
    obtain rfl : ad573 = ad574 := (by injection e574)
    have HR574_1 := Aside0.mk hi574_1
    have HC574_1 := Aside0.mk hl574_1
    clear hi574_1 hl574_1
    have ea_ := Option.some.inj (hx573_1.symm.trans hx574_1)
    injection ea_ with ea_ en_ ec_
    subst ea_
    subst ec_
    clear en_
    go_wp2_with (first | ((with_reducible refine gate_callee (f := 39) rfl ?_); refine zl 27 Tryz.func39 #[.slice A573_1 ((rd_T67 l0 x5_1).f1).length c573_1, .int .i64 (wrap64 (x1_1 + 1))] ?_; (with_reducible refine (laws_heldIntS.calls k1 _ _ ((rd_T67 l0 x5_1).f1) (wrap64 (x1_1 + 1)) t575 _ ?side1 ?side2 A6.out).mono ?_); (case side1 => exact zQ HR574_1.out); (case side2 => exact HC574_1.out); rintro e w' ⟨rfl, ⟨nd, rfl⟩⟩; refine ⟨_, rfl, ?_⟩))
    go_ret
    exact za1
   rw [if_neg c7] at H
   have c7b0 := decide_eq_false c7
   clear c7
   have H' := Aside0.mk H
   clear H
   obtain ⟨⟨ad573, A573_1, c573_1, e573, hx573_0, hx573_1, hl573_1, hi573_1⟩, p573, q573⟩ := zW (at_T67 HR0.out x5_1)
   cases e573
   have HR573_1 := Aside0.mk hi573_1
   have HC573_1 := Aside0.mk hl573_1
   clear hi573_1 hl573_1
   obtain ⟨⟨ad574, A574_1, c574_1, e574, hx574_0, hx574_1, hl574_1, hi574_1⟩, p574, q574⟩ := zW (at_T67 HR0.out x5_1)
   obtain rfl : ad573 = ad574 := (by injection e574)
   have HR574_1 := Aside0.mk hi574_1
   have HC574_1 := Aside0.mk hl574_1
   clear hi574_1 hl574_1
   have ea_ := Option.some.inj (hx573_1.symm.trans hx574_1)
   injection ea_ with ea_ en_ ec_
   subst ea_
   subst ec_
   clear en_
   go_wp2_with (first | ((with_reducible refine gate_callee (f := 39) rfl ?_); refine zl 27 Tryz.func39 #[.slice A573_1 ((rd_T67 l0 x5_1).f1).length c573_1, .int .i64 (wrap64 (x1_1 + 1))] ?_; (with_reducible refine (laws_heldIntS.calls k1 _ _ ((rd_T67 l0 x5_1).f1) (wrap64 (x1_1 + 1)) t575 _ ?side1 ?side2 A6.out).mono ?_); (case side1 => exact zQ HR574_1.out); (case side2 => exact HC574_1.out); rintro e w' ⟨rfl, ⟨nd, rfl⟩⟩; refine ⟨_, rfl, ?_⟩))
   go_roundg k1
   case measure => have := HK1.out; omega
   case rel => exact ⟨(t575), (wrap64 (x5_1 + 1)), zE, zE, H', zO HK1, zD⟩
end Go.Proofs.YtmbkmabpebjboaaGreat.Q
end
section
namespace Go.Proofs.YtmbkmabpebjboaaGreat.Q
open Go.RowKit Go.Proofs.YtmbkmabpebjboaaGreatW.PrintWords Go.Proofs.YtmbkmabpebjboaaGreatW.PrintLast Go.Proofs.YtmbkmabpebjboaaGreatW.PrintMore
set_option linter.unusedVariables false
set_option linter.unusedSimpArgs false
theorem coHeld (k : Nat) {B : Option Addr} {d n : Nat} {y : List S67} (q : Int) (W : World) (h : n = y.length ∧ n ≤ d ∧ Kd.C k67 W B y.length y) (h2 : laws_heldCommitteeS.f k y 1 = some q) :
    Calls Tryz.prog 16 #[.slice B n d, .int .i64 1] W fun e w' => e = .returned (.int .i64 q) ∧ Below W.heap.size W w' := by
  obtain ⟨rfl, h1, hC⟩ := h
  exact (laws_heldCommitteeS.calls k B d y 1 q W hC h1 h2).mono (fun _ _ h => ⟨h.1, h.2.below⟩)
def laws_markCommitteeS.l0 : Nat → List S67 → Int → Int → Option (Int × List S67)
  | 0, _, _, _ => none
  | k + 1, x0, x1, x5 => if x5 < (x0.length : Int) then (if 0 ≤ x5 then (laws_markIntS.f k (x0.getD x5.toNat z67).f1 (wrap64 (x1 + 1))).bind fun b => laws_markCommitteeS.l0 k (x0.set x5.toNat ⟨x1, b.2⟩) b.1 (wrap64 (x5 + 1)) else none) else some (x1, x0)
def laws_markCommitteeS.f (k : Nat) (l0 : List S67) (a1 : Int) : Option (Int × List S67) := laws_markCommitteeS.l0 k l0 a1 0
set_option maxHeartbeats 4000000 in
set_option maxRecDepth 100000 in
theorem laws_markCommitteeS.calls (k : Nat) (A0 : Option Addr) (c0 : Nat) (l0 : List S67) (a1 : Int) (r1 : Int) (r2 : List S67) (ok : Nat → Prop) (w0 w : World) (hB : Below w0.heap.size w0 w) (hS : Kd.S k67 67 w w0.heap.size ok (.slice A0 l0.length c0) l0) (h : laws_markCommitteeS.f k l0 a1 = some (r1, r2)) :
    Calls Tryz.prog 15 #[.slice A0 l0.length c0, .int .i64 a1] w fun e w' => e = .returned (.int .i64 r1) ∧ Kd.S k67 67 w' w0.heap.size ok (.slice A0 l0.length c0) r2 ∧ r2.length = l0.length ∧ Below w0.heap.size w0 w' ∧ Kept w w' ok := by
  have HB := Aside0.mk hB
  have HS := Aside0.mk hS
  have HH := Aside0.mk h
  clear hB hS h
  go_enter Tryz.func15, Tryz.ntmps15
  go_wp2
  go_loopg [1, 5] k (fun kq v1 v5 wr => ∃ (x0 : List S67) (x1 x5 : Int), v1 = .int .i64 x1 ∧ v5 = .int .i64 x5 ∧ Aside0 (x0.length = l0.length) ∧ Aside0 (laws_markCommitteeS.l0 kq x0 x1 x5 = some (r1, r2)) ∧ Aside0 (kq ≤ k) ∧ Aside0 (Kd.S k67 67 wr w0.heap.size ok (.slice A0 l0.length c0) x0) ∧ Aside0 (Below w0.heap.size w0 wr) ∧ Aside0 (Kept w wr ok))
  case atStart => exact ⟨l0, a1, 0, rfl, rfl, ⟨rfl⟩, HH, ⟨Nat.le_refl _⟩, HS, HB, ⟨Kept.refl _ _⟩⟩
  case round =>
    obtain ⟨x0, x1, x5, rfl, rfl, HL, HA, HK, HS, HB, HE⟩ := hrel
    cases gk with
    | zero => exact absurd HA.out (by simp [laws_markCommitteeS.l0])
    | succ k1 =>
      have H := HA.out
      clear HA
      rw [laws_markCommitteeS.l0, HL.out] at H
      by_cases c1 : x5 < (l0.length : Int)
      · rw [if_pos c1] at H
        by_cases c2 : 0 ≤ x5
        · rw [if_pos c2] at H
          replace H := Option.bind_eq_some_iff.mp H
          obtain ⟨⟨m', y⟩, hb, H⟩ := H
          have hx0 : 0 < x0.length := by have := HL.out; omega
          obtain ⟨g, cap, hv, hbg, hlt, cells, hcells⟩ := Kd.S_form HS.out hx0
          injection hv with hA hle hc
          subst hA
          subst hc
          clear hle
          obtain ⟨oki, c, hcl, hM, hcc, hoki, hH⟩ := Kd.S_lend HS.out z67 x5 c2 c1
          obtain ⟨v, rfl, hR⟩ := k67_openM hM
          obtain ⟨Ai, ci, hvi⟩ := Kd.R_slice hR
          subst hvi
          have q0 : wr.cell? ⟨g, x5.toNat * 2, none⟩ = some (.int .i64 (x0.getD x5.toNat z67).f0) := hcc 0 _ rfl
          have q1 : wr.cell? ⟨g, x5.toNat * 2 + 1, none⟩ = some (.slice Ai (x0.getD x5.toNat z67).f1.length ci) := hcc 1 _ rfl
          have hfz := (Kd.H_at hH c2 c1).2
          have f0 : wr.frozen? ⟨g, x5.toNat * 2, none⟩ = false := hfz 0
          have hseg := Kd.S_seg0 hH c2 c1 (seg := [.int .i64 x1]) (j := 0) (Nat.le_succ 1) (x' := ⟨x1, (x0.getD x5.toNat z67).f1⟩) (k67_mkM _ _ _ ⟨x1, (x0.getD x5.toNat z67).f1⟩ hR) (fun _ hz => hz)
          change Kd.S k67 67 (wr.setCell ⟨g, x5.toNat * 2 + 0, none⟩ (.int .i64 x1)) _ _ _ _ ∧ wr.grownBy (wr.setCell ⟨g, x5.toNat * 2 + 0, none⟩ (.int .i64 x1)) (some g) at hseg
          rw [Nat.add_zero] at hseg
          obtain ⟨hS1, hg1⟩ := hseg
          have hgo : ok g := hH.1 g |> fun _ => (Kd.S_R HS.out).1 g rfl
          have hB1 : Below w0.heap.size w0 (wr.setCell ⟨g, x5.toNat * 2, none⟩ (.int .i64 x1)) := below_set HB.out hbg
          have hK1 : Kept wr (wr.setCell ⟨g, x5.toNat * 2, none⟩ (.int .i64 x1)) ok := (Kept.refl wr ok).setCell (.inl hgo) _
          have hx1 := (blk_cell hcells (x5.toNat * 2 + 1)).symm.trans q1
          have hlt2 : x5.toNat * 2 < cells.size := by have := (Array.getElem?_eq_some_iff.1 hx1).1; omega
          have q2 : (wr.setCell ⟨g, x5.toNat * 2, none⟩ (.int .i64 x1)).cell? ⟨g, x5.toNat * 2 + 1, none⟩ = some (.slice Ai (x0.getD x5.toNat z67).f1.length ci) := by
            rw [blk_cell (blk_put hcells (x5.toNat * 2) (.int .i64 x1) (by first | rfl | exact hlt2))]
            simpa [Array.getElem?_set, Array.set!, Array.getElem?_setIfInBounds] using hx1
          obtain ⟨oki2, c3, hcl3, hM3, hcc3, hoki3, hH3⟩ := Kd.S_lend hS1 z67 x5 c2 c1
          obtain ⟨v3, rfl, hR3⟩ := k67_openM hM3
          have hlx : x5.toNat < x0.length := by have := HL.out; omega
          have hgd : (x0.set x5.toNat ⟨x1, (x0.getD x5.toNat z67).f1⟩).getD x5.toNat z67 = ⟨x1, (x0.getD x5.toNat z67).f1⟩ := by
            rw [List.getD_eq_getElem?_getD, List.getElem?_set_self hlx]; rfl
          rw [hgd] at hR3 hcc3 hM3 hH3
          obtain ⟨A3, c4, e3⟩ := Kd.R_slice hR3
          have q3 := hcc3 1 _ rfl
          change (wr.setCell ⟨g, x5.toNat * 2, none⟩ (.int .i64 x1)).cell? ⟨g, x5.toNat * 2 + 1, none⟩ = some v3 at q3
          have e4 := Option.some.inj (q3.symm.trans q2)
          subst e4
          have hcall := laws_markIntS.calls k1 oki2 _ _ (wrap64 (x1 + 1)) m' y w0 (wr.setCell ⟨g, x5.toNat * 2, none⟩ (.int .i64 x1)) hB1 hR3 hb
          generalize (x0.getD x5.toNat z67).f1 = y0 at *
          have HO := Aside0.mk hoki3
          have HX := Aside0.mk hH3
          have HQ := Aside0.mk H
          have HK1 := Aside0.mk hK1
          have HR3 := Aside0.mk hR3
          clear H hb hcc hR hoki hH hcells hbg hlt hx0 hx1 hlt2 hM hcc3 hR3 hoki3 hH3 hM3 hfz hg1 hS1 hgo hK1 hB1 hcl hcl3 q3 e3 hgd hlx
          have c1b : decide (x5 < (l0.length : Int)) = true := decide_eq_true c1
          go_wp2_with (go_at_call 38; refine hcall.mono ?_; rintro e w' ⟨rfl, hR', hB', hK'⟩)
          go_roundg k1
          case measure => have := HK.out; omega
          case rel =>
            refine ⟨(x0.set x5.toNat ⟨x1, y0⟩).set x5.toNat ⟨x1, y⟩, m', wrap64 (x5 + 1), rfl, by first | rfl | (simp; done) | (simp [*]; done), ⟨by rw [List.length_set, List.length_set]; exact HL.out⟩, ⟨by rw [List.set_set]; exact HQ.out⟩, ⟨by have := HK.out; omega⟩, ⟨?_⟩, ⟨hB'⟩, ⟨(HE.out.then_ HK1.out (fun z hz => .inl hz)).then_ hK' (fun z hz => .inl (HO.out z hz).1)⟩⟩
            have h2 := Kd.H_step HX.out (fun z _ hn hz => hK'.2 z hz hn)
            exact Kd.H_back h2 (okp := oki2) (k67_mkM _ _ _ ⟨x1, y⟩ (Kd.R_reok rfl hR' (fun z hz => HR3.out.1 z hz))) (fun _ hz => hz)
        · rw [if_neg c2] at H; cases H
      · rw [if_neg c1] at H
        have c1b : decide (x5 < (l0.length : Int)) = false := decide_eq_false c1
        injection H with H
        injection H with h1 h2
        subst h1
        subst h2
        go_wp2
        go_ret
        exact ⟨rfl, HS.out, HL.out, HB.out, HE.out⟩
end Go.Proofs.YtmbkmabpebjboaaGreat.Q
end
section
namespace Go.Proofs.YtmbkmabpebjboaaGreat.Q
open Go.RowKit Go.Proofs.YtmbkmabpebjboaaGreatW.PrintWords Go.Proofs.YtmbkmabpebjboaaGreatW.PrintLast Go.Proofs.YtmbkmabpebjboaaGreatW.PrintMore
attribute [local go_sem] max2_int min2_int max_two min_two max_three min_three max_four min_four
set_option linter.unusedVariables false
set_option linter.unusedSimpArgs false
def laws_eqGame.f (k : Nat) (a0_0 : Int) (l0_1 : List (List Int)) (a1_0 : Int) (l1_1 : List (List Int)) : Option (Bool) := if a0_0 = a1_0 then ((laws_eqIntSS.f k l0_1 l1_1).bind fun t455 => (if t455 = true then (some true) else (some false))) else (some false)
set_option maxHeartbeats 8000000 in
set_option maxRecDepth 100000 in
theorem laws_eqGame.calls (k : Nat) (a0_0 : Int) (A0_1 : Option Addr) (c0_1 : Nat) (l0_1 : List (List Int)) (a1_0 : Int) (A1_1 : Option Addr) (c1_1 : Nat) (l1_1 : List (List Int)) (r : Bool) (w : World) (hr0_1 : Kd.C (Kd.slice 3 (Kd.int .i64)) w A0_1 l0_1.length l0_1) (hc0_1 : l0_1.length ≤ c0_1) (hr1_1 : Kd.C (Kd.slice 3 (Kd.int .i64)) w A1_1 l1_1.length l1_1) (hc1_1 : l1_1.length ≤ c1_1) (h : laws_eqGame.f k a0_0 l0_1 a1_0 l1_1 = some r) :
  Calls Tryz.prog 10 #[.agg #[.int .i64 a0_0, .slice A0_1 l0_1.length c0_1], .agg #[.int .i64 a1_0, .slice A1_1 l1_1.length c1_1]] w fun e w' => e = .returned (.bool r) ∧ Below w.heap.size w w' := by
 have hu28 := Tryz.underlying28
 have HR0_1 := Aside0.mk hr0_1
 have HC0_1 := Aside0.mk hc0_1
 clear hr0_1 hc0_1
 have HR1_1 := Aside0.mk hr1_1
 have HC1_1 := Aside0.mk hc1_1
 clear hr1_1 hc1_1
 have HB := Aside0.mk (Below.refl w.heap.size w)
 have H : (if a0_0 = a1_0 then ((laws_eqIntSS.f k l0_1 l1_1).bind fun t455 => (if t455 = true then (some true) else (some false))) else (some false)) = some r := h
 clear h
 by_cases c3 : a0_0 = a1_0
 rotate_left
 ·rw [if_neg c3] at H
  have c3b0 := beq_eq_false_iff_ne.mpr c3
  have c3b1 := bne_iff_ne.mpr c3
  obtain rfl := Option.some.inj H
  go_enter Tryz.func10, Tryz.ntmps10
  go_wp2_with (first | ((with_reducible refine gate_dst (N := 2) rfl ?_); refine zq 2 #[.int .i64 a0_0, .slice A0_1 l0_1.length c0_1] 28 ?_; intro gb453 hg w16 hbox hb; have GW453 := zG hg HB; replace HB := zH hb HB; have BK453 := Aside0.mk hbox; have GE453 := GW453; clear hb hbox hg) | ((with_reducible refine gate_dst (N := 3) rfl ?_); refine zq 3 #[.int .i64 a1_0, .slice A1_1 l1_1.length c1_1] 28 ?_; intro gb454 hg w17 hbox hb; have BK454 := Aside0.mk hbox; have GW454 := zG hg HB; have GE454 := zG hg HB; have NB453_454 := zNa hg BK453; have NB454_453 := zNb hg BK453; replace BK453 := zK BK453 hb; replace HB := zH hb HB; clear hb hbox hg; have hnb18 := NB453_454.out; have hnc18 := NB454_453.out; obtain ⟨hcz19_0, hcz19_1, hfz19_0, hfz19_1⟩ := zC2 BK453; obtain ⟨hcz20_0, hcz20_1, hfz20_0, hfz20_1⟩ := zC2 BK454))
  go_ret
  exact ⟨by first | rfl | (simp [*, errW_none, errW_some] <;> rfl), zh HB.out⟩
 rw [if_pos c3] at H
 have c3b0 := beq_iff_eq.mpr c3
 have c3b1 := bne_eq_false_iff_eq.mpr c3
 clear c3
 replace H := Option.bind_eq_some_iff.mp H
 obtain ⟨t455, A40, H⟩ := H
 have A4 := Aside0.mk A40
 clear A40
 by_cases c5 : t455 = true
 ·subst c5
  rw [if_pos rfl] at H
  obtain rfl := Option.some.inj H
  go_enter Tryz.func10, Tryz.ntmps10
  go_wp2_with (first | ((with_reducible refine gate_dst (N := 2) rfl ?_); refine zq 2 #[.int .i64 a0_0, .slice A0_1 l0_1.length c0_1] 28 ?_; intro gb453 hg w6 hbox hb; have GW453 := zG hg HB; replace HB := zH hb HB; have BK453 := Aside0.mk hbox; have GE453 := GW453; clear hb hbox hg) | ((with_reducible refine gate_dst (N := 3) rfl ?_); refine zq 3 #[.int .i64 a1_0, .slice A1_1 l1_1.length c1_1] 28 ?_; intro gb454 hg w7 hbox hb; have BK454 := Aside0.mk hbox; have GW454 := zG hg HB; have GE454 := zG hg HB; have NB453_454 := zNa hg BK453; have NB454_453 := zNb hg BK453; replace BK453 := zK BK453 hb; replace HB := zH hb HB; clear hb hbox hg; have hnb8 := NB453_454.out; have hnc8 := NB454_453.out; obtain ⟨hcz9_0, hcz9_1, hfz9_0, hfz9_1⟩ := zC2 BK453; obtain ⟨hcz10_0, hcz10_1, hfz10_0, hfz10_1⟩ := zC2 BK454) | ((with_reducible refine gate_callee (f := 33) rfl ?_); refine zl 14 Tryz.func33 #[.slice A0_1 l0_1.length c0_1, .slice A1_1 l1_1.length c1_1] ?_; (with_reducible refine (laws_eqIntSS.calls k _ _ l0_1 _ _ l1_1 true _ ?side1 ?side2 ?side3 ?side4 A4.out).mono ?_); (case side1 => exact zQ (Kd.C_below HR0_1.out HB.out)); (case side2 => exact HC0_1.out); (case side3 => exact zQ (Kd.C_below HR1_1.out HB.out)); (case side4 => exact HC1_1.out); rintro e w' ⟨rfl, ⟨nd, rfl⟩⟩; refine ⟨_, rfl, ?_⟩))
  go_ret
  exact ⟨by first | rfl | (simp [*, errW_none, errW_some] <;> rfl), zh HB.out⟩
 replace c5 := Bool.eq_false_iff.mpr c5
 subst c5
 rw [if_neg zF] at H
 obtain rfl := Option.some.inj H
 go_enter Tryz.func10, Tryz.ntmps10
 go_wp2_with (first | ((with_reducible refine gate_dst (N := 2) rfl ?_); refine zq 2 #[.int .i64 a0_0, .slice A0_1 l0_1.length c0_1] 28 ?_; intro gb453 hg w11 hbox hb; have GW453 := zG hg HB; replace HB := zH hb HB; have BK453 := Aside0.mk hbox; have GE453 := GW453; clear hb hbox hg) | ((with_reducible refine gate_dst (N := 3) rfl ?_); refine zq 3 #[.int .i64 a1_0, .slice A1_1 l1_1.length c1_1] 28 ?_; intro gb454 hg w12 hbox hb; have BK454 := Aside0.mk hbox; have GW454 := zG hg HB; have GE454 := zG hg HB; have NB453_454 := zNa hg BK453; have NB454_453 := zNb hg BK453; replace BK453 := zK BK453 hb; replace HB := zH hb HB; clear hb hbox hg; have hnb13 := NB453_454.out; have hnc13 := NB454_453.out; obtain ⟨hcz14_0, hcz14_1, hfz14_0, hfz14_1⟩ := zC2 BK453; obtain ⟨hcz15_0, hcz15_1, hfz15_0, hfz15_1⟩ := zC2 BK454) | ((with_reducible refine gate_callee (f := 33) rfl ?_); refine zl 14 Tryz.func33 #[.slice A0_1 l0_1.length c0_1, .slice A1_1 l1_1.length c1_1] ?_; (with_reducible refine (laws_eqIntSS.calls k _ _ l0_1 _ _ l1_1 false _ ?side1 ?side2 ?side3 ?side4 A4.out).mono ?_); (case side1 => exact zQ (Kd.C_below HR0_1.out HB.out)); (case side2 => exact HC0_1.out); (case side3 => exact zQ (Kd.C_below HR1_1.out HB.out)); (case side4 => exact HC1_1.out); rintro e w' ⟨rfl, ⟨nd, rfl⟩⟩; refine ⟨_, rfl, ?_⟩))
 go_ret
 exact ⟨by first | rfl | (simp [*, errW_none, errW_some] <;> rfl), zh HB.out⟩
end Go.Proofs.YtmbkmabpebjboaaGreat.Q
end
section
namespace Go.Proofs.YtmbkmabpebjboaaGreat.Q
open Go.RowKit Go.Proofs.YtmbkmabpebjboaaGreatW.PrintWords Go.Proofs.YtmbkmabpebjboaaGreatW.PrintLast Go.Proofs.YtmbkmabpebjboaaGreatW.PrintMore
set_option linter.unusedVariables false
set_option linter.unusedSimpArgs false
def spec_chWeighted.f (k : Nat) (n : Int) (o : List Bool) : Nat → List Bool → Option (List S28)
  | 0, p => if rdOf false p ((p.length - 1 : Nat) : Int) = true then (if rdOf false p 0 = true then some [] else (spec_deComplete.f k p n).bind fun b => if b = true then (spec_gmOf.f k n p).bind fun g => some [⟨g.1, g.2⟩] else some []) else some []
  | d + 1, p => (spec_voList.f k (p.length : Int)).bind fun s => (mustO p s (rdOf false o (p.length : Int))).bind fun m => (spec_chWeighted.f k n o d (p ++ [true])).bind fun l1 => if m = true then some l1 else (spec_chWeighted.f k n o d (p ++ [false])).bind fun l2 => some (l1 ++ l2)
structure ChSt (gw go : Nat) (u w0 w : World) (ws : List Bool) (v : Value) (gs : List S28) : Prop where
  N : Kd.N k28 28 w w0.heap.size (fun z => w0.heap.size ≤ z) v gs
  O : w.heap[go]? = some (.cells #[v] 42 (0, 0))
  W : w.heap[gw]? = some (.cells (ws.map Value.bool).toArray 4 (0, 0))
  K : Kept w0 w (fun z => z = gw ∨ z = go)
  B : Below u.heap.size u w
section
variable {gw go : Nat} {u w0 w w1 : World} {ws : List Bool} {v : Value} {gs : List S28}
theorem ChSt.below (h : ChSt gw go u w0 w ws v gs) (hb : Below w.heap.size w w1) : ChSt gw go u w0 w1 ws v gs :=
  ⟨Kd.N_below h.N hb, blk_below h.O hb, blk_below h.W hb, h.K.below hb, h.B.trans (hb.mono h.B.size)⟩
theorem ChSt.alloc (h : ChSt gw go u w0 w ws v gs) (o : Obj) : ChSt gw go u w0 (w.alloc o) ws v gs := h.below ((Below.refl _ _).alloc (Nat.le_refl _) o)
theorem ChSt.put (h : ChSt gw go u w0 w ws v gs) (hne : gw ≠ go) (hbw : u.heap.size ≤ gw) (hw0 : gw < w0.heap.size) (i : Nat) (b : Bool) : ChSt gw go u w0 (w.setCell ⟨gw, i, none⟩ (.bool b)) (ws.set i b) v gs :=
  ⟨Kd.N_far h.N (fun k hk => by have h1 : w0.heap.size ≤ k := hk; show k ≠ gw; omega) _, blk_far h.O (Ne.symm hne) _, blk_put h.W i _ (by simp), h.K.setCell (.inl (.inl rfl)) _, below_set h.B hbw⟩
end
set_option maxHeartbeats 4000000 in
set_option maxRecDepth 100000 in
theorem chW_end (k : Nat) (n : Int) (A : Option Addr) (c : Nat) (o : List Bool) (gw go : Nat) (u w0 : World) (hC : ∀ W, Kept w0 W (fun z => z = gw ∨ z = go) → Kd.C Kd.bool W A o.length o) (hc : o.length ≤ c) (hne : gw ≠ go) (hbw : u.heap.size ≤ gw) (hbo : u.heap.size ≤ go) (hw0 : gw < w0.heap.size) (ho0 : go < w0.heap.size)
    (p : List Bool) (N q : Nat) (hp : p.length = N) (hq : N = q + 1) (hN : N ≤ 65536) (gs r : List S28) (v : Value) (w : World) (hr : gs.length + r.length ≤ 1000000) (h : spec_chWeighted.f k n o 0 p = some r) (hS : ChSt gw go u w0 w p v gs) :
    Calls Tryz.prog 85 #[.slice (some ⟨gw, 0, none⟩) N N, .slice A o.length c, .int .i64 N, .int .i64 n, .pointer (some ⟨go, 0, none⟩)] w fun e w' => e = .returned (.tuple #[]) ∧ ∃ v', ChSt gw go u w0 w' p v' (gs ++ r) := by
  have h1 : wrap64 ((N : Int) - 1) = (q : Int) := by unfold wrap64; omega
  have hqN : (q : Int) < (N : Int) := by omega
  have h0N : (0 : Int) < (N : Int) := by omega
  have hql : q < p.length := by omega
  have h0l : 0 < p.length := by omega
  have hxq : w.cell? ⟨gw, N - 1, none⟩ = some (.bool p[q]) := by rw [show N - 1 = q by omega, blk_cell hS.W, List.getElem?_toArray, List.getElem?_map, List.getElem?_eq_getElem hql]; rfl
  have hx0 : w.cell? ⟨gw, 0, none⟩ = some (.bool p[0]) := by rw [blk_cell hS.W, List.getElem?_toArray, List.getElem?_map, List.getElem?_eq_getElem h0l]; rfl
  unfold spec_chWeighted.f at h
  rw [hp, show N - 1 = q by omega, rdN hql, show (0 : Int) = ((0 : Nat) : Int) from rfl, rdN h0l] at h
  generalize p[q] = b1 at h hxq
  generalize p[0] = b0 at h hx0
  have HS := Aside0.mk hS
  have HH := Aside0.mk h
  have HC := Aside0.mk hC
  have HP := Aside0.mk hp
  clear hS h hC hq hql h0l hp
  cases b1
  case false =>
    have := HH.out
    rw [if_neg (by decide)] at this
    obtain rfl := Option.some.inj this
    clear this
    go_enter Tryz.func85, Tryz.ntmps85
    go_wp2
    (try simp only [Exit.inBlock, Exit.then]); refine bodyPost_ret (results_none rfl _ _ _) rfl ?_
    exact ⟨rfl, v, by first | exact HS.out | (rw [List.append_nil]; exact HS.out)⟩
  cases b0
  case true =>
    have := HH.out
    rw [if_pos rfl, if_pos rfl] at this
    obtain rfl := Option.some.inj this
    clear this
    go_enter Tryz.func85, Tryz.ntmps85
    go_wp2
    (try simp only [Exit.inBlock, Exit.then]); refine bodyPost_ret (results_none rfl _ _ _) rfl ?_
    exact ⟨rfl, v, by first | exact HS.out | (rw [List.append_nil]; exact HS.out)⟩
  have h := HH.out
  clear HH
  rw [if_pos rfl, if_neg (by decide)] at h
  obtain ⟨t, ht, h⟩ := Option.bind_eq_some_iff.mp h
  have HT := Aside0.mk ht
  have HH := Aside0.mk h
  clear h ht
  have hCb := fun (W : World) (hW : ChSt gw go u w0 W p v gs) => C_bools hW.W (by rw [HP.out]; exact hN)
  rw [HP.out] at hCb
  have HCB := Aside0.mk hCb
  clear hCb
  cases t
  case false =>
    have h := HH.out
    rw [if_neg (by decide)] at h
    obtain rfl := Option.some.inj h
    clear h
    go_enter Tryz.func85, Tryz.ntmps85
    go_wp2_with (go_at_call 62; have hh := spec_deComplete.calls k (some ⟨gw, 0, none⟩) N p n false; rw [HP.out] at hh; refine (hh _ (HCB.out _ HS.out) (Nat.le_refl _) HT.out).mono ?_; clear hh; rintro e w' ⟨rfl, hb0'⟩; have hb' := hb0'.below)
    (try simp only [Exit.inBlock, Exit.then]); refine bodyPost_ret (results_none rfl _ _ _) rfl ?_
    exact ⟨rfl, v, by first | exact HS.out.below hb' | (rw [List.append_nil]; exact HS.out.below hb')⟩
  have h := HH.out
  rw [if_pos rfl] at h
  obtain ⟨⟨g1, g2⟩, hg, h⟩ := Option.bind_eq_some_iff.mp h
  obtain rfl := Option.some.inj h
  have HG := Aside0.mk hg
  clear h hg HH
  go_enter Tryz.func85, Tryz.ntmps85
  go_wp2_with (go_at_call 62; have hh := spec_deComplete.calls k (some ⟨gw, 0, none⟩) N p n true; rw [HP.out] at hh; refine (hh _ (HCB.out _ HS.out) (Nat.le_refl _) HT.out).mono ?_; clear hh; rintro e w' ⟨rfl, hb0'⟩; have hb' := hb0'.below; have HS1 := Aside0.mk (HS.out.below hb'); clear HS hb' hb0' hxq hx0; have HS := HS1; clear HS1; have hO := HS.out.O; have ho0 := (blk_cell hO 0).trans rfl; have hof := blk_frozen hO 0; clear hO)
  refine start_ (n := 11) (S := fun w' => w'.cell? ⟨go, 0, none⟩ = some v) (ds := [10]) #[false, false, false, false, false, false, false, false, false, false, false] (by kernel_rfl) rfl rfl ((blk_cell HS.out.O 0).trans rfl) (fun hHeld => ?_)
  have HS1 := Aside0.mk (HS.out.below (below_drew (Below.refl _ _)))
  clear HS
  have HS := HS1
  clear HS1
  generalize w'.drew = w1 at HS hHeld ⊢
  refine zp1 (i := 0) (N := some 33) #[true, false, false, false, false, false, false, false, false, false, false] rfl rfl (by kernel_rfl) ?_
  refine zp1 (i := 1) (N := some 34) #[true, true, false, false, false, false, false, false, false, false, false] rfl rfl (by kernel_rfl) ?_
  refine zp1 (i := 2) (N := some 35) #[true, true, true, false, false, false, false, false, false, false, false] rfl rfl (by kernel_rfl) ?_
  refine zp1 (i := 4) (N := some 37) #[true, true, true, false, true, false, false, false, false, false, false] rfl rfl (by kernel_rfl) ?_
  refine zp1 (i := 5) (N := some 38) #[true, true, true, false, true, true, false, false, false, false, false] rfl rfl (by kernel_rfl) ?_
  refine take_ (i := 3) (N := some 36) (v := ?_) (a' := ?_) #[true, true, true, true, true, true, false, false, false, false, false] rfl rfl (by kernel_rfl) (fun _ _ _ h => h) (Or.inl ⟨by rfl, ?_⟩) hHeld ?_ ?_
  rotate_left
  · intro w' s0
    go_simp
    with_reducible rfl
  rotate_left
  · simp only [Act.put, List.setIfInBounds_toArray, List.set_cons_zero, List.set_cons_succ, i64_w, i32_w]
    rfl
  refine one_ (i := 6) (N := some 39) #[true, true, true, true, true, true, true, false, false, false, false] rfl rfl (by kernel_rfl) (by decide) (fun K hK => ?_)
  refine goes_ Tryz.func113 (by kernel_rfl) rfl #[.int .i64 n, .slice (some ⟨gw, 0, none⟩) N N] (by rfl) rfl rfl (by (try simp only [List.map_toArray, List.map_cons, List.map_nil]); first | done | rfl) ?_
  have hh := spec_gmOf.calls k n (some ⟨gw, 0, none⟩) N p g1 g2
  rw [HP.out] at hh
  refine (hh _ (HCB.out _ HS.out) (Nat.le_refl _) HG.out).mono ?_
  clear hh
  rintro e w2 ⟨v1, rfl, hV, hb'⟩
  refine ⟨_, rfl, ?_⟩
  have HS1 := Aside0.mk (HS.out.below hb')
  have hgw := blk_lt HS.out.W
  have hgo := blk_lt HS.out.O
  obtain ⟨A1, c1, rfl⟩ := Kd.V_slice hV
  have HV := Aside0.mk (Kd.V_at hV)
  have HK := Aside0.mk (Kd.FK_mono (k28_mkF w2 _ (⟨g1, g2⟩ : S28) HV.out.2.1 HV.out.2.2) (fun z (hz : w1.heap.size ≤ z) => (⟨Nat.le_trans HS.out.K.1 hz, fun he => by have := Kd.N_lt HS.out.N z he.symm; omega⟩ : (w0.heap.size ≤ z) ∧ some z ≠ v.ownBlock)))
  clear HS hb' hV
  have HS := HS1
  clear HS1 hHeld
  refine hK.out _ _ ((blk_cell HS.out.O 0).trans rfl) (fun hHeld => ?_)
  clear hK K
  refine zn1 ?_
  refine one_ (i := 7) (N := some 40) #[true, true, true, true, true, true, true, true, false, false, false] rfl rfl (by kernel_rfl) (by decide) (fun K hK => ?_)
  refine value_ (w1 := ?_) (v := ?_) (by rfl) rfl ?_ ?_
  rotate_left 2
  · go_simp
    constructor
    · rfl
    · rfl
  refine hK.out _ _ ((blk_cell (HS.out.alloc _).O 0).trans rfl) (fun hHeld => ?_)
  clear hK K
  refine zn1 ?_
  refine one_ (i := 8) (N := some 41) #[true, true, true, true, true, true, true, true, true, false, false] rfl rfl (by kernel_rfl) (by decide) (fun K hK => ?_)
  refine Kd.N_append_step k28 (w0 := w2) w0.heap.size (by rfl) (.tmp 36) (.tmp 40) 42 28 (.agg #[(.int .i64 0), (.slice none 0 0)]) 32 rfl Tryz.underlying42 info28 rfl (by decide) (by omega) v gs ⟨g1, g2⟩ [.int .i64 g1, .slice A1 g2.length c1] (fun z => w0.heap.size ≤ z) _ rfl rfl HK.out (fun _ hz => hz) (fun z hz => Nat.le_trans HS.out.K.1 hz) HS.out.N (Below.refl _ _) HS.out.K.1 (by simp at hr; omega) ?_
  intro v2 w3 hN2 hB2 hg2 _
  obtain ⟨A2, c2, rfl⟩ := Kd.N_slice hN2
  have HO3 := Aside0.mk (blk_grown HS.out.O hg2 (Kd.N_ne HS.out.N HS.out.O (by decide)))
  have HW3 := Aside0.mk (blk_grown HS.out.W hg2 (Kd.N_ne HS.out.N HS.out.W (by decide)))
  have HN3 := Aside0.mk hN2
  have HB3 := Aside0.mk (HS.out.B.trans (hB2.mono (show u.heap.size ≤ w0.heap.size by omega)))
  have HK3 := Aside0.mk (Kept.of_grown hg2 HS.out.K (fun z hz => .inr (Kd.N_base HS.out.N z hz)))
  clear hN2 hB2 hg2 HS hHeld HK HV
  refine hK.out _ _ ((blk_cell HO3.out 0).trans rfl) (fun hHeld => ?_)
  clear hK K
  refine zn1 ?_
  refine zp1 (i := 9) (N := some 42) #[true, true, true, true, true, true, true, true, true, true, false] rfl rfl (by kernel_rfl) ?_
  refine last_ (i := 10) (N := none) #[true, true, true, true, true, true, true, true, true, true, true] rfl rfl (by kernel_rfl) (by decide) (fun K hK => ?_)
  have hs := (blk_cell HO3.out 0).trans rfl
  have hfs := blk_frozen HO3.out 0
  refine skip_ (w1 := ?_) (by rfl) rfl ?_ ?_
  rotate_left
  · go_simp
    rfl
  refine hK.out _ _ ?_
  clear hK K
  refine done_ (by kernel_rfl) ?_
  go_wp2
  (try simp only [Exit.inBlock, Exit.then]); refine bodyPost_ret (results_none rfl _ _ _) rfl ?_
  exact ⟨rfl, _, Kd.N_far HN3.out (fun z hk => by have h1 : w0.heap.size ≤ z := hk; show z ≠ go; omega) _, blk_put HO3.out 0 _ (by simp), blk_far HW3.out hne _, HK3.out.setCell (.inl (.inr rfl)) _, below_set HB3.out hbo⟩
set_option maxHeartbeats 8000000 in
set_option maxRecDepth 100000 in
theorem spec_chWeighted.calls (k : Nat) (n : Int) (A : Option Addr) (c : Nat) (o : List Bool) (gw go : Nat) (u w0 : World) (hC : ∀ W, Kept w0 W (fun z => z = gw ∨ z = go) → Kd.C Kd.bool W A o.length o) (hc : o.length ≤ c) (hne : gw ≠ go) (hbw : u.heap.size ≤ gw) (hbo : u.heap.size ≤ go) (hw0 : gw < w0.heap.size) (ho0 : go < w0.heap.size) (N : Nat) (hoN : o.length = N) (hN : N ≤ 65536) (hN1 : 1 ≤ N) :
    ∀ (d : Nat) (p ws : List Bool) (m : Nat) (gs r : List S28) (v : Value) (w : World), p.length = m → m + d = N → ws.length = N → ws.take p.length = p → gs.length + r.length ≤ 1000000 → spec_chWeighted.f k n o d p = some r → ChSt gw go u w0 w ws v gs →
    Calls Tryz.prog 85 #[.slice (some ⟨gw, 0, none⟩) N N, .slice A o.length c, .int .i64 m, .int .i64 n, .pointer (some ⟨go, 0, none⟩)] w fun e w' => e = .returned (.tuple #[]) ∧ ∃ v' ws', ChSt gw go u w0 w' ws' v' (gs ++ r) ∧ ws'.length = N ∧ ws'.take p.length = p := by
  intro d
  induction d with
  | zero =>
    intro p ws m gs r v w hp hd hwl hwt hr h hS
    obtain rfl : m = N := hd
    have : ws = p := by rw [← hwt, hp, ← hwl, List.take_length]
    subst this
    obtain ⟨q, rfl⟩ : ∃ q, m = q + 1 := ⟨m - 1, by omega⟩
    refine (chW_end k n A c o gw go u w0 hC hc hne hbw hbo hw0 ho0 ws (q + 1) q hp rfl hN gs r v w hr h hS).mono ?_
    rintro e w' ⟨rfl, v', hS'⟩
    exact ⟨rfl, v', ws, hS', hp, by rw [hp, ← hp, List.take_length]⟩
  | succ d ih =>
    intro p ws m gs r v w hp hd hwl hwt hr h hS
    unfold spec_chWeighted.f at h
    obtain ⟨s, hs, h⟩ := Option.bind_eq_some_iff.mp h
    obtain ⟨mm, hm, h⟩ := Option.bind_eq_some_iff.mp h
    obtain ⟨l1, h1, h⟩ := Option.bind_eq_some_iff.mp h
    rw [hp] at hs hm
    have hmo : (m : Int) < (o.length : Int) := by omega
    clear hoN
    obtain ⟨ad0, e0, hov⟩ := Kd.at_bool (hC w hS.K) (m : Int) (Int.natCast_nonneg _) hmo
    rw [Int.toNat_natCast] at hov
    generalize rdOf false o (m : Int) = b00 at hov hm
    have hpl : p.length < ws.length := by omega
    have hmN : (m : Int) < (N : Int) := by omega
    have hne1 : ((m : Int) == (N : Int)) = false := by rw [beq_eq_false_iff_ne]; omega
    have hne2 : ¬ m = N := by omega
    have hw1 : wrap64 ((m : Int) + 1) = ((m + 1 : Nat) : Int) := by unfold wrap64; omega
    have HS := Aside0.mk hS
    have HV := Aside0.mk hs
    have HM := Aside0.mk hm
    have H1 := Aside0.mk h1
    have HH := Aside0.mk h
    have HWL := Aside0.mk hwl
    have HWT := Aside0.mk hwt
    have HP := Aside0.mk hp
    have HD := Aside0.mk hd
    have IH := Aside0.mk ih
    clear hS hs hm h1 h hwl hwt ih hp hd
    subst e0
    go_enter Tryz.func85, Tryz.ntmps85
    go_wp2_with (go_at_call 114; refine (spec_voList.calls k (m : Int) s _ HV.out).mono ?_; rintro e w1 ⟨vs, rfl, hR, hb⟩; obtain ⟨As, cs, rfl⟩ := Kd.R_slice hR; have HR := Aside0.mk (Kd.R_reads' hR).2.2; have HS1 := Aside0.mk (HS.out.below hb); clear HS hR hb; have HS := HS1; clear HS1)
    clear hov hmo
    go_loopg [10, 50] s.length (fun gg v12 v54 wr => ∃ (kk : Nat) (b : Bool), kk ≤ s.length ∧ s.length - kk ≤ gg ∧ v12 = .bool b ∧ v54 = .int .i64 kk ∧ Aside0 (ChSt gw go u w0 wr ws v gs) ∧ Aside0 (Kd.C (Kd.int .i64) wr As s.length s) ∧ Aside0 (mustO p (s.drop kk) b = some mm))
    case atStart => exact ⟨0, b00, Nat.zero_le _, by omega, rfl, rfl, HS, HR, HM⟩
    case round =>
      clear HS HM
      have hls := Kd.C_max HR.out
      clear HR
      obtain ⟨kk, b, hkk, hg, rfl, rfl, HS, HR, HM⟩ := hrel
      by_cases hlt : kk < s.length
      · have hltz : (kk : Int) < (s.length : Int) := Int.ofNat_lt.2 hlt
        have hdec : decide ((kk : Int) < (s.length : Int)) = true := decide_eq_true hltz
        obtain ⟨ad, e, x0⟩ := Kd.at_int HR.out (kk : Int) (Int.natCast_nonneg _) hltz
        subst e
        have hM := HM.out
        rw [mustO_drop hlt, HP.out] at hM
        rw [Int.toNat_natCast] at x0
        generalize rd s (kk : Int) = x at hM x0
        cases b
        case true =>
          rw [if_pos rfl] at hM
          have HM2 := Aside0.mk hM
          clear hM HM
          go_wp2
          go_roundg (s.length - (kk + 1))
          case measure => exact om2 hlt hg
          case rel => exact ⟨kk + 1, true, hlt, Nat.le_refl _, rfl, by congr 1; (try exact om3 hlt hls), HS, HR, HM2⟩
        case false =>
          rw [if_neg (by decide)] at hM
          by_cases c0 : 0 ≤ x
          case neg => rw [if_neg c0] at hM; cases hM
          rw [if_pos c0] at hM
          obtain ⟨ji, hji⟩ : ∃ j_ : Int, shl .i64 1 x = j_ := ⟨_, rfl⟩
          rw [hji] at hM
          obtain ⟨hji_, hjiz, hjiu, hjiv, hjiy, hjix⟩ := zJ1 hji
          obtain ⟨jk, hjk⟩ : ∃ j_ : Int, wrap64 ((m : Int) - ji) = j_ := ⟨_, rfl⟩
          rw [hjk] at hM
          have hjkw : (IntKind.i64.wrap ((m : Int) - ji)) = jk := (i64_w _).trans hjk
          by_cases c1 : 0 ≤ jk ∧ jk < (m : Int)
          case neg => rw [if_neg c1] at hM; cases hM
          rw [if_pos c1] at hM
          have c0b : decide (0 ≤ x) = true := decide_eq_true c0
          have c10 := c1.1
          have c11 : jk < (N : Int) := Int.lt_trans c1.2 hmN
          have c10b : decide (0 ≤ jk) = true := decide_eq_true c10
          have c11b : decide (jk < (N : Int)) = true := decide_eq_true c11
          obtain ⟨hjl, hje⟩ := take_rdOf HWT.out c10 (by rw [HP.out]; exact c1.2)
          have hx : wr.cell? ⟨gw, jk.toNat, none⟩ = some (.bool (rdOf false p jk)) := by rw [blk_cell HS.out.W, List.getElem?_toArray, List.getElem?_map, List.getElem?_eq_getElem hjl, hje]; rfl
          generalize rdOf false p jk = b at hx hM
          have HM2 := Aside0.mk hM
          clear hM HM hjl hje c1
          go_wp2
          clear hji_ hjiz hjiu hjiv hjiy hjix hjkw hji hjk c0b c10b c11b c10 c11 c0 hx
          go_roundg (s.length - (kk + 1))
          case measure => exact om2 hlt hg
          case rel => exact ⟨kk + 1, b, hlt, Nat.le_refl _, rfl, by congr 1; (try exact om3 hlt hls), HS, HR, HM2⟩
      · have hltz : ¬ (kk : Int) < (s.length : Int) := fun e => hlt (Int.ofNat_lt.1 e)
        have hkl : kk = s.length := Nat.le_antisymm hkk (Nat.le_of_not_lt hlt)
        subst hkl
        have hM := HM.out
        rw [List.drop_length] at hM
        obtain rfl := Option.some.inj hM
        clear hM HM HR
        have hpl2 : m < ws.length := by rw [HWL.out]; exact Int.ofNat_lt.1 hmN
        have hx : wr.cell? ⟨gw, m, none⟩ = some (.bool ws[m]) := by rw [blk_cell HS.out.W, List.getElem?_toArray, List.getElem?_map, List.getElem?_eq_getElem hpl2]; rfl
        have hf := blk_frozen HS.out.W m
        have hT1 := take_set_snoc HWT.out (by rw [HP.out]; exact hpl2) true
        rw [HP.out] at hT1
        have HT1 := Aside0.mk hT1
        have HSP := Aside0.mk (HS.out.put hne hbw hw0 m true)
        generalize ws[m] = bm at hx
        clear HS hT1
        have hm1 : m + 1 + d = N := om1 HD.out
        have hr1 : gs.length + l1.length ≤ 1000000 := by
          have h := HH.out
          cases b
          · rw [if_neg (by decide)] at h
            obtain ⟨l2, _, h⟩ := Option.bind_eq_some_iff.mp h
            obtain rfl := Option.some.inj h
            rw [List.length_append] at hr
            exact om4 hr
          · rw [if_pos rfl] at h
            obtain rfl := Option.some.inj h
            exact hr
        have IH1 := Aside0.mk (IH.out (p ++ [true]) (ws.set m true) (m + 1) gs l1 v _ (by rw [List.length_append, HP.out]; rfl) hm1 (by rw [List.length_set]; exact HWL.out) HT1.out hr1 H1.out HSP.out)
        clear HSP HT1 hltz
        go_wp2_with fail
        refine IH1.out.mono ?_
        clear IH1
        rintro e w2 ⟨rfl, v2, ws2, hS2, hl2, ht2⟩
        have hpl3 : m < ws2.length := by rw [hl2]; exact Int.ofNat_lt.1 hmN
        have ht3 := take_less ht2
        clear hx hf
        have hx : w2.cell? ⟨gw, m, none⟩ = some (.bool ws2[m]) := by rw [blk_cell hS2.W, List.getElem?_toArray, List.getElem?_map, List.getElem?_eq_getElem hpl3]; rfl
        have hf := blk_frozen hS2.W m
        generalize ws2[m] = bm2 at hx
        have HS2 := Aside0.mk hS2
        have HL2 := Aside0.mk hl2
        have HT2 := Aside0.mk ht3
        clear hS2 hl2 ht2 ht3
        have h := HH.out
        cases b
        case true =>
          rw [if_pos rfl] at h
          obtain rfl := Option.some.inj h
          clear h HH
          go_wp2
          go_end0
          exact ⟨rfl, v2, ws2, HS2.out, HL2.out, HT2.out⟩
        case false =>
          rw [if_neg (by decide)] at h
          obtain ⟨l2, h2, h⟩ := Option.bind_eq_some_iff.mp h
          obtain rfl := Option.some.inj h
          rw [List.length_append] at hr
          have hT3 := take_set_snoc HT2.out (by rw [HP.out]; exact hpl3) false
          rw [HP.out] at hT3
          have IH2 := Aside0.mk (IH.out (p ++ [false]) (ws2.set m false) (m + 1) (gs ++ l1) l2 v2 _ (by rw [List.length_append, HP.out]; rfl) hm1 (by rw [List.length_set]; exact HL2.out) hT3 (by rw [List.length_append]; exact om5 hr) h2 (HS2.out.put hne hbw hw0 m false))
          clear h HH h2 hT3 HS2 HL2 HT2
          go_wp2_with fail
          refine IH2.out.mono ?_
          clear IH2
          rintro e w3 ⟨rfl, v3, ws3, hS3, hl3, ht3⟩
          have HS3 := Aside0.mk hS3
          have HL3 := Aside0.mk hl3
          have HT3 := Aside0.mk (take_less ht3)
          clear hS3 hl3 ht3
          go_wp2
          go_end0
          exact ⟨rfl, v3, ws3, by first | exact HS3.out | (rw [← List.append_assoc]; exact HS3.out), HL3.out, HT3.out⟩
def pzPos (k : Nat) (g : S28) : List S28 → Nat → Option Nat
  | [], i => some i
  | x :: xs, i => (spec_gmBefore.f k x.f0 x.f1 g.f0 g.f1).bind fun b => if b = true then pzPos k g xs (i + 1) else some i
def pzIns (k : Nat) (g : S28) (outs : List S28) : Option (List S28) := (pzPos k g outs 0).bind fun i => some (outs.take i ++ [g] ++ outs.drop i)
def pzSort (k : Nat) : List S28 → List S28 → Option (List S28)
  | [], outs => some outs
  | g :: gs, outs => (pzIns k g outs).bind fun o => pzSort k gs o
theorem om6 {i n : Nat} (h : i ≤ n) : i + 1 + (n - i) = n + 1 := by omega
theorem made_falses (N : Nat) : madeCells (Value.bool false).cells N = ((List.replicate N false).map Value.bool).toArray := by
  refine Array.ext ?_ fun j h1 h2 => ?_
  · rw [size_madeCells, List.size_toArray, List.length_map, List.length_replicate]
  · simp [madeCells, Value.cells, Nat.mod_one]
theorem run_falses (N : Nat) (hN : N ≤ 65536) (W : World) : (Instr.makeSlice 59 (.int .i64 (N : Int)) (.int .i64 (N : Int))).run Tryz.prog W = .ok (.slice (some ⟨W.heap.size, 0, none⟩) N N) (W.alloc (.cells ((List.replicate N false).map Value.bool).toArray 4 (0, 0))) := by
  obtain ⟨i, hi, hz⟩ := Option.map_eq_some_iff.1 info4
  simp only [Prod.mk.injEq] at hz
  obtain ⟨h0, h1, h2⟩ := hz
  have := run_make (P := Tryz.prog) W 59 4 i (.bool false) Tryz.underlying59 hi h0 .i64 .i64 (N : Int) (N : Int) (Int.natCast_nonneg _) (Int.le_refl _) (by rw [h2]; omega) (by omega)
  rw [this, Int.toNat_natCast, h1, Nat.mul_one, made_falses]
section
variable {e base : Nat} {W : World} {v : Value} {lo : Nat}
theorem N_own {α : Type} {d : Kd α} (h : Kd.N d e W base (fun _ => True) v []) (hb : lo ≤ base) : Kd.N d e W base (fun z => lo ≤ z) v [] := by
  have hbb := Kd.N_base h
  obtain ⟨_, rows, hl, hR, _⟩ := h
  exact ⟨fun k hk => Nat.le_trans hb (hbb k hk), rows, hl, hR, fun j x c hx => by simp at hx⟩
end
theorem rr_one {W : World} {b cg : Nat} {Ag : Option Addr} {g : S28} {ok : Nat → Prop} (hb : W.heap[b]? = some (.cells #[.int .i64 g.f0, .slice Ag g.f1.length cg] 28 (0, 0))) (hF : Kd.FK k28 W ok g [.int .i64 g.f0, .slice Ag g.f1.length cg]) :
    ReadsRow (fun x c => Kd.FK k28 W ok x c) (Kd.sz k28) W (some ⟨b, 0, none⟩) 1 [g] := by
  refine ⟨rfl, by decide, fun _ => ⟨_, rfl, fun j p hj => ?_⟩⟩
  cases j with
  | succ j => simp at hj
  | zero =>
    obtain rfl : g = p := by simpa using hj
    refine ⟨_, rfl, hF, fun i u hu => ?_⟩
    rw [add_at, Nat.zero_mul, Nat.zero_add, Nat.zero_add, blk_cell hb]
    simpa using hu
section
variable {P : Program} {ops : Array Oper} {o : Oper} {a : Act} {Q : Exit → Act → World → Prop} {Kc : Act → World → Prop} {α : Type}
theorem N_append_rr_step (d : Kd α) {w0 W : World} (base : Nat) (hw : Region.wanted o (yielded ops a.tmps) = true) (s x : Operand) (t e : TypeId) (z : Value) (bytes : Nat)
    (ho : o.op = .call { callee := .builtin .append, args := #[s, x], argTypes := #[t, t] })
    (ht : P.underlying t = some (.slice e)) (hinfo : (P.info? e).map (fun i => (i.zero, i.size, i.bytes)) = some (some z, d.sz, bytes)) (hz : z.cells.size = d.sz) (hs0 : 0 < d.sz) (hb0 : 0 < bytes)
    (v : Value) (xs ys : List α) (A : Option Addr) (m c : Nat) (ok okp : Nat → Prop) (hs : a.eval s = v) (hx : a.eval x = .slice A m c)
    (HO : Kd.N d e W base ok v xs) (HR : ReadsRow (fun x c => Kd.FK d W okp x c) d.sz W A m ys) (hokp : ∀ k, okp k → ok k ∧ some k ≠ v.ownBlock) (hfresh : ∀ k, W.heap.size ≤ k → ok k)
    (HB : Below base w0 W) (hbase : base ≤ W.heap.size) (hl : (xs.length + m) * bytes ≤ 140737488355328)
    (h : ∀ v1 w1, Kd.N d e w1 base ok v1 (xs ++ ys) → Below base w0 w1 → W.grownBy w1 v.ownBlock → (v1.ownBlock = v.ownBlock ∨ ∃ b, v1.ownBlock = some b ∧ W.heap.size ≤ b) → Kc (a.put o.dst v1) w1) :
    if Region.wanted o (yielded ops a.tmps) = true then Oper.wp P o a W Kc Q else Kc (a.put o.dst undef) W := by
  obtain ⟨h0, rows, hlr, hR, hf⟩ := HO
  obtain ⟨news, hnl, hnr, hnf⟩ := Kd.reads_raw HR (fun y c hk => ⟨d.K_len (Kd.FK_now hk), d.K_one (Kd.FK_now hk)⟩)
  refine Kd.R_append_rows_step (Kd.raw d.sz) base hw s x t e z bytes ho ht hinfo hz hs0 hb0 v rows news A m c (fun _ => True) (fun _ => False) hs hx (Kd.raw_any hR) hnr (fun _ _ hk => hk) (fun _ hk => hk.elim) (fun _ _ => trivial) HB hbase (by rw [hlr]; exact hl) ?_
  intro v1 w1 hr hb hg hat
  exact h v1 w1 (Kd.N_appended h0 hlr hf hnl hnf hokp hfresh hr hg hat) hb hg hat
end
theorem pzSort_drop {k : Nat} {gs outs : List S28} {i : Nat} (h : i < gs.length) : pzSort k (gs.drop i) outs = (pzIns k (gs.getD i z28) outs).bind fun o => pzSort k (gs.drop (i + 1)) o := by
  rw [List.drop_eq_getElem_cons h, List.getD_eq_getElem?_getD, List.getElem?_eq_getElem h]; rfl
theorem pzPos_drop {k : Nat} {g : S28} {outs : List S28} {i : Nat} (h : i < outs.length) : pzPos k g (outs.drop i) i = (spec_gmBefore.f k (outs.getD i z28).f0 (outs.getD i z28).f1 g.f0 g.f1).bind fun b => if b = true then pzPos k g (outs.drop (i + 1)) (i + 1) else some i := by
  rw [List.drop_eq_getElem_cons h, List.getD_eq_getElem?_getD, List.getElem?_eq_getElem h]; rfl
def spec_chGames.f (k : Nat) (n : Int) (l : List (List Int)) : Option (List S28) := if 0 ≤ n ∧ n ≤ 16 then (spec_gmAll.f k n l).bind fun o => if o.length = 2 ^ n.toNat then (spec_chWeighted.f k n o (2 ^ n.toNat) []).bind fun gs => if gs.length ≤ 1000000 then pzSort k gs [] else none else none else none
set_option maxHeartbeats 8000000 in
set_option maxRecDepth 100000 in
theorem spec_chGames.calls (k : Nat) (n : Int) (A : Option Addr) (c : Nat) (l : List (List Int)) (r : List S28) (w : World) (hC : Kd.C (Kd.slice 3 (Kd.int .i64)) w A l.length l) (hc : l.length ≤ c) (h : spec_chGames.f k n l = some r) :
    Calls Tryz.prog 51 #[.agg #[.int .i64 n, .slice A l.length c]] w fun e w' => ∃ v0_ : Value, e = .returned v0_ ∧ Kd.V k28 28 w' w.heap.size (fun k_ => w.heap.size ≤ k_) v0_ r ∧ Below w.heap.size w w' := by
  unfold spec_chGames.f at h
  by_cases c0 : 0 ≤ n ∧ n ≤ 16
  case neg => rw [if_neg c0] at h; cases h
  rw [if_pos c0] at h
  obtain ⟨o, hgm, h⟩ := Option.bind_eq_some_iff.mp h
  by_cases co : o.length = 2 ^ n.toNat
  case neg => rw [if_neg co] at h; cases h
  rw [if_pos co] at h
  obtain ⟨gs, hg, h⟩ := Option.bind_eq_some_iff.mp h
  by_cases c1 : gs.length ≤ 1000000
  case neg => rw [if_neg c1] at h; cases h
  rw [if_pos c1] at h
  have hp16 : 2 ^ n.toNat ≤ 65536 := Nat.pow_le_pow_right (n := 2) (by decide) (show n.toNat ≤ 16 by omega)
  have hp1 : 1 ≤ 2 ^ n.toNat := Nat.one_le_two_pow
  have hji : shl .i64 1 n = ((2 ^ n.toNat : Nat) : Int) := by rw [shl_one n c0]; simp
  generalize 2 ^ n.toNat = N at hji hg hp16 hp1 co
  obtain ⟨hji_, hjiz, hjiu, hjiv, hjiy, hjix⟩ := zJ1 hji
  have hjie := (i64_w _).symm.trans (hjiv (by omega))
  have hmk := run_falses N hp16
  have c00 := c0.1
  have c00b : decide (0 ≤ n) = true := decide_eq_true c00
  have hNb : decide (0 ≤ (N : Int)) = true := decide_eq_true (Int.natCast_nonneg _)
  have HG := Aside0.mk hg
  have HGM := Aside0.mk hgm
  have HH := Aside0.mk h
  have HC := Aside0.mk hC
  have HCO := Aside0.mk co
  have HP1 := Aside0.mk hp1
  clear hg h hC hgm co hp1
  have huG := Tryz.underlying28
  go_enter Tryz.func51, Tryz.ntmps51
  go_wp2_with ((with_reducible refine gate_dst (N := 1) rfl ?_); refine box_event ?hg (N := 1) ?hd (cs := #[.int .i64 n, .slice A l.length c]) (t := 28) ?hr ?_; (case hd => rfl); (case hg => rfl); (case hr => first | (go_simp; done) | (go_simp; rfl)); intro gb hgb w1 hbox hb1; have HBX := Aside0.mk hbox; have HB1 := Aside0.mk hb1; have hgw : w.heap.size ≤ gb := Nat.le_of_eq hgb.symm; have hg1 := blk_lt hbox; clear hbox hb1 hgb)
  have HBX2 := Aside0.mk (blk_alloc HBX.out (.cells #[.slice none 0 0] 42))
  have HB2 := Aside0.mk (HB1.out.alloc HB1.out.size (.cells #[.slice none 0 0] 42))
  have HGO := Aside0.mk (blk_new w1 (.cells #[.slice none 0 0] 42))
  clear HBX
  have hs2 : (w1.alloc (.cells #[.slice none 0 0] 42)).heap.size = w1.heap.size + 1 := by simp
  generalize hw2 : w1.alloc (.cells #[.slice none 0 0] 42) = w2 at *
  refine start_ (n := 9) (S := fun w' => w'.cell? ⟨gb, 0, none⟩ = some (.int .i64 n) ∧ w'.cell? ⟨gb, 1, none⟩ = some (.slice A l.length c)) (ds := []) #[false, false, false, false, false, false, false, false, false] (by kernel_rfl) rfl rfl (⟨(blk_cell (blk_drew HBX2.out) 0).trans rfl, (blk_cell (blk_drew HBX2.out) 1).trans rfl⟩) (fun hHeld => ?_)
  have HBXd := Aside0.mk (blk_drew HBX2.out)
  have HGOd := Aside0.mk (blk_drew HGO.out)
  have HBd := Aside0.mk (HB2.out.trans ((below_drew (Below.refl _ _)).mono HB2.out.size))
  have hs3 : w2.drew.heap.size = w1.heap.size + 1 := hs2
  clear HBX2 HGO HB2 hs2 hw2
  generalize w2.drew = wd at *
  refine zp1 (i := 0) (N := some 9) #[true, false, false, false, false, false, false, false, false] rfl rfl (by kernel_rfl) ?_
  refine take_ (i := 1) (N := some 10) (v := ?_) (a' := ?_) #[true, true, false, false, false, false, false, false, false] rfl rfl (by kernel_rfl) (fun _ _ _ h => h) (Or.inl ⟨by rfl, ?_⟩) hHeld ?_ ?_
  rotate_left
  · rintro w' ⟨s0, s1⟩
    go_simp
    with_reducible rfl
  rotate_left
  · simp only [Act.put, List.setIfInBounds_toArray, List.set_cons_zero, List.set_cons_succ, i64_w, i32_w]
    rfl
  refine zp1 (i := 2) (N := some 11) #[true, true, true, false, false, false, false, false, false] rfl rfl (by kernel_rfl) ?_
  refine take_ (i := 4) (N := some 13) (v := ?_) (a' := ?_) #[true, true, true, false, true, false, false, false, false] rfl rfl (by kernel_rfl) (fun _ _ _ h => h) (Or.inl ⟨by rfl, ?_⟩) hHeld ?_ ?_
  rotate_left
  · rintro w' ⟨s0, s1⟩
    go_simp
    with_reducible rfl
  rotate_left
  · simp only [Act.put, List.setIfInBounds_toArray, List.set_cons_zero, List.set_cons_succ, i64_w, i32_w]
    rfl
  refine zp1 (i := 6) (N := some 15) #[true, true, true, false, true, false, true, false, false] rfl rfl (by kernel_rfl) ?_
  refine take_ (i := 7) (N := some 16) (v := ?_) (a' := ?_) #[true, true, true, false, true, false, true, true, false] rfl rfl (by kernel_rfl) (fun _ _ _ h => h) (Or.inl ⟨by rfl, ?_⟩) hHeld ?_ ?_
  rotate_left
  · rintro w' ⟨s0, s1⟩
    go_simp
    with_reducible rfl
  rotate_left
  · simp only [Act.put, List.setIfInBounds_toArray, List.set_cons_zero, List.set_cons_succ, i64_w, i32_w]
    rfl
  refine join_ (σ := Value × Value) 1 #[true, true, true, true, true, true, true, true, false] (fun s_ => [(12, s_.1), (14, s_.2)]) (fun s_ w' => ∃ b, s_.1 = .slice (some ⟨b, 0, none⟩) N N ∧ wd.heap.size ≤ b ∧ w'.heap[b]? = some (.cells ((List.replicate N false).map Value.bool).toArray 4 (0, 0)) ∧ Kd.R Kd.bool 4 w' wd.heap.size (fun z => wd.heap.size ≤ z ∧ z ≠ b) s_.2 o ∧ Below wd.heap.size wd w') ?_ ?_
  rotate_left
  · intro hCont
    refine two_ (i := 3) (j := 5) (Ni := some 12) (Nj := some 14) #[true, true, true, true, true, false, true, true, false] #[true, true, true, false, true, true, true, true, false] rfl rfl rfl rfl (by kernel_rfl) (by decide) (by decide) (fun K hK => ?_) (fun K hK => ?_)
    · refine value_ (w1 := wd.alloc (.cells ((List.replicate N false).map Value.bool).toArray 4 (0, 0))) (v := .slice (some ⟨wd.heap.size, 0, none⟩) N N) (by rfl) rfl ?_ ?_
      · go_simp
      refine hK.out _ _ ⟨(blk_cell (blk_alloc HBXd.out _) 0).trans rfl, (blk_cell (blk_alloc HBXd.out _) 1).trans rfl⟩ (fun hHeld => ?_)
      clear hK K
      refine zn1 ?_
      have hbw0 := blk_new wd (.cells ((List.replicate N false).map Value.bool).toArray 4 (0, 0))
      have HBa := Aside0.mk ((Below.refl wd.heap.size wd).alloc (Nat.le_refl _) (.cells ((List.replicate N false).map Value.bool).toArray 4 (0, 0)))
      have hsa : (wd.alloc (.cells ((List.replicate N false).map Value.bool).toArray 4 (0, 0))).heap.size = wd.heap.size + 1 := by simp
      have HXa := Aside0.mk (blk_alloc HBXd.out (.cells ((List.replicate N false).map Value.bool).toArray 4 (0, 0)))
      generalize wd.alloc (.cells ((List.replicate N false).map Value.bool).toArray 4 (0, 0)) = wa at *
      refine one_ (i := 5) (N := some 14) #[true, true, true, true, true, true, true, true, false] rfl rfl (by kernel_rfl) (by decide) (fun K hK => ?_)
      refine goes_ Tryz.func53 (by kernel_rfl) rfl #[.agg #[.int .i64 n, .slice A l.length c]] (by rfl) rfl rfl (by (try simp only [List.map_toArray, List.map_cons, List.map_nil]); first | done | rfl) ?_
      refine (spec_gmAll.calls k n A c l o _ (Kd.C_below HC.out (HBd.out.trans (HBa.out.mono HBd.out.size))) hc HGM.out).mono ?_
      rintro e wz ⟨v14, rfl, hR, hbz⟩
      refine ⟨_, rfl, ?_⟩
      refine hK.out _ _ ⟨(blk_cell (blk_below HXa.out hbz) 0).trans rfl, (blk_cell (blk_below HXa.out hbz) 1).trans rfl⟩ (fun hHeld => ?_)
      clear hK K
      refine zn1 ?_
      exact norm_ (by simp only [putAll, Act.put, List.setIfInBounds_toArray, List.set_cons_zero, List.set_cons_succ]) (hCont (.slice (some ⟨wd.heap.size, 0, none⟩) N N, v14) _ ⟨wd.heap.size, rfl, Nat.le_refl _, blk_below hbw0 hbz, Kd.R_lower (Kd.R_mono (Kd.R_bound hR) (fun z hz => ⟨by have := hz.2.1; omega, by have := hz.2.1; omega⟩)) (by omega), HBa.out.trans (hbz.mono HBa.out.size)⟩)
    · refine goes_ Tryz.func53 (by kernel_rfl) rfl #[.agg #[.int .i64 n, .slice A l.length c]] (by rfl) rfl rfl (by (try simp only [List.map_toArray, List.map_cons, List.map_nil]); first | done | rfl) ?_
      refine (spec_gmAll.calls k n A c l o _ (Kd.C_below HC.out HBd.out) hc HGM.out).mono ?_
      rintro e wz ⟨v14, rfl, hR, hbz⟩
      refine ⟨_, rfl, ?_⟩
      refine hK.out _ _ ⟨(blk_cell (blk_below HBXd.out hbz) 0).trans rfl, (blk_cell (blk_below HBXd.out hbz) 1).trans rfl⟩ (fun hHeld => ?_)
      clear hK K
      refine zn1 ?_
      refine one_ (i := 3) (N := some 12) #[true, true, true, true, true, true, true, true, false] rfl rfl (by kernel_rfl) (by decide) (fun K hK => ?_)
      refine value_ (w1 := wz.alloc (.cells ((List.replicate N false).map Value.bool).toArray 4 (0, 0))) (v := .slice (some ⟨wz.heap.size, 0, none⟩) N N) (by rfl) rfl ?_ ?_
      · go_simp
      refine hK.out _ _ ⟨(blk_cell (blk_alloc (blk_below HBXd.out hbz) _) 0).trans rfl, (blk_cell (blk_alloc (blk_below HBXd.out hbz) _) 1).trans rfl⟩ (fun hHeld => ?_)
      clear hK K
      refine zn1 ?_
      exact norm_ (by simp only [putAll, Act.put, List.setIfInBounds_toArray, List.set_cons_zero, List.set_cons_succ]) (hCont (.slice (some ⟨wz.heap.size, 0, none⟩) N N, v14) _ ⟨wz.heap.size, rfl, hbz.size, blk_new wz _, Kd.R_alloc (Kd.R_mono (Kd.R_bound hR) (fun z hz => ⟨hz.2.1, by have := hz.2.2; omega⟩)) _, hbz.alloc hbz.size _⟩)
  rintro ⟨v12, v14⟩ wj ⟨bw, e12, hbw, hw12, hR, hbj⟩
  dsimp only at e12 hR
  subst e12
  obtain ⟨Ao, cov, rfl⟩ := Kd.R_slice hR
  have HR := Aside0.mk hR
  have hoc := (Kd.R_reads' hR).2.1
  have HBJ := Aside0.mk (HBd.out.trans (hbj.mono HBd.out.size))
  have HOJ := Aside0.mk (blk_below HGOd.out hbj)
  have HWJ := Aside0.mk hw12
  have HXJ := Aside0.mk (blk_below HBXd.out hbj)
  have hwj := blk_lt hw12
  have hoj := blk_lt HOJ.out
  clear hR hbj hw12 HGOd HBXd HBd hHeld
  refine norm_ (a' := ?_) ?_ ?_
  rotate_left
  · simp only [putAll, Act.put, List.setIfInBounds_toArray, List.set_cons_zero, List.set_cons_succ]
    rfl
  have hne : bw ≠ w1.heap.size := by omega
  have hSt : ChSt bw w1.heap.size w wj wj (List.replicate N false) (.slice none 0 0) [] := ⟨Kd.N_nil _ _ _ _ _, HOJ.out, HWJ.out, Kept.refl _ _, HBJ.out⟩
  have hcl := spec_chWeighted.calls k n Ao cov o bw w1.heap.size w wj (Kd.C_kept_own HR.out (fun z hz he => he.elim hz.2 (fun he => by have := hz.1; omega))) hoc hne (by omega) HB1.out.size hwj hoj N HCO.out hp16 HP1.out N [] (List.replicate N false) 0 [] gs (.slice none 0 0) wj rfl (by omega) (by simp) (by simp) (by simpa using c1) HG.out hSt
  refine one_ (i := 8) (N := some 17) #[true, true, true, true, true, true, true, true, true] rfl rfl (by kernel_rfl) (by decide) (fun K hK => ?_)
  refine goes_ Tryz.func85 (by kernel_rfl) rfl #[.slice (some ⟨bw, 0, none⟩) N N, .slice Ao o.length cov, .int .i64 (0 : Nat), .int .i64 n, .pointer (some ⟨w1.heap.size, 0, none⟩)] (by rfl) rfl rfl (by (try simp only [List.map_toArray, List.map_cons, List.map_nil]); first | done | rfl) ?_
  refine hcl.mono ?_
  clear hcl hSt
  rintro e wc ⟨rfl, v1, ws', hS1, -, -⟩
  refine ⟨_, rfl, ?_⟩
  rw [List.nil_append] at hS1
  refine hK.out _ _ ⟨(blk_cell (blk_kept HXJ.out hS1.K (fun he => he.elim (fun he => by omega) (fun he => by omega))) 0).trans rfl, (blk_cell (blk_kept HXJ.out hS1.K (fun he => he.elim (fun he => by omega) (fun he => by omega))) 1).trans rfl⟩ (fun hHeld => ?_)
  clear hK K hHeld
  refine zn1 ?_
  refine done_ (by kernel_rfl) ?_
  obtain ⟨A1, cA, rfl⟩ := Kd.N_slice hS1.N
  have hx0 := (blk_cell hS1.O 0).trans rfl
  have HA := Aside0.mk (Kd.F_mono (Kd.F_bound (Kd.N_F hS1.N)) (ok' := fun z => w.heap.size ≤ z ∧ z < wc.heap.size) (fun z hz => ⟨Nat.le_trans HBJ.out.size hz.1, hz.2⟩))
  have HB := Aside0.mk hS1.B
  clear hS1 hmk hji hji_ hjiz hjiu hjiv hjiy hjix hjie hNb c00b HG HR HXJ HWJ HOJ HBJ HGM HC HCO HP1 HB1 hbw hne hoc hwj hoj hgw hg1 hs3
  obtain ⟨w1, rfl⟩ : ∃ w1, w1 = wc := ⟨wc, rfl⟩
  obtain ⟨inf, hinf, _, hinf2, _⟩ := info_parts info28
  go_wp2_with fail
  go_loopg [4, 20] gs.length (fun gg v6 v19 wr => ∃ (kk : Nat) (Ao : Option Addr) (co : Nat) (outs : List S28), kk ≤ gs.length ∧ gs.length - kk ≤ gg ∧ v6 = .slice Ao outs.length co ∧ v19 = .int .i64 kk ∧ Aside0 (outs.length = kk) ∧ outs.length ≤ co ∧ Aside0 (pzSort k (gs.drop kk) outs = some r) ∧ Aside0 (Kd.F k28 wr (fun z => w.heap.size ≤ z ∧ z < wr.heap.size) Ao outs.length outs) ∧ Aside0 (Below w1.heap.size w1 wr))
  case atStart => exact ⟨0, none, 0, [], Nat.zero_le _, Nat.le_refl _, rfl, rfl, ⟨rfl⟩, Nat.le_refl _, HH, ⟨Kd.F_nil _ _ _⟩, ⟨Below.refl _ _⟩⟩
  case round =>
    clear HH hx0
    obtain ⟨kk, Ao, co, outs, hkk, hg, rfl, rfl, HOL, hoc, HT, HO, HB1⟩ := hrel
    by_cases hlt : kk < gs.length
    · obtain ⟨wo, rfl⟩ : ∃ wo, wo = wr := ⟨wr, rfl⟩
      have hltz : (kk : Int) < (gs.length : Int) := Int.ofNat_lt.2 hlt
      have hol : outs.length < 1000000 := by have := HOL.out; omega
      obtain ⟨ad, cc, e, _, hK, hcc, _⟩ := Kd.F_get (Kd.F_below HA.out HB1.out) z28 (kk : Int) (Int.natCast_nonneg _) hltz
      subst e
      rw [Int.toNat_natCast] at hK hcc
      have hT := HT.out
      rw [pzSort_drop hlt] at hT
      generalize gs.getD kk z28 = g at hK hT
      obtain ⟨o2, ho2, hT⟩ := Option.bind_eq_some_iff.mp hT
      obtain ⟨pos, hpos, ho2⟩ := Option.bind_eq_some_iff.mp ho2
      obtain rfl := Option.some.inj ho2
      obtain ⟨Ag, cg, rfl, hgl, hgF⟩ := k28_openF hK
      have x0 : wo.cell? (ad.add (kk * 2)) = some (.int .i64 g.f0) := hcc 0 _ rfl
      have x1 : wo.cell? ⟨(ad.add (kk * 2)).block, (ad.add (kk * 2)).off + 1, none⟩ = some (.slice Ag g.f1.length cg) := by rw [← add_field _ _ 1 (by omega)]; exact hcc 1 _ rfl
      have HPOS := Aside0.mk hpos
      have HT2a := Aside0.mk hT
      have HGF := Aside0.mk (Kd.FK_mono hK (ok' := fun z => w.heap.size ≤ z ∧ z < wo.heap.size) (fun z hz => ⟨hz.1, Nat.lt_of_lt_of_le hz.2 HB1.out.size⟩))
      have HGC := Aside0.mk (Kd.F_now hgF)
      clear hK hcc hT hpos ho2 HT hgF
      go_wp2_with fail
      go_loopg [7] outs.length (fun gg v9 wr => ∃ i : Nat, i ≤ outs.length ∧ outs.length - i ≤ gg ∧ v9 = .int .i64 i ∧ Aside0 (pzPos k g (outs.drop i) i = some pos) ∧ Aside0 (Below wo.heap.size wo wr) ∧ Aside0 (wr.heap[wo.heap.size]? = some (.cells #[.int .i64 g.f0, .slice Ag g.f1.length cg] 28 (0, 0))))
      case atStart => exact ⟨0, Nat.zero_le _, Nat.le_refl _, rfl, HPOS, ⟨(Below.refl _ wo).alloc (Nat.le_refl _) _⟩, ⟨blk_new wo _⟩⟩
      case round =>
        clear HPOS x0 x1
        obtain ⟨i, hi, hgi, rfl, HPOS, HQ, HGB⟩ := hrel
        have HOQ := Aside0.mk (Kd.F_mono (Kd.F_below HO.out HQ.out) (ok' := fun z => w.heap.size ≤ z ∧ z < wr.heap.size) (fun z hz => ⟨hz.1, Nat.lt_of_lt_of_le hz.2 HQ.out.size⟩))
        have HGFQ := Aside0.mk (Kd.FK_mono (Kd.FK_below HGF.out HQ.out) (ok' := fun z => w.heap.size ≤ z ∧ z < wr.heap.size) (fun z hz => ⟨hz.1, Nat.lt_of_lt_of_le hz.2 HQ.out.size⟩))
        have HA1 := Aside0.mk (HB1.out.trans (HQ.out.mono HB1.out.size))
        have HBQ := Aside0.mk (HB.out.trans (HA1.out.mono HB.out.size))
        by_cases hil : i < outs.length
        case' pos =>
          have hiz : (i : Int) < (outs.length : Int) := Int.ofNat_lt.2 hil
          have hizb : decide ((i : Int) < (outs.length : Int)) = true := decide_eq_true hiz
          obtain ⟨bd, cc2, e2, _, hK2, hcc2, _⟩ := Kd.F_get HOQ.out z28 (i : Int) (Int.natCast_nonneg _) hiz
          subst e2
          rw [Int.toNat_natCast] at hK2 hcc2
          have hP := HPOS.out
          rw [pzPos_drop hil] at hP
          generalize outs.getD i z28 = x at hK2 hP
          obtain ⟨bb, hbb, hP⟩ := Option.bind_eq_some_iff.mp hP
          obtain ⟨Ax, cx, rfl, hxl, hxF⟩ := k28_openF hK2
          have y0 : wr.cell? (bd.add (i * 2)) = some (.int .i64 x.f0) := hcc2 0 _ rfl
          have y1 : wr.cell? ⟨(bd.add (i * 2)).block, (bd.add (i * 2)).off + 1, none⟩ = some (.slice Ax x.f1.length cx) := by rw [← add_field _ _ 1 (by omega)]; exact hcc2 1 _ rfl
          have HXC := Aside0.mk (Kd.F_now hxF)
          have HGC2 := Aside0.mk (Kd.C_below HGC.out HQ.out)
          have HBB := Aside0.mk hbb
          have HP2 := Aside0.mk hP
          have hci : (0 : Int) ≤ (i : Int) := Int.natCast_nonneg _
          have hcib : decide ((0 : Int) ≤ (i : Int)) = true := decide_eq_true hci
          clear hK2 hcc2 hP hbb hxF HPOS
          go_wp2_with fail
          refine start_ (n := 12) (S := fun w' => w'.cell? ⟨wo.heap.size, 0, none⟩ = some (.int .i64 g.f0) ∧ w'.cell? ⟨wo.heap.size, 1, none⟩ = some (.slice Ag g.f1.length cg) ∧ w'.cell? (bd.add (i * 2)) = some (.int .i64 x.f0) ∧ w'.cell? ⟨(bd.add (i * 2)).block, (bd.add (i * 2)).off + 1, none⟩ = some (.slice Ax x.f1.length cx)) (ds := []) #[false, false, false, false, false, false, false, false, false, false, false, false] (by kernel_rfl) rfl rfl (⟨(blk_cell (blk_drew HGB.out) 0).trans rfl, (blk_cell (blk_drew HGB.out) 1).trans rfl, y0, y1⟩) (fun hHeld => ?_)
          have HDR := Aside0.mk (below_drew (Below.refl wr.heap.size wr))
          generalize hwd : wr.drew = wd0 at *
          refine zp1 (i := 0) (N := some 24) #[true, false, false, false, false, false, false, false, false, false, false, false] rfl rfl (by kernel_rfl) ?_
          refine zp1 (i := 1) (N := some 25) #[true, true, false, false, false, false, false, false, false, false, false, false] rfl rfl (by kernel_rfl) ?_
          refine zp1 (i := 2) (N := some 26) #[true, true, true, false, false, false, false, false, false, false, false, false] rfl rfl (by kernel_rfl) ?_
          refine zp1 (i := 3) (N := some 27) #[true, true, true, true, false, false, false, false, false, false, false, false] rfl rfl (by kernel_rfl) ?_
          refine zp1 (i := 4) (N := some 28) #[true, true, true, true, true, false, false, false, false, false, false, false] rfl rfl (by kernel_rfl) ?_
          refine zp1 (i := 5) (N := some 29) #[true, true, true, true, true, true, false, false, false, false, false, false] rfl rfl (by kernel_rfl) ?_
          refine zp1 (i := 6) (N := some 30) #[true, true, true, true, true, true, true, false, false, false, false, false] rfl rfl (by kernel_rfl) ?_
          refine zp1 (i := 7) (N := some 31) #[true, true, true, true, true, true, true, true, false, false, false, false] rfl rfl (by kernel_rfl) ?_
          refine take_ (i := 8) (N := some 32) (v := ?_) (a' := ?_) #[true, true, true, true, true, true, true, true, true, false, false, false] rfl rfl (by kernel_rfl) (fun _ _ _ h => h) (Or.inl ⟨by rfl, ?_⟩) hHeld ?_ ?_
          rotate_left
          · rintro w' ⟨s0, s1, s2, s3⟩
            go_simp
            with_reducible rfl
          rotate_left
          · simp only [Act.put, List.setIfInBounds_toArray, List.set_cons_zero, List.set_cons_succ, i64_w, i32_w]
            rfl
          refine take_ (i := 9) (N := some 33) (v := ?_) (a' := ?_) #[true, true, true, true, true, true, true, true, true, true, false, false] rfl rfl (by kernel_rfl) (fun _ _ _ h => h) (Or.inl ⟨by rfl, ?_⟩) hHeld ?_ ?_
          rotate_left
          · rintro w' ⟨s0, s1, s2, s3⟩
            go_simp
            with_reducible rfl
          rotate_left
          · simp only [Act.put, List.setIfInBounds_toArray, List.set_cons_zero, List.set_cons_succ, i64_w, i32_w]
            rfl
          refine one_ (i := 10) (N := some 34) #[true, true, true, true, true, true, true, true, true, true, true, false] rfl rfl (by kernel_rfl) (by decide) (fun K hK => ?_)
          refine goes_ Tryz.func71 (by kernel_rfl) rfl #[.agg #[.int .i64 x.f0, .slice Ax x.f1.length cx], .agg #[.int .i64 g.f0, .slice Ag g.f1.length cg]] (by rfl) rfl rfl (by (try simp only [List.map_toArray, List.map_cons, List.map_nil]); first | done | rfl) ?_
          refine (spec_gmBefore.calls k x.f0 Ax cx x.f1 g.f0 Ag cg g.f1 bb _ (Kd.C_below HXC.out HDR.out) hxl (Kd.C_below HGC2.out HDR.out) hgl HBB.out).mono ?_
          rintro e wz ⟨rfl, hbz⟩
          refine ⟨_, rfl, ?_⟩
          have HZ := Aside0.mk (HDR.out.trans (hbz.mono HDR.out.size))
          refine hK.out _ _ (⟨(blk_cell (blk_below HGB.out HZ.out) 0).trans rfl, (blk_cell (blk_below HGB.out HZ.out) 1).trans rfl, (HZ.out.cell (World.block_lt_of_cell? wr _ y0)).trans y0, (HZ.out.cell (World.block_lt_of_cell? wr _ y1)).trans y1⟩) (fun hHeld => ?_)
          clear hK K
          refine zn1 ?_
          clear hbz y0 y1
          refine zp1 (i := 11) (N := some 35) #[true, true, true, true, true, true, true, true, true, true, true, true] rfl rfl (by kernel_rfl) ?_
          refine done_ (by kernel_rfl) ?_
          cases bb
          case true =>
            have hP := HP2.out
            rw [if_pos rfl] at hP
            have HP3 := Aside0.mk hP
            clear hP HP2
            go_wp2
            go_roundg (outs.length - (i + 1))
            case measure => exact om2 hil hgi
            case rel => exact ⟨i + 1, hil, Nat.le_refl _, by congr 1; (try exact om3 hil (Nat.le_trans (Nat.le_of_lt hol) (by decide))), HP3, ⟨HQ.out.trans (HZ.out.mono HQ.out.size)⟩, ⟨blk_below HGB.out HZ.out⟩⟩
          case' false =>
            have hP := HP2.out
            rw [if_neg (by decide)] at hP
            obtain rfl := Option.some.inj hP
            have HT2 := HT2a
            clear hP HP2
            have HGBz := Aside0.mk (blk_below HGB.out HZ.out)
            have HOQz := Aside0.mk (Kd.F_mono (Kd.F_below HOQ.out HZ.out) (ok' := fun z => w.heap.size ≤ z ∧ z < wz.heap.size) (fun z hz => ⟨hz.1, Nat.lt_of_lt_of_le hz.2 HZ.out.size⟩))
            have HGFQz := Aside0.mk (Kd.FK_mono (Kd.FK_below HGFQ.out HZ.out) (ok' := fun z => w.heap.size ≤ z ∧ z < wz.heap.size) (fun z hz => ⟨hz.1, Nat.lt_of_lt_of_le hz.2 HZ.out.size⟩))
            have HA1z := Aside0.mk (HA1.out.trans (HZ.out.mono HA1.out.size))
            have HBQz := Aside0.mk (HBQ.out.trans (HZ.out.mono HBQ.out.size))
            clear HGB HOQ HGFQ HA1 HBQ HGC HGC2 HXC HBB HT2a HGF HQ
            have HGB := HGBz
            have HOQ := HOQz
            have HGFQ := HGFQz
            have HA1 := HA1z
            have HBQ := HBQz
            clear HGBz HOQz HGFQz HA1z HBQz HZ
            obtain ⟨wd0, rfl⟩ : ∃ wd0, wd0 = wz := ⟨wz, rfl⟩
            generalize (some bd : Option Addr) = Ao at *
        case' neg =>
          have hiz : ¬ (i : Int) < (outs.length : Int) := fun e => hil (Int.ofNat_lt.1 e)
          have hizb : decide ((i : Int) < (outs.length : Int)) = false := decide_eq_false hiz
          have hie : i = outs.length := Nat.le_antisymm hi (Nat.le_of_not_lt hil)
          have hP := HPOS.out
          rw [List.drop_of_length_le (Nat.le_of_eq hie.symm)] at hP
          obtain rfl := Option.some.inj hP
          have HT2 := HT2a
          clear hP HPOS hie HGC HT2a HGF HQ
          go_wp2_with fail
          refine start_ (n := 12) (S := fun w' => w'.cell? ⟨wo.heap.size, 0, none⟩ = some (.int .i64 g.f0) ∧ w'.cell? ⟨wo.heap.size, 1, none⟩ = some (.slice Ag g.f1.length cg)) (ds := []) #[false, false, false, false, false, false, false, false, false, false, false, false] (by kernel_rfl) rfl rfl (⟨(blk_cell (blk_drew HGB.out) 0).trans rfl, (blk_cell (blk_drew HGB.out) 1).trans rfl⟩) (fun hHeld => ?_)
          have HDR := Aside0.mk (below_drew (Below.refl wr.heap.size wr))
          generalize hwd : wr.drew = wd0 at *
          refine zp1 (i := 0) (N := some 24) #[true, false, false, false, false, false, false, false, false, false, false, false] rfl rfl (by kernel_rfl) ?_
          refine zp1 (i := 1) (N := some 25) #[true, true, false, false, false, false, false, false, false, false, false, false] rfl rfl (by kernel_rfl) ?_
          refine zp1 (i := 2) (N := some 26) #[true, true, true, false, false, false, false, false, false, false, false, false] rfl rfl (by kernel_rfl) ?_
          refine zp1 (i := 3) (N := some 27) #[true, true, true, true, false, false, false, false, false, false, false, false] rfl rfl (by kernel_rfl) ?_
          refine zp1 (i := 4) (N := some 28) #[true, true, true, true, true, false, false, false, false, false, false, false] rfl rfl (by kernel_rfl) ?_
          refine pure_ (i := 5) (N := some 29) (v := undef) (a' := ?_) #[true, true, true, true, true, true, false, false, false, false, false, false] rfl rfl (by kernel_rfl) (fun _ _ _ h => h) (Or.inr ⟨by rfl, rfl⟩) ?_ ?_
          rotate_left
          · simp only [Act.put, List.setIfInBounds_toArray, List.set_cons_zero, List.set_cons_succ, i64_w, i32_w]
            rfl
          refine pure_ (i := 6) (N := some 30) (v := undef) (a' := ?_) #[true, true, true, true, true, true, true, false, false, false, false, false] rfl rfl (by kernel_rfl) (fun _ _ _ h => h) (Or.inr ⟨by rfl, rfl⟩) ?_ ?_
          rotate_left
          · simp only [Act.put, List.setIfInBounds_toArray, List.set_cons_zero, List.set_cons_succ, i64_w, i32_w]
            rfl
          refine pure_ (i := 7) (N := some 31) (v := undef) (a' := ?_) #[true, true, true, true, true, true, true, true, false, false, false, false] rfl rfl (by kernel_rfl) (fun _ _ _ h => h) (Or.inr ⟨by rfl, rfl⟩) ?_ ?_
          rotate_left
          · simp only [Act.put, List.setIfInBounds_toArray, List.set_cons_zero, List.set_cons_succ, i64_w, i32_w]
            rfl
          refine pure_ (i := 8) (N := some 32) (v := undef) (a' := ?_) #[true, true, true, true, true, true, true, true, true, false, false, false] rfl rfl (by kernel_rfl) (fun _ _ _ h => h) (Or.inr ⟨by rfl, rfl⟩) ?_ ?_
          rotate_left
          · simp only [Act.put, List.setIfInBounds_toArray, List.set_cons_zero, List.set_cons_succ, i64_w, i32_w]
            rfl
          refine pure_ (i := 9) (N := some 33) (v := undef) (a' := ?_) #[true, true, true, true, true, true, true, true, true, true, false, false] rfl rfl (by kernel_rfl) (fun _ _ _ h => h) (Or.inr ⟨by rfl, rfl⟩) ?_ ?_
          rotate_left
          · simp only [Act.put, List.setIfInBounds_toArray, List.set_cons_zero, List.set_cons_succ, i64_w, i32_w]
            rfl
          refine pure_ (i := 10) (N := some 34) (v := undef) (a' := ?_) #[true, true, true, true, true, true, true, true, true, true, true, false] rfl rfl (by kernel_rfl) (fun _ _ _ h => h) (Or.inr ⟨by rfl, rfl⟩) ?_ ?_
          rotate_left
          · simp only [Act.put, List.setIfInBounds_toArray, List.set_cons_zero, List.set_cons_succ, i64_w, i32_w]
            rfl
          refine zp1 (i := 11) (N := some 35) #[true, true, true, true, true, true, true, true, true, true, true, true] rfl rfl (by kernel_rfl) ?_
          refine done_ (by kernel_rfl) ?_
          have HGBd := Aside0.mk (blk_below HGB.out HDR.out)
          have HOQd := Aside0.mk (Kd.F_mono (Kd.F_below HOQ.out HDR.out) (ok' := fun z => w.heap.size ≤ z ∧ z < wd0.heap.size) (fun z hz => ⟨hz.1, Nat.lt_of_lt_of_le hz.2 HDR.out.size⟩))
          have HGFQd := Aside0.mk (Kd.FK_mono (Kd.FK_below HGFQ.out HDR.out) (ok' := fun z => w.heap.size ≤ z ∧ z < wd0.heap.size) (fun z hz => ⟨hz.1, Nat.lt_of_lt_of_le hz.2 HDR.out.size⟩))
          have HA1d := Aside0.mk (HA1.out.trans (HDR.out.mono HA1.out.size))
          have HBQd := Aside0.mk (HBQ.out.trans (HDR.out.mono HBQ.out.size))
          clear HGB HOQ HGFQ HA1 HBQ hHeld
          have HGB := HGBd
          have HOQ := HOQd
          have HGFQ := HGFQd
          have HA1 := HA1d
          have HBQ := HBQd
          clear HGBd HOQd HGFQd HA1d HBQd HDR
          go_wp2_with fail
        all_goals (
           have hcut1 := cut_to (P := Tryz.prog) 42 28 .i64 Tryz.underlying42 hinf Ao outs.length co (i : Int) (Int.natCast_nonneg _) (Int.ofNat_le.2 hi) hoc
           simp only [Int.toNat_natCast] at hcut1
           have hcut2 := cut_from (P := Tryz.prog) 42 28 .i64 Tryz.underlying42 hinf 2 hinf2 Ao outs.length co (i : Int) (Int.natCast_nonneg _) (Int.ofNat_le.2 hi)
           simp only [Int.toNat_natCast] at hcut2
           obtain ⟨A2c, hA2c⟩ : ∃ A2c : Option Addr, A2c = (if co = i then Ao else (Ao : Option Addr).map (·.add (i * 2))) := ⟨_, rfl⟩
           obtain ⟨c2c, hc2c⟩ : ∃ c2c : Nat, c2c = co - i := ⟨_, rfl⟩
           obtain ⟨n2c, hn2c⟩ : ∃ n2c : Nat, n2c = outs.length - i := ⟨_, rfl⟩
           rw [← hA2c, ← hc2c, ← hn2c] at hcut2
           have hib : decide (0 ≤ (i : Int)) = true := decide_eq_true (Int.natCast_nonneg _)
           have hlt1 : (outs.take i).length = i := by rw [List.length_take]; exact Nat.min_eq_left hi
           have hld1 : (outs.drop i).length = outs.length - i := List.length_drop
           have HF1 := Aside0.mk (show Kd.F k28 wd0 (fun z => w.heap.size ≤ z ∧ z < wd0.heap.size) Ao i (outs.take i) from by have := Kd.F_take HOQ.out hi; rwa [hlt1] at this)
           have HF2 := Aside0.mk (show Kd.F k28 wd0 (fun z => w.heap.size ≤ z ∧ z < wd0.heap.size) A2c n2c (outs.drop i) from by have := Kd.F_cut HOQ.out hi hoc; rw [hld1] at this; rw [hA2c, hn2c]; exact this)
           have HN2c := Aside0.mk hn2c
           clear hA2c hc2c hn2c
           go_wp2_with fail
           refine start_ (n := 9) (S := fun w' => w'.cell? ⟨wo.heap.size, 0, none⟩ = some (.int .i64 g.f0) ∧ w'.cell? ⟨wo.heap.size, 1, none⟩ = some (.slice Ag g.f1.length cg)) (ds := []) #[false, false, false, false, false, false, false, false, false] (by kernel_rfl) rfl rfl (⟨(blk_cell (blk_drew HGB.out) 0).trans rfl, (blk_cell (blk_drew HGB.out) 1).trans rfl⟩) (fun hHeld => ?_)
           have HBD := Aside0.mk (HBQ.out.trans ((below_drew (Below.refl _ _)).mono HBQ.out.size))
           have HAD := Aside0.mk (Below.trans HA1.out ((below_drew (Below.refl _ _)).mono HA1.out.size))
           have HF1d := Aside0.mk (Kd.F_drew HF1.out)
           have HF2d := Aside0.mk (Kd.F_drew HF2.out)
           have HGd := Aside0.mk (blk_drew HGB.out)
           have HGFd := Aside0.mk (Kd.FK_below HGFQ.out (below_drew (Below.refl _ _)))
           have hsz : wd0.drew.heap.size = wd0.heap.size := rfl
           clear HF1 HF2 HGB HGFQ HOQ HBQ HA1
           rw [← hsz] at HF1d HF2d HGFd
           clear hsz
           generalize wd0.drew = wd at *
           refine zp1 (i := 1) (N := some 39) #[false, true, false, false, false, false, false, false, false] rfl rfl (by kernel_rfl) ?_
           refine zp1 (i := 2) (N := some 40) #[false, true, true, false, false, false, false, false, false] rfl rfl (by kernel_rfl) ?_
           refine zp1 (i := 3) (N := some 41) #[false, true, true, true, false, false, false, false, false] rfl rfl (by kernel_rfl) ?_
           refine take_ (i := 5) (N := some 43) (v := ?_) (a' := ?_) #[false, true, true, true, false, true, false, false, false] rfl rfl (by kernel_rfl) (fun _ _ _ h => h) (Or.inl ⟨by rfl, ?_⟩) hHeld ?_ ?_
           rotate_left
           · rintro w' ⟨s0, s1⟩
             go_simp
             with_reducible rfl
           rotate_left
           · simp only [Act.put, List.setIfInBounds_toArray, List.set_cons_zero, List.set_cons_succ, i64_w, i32_w]
             rfl
           refine join_ (σ := Value × Value × Value) 2 #[true, true, true, true, true, true, true, false, false] (fun s_ => [(38, s_.1), (42, s_.2.1), (44, s_.2.2)]) (fun s_ w' => Kd.N k28 28 w' wd.heap.size (fun z => w.heap.size ≤ z) s_.2.1 (outs.take i) ∧ (∃ b, s_.2.2 = .slice (some ⟨b, 0, none⟩) 1 1 ∧ w'.heap[b]? = some (.cells #[.int .i64 g.f0, .slice Ag g.f1.length cg] 28 (0, 0)) ∧ some b ≠ s_.2.1.ownBlock) ∧ Below wd.heap.size wd w') ?_ ?_
           rotate_left
           · intro hCont
             refine two_ (i := 0) (j := 6) (Ni := some 38) (Nj := some 44) #[true, true, true, true, false, true, false, false, false] #[false, true, true, true, false, true, true, false, false] rfl rfl rfl rfl (by kernel_rfl) (by decide) (by decide) (fun K hK => ?_) (fun K hK => ?_)
             · refine Kd.N_lit_step k28 _ 28 ?hg (N' := 38) ?hd (xs := ([] : List S28)) (inner := []) (ok := fun _ => True) (okp := fun _ => False) ?hr ?hp (fun _ hk => hk.elim) trivial (Below.refl _ _) (Nat.le_refl _) (by simp) ?_
               case hd => rfl
               case hg => rfl
               case hr => first | (go_simp; done) | (go_simp; rfl)
               case hp => exact Reps.none _ _
               intro v37 wa hn37 hba _ hnew
               have HN37 := Aside0.mk (Kd.N_mono (Kd.N_lower hn37 (Nat.le_refl wd.heap.size)) (ok' := fun z => w.heap.size ≤ z ∨ True) (fun _ _ => .inr trivial))
               have hN37 : Kd.N k28 28 wa wd.heap.size (fun z => w.heap.size ≤ z) v37 [] := N_own hn37 (Nat.le_trans HBD.out.size (Nat.le_refl _))
               have HN37 := Aside0.mk hN37
               have HBa := Aside0.mk hba
               clear hn37 hba hN37 hnew
               refine hK.out _ _ ⟨(blk_cell (blk_below HGd.out HBa.out) 0).trans rfl, (blk_cell (blk_below HGd.out HBa.out) 1).trans rfl⟩ (fun hHeld => ?_)
               clear hK K
               refine zn1 ?_
               refine two_ (i := 4) (j := 6) (Ni := some 42) (Nj := some 44) #[true, true, true, true, true, true, false, false, false] #[true, true, true, true, false, true, true, false, false] rfl rfl rfl rfl (by kernel_rfl) (by decide) (by decide) (fun K hK => ?_) (fun K hK => ?_)
               · refine Kd.N_append_rows_step k28 (w0 := wd) wd.heap.size (by rfl) (.tmp 38) (.tmp 41) 42 28 (.agg #[(.int .i64 0), (.slice none 0 0)]) 32 rfl Tryz.underlying42 info28 rfl (by decide) (by omega) v37 [] (outs.take i) Ao i co (fun z => w.heap.size ≤ z) (fun z => w.heap.size ≤ z ∧ z < wd.heap.size) rfl rfl HN37.out (Kd.F_below HF1d.out HBa.out) (fun z hz => ⟨hz.1, fun he => by have := Kd.N_base HN37.out z he.symm; exact absurd hz.2 (Nat.not_lt.2 this)⟩) (fun z hz => Nat.le_trans HBD.out.size (Nat.le_trans (Below.size HBa.out) hz)) HBa.out (Below.size HBa.out) (by have := hol; simp; omega) ?_
                 intro v41 wb hn41 hbb hgb hat
                 rw [List.nil_append] at hn41
                 have HN41 := Aside0.mk hn41
                 have HBb := Aside0.mk hbb
                 clear hn41 hbb hgb hat HN37 HBa
                 refine hK.out _ _ ⟨(blk_cell (blk_below HGd.out HBb.out) 0).trans rfl, (blk_cell (blk_below HGd.out HBb.out) 1).trans rfl⟩ (fun hHeld => ?_)
                 clear hK K
                 refine zn1 ?_
                 refine one_ (i := 6) (N := some 44) #[true, true, true, true, true, true, true, false, false] rfl rfl (by kernel_rfl) (by decide) (fun K hK => ?_)
                 refine value_ (w1 := ?_) (v := ?_) (by rfl) rfl ?_ ?_
                 rotate_left 2
                 · go_simp
                   constructor
                   · rfl
                   · rfl
                 refine hK.out _ _ ⟨(blk_cell (blk_alloc (blk_below HGd.out HBb.out) _) 0).trans rfl, (blk_cell (blk_alloc (blk_below HGd.out HBb.out) _) 1).trans rfl⟩ (fun hHeld => ?_)
                 clear hK K
                 refine zn1 ?_
                 exact norm_ (by simp only [putAll, Act.put, List.setIfInBounds_toArray, List.set_cons_zero, List.set_cons_succ]) (hCont (v37, v41, .slice (some ⟨wb.heap.size, 0, none⟩) 1 1) _ ⟨Kd.N_alloc HN41.out _, ⟨_, rfl, blk_new wb _, fun he => Nat.lt_irrefl _ (Kd.N_lt HN41.out _ he.symm)⟩, HBb.out.alloc HBb.out.size _⟩)
               · refine value_ (w1 := ?_) (v := ?_) (by rfl) rfl ?_ ?_
                 rotate_left 2
                 · go_simp
                   constructor
                   · rfl
                   · rfl
                 refine hK.out _ _ ⟨(blk_cell (blk_alloc (blk_below HGd.out HBa.out) _) 0).trans rfl, (blk_cell (blk_alloc (blk_below HGd.out HBa.out) _) 1).trans rfl⟩ (fun hHeld => ?_)
                 clear hK K
                 refine zn1 ?_
                 have hb43 := blk_new wa (.cells #[.int .i64 g.f0, .slice Ag g.f1.length cg] 28 (0, 0))
                 have hne43 : some wa.heap.size ≠ v37.ownBlock := fun he => Nat.lt_irrefl _ (Kd.N_lt HN37.out _ he.symm)
                 have HN37b := Aside0.mk (Kd.N_alloc HN37.out (.cells #[.int .i64 g.f0, .slice Ag g.f1.length cg] 28 (0, 0)))
                 have HBab := Aside0.mk (HBa.out.alloc HBa.out.size (.cells #[.int .i64 g.f0, .slice Ag g.f1.length cg] 28 (0, 0)))
                 refine one_ (i := 4) (N := some 42) #[true, true, true, true, true, true, true, false, false] rfl rfl (by kernel_rfl) (by decide) (fun K hK => ?_)
                 refine Kd.N_append_rows_step k28 (w0 := wd) wd.heap.size (by rfl) (.tmp 38) (.tmp 41) 42 28 (.agg #[(.int .i64 0), (.slice none 0 0)]) 32 rfl Tryz.underlying42 info28 rfl (by decide) (by omega) v37 [] (outs.take i) Ao i co (fun z => w.heap.size ≤ z) (fun z => w.heap.size ≤ z ∧ z < wd.heap.size) rfl rfl HN37b.out (Kd.F_below HF1d.out HBab.out) (fun z hz => ⟨hz.1, fun he => by have := Kd.N_base HN37b.out z he.symm; exact absurd hz.2 (Nat.not_lt.2 this)⟩) (fun z hz => Nat.le_trans HBD.out.size (Nat.le_trans (Below.size HBab.out) hz)) HBab.out (Below.size HBab.out) (by have := hol; simp; omega) ?_
                 intro v41 wb hn41 hbb hgb hat
                 rw [List.nil_append] at hn41
                 have hb43' := blk_grown hb43 hgb hne43
                 have hne41 : some wa.heap.size ≠ v41.ownBlock := by
                   rcases hat with hat | ⟨bb, hbb', hle⟩
                   · rw [hat]; exact hne43
                   · rw [hbb']; intro he; injection he with he; have := blk_lt hb43; omega
                 refine hK.out _ _ ⟨(blk_cell (blk_below HGd.out hbb) 0).trans rfl, (blk_cell (blk_below HGd.out hbb) 1).trans rfl⟩ (fun hHeld => ?_)
                 clear hK K
                 refine zn1 ?_
                 exact norm_ (by simp only [putAll, Act.put, List.setIfInBounds_toArray, List.set_cons_zero, List.set_cons_succ]) (hCont (v37, v41, .slice (some ⟨wa.heap.size, 0, none⟩) 1 1) _ ⟨hn41, ⟨_, rfl, hb43', hne41⟩, hbb⟩)
             · refine value_ (w1 := ?_) (v := ?_) (by rfl) rfl ?_ ?_
               rotate_left 2
               · go_simp
                 constructor
                 · rfl
                 · rfl
               refine hK.out _ _ ⟨(blk_cell (blk_alloc HGd.out _) 0).trans rfl, (blk_cell (blk_alloc HGd.out _) 1).trans rfl⟩ (fun hHeld => ?_)
               clear hK K
               refine zn1 ?_
               have hb430 := blk_new wd (.cells #[.int .i64 g.f0, .slice Ag g.f1.length cg] 28 (0, 0))
               have HBe := Aside0.mk ((Below.refl _ wd).alloc (Nat.le_refl _) (.cells #[.int .i64 g.f0, .slice Ag g.f1.length cg] 28 (0, 0)))
               refine one_ (i := 0) (N := some 38) #[true, true, true, true, false, true, true, false, false] rfl rfl (by kernel_rfl) (by decide) (fun K hK => ?_)
               refine Kd.N_lit_step k28 _ 28 ?hg (N' := 38) ?hd (xs := ([] : List S28)) (inner := []) (ok := fun _ => True) (okp := fun _ => False) ?hr ?hp (fun _ hk => hk.elim) trivial (Below.refl _ _) (Nat.le_refl _) (by simp) ?_
               case hd => rfl
               case hg => rfl
               case hr => first | (go_simp; done) | (go_simp; rfl)
               case hp => exact Reps.none _ _
               intro v37 wa hn37 hba _ hnew
               have hN37 : Kd.N k28 28 wa wd.heap.size (fun z => w.heap.size ≤ z) v37 [] := Kd.N_lower (N_own hn37 (Nat.le_trans HBD.out.size HBe.out.size)) HBe.out.size
               have hb43 := blk_below hb430 hba
               have hne43 : some wd.heap.size ≠ v37.ownBlock := fun he => by have h1 := Kd.N_base hn37 _ he.symm; have h2 := blk_lt hb430; omega
               have HBab := Aside0.mk (HBe.out.trans (hba.mono HBe.out.size))
               have HN37b := Aside0.mk hN37
               clear hn37 hba hN37 hnew
               refine hK.out _ _ ⟨(blk_cell (blk_below HGd.out HBab.out) 0).trans rfl, (blk_cell (blk_below HGd.out HBab.out) 1).trans rfl⟩ (fun hHeld => ?_)
               clear hK K
               refine zn1 ?_
               refine one_ (i := 4) (N := some 42) #[true, true, true, true, true, true, true, false, false] rfl rfl (by kernel_rfl) (by decide) (fun K hK => ?_)
               refine Kd.N_append_rows_step k28 (w0 := wd) wd.heap.size (by rfl) (.tmp 38) (.tmp 41) 42 28 (.agg #[(.int .i64 0), (.slice none 0 0)]) 32 rfl Tryz.underlying42 info28 rfl (by decide) (by omega) v37 [] (outs.take i) Ao i co (fun z => w.heap.size ≤ z) (fun z => w.heap.size ≤ z ∧ z < wd.heap.size) rfl rfl HN37b.out (Kd.F_below HF1d.out HBab.out) (fun z hz => ⟨hz.1, fun he => by have := Kd.N_base HN37b.out z he.symm; exact absurd hz.2 (Nat.not_lt.2 this)⟩) (fun z hz => Nat.le_trans HBD.out.size (Nat.le_trans (Below.size HBab.out) hz)) HBab.out (Below.size HBab.out) (by have := hol; simp; omega) ?_
               intro v41 wb hn41 hbb hgb hat
               rw [List.nil_append] at hn41
               have hb43' := blk_grown hb43 hgb hne43
               have hne41 : some wd.heap.size ≠ v41.ownBlock := by
                 rcases hat with hat | ⟨bb, hbb', hle⟩
                 · rw [hat]; exact hne43
                 · rw [hbb']; intro he; injection he with he; have := blk_lt hb43; omega
               refine hK.out _ _ ⟨(blk_cell (blk_below HGd.out hbb) 0).trans rfl, (blk_cell (blk_below HGd.out hbb) 1).trans rfl⟩ (fun hHeld => ?_)
               clear hK K
               refine zn1 ?_
               exact norm_ (by simp only [putAll, Act.put, List.setIfInBounds_toArray, List.set_cons_zero, List.set_cons_succ]) (hCont (v37, v41, .slice (some ⟨wd.heap.size, 0, none⟩) 1 1) _ ⟨hn41, ⟨_, rfl, hb43', hne41⟩, hbb⟩)
           rintro ⟨v37, v41, v43⟩ w' ⟨hn41, ⟨b, hb43e, hb43, hne41⟩, hbw⟩
           dsimp only at hn41 hb43e hne41
           subst hb43e
           have HN41 := Aside0.mk hn41
           have HBW := Aside0.mk hbw
           have HB43 := Aside0.mk hb43
           have HNE := Aside0.mk hne41
           clear hn41 hbw hb43 hne41
           refine norm_ (a' := ?_) ?_ ?_
           rotate_left
           · simp only [putAll, Act.put, List.setIfInBounds_toArray, List.set_cons_zero, List.set_cons_succ]
             rfl
           refine one_ (i := 7) (N := some 45) #[true, true, true, true, true, true, true, true, false] rfl rfl (by kernel_rfl) (by decide) (fun K hK => ?_)
           refine N_append_rr_step k28 (w0 := wd) wd.heap.size (by rfl) (.tmp 42) (.tmp 44) 42 28 (.agg #[(.int .i64 0), (.slice none 0 0)]) 32 rfl Tryz.underlying42 info28 rfl (by decide) (by omega) v41 (outs.take i) [g] (some ⟨b, 0, none⟩) 1 1 (fun z => w.heap.size ≤ z) (fun z => w.heap.size ≤ z ∧ z < wd.heap.size) rfl rfl HN41.out (rr_one HB43.out (Kd.FK_below HGFd.out HBW.out)) (fun z hz => ⟨hz.1, fun he => by have := Kd.N_base HN41.out z he.symm; exact absurd hz.2 (Nat.not_lt.2 this)⟩) (fun z hz => Nat.le_trans HBD.out.size (Nat.le_trans HBW.out.size hz)) HBW.out HBW.out.size (by rw [hlt1]; have := hol; omega) ?_
           intro v44 wc hn44 hbc _ _
           obtain ⟨A44, c44, rfl⟩ := Kd.N_slice hn44
           have HN44 := Aside0.mk hn44
           have HBC := Aside0.mk hbc
           clear hn44 hbc HN41 HBW HB43 HNE
           refine hK.out _ _ ⟨(blk_cell (blk_below HGd.out HBC.out) 0).trans rfl, (blk_cell (blk_below HGd.out HBC.out) 1).trans rfl⟩ (fun hHeld => ?_)
           clear hK K
           refine zn1 ?_
           refine zp1 (i := 8) (N := some 8) #[true, true, true, true, true, true, true, true, true] rfl rfl (by kernel_rfl) ?_
           refine done_ (by kernel_rfl) ?_
           have hl44 : (outs.take i ++ [g]).length = i + 1 := by rw [List.length_append, hlt1]; rfl
           have hn44 := HN44.out
           rw [hl44] at hn44
           have HN45 := Aside0.mk hn44
           clear hn44 HN44
           go_wp2_with ((with_reducible refine gate_builtin (b := .append) (xs := #[.tmp 46, .tmp 49]) rfl ?_); at_builtin; refine Kd.N_append_rows k28 (w0 := wd) wd.heap.size rfl (.tmp 46) (.tmp 49) 42 28 (.agg #[(.int .i64 0), (.slice none 0 0)]) 32 rfl Tryz.underlying42 info28 rfl (by decide) (by omega) (.slice A44 (i + 1) c44) (outs.take i ++ [g]) (outs.drop i) A2c n2c c2c (fun z => w.heap.size ≤ z) (fun z => w.heap.size ≤ z ∧ z < wd.heap.size) rfl rfl HN45.out (Kd.F_below HF2d.out HBC.out) (fun z hz => ⟨hz.1, fun he => by have := Kd.N_base HN45.out z he.symm; exact absurd hz.2 (Nat.not_lt.2 this)⟩) (fun z hz => Nat.le_trans HBD.out.size (Nat.le_trans HBC.out.size hz)) HBC.out HBC.out.size (by rw [hl44, HN2c.out]; have := hol; omega) ?_; intro v49 we hn49 hbe _ _; obtain ⟨A49, c49, rfl⟩ := Kd.N_slice hn49; have HN49 := Aside0.mk hn49; have HBE := Aside0.mk hbe; clear hn49 hbe)
           have hl3 : (outs.take i ++ [g] ++ outs.drop i).length = outs.length + 1 := by rw [List.length_append, hl44, hld1]; exact om6 hi
           go_roundg (gs.length - (kk + 1))
           case measure => exact om2 hlt hg
           case rel => exact ⟨kk + 1, A49, c49, outs.take i ++ [g] ++ outs.drop i, hlt, Nat.le_refl _, by first | rfl | (simp; done) | (congr 1; simp; omega), by congr 1; (try exact om3 hlt (Nat.le_trans c1 (by decide))), ⟨by rw [hl3, HOL.out]⟩, (Kd.N_reads' HN49.out).2.1, HT2, ⟨Kd.F_bound (Kd.N_F HN49.out)⟩, ⟨HAD.out.trans (HBE.out.mono HAD.out.size)⟩⟩)
    · have hkl : kk = gs.length := Nat.le_antisymm hkk (Nat.le_of_not_lt hlt)
      have hltz : ¬ (kk : Int) < (gs.length : Int) := fun e => hlt (Int.ofNat_lt.1 e)
      subst hkl
      have hT := HT.out
      rw [List.drop_length] at hT
      obtain rfl := Option.some.inj hT
      go_wp2
      go_ret
      exact ⟨_, rfl, ⟨Ao, co, rfl, hoc, Kd.F_mono HO.out (fun z hz => hz.1)⟩, HB.out.trans (HB1.out.mono HB.out.size)⟩
def chLoop (k : Nat) (F : Nat → List Bool → List S28 → Option (List S28 × Bool)) (now : List Bool) (b : List S28) : List S28 → Nat → Option (List S28 × Bool)
  | [], _ => some ([], false)
  | g :: gs, i => (spec_gmAll.f k g.f0 g.f1).bind fun nx => if nx.length = now.length then (F (i + 1) (List.zipWith (fun x y => x && y) nx now) (b ++ [g])).bind fun r => if r.2 = true then some (r.1, true) else chLoop k F now b gs (i + 1) else none
def spec_chLook.f (k : Nat) (gl : List S28) (ov : List Bool) : Nat → Nat → List Bool → List S28 → Option (List S28 × Bool)
  | 0, _, now, b => (spec_weSame.f k now ov).bind fun t => some (b, t)
  | m + 1, i, now, b => chLoop k (spec_chLook.f k gl ov m) now b (gl.drop i) i
theorem chLoop_drop {k : Nat} {F : Nat → List Bool → List S28 → Option (List S28 × Bool)} {now : List Bool} {b gl : List S28} {i j : Nat} (h : i < gl.length) :
    chLoop k F now b (gl.drop i) j = (spec_gmAll.f k (gl.getD i z28).f0 (gl.getD i z28).f1).bind fun nx => if nx.length = now.length then (F (j + 1) (List.zipWith (fun x y => x && y) nx now) (b ++ [gl.getD i z28])).bind fun r => if r.2 = true then some (r.1, true) else chLoop k F now b (gl.drop (i + 1)) (j + 1) else none := by
  rw [List.drop_eq_getElem_cons h, List.getD_eq_getElem?_getD, List.getElem?_eq_getElem h]; rfl
def andP (nx now : List Bool) (j : Nat) : List Bool := List.zipWith (fun x y => x && y) (nx.take j) (now.take j) ++ nx.drop j
theorem omq {a b : Nat} (h : a = b) (hb : 1 ≤ b) : 0 < a := by omega
theorem zip_len {a b : List Bool} (h : a.length = b.length) : (List.zipWith (fun x y => x && y) a b).length = a.length := by rw [List.length_zipWith]; omega
theorem wmA {m : Nat} (h : m ≤ 1000000) : wrap64 (((m + 1 : Nat) : Int) - 1) = (m : Int) := by unfold wrap64; omega
theorem wmB {m : Nat} (h : m ≤ 1000000) : wrap64 (m : Int) = (m : Int) := by unfold wrap64; omega
theorem wmC {m : Nat} (h : m ≤ 1000000) : wrap64 ((m : Int) + 1 - 1) = (m : Int) := by unfold wrap64; omega
theorem andP_zero (nx now : List Bool) : andP nx now 0 = nx := by simp [andP]
theorem andP_end {nx now : List Bool} (h : nx.length = now.length) : andP nx now now.length = List.zipWith (fun x y => x && y) nx now := by
  unfold andP
  rw [List.take_of_length_le (by omega), List.take_of_length_le (Nat.le_refl _), List.drop_of_length_le (by omega), List.append_nil]
theorem andP_get {nx now : List Bool} (h : nx.length = now.length) {j : Nat} (hj : j < now.length) : rdOf false (andP nx now j) (j : Int) = nx.getD j false := by
  have hz : (List.zipWith (fun x y => x && y) (nx.take j) (now.take j)).length = j := by rw [List.length_zipWith, List.length_take, List.length_take]; omega
  unfold rdOf andP
  rw [Int.toNat_natCast, List.getD_eq_getElem?_getD, List.getElem?_append_right (by omega), hz, Nat.sub_self, List.getElem?_drop, Nat.add_zero, List.getD_eq_getElem?_getD]
theorem andP_set {nx now : List Bool} (h : nx.length = now.length) {j : Nat} (hj : j < now.length) : (andP nx now j).set j (nx.getD j false && now.getD j false) = andP nx now (j + 1) := by
  have hz : (List.zipWith (fun x y => x && y) (nx.take j) (now.take j)).length = j := by rw [List.length_zipWith, List.length_take, List.length_take]; omega
  have h1 : j < nx.length := by omega
  unfold andP
  rw [List.set_append_right _ _ (by omega), hz, Nat.sub_self, List.drop_eq_getElem_cons h1, List.set_cons_zero, List.take_succ_eq_append_getElem h1, List.take_succ_eq_append_getElem hj, List.zipWith_append (by rw [List.length_take, List.length_take]; omega), List.append_assoc]
  rw [List.getD_eq_getElem?_getD, List.getD_eq_getElem?_getD, List.getElem?_eq_getElem h1, List.getElem?_eq_getElem hj]; rfl
set_option maxHeartbeats 24000000 in
set_option maxRecDepth 100000 in
theorem spec_chLook.calls (k : Nat) (gl : List S28) (Ag : Option Addr) (cg : Nat) (hcg : gl.length ≤ cg) (hgl : gl.length ≤ 1000000) (ov : List Bool) (Ao : Option Addr) (co : Nat) (hco : ov.length ≤ co) (bs : Nat) (w0 : World) (hbs : bs ≤ w0.heap.size)
    (hG : Kd.F k28 w0 (fun z => bs ≤ z ∧ z < w0.heap.size) Ag gl.length gl) (hO : Kd.C Kd.bool w0 Ao ov.length ov) :
    ∀ (m i : Nat) (now : List Bool) (An : Option Addr) (cn : Nat) (b : List S28) (Ab : Option Addr) (cb : Nat) (r : List S28) (t : Bool) (w : World), Below w0.heap.size w0 w → now.length ≤ cn → 1 ≤ now.length → b.length ≤ cb → i ≤ gl.length → b.length + m ≤ 1000000 → Kd.C Kd.bool w An now.length now → Kd.F k28 w (fun z => bs ≤ z ∧ z < w.heap.size) Ab b.length b → spec_chLook.f k gl ov m i now b = some (r, t) →
    Calls Tryz.prog 52 #[.slice Ag gl.length cg, .int .i64 i, .int .i64 m, .slice An now.length cn, .slice Ao ov.length co, .slice Ab b.length cb] w fun e w' => ∃ v0_ : Value, e = .returned (.tuple #[v0_, .bool t]) ∧ Kd.V k28 28 w' bs (fun z => bs ≤ z ∧ z < w'.heap.size) v0_ r ∧ Below w.heap.size w w' := by
  have HG := Aside0.mk hG
  have HO := Aside0.mk hO
  clear hG hO
  intro m
  induction m with
  | zero =>
    intro i now An cn b Ab cb r t w hB hcn hn1 hcb hi hbm hN hF h
    rw [spec_chLook.f] at h
    replace h := Option.bind_eq_some_iff.mp h
    obtain ⟨t', ht, h⟩ := h
    simp only [Option.some.injEq, Prod.mk.injEq] at h
    obtain ⟨rfl, rfl⟩ := h
    have HT := Aside0.mk ht
    have HN := Aside0.mk hN
    have HF := Aside0.mk hF
    have HB := Aside0.mk hB
    clear ht hN hF hB hbm
    go_enter Tryz.func52, Tryz.ntmps52
    go_wp2_with (go_at_call 86; refine (spec_weSame.calls k An cn now Ao co ov t' _ HN.out hcn (Kd.C_below HO.out HB.out) hco HT.out).mono ?_; rintro e w1 ⟨rfl, hb⟩; have HB1 := Aside0.mk hb.below; clear hb)
    go_ret2
    exact ⟨_, by first | rfl | (simp [*] <;> rfl), ⟨Ab, cb, rfl, hcb, Kd.F_mono (Kd.F_below HF.out HB1.out) (fun z hz => ⟨hz.1, Nat.lt_of_lt_of_le hz.2 HB1.out.size⟩)⟩, HB1.out⟩
  | succ m IH =>
    intro i now An cn b Ab cb r t w hB hcn hn1 hcb hi hbm hN hF h
    obtain ⟨adn, eAn, _⟩ := Kd.at_bool hN (0 : Int) (Int.le_refl _) (by omega)
    subst eAn
    have HB32 := Aside0.mk (show (b.length + 1) * 32 ≤ 140737488355328 by omega)
    have HB33 := Aside0.mk (show (([] : List S28).length + b.length) * 32 ≤ 140737488355328 by simp only [List.length_nil]; omega)
    have HBM2 := Aside0.mk (show b.length + 1 + m ≤ 1000000 by omega)
    have hm0 : (((m + 1 : Nat) : Int) == 0) = false := beq_eq_false_iff_ne.2 (by omega)
    have hm1 : ¬ (((m + 1 : Nat) : Int) = 0) := by omega
    have hm9 : m ≤ 1000000 := Nat.le_trans (Nat.le_succ m) (Nat.le_trans (Nat.le_add_left _ _) hbm)
    have HMW := Aside0.mk (wmA hm9)
    have HMW2 := Aside0.mk (wmB hm9)
    have HMW3 := Aside0.mk (wmC hm9)
    clear hm9
    rw [spec_chLook.f] at h
    have IH := Aside0.mk IH
    have HH := Aside0.mk h
    have HN := Aside0.mk hN
    have HF := Aside0.mk hF
    have HB := Aside0.mk hB
    have HBM := Aside0.mk hbm
    clear h hN hF hB hbm
    obtain ⟨inf, hinf, _, hinf2, _⟩ := info_parts info28
    go_enter Tryz.func52, Tryz.ntmps52
    go_wp2
    go_loopg [14] gl.length (fun gg v14 wr => ∃ kk : Nat, kk ≤ gl.length ∧ gl.length - kk ≤ gg ∧ v14 = .int .i64 kk ∧ Aside0 (chLoop k (spec_chLook.f k gl ov m) now b (gl.drop kk) kk = some (r, t)) ∧ Aside0 (Below w.heap.size w wr))
    case atStart => exact ⟨i, hi, Nat.sub_le _ _, rfl, HH, ⟨Below.refl _ _⟩⟩
    case round =>
      clear HH
      obtain ⟨kk, hkk, hg, rfl, HT, HB1⟩ := hrel
      obtain ⟨wo, rfl⟩ : ∃ wo, wo = wr := ⟨wr, rfl⟩
      by_cases hlt : kk < gl.length
      · have hltz : (kk : Int) < (gl.length : Int) := Int.ofNat_lt.2 hlt
        have hltb : decide ((kk : Int) < (gl.length : Int)) = true := decide_eq_true hltz
        have hk1 : wrap64 ((kk : Int) + 1) = ((kk + 1 : Nat) : Int) := om3 hlt (Nat.le_trans hgl (by decide))
        have HB01 := Aside0.mk (HB.out.trans (HB1.out.mono HB.out.size))
        obtain ⟨ad, cc, e, hcl, hK, hcc, _⟩ := Kd.F_get (Kd.F_below HG.out HB01.out) z28 (kk : Int) (Int.natCast_nonneg _) hltz
        subst e
        rw [Int.toNat_natCast] at hK hcc
        have hT := HT.out
        rw [chLoop_drop hlt] at hT
        generalize gl.getD kk z28 = g at hK hT
        replace hT := Option.bind_eq_some_iff.mp hT
        obtain ⟨nx, hnx, hT⟩ := hT
        by_cases c1 : nx.length = now.length
        case neg => rw [if_neg c1] at hT; cases hT
        rw [if_pos c1] at hT
        replace hT := Option.bind_eq_some_iff.mp hT
        obtain ⟨⟨r1, t1⟩, hr1, hT⟩ := hT
        obtain ⟨A0, c0, rfl, hl0, hgF⟩ := k28_openF hK
        have x0 : wo.cell? (ad.add (kk * 2)) = some (.int .i64 g.f0) := hcc 0 _ rfl
        have x1 : wo.cell? ⟨(ad.add (kk * 2)).block, (ad.add (kk * 2)).off + 1, none⟩ = some (.slice A0 g.f1.length c0) := by rw [← add_field _ _ 1 (by decide)]; exact hcc 1 _ rfl
        have HNX := Aside0.mk hnx
        have HR1 := Aside0.mk hr1
        have HT2 := Aside0.mk hT
        have HK := Aside0.mk (Kd.FK_mono hK (ok' := fun z => bs ≤ z ∧ z < wo.heap.size) (fun z hz => ⟨hz.1, Nat.lt_of_lt_of_le hz.2 HB01.out.size⟩))
        have HGC := Aside0.mk (Kd.F_now hgF)
        have HX0 := Aside0.mk x0
        have HX1 := Aside0.mk x1
        have HC1 := Aside0.mk c1
        clear hK hcc hcl hT hnx hr1 HT hgF c1
        go_wp2_with (go_at_call 53; refine (spec_gmAll.calls k g.f0 A0 c0 g.f1 nx _ HGC.out hl0 HNX.out).mono ?_; rintro e w1 ⟨vn, rfl, hR, hb⟩; have HR := Aside0.mk hR; have HBW := Aside0.mk hb; clear x0 x1 hb hR; obtain ⟨gn, cn2, e2, hgn, hgn2, _⟩ := Kd.R_form HR.out (omq HC1.out hn1); subst e2)
        have HGN := Aside0.mk hgn
        clear hgn hgn2
        go_loopg [39] nx.length (fun gg v39 wr => ∃ j : Nat, j ≤ nx.length ∧ nx.length - j ≤ gg ∧ v39 = .int .i64 j ∧ Aside0 (Kd.R Kd.bool 4 wr wo.heap.size (fun _ => True) (.slice (some ⟨gn, 0, none⟩) nx.length cn2) (andP nx now j)) ∧ Aside0 (Below wo.heap.size wo wr))
        case atStart => exact ⟨0, Nat.zero_le _, Nat.le_refl _, rfl, ⟨by rw [andP_zero]; exact HR.out⟩, HBW⟩
        case round =>
          clear HR HBW
          obtain ⟨j, hj, hg2, rfl, HR, HBW⟩ := hrel
          by_cases hjl : j < nx.length
          · have hjz : (j : Int) < (nx.length : Int) := Int.ofNat_lt.2 hjl
            have hjn : j < now.length := HC1.out ▸ hjl
            have hjnz : (j : Int) < (now.length : Int) := Int.ofNat_lt.2 hjn
            have hjb : decide ((j : Int) < (nx.length : Int)) = true := decide_eq_true hjz
            obtain ⟨ad2, e2, y0⟩ := Kd.at_bool (Kd.C_below HN.out (HB1.out.trans (HBW.out.mono HB1.out.size))) (j : Int) (Int.natCast_nonneg _) hjnz
            injection e2 with e2
            subst e2
            obtain ⟨hx, hf⟩ := Kd.R_celln false HR.out (j : Int) (Int.natCast_nonneg _) hjz
            rw [Int.toNat_natCast] at y0 hx hf
            rw [andP_get HC1.out hjn] at hx
            rw [show rdOf false now (j : Int) = now.getD j false from by unfold rdOf; rw [Int.toNat_natCast]] at y0
            have hS := Kd.R_putn HR.out (j : Int) (nx.getD j false && now.getD j false)
            rw [Int.toNat_natCast, andP_set HC1.out hjn] at hS
            have HS := Aside0.mk hS
            have HB2 := Aside0.mk (below_set (j := j) (v := .bool (nx.getD j false && now.getD j false)) HBW.out HGN.out)
            clear hS HR HBW
            generalize nx.getD j false = b1 at hx HS HB2
            generalize now.getD j false = b2 at y0 HS HB2
            have hw3 : wrap64 ((j : Int) + 1) = ((j + 1 : Nat) : Int) := om3 hjn (Kd.C_max HN.out)
            cases b1
            case false =>
              go_wp2
              go_roundg (nx.length - (j + 1))
              case measure => exact om2 hjl hg2
              case rel => exact ⟨j + 1, hjl, Nat.le_refl _, by congr 1, HS, HB2⟩
            case true =>
              go_wp2
              go_roundg (nx.length - (j + 1))
              case measure => exact om2 hjl hg2
              case rel => exact ⟨j + 1, hjl, Nat.le_refl _, by congr 1, HS, HB2⟩
          · have hje : j = nx.length := Nat.le_antisymm hj (Nat.le_of_not_lt hjl)
            subst hje
            have hR2 := HR.out
            rw [show andP nx now nx.length = List.zipWith (fun x y => x && y) nx now from by rw [show nx.length = now.length from HC1.out]; exact andP_end HC1.out] at hR2
            have hzl : (List.zipWith (fun x y => x && y) nx now).length = nx.length := zip_len HC1.out
            have HR2 := Aside0.mk hR2
            have HZL := Aside0.mk hzl
            clear HR hR2 hzl
            generalize List.zipWith (fun x y => x && y) nx now = nz at HR2 HZL HR1
            have HBD := Aside0.mk (HBW.out.trans ((below_drew (Below.refl wr.heap.size wr)).mono HBW.out.size))
            have HR3 := Aside0.mk (Kd.R_drew HR2.out)
            have HFd := Aside0.mk (Kd.F_mono (Kd.F_below HF.out (HB1.out.trans (HBD.out.mono HB1.out.size))) (ok' := fun z => bs ≤ z ∧ z < wr.drew.heap.size) (fun z hz => ⟨hz.1, Nat.lt_of_lt_of_le hz.2 (Nat.le_trans HB1.out.size HBD.out.size)⟩))
            have HKd := Aside0.mk (Kd.FK_mono (Kd.FK_below HK.out HBD.out) (ok' := fun z => bs ≤ z ∧ z < wr.drew.heap.size) (fun z hz => ⟨hz.1, Nat.lt_of_lt_of_le hz.2 HBD.out.size⟩))
            have HS0 := Aside0.mk ((HBD.out.cell (World.block_lt_of_cell? wo _ HX0.out)).trans HX0.out)
            have HS1 := Aside0.mk ((HBD.out.cell (World.block_lt_of_cell? wo _ HX1.out)).trans HX1.out)
            have HBS := Aside0.mk (show bs ≤ wr.drew.heap.size from Nat.le_trans hbs (Nat.le_trans HB01.out.size HBD.out.size))
            clear HR2 HF HK HX0 HX1 HBW
            go_wp2_with fail
            refine start_ (n := 22) (S := fun w' => w'.cell? (ad.add (kk * 2)) = some (.int .i64 g.f0) ∧ w'.cell? ⟨(ad.add (kk * 2)).block, (ad.add (kk * 2)).off + 1, none⟩ = some (.slice A0 g.f1.length c0)) (ds := []) #[false, false, false, false, false, false, false, false, false, false, false, false, false, false, false, false, false, false, false, false, false, false] (by kernel_rfl) rfl rfl (⟨HS0.out, HS1.out⟩) (fun hHeld => ?_)
            generalize wr.drew = wd at *
            refine zp1 (i := 0) (N := some 57) #[true, false, false, false, false, false, false, false, false, false, false, false, false, false, false, false, false, false, false, false, false, false] rfl rfl (by kernel_rfl) ?_
            refine zp1 (i := 1) (N := some 58) #[true, true, false, false, false, false, false, false, false, false, false, false, false, false, false, false, false, false, false, false, false, false] rfl rfl (by kernel_rfl) ?_
            refine zp1 (i := 2) (N := some 59) #[true, true, true, false, false, false, false, false, false, false, false, false, false, false, false, false, false, false, false, false, false, false] rfl rfl (by kernel_rfl) ?_
            refine zp1 (i := 3) (N := some 60) #[true, true, true, true, false, false, false, false, false, false, false, false, false, false, false, false, false, false, false, false, false, false] rfl rfl (by kernel_rfl) ?_
            refine zp1 (i := 4) (N := some 61) #[true, true, true, true, true, false, false, false, false, false, false, false, false, false, false, false, false, false, false, false, false, false] rfl rfl (by kernel_rfl) ?_
            refine zp1 (i := 5) (N := some 62) #[true, true, true, true, true, true, false, false, false, false, false, false, false, false, false, false, false, false, false, false, false, false] rfl rfl (by kernel_rfl) ?_
            refine zp1 (i := 6) (N := some 63) #[true, true, true, true, true, true, true, false, false, false, false, false, false, false, false, false, false, false, false, false, false, false] rfl rfl (by kernel_rfl) ?_
            refine zp1 (i := 8) (N := some 65) #[true, true, true, true, true, true, true, false, true, false, false, false, false, false, false, false, false, false, false, false, false, false] rfl rfl (by kernel_rfl) ?_
            refine zp1 (i := 10) (N := some 67) #[true, true, true, true, true, true, true, false, true, false, true, false, false, false, false, false, false, false, false, false, false, false] rfl rfl (by kernel_rfl) ?_
            refine zp1 (i := 11) (N := some 68) #[true, true, true, true, true, true, true, false, true, false, true, true, false, false, false, false, false, false, false, false, false, false] rfl rfl (by kernel_rfl) ?_
            refine zp1 (i := 12) (N := some 69) #[true, true, true, true, true, true, true, false, true, false, true, true, true, false, false, false, false, false, false, false, false, false] rfl rfl (by kernel_rfl) ?_
            refine take_ (i := 13) (N := some 70) (v := ?_) (a' := ?_) #[true, true, true, true, true, true, true, false, true, false, true, true, true, true, false, false, false, false, false, false, false, false] rfl rfl (by kernel_rfl) (fun _ _ _ h => h) (Or.inl ⟨by rfl, ?_⟩) hHeld ?_ ?_
            rotate_left
            · rintro w' ⟨s0, s1⟩
              go_simp
              with_reducible rfl
            rotate_left
            · simp only [Act.put, List.setIfInBounds_toArray, List.set_cons_zero, List.set_cons_succ, i64_w, i32_w]
              rfl
            refine join_ (σ := Value × Value × Value) 7 #[true, true, true, true, true, true, true, true, true, true, true, true, true, true, true, false, false, false, false, false, false, false] (fun s_ => [(64, s_.1), (66, s_.2.1), (71, s_.2.2)]) (fun s_ w' => Kd.N k28 28 w' wd.heap.size (fun z => bs ≤ z) s_.2.1 b ∧ (∃ q, s_.2.2 = .slice (some ⟨q, 0, none⟩) 1 1 ∧ w'.heap[q]? = some (.cells #[.int .i64 g.f0, .slice A0 g.f1.length c0] 28 (0, 0)) ∧ some q ≠ s_.2.1.ownBlock) ∧ Below wd.heap.size wd w') ?_ ?_
            rotate_left
            · intro hCont
              refine two_ (i := 7) (j := 14) (Ni := some 64) (Nj := some 71) #[true, true, true, true, true, true, true, true, true, false, true, true, true, true, false, false, false, false, false, false, false, false] #[true, true, true, true, true, true, true, false, true, false, true, true, true, true, true, false, false, false, false, false, false, false] rfl rfl rfl rfl (by kernel_rfl) (by decide) (by decide) (fun K hK => ?_) (fun K hK => ?_)
              · refine Kd.N_lit_step k28 _ 28 ?hg (N' := 64) ?hd (xs := ([] : List S28)) (inner := []) (ok := fun _ => True) (okp := fun _ => False) ?hr ?hp (fun _ hk => hk.elim) trivial (Below.refl _ _) (Nat.le_refl _) (by simp) ?_
                case hd => rfl
                case hg => rfl
                case hr => first | (go_simp; done) | (go_simp; rfl)
                case hp => exact Reps.none _ _
                intro v37 wa hn37 hba _ hnew
                have hN37 : Kd.N k28 28 wa wd.heap.size (fun z => bs ≤ z) v37 [] := N_own hn37 HBS.out
                have HN37 := Aside0.mk hN37
                have HBa := Aside0.mk hba
                clear hn37 hba hN37 hnew
                refine hK.out _ _ ⟨((HBa.out : Below wd.heap.size wd _).cell (World.block_lt_of_cell? wd _ HS0.out)).trans HS0.out, ((HBa.out : Below wd.heap.size wd _).cell (World.block_lt_of_cell? wd _ HS1.out)).trans HS1.out⟩ (fun hHeld => ?_)
                clear hK K
                refine zn1 ?_
                refine two_ (i := 9) (j := 14) (Ni := some 66) (Nj := some 71) #[true, true, true, true, true, true, true, true, true, true, true, true, true, true, false, false, false, false, false, false, false, false] #[true, true, true, true, true, true, true, true, true, false, true, true, true, true, true, false, false, false, false, false, false, false] rfl rfl rfl rfl (by kernel_rfl) (by decide) (by decide) (fun K hK => ?_) (fun K hK => ?_)
                · refine Kd.N_append_rows_step k28 (w0 := wd) wd.heap.size (by rfl) (.tmp 64) (.tmp 65) 42 28 (.agg #[(.int .i64 0), (.slice none 0 0)]) 32 rfl Tryz.underlying42 info28 rfl (by decide) (by decide) v37 [] b Ab b.length cb (fun z => bs ≤ z) (fun z => bs ≤ z ∧ z < wd.heap.size) rfl rfl HN37.out (Kd.F_below HFd.out HBa.out) (fun z hz => ⟨hz.1, fun he => by have := Kd.N_base HN37.out z he.symm; exact absurd hz.2 (Nat.not_lt.2 this)⟩) (fun z hz => Nat.le_trans HBS.out (Nat.le_trans (Below.size HBa.out) hz)) HBa.out (Below.size HBa.out) HB33.out ?_
                  intro v41 wb hn41 hbb hgb hat
                  rw [List.nil_append] at hn41
                  have HN41 := Aside0.mk hn41
                  have HBb := Aside0.mk hbb
                  clear hn41 hbb hgb hat HN37 HBa
                  refine hK.out _ _ ⟨((HBb.out : Below wd.heap.size wd _).cell (World.block_lt_of_cell? wd _ HS0.out)).trans HS0.out, ((HBb.out : Below wd.heap.size wd _).cell (World.block_lt_of_cell? wd _ HS1.out)).trans HS1.out⟩ (fun hHeld => ?_)
                  clear hK K
                  refine zn1 ?_
                  refine one_ (i := 14) (N := some 71) #[true, true, true, true, true, true, true, true, true, true, true, true, true, true, true, false, false, false, false, false, false, false] rfl rfl (by kernel_rfl) (by decide) (fun K hK => ?_)
                  refine value_ (w1 := ?_) (v := ?_) (by rfl) rfl ?_ ?_
                  rotate_left 2
                  · go_simp
                    constructor
                    · rfl
                    · rfl
                  refine hK.out _ _ ⟨(((Below.alloc HBb.out (Below.size HBb.out) (.cells #[.int .i64 g.f0, .slice A0 g.f1.length c0] 28 (0, 0))) : Below wd.heap.size wd _).cell (World.block_lt_of_cell? wd _ HS0.out)).trans HS0.out, (((Below.alloc HBb.out (Below.size HBb.out) (.cells #[.int .i64 g.f0, .slice A0 g.f1.length c0] 28 (0, 0))) : Below wd.heap.size wd _).cell (World.block_lt_of_cell? wd _ HS1.out)).trans HS1.out⟩ (fun hHeld => ?_)
                  clear hK K
                  refine zn1 ?_
                  exact norm_ (by simp only [putAll, Act.put, List.setIfInBounds_toArray, List.set_cons_zero, List.set_cons_succ]) (hCont (v37, v41, .slice (some ⟨wb.heap.size, 0, none⟩) 1 1) _ ⟨Kd.N_alloc HN41.out _, ⟨_, rfl, blk_new wb _, fun he => Nat.lt_irrefl _ (Kd.N_lt HN41.out _ he.symm)⟩, HBb.out.alloc HBb.out.size _⟩)
                · refine value_ (w1 := ?_) (v := ?_) (by rfl) rfl ?_ ?_
                  rotate_left 2
                  · go_simp
                    constructor
                    · rfl
                    · rfl
                  refine hK.out _ _ ⟨(((Below.alloc HBa.out (Below.size HBa.out) (.cells #[.int .i64 g.f0, .slice A0 g.f1.length c0] 28 (0, 0))) : Below wd.heap.size wd _).cell (World.block_lt_of_cell? wd _ HS0.out)).trans HS0.out, (((Below.alloc HBa.out (Below.size HBa.out) (.cells #[.int .i64 g.f0, .slice A0 g.f1.length c0] 28 (0, 0))) : Below wd.heap.size wd _).cell (World.block_lt_of_cell? wd _ HS1.out)).trans HS1.out⟩ (fun hHeld => ?_)
                  clear hK K
                  refine zn1 ?_
                  have hb43 := blk_new wa (.cells #[.int .i64 g.f0, .slice A0 g.f1.length c0] 28 (0, 0))
                  have hne43 : some wa.heap.size ≠ v37.ownBlock := fun he => Nat.lt_irrefl _ (Kd.N_lt HN37.out _ he.symm)
                  have HN37b := Aside0.mk (Kd.N_alloc HN37.out (.cells #[.int .i64 g.f0, .slice A0 g.f1.length c0] 28 (0, 0)))
                  have HBab := Aside0.mk (HBa.out.alloc HBa.out.size (.cells #[.int .i64 g.f0, .slice A0 g.f1.length c0] 28 (0, 0)))
                  refine one_ (i := 9) (N := some 66) #[true, true, true, true, true, true, true, true, true, true, true, true, true, true, true, false, false, false, false, false, false, false] rfl rfl (by kernel_rfl) (by decide) (fun K hK => ?_)
                  refine Kd.N_append_rows_step k28 (w0 := wd) wd.heap.size (by rfl) (.tmp 64) (.tmp 65) 42 28 (.agg #[(.int .i64 0), (.slice none 0 0)]) 32 rfl Tryz.underlying42 info28 rfl (by decide) (by decide) v37 [] b Ab b.length cb (fun z => bs ≤ z) (fun z => bs ≤ z ∧ z < wd.heap.size) rfl rfl HN37b.out (Kd.F_below HFd.out HBab.out) (fun z hz => ⟨hz.1, fun he => by have := Kd.N_base HN37b.out z he.symm; exact absurd hz.2 (Nat.not_lt.2 this)⟩) (fun z hz => Nat.le_trans HBS.out (Nat.le_trans (Below.size HBab.out) hz)) HBab.out (Below.size HBab.out) HB33.out ?_
                  intro v41 wb hn41 hbb hgb hat
                  rw [List.nil_append] at hn41
                  have hb43' := blk_grown hb43 hgb hne43
                  have hne41 : some wa.heap.size ≠ v41.ownBlock := by
                    rcases hat with hat | ⟨bb, hbb', hle⟩
                    · rw [hat]; exact hne43
                    · rw [hbb']; intro he; injection he with he; exact absurd he (Nat.ne_of_lt (Nat.lt_of_lt_of_le (blk_lt hb43) hle))
                  refine hK.out _ _ ⟨((hbb : Below wd.heap.size wd _).cell (World.block_lt_of_cell? wd _ HS0.out)).trans HS0.out, ((hbb : Below wd.heap.size wd _).cell (World.block_lt_of_cell? wd _ HS1.out)).trans HS1.out⟩ (fun hHeld => ?_)
                  clear hK K
                  refine zn1 ?_
                  exact norm_ (by simp only [putAll, Act.put, List.setIfInBounds_toArray, List.set_cons_zero, List.set_cons_succ]) (hCont (v37, v41, .slice (some ⟨wa.heap.size, 0, none⟩) 1 1) _ ⟨hn41, ⟨_, rfl, hb43', hne41⟩, hbb⟩)
              · refine value_ (w1 := ?_) (v := ?_) (by rfl) rfl ?_ ?_
                rotate_left 2
                · go_simp
                  constructor
                  · rfl
                  · rfl
                refine hK.out _ _ ⟨(((Below.alloc (Below.refl wd.heap.size wd) (Below.size (Below.refl wd.heap.size wd)) (.cells #[.int .i64 g.f0, .slice A0 g.f1.length c0] 28 (0, 0))) : Below wd.heap.size wd _).cell (World.block_lt_of_cell? wd _ HS0.out)).trans HS0.out, (((Below.alloc (Below.refl wd.heap.size wd) (Below.size (Below.refl wd.heap.size wd)) (.cells #[.int .i64 g.f0, .slice A0 g.f1.length c0] 28 (0, 0))) : Below wd.heap.size wd _).cell (World.block_lt_of_cell? wd _ HS1.out)).trans HS1.out⟩ (fun hHeld => ?_)
                clear hK K
                refine zn1 ?_
                have hb430 := blk_new wd (.cells #[.int .i64 g.f0, .slice A0 g.f1.length c0] 28 (0, 0))
                have HBe := Aside0.mk ((Below.refl _ wd).alloc (Nat.le_refl _) (.cells #[.int .i64 g.f0, .slice A0 g.f1.length c0] 28 (0, 0)))
                refine one_ (i := 7) (N := some 64) #[true, true, true, true, true, true, true, true, true, false, true, true, true, true, true, false, false, false, false, false, false, false] rfl rfl (by kernel_rfl) (by decide) (fun K hK => ?_)
                refine Kd.N_lit_step k28 _ 28 ?hg (N' := 64) ?hd (xs := ([] : List S28)) (inner := []) (ok := fun _ => True) (okp := fun _ => False) ?hr ?hp (fun _ hk => hk.elim) trivial (Below.refl _ _) (Nat.le_refl _) (by simp) ?_
                case hd => rfl
                case hg => rfl
                case hr => first | (go_simp; done) | (go_simp; rfl)
                case hp => exact Reps.none _ _
                intro v37 wa hn37 hba _ hnew
                have hN37 : Kd.N k28 28 wa wd.heap.size (fun z => bs ≤ z) v37 [] := Kd.N_lower (N_own hn37 (Nat.le_trans HBS.out HBe.out.size)) HBe.out.size
                have hb43 := blk_below hb430 hba
                have hne43 : some wd.heap.size ≠ v37.ownBlock := fun he => absurd (Kd.N_base hn37 _ he.symm) (Nat.not_le.2 (blk_lt hb430))
                have HBab := Aside0.mk (HBe.out.trans (hba.mono HBe.out.size))
                have HN37b := Aside0.mk hN37
                clear hn37 hba hN37 hnew
                refine hK.out _ _ ⟨((HBab.out : Below wd.heap.size wd _).cell (World.block_lt_of_cell? wd _ HS0.out)).trans HS0.out, ((HBab.out : Below wd.heap.size wd _).cell (World.block_lt_of_cell? wd _ HS1.out)).trans HS1.out⟩ (fun hHeld => ?_)
                clear hK K
                refine zn1 ?_
                refine one_ (i := 9) (N := some 66) #[true, true, true, true, true, true, true, true, true, true, true, true, true, true, true, false, false, false, false, false, false, false] rfl rfl (by kernel_rfl) (by decide) (fun K hK => ?_)
                refine Kd.N_append_rows_step k28 (w0 := wd) wd.heap.size (by rfl) (.tmp 64) (.tmp 65) 42 28 (.agg #[(.int .i64 0), (.slice none 0 0)]) 32 rfl Tryz.underlying42 info28 rfl (by decide) (by decide) v37 [] b Ab b.length cb (fun z => bs ≤ z) (fun z => bs ≤ z ∧ z < wd.heap.size) rfl rfl HN37b.out (Kd.F_below HFd.out HBab.out) (fun z hz => ⟨hz.1, fun he => by have := Kd.N_base HN37b.out z he.symm; exact absurd hz.2 (Nat.not_lt.2 this)⟩) (fun z hz => Nat.le_trans HBS.out (Nat.le_trans (Below.size HBab.out) hz)) HBab.out (Below.size HBab.out) HB33.out ?_
                intro v41 wb hn41 hbb hgb hat
                rw [List.nil_append] at hn41
                have hb43' := blk_grown hb43 hgb hne43
                have hne41 : some wd.heap.size ≠ v41.ownBlock := by
                  rcases hat with hat | ⟨bb, hbb', hle⟩
                  · rw [hat]; exact hne43
                  · rw [hbb']; intro he; injection he with he; exact absurd he (Nat.ne_of_lt (Nat.lt_of_lt_of_le (blk_lt hb43) hle))
                refine hK.out _ _ ⟨((hbb : Below wd.heap.size wd _).cell (World.block_lt_of_cell? wd _ HS0.out)).trans HS0.out, ((hbb : Below wd.heap.size wd _).cell (World.block_lt_of_cell? wd _ HS1.out)).trans HS1.out⟩ (fun hHeld => ?_)
                clear hK K
                refine zn1 ?_
                exact norm_ (by simp only [putAll, Act.put, List.setIfInBounds_toArray, List.set_cons_zero, List.set_cons_succ]) (hCont (v37, v41, .slice (some ⟨wd.heap.size, 0, none⟩) 1 1) _ ⟨hn41, ⟨_, rfl, hb43', hne41⟩, hbb⟩)
            rintro ⟨v37, v41, v43⟩ w' ⟨hn41, ⟨q, hb43e, hb43, hne41⟩, hbw⟩
            dsimp only at hn41 hb43e hne41
            subst hb43e
            have HN41 := Aside0.mk hn41
            have HBW := Aside0.mk hbw
            have HB43 := Aside0.mk hb43
            have HNE := Aside0.mk hne41
            clear hn41 hbw hb43 hne41
            refine norm_ (a' := ?_) ?_ ?_
            rotate_left
            · simp only [putAll, Act.put, List.setIfInBounds_toArray, List.set_cons_zero, List.set_cons_succ]
              rfl
            refine one_ (i := 15) (N := some 72) #[true, true, true, true, true, true, true, true, true, true, true, true, true, true, true, true, false, false, false, false, false, false] rfl rfl (by kernel_rfl) (by decide) (fun K hK => ?_)
            refine N_append_rr_step k28 (w0 := wd) wd.heap.size (by rfl) (.tmp 66) (.tmp 71) 42 28 (.agg #[(.int .i64 0), (.slice none 0 0)]) 32 rfl Tryz.underlying42 info28 rfl (by decide) (by decide) v41 b [g] (some ⟨q, 0, none⟩) 1 1 (fun z => bs ≤ z) (fun z => bs ≤ z ∧ z < wd.heap.size) rfl rfl HN41.out (rr_one HB43.out (Kd.FK_below HKd.out HBW.out)) (fun z hz => ⟨hz.1, fun he => by have := Kd.N_base HN41.out z he.symm; exact absurd hz.2 (Nat.not_lt.2 this)⟩) (fun z hz => Nat.le_trans HBS.out (Nat.le_trans HBW.out.size hz)) HBW.out HBW.out.size HB32.out ?_
            intro v44 wc hn44 hbc _ _
            obtain ⟨A44, c44, rfl⟩ := Kd.N_slice hn44
            have HN44 := Aside0.mk hn44
            have HBC := Aside0.mk hbc
            clear hn44 hbc HN41 HBW HB43 HNE
            refine hK.out _ _ ⟨((HBC.out : Below wd.heap.size wd _).cell (World.block_lt_of_cell? wd _ HS0.out)).trans HS0.out, ((HBC.out : Below wd.heap.size wd _).cell (World.block_lt_of_cell? wd _ HS1.out)).trans HS1.out⟩ (fun hHeld => ?_)
            clear hK K
            refine zn1 ?_
            have hlb : (b ++ [g]).length = b.length + 1 := by rw [List.length_append]; rfl
            have hlz : nz.length = now.length := HZL.out.trans HC1.out
            have HBX := Aside0.mk (HBD.out.trans (HBC.out.mono HBD.out.size))
            have hcl := IH.out (kk + 1) nz (some ⟨gn, 0, none⟩) cn2 (b ++ [g]) A44 c44 r1 t1 wc (HB01.out.trans (HBX.out.mono HB01.out.size)) (by have := (Kd.R_reads' HR3.out).2.1; rw [HZL.out]; exact this) (by rw [hlz]; exact hn1) (Kd.N_reads' HN44.out).2.1 hlt (by rw [hlb]; exact HBM2.out) (by have := Kd.C_below (Kd.R_reads' HR3.out).2.2 HBC.out; first | exact this | rwa [HZL.out] | rwa [← HZL.out]) (Kd.F_mono (Kd.F_bound (Kd.N_F HN44.out)) (fun z hz => hz)) HR1.out
            rw [HZL.out] at hcl
            have HCL := Aside0.mk hcl
            clear hcl hlz hlb
            refine one_ (i := 16) (N := some 73) #[true, true, true, true, true, true, true, true, true, true, true, true, true, true, true, true, true, false, false, false, false, false] rfl rfl (by kernel_rfl) (by decide) (fun K hK => ?_)
            refine goes_ Tryz.func52 (by kernel_rfl) rfl #[.slice (some ad) gl.length cg, .int .i64 (wrap64 ((kk : Int) + 1)), .int .i64 (wrap64 (m : Int)), .slice (some ⟨gn, 0, none⟩) nx.length cn2, .slice Ao ov.length co, .slice A44 (b ++ [g]).length c44] (by rfl) rfl rfl (by simp only [List.map_toArray, List.map_cons, List.map_nil]; rfl) ?_
            rw [hk1, HMW2.out]
            refine HCL.out.mono ?_
            clear HCL
            rintro e we ⟨ve, rfl, hV, hbe⟩
            refine ⟨_, rfl, ?_⟩
            have HBE := Aside0.mk (HBC.out.trans (hbe.mono HBC.out.size))
            have HV := Aside0.mk hV
            clear hV hbe
            refine hK.out _ _ ⟨((HBE.out : Below wd.heap.size wd _).cell (World.block_lt_of_cell? wd _ HS0.out)).trans HS0.out, ((HBE.out : Below wd.heap.size wd _).cell (World.block_lt_of_cell? wd _ HS1.out)).trans HS1.out⟩ (fun hHeld => ?_)
            clear hK K
            refine zn1 ?_
            refine zp1 (i := 17) (N := some 56) #[true, true, true, true, true, true, true, true, true, true, true, true, true, true, true, true, true, true, false, false, false, false] rfl rfl (by kernel_rfl) ?_
            refine zp1 (i := 18) (N := some 74) #[true, true, true, true, true, true, true, true, true, true, true, true, true, true, true, true, true, true, true, false, false, false] rfl rfl (by kernel_rfl) ?_
            refine zp1 (i := 19) (N := some 75) #[true, true, true, true, true, true, true, true, true, true, true, true, true, true, true, true, true, true, true, true, false, false] rfl rfl (by kernel_rfl) ?_
            refine zp1 (i := 20) (N := some 17) #[true, true, true, true, true, true, true, true, true, true, true, true, true, true, true, true, true, true, true, true, true, false] rfl rfl (by kernel_rfl) ?_
            refine zp1 (i := 21) (N := some 18) #[true, true, true, true, true, true, true, true, true, true, true, true, true, true, true, true, true, true, true, true, true, true] rfl rfl (by kernel_rfl) ?_
            refine done_ (by kernel_rfl) ?_
            have HB1e := Aside0.mk (HB1.out.trans ((HBD.out.trans (HBE.out.mono HBD.out.size)).mono HB1.out.size))
            have HFe := Aside0.mk (Kd.F_mono (Kd.F_below HFd.out HBE.out) (ok' := fun z => bs ≤ z ∧ z < we.heap.size) (fun z hz => ⟨hz.1, Nat.lt_of_lt_of_le hz.2 HBE.out.size⟩))
            have hT2 := HT2.out
            cases t1
            case false =>
              rw [if_neg (by decide)] at hT2
              have HT3 := Aside0.mk hT2
              clear hT2 HT2
              go_wp2
              go_roundg (gl.length - (kk + 1))
              case measure => exact om2 hlt hg
              case rel => exact ⟨kk + 1, hlt, Nat.le_refl _, by congr 1, HT3, HB1e⟩
            case true =>
              rw [if_pos rfl] at hT2
              simp only [Option.some.injEq, Prod.mk.injEq] at hT2
              obtain ⟨rfl, rfl⟩ := hT2
              go_wp2
              go_ret2
              exact ⟨_, by first | rfl | (simp [*] <;> rfl), HV.out, HB1e.out⟩
      · have hkl : kk = gl.length := Nat.le_antisymm hkk (Nat.le_of_not_lt hlt)
        have hltz : ¬ (kk : Int) < (gl.length : Int) := fun e => hlt (Int.ofNat_lt.1 e)
        subst hkl
        have hT := HT.out
        rw [List.drop_length] at hT
        simp only [chLoop, Option.some.injEq, Prod.mk.injEq] at hT
        obtain ⟨rfl, rfl⟩ := hT
        go_wp2
        go_ret2
        exact ⟨_, by first | rfl | (simp [*] <;> rfl), Kd.V_nil _ _ _ _ _, HB1.out⟩
def chNd (k : Nat) (gs : List S28) (ov : List Bool) (N : Nat) : Nat → Nat → Option (List S28)
  | 0, _ => some []
  | d + 1, c => (spec_chLook.f k gs ov c 0 (List.replicate N true) []).bind fun r => if r.2 = true then some r.1 else chNd k gs ov N d (c + 1)
def spec_chNeeded.f (k : Nat) (n : Int) (l : List (List Int)) : Option (List S28) := if 0 ≤ n ∧ n ≤ 16 then (spec_chGames.f k n l).bind fun gs => (spec_gmAll.f k n l).bind fun ov => if gs.length ≤ 1000000 then chNd k gs ov (2 ^ n.toNat) 4 1 else none else none
theorem ones_len {N j : Nat} (h : j < N) : j < (List.replicate j true ++ List.replicate (N - j) false).length := by rw [List.length_append, List.length_replicate, List.length_replicate]; omega
theorem om5q {q : Nat} (h : q ≤ 4) : 5 - q = 5 - (q + 1) + 1 := by omega
theorem om0q {q : Nat} (h : q ≤ 5) : ([] : List S28).length + q ≤ 1000000 := by simp only [List.length_nil]; omega
theorem om6q {q : Nat} (h : q ≤ 5) (h2 : ¬ q ≤ 4) : q = 5 := by omega
theorem ones_set {N j : Nat} (h : j < N) : ((List.replicate j true ++ List.replicate (N - j) false).map Value.bool).toArray.setIfInBounds j (.bool true) = ((List.replicate (j + 1) true ++ List.replicate (N - (j + 1)) false).map Value.bool).toArray := by
  rw [List.setIfInBounds_toArray, ← List.map_set, List.set_append_right _ _ (by rw [List.length_replicate]; exact Nat.le_refl _), List.length_replicate, Nat.sub_self, show N - j = N - (j + 1) + 1 by omega, List.replicate_succ, List.set_cons_zero, List.replicate_succ', List.append_assoc]; rfl
set_option maxHeartbeats 8000000 in
set_option maxRecDepth 100000 in
theorem spec_chNeeded.calls (k : Nat) (n : Int) (A : Option Addr) (c : Nat) (l : List (List Int)) (r : List S28) (w : World) (hC : Kd.C (Kd.slice 3 (Kd.int .i64)) w A l.length l) (hc : l.length ≤ c) (h : spec_chNeeded.f k n l = some r) :
    Calls Tryz.prog 28 #[.agg #[.int .i64 n, .slice A l.length c]] w fun e w' => ∃ v0_ : Value, e = .returned v0_ ∧ Kd.V k28 28 w' w.heap.size (fun k_ => w.heap.size ≤ k_) v0_ r ∧ Below w.heap.size w w' := by
  unfold spec_chNeeded.f at h
  by_cases c0 : 0 ≤ n ∧ n ≤ 16
  case neg => rw [if_neg c0] at h; cases h
  rw [if_pos c0] at h
  obtain ⟨gs, hgs, h⟩ := Option.bind_eq_some_iff.mp h
  obtain ⟨ov, hov, h⟩ := Option.bind_eq_some_iff.mp h
  by_cases c1 : gs.length ≤ 1000000
  case neg => rw [if_neg c1] at h; cases h
  rw [if_pos c1] at h
  have hp16 : 2 ^ n.toNat ≤ 65536 := Nat.pow_le_pow_right (n := 2) (by decide) (show n.toNat ≤ 16 by omega)
  have hp1 : 1 ≤ 2 ^ n.toNat := Nat.one_le_two_pow
  have hji : shl .i64 1 n = ((2 ^ n.toNat : Nat) : Int) := by rw [shl_one n c0]; simp
  generalize 2 ^ n.toNat = N at hji h hp16 hp1
  obtain ⟨hji_, hjiz, hjiu, hjiv, hjiy, hjix⟩ := zJ1 hji
  have hjie := (i64_w _).symm.trans (hjiv (by omega))
  have hmk := run_falses N hp16
  have c00 := c0.1
  have c00b : decide (0 ≤ n) = true := decide_eq_true c00
  have hNb : decide (0 ≤ (N : Int)) = true := decide_eq_true (Int.natCast_nonneg _)
  have HGS := Aside0.mk hgs
  have HOV := Aside0.mk hov
  have HH := Aside0.mk h
  have HC := Aside0.mk hC
  have HP := Aside0.mk (show 1 ≤ N ∧ N ≤ 65536 from ⟨hp1, hp16⟩)
  clear hgs hov h hC hp1 hp16
  have huG := Tryz.underlying28
  go_enter Tryz.func28, Tryz.ntmps28
  go_wp2_with (first
    | ((with_reducible refine gate_dst (N := 1) rfl ?_); refine box_event ?hg (N := 1) ?hd (cs := #[.int .i64 n, .slice A l.length c]) (t := 28) ?hr ?_; (case hd => rfl); (case hg => rfl); (case hr => first | (go_simp; done) | (go_simp; rfl)); intro gb hgb w1 hbox hb1; have HBX := Aside0.mk hbox; have HB1 := Aside0.mk hb1; have hgw : w.heap.size ≤ gb := Nat.le_of_eq hgb.symm; have z0_ : w1.cell? ⟨gb, 0, none⟩ = some (.int .i64 n) := (blk_cell hbox 0).trans rfl; have z1_ : w1.cell? ⟨gb, 1, none⟩ = some (.slice A l.length c) := (blk_cell hbox 1).trans rfl; have f0_ := blk_frozen hbox 0; have f1_ := blk_frozen hbox 1; clear hbox hb1 hgb)
    | (go_at_call 51; refine (spec_chGames.calls k n A c l gs _ (Kd.C_below HC.out HB1.out) hc HGS.out).mono ?_; rintro e w2 ⟨v3, rfl, hV, hb⟩; obtain ⟨Ag, cg, rfl, hcg, hF⟩ := hV; have HF := Aside0.mk (Kd.F_mono (Kd.F_bound hF) (ok' := fun z => w.heap.size ≤ z ∧ z < w2.heap.size) (fun z hz => ⟨Nat.le_trans HB1.out.size hz.1, hz.2⟩)); have HB2 := Aside0.mk (HB1.out.trans (hb.mono HB1.out.size)); have HBX2 := Aside0.mk (blk_below HBX.out hb); clear z0_ z1_ f0_ f1_ hF hb HBX; have z0_ : w2.cell? ⟨gb, 0, none⟩ = some (.int .i64 n) := (blk_cell HBX2.out 0).trans rfl; have z1_ : w2.cell? ⟨gb, 1, none⟩ = some (.slice A l.length c) := (blk_cell HBX2.out 1).trans rfl; have f0_ := blk_frozen HBX2.out 0; have f1_ := blk_frozen HBX2.out 1))
  have HCG := Aside0.mk hcg
  clear z0_ z1_ f0_ f1_ hmk hji hji_ hjiz hjiu hjiv hjiy hjix hjie c00b HGS HB1 hcg
  go_loopg [17] N (fun gg v17 wr => ∃ j : Nat, j ≤ N ∧ N - j ≤ gg ∧ v17 = .int .i64 j ∧ Aside0 (wr.heap[w2.heap.size]? = some (.cells ((List.replicate j true ++ List.replicate (N - j) false).map Value.bool).toArray 4 (0, 0))) ∧ Aside0 (Below w2.heap.size w2 wr))
  case atStart => exact ⟨0, Nat.zero_le _, Nat.le_refl _, rfl, ⟨by have h1 := blk_new w2 (.cells (Array.replicate N (.bool false)) 4); rw [h1, List.replicate_zero, List.nil_append, Nat.sub_zero, List.map_replicate, List.toArray_replicate]⟩, ⟨(Below.refl _ w2).alloc (Nat.le_refl _) _⟩⟩
  case round =>
    obtain ⟨j, hj, hg, rfl, HW, HB3⟩ := hrel
    by_cases hjl : j < N
    · have hjz : (j : Int) < (N : Int) := Int.ofNat_lt.2 hjl
      have hjb : decide ((j : Int) < (N : Int)) = true := decide_eq_true hjz
      have hln := ones_len hjl
      have hx : wr.cell? ⟨w2.heap.size, j, none⟩ = some (.bool (List.replicate j true ++ List.replicate (N - j) false)[j]) := by rw [blk_cell HW.out, List.getElem?_toArray, List.getElem?_map, List.getElem?_eq_getElem hln]; rfl
      have hf := blk_frozen HW.out j
      generalize (List.replicate j true ++ List.replicate (N - j) false)[j] = b0 at hx
      have HWS := Aside0.mk (blk_put HW.out j (.bool true) (ones_set hjl))
      have HBS := Aside0.mk (below_set (j := j) (v := .bool true) HB3.out (Nat.le_refl _))
      have hw3 : wrap64 ((j : Int) + 1) = ((j + 1 : Nat) : Int) := om3 hjl (Nat.le_trans HP.out.2 (by decide))
      clear hln HW HB3
      go_wp2
      go_roundg (N - (j + 1))
      case measure => exact om2 hjl hg
      case rel => exact ⟨j + 1, hjl, Nat.le_refl _, by congr 1, HWS, HBS⟩
    · have hje : j = N := Nat.le_antisymm hj (Nat.le_of_not_lt hjl)
      subst hje
      obtain ⟨wo, rfl⟩ : ∃ wo, wo = wr := ⟨wr, rfl⟩
      have hW := HW.out
      rw [Nat.sub_self, List.replicate_zero, List.append_nil] at hW
      have HW2 := Aside0.mk hW
      have HF2 := Aside0.mk (Kd.F_below HF.out HB3.out)
      have HBW := Aside0.mk (HB2.out.trans (HB3.out.mono HB2.out.size))
      have HBX3 := Aside0.mk (blk_below HBX2.out HB3.out)
      have hsz := HB3.out.size
      clear hW HW
      go_wp2
      go_loopg [6] 4 (fun gg v6 wr => ∃ q : Nat, 1 ≤ q ∧ q ≤ 5 ∧ 5 - q ≤ gg ∧ v6 = .int .i64 q ∧ Aside0 (chNd k gs ov j (5 - q) q = some r) ∧ Aside0 (Below wo.heap.size wo wr))
      case atStart => exact ⟨1, Nat.le_refl _, by decide, by decide, rfl, HH, ⟨Below.refl _ _⟩⟩
      case round =>
        clear HH
        obtain ⟨q, hq1, hq5, hg2, rfl, HT, HB4⟩ := hrel
        by_cases hql : q ≤ 4
        · have hqz : (q : Int) ≤ 4 := Int.ofNat_le.2 hql
          have hqb : decide ((q : Int) ≤ 4) = true := decide_eq_true hqz
          have hw4 : wrap64 ((q : Int) + 1) = ((q + 1 : Nat) : Int) := om3 (Nat.lt_succ_of_le hql) (by decide)
          have hT := HT.out
          rw [om5q hql, chNd] at hT
          replace hT := Option.bind_eq_some_iff.mp hT
          obtain ⟨⟨r1, t1⟩, hr1, hT⟩ := hT
          have HR1 := Aside0.mk hr1
          have HT2 := Aside0.mk hT
          have HBW4 := Aside0.mk (HBW.out.trans (HB4.out.mono HBW.out.size))
          have HBX4 := Aside0.mk (blk_below HBX3.out HB4.out)
          have z0_ : wr.cell? ⟨gb, 0, none⟩ = some (.int .i64 n) := (blk_cell HBX4.out 0).trans rfl
          have z1_ : wr.cell? ⟨gb, 1, none⟩ = some (.slice A l.length c) := (blk_cell HBX4.out 1).trans rfl
          have f0_ := blk_frozen HBX4.out 0
          have f1_ := blk_frozen HBX4.out 1
          clear hT hr1 HT
          have hT2 := HT2.out
          cases t1
          case false =>
            rw [if_neg (Bool.false_ne_true)] at hT2
            have HT3 := Aside0.mk hT2
            clear hT2 HT2
            go_wp2_with (first
              | (go_at_call 53; refine (spec_gmAll.calls k n A c l ov _ (Kd.C_below HC.out HBW4.out) hc HOV.out).mono ?_; rintro e w5 ⟨vo, rfl, hR, hb⟩; obtain ⟨Ao, co, rfl⟩ := Kd.R_slice hR; have HR5 := Aside0.mk (Kd.R_reads' hR); have HB5 := Aside0.mk hb; clear hR hb z0_ z1_ f0_ f1_)
              | (go_at_call 52; have hcl := spec_chLook.calls k gs Ag cg HCG.out c1 ov Ao co HR5.out.2.1 w.heap.size w5 (Nat.le_trans HBW4.out.size HB5.out.size) (Kd.F_mono (Kd.F_below HF2.out (HB4.out.trans (HB5.out.mono HB4.out.size))) (fun z hz => ⟨hz.1, Nat.lt_of_lt_of_le hz.2 (Nat.le_trans hsz (Nat.le_trans HB4.out.size HB5.out.size))⟩)) HR5.out.2.2 q 0 (List.replicate j true) (some ⟨w2.heap.size, 0, none⟩) j [] none 0 r1 false w5 (Below.refl _ _) (by rw [List.length_replicate]; exact Nat.le_refl _) (by rw [List.length_replicate]; exact HP.out.1) (Nat.le_refl _) (Nat.zero_le _) (om0q hq5) (C_bools (blk_below (blk_below HW2.out HB4.out) HB5.out) (by rw [List.length_replicate]; exact HP.out.2)) (Kd.F_nil _ _ _) HR1.out; rw [List.length_replicate] at hcl; refine hcl.mono ?_; clear hcl; rintro e w6 ⟨v7, rfl, hV, hb⟩; have HV := Aside0.mk hV; have HB6 := Aside0.mk (HB4.out.trans ((HB5.out.trans (hb.mono HB5.out.size)).mono HB4.out.size)); clear hV hb))
            go_roundg (5 - (q + 1))
            case measure => exact om2 (Nat.lt_succ_of_le hql) hg2
            case rel => exact ⟨q + 1, Nat.le_add_left _ _, Nat.succ_le_succ hql, Nat.le_refl _, by congr 1, HT3, HB6⟩
          case true =>
            rw [if_pos rfl] at hT2
            obtain rfl := Option.some.inj hT2
            go_wp2_with (first
              | (go_at_call 53; refine (spec_gmAll.calls k n A c l ov _ (Kd.C_below HC.out HBW4.out) hc HOV.out).mono ?_; rintro e w5 ⟨vo, rfl, hR, hb⟩; obtain ⟨Ao, co, rfl⟩ := Kd.R_slice hR; have HR5 := Aside0.mk (Kd.R_reads' hR); have HB5 := Aside0.mk hb; clear hR hb z0_ z1_ f0_ f1_)
              | (go_at_call 52; have hcl := spec_chLook.calls k gs Ag cg HCG.out c1 ov Ao co HR5.out.2.1 w.heap.size w5 (Nat.le_trans HBW4.out.size HB5.out.size) (Kd.F_mono (Kd.F_below HF2.out (HB4.out.trans (HB5.out.mono HB4.out.size))) (fun z hz => ⟨hz.1, Nat.lt_of_lt_of_le hz.2 (Nat.le_trans hsz (Nat.le_trans HB4.out.size HB5.out.size))⟩)) HR5.out.2.2 q 0 (List.replicate j true) (some ⟨w2.heap.size, 0, none⟩) j [] none 0 r1 true w5 (Below.refl _ _) (by rw [List.length_replicate]; exact Nat.le_refl _) (by rw [List.length_replicate]; exact HP.out.1) (Nat.le_refl _) (Nat.zero_le _) (om0q hq5) (C_bools (blk_below (blk_below HW2.out HB4.out) HB5.out) (by rw [List.length_replicate]; exact HP.out.2)) (Kd.F_nil _ _ _) HR1.out; rw [List.length_replicate] at hcl; refine hcl.mono ?_; clear hcl; rintro e w6 ⟨v7, rfl, hV, hb⟩; have HV := Aside0.mk hV; have HB6 := Aside0.mk (HB4.out.trans ((HB5.out.trans (hb.mono HB5.out.size)).mono HB4.out.size)); clear hV hb))
            go_ret
            exact ⟨_, rfl, Kd.V_mono HV.out (fun z hz => hz.1), HBW.out.trans (HB6.out.mono HBW.out.size)⟩
        · have hqe : q = 5 := om6q hq5 hql
          subst hqe
          have hT := HT.out
          obtain rfl := Option.some.inj hT
          go_wp2
          go_ret
          exact ⟨_, rfl, Kd.V_nil _ _ _ _ _, HBW.out.trans (HB4.out.mono HBW.out.size)⟩
end Go.Proofs.YtmbkmabpebjboaaGreat.Q
end
section
namespace Go.Proofs.YtmbkmabpebjboaaGreat.Q
open Go.RowKit Go.Proofs.YtmbkmabpebjboaaGreatW.PrintWords Go.Proofs.YtmbkmabpebjboaaGreatW.PrintLast Go.Proofs.YtmbkmabpebjboaaGreatW.PrintMore
attribute [local go_sem] max2_int min2_int max_two min_two max_three min_three max_four min_four
set_option linter.unusedVariables false
set_option linter.unusedSimpArgs false
def spec_voWeight.l0 : Nat → Int → Int → List Int → Int → Int → Option (Int)
 | 0, _, _, _, _, _ => none
 | k + 1, x1, x5, x9, x10, x11 => if x11 < x10 then (if 0 ≤ x11 then (if x11 < (x9.length : Int) then (if (Int.tmod (shr .i64 x1 x11) 2) = 1 then (spec_voWeight.l0 k x1 (wrap64 (x5 + (rd x9 x11))) x9 x10 (wrap64 (x11 + 1))) else (spec_voWeight.l0 k x1 x5 x9 x10 (wrap64 (x11 + 1)))) else (none)) else (none)) else (some x5)
def spec_voWeight.f (k : Nat) (a0_0 : Int) (l0_1 : List Int) (a1 : Int) : Option (Int) := spec_voWeight.l0 k a1 0 l0_1 (l0_1.length : Int) 0
set_option maxHeartbeats 8000000 in
set_option maxRecDepth 100000 in
theorem spec_voWeight.calls (k : Nat) (a0_0 : Int) (A0_1 : Option Addr) (c0_1 : Nat) (l0_1 : List Int) (a1 : Int) (r : Int) (w : World) (hr0_1 : Kd.C (Kd.int .i64) w A0_1 l0_1.length l0_1) (hc0_1 : l0_1.length ≤ c0_1) (h : spec_voWeight.f k a0_0 l0_1 a1 = some r) :
  Calls Tryz.prog 107 #[.agg #[.int .i64 a0_0, .slice A0_1 l0_1.length c0_1], .int .i64 a1] w fun e w' => e = .returned (.int .i64 r) ∧ Below w.heap.size w w' := by
 have hu67 := Tryz.underlying67
 have HR0_1 := Aside0.mk hr0_1
 have HC0_1 := Aside0.mk hc0_1
 clear hr0_1 hc0_1
 have HB := Aside0.mk (Below.refl w.heap.size w)
 have H : (spec_voWeight.l0 k a1 0 l0_1 (l0_1.length : Int) 0) = some r := h
 clear h
 have H' := Aside0.mk H
 clear H
 go_enter Tryz.func107, Tryz.ntmps107
 go_wp2_with (first | ((with_reducible refine gate_dst (N := 2) rfl ?_); refine zq 2 #[.int .i64 a0_0, .slice A0_1 l0_1.length c0_1] 67 ?_; intro gb476 hg w3 hbox hb; have GW476 := zG hg HB; replace HB := zH hb HB; have BK476 := Aside0.mk hbox; have GE476 := GW476; clear hb hbox hg; obtain ⟨hcz4_0, hcz4_1, hfz4_0, hfz4_1⟩ := zC2 BK476))
 go_loopg [5, 11] k (fun kq v5 v11 w' => ∃ (x5_1 : Int) (x11_1 : Int), v5 = .int .i64 x5_1 ∧ v11 = .int .i64 x11_1 ∧ Aside0 (spec_voWeight.l0 kq a1 x5_1 l0_1 (l0_1.length : Int) x11_1 = some r) ∧ Aside0 (kq ≤ k) ∧ Aside0 (w'.heap[gb476]? = some (.cells #[.int .i64 a0_0, (.slice A0_1 l0_1.length c0_1)] 67 (0, 0))) ∧ Aside0 (Below w.heap.size w w'))
 case atStart => exact ⟨(0), (0), zE, zE, H', ⟨Nat.le_refl _⟩, ⟨zb BK476.out⟩, ⟨zh HB.out⟩⟩
 case round =>
  clear H'
  try clear c1
  try clear p2
  try clear hcz4_0
  try clear hcz4_1
  try clear hfz4_0
  try clear hfz4_1
  obtain ⟨x5_1, x11_1, rfl, rfl, HA, HK1, BK476, HB⟩ := hrel
  cases gk with
  | zero => exact absurd HA.out (by simp [spec_voWeight.l0])
  | succ k1 =>
   have H := HA.out
   clear HA
   simp only [spec_voWeight.l0] at H
   by_cases c5 : x11_1 < (l0_1.length : Int)
   rotate_left
   ·rw [if_neg c5] at H
    have c5b0 := decide_eq_false c5
    clear c5
    obtain rfl := Option.some.inj H
    go_wp2
    go_ret
    exact ⟨by first | rfl | (simp [*, errW_none, errW_some] <;> rfl), zh HB.out⟩
   rw [if_pos c5] at H
   have c5b0 := decide_eq_true c5
   clear c5
   by_cases c6 : 0 ≤ x11_1
   rotate_left
   ·rw [if_neg c6] at H
    cases H
   rw [if_pos c6] at H
   have c6b0 := decide_eq_true c6
   clear c6
   by_cases c7 : x11_1 < (l0_1.length : Int)
   rotate_left
   ·rw [if_neg c7] at H
    cases H
   rw [if_pos c7] at H
   have c7b0 := decide_eq_true c7
   clear c7
   have c8b0 := eq_true (zk : 0 ≤ x11_1)
   obtain ⟨ji9, hji9⟩ : ∃ j_ : Int, (shr .i64 a1 x11_1) = j_ := ⟨_, rfl⟩
   rw [hji9] at H
   obtain ⟨hji9_, hji9z⟩ := zI hji9
   by_cases c10 : (Int.tmod (ji9) 2) = 1
   rotate_left
   ·rw [if_neg c10] at H
    have c10b0 := beq_eq_false_iff_ne.mpr c10
    have c10b1 := bne_iff_ne.mpr c10
    have H' := Aside0.mk H
    clear H
    obtain ⟨⟨ad477, e477, hx477_0⟩, p477, q477⟩ := zW (Kd.at_int HR0_1.out x11_1)
    cases e477
    replace hx477_0 := zx HB.out hx477_0
    go_wp2
    go_roundg k1
    case measure => have := HK1.out; omega
    case rel => exact ⟨(x5_1), (wrap64 (x11_1 + 1)), zE, zE, H', zO HK1, ⟨zb BK476.out⟩, ⟨zh HB.out⟩⟩
   rw [if_pos c10] at H
   have c10b0 := beq_iff_eq.mpr c10
   have c10b1 := bne_eq_false_iff_eq.mpr c10
   clear c10
   have H' := Aside0.mk H
   clear H
   obtain ⟨⟨ad477, e477, hx477_0⟩, p477, q477⟩ := zW (Kd.at_int HR0_1.out x11_1)
   cases e477
   replace hx477_0 := zx HB.out hx477_0
   go_wp2
   go_roundg k1
   case measure => have := HK1.out; omega
   case rel => exact ⟨(wrap64 (x5_1 + (rd l0_1 x11_1))), (wrap64 (x11_1 + 1)), zE, zE, H', zO HK1, ⟨zb BK476.out⟩, ⟨zh HB.out⟩⟩
mutual
def spec_weQuota.l0 : Nat → Int → Int → List Bool → Int → Int → Int → List Int → Option (Int × Bool)
 | 0, _, _, _, _, _, _, _ => none
 | k + 1, x7, x8, x14, x15, x16, x479000, x479001 => if x16 < x15 then (if 0 ≤ x16 then (if x16 < (x14.length : Int) then ((spec_voWeight.f k x479000 x479001 x16).bind fun t480 => (if rdOf false x14 x16 = true then (if x8 < 0 then (spec_weQuota.j1 k x7 x8 (rdOf false x14 x16) t480 x14 x15 x16 true x479000 x479001) else (spec_weQuota.j1 k x7 x8 (rdOf false x14 x16) t480 x14 x15 x16 (decide (t480 < x8)) x479000 x479001)) else (spec_weQuota.j1 k x7 x8 (rdOf false x14 x16) t480 x14 x15 x16 false x479000 x479001))) else (none)) else (none)) else (some (wrap64 (x7 + 1), decide (x7 < x8)))
def spec_weQuota.j1 : Nat → Int → Int → Bool → Int → List Bool → Int → Int → Bool → Int → List Int → Option (Int × Bool)
 | 0, _, _, _, _, _, _, _, _, _, _ => none
 | k + 1, x7, x8, x10, x11, x14, x15, x16, x33, x479000, x479001 => if x33 = true then (if x10 = true then (spec_weQuota.l0 k x7 x11 x14 x15 (wrap64 (x16 + 1)) x479000 x479001) else (if x11 > x7 then (spec_weQuota.l0 k x11 x11 x14 x15 (wrap64 (x16 + 1)) x479000 x479001) else (spec_weQuota.l0 k x7 x11 x14 x15 (wrap64 (x16 + 1)) x479000 x479001))) else (if x10 = true then (spec_weQuota.l0 k x7 x8 x14 x15 (wrap64 (x16 + 1)) x479000 x479001) else (if x11 > x7 then (spec_weQuota.l0 k x11 x8 x14 x15 (wrap64 (x16 + 1)) x479000 x479001) else (spec_weQuota.l0 k x7 x8 x14 x15 (wrap64 (x16 + 1)) x479000 x479001)))
end
def spec_weQuota.f (k : Nat) (l0 : List Bool) (l1 : List Int) : Option (Int × Bool) := spec_weQuota.l0 k (-1) (-1) l0 (l0.length : Int) 0 0 l1
set_option maxHeartbeats 8000000 in
set_option maxRecDepth 100000 in
theorem spec_weQuota.calls (k : Nat) (A0 : Option Addr) (c0 : Nat) (l0 : List Bool) (A1 : Option Addr) (c1 : Nat) (l1 : List Int) (r1 : Int) (r2 : Bool) (w : World) (hr0 : Kd.C Kd.bool w A0 l0.length l0) (hc0 : l0.length ≤ c0) (hr1 : Kd.C (Kd.int .i64) w A1 l1.length l1) (hc1 : l1.length ≤ c1) (h : spec_weQuota.f k l0 l1 = some (r1, r2)) :
  Calls Tryz.prog 64 #[.slice A0 l0.length c0, .slice A1 l1.length c1] w fun e w' => e = .returned (.tuple #[.int .i64 r1, .bool r2]) ∧ Below w.heap.size w w' := by
 have hu67 := Tryz.underlying67
 have HR0 := Aside0.mk hr0
 have HC0 := Aside0.mk hc0
 clear hr0 hc0
 have HR1 := Aside0.mk hr1
 have HC1 := Aside0.mk hc1
 clear hr1 hc1
 have HB := Aside0.mk (Below.refl w.heap.size w)
 have H : (spec_weQuota.l0 k (-1) (-1) l0 (l0.length : Int) 0 0 l1) = some (r1, r2) := h
 clear h
 have H' := Aside0.mk H
 clear H
 go_enter Tryz.func64, Tryz.ntmps64
 go_wp2_with (first | ((with_reducible refine gate_dst (N := 6) rfl ?_); refine zq 6 #[.int .i64 0, .slice none 0 0] 67 ?_; intro gb478 hg w3 hbox hb; have GW478 := zG hg HB; replace HB := zH hb HB; have BK478 := Aside0.mk hbox; have GE478 := GW478; clear hb hbox hg; obtain ⟨hcz4_0, hcz4_1, hfz4_0, hfz4_1⟩ := zC2 BK478))
 go_loopg [7, 8, 16] k (fun kq v7 v8 v16 w' => ∃ (x7_1 : Int) (x8_1 : Int) (x16_1 : Int), v7 = .int .i64 x7_1 ∧ v8 = .int .i64 x8_1 ∧ v16 = .int .i64 x16_1 ∧ Aside0 (spec_weQuota.l0 kq x7_1 x8_1 l0 (l0.length : Int) x16_1 0 l1 = some (r1, r2)) ∧ Aside0 (kq ≤ k) ∧ Aside0 (w'.heap[gb478]? = some (.cells #[.int .i64 0, (.slice A1 l1.length c1)] 67 (0, 0))) ∧ Aside0 (Below w.heap.size w w'))
 case atStart => exact ⟨((-1)), ((-1)), (0), zE, zE, zE, H', ⟨Nat.le_refl _⟩, ⟨by (with_reducible repeat (first | refine blk_drewN ?_ _ | refine blk_drew ?_ | refine blk_alloc ?_ _)); refine blk_put (cs := #[.int .i64 0, .slice none 0 0]) ?_ 1 _ rfl; (with_reducible repeat (first | refine blk_drewN ?_ _ | refine blk_drew ?_ | refine blk_alloc ?_ _)); refine blk_put (cs := #[.int .i64 0, .slice none 0 0]) ?_ 0 _ rfl; (with_reducible repeat (first | refine blk_drewN ?_ _ | refine blk_drew ?_ | refine blk_alloc ?_ _)); exact BK478.out⟩, ⟨zh HB.out⟩⟩
 case round =>
  clear H'
  try clear c1
  try clear p2
  try clear hcz4_0
  try clear hcz4_1
  try clear hfz4_0
  try clear hfz4_1
  obtain ⟨x7_1, x8_1, x16_1, rfl, rfl, rfl, HA, HK1, BK478, HB⟩ := hrel
  cases gk with
  | zero => exact absurd HA.out (by simp [spec_weQuota.l0])
  | succ k1 =>
   have H := HA.out
   clear HA
   simp only [spec_weQuota.l0] at H
   by_cases c5 : x16_1 < (l0.length : Int)
   rotate_left
   ·rw [if_neg c5] at H
    have c5b0 := decide_eq_false c5
    clear c5
    simp only [Option.some.injEq, Prod.mk.injEq] at H
    obtain ⟨rfl, rfl⟩ := H
    go_wp2
    go_ret2
    exact ⟨by first | rfl | (simp [*, errW_none, errW_some] <;> rfl), zh HB.out⟩
   rw [if_pos c5] at H
   have c5b0 := decide_eq_true c5
   clear c5
   by_cases c6 : 0 ≤ x16_1
   rotate_left
   ·rw [if_neg c6] at H
    cases H
   rw [if_pos c6] at H
   have c6b0 := decide_eq_true c6
   clear c6
   by_cases c7 : x16_1 < (l0.length : Int)
   rotate_left
   ·rw [if_neg c7] at H
    cases H
   rw [if_pos c7] at H
   have c7b0 := decide_eq_true c7
   clear c7
   replace H := Option.bind_eq_some_iff.mp H
   obtain ⟨t480, A80, H⟩ := H
   replace H : (if rdOf false l0 x16_1 = true then (if x8_1 < 0 then (spec_weQuota.j1 k1 x7_1 x8_1 (rdOf false l0 x16_1) t480 l0 (l0.length : Int) x16_1 true 0 l1) else (spec_weQuota.j1 k1 x7_1 x8_1 (rdOf false l0 x16_1) t480 l0 (l0.length : Int) x16_1 (decide (t480 < x8_1)) 0 l1)) else (spec_weQuota.j1 k1 x7_1 x8_1 (rdOf false l0 x16_1) t480 l0 (l0.length : Int) x16_1 false 0 l1)) = some (r1, r2) := H
   have A8 := Aside0.mk A80
   clear A80
   have HC9 := Aside0.mk H
   clear H
   obtain ⟨⟨ad479, e479, hx479_0⟩, p479, q479⟩ := zW (Kd.at_bool HR0.out x16_1)
   cases e479
   replace hx479_0 := zx HB.out hx479_0
   obtain ⟨bz479, hbz479⟩ : ∃ b_ : Bool, b_ = (rdOf false l0 x16_1) := ⟨_, rfl⟩
   (try rw [← hbz479] at hx479_0)
   (try rw [← hbz479] at H)
   (try (have H2_ := H'.out; rw [← hbz479] at H2_; clear H'; have H' := Aside0.mk H2_; clear H2_))
   (try (have H2_ := HC9.out; rw [← hbz479] at H2_; clear HC9; have HC9 := Aside0.mk H2_; clear H2_))
   have Nbz479 := Aside0.mk hbz479
   clear hbz479
   obtain ⟨hcz10_0, hcz10_1, hfz10_0, hfz10_1⟩ := zC2 BK478
   go_upto_region 7 with (first | ((with_reducible refine gate_callee (f := 107) rfl ?_); refine zl 23 Tryz.func107 #[.agg #[.int .i64 0, .slice A1 l1.length c1], .int .i64 x16_1] ?_; (with_reducible refine (spec_voWeight.calls k1 0 _ _ l1 x16_1 t480 _ ?side1 ?side2 A8.out).mono ?_); (case side1 => repeat (first | exact (Kd.C_below HR1.out HB.out) | (with_reducible refine Kd.C_alloc ?_ _) | (with_reducible refine Kd.C_drewN ?_ _) | (with_reducible refine Kd.C_drew ?_))); (case side2 => exact HC1.out); rintro e w11 ⟨rfl, hb⟩; refine ⟨_, rfl, ?_⟩; have n0_ := Aside0.mk (blk_below (g := gb478) (o := .cells #[.int .i64 0, .slice A1 l1.length c1] 67 (0, 0)) (zb BK478.out) hb); have n1_ := Aside0.mk (below_step (zh HB.out) hb); clear BK478; clear HB; have BK478 := n0_; have HB := n1_; clear n0_ n1_; (try clear hb); (try clear hb2); (try clear hk); (try clear hi)))
   (try simp only [Act.put, List.setIfInBounds_toArray, List.set_cons_zero, List.set_cons_succ])
   go_cut [33] (fun v33 wc => ∃ (kq : Nat) (x33_8 : Bool), v33 = .bool x33_8 ∧ Aside0 (spec_weQuota.j1 kq x7_1 x8_1 bz479 t480 l0 (l0.length : Int) x16_1 x33_8 0 l1 = some (r1, r2)) ∧ Aside0 (kq ≤ k1) ∧ Aside0 (wc.heap[gb478]? = some (.cells #[.int .i64 0, (.slice A1 l1.length c1)] 67 (0, 0))) ∧ Aside0 (Below w.heap.size w wc))
   case first =>
    have H := HC9.out
    clear HC9
    (try rw [← Nbz479.out])
    by_cases c13 : bz479 = true
    ·subst c13
     rw [if_pos rfl] at H
     by_cases c14 : x8_1 < 0
     ·rw [if_pos c14] at H
      have c14b0 := decide_eq_true c14
      clear c14
      have H' := Aside0.mk H
      clear H
      go_wp2
      go_meet
      case rel => exact ⟨_, (true), zE, H', ⟨by have := HK1.out; first | omega | exact Nat.le_refl _⟩, ⟨zb BK478.out⟩, ⟨zh HB.out⟩⟩
     ·rw [if_neg c14] at H
      have c14b0 := decide_eq_false c14
      clear c14
      have H' := Aside0.mk H
      clear H
      go_wp2
      go_meet
      case rel => exact ⟨_, (decide (t480 < x8_1)), zE, H', ⟨by have := HK1.out; first | omega | exact Nat.le_refl _⟩, ⟨zb BK478.out⟩, ⟨zh HB.out⟩⟩
    ·replace c13 := Bool.eq_false_iff.mpr c13
     subst c13
     rw [if_neg zF] at H
     have H' := Aside0.mk H
     clear H
     go_wp2
     go_meet
     case rel => exact ⟨_, (false), zE, H', ⟨by have := HK1.out; first | omega | exact Nat.le_refl _⟩, ⟨zb BK478.out⟩, ⟨zh HB.out⟩⟩
   case rest =>
    clear HC9
    try clear c1
    try clear q1
    try clear p2
    try clear p4
    try clear q4
    try clear hx4
    try clear c5
    try clear c5b0
    try clear c6
    try clear c6b0
    try clear c7
    try clear c7b0
    try clear c10
    try clear q12
    try clear c13
    try clear c14
    try clear c14b0
    try clear hcz10_0
    try clear hcz10_1
    try clear hcz4_0
    try clear hcz4_1
    try clear hfz10_0
    try clear hfz10_1
    try clear hfz4_0
    try clear hfz4_1
    try clear hx479_0
    try clear p2
    try clear p479
    try clear q479
    obtain ⟨kq, x33_8, rfl, HA, HJ8, BK478, HB⟩ := hcut
    cases kq with
    | zero => exact absurd HA.out (by simp [spec_weQuota.j1])
    | succ kj8 =>
     have H := HA.out
     clear HA
     simp only [spec_weQuota.j1] at H
     by_cases c15 : x33_8 = true
     ·subst c15
      rw [if_pos rfl] at H
      by_cases c17 : (bz479) = true
      ·rw [if_pos c17] at H
       subst c17
       have H' := Aside0.mk H
       clear H
       go_wp2
       go_roundg kj8
       case measure => have := HK1.out; have := HJ8.out; omega
       case rel => exact ⟨(x7_1), (t480), (wrap64 (x16_1 + 1)), zE, zE, zE, H', zO2 HK1 HJ8, ⟨zb BK478.out⟩, ⟨zh HB.out⟩⟩
      rw [if_neg c17] at H
      have c17b0 := Bool.eq_false_iff.mpr c17
      clear c17
      by_cases c18 : t480 > x7_1
      ·rw [if_pos c18] at H
       have c18b0 := decide_eq_true c18
       clear c18
       have H' := Aside0.mk H
       clear H
       go_wp2
       go_roundg kj8
       case measure => have := HK1.out; have := HJ8.out; omega
       case rel => exact ⟨(t480), (t480), (wrap64 (x16_1 + 1)), zE, zE, zE, H', zO2 HK1 HJ8, ⟨zb BK478.out⟩, ⟨zh HB.out⟩⟩
      rw [if_neg c18] at H
      have c18b0 := decide_eq_false c18
      clear c18
      have H' := Aside0.mk H
      clear H
      go_wp2
      go_roundg kj8
      case measure => have := HK1.out; have := HJ8.out; omega
      case rel => exact ⟨(x7_1), (t480), (wrap64 (x16_1 + 1)), zE, zE, zE, H', zO2 HK1 HJ8, ⟨zb BK478.out⟩, ⟨zh HB.out⟩⟩
     replace c15 := Bool.eq_false_iff.mpr c15
     subst c15
     rw [if_neg zF] at H
     by_cases c20 : (bz479) = true
     ·rw [if_pos c20] at H
      subst c20
      have H' := Aside0.mk H
      clear H
      go_wp2
      go_roundg kj8
      case measure => have := HK1.out; have := HJ8.out; omega
      case rel => exact ⟨(x7_1), (x8_1), (wrap64 (x16_1 + 1)), zE, zE, zE, H', zO2 HK1 HJ8, ⟨zb BK478.out⟩, ⟨zh HB.out⟩⟩
     rw [if_neg c20] at H
     have c20b0 := Bool.eq_false_iff.mpr c20
     clear c20
     by_cases c21 : t480 > x7_1
     ·rw [if_pos c21] at H
      have c21b0 := decide_eq_true c21
      clear c21
      have H' := Aside0.mk H
      clear H
      go_wp2
      go_roundg kj8
      case measure => have := HK1.out; have := HJ8.out; omega
      case rel => exact ⟨(t480), (x8_1), (wrap64 (x16_1 + 1)), zE, zE, zE, H', zO2 HK1 HJ8, ⟨zb BK478.out⟩, ⟨zh HB.out⟩⟩
     rw [if_neg c21] at H
     have c21b0 := decide_eq_false c21
     clear c21
     have H' := Aside0.mk H
     clear H
     go_wp2
     go_roundg kj8
     case measure => have := HK1.out; have := HJ8.out; omega
     case rel => exact ⟨(x7_1), (x8_1), (wrap64 (x16_1 + 1)), zE, zE, zE, H', zO2 HK1 HJ8, ⟨zb BK478.out⟩, ⟨zh HB.out⟩⟩
def spec_l1Own.f (l0 : List Int) : Option (List Int) := (some (([] : List Int) : List Int)).bind fun y481 => (if y481.length + l0.length < 17592186044416 then (some (y481 ++ l0)) else (none))
set_option maxHeartbeats 8000000 in
set_option maxRecDepth 100000 in
theorem spec_l1Own.calls (A0 : Option Addr) (c0 : Nat) (l0 : List Int) (r : List Int) (w : World) (hr0 : Kd.C (Kd.int .i64) w A0 l0.length l0) (hc0 : l0.length ≤ c0) (h : spec_l1Own.f l0 = some r) :
  Calls Tryz.prog 106 #[.slice A0 l0.length c0] w fun e w' => ∃ v0_ : Value, e = .returned (v0_) ∧ Kd.R (Kd.int .i64) 3 w' w.heap.size (fun _ => True) v0_ r ∧ Below w.heap.size w w' := by
 have HR0 := Aside0.mk hr0
 have HC0 := Aside0.mk hc0
 clear hr0 hc0
 have HB := Aside0.mk (Below.refl w.heap.size w)
 have H : ((some (([] : List Int) : List Int)).bind fun y481 => (if y481.length + l0.length < 17592186044416 then (some (y481 ++ l0)) else (none))) = some r := h
 clear h
 replace H := zY H
 obtain ⟨y481, Ny481, H⟩ := H
 by_cases c2 : y481.length + l0.length < 17592186044416
 rotate_left
 ·rw [if_neg c2] at H
  cases H
 rw [if_pos c2] at H
 have LMc2 := Aside0.mk c2
 clear c2
 obtain ⟨y484, hy484⟩ : ∃ y_ : List Int, y_ = (y481 ++ l0) := ⟨_, rfl⟩
 rw [← hy484] at H
 have Ny484 := Aside0.mk hy484
 clear hy484
 obtain rfl := Option.some.inj H
 go_enter Tryz.func106, Tryz.ntmps106
 go_wp2_with (first | ((with_reducible refine gate_dst (N := 3) rfl ?_); refine Kd.R_lit (Kd.int .i64) _ 3 ?hg (N := 3) ?hd (xs := ([] : List Int)) (inner := []) (ok := fun _ => True) (okp := fun _ => True) ?hr ?hp (fun _ hk => hk) trivial (Below.refl _ _) (Nat.le_refl _) (by simp) ?_; (case hd => rfl); (case hg => rfl); (case hr => first | (go_simp; done) | (go_simp; rfl)); (case hp => exact (Reps.none _ _)); intro v482 w3 ho4 hb hg_ hnew_; clear hg_ hnew_; (first | rw [← Ny481.out] at ho4 | (simp only [Int.reduceToNat] at ho4; rw [← Ny481.out] at ho4)); have HO483 := Aside0.mk (Kd.R_lower ho4 (below_size (zh HB.out))); replace HB := zH hb HB; clear hb ho4) | ((with_reducible refine gate_builtin (b := .append) (xs := #[.tmp 3, .tmp 4]) rfl ?_); at_builtin; refine Kd.R_append_rows (Kd.int .i64) (w0 := w) w.heap.size rfl (.tmp 3) (.tmp 4) 65 3 (.int .i64 0) 8 rfl Tryz.underlying65 info3 rfl (by decide) (by omega) v482 y481 l0 _ _ _ (fun _ => True) (fun _ => False) rfl rfl ?aO ?aR (fun _ _ h => h) (fun _ h => h.elim) ?aF ?aB ?aS ?aL ?_; (case aR => exact zQ (Kd.C_below HR0.out HB.out)); (case aB => exact (zh HB.out)); (case aF => exact (fun _ _ => trivial)); (case aO => exact (zr HO483.out)); (case aS => exact (below_size (zh HB.out))); (case aL => have := LMc2.out; omega); intro v485 w5 ho hb hg hat; rw [← Ny484.out] at ho; have HO486 := Aside0.mk (ho); replace HB := Aside0.mk (hb); clear HO483 ho hb hg hat))
 go_ret
 exact ⟨_, by first | rfl | (simp [*, errW_none, errW_some] <;> rfl), by (with_reducible repeat (first | apply Kd.R_alloc | apply Kd.R_drewN | apply Kd.R_drew)); exact HO486.out, zh HB.out⟩
mutual
def spec_weLook.l0 : Nat → List Bool → Int → List Int → Int → Int → Option (List Int × Bool)
 | 0, _, _, _, _, _ => none
 | k + 1, x0, x1, x2, x3, x13 => if x13 ≤ x3 then ((spec_l1Own.f x2).bind fun t495 => (if t495.length < 17592186044416 then ((spec_weLook.f k x0 x1 (t495 ++ [x13]) (wrap64 (x3 - x13))).bind fun bt501 => (if bt501.2 = true then (some (bt501.1, true)) else (spec_weLook.l0 k x0 x1 x2 x3 (wrap64 (x13 + 1))))) else (none))) else (some (([] : List Int), false))
def spec_weLook.f : Nat → List Bool → Int → List Int → Int → Option (List Int × Bool)
 | 0, _, _, _, _ => none
 | k + 1, l0, a1, l2, a3 => if (l2.length : Int) = (wrap64 (a1 - 1)) then ((spec_l1Own.f l2).bind fun t487 => (if t487.length < 17592186044416 then ((some (t487 ++ [a3] : List Int)).bind fun y490 => ((spec_weQuota.f k l0 y490).bind fun bt493 => (some (y490, bt493.2)))) else (none))) else (spec_weLook.l0 k l0 a1 l2 a3 0)
end
set_option maxHeartbeats 8000000 in
set_option maxRecDepth 100000 in
theorem spec_weLook.calls (k : Nat) : ∀ (A0 : Option Addr) (c0 : Nat) (l0 : List Bool) (a1 : Int) (A2 : Option Addr) (c2 : Nat) (l2 : List Int) (a3 : Int) (r1 : List Int) (r2 : Bool) (w : World) (hr0 : Kd.C Kd.bool w A0 l0.length l0) (hc0 : l0.length ≤ c0) (hr2 : Kd.C (Kd.int .i64) w A2 l2.length l2) (hc2 : l2.length ≤ c2) (h : spec_weLook.f k l0 a1 l2 a3 = some (r1, r2)),
  Calls Tryz.prog 63 #[.slice A0 l0.length c0, .int .i64 a1, .slice A2 l2.length c2, .int .i64 a3] w fun e w' => ∃ v0_ : Value, e = .returned (.tuple #[v0_, .bool r2]) ∧ Kd.R (Kd.int .i64) 3 w' w.heap.size (fun _ => True) v0_ r1 ∧ Below w.heap.size w w' := by
 induction k using Nat.strongRecOn with
 | _ k ih =>
 intro A0 c0 l0 a1 A2 c2 l2 a3 r1 r2 w hr0 hc0 hr2 hc2 h
 cases k with
 | zero => exact absurd h (by simp [spec_weLook.f])
 | succ k =>
 simp only [spec_weLook.f] at h
 have HR0 := Aside0.mk hr0
 have HC0 := Aside0.mk hc0
 clear hr0 hc0
 have HR2 := Aside0.mk hr2
 have HC2 := Aside0.mk hc2
 clear hr2 hc2
 have HB := Aside0.mk (Below.refl w.heap.size w)
 have H : (if (l2.length : Int) = (wrap64 (a1 - 1)) then ((spec_l1Own.f l2).bind fun t487 => (if t487.length < 17592186044416 then ((some (t487 ++ [a3] : List Int)).bind fun y490 => ((spec_weQuota.f k l0 y490).bind fun bt493 => (some (y490, bt493.2)))) else (none))) else (spec_weLook.l0 k l0 a1 l2 a3 0)) = some (r1, r2) := h
 clear h
 by_cases c5 : (l2.length : Int) = (wrap64 (a1 - 1))
 ·rw [if_pos c5] at H
  have c5b0 := beq_iff_eq.mpr c5
  have c5b1 := bne_eq_false_iff_eq.mpr c5
  clear c5
  replace H := Option.bind_eq_some_iff.mp H
  obtain ⟨t487, A60, H⟩ := H
  replace H : (if t487.length < 17592186044416 then ((some (t487 ++ [a3] : List Int)).bind fun y490 => ((spec_weQuota.f k l0 y490).bind fun bt493 => (some (y490, bt493.2)))) else (none)) = some (r1, r2) := H
  have A6 := Aside0.mk A60
  clear A60
  by_cases c7 : t487.length < 17592186044416
  rotate_left
  ·rw [if_neg c7] at H
   cases H
  rw [if_pos c7] at H
  have LMc7 := Aside0.mk c7
  clear c7
  replace H := zY H
  obtain ⟨y490, Ny490, H⟩ := H
  replace H := Option.bind_eq_some_iff.mp H
  obtain ⟨⟨t493, t494⟩, A80, H⟩ := H
  replace H : (some (y490, t494)) = some (r1, r2) := H
  have A8 := Aside0.mk A80
  clear A80
  simp only [Option.some.injEq, Prod.mk.injEq] at H
  obtain ⟨rfl, rfl⟩ := H
  go_enter Tryz.func63, Tryz.ntmps63
  go_wp2_with (first | ((with_reducible refine gate_callee (f := 106) rfl ?_); refine zl 22 Tryz.func106 #[.slice A2 l2.length c2] ?_; (with_reducible refine (spec_l1Own.calls _ _ l2 t487 _ ?side1 ?side2 A6.out).mono ?_); (case side1 => exact zQ HR2.out); (case side2 => exact HC2.out); rintro e w9 ⟨v488, rfl, ho0, hb⟩; refine ⟨_, rfl, ?_⟩; have HO489 := Aside0.mk (Kd.R_lower ho0 (below_size (zh HB.out))); replace HB := zH hb HB; clear hb; (try clear ho0)) | ((with_reducible refine gate_builtin (b := .append) (xs := #[.tmp 22, .tmp 24]) rfl ?_); at_builtin; refine Kd.R_append (Kd.int .i64) (w0 := w) w.heap.size rfl (.tmp 22) (.tmp 24) 65 3 (.int .i64 0) 8 rfl Tryz.underlying65 info3 rfl (by decide) (by omega) v488 t487 a3 [.int .i64 a3] (fun _ => True) (fun _ => False) rfl rfl ?aP (fun _ hk => hk.elim) ?aF ?aO ?aB ?aS ?aL ?_; (case aP => exact rfl); (case aB => exact (zh HB.out)); (case aF => exact (fun _ _ => trivial)); (case aO => exact (zr HO489.out)); (case aS => exact (below_size (zh HB.out))); (case aL => have := LMc7.out; omega); intro v491 w10 ho hb hg hat; rw [← Ny490.out] at ho; have HO492 := Aside0.mk (ho); replace HB := Aside0.mk (hb); clear HO489 ho hb hg hat; obtain ⟨Ao11, co11, eo11⟩ := Kd.R_slice HO492.out; subst eo11) | ((with_reducible refine gate_callee (f := 64) rfl ?_); refine zl 29 Tryz.func64 #[.slice A0 l0.length c0, .slice Ao11 y490.length co11] ?_; (with_reducible refine (spec_weQuota.calls k _ _ l0 _ _ y490 t493 t494 _ ?side1 ?side2 ?side3 ?side4 A8.out).mono ?_); (case side1 => exact zQ (Kd.C_below HR0.out HB.out)); (case side2 => exact HC0.out); (case side3 => exact zQ ((Kd.R_reads' HO492.out).2.2)); (case side4 => exact (Kd.R_reads' HO492.out).2.1); rintro e w12 ⟨rfl, hb⟩; refine ⟨_, rfl, ?_⟩; replace HO492 := Aside0.mk (Kd.R_below (zr HO492.out) hb); replace HB := zH hb HB; clear hb))
  go_ret2
  exact ⟨_, by first | rfl | (simp [*, errW_none, errW_some] <;> rfl), by (with_reducible repeat (first | apply Kd.R_alloc | apply Kd.R_drewN | apply Kd.R_drew)); exact HO492.out, zh HB.out⟩
 rw [if_neg c5] at H
 have c5b0 := beq_eq_false_iff_ne.mpr c5
 have c5b1 := bne_iff_ne.mpr c5
 have H' := Aside0.mk H
 clear H
 go_enter Tryz.func63, Tryz.ntmps63
 go_wp2
 go_loopg [13] k (fun kq v13 w' => ∃ (x13_1 : Int), v13 = .int .i64 x13_1 ∧ Aside0 (spec_weLook.l0 kq l0 a1 l2 a3 x13_1 = some (r1, r2)) ∧ Aside0 (kq ≤ k) ∧ Aside0 (Below w.heap.size w w'))
 case atStart => exact ⟨(0), zE, H', ⟨Nat.le_refl _⟩, ⟨zh HB.out⟩⟩
 case round =>
  clear H'
  try clear c1
  try clear c2
  try clear p2
  try clear c5
  try clear c5b0
  try clear c5b1
  try clear c6
  try clear p6
  try clear c7
  try clear c10
  obtain ⟨x13_1, rfl, HA, HK1, HB⟩ := hrel
  cases gk with
  | zero => exact absurd HA.out (by simp [spec_weLook.l0])
  | succ k1 =>
   have H := HA.out
   clear HA
   simp only [spec_weLook.l0] at H
   by_cases c13 : x13_1 ≤ a3
   rotate_left
   ·rw [if_neg c13] at H
    have c13b0 := decide_eq_false c13
    clear c13
    simp only [Option.some.injEq, Prod.mk.injEq] at H
    obtain ⟨rfl, rfl⟩ := H
    go_wp2
    go_ret2
    exact ⟨_, by first | rfl | (simp [*, errW_none, errW_some] <;> rfl), by first | exact Kd.R_nil _ _ _ _ _ | exact Kd.N_nil _ _ _ _ _ | exact Kd.V_nil _ _ _ _ _ | exact Kd.Q_nil _ _ _ _ _ | exact Kd.S_nil _ _ _ _ _, zh HB.out⟩
   rw [if_pos c13] at H
   have c13b0 := decide_eq_true c13
   clear c13
   replace H := Option.bind_eq_some_iff.mp H
   obtain ⟨t495, A140, H⟩ := H
   replace H : (if t495.length < 17592186044416 then ((spec_weLook.f k1 l0 a1 (t495 ++ [x13_1]) (wrap64 (a3 - x13_1))).bind fun bt501 => (if bt501.2 = true then (some (bt501.1, true)) else (spec_weLook.l0 k1 l0 a1 l2 a3 (wrap64 (x13_1 + 1))))) else (none)) = some (r1, r2) := H
   have A14 := Aside0.mk A140
   clear A140
   by_cases c15 : t495.length < 17592186044416
   rotate_left
   ·rw [if_neg c15] at H
    cases H
   rw [if_pos c15] at H
   have LMc15 := Aside0.mk c15
   clear c15
   obtain ⟨y498, hy498⟩ : ∃ y_ : List Int, y_ = (t495 ++ [x13_1]) := ⟨_, rfl⟩
   rw [← hy498] at H
   have Ny498 := Aside0.mk hy498
   clear hy498
   replace H := Option.bind_eq_some_iff.mp H
   obtain ⟨⟨t501, t502⟩, A160, H⟩ := H
   replace H : (if t502 = true then (some (t501, true)) else (spec_weLook.l0 k1 l0 a1 l2 a3 (wrap64 (x13_1 + 1)))) = some (r1, r2) := H
   have A16 := Aside0.mk A160
   clear A160
   by_cases c17 : t502 = true
   rotate_left
   ·replace c17 := Bool.eq_false_iff.mpr c17
    subst c17
    rw [if_neg zF] at H
    have H' := Aside0.mk H
    clear H
    go_wp2_with (first | ((with_reducible refine gate_callee (f := 106) rfl ?_); refine zl 43 Tryz.func106 #[.slice A2 l2.length c2] ?_; (with_reducible refine (spec_l1Own.calls _ _ l2 t495 _ ?side1 ?side2 A14.out).mono ?_); (case side1 => exact zQ (Kd.C_below HR2.out HB.out)); (case side2 => exact HC2.out); rintro e w22 ⟨v496, rfl, ho0, hb⟩; refine ⟨_, rfl, ?_⟩; have HO497 := Aside0.mk (Kd.R_lower ho0 (below_size (zh HB.out))); replace HB := zH hb HB; clear hb; (try clear ho0)) | ((with_reducible refine gate_builtin (b := .append) (xs := #[.tmp 43, .tmp 45]) rfl ?_); at_builtin; refine Kd.R_append (Kd.int .i64) (w0 := w) w.heap.size rfl (.tmp 43) (.tmp 45) 65 3 (.int .i64 0) 8 rfl Tryz.underlying65 info3 rfl (by decide) (by omega) v496 t495 x13_1 [.int .i64 x13_1] (fun _ => True) (fun _ => False) rfl rfl ?aP (fun _ hk => hk.elim) ?aF ?aO ?aB ?aS ?aL ?_; (case aP => exact rfl); (case aB => exact (zh HB.out)); (case aF => exact (fun _ _ => trivial)); (case aO => exact (zr HO497.out)); (case aS => exact (below_size (zh HB.out))); (case aL => have := LMc15.out; omega); intro v499 w23 ho hb hg hat; rw [← Ny498.out] at ho; have HO500 := Aside0.mk (ho); replace HB := Aside0.mk (hb); clear HO497 ho hb hg hat; obtain ⟨Ao24, co24, eo24⟩ := Kd.R_slice HO500.out; subst eo24) | ((with_reducible refine gate_callee (f := 63) rfl ?_); refine zl 50 Tryz.func63 #[.slice A0 l0.length c0, .int .i64 a1, .slice Ao24 y498.length co24, .int .i64 (wrap64 (a3 - x13_1))] ?_; (with_reducible refine (ih k1 (by have := HK1.out; omega) _ _ l0 a1 _ _ y498 (wrap64 (a3 - x13_1)) t501 false _ ?side1 ?side2 ?side3 ?side4 A16.out).mono ?_); (case side1 => exact zQ (Kd.C_below HR0.out HB.out)); (case side2 => exact HC0.out); (case side3 => exact zQ ((Kd.R_reads' HO500.out).2.2)); (case side4 => exact (Kd.R_reads' HO500.out).2.1); rintro e w25 ⟨v503, rfl, ho0, hb⟩; refine ⟨_, rfl, ?_⟩; have HO504 := Aside0.mk (Kd.R_lower (Kd.R_new' ho0 (Kd.R_lt (zr HO500.out))) (below_size (zh HB.out))); replace HO500 := Aside0.mk (Kd.R_elder' (zr HO500.out) (Kd.R_base ho0) hb); replace HB := zH hb HB; clear hb; (try clear ho0)))
    go_roundg k1
    case measure => have := HK1.out; omega
    case rel => exact ⟨(wrap64 (x13_1 + 1)), zE, H', zO HK1, ⟨zh HB.out⟩⟩
   subst c17
   rw [if_pos rfl] at H
   simp only [Option.some.injEq, Prod.mk.injEq] at H
   obtain ⟨rfl, rfl⟩ := H
   go_wp2_with (first | ((with_reducible refine gate_callee (f := 106) rfl ?_); refine zl 43 Tryz.func106 #[.slice A2 l2.length c2] ?_; (with_reducible refine (spec_l1Own.calls _ _ l2 t495 _ ?side1 ?side2 A14.out).mono ?_); (case side1 => exact zQ (Kd.C_below HR2.out HB.out)); (case side2 => exact HC2.out); rintro e w18 ⟨v496, rfl, ho0, hb⟩; refine ⟨_, rfl, ?_⟩; have HO497 := Aside0.mk (Kd.R_lower ho0 (below_size (zh HB.out))); replace HB := zH hb HB; clear hb; (try clear ho0)) | ((with_reducible refine gate_builtin (b := .append) (xs := #[.tmp 43, .tmp 45]) rfl ?_); at_builtin; refine Kd.R_append (Kd.int .i64) (w0 := w) w.heap.size rfl (.tmp 43) (.tmp 45) 65 3 (.int .i64 0) 8 rfl Tryz.underlying65 info3 rfl (by decide) (by omega) v496 t495 x13_1 [.int .i64 x13_1] (fun _ => True) (fun _ => False) rfl rfl ?aP (fun _ hk => hk.elim) ?aF ?aO ?aB ?aS ?aL ?_; (case aP => exact rfl); (case aB => exact (zh HB.out)); (case aF => exact (fun _ _ => trivial)); (case aO => exact (zr HO497.out)); (case aS => exact (below_size (zh HB.out))); (case aL => have := LMc15.out; omega); intro v499 w19 ho hb hg hat; rw [← Ny498.out] at ho; have HO500 := Aside0.mk (ho); replace HB := Aside0.mk (hb); clear HO497 ho hb hg hat; obtain ⟨Ao20, co20, eo20⟩ := Kd.R_slice HO500.out; subst eo20) | ((with_reducible refine gate_callee (f := 63) rfl ?_); refine zl 50 Tryz.func63 #[.slice A0 l0.length c0, .int .i64 a1, .slice Ao20 y498.length co20, .int .i64 (wrap64 (a3 - x13_1))] ?_; (with_reducible refine (ih k1 (by have := HK1.out; omega) _ _ l0 a1 _ _ y498 (wrap64 (a3 - x13_1)) t501 true _ ?side1 ?side2 ?side3 ?side4 A16.out).mono ?_); (case side1 => exact zQ (Kd.C_below HR0.out HB.out)); (case side2 => exact HC0.out); (case side3 => exact zQ ((Kd.R_reads' HO500.out).2.2)); (case side4 => exact (Kd.R_reads' HO500.out).2.1); rintro e w21 ⟨v503, rfl, ho0, hb⟩; refine ⟨_, rfl, ?_⟩; have HO504 := Aside0.mk (Kd.R_lower (Kd.R_new' ho0 (Kd.R_lt (zr HO500.out))) (below_size (zh HB.out))); replace HO500 := Aside0.mk (Kd.R_elder' (zr HO500.out) (Kd.R_base ho0) hb); replace HB := zH hb HB; clear hb; (try clear ho0)))
   go_ret2
   exact ⟨_, by first | rfl | (simp [*, errW_none, errW_some] <;> rfl), by (with_reducible repeat (first | apply Kd.R_alloc | apply Kd.R_drewN | apply Kd.R_drew)); exact Kd.R_mono HO504.out (fun _ hk => trivial), zh HB.out⟩
def spec_weFind.l0 : Nat → List Bool → Int → Int → List (List Int) → Option (Int × List Int × Bool)
 | 0, _, _, _, _ => none
 | k + 1, x4, x5, x506000, x506001 => (spec_weLook.f k x4 x506000 ([] : List Int) x5).bind fun bt511 => (if bt511.2 = true then ((spec_weQuota.f k x4 bt511.1).bind fun bt515 => (some (bt515.1, bt511.1, true))) else (spec_weFind.l0 k x4 (wrap64 (x5 + 1)) x506000 x506001))
def spec_weFind.f (k : Nat) (a0_0 : Int) (l0_1 : List (List Int)) : Option (Int × List Int × Bool) := (spec_gmAll.f k a0_0 l0_1).bind fun t507 => ((spec_deComplete.f k t507 a0_0).bind fun t510 => (if t510 = true then (spec_weFind.l0 k t507 1 a0_0 l0_1) else (some (0, ([] : List Int), false))))
set_option maxHeartbeats 8000000 in
set_option maxRecDepth 100000 in
theorem spec_weFind.calls (k : Nat) (a0_0 : Int) (A0_1 : Option Addr) (c0_1 : Nat) (l0_1 : List (List Int)) (r1 : Int) (r2 : List Int) (r3 : Bool) (w : World) (hr0_1 : Kd.C (Kd.slice 3 (Kd.int .i64)) w A0_1 l0_1.length l0_1) (hc0_1 : l0_1.length ≤ c0_1) (h : spec_weFind.f k a0_0 l0_1 = some (r1, r2, r3)) :
  Calls Tryz.prog 34 #[.agg #[.int .i64 a0_0, .slice A0_1 l0_1.length c0_1]] w fun e w' => ∃ v1_ : Value, e = .returned (.tuple #[.agg #[.int .i64 r1, v1_], .bool r3]) ∧ Kd.R (Kd.int .i64) 3 w' w.heap.size (fun _ => True) v1_ r2 ∧ Below w.heap.size w w' := by
 have hu28 := Tryz.underlying28
 have hu67 := Tryz.underlying67
 have HR0_1 := Aside0.mk hr0_1
 have HC0_1 := Aside0.mk hc0_1
 clear hr0_1 hc0_1
 have HB := Aside0.mk (Below.refl w.heap.size w)
 have H : ((spec_gmAll.f k a0_0 l0_1).bind fun t507 => ((spec_deComplete.f k t507 a0_0).bind fun t510 => (if t510 = true then (spec_weFind.l0 k t507 1 a0_0 l0_1) else (some (0, ([] : List Int), false))))) = some (r1, r2, r3) := h
 clear h
 replace H := Option.bind_eq_some_iff.mp H
 obtain ⟨t507, A20, H⟩ := H
 replace H : ((spec_deComplete.f k t507 a0_0).bind fun t510 => (if t510 = true then (spec_weFind.l0 k t507 1 a0_0 l0_1) else (some (0, ([] : List Int), false)))) = some (r1, r2, r3) := H
 have A2 := Aside0.mk A20
 clear A20
 replace H := Option.bind_eq_some_iff.mp H
 obtain ⟨t510, A30, H⟩ := H
 replace H : (if t510 = true then (spec_weFind.l0 k t507 1 a0_0 l0_1) else (some (0, ([] : List Int), false))) = some (r1, r2, r3) := H
 have A3 := Aside0.mk A30
 clear A30
 by_cases c4 : t510 = true
 rotate_left
 ·replace c4 := Bool.eq_false_iff.mpr c4
  subst c4
  rw [if_neg zF] at H
  simp only [Option.some.injEq, Prod.mk.injEq] at H
  obtain ⟨rfl, rfl, rfl⟩ := H
  go_enter Tryz.func34, Tryz.ntmps34
  go_wp2_with (first | ((with_reducible refine gate_dst (N := 1) rfl ?_); refine zq 1 #[.int .i64 a0_0, .slice A0_1 l0_1.length c0_1] 28 ?_; intro gb505 hg w24 hbox hb; have GW505 := zG hg HB; replace HB := zH hb HB; have BK505 := Aside0.mk hbox; have GE505 := GW505; clear hb hbox hg) | ((with_reducible refine gate_dst (N := 2) rfl ?_); refine zq 2 #[.int .i64 0, .slice none 0 0] 67 ?_; intro gb506 hg w25 hbox hb; have BK506 := Aside0.mk hbox; have GW506 := zG hg HB; have GE506 := zG hg HB; have NB505_506 := zNa hg BK505; have NB506_505 := zNb hg BK505; replace BK505 := zK BK505 hb; replace HB := zH hb HB; clear hb hbox hg; have hnb26 := NB505_506.out; have hnc26 := NB506_505.out; obtain ⟨hcz27_0, hcz27_1, hfz27_0, hfz27_1⟩ := zC2 BK505) | ((with_reducible refine gate_callee (f := 53) rfl ?_); refine zl 11 Tryz.func53 #[.agg #[.int .i64 a0_0, .slice A0_1 l0_1.length c0_1]] ?_; (with_reducible refine (spec_gmAll.calls k a0_0 _ _ l0_1 t507 _ ?side1 ?side2 A2.out).mono ?_); (case side1 => exact zQ (Kd.C_below HR0_1.out HB.out)); (case side2 => exact HC0_1.out); rintro e w28 ⟨v508, rfl, ho0, hb⟩; refine ⟨_, rfl, ?_⟩; have HO509 := Aside0.mk (Kd.R_lower ho0 (below_size (zh HB.out))); replace BK505 := zK BK505 hb; replace BK506 := zK BK506 hb; replace HB := zH hb HB; clear hb; (try clear ho0); obtain ⟨hcz29_0, hcz29_1, hfz29_0, hfz29_1⟩ := zC2 BK505; obtain ⟨Ao30, co30, eo30⟩ := Kd.R_slice HO509.out; subst eo30) | ((with_reducible refine gate_callee (f := 62) rfl ?_); refine zl 15 Tryz.func62 #[.slice Ao30 t507.length co30, .int .i64 a0_0] ?_; (with_reducible refine (spec_deComplete.calls k _ _ t507 a0_0 false _ ?side1 ?side2 A3.out).mono ?_); (case side1 => exact zQ ((Kd.R_reads' HO509.out).2.2)); (case side2 => exact (Kd.R_reads' HO509.out).2.1); rintro e w' ⟨rfl, ⟨nd, rfl⟩⟩; refine ⟨_, rfl, ?_⟩; (try (rw [drewN_self w28]; generalize hq_ : World.drewN w28 _ = w28; have n0_ : Aside0 (Kd.R Kd.bool 4 w28 w.heap.size (fun _ => True) (.slice Ao30 t507.length co30) t507) := ⟨by rw [← hq_]; exact (zr HO509.out)⟩; have n1_ : Aside0 (w28.heap[gb505]? = some (.cells #[.int .i64 a0_0, .slice A0_1 l0_1.length c0_1] 28 (0, 0))) := ⟨by rw [← hq_]; exact (zb BK505.out)⟩; have n2_ : Aside0 (w28.heap[gb506]? = some (.cells #[.int .i64 0, .slice none 0 0] 67 (0, 0))) := ⟨by rw [← hq_]; exact (zb BK506.out)⟩; have n3_ : Aside0 (Below w.heap.size w w28) := ⟨by rw [← hq_]; exact (zh HB.out)⟩; clear HO509 BK505 BK506 HB hq_; have HO509 := n0_; have BK505 := n1_; have BK506 := n2_; have HB := n3_; clear n0_ n1_ n2_ n3_)); obtain ⟨hcz31_0, hcz31_1, hfz31_0, hfz31_1⟩ := zC2 BK506))
  refine bodyPost_ret (results_ct rfl _ _ gb506 67 #[.int .i64 0, .slice none 0 0] (0, 0) _ rfl (by (with_reducible repeat (first | refine blk_drewN ?_ _ | refine blk_drew ?_ | refine blk_alloc ?_ _)); refine blk_put (cs := #[.int .i64 0, .slice none 0 0]) ?_ 1 _ rfl; (with_reducible repeat (first | refine blk_drewN ?_ _ | refine blk_drew ?_ | refine blk_alloc ?_ _)); refine blk_put (cs := #[.int .i64 0, .slice none 0 0]) ?_ 0 _ rfl; (with_reducible repeat (first | refine blk_drewN ?_ _ | refine blk_drew ?_ | refine blk_alloc ?_ _)); exact BK506.out) Tryz.underlying67 rfl (by kernel_rfl)) rfl ?_
  exact ⟨_, by first | rfl | (simp [*, errW_none, errW_some] <;> rfl), by first | exact Kd.R_nil _ _ _ _ _ | exact Kd.N_nil _ _ _ _ _ | exact Kd.V_nil _ _ _ _ _ | exact Kd.Q_nil _ _ _ _ _ | exact Kd.S_nil _ _ _ _ _, zh HB.out⟩
 subst c4
 rw [if_pos rfl] at H
 have H' := Aside0.mk H
 clear H
 go_enter Tryz.func34, Tryz.ntmps34
 go_wp2_with (first | ((with_reducible refine gate_dst (N := 1) rfl ?_); refine zq 1 #[.int .i64 a0_0, .slice A0_1 l0_1.length c0_1] 28 ?_; intro gb505 hg w5 hbox hb; have GW505 := zG hg HB; replace HB := zH hb HB; have BK505 := Aside0.mk hbox; have GE505 := GW505; clear hb hbox hg) | ((with_reducible refine gate_dst (N := 2) rfl ?_); refine zq 2 #[.int .i64 0, .slice none 0 0] 67 ?_; intro gb506 hg w6 hbox hb; have BK506 := Aside0.mk hbox; have GW506 := zG hg HB; have GE506 := zG hg HB; have NB505_506 := zNa hg BK505; have NB506_505 := zNb hg BK505; replace BK505 := zK BK505 hb; replace HB := zH hb HB; clear hb hbox hg; have hnb7 := NB505_506.out; have hnc7 := NB506_505.out; obtain ⟨hcz8_0, hcz8_1, hfz8_0, hfz8_1⟩ := zC2 BK505) | ((with_reducible refine gate_callee (f := 53) rfl ?_); refine zl 11 Tryz.func53 #[.agg #[.int .i64 a0_0, .slice A0_1 l0_1.length c0_1]] ?_; (with_reducible refine (spec_gmAll.calls k a0_0 _ _ l0_1 t507 _ ?side1 ?side2 A2.out).mono ?_); (case side1 => exact zQ (Kd.C_below HR0_1.out HB.out)); (case side2 => exact HC0_1.out); rintro e w9 ⟨v508, rfl, ho0, hb⟩; refine ⟨_, rfl, ?_⟩; have HO509 := Aside0.mk (Kd.R_lower ho0 (below_size (zh HB.out))); replace BK505 := zK BK505 hb; replace BK506 := zK BK506 hb; replace HB := zH hb HB; clear hb; (try clear ho0); obtain ⟨hcz10_0, hcz10_1, hfz10_0, hfz10_1⟩ := zC2 BK505; obtain ⟨Ao11, co11, eo11⟩ := Kd.R_slice HO509.out; subst eo11) | ((with_reducible refine gate_callee (f := 62) rfl ?_); refine zl 15 Tryz.func62 #[.slice Ao11 t507.length co11, .int .i64 a0_0] ?_; (with_reducible refine (spec_deComplete.calls k _ _ t507 a0_0 true _ ?side1 ?side2 A3.out).mono ?_); (case side1 => exact zQ ((Kd.R_reads' HO509.out).2.2)); (case side2 => exact (Kd.R_reads' HO509.out).2.1); rintro e w' ⟨rfl, ⟨nd, rfl⟩⟩; refine ⟨_, rfl, ?_⟩))
 go_loopg [5] k (fun kq v5 w' => ∃ (x5_1 : Int) (x507000_1 : Int), v5 = .int .i64 x5_1 ∧ Aside0 (spec_weFind.l0 kq t507 x5_1 a0_0 l0_1 = some (r1, r2, r3)) ∧ Aside0 (kq ≤ k) ∧ Aside0 (Kd.R Kd.bool 4 w' w.heap.size (fun _ => True) (.slice Ao11 t507.length co11) t507) ∧ Aside0 (w'.heap[gb505]? = some (.cells #[.int .i64 a0_0, (.slice A0_1 l0_1.length c0_1)] 28 (0, 0))) ∧ Aside0 (w'.heap[gb506]? = some (.cells #[.int .i64 x507000_1, (.slice none 0 0)] 67 (0, 0))) ∧ Aside0 (Below w.heap.size w w'))
 case atStart => exact ⟨(1), (0), zE, H', ⟨Nat.le_refl _⟩, ⟨zr HO509.out⟩, ⟨zb BK505.out⟩, ⟨zb BK506.out⟩, ⟨zh HB.out⟩⟩
 case round =>
  clear H'
  try clear p2
  try clear c3
  try clear c4
  try clear c5
  try clear c6
  try clear c7
  try clear hcz10_0
  try clear hcz10_1
  try clear hcz8_0
  try clear hcz8_1
  try clear hfz10_0
  try clear hfz10_1
  try clear hfz8_0
  try clear hfz8_1
  obtain ⟨x5_1, x507000_1, rfl, HA, HK1, HO_4, BK505, BK506, HB⟩ := hrel
  cases gk with
  | zero => exact absurd HA.out (by simp [spec_weFind.l0])
  | succ k1 =>
   have H := HA.out
   clear HA
   simp only [spec_weFind.l0] at H
   replace H := Option.bind_eq_some_iff.mp H
   obtain ⟨⟨t511, t512⟩, A120, H⟩ := H
   replace H : (if t512 = true then ((spec_weQuota.f k1 t507 t511).bind fun bt515 => (some (bt515.1, t511, true))) else (spec_weFind.l0 k1 t507 (wrap64 (x5_1 + 1)) a0_0 l0_1)) = some (r1, r2, r3) := H
   have A12 := Aside0.mk A120
   clear A120
   by_cases c13 : t512 = true
   rotate_left
   ·replace c13 := Bool.eq_false_iff.mpr c13
    subst c13
    rw [if_neg zF] at H
    have H' := Aside0.mk H
    clear H
    have hnb21 := NB505_506.out
    have hnc21 := NB506_505.out
    obtain ⟨hcz22_0, hcz22_1, hfz22_0, hfz22_1⟩ := zC2 BK505
    go_wp2_with (first | ((with_reducible refine gate_callee (f := 63) rfl ?_); refine zl 25 Tryz.func63 #[.slice Ao11 t507.length co11, .int .i64 a0_0, .slice none 0 0, .int .i64 x5_1] ?_; (refine (spec_weLook.calls k1 _ _ t507 a0_0 _ _ ([] : List Int) x5_1 t511 false _ ?side1 ?side2 ?side3 ?side4 A12.out).mono ?_); (case side1 => exact zQ ((Kd.R_reads' HO_4.out).2.2)); (case side2 => exact (Kd.R_reads' HO_4.out).2.1); (case side3 => exact Kd.C_nil _ _); (case side4 => exact Nat.le_refl _); rintro e w23 ⟨v513, rfl, ho0, hb⟩; refine ⟨_, rfl, ?_⟩; have HO514 := Aside0.mk (Kd.R_lower ho0 (below_size (zh HB.out))); replace HO_4 := Aside0.mk (Kd.R_below (zr HO_4.out) hb); replace BK505 := zK BK505 hb; replace BK506 := zK BK506 hb; replace HB := zH hb HB; clear hb; (try clear ho0)))
    go_roundg k1
    case measure => have := HK1.out; omega
    case rel => exact ⟨(wrap64 (x5_1 + 1)), (x507000_1), zE, H', zO HK1, ⟨zr HO_4.out⟩, ⟨zb BK505.out⟩, ⟨zb BK506.out⟩, ⟨zh HB.out⟩⟩
   subst c13
   rw [if_pos rfl] at H
   replace H := Option.bind_eq_some_iff.mp H
   obtain ⟨⟨t515, t516⟩, A140, H⟩ := H
   replace H : (some (t515, t511, true)) = some (r1, r2, r3) := H
   have A14 := Aside0.mk A140
   clear A140
   simp only [Option.some.injEq, Prod.mk.injEq] at H
   obtain ⟨rfl, rfl, rfl⟩ := H
   have hnb15 := NB505_506.out
   have hnc15 := NB506_505.out
   obtain ⟨hcz16_0, hcz16_1, hfz16_0, hfz16_1⟩ := zC2 BK505
   go_wp2_with (first | ((with_reducible refine gate_callee (f := 63) rfl ?_); refine zl 25 Tryz.func63 #[.slice Ao11 t507.length co11, .int .i64 a0_0, .slice none 0 0, .int .i64 x5_1] ?_; (refine (spec_weLook.calls k1 _ _ t507 a0_0 _ _ ([] : List Int) x5_1 t511 true _ ?side1 ?side2 ?side3 ?side4 A12.out).mono ?_); (case side1 => exact zQ ((Kd.R_reads' HO_4.out).2.2)); (case side2 => exact (Kd.R_reads' HO_4.out).2.1); (case side3 => exact Kd.C_nil _ _); (case side4 => exact Nat.le_refl _); rintro e w17 ⟨v513, rfl, ho0, hb⟩; refine ⟨_, rfl, ?_⟩; have HO514 := Aside0.mk (Kd.R_lower ho0 (below_size (zh HB.out))); replace HO_4 := Aside0.mk (Kd.R_below (zr HO_4.out) hb); replace BK505 := zK BK505 hb; replace BK506 := zK BK506 hb; replace HB := zH hb HB; clear hb; (try clear ho0); obtain ⟨Ao18, co18, eo18⟩ := Kd.R_slice HO514.out; subst eo18) | ((with_reducible refine gate_callee (f := 64) rfl ?_); refine zl 32 Tryz.func64 #[.slice Ao11 t507.length co11, .slice Ao18 t511.length co18] ?_; (with_reducible refine (spec_weQuota.calls k1 _ _ t507 _ _ t511 t515 t516 _ ?side1 ?side2 ?side3 ?side4 A14.out).mono ?_); (case side1 => exact zQ ((Kd.R_reads' HO_4.out).2.2)); (case side2 => exact (Kd.R_reads' HO_4.out).2.1); (case side3 => exact zQ ((Kd.R_reads' HO514.out).2.2)); (case side4 => exact (Kd.R_reads' HO514.out).2.1); rintro e w19 ⟨rfl, hb⟩; refine ⟨_, rfl, ?_⟩; replace HO_4 := Aside0.mk (Kd.R_below (zr HO_4.out) hb); replace HO514 := Aside0.mk (Kd.R_below (zr HO514.out) hb); replace BK505 := zK BK505 hb; replace BK506 := zK BK506 hb; replace HB := zH hb HB; clear hb; obtain ⟨hcz20_0, hcz20_1, hfz20_0, hfz20_1⟩ := zC2 BK506))
   refine bodyPost_ret (results_ct rfl _ _ gb506 67 #[.int .i64 t515, .slice Ao18 t511.length co18] (0, 0) _ rfl (by (with_reducible repeat (first | refine blk_drewN ?_ _ | refine blk_drew ?_ | refine blk_alloc ?_ _)); refine blk_put (cs := #[.int .i64 t515, .slice none 0 0]) ?_ 1 _ rfl; (with_reducible repeat (first | refine blk_drewN ?_ _ | refine blk_drew ?_ | refine blk_alloc ?_ _)); refine blk_put (cs := #[.int .i64 x507000_1, .slice none 0 0]) ?_ 0 _ rfl; (with_reducible repeat (first | refine blk_drewN ?_ _ | refine blk_drew ?_ | refine blk_alloc ?_ _)); exact BK506.out) Tryz.underlying67 rfl (by kernel_rfl)) rfl ?_
   exact ⟨_, by first | rfl | (simp [*, errW_none, errW_some] <;> rfl), by (with_reducible repeat (first | apply Kd.R_alloc | apply Kd.R_drewN | apply Kd.R_drew)); exact Kd.R_mono (Kd.R_far (p := ⟨gb506, 1, none⟩) (Kd.R_far (p := ⟨gb506, 0, none⟩) (Kd.R_types HO514.out BK506.out (by decide)) (fun _ hk => hk.2) (.int .i64 t515)) (fun _ hk => hk.2) (.slice Ao18 t511.length co18)) (fun _ hk => trivial), zh HB.out⟩
end Go.Proofs.YtmbkmabpebjboaaGreat.Q
end

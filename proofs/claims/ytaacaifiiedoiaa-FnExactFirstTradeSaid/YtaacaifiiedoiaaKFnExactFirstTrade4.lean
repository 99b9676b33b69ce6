/- Part 4 of the proof of FnExactFirstTrade: what it leans on (no condition). -/
import Derived.Test.YtaacaifiiedoiaaKFnExactFirstTrade3
import Derived.Shelf.SlSortCmp.NoneTotal
section
namespace Go.Proofs.Ytaacaifiiedoiaa.Q
open Go.RowKit Go.Proofs.YtaacaifiiedoiaaW.PrintWords Go.Proofs.YtaacaifiiedoiaaW.PrintLast Go.Proofs.YtaacaifiiedoiaaW.PrintMore
set_option linter.unusedVariables false
set_option linter.unusedSimpArgs false
set_option maxHeartbeats 1000000 in
theorem indexFunc_ints (p : List Int → Option Bool) (g : Nat) (lb : Array Value) (eg : ∀ args w, (callFunc g args).run Try.prog w = .ok (.enter g args) w)
    (A0 : Option Addr) (c0 : Nat) (l0 : List (List Int)) (r : Int) (w : World) (hr0 : Kd.C (Kd.slice 3 (Kd.int .i64)) w A0 l0.length l0) (hc0 : l0.length ≤ c0)
    (hp : PredK Try.prog g lb (Kd.slice 3 (Kd.int .i64)) (fun c => c.getD 0 undef) w p) (h : idxO p l0 0 = some r) :
    Calls Try.prog 121 #[.slice A0 l0.length c0, .func (.func g) #[] lb] w fun e w' => e = .returned (.int .i64 r) ∧ Below w.heap.size w w' := by
  have hlen := hr0.2.1
  have HR0 := Aside0.mk hr0
  clear hr0
  have HP := Aside0.mk hp
  clear hp
  have H0 := Aside0.mk h
  clear h
  go_enter Try.func121, Try.ntmps121
  go_wp2
  go_loopg [5, 8] l0.length (fun gg _ s8 wr => ∃ kk : Nat, kk ≤ l0.length ∧ l0.length - kk ≤ gg ∧ s8 = .int .i64 kk ∧ Aside0 (Below w.heap.size w wr) ∧ Aside0 (idxO p (l0.drop kk) kk = some r))
  case atStart => exact ⟨0, Nat.zero_le _, by omega, rfl, ⟨Below.refl _ w⟩, H0⟩
  case round =>
    obtain ⟨kk, hkk, hg, rfl, BW, A⟩ := hrel
    by_cases hlt : kk < l0.length
    · have hltz : (kk : Int) < (l0.length : Int) := by omega
      obtain ⟨ad, c, e, _, hK, hcell⟩ := Kd.C_get HR0.out ([] : List Int) (kk : Int) (by omega) hltz
      subst e
      rw [Int.toNat_natCast] at hK hcell
      have hKK := hK
      obtain ⟨A1, c1, rfl, hl1, hk1⟩ := hKK
      have l2 := (BW.out.cell (World.block_lt_of_cell? w _ (hcell 0 _ rfl))).trans (hcell 0 _ rfl)
      clear hcell
      obtain ⟨b, hb, h1, h2⟩ := idxO_step A.out (show l0[kk]? = some (l0.getD kk []) by rw [List.getD_eq_getElem?_getD, List.getElem?_eq_getElem hlt]; rfl)
      have hcall := HP.out wr _ _ b BW.out hK hb
      have l3 : wr.cell? (ad.add kk) = some (.slice A1 (l0.getD kk []).length c1) := by simpa [show (Kd.slice 3 (Kd.int .i64)).sz = 1 from rfl] using l2
      clear l2 hK hk1
      generalize l0.getD kk [] = y at l3 hcall hb hl1
      have B := Aside0.mk hb
      clear hb
      cases b with
      | true =>
        have E := h1 rfl
        clear h1 h2
        have E' := Aside0.mk E
        clear E
        go_wp2_with (go_at_fn g; refine hcall.mono ?_; rintro e w' ⟨rfl, hb'⟩)
        go_ret
        exact ⟨ret_i E'.out.symm, hb'⟩
      | false =>
        have E := Aside0.mk (h2 rfl)
        clear h1 h2
        go_wp2_with (go_at_fn g; refine hcall.mono ?_; rintro e w' ⟨rfl, hb'⟩)
        go_roundg (l0.length - (kk + 1))
        case measure => omega
        case rel => exact ⟨kk + 1, by omega, by omega, by go_num, ⟨hb'⟩, E⟩
    · have hltz : ¬ (kk : Int) < (l0.length : Int) := by omega
      have : kk = l0.length := by omega
      subst this
      go_wp2
      go_ret
      refine ⟨?_, BW.out⟩
      have h3 := A.out
      rw [List.drop_length] at h3
      have h4 : (-1 : Int) = r := by simpa [idxO] using h3
      exact ret_i h4
set_option maxHeartbeats 1000000 in
theorem containsFunc_ints (p : List Int → Option Bool) (g : Nat) (lb : Array Value) (eg : ∀ args w, (callFunc g args).run Try.prog w = .ok (.enter g args) w)
    (A0 : Option Addr) (c0 : Nat) (l0 : List (List Int)) (r : Bool) (w : World) (hr0 : Kd.C (Kd.slice 3 (Kd.int .i64)) w A0 l0.length l0) (hc0 : l0.length ≤ c0)
    (hp : PredK Try.prog g lb (Kd.slice 3 (Kd.int .i64)) (fun c => c.getD 0 undef) w p) (h : anyO p l0 = some r) :
    Calls Try.prog 104 #[.slice A0 l0.length c0, .func (.func g) #[] lb] w fun e w' => e = .returned (.bool r) ∧ Below w.heap.size w w' := by
  obtain ⟨i, hi, rfl⟩ := anyO_idxO p l0 0 r h
  have hcon := indexFunc_ints p g lb eg A0 c0 l0 i w hr0 hc0 hp hi
  clear hr0 hp h hi
  go_enter Try.func104, Try.ntmps104
  go_wp2_with (go_at_call 121; refine hcon.mono ?_; rintro e w' ⟨rfl, hb'⟩)
  go_ret
  exact ⟨rfl, hb'⟩
def impl_areSets_1.f (k : Nat) (n : Int) (l : List Int) : Option Bool := if (l.length : Int) = 0 then some true else (impl_isSet.f k l n).bind fun b => some (!b)
set_option maxHeartbeats 1000000 in
theorem impl_areSets_1.pred (k : Nat) (n : Int) (b1 : Nat) (w : World) (h1 : w.cell? ⟨b1, 0, none⟩ = some (.int .i64 n)) :
    PredK Try.prog 105 #[.pointer (some ⟨b1, 0, none⟩)] (Kd.slice 3 (Kd.int .i64)) (fun c => c.getD 0 undef) w (impl_areSets_1.f k n) := by
  intro W x c b hb hK hp
  obtain ⟨A1, c1, rfl, hl1, hk1⟩ := hK
  show Calls Try.prog 105 #[.slice A1 x.length c1, .pointer (some ⟨b1, 0, none⟩)] W _
  have hk2 : Kd.C (Kd.int .i64) W A1 x.length x := Kd.C_below hk1 hb
  have q1 := (hb.cell (World.block_lt_of_cell? w _ h1)).trans h1
  have hB := Aside0.mk hb
  have hC := Aside0.mk hk2
  have hL := Aside0.mk hl1
  unfold impl_areSets_1.f at hp
  clear h1 hb hk1 hk2 hl1
  by_cases h0 : (x.length : Int) = 0
  · rw [if_pos h0] at hp
    have hr' := Option.some.inj hp
    have hE := Aside0.mk hr'
    clear hp hr'
    have h0b : ((x.length : Int) == 0) = true := by simpa using h0
    go_enter Try.func105, Try.ntmps105
    go_wp2
    go_ret
    exact ⟨ret_b hE.out, hB.out⟩
  · rw [if_neg h0] at hp
    obtain ⟨t, ht, hr⟩ := Option.bind_eq_some_iff.mp hp
    have hr' : (!t) = b := Option.some.inj hr
    have hT := Aside0.mk ht
    have hE := Aside0.mk hr'
    clear hp ht hr hr'
    have h0b : ((x.length : Int) == 0) = false := by simpa using h0
    go_enter Try.func105, Try.ntmps105
    go_wp2_with (go_at_call 106; refine (impl_isSet.calls _ _ _ _ _ _ _ hC.out hL.out hT.out).mono ?_; rintro e w' ⟨rfl, hb'⟩)
    go_ret
    exact ⟨ret_b hE.out, hB.out.trans (hb'.mono hB.out.size)⟩
def impl_areSets.f (k : Nat) (l0 : List (List Int)) (a1 : Int) : Option Bool := (anyO (impl_areSets_1.f k a1) l0).bind fun b => some (!b)
set_option maxHeartbeats 1000000 in
theorem impl_areSets.calls (k : Nat) (A0 : Option Addr) (c0 : Nat) (l0 : List (List Int)) (a1 : Int) (r : Bool) (w : World) (hr0 : Kd.C (Kd.slice 3 (Kd.int .i64)) w A0 l0.length l0) (hc0 : l0.length ≤ c0) (h : impl_areSets.f k l0 a1 = some r) :
    Calls Try.prog 70 #[.slice A0 l0.length c0, .int .i64 a1] w fun e w' => e = .returned (.bool r) ∧ Below w.heap.size w w' := by
  have eg : ∀ args w, (callFunc 105 args).run Try.prog w = .ok (.enter 105 args) w := enters_of Try.func105 (by kernel_rfl) rfl
  obtain ⟨t, ht, hr⟩ := Option.bind_eq_some_iff.mp h
  have hE := Aside0.mk (show (!t) = r from Option.some.inj hr)
  have hT := Aside0.mk ht
  have HR := Aside0.mk hr0
  clear h hr ht hr0
  go_enter Try.func70, Try.ntmps70
  go_wp2_with fail
  refine (containsFunc_ints (impl_areSets_1.f k a1) 105 #[.pointer (some ⟨w.heap.size, 0, none⟩)] eg A0 c0 l0 t _ ?_ hc0 ?_ hT.out).mono ?_
  · exact Kd.C_below HR.out ((Below.refl _ w).alloc (Nat.le_refl _) _)
  · exact impl_areSets_1.pred k a1 _ _ (by go_simp)
  · rintro e w' ⟨rfl, hb⟩
    go_wp2
    go_ret
    exact ⟨ret_b hE.out, ((Below.refl _ w).alloc (Nat.le_refl _) _).trans (hb.mono (by simp))⟩
end Go.Proofs.Ytaacaifiiedoiaa.Q
end
section
namespace Go.Proofs.Ytaacaifiiedoiaa.Q
open Go.RowKit Go.Proofs.YtaacaifiiedoiaaW.PrintWords Go.Proofs.YtaacaifiiedoiaaW.PrintLast Go.Proofs.YtaacaifiiedoiaaW.PrintMore
attribute [local go_sem] max2_int min2_int max_two min_two max_three min_three max_four min_four
set_option linter.unusedVariables false
set_option linter.unusedSimpArgs false
mutual
def impl_IsGame.j0 : Nat → Bool → Int → List (List Int) → Option (Bool)
 | 0, _, _, _ => none
 | k + 1, x24, x235000, x235001 => if x24 = true then (some false) else (impl_IsGame.l0 k x235001 (x235001.length : Int) 0 x235000 x235001)
def impl_IsGame.l0 : Nat → List (List Int) → Int → Int → Int → List (List Int) → Option (Bool)
 | 0, _, _, _, _, _ => none
 | k + 1, x26, x27, x28, x235000, x235001 => if x28 < x27 then (if 0 ≤ x28 then (if x28 < (x26.length : Int) then (if x28 > 0 then (if 0 ≤ (wrap64 (x28 - 1)) then (if (wrap64 (x28 - 1)) < (x235001.length : Int) then ((slices_Compare_int_int.f k (rd_L1 x235001 (wrap64 (x28 - 1))) (rd_L1 x26 x28)).bind fun t239 => (impl_IsGame.j2 k x28 (rd_L1 x26 x28) x26 x27 x28 (decide (t239 ≥ 0)) x235000 x235001)) else (none)) else (none)) else (impl_IsGame.j2 k x28 (rd_L1 x26 x28) x26 x27 x28 false x235000 x235001)) else (none)) else (none)) else (some true)
def impl_IsGame.j2 : Nat → Int → List Int → List (List Int) → Int → Int → Bool → Int → List (List Int) → Option (Bool)
 | 0, _, _, _, _, _, _, _, _ => none
 | k + 1, x3, x4, x26, x27, x28, x45, x235000, x235001 => if x45 = true then (some false) else (impl_IsGame.l1 k x3 x4 x26 x27 x28 x235001 (x235001.length : Int) 0 x235000 x235001)
def impl_IsGame.l1 : Nat → Int → List Int → List (List Int) → Int → Int → List (List Int) → Int → Int → Int → List (List Int) → Option (Bool)
 | 0, _, _, _, _, _, _, _, _, _, _ => none
 | k + 1, x3, x4, x26, x27, x28, x47, x48, x49, x235000, x235001 => if x49 < x48 then (if 0 ≤ x49 then (if x49 < (x47.length : Int) then (if x49 = x3 then (impl_IsGame.l1 k x3 x4 x26 x27 x28 x47 x48 (wrap64 (x49 + 1)) x235000 x235001) else ((impl_maskOf.f k x4).bind fun t241 => ((impl_maskOf.f k (rd_L1 x47 x49)).bind fun t242 => (if (Go.bits .and .i64 t241 t242) = t242 then (some false) else (impl_IsGame.l1 k x3 x4 x26 x27 x28 x47 x48 (wrap64 (x49 + 1)) x235000 x235001))))) else (none)) else (none)) else (impl_IsGame.l0 k x26 x27 (wrap64 (x28 + 1)) x235000 x235001)
end
def impl_IsGame.f (k : Nat) (a0_0 : Int) (l0_1 : List (List Int)) : Option (Bool) := (impl_within.f a0_0 1 9).bind fun t235 => (if t235 = true then (if (l0_1.length : Int) = 0 then (impl_IsGame.j0 k true a0_0 l0_1) else ((impl_areSets.f k l0_1 a0_0).bind fun t236 => (impl_IsGame.j0 k (!t236) a0_0 l0_1))) else (impl_IsGame.j0 k true a0_0 l0_1))
set_option maxHeartbeats 8000000 in
set_option maxRecDepth 100000 in
theorem impl_IsGame.calls (k : Nat) (a0_0 : Int) (A0_1 : Option Addr) (c0_1 : Nat) (l0_1 : List (List Int)) (r : Bool) (w : World) (hr0_1 : Kd.C (Kd.slice 3 (Kd.int .i64)) w A0_1 l0_1.length l0_1) (hc0_1 : l0_1.length ≤ c0_1) (h : impl_IsGame.f k a0_0 l0_1 = some r) :
  Calls Try.prog 41 #[.agg #[.int .i64 a0_0, .slice A0_1 l0_1.length c0_1]] w fun e w' => e = .returned (.bool r) ∧ Below w.heap.size w w' := by
 have hu31 := Try.underlying31
 have HR0_1 := Aside0.mk hr0_1
 have HC0_1 := Aside0.mk hc0_1
 clear hr0_1 hc0_1
 have HB := Aside0.mk (Below.refl w.heap.size w)
 have H : ((impl_within.f a0_0 1 9).bind fun t235 => (if t235 = true then (if (l0_1.length : Int) = 0 then (impl_IsGame.j0 k true a0_0 l0_1) else ((impl_areSets.f k l0_1 a0_0).bind fun t236 => (impl_IsGame.j0 k (!t236) a0_0 l0_1))) else (impl_IsGame.j0 k true a0_0 l0_1))) = some r := h
 clear h
 have HC2 := Aside0.mk H
 clear H
 go_enter Try.func41, Try.ntmps41
 go_upto_region 1 with (first | ((with_reducible refine gate_dst (N := 1) rfl ?_); (try (refine gate_guard (by rfl) ?_; dsimp only)); refine box_event ?hg (N := 1) ?hd (cs := #[.int .i64 a0_0, .slice A0_1 l0_1.length c0_1]) (t := 31) ?hr ?_; (case hd => rfl); (case hg => rfl); (case hr => first | (go_simp; done) | (go_simp; rfl)); intro gb234 hg w3 hbox hb; have n2_ := Aside0.mk ((by rw [hg]; exact (below_size (zh HB.out)) : w.heap.size ≤ gb234)); replace HB := Aside0.mk (below_step (zh HB.out) hb); have BK234 := Aside0.mk hbox; have GW234 := n2_; have GE234 := n2_; clear n2_ hb hbox hg))
 (try simp only [Act.put, List.setIfInBounds_toArray, List.set_cons_zero, List.set_cons_succ])
 go_cut [24] (fun v24 wc => ∃ (kq : Nat) (x24_1 : Bool), v24 = .bool x24_1 ∧ Aside0 (impl_IsGame.j0 kq x24_1 a0_0 l0_1 = some r) ∧ Aside0 (kq ≤ k) ∧ Aside0 (wc.heap[gb234]? = some (.cells #[.int .i64 a0_0, (.slice A0_1 l0_1.length c0_1)] 31 (0, 0))) ∧ Aside0 (Below w.heap.size w wc))
 case first =>
  have H := HC2.out
  clear HC2
  replace H := Option.bind_eq_some_iff.mp H
  obtain ⟨t235, A40, H⟩ := H
  replace H : (if t235 = true then (if (l0_1.length : Int) = 0 then (impl_IsGame.j0 k true a0_0 l0_1) else ((impl_areSets.f k l0_1 a0_0).bind fun t236 => (impl_IsGame.j0 k (!t236) a0_0 l0_1))) else (impl_IsGame.j0 k true a0_0 l0_1)) = some r := H
  have A4 := Aside0.mk A40
  clear A40
  by_cases c5 : t235 = true
  ·subst c5
   have H1 : (if (l0_1.length : Int) = 0 then (impl_IsGame.j0 k true a0_0 l0_1) else ((impl_areSets.f k l0_1 a0_0).bind fun t236 => (impl_IsGame.j0 k (!t236) a0_0 l0_1))) = some r := by rw [if_pos rfl] at H; exact H
   clear H
   have H := H1
   clear H1
   by_cases c6 : (l0_1.length : Int) = 0
   ·rw [if_pos c6] at H
    have c6b0 : ((l0_1.length : Int) == 0) = true := beq_iff_eq.mpr c6
    have c6b1 : ((l0_1.length : Int) != 0) = false := bne_eq_false_iff_eq.mpr c6
    clear c6
    (first | rw [c6b0] | (simp only [i64_w, i32_w]; rw [c6b0]) | skip)
    have H' := Aside0.mk H
    clear H
    have hcz7_0 : w3.cell? ⟨gb234, 0, none⟩ = some (.int .i64 a0_0) := (blk_cell BK234.out 0).trans rfl
    have hcz7_1 : w3.cell? ⟨gb234, 1, none⟩ = some (.slice A0_1 l0_1.length c0_1) := (blk_cell BK234.out 1).trans rfl
    have hfz7_0 := blk_frozen BK234.out 0
    have hfz7_1 := blk_frozen BK234.out 1
    go_wp2_with (first | ((with_reducible refine gate_callee (f := 43) rfl ?_); refine goesL_ (some 9) rfl rfl Try.func43 (by kernel_rfl) rfl #[.int .i64 a0_0, .int .i64 1, .int .i64 9] rfl (by (try simp only [List.map_toArray, List.map_cons, List.map_nil]); first | done | rfl | (simp only [List.length_drop, List.length_take]; rfl)) ?_; (with_reducible refine (impl_within.calls a0_0 1 9 true _ A4.out).mono ?_); rintro e w' ⟨rfl, ⟨nd, rfl⟩⟩; refine ⟨_, rfl, ?_⟩))
    go_meet
    case rel => exact ⟨_, (true), (by first | rfl | (simp; done) | (simp [*]; done)), H', ⟨by first | omega | exact Nat.le_refl _⟩, ⟨zb BK234.out⟩, ⟨zh HB.out⟩⟩
   ·rw [if_neg c6] at H
    have c6b0 : ((l0_1.length : Int) == 0) = false := beq_eq_false_iff_ne.mpr c6
    have c6b1 : ((l0_1.length : Int) != 0) = true := bne_iff_ne.mpr c6
    have c6b2 : ¬ (l0_1 = []) := fun h_ => c6 (by rw [h_]; rfl)
    (first | rw [c6b0] | (simp only [i64_w, i32_w]; rw [c6b0]) | skip)
    replace H := Option.bind_eq_some_iff.mp H
    obtain ⟨t236, A80, H⟩ := H
    replace H : (impl_IsGame.j0 k (!t236) a0_0 l0_1) = some r := H
    have A8 := Aside0.mk A80
    clear A80
    have H' := Aside0.mk H
    clear H
    have hcz9_0 : w3.cell? ⟨gb234, 0, none⟩ = some (.int .i64 a0_0) := (blk_cell BK234.out 0).trans rfl
    have hcz9_1 : w3.cell? ⟨gb234, 1, none⟩ = some (.slice A0_1 l0_1.length c0_1) := (blk_cell BK234.out 1).trans rfl
    have hfz9_0 := blk_frozen BK234.out 0
    have hfz9_1 := blk_frozen BK234.out 1
    go_wp2_with (first | ((with_reducible refine gate_callee (f := 43) rfl ?_); refine goesL_ (some 9) rfl rfl Try.func43 (by kernel_rfl) rfl #[.int .i64 a0_0, .int .i64 1, .int .i64 9] rfl (by (try simp only [List.map_toArray, List.map_cons, List.map_nil]); first | done | rfl | (simp only [List.length_drop, List.length_take]; rfl)) ?_; (with_reducible refine (impl_within.calls a0_0 1 9 true _ A4.out).mono ?_); rintro e w' ⟨rfl, ⟨nd, rfl⟩⟩; refine ⟨_, rfl, ?_⟩) | (go_at_call 70; (with_reducible refine (impl_areSets.calls k _ _ l0_1 a0_0 t236 _ ?side1 ?side2 A8.out).mono ?_); (case side1 => repeat (first | exact (Kd.C_below HR0_1.out (zh HB.out)) | (with_reducible refine Kd.C_alloc ?_ _) | (with_reducible refine Kd.C_drewN ?_ _) | (with_reducible refine Kd.C_drew ?_))); (case side2 => exact HC0_1.out); rintro e w10 ⟨rfl, hb⟩; have n0_ := Aside0.mk (blk_below (g := gb234) (o := .cells #[.int .i64 a0_0, .slice A0_1 l0_1.length c0_1] 31 (0, 0)) (zb BK234.out) hb); have n1_ := Aside0.mk (below_step (zh HB.out) hb); clear BK234; clear HB; have BK234 := n0_; have HB := n1_; clear n0_ n1_; (try clear hb); (try clear hb2); (try clear hk); (try clear hi)))
    go_meet
    case rel => exact ⟨_, (!t236), (by first | rfl | (simp; done) | (simp [*]; done)), H', ⟨by first | omega | exact Nat.le_refl _⟩, ⟨zb BK234.out⟩, ⟨zh HB.out⟩⟩
  ·replace c5 := Bool.eq_false_iff.mpr c5
   subst c5
   have H1 : (impl_IsGame.j0 k true a0_0 l0_1) = some r := by rw [if_neg (show ¬ (false = true) by decide)] at H; exact H
   clear H
   have H := H1
   clear H1
   have H' := Aside0.mk H
   clear H
   have hcz11_0 : w3.cell? ⟨gb234, 0, none⟩ = some (.int .i64 a0_0) := (blk_cell BK234.out 0).trans rfl
   have hcz11_1 : w3.cell? ⟨gb234, 1, none⟩ = some (.slice A0_1 l0_1.length c0_1) := (blk_cell BK234.out 1).trans rfl
   have hfz11_0 := blk_frozen BK234.out 0
   have hfz11_1 := blk_frozen BK234.out 1
   go_wp2_with (first | ((with_reducible refine gate_callee (f := 43) rfl ?_); refine goesL_ (some 9) rfl rfl Try.func43 (by kernel_rfl) rfl #[.int .i64 a0_0, .int .i64 1, .int .i64 9] rfl (by (try simp only [List.map_toArray, List.map_cons, List.map_nil]); first | done | rfl | (simp only [List.length_drop, List.length_take]; rfl)) ?_; (with_reducible refine (impl_within.calls a0_0 1 9 false _ A4.out).mono ?_); rintro e w' ⟨rfl, ⟨nd, rfl⟩⟩; refine ⟨_, rfl, ?_⟩))
   go_meet
   case rel => exact ⟨_, (true), (by first | rfl | (simp; done) | (simp [*]; done)), H', ⟨by first | omega | exact Nat.le_refl _⟩, ⟨zb BK234.out⟩, ⟨zh HB.out⟩⟩
 case rest =>
  clear HC2
  try clear p2
  try clear c4
  try clear c5
  try clear c6
  try clear c6b0
  try clear c6b1
  try clear c6b2
  try clear hcz11_0
  try clear hcz11_1
  try clear hcz7_0
  try clear hcz7_1
  try clear hcz9_0
  try clear hcz9_1
  try clear hfz11_0
  try clear hfz11_1
  try clear hfz7_0
  try clear hfz7_1
  try clear hfz9_0
  try clear hfz9_1
  obtain ⟨kq, x24_1, rfl, HA, HJ1, BK234, HB⟩ := hcut
  cases kq with
  | zero => exact absurd HA.out (by simp [impl_IsGame.j0])
  | succ kj1 =>
   have H := HA.out
   clear HA
   simp only [impl_IsGame.j0] at H
   by_cases c12 : x24_1 = true
   ·subst c12
    have H1 : (some false) = some r := by rw [if_pos rfl] at H; exact H
    clear H
    have H := H1
    clear H1
    obtain rfl := Option.some.inj H
    go_wp2
    go_ret
    exact ⟨by first | rfl | (simp [*, errW_none, errW_some] <;> rfl), zh HB.out⟩
   replace c12 := Bool.eq_false_iff.mpr c12
   subst c12
   have H1 : (impl_IsGame.l0 kj1 l0_1 (l0_1.length : Int) 0 a0_0 l0_1) = some r := by rw [if_neg (show ¬ (false = true) by decide)] at H; exact H
   clear H
   have H := H1
   clear H1
   have H' := Aside0.mk H
   clear H
   have hcz13_0 : wc.cell? ⟨gb234, 0, none⟩ = some (.int .i64 a0_0) := (blk_cell BK234.out 0).trans rfl
   have hcz13_1 : wc.cell? ⟨gb234, 1, none⟩ = some (.slice A0_1 l0_1.length c0_1) := (blk_cell BK234.out 1).trans rfl
   have hfz13_0 := blk_frozen BK234.out 0
   have hfz13_1 := blk_frozen BK234.out 1
   go_wp2
   go_loopg [28] kj1 (fun kq v28 w' => ∃ (x28_2 : Int), v28 = .int .i64 x28_2 ∧ Aside0 (impl_IsGame.l0 kq l0_1 (l0_1.length : Int) x28_2 a0_0 l0_1 = some r) ∧ Aside0 (kq ≤ kj1) ∧ Aside0 (w'.heap[gb234]? = some (.cells #[.int .i64 a0_0, (.slice A0_1 l0_1.length c0_1)] 31 (0, 0))) ∧ Aside0 (Below w.heap.size w w'))
   case atStart => exact ⟨(0), (by first | rfl | (simp; done) | (simp [*]; done)), H', ⟨Nat.le_refl _⟩, ⟨zb BK234.out⟩, ⟨zh HB.out⟩⟩
   case round =>
    clear H'
    try clear c1
    try clear p2
    try clear c4
    try clear c5
    try clear c6
    try clear c6b0
    try clear c6b1
    try clear c6b2
    try clear c12
    try clear hcz11_0
    try clear hcz11_1
    try clear hcz13_0
    try clear hcz13_1
    try clear hcz7_0
    try clear hcz7_1
    try clear hcz9_0
    try clear hcz9_1
    try clear hfz11_0
    try clear hfz11_1
    try clear hfz13_0
    try clear hfz13_1
    try clear hfz7_0
    try clear hfz7_1
    try clear hfz9_0
    try clear hfz9_1
    try clear p2
    obtain ⟨x28_2, rfl, HA, HK2, BK234, HB⟩ := hrel
    cases gk with
    | zero => exact absurd HA.out (by simp [impl_IsGame.l0])
    | succ k2 =>
     have H := HA.out
     clear HA
     simp only [impl_IsGame.l0] at H
     by_cases c14 : x28_2 < (l0_1.length : Int)
     rotate_left
     ·rw [if_neg c14] at H
      have c14b0 : decide (x28_2 < (l0_1.length : Int)) = false := decide_eq_false c14
      clear c14
      obtain rfl := Option.some.inj H
      go_wp2
      go_ret
      exact ⟨by first | rfl | (simp [*, errW_none, errW_some] <;> rfl), zh HB.out⟩
     rw [if_pos c14] at H
     have c14b0 : decide (x28_2 < (l0_1.length : Int)) = true := decide_eq_true c14
     clear c14
     by_cases c15 : 0 ≤ x28_2
     rotate_left
     ·rw [if_neg c15] at H
      exact absurd H (by simp)
     rw [if_pos c15] at H
     have c15b0 : decide (0 ≤ x28_2) = true := decide_eq_true c15
     clear c15
     by_cases c16 : x28_2 < (l0_1.length : Int)
     rotate_left
     ·rw [if_neg c16] at H
      exact absurd H (by simp)
     rw [if_pos c16] at H
     have c16b0 : decide (x28_2 < (l0_1.length : Int)) = true := decide_eq_true c16
     clear c16
     have HC17 := Aside0.mk H
     clear H
     have p237 : 0 ≤ (x28_2 : Int) := of_decide_eq_true (by first | (with_reducible assumption) | assumption)
     have q237 : x28_2 < (l0_1.length : Int) := of_decide_eq_true (by first | (with_reducible assumption) | assumption)
     obtain ⟨ad237, A237_0, c237_0, e237, hx237_0, hl237_0, hi237_0⟩ := at_L1 HR0_1.out x28_2 p237 q237
     cases e237
     replace hx237_0 := (HB.out.cell (World.block_lt_of_cell? w _ hx237_0)).trans hx237_0
     have HR237_0 := Aside0.mk hi237_0
     have HC237_0 := Aside0.mk hl237_0
     clear hi237_0 hl237_0
     replace p237 := eq_true p237
     replace q237 := eq_true q237
     go_upto_region 6 with (fail)
     go_cut [45] (fun v45 wc => ∃ (kq : Nat) (x45_16 : Bool), v45 = .bool x45_16 ∧ Aside0 (impl_IsGame.j2 kq x28_2 (rd_L1 l0_1 x28_2) l0_1 (l0_1.length : Int) x28_2 x45_16 a0_0 l0_1 = some r) ∧ Aside0 (kq ≤ k2) ∧ Aside0 (wc.heap[gb234]? = some (.cells #[.int .i64 a0_0, (.slice (some ad237) l0_1.length c0_1)] 31 (0, 0))) ∧ Aside0 (Below w.heap.size w wc))
     case first =>
      have H := HC17.out
      clear HC17
      by_cases c18 : x28_2 > 0
      ·rw [if_pos c18] at H
       have c18b0 : decide (0 < x28_2) = true := decide_eq_true c18
       clear c18
       (first | rw [c18b0] | (simp only [i64_w, i32_w]; rw [c18b0]) | skip)
       obtain ⟨ji19, hji19⟩ : ∃ j_ : Int, (wrap64 (x28_2 - 1)) = j_ := ⟨_, rfl⟩
       replace H : (if 0 ≤ (ji19) then (if (ji19) < (l0_1.length : Int) then ((slices_Compare_int_int.f k2 (rd_L1 l0_1 (ji19)) (rd_L1 l0_1 x28_2)).bind fun t239 => (impl_IsGame.j2 k2 x28_2 (rd_L1 l0_1 x28_2) l0_1 (l0_1.length : Int) x28_2 (decide (t239 ≥ 0)) a0_0 l0_1)) else (none)) else (none)) = some r := by first | (rw [hji19] at H; exact H) | (simp only [hji19] at H ⊢; exact H)
       have hji19w : (IntKind.i64.wrap (x28_2 - 1)) = ji19 := (i64_w _).trans hji19
       by_cases c20 : 0 ≤ (ji19)
       ·rw [if_pos c20] at H
        have c20b0 : decide (0 ≤ (ji19)) = true := decide_eq_true c20
        clear c20
        by_cases c21 : (ji19) < (l0_1.length : Int)
        ·rw [if_pos c21] at H
         have c21b0 : decide ((ji19) < (l0_1.length : Int)) = true := decide_eq_true c21
         clear c21
         replace H := Option.bind_eq_some_iff.mp H
         obtain ⟨t239, A220, H⟩ := H
         replace H : (impl_IsGame.j2 k2 x28_2 (rd_L1 l0_1 x28_2) l0_1 (l0_1.length : Int) x28_2 (decide (t239 ≥ 0)) a0_0 l0_1) = some r := H
         have A22 := Aside0.mk A220
         clear A220
         have H' := Aside0.mk H
         clear H
         have hcz23_0 : wr.cell? ⟨gb234, 0, none⟩ = some (.int .i64 a0_0) := (blk_cell BK234.out 0).trans rfl
         have hcz23_1 : wr.cell? ⟨gb234, 1, none⟩ = some (.slice (some ad237) l0_1.length c0_1) := (blk_cell BK234.out 1).trans rfl
         have hfz23_0 := blk_frozen BK234.out 0
         have hfz23_1 := blk_frozen BK234.out 1
         have p238 : 0 ≤ ((ji19) : Int) := of_decide_eq_true (by first | (with_reducible assumption) | assumption)
         have q238 : (ji19) < (l0_1.length : Int) := of_decide_eq_true (by first | (with_reducible assumption) | assumption)
         obtain ⟨ad238, A238_0, c238_0, e238, hx238_0, hl238_0, hi238_0⟩ := at_L1 HR0_1.out (ji19) p238 q238
         obtain rfl : ad237 = ad238 := (by injection e238)
         replace hx238_0 := (HB.out.cell (World.block_lt_of_cell? w _ hx238_0)).trans hx238_0
         have HR238_0 := Aside0.mk hi238_0
         have HC238_0 := Aside0.mk hl238_0
         clear hi238_0 hl238_0
         replace p238 := eq_true p238
         replace q238 := eq_true q238
         go_wp2_with (first | (go_at_call 71; (with_reducible refine (slices_Compare_int_int.calls k2 _ _ (rd_L1 l0_1 (ji19)) _ _ (rd_L1 l0_1 x28_2) t239 _ ?side1 ?side2 ?side3 ?side4 A22.out).mono ?_); (case side1 => repeat (first | exact (Kd.C_below HR238_0.out HB.out) | (with_reducible refine Kd.C_alloc ?_ _) | (with_reducible refine Kd.C_drewN ?_ _) | (with_reducible refine Kd.C_drew ?_))); (case side2 => exact HC238_0.out); (case side3 => repeat (first | exact (Kd.C_below HR237_0.out HB.out) | (with_reducible refine Kd.C_alloc ?_ _) | (with_reducible refine Kd.C_drewN ?_ _) | (with_reducible refine Kd.C_drew ?_))); (case side4 => exact HC237_0.out); rintro e w' ⟨rfl, ⟨nd, rfl⟩⟩))
         go_meet
         case rel => exact ⟨_, (decide (t239 ≥ 0)), (by first | rfl | (simp; done) | (simp [*]; done)), H', ⟨by have := HJ1.out; have := HK2.out; first | omega | exact Nat.le_refl _⟩, ⟨zb BK234.out⟩, ⟨zh HB.out⟩⟩
        ·rw [if_neg c21] at H
         exact absurd H (by simp)
       ·rw [if_neg c20] at H
        exact absurd H (by simp)
      ·rw [if_neg c18] at H
       have c18b0 : decide (0 < x28_2) = false := decide_eq_false c18
       clear c18
       (first | rw [c18b0] | (simp only [i64_w, i32_w]; rw [c18b0]) | skip)
       have H' := Aside0.mk H
       clear H
       go_wp2
       go_meet
       case rel => exact ⟨_, (false), (by first | rfl | (simp; done) | (simp [*]; done)), H', ⟨by have := HJ1.out; have := HK2.out; first | omega | exact Nat.le_refl _⟩, ⟨zb BK234.out⟩, ⟨zh HB.out⟩⟩
     case rest =>
      clear HC17
      try clear c1
      try clear c2
      try clear p2
      try clear q2
      try clear hx2
      try clear c4
      try clear c5
      try clear c6
      try clear c6b0
      try clear c6b1
      try clear c6b2
      try clear p6
      try clear c12
      try clear c14
      try clear c14b0
      try clear c15
      try clear c15b0
      try clear c16
      try clear c16b0
      try clear c18
      try clear c18b0
      try clear c20
      try clear c20b0
      try clear c21
      try clear c21b0
      try clear c23
      try clear p23
      try clear q23
      try clear hx23
      try clear hcz11_0
      try clear hcz11_1
      try clear hcz13_0
      try clear hcz13_1
      try clear hcz23_0
      try clear hcz23_1
      try clear hcz7_0
      try clear hcz7_1
      try clear hcz9_0
      try clear hcz9_1
      try clear hfz11_0
      try clear hfz11_1
      try clear hfz13_0
      try clear hfz13_1
      try clear hfz23_0
      try clear hfz23_1
      try clear hfz7_0
      try clear hfz7_1
      try clear hfz9_0
      try clear hfz9_1
      try clear hx237_0
      try clear hx238_0
      try clear p2
      try clear p237
      try clear p238
      try clear q237
      try clear q238
      obtain ⟨kq, x45_16, rfl, HA, HJ16, BK234, HB⟩ := hcut
      cases kq with
      | zero => exact absurd HA.out (by simp [impl_IsGame.j2])
      | succ kj16 =>
       have H := HA.out
       clear HA
       simp only [impl_IsGame.j2] at H
       by_cases c24 : x45_16 = true
       ·subst c24
        have H1 : (some false) = some r := by rw [if_pos rfl] at H; exact H
        clear H
        have H := H1
        clear H1
        obtain rfl := Option.some.inj H
        go_wp2
        go_ret
        exact ⟨by first | rfl | (simp [*, errW_none, errW_some] <;> rfl), zh HB.out⟩
       replace c24 := Bool.eq_false_iff.mpr c24
       subst c24
       have H1 : (impl_IsGame.l1 kj16 x28_2 (rd_L1 l0_1 x28_2) l0_1 (l0_1.length : Int) x28_2 l0_1 (l0_1.length : Int) 0 a0_0 l0_1) = some r := by rw [if_neg (show ¬ (false = true) by decide)] at H; exact H
       clear H
       have H := H1
       clear H1
       have H' := Aside0.mk H
       clear H
       have hcz25_0 : wc.cell? ⟨gb234, 0, none⟩ = some (.int .i64 a0_0) := (blk_cell BK234.out 0).trans rfl
       have hcz25_1 : wc.cell? ⟨gb234, 1, none⟩ = some (.slice (some ad237) l0_1.length c0_1) := (blk_cell BK234.out 1).trans rfl
       have hfz25_0 := blk_frozen BK234.out 0
       have hfz25_1 := blk_frozen BK234.out 1
       go_wp2
       go_loopg [49] kj16 (fun kq v49 w' => ∃ (x49_4 : Int), v49 = .int .i64 x49_4 ∧ Aside0 (impl_IsGame.l1 kq x28_2 (rd_L1 l0_1 x28_2) l0_1 (l0_1.length : Int) x28_2 l0_1 (l0_1.length : Int) x49_4 a0_0 l0_1 = some r) ∧ Aside0 (kq ≤ kj16) ∧ Aside0 (w'.heap[gb234]? = some (.cells #[.int .i64 a0_0, (.slice (some ad237) l0_1.length c0_1)] 31 (0, 0))) ∧ Aside0 (Below w.heap.size w w'))
       case atStart => exact ⟨(0), (by first | rfl | (simp; done) | (simp [*]; done)), H', ⟨Nat.le_refl _⟩, ⟨zb BK234.out⟩, ⟨zh HB.out⟩⟩
       case round =>
        clear H'
        try clear c1
        try clear c2
        try clear p2
        try clear q2
        try clear hx2
        try clear c4
        try clear c5
        try clear c6
        try clear c6b0
        try clear c6b1
        try clear c6b2
        try clear p6
        try clear c12
        try clear c14
        try clear c14b0
        try clear c15
        try clear c15b0
        try clear c16
        try clear c16b0
        try clear c18
        try clear c18b0
        try clear c20
        try clear c20b0
        try clear c21
        try clear c21b0
        try clear c23
        try clear p23
        try clear q23
        try clear hx23
        try clear c24
        try clear hcz11_0
        try clear hcz11_1
        try clear hcz13_0
        try clear hcz13_1
        try clear hcz23_0
        try clear hcz23_1
        try clear hcz25_0
        try clear hcz25_1
        try clear hcz7_0
        try clear hcz7_1
        try clear hcz9_0
        try clear hcz9_1
        try clear hfz11_0
        try clear hfz11_1
        try clear hfz13_0
        try clear hfz13_1
        try clear hfz23_0
        try clear hfz23_1
        try clear hfz25_0
        try clear hfz25_1
        try clear hfz7_0
        try clear hfz7_1
        try clear hfz9_0
        try clear hfz9_1
        try clear hx237_0
        try clear hx238_0
        try clear p2
        try clear p23
        try clear p237
        try clear p238
        try clear p6
        try clear q2
        try clear q23
        try clear q237
        try clear q238
        obtain ⟨x49_4, rfl, HA, HK4, BK234, HB⟩ := hrel
        cases gk with
        | zero => exact absurd HA.out (by simp [impl_IsGame.l1])
        | succ k4 =>
         have H := HA.out
         clear HA
         simp only [impl_IsGame.l1] at H
         by_cases c26 : x49_4 < (l0_1.length : Int)
         rotate_left
         ·rw [if_neg c26] at H
          have c26b0 : decide (x49_4 < (l0_1.length : Int)) = false := decide_eq_false c26
          clear c26
          have H' := Aside0.mk H
          clear H
          go_wp2
          go_roundg k4
          case measure => have := HJ1.out; have := HK2.out; have := HJ16.out; have := HK4.out; omega
          case rel => exact ⟨(wrap64 (x28_2 + 1)), (by first | rfl | (simp; done) | (simp [*]; done)), H', ⟨by have := HJ1.out; have := HK2.out; have := HJ16.out; have := HK4.out; omega⟩, ⟨zb BK234.out⟩, ⟨zh HB.out⟩⟩
         rw [if_pos c26] at H
         have c26b0 : decide (x49_4 < (l0_1.length : Int)) = true := decide_eq_true c26
         clear c26
         by_cases c27 : 0 ≤ x49_4
         rotate_left
         ·rw [if_neg c27] at H
          exact absurd H (by simp)
         rw [if_pos c27] at H
         have c27b0 : decide (0 ≤ x49_4) = true := decide_eq_true c27
         clear c27
         by_cases c28 : x49_4 < (l0_1.length : Int)
         rotate_left
         ·rw [if_neg c28] at H
          exact absurd H (by simp)
         rw [if_pos c28] at H
         have c28b0 : decide (x49_4 < (l0_1.length : Int)) = true := decide_eq_true c28
         clear c28
         by_cases c29 : x49_4 = x28_2
         ·rw [if_pos c29] at H
          have c29b0 : (x49_4 == x28_2) = true := beq_iff_eq.mpr c29
          have c29b1 : (x49_4 != x28_2) = false := bne_eq_false_iff_eq.mpr c29
          clear c29
          have H' := Aside0.mk H
          clear H
          have p240 : 0 ≤ (x49_4 : Int) := of_decide_eq_true (by first | (with_reducible assumption) | assumption)
          have q240 : x49_4 < (l0_1.length : Int) := of_decide_eq_true (by first | (with_reducible assumption) | assumption)
          obtain ⟨ad240, A240_0, c240_0, e240, hx240_0, hl240_0, hi240_0⟩ := at_L1 HR0_1.out x49_4 p240 q240
          obtain rfl : ad237 = ad240 := (by injection e240)
          replace hx240_0 := (HB.out.cell (World.block_lt_of_cell? w _ hx240_0)).trans hx240_0
          have HR240_0 := Aside0.mk hi240_0
          have HC240_0 := Aside0.mk hl240_0
          clear hi240_0 hl240_0
          replace p240 := eq_true p240
          replace q240 := eq_true q240
          go_wp2
          go_roundg k4
          case measure => have := HJ1.out; have := HK2.out; have := HJ16.out; have := HK4.out; omega
          case rel => exact ⟨(wrap64 (x49_4 + 1)), (by first | rfl | (simp; done) | (simp [*]; done)), H', ⟨by have := HJ1.out; have := HK2.out; have := HJ16.out; have := HK4.out; omega⟩, ⟨zb BK234.out⟩, ⟨zh HB.out⟩⟩
         rw [if_neg c29] at H
         have c29b0 : (x49_4 == x28_2) = false := beq_eq_false_iff_ne.mpr c29
         have c29b1 : (x49_4 != x28_2) = true := bne_iff_ne.mpr c29
         replace H := Option.bind_eq_some_iff.mp H
         obtain ⟨t241, A300, H⟩ := H
         replace H : ((impl_maskOf.f k4 (rd_L1 l0_1 x49_4)).bind fun t242 => (if (Go.bits .and .i64 t241 t242) = t242 then (some false) else (impl_IsGame.l1 k4 x28_2 (rd_L1 l0_1 x28_2) l0_1 (l0_1.length : Int) x28_2 l0_1 (l0_1.length : Int) (wrap64 (x49_4 + 1)) a0_0 l0_1))) = some r := H
         have A30 := Aside0.mk A300
         clear A300
         replace H := Option.bind_eq_some_iff.mp H
         obtain ⟨t242, A310, H⟩ := H
         replace H : (if (Go.bits .and .i64 t241 t242) = t242 then (some false) else (impl_IsGame.l1 k4 x28_2 (rd_L1 l0_1 x28_2) l0_1 (l0_1.length : Int) x28_2 l0_1 (l0_1.length : Int) (wrap64 (x49_4 + 1)) a0_0 l0_1)) = some r := H
         have A31 := Aside0.mk A310
         clear A310
         by_cases c32 : (Go.bits .and .i64 t241 t242) = t242
         ·rw [if_pos c32] at H
          have c32b0 : ((Go.bits .and .i64 t241 t242) == t242) = true := beq_iff_eq.mpr c32
          have c32b1 : ((Go.bits .and .i64 t241 t242) != t242) = false := bne_eq_false_iff_eq.mpr c32
          clear c32
          obtain rfl := Option.some.inj H
          have p240 : 0 ≤ (x49_4 : Int) := of_decide_eq_true (by first | (with_reducible assumption) | assumption)
          have q240 : x49_4 < (l0_1.length : Int) := of_decide_eq_true (by first | (with_reducible assumption) | assumption)
          obtain ⟨ad240, A240_0, c240_0, e240, hx240_0, hl240_0, hi240_0⟩ := at_L1 HR0_1.out x49_4 p240 q240
          obtain rfl : ad237 = ad240 := (by injection e240)
          replace hx240_0 := (HB.out.cell (World.block_lt_of_cell? w _ hx240_0)).trans hx240_0
          have HR240_0 := Aside0.mk hi240_0
          have HC240_0 := Aside0.mk hl240_0
          clear hi240_0 hl240_0
          replace p240 := eq_true p240
          replace q240 := eq_true q240
          go_wp2_with (first | (go_at_call 72; (with_reducible refine (impl_maskOf.calls k4 _ _ (rd_L1 l0_1 x28_2) t241 _ ?side1 ?side2 A30.out).mono ?_); (case side1 => repeat (first | exact (Kd.C_below HR237_0.out HB.out) | (with_reducible refine Kd.C_alloc ?_ _) | (with_reducible refine Kd.C_drewN ?_ _) | (with_reducible refine Kd.C_drew ?_))); (case side2 => exact HC237_0.out); rintro e w' ⟨rfl, ⟨nd, rfl⟩⟩) | (go_at_call 72; (with_reducible refine (impl_maskOf.calls k4 _ _ (rd_L1 l0_1 x49_4) t242 _ ?side1 ?side2 A31.out).mono ?_); (case side1 => repeat (first | exact (Kd.C_below HR240_0.out (zh HB.out)) | (with_reducible refine Kd.C_alloc ?_ _) | (with_reducible refine Kd.C_drewN ?_ _) | (with_reducible refine Kd.C_drew ?_))); (case side2 => exact HC240_0.out); rintro e w' ⟨rfl, ⟨nd, rfl⟩⟩))
          go_ret
          exact ⟨by first | rfl | (simp [*, errW_none, errW_some] <;> rfl), zh HB.out⟩
         rw [if_neg c32] at H
         have c32b0 : ((Go.bits .and .i64 t241 t242) == t242) = false := beq_eq_false_iff_ne.mpr c32
         have c32b1 : ((Go.bits .and .i64 t241 t242) != t242) = true := bne_iff_ne.mpr c32
         have H' := Aside0.mk H
         clear H
         have p240 : 0 ≤ (x49_4 : Int) := of_decide_eq_true (by first | (with_reducible assumption) | assumption)
         have q240 : x49_4 < (l0_1.length : Int) := of_decide_eq_true (by first | (with_reducible assumption) | assumption)
         obtain ⟨ad240, A240_0, c240_0, e240, hx240_0, hl240_0, hi240_0⟩ := at_L1 HR0_1.out x49_4 p240 q240
         obtain rfl : ad237 = ad240 := (by injection e240)
         replace hx240_0 := (HB.out.cell (World.block_lt_of_cell? w _ hx240_0)).trans hx240_0
         have HR240_0 := Aside0.mk hi240_0
         have HC240_0 := Aside0.mk hl240_0
         clear hi240_0 hl240_0
         replace p240 := eq_true p240
         replace q240 := eq_true q240
         go_wp2_with (first | (go_at_call 72; (with_reducible refine (impl_maskOf.calls k4 _ _ (rd_L1 l0_1 x28_2) t241 _ ?side1 ?side2 A30.out).mono ?_); (case side1 => repeat (first | exact (Kd.C_below HR237_0.out HB.out) | (with_reducible refine Kd.C_alloc ?_ _) | (with_reducible refine Kd.C_drewN ?_ _) | (with_reducible refine Kd.C_drew ?_))); (case side2 => exact HC237_0.out); rintro e w' ⟨rfl, ⟨nd, rfl⟩⟩) | (go_at_call 72; (with_reducible refine (impl_maskOf.calls k4 _ _ (rd_L1 l0_1 x49_4) t242 _ ?side1 ?side2 A31.out).mono ?_); (case side1 => repeat (first | exact (Kd.C_below HR240_0.out (zh HB.out)) | (with_reducible refine Kd.C_alloc ?_ _) | (with_reducible refine Kd.C_drewN ?_ _) | (with_reducible refine Kd.C_drew ?_))); (case side2 => exact HC240_0.out); rintro e w' ⟨rfl, ⟨nd, rfl⟩⟩))
         go_roundg k4
         case measure => have := HJ1.out; have := HK2.out; have := HJ16.out; have := HK4.out; omega
         case rel => exact ⟨(wrap64 (x49_4 + 1)), (by first | rfl | (simp; done) | (simp [*]; done)), H', ⟨by have := HJ1.out; have := HK2.out; have := HJ16.out; have := HK4.out; omega⟩, ⟨zb BK234.out⟩, ⟨zh HB.out⟩⟩
end Go.Proofs.Ytaacaifiiedoiaa.Q
end
section
namespace Go.Proofs.Ytaacaifiiedoiaa.Q
open Go.RowKit Go.Proofs.YtaacaifiiedoiaaW.PrintWords Go.Proofs.YtaacaifiiedoiaaW.PrintLast Go.Proofs.YtaacaifiiedoiaaW.PrintMore
set_option linter.unusedVariables false
set_option linter.unusedSimpArgs false
def lexB : List Int → List Int → Bool
  | [], [] => false
  | [], _ :: _ => true
  | _ :: _, [] => false
  | x :: xs, y :: ys => if x = y then lexB xs ys else decide (x < y)
def cmpL : List Int → List Int → Int
  | [], [] => 0
  | [], _ :: _ => -1
  | _ :: _, [] => 1
  | x :: xs, y :: ys => if x = y then cmpL xs ys else if x < y then -1 else 1
theorem cmpL_ge : ∀ a b, decide (cmpL a b ≥ 0) = !lexB a b
  | [], [] => rfl
  | [], _ :: _ => rfl
  | _ :: _, [] => rfl
  | x :: xs, y :: ys => by
    unfold cmpL lexB
    by_cases h : x = y
    · rw [if_pos h, if_pos h]; exact cmpL_ge xs ys
    · rw [if_neg h, if_neg h]
      by_cases h2 : x < y
      · rw [if_pos h2, decide_eq_true h2]; rfl
      · rw [if_neg h2, decide_eq_false h2]; rfl
theorem lexB_drop_nil (a b : List Int) : lexB [] (b.drop a.length) = decide ((a.length : Int) < (b.length : Int)) := by
  by_cases h : a.length < b.length
  · rw [List.drop_eq_getElem_cons h, decide_eq_true (by omega)]; rfl
  · rw [List.drop_of_length_le (by omega), decide_eq_false (by omega)]; rfl
theorem lexB_cons_nil (a b : List Int) (i : Nat) (h : i < a.length) (h2 : ¬ i < b.length) : lexB (a.drop i) (b.drop i) = decide ((a.length : Int) < (b.length : Int)) := by
  have hb : b.drop i = [] := List.drop_of_length_le (by omega)
  rw [List.drop_eq_getElem_cons h, hb, decide_eq_false (by omega)]; rfl
theorem lexB_irrefl : ∀ a, lexB a a = false
  | [] => rfl
  | x :: xs => by rw [lexB, if_pos rfl]; exact lexB_irrefl xs
theorem lexB_trans : ∀ a b c, lexB a b = true → lexB b c = true → lexB a c = true
  | [], [], _, h, _ => by cases h
  | [], _ :: _, [], _, h => by cases h
  | [], _ :: _, _ :: _, _, _ => rfl
  | _ :: _, [], _, h, _ => by cases h
  | _ :: _, _ :: _, [], _, h => by cases h
  | x :: xs, y :: ys, z :: zs, h1, h2 => by
    rw [lexB] at h1 h2 ⊢
    by_cases e1 : x = y
    · subst e1
      rw [if_pos rfl] at h1
      by_cases e2 : x = z
      · subst e2
        rw [if_pos rfl] at h2 ⊢
        exact lexB_trans xs ys zs h1 h2
      · rw [if_neg e2] at h2 ⊢; exact h2
    · rw [if_neg e1, decide_eq_true_eq] at h1
      by_cases e2 : y = z
      · subst e2
        rw [if_neg e1, decide_eq_true_eq]; exact h1
      · rw [if_neg e2, decide_eq_true_eq] at h2
        rw [if_neg (by omega), decide_eq_true_eq]; omega
theorem lexB_total : ∀ a b, lexB a b = false → lexB b a = false → a = b
  | [], [], _, _ => rfl
  | [], _ :: _, h, _ => by cases h
  | _ :: _, [], _, h => by cases h
  | x :: xs, y :: ys, h1, h2 => by
    rw [lexB] at h1 h2
    by_cases e : x = y
    · subst e
      rw [if_pos rfl] at h1 h2
      rw [lexB_total xs ys h1 h2]
    · rw [if_neg e, decide_eq_false_iff_not] at h1
      rw [if_neg (fun q => e q.symm), decide_eq_false_iff_not] at h2
      omega
theorem lexB_asymm {a b : List Int} (h : lexB a b = true) : lexB b a = false := by
  cases h2 : lexB b a
  · rfl
  · have := lexB_trans _ _ _ h h2
    rw [lexB_irrefl] at this; cases this
theorem lexB_ntrans (a b c : List Int) (h1 : lexB a b = false) (h2 : lexB b c = false) : lexB a c = false := by
  cases h3 : lexB a c
  · rfl
  · cases h4 : lexB b a
    · have := lexB_total a b h1 h4
      subst this
      rw [h2] at h3; cases h3
    · rw [lexB_trans _ _ _ h4 h3] at h2; cases h2
theorem cmpL_lt : ∀ a b, decide (cmpL a b < 0) = lexB a b
  | [], [] => rfl
  | [], _ :: _ => rfl
  | _ :: _, [] => rfl
  | x :: xs, y :: ys => by
    unfold cmpL lexB
    by_cases h : x = y
    · rw [if_pos h, if_pos h]; exact cmpL_lt xs ys
    · rw [if_neg h, if_neg h]
      by_cases h2 : x < y
      · rw [if_pos h2, decide_eq_true h2]; rfl
      · rw [if_neg h2, decide_eq_false h2]; rfl
def inB (n lo hi : Int) : Bool := decide (lo ≤ n) && decide (n ≤ hi)
theorem shl_one (n : Int) (h : 0 ≤ n ∧ n ≤ 16) : shl .i64 1 n = 2 ^ n.toNat := by
  obtain ⟨m, rfl⟩ := Int.eq_ofNat_of_zero_le h.1
  have hm : m ≤ 16 := by omega
  have : ∀ m : Nat, m ≤ 16 → shl .i64 1 (m : Int) = 2 ^ (m : Int).toNat := by decide
  exact this m hm
theorem pow_le16 (n : Int) (h : 0 ≤ n ∧ n ≤ 16) : 1 ≤ (2 : Int) ^ n.toNat ∧ (2 : Int) ^ n.toNat ≤ 65536 := by
  obtain ⟨m, rfl⟩ := Int.eq_ofNat_of_zero_le h.1
  have hm : m ≤ 16 := by omega
  have : ∀ m : Nat, m ≤ 16 → 1 ≤ (2 : Int) ^ (m : Int).toNat ∧ (2 : Int) ^ (m : Int).toNat ≤ 65536 := by decide
  exact this m hm
theorem wrap64_id {x : Int} (h : -9223372036854775808 ≤ x ∧ x ≤ 9223372036854775807) : wrap64 x = x := by unfold wrap64; omega
theorem all_bits (n : Int) (h : 0 ≤ n ∧ n ≤ 16) : wrap64 (shl .i64 1 n - 1) = 2 ^ n.toNat - 1 := by
  rw [shl_one n h]
  have := pow_le16 n h
  exact wrap64_id (by omega)
theorem within_eq (n lo hi : Int) : impl_within.f n lo hi = some (inB n lo hi) := by
  unfold impl_within.f inB
  split <;> simp_all <;> omega
theorem l1In_eq (n lo hi : Int) : spec_l1In.f n lo hi = some (inB n lo hi) := by
  unfold spec_l1In.f inB
  split <;> simp_all <;> omega
theorem voAll_eq (n : Int) (h : 0 ≤ n ∧ n ≤ 16) : spec_voAll.f n = some (2 ^ n.toNat - 1) := by
  unfold spec_voAll.f
  rw [if_pos h.1, all_bits n h]
theorem inB_iff {n lo hi : Int} : inB n lo hi = true ↔ lo ≤ n ∧ n ≤ hi := by unfold inB; simp
theorem ev_pos {α : Type} {c : Prop} [Decidable c] {f g : Nat → Option α} {r : α} (h : c) (k : Ev f r) : Ev (fun n => if c then f n else g n) r := by
  simp only [if_pos h]; exact k
theorem ev_neg {α : Type} {c : Prop} [Decidable c] {f g : Nat → Option α} {r : α} (h : ¬ c) (k : Ev g r) : Ev (fun n => if c then f n else g n) r := by
  simp only [if_neg h]; exact k
theorem ev_bindS {α β : Type} {x : Option α} {f : Nat → α → Option β} {a : α} {r : β} (h : x = some a) (k : Ev (fun n => f n a) r) : Ev (fun n => x.bind (f n)) r := by
  subst h; exact k
theorem ev_succ {α : Type} {g : Nat → Option α} {r : α} (k : Ev (fun n => g (n + 1)) r) : Ev g r := Ev.step (fun _ => rfl) k
theorem ev_eqv {α : Type} {f : Nat → Option α} {r q : α} (h : Ev f r) (e : r = q) : Ev f q := e ▸ h
theorem ev_bool {α : Type} {c : Bool} {f g : Nat → Option α} {r : α} (h1 : c = true → Ev f r) (h2 : c = false → Ev g r) : Ev (fun n => if c = true then f n else g n) r := by
  cases c
  · simpa using h2 rfl
  · simpa using h1 rfl
theorem rd_get {xs : List Int} {i : Nat} (h : i < xs.length) : rd xs (i : Int) = xs[i] := by
  unfold rd
  simp [List.getD_eq_getElem?_getD, List.getElem?_eq_getElem h]
theorem wrap_succ {i : Nat} {n : Nat} (h : i < n) (hn : n ≤ 1152921504606846976) : wrap64 ((i : Int) + 1) = ((i + 1 : Nat) : Int) := by
  unfold wrap64; omega
theorem wrap_pred {i : Nat} {n : Nat} (h : i < n) (hn : n ≤ 1152921504606846976) : wrap64 (((i + 1 : Nat) : Int) - 1) = (i : Int) := by
  unfold wrap64; omega
def iotaL (m : Int) (n : Nat) : List Int := (List.range n).map fun (i : Nat) => m + (i : Int)
theorem iotaL_len (m : Int) (n : Nat) : (iotaL m n).length = n := by simp [iotaL]
theorem iotaL_get {m : Int} {n i : Nat} (h : i < n) : rd (iotaL m n) (i : Int) = m + i := by
  rw [rd_get (by rw [iotaL_len]; exact h)]; simp [iotaL]
theorem eqIntS_ev (a b : List Int) (ha : a.length ≤ 1152921504606846976) : Ev (fun k => laws_eqIntS.f k a b) (decide (a = b)) := by
  unfold laws_eqIntS.f
  by_cases hl : a.length = b.length
  · refine ev_pos (by omega) ?_
    have key : ∀ d i : Nat, i + d = a.length → Ev (fun k => laws_eqIntS.l0 k a b (i : Int)) (decide (a.drop i = b.drop i)) := by
      intro d
      induction d with
      | zero =>
        intro i hi
        refine ev_succ ?_
        simp only [laws_eqIntS.l0]
        refine ev_neg (by omega) ?_
        rw [List.drop_of_length_le (by omega), List.drop_of_length_le (by omega)]
        exact Ev.now _
      | succ d ih =>
        intro i hi
        have h1 : i < a.length := by omega
        have h2 : i < b.length := by omega
        refine ev_succ ?_
        simp only [laws_eqIntS.l0]
        refine ev_pos (by omega) (ev_pos (by omega) (ev_pos (by omega) ?_))
        rw [List.drop_eq_getElem_cons h1, List.drop_eq_getElem_cons h2, rd_get h1, rd_get h2, wrap_succ h1 ha]
        by_cases e : a[i] = b[i]
        · refine ev_pos e (ev_eqv (ih (i + 1) (by omega)) ?_)
          exact decide_eq_decide.2 ⟨fun h => by rw [e, h], fun h => (List.cons.inj h).2⟩
        · refine ev_neg e (ev_eqv (Ev.now false) ?_)
          exact (decide_eq_false (fun h => e (List.cons.inj h).1)).symm
    exact key a.length 0 (by omega)
  · refine ev_neg (by omega) (ev_eqv (Ev.now false) ?_)
    have : a ≠ b := fun e => hl (by rw [e])
    simp [this]
theorem markIntS_ev (l : List Int) (m : Int) (hl : l.length ≤ 1152921504606846976) (hm : 0 ≤ m ∧ m ≤ 1152921504606846976) : Ev (fun k => laws_markIntS.f k l m) (m + l.length, iotaL m l.length) := by
  unfold laws_markIntS.f
  have key : ∀ (d i : Nat) (x : List Int), x.length = l.length → i + d = l.length → Ev (fun k => laws_markIntS.l0 k x (m + i) (i : Int)) (m + l.length, x.take i ++ iotaL (m + i) (l.length - i)) := by
    intro d
    induction d with
    | zero =>
      intro i x hx hi
      refine ev_succ ?_
      simp only [laws_markIntS.l0]
      refine ev_neg (by omega) (ev_eqv (Ev.now _) ?_)
      have : l.length - i = 0 := by omega
      rw [this, List.take_of_length_le (by omega), show i = l.length by omega]
      simp [iotaL]
    | succ d ih =>
      intro i x hx hi
      have h1 : i < l.length := by omega
      refine ev_succ ?_
      simp only [laws_markIntS.l0]
      refine ev_pos (by omega) (ev_pos (by omega) ?_)
      rw [wrap_succ h1 hl, wrap64_id (show -9223372036854775808 ≤ m + i + 1 ∧ m + i + 1 ≤ 9223372036854775807 by omega), show m + (i : Int) + 1 = m + ((i + 1 : Nat) : Int) by omega, Int.toNat_natCast]
      refine ev_eqv (ih (i + 1) (x.set i (m + i)) (by simpa using hx) (by omega)) ?_
      congr 1
      have e1 : (x.set i (m + i)).take (i + 1) = x.take i ++ [m + (i : Int)] := by
        rw [List.take_succ_eq_append_getElem (by rw [List.length_set]; omega), List.getElem_set_self, List.take_set_of_le (Nat.le_refl _)]
      have e2 : iotaL (m + i) (l.length - i) = (m + (i : Int)) :: iotaL (m + ((i + 1 : Nat) : Int)) (l.length - (i + 1)) := by
        rw [show l.length - i = (l.length - (i + 1)) + 1 by omega]
        unfold iotaL
        rw [List.range_succ_eq_map, List.map_cons, List.map_map]
        congr 1
        · simp
        · refine List.map_congr_left fun j _ => ?_
          simp only [Function.comp]
          omega
      rw [e1, e2, List.append_assoc]; rfl
  have := key l.length 0 l rfl (by omega)
  simpa using this
theorem heldIntS_ev (m : Int) (n : Nat) (hl : n ≤ 1152921504606846976) (hm : 0 ≤ m ∧ m ≤ 1152921504606846976) : Ev (fun k => laws_heldIntS.f k (iotaL m n) m) (m + n) := by
  unfold laws_heldIntS.f
  have key : ∀ (d i : Nat), i + d = n → Ev (fun k => laws_heldIntS.l0 k (iotaL m n) (m + i) (i : Int)) (m + n) := by
    intro d
    induction d with
    | zero =>
      intro i hi
      refine ev_succ ?_
      simp only [laws_heldIntS.l0, iotaL_len]
      refine ev_neg (by omega) (ev_eqv (Ev.now _) ?_)
      rw [show i = n by omega]
    | succ d ih =>
      intro i hi
      have h1 : i < n := by omega
      refine ev_succ ?_
      simp only [laws_heldIntS.l0, iotaL_len]
      refine ev_pos (by omega) (ev_pos (by omega) (ev_pos (iotaL_get h1) ?_))
      rw [wrap_succ h1 hl, wrap64_id (show -9223372036854775808 ≤ m + i + 1 ∧ m + i + 1 ≤ 9223372036854775807 by omega), show m + (i : Int) + 1 = m + ((i + 1 : Nat) : Int) by omega]
      exact ih (i + 1) (by omega)
  have := key n 0 (by omega)
  simpa using this
theorem ev_range {R : Type} (n : Nat) (L : Nat → Nat → Option R) (v : Nat → R) (hend : Ev (fun k => L k n) (v n)) (hstep : ∀ i, i < n → Ev (fun k => L k (i + 1)) (v (i + 1)) → Ev (fun k => L k i) (v i)) :
    ∀ i, i ≤ n → Ev (fun k => L k i) (v i) := by
  have key : ∀ d i, i + d = n → Ev (fun k => L k i) (v i) := by
    intro d
    induction d with
    | zero => intro i hi; rw [show i = n by omega]; exact hend
    | succ d ih => intro i hi; exact hstep i (by omega) (ih (i + 1) (by omega))
  exact fun i hi => key (n - i) i (by omega)
theorem set_copy {α β : Type} (g : α → β) (z : β) (l : List α) (i : Nat) (h : i < l.length) :
    ((l.take i).map g ++ List.replicate (l.length - i) z).set i (g l[i]) = (l.take (i + 1)).map g ++ List.replicate (l.length - (i + 1)) z := by
  rw [List.set_append_right _ _ (by rw [List.length_map, List.length_take]; omega), List.length_map, List.length_take, Nat.min_eq_left (by omega), Nat.sub_self, show l.length - i = (l.length - (i + 1)) + 1 by omega, List.replicate_succ, List.set_cons_zero, List.take_succ_eq_append_getElem h, List.map_append, List.append_assoc]
  rfl
theorem copy_len {α β : Type} (g : α → β) (z : β) (l : List α) (i : Nat) (h : i ≤ l.length) : ((l.take i).map g ++ List.replicate (l.length - i) z).length = l.length := by
  rw [List.length_append, List.length_map, List.length_take, List.length_replicate]; omega
theorem getD_get {α : Type} {xs : List α} {z : α} {i : Nat} (h : i < xs.length) : xs.getD i z = xs[i] := by
  simp [List.getD_eq_getElem?_getD, List.getElem?_eq_getElem h]
theorem all_drop {α : Type} (p : α → Bool) (l : List α) (i : Nat) (h : i < l.length) : (l.drop i).all p = (p l[i] && (l.drop (i + 1)).all p) := by
  rw [List.drop_eq_getElem_cons h, List.all_cons]
theorem drop_end {α : Type} (l : List α) : l.drop l.length = [] := by simp
theorem eq_drop {α : Type} [DecidableEq α] (a b : List α) (i : Nat) (h1 : i < a.length) (h2 : i < b.length) : decide (a.drop i = b.drop i) = (decide (a[i] = b[i]) && decide (a.drop (i + 1) = b.drop (i + 1))) := by
  rw [List.drop_eq_getElem_cons h1, List.drop_eq_getElem_cons h2]
  by_cases e : a[i] = b[i]
  · by_cases e2 : a.drop (i + 1) = b.drop (i + 1)
    · rw [decide_eq_true e, decide_eq_true e2, decide_eq_true (by rw [e, e2])]; rfl
    · rw [decide_eq_false e2, decide_eq_false (fun h => e2 (List.cons.inj h).2)]; simp
  · rw [decide_eq_false e, decide_eq_false (fun h => e (List.cons.inj h).1)]; rfl
theorem voBefore_ev (a b : List Int) (ha : a.length ≤ 1152921504606846976) : Ev (fun k => spec_voBefore.f k a b) (lexB a b) := by
  unfold spec_voBefore.f
  have := ev_range a.length (fun k i => spec_voBefore.l0 k a b (i : Int)) (fun i => lexB (a.drop i) (b.drop i)) ?_ ?_ 0 (Nat.zero_le _)
  · simpa using this
  · refine ev_succ ?_
    simp only [spec_voBefore.l0]
    refine ev_neg (by omega) (ev_succ ?_)
    simp only [spec_voBefore.j1]
    refine ev_neg (by simp) (ev_eqv (Ev.now _) ?_)
    rw [drop_end, lexB_drop_nil]
  · intro i hi ih
    refine ev_succ ?_
    simp only [spec_voBefore.l0]
    refine ev_pos (by omega) (ev_succ ?_)
    simp only [spec_voBefore.j1]
    by_cases h2 : i < b.length
    · refine ev_pos (by simp; omega) (ev_pos (by omega) (ev_pos (by omega) (ev_pos (by omega) ?_)))
      rw [rd_get hi, rd_get h2, wrap_succ hi ha]
      show Ev _ (lexB (a.drop i) (b.drop i))
      rw [List.drop_eq_getElem_cons hi, List.drop_eq_getElem_cons h2]
      unfold lexB
      by_cases e : a[i] = b[i]
      · rw [if_pos e]; exact ev_pos e ih
      · rw [if_neg e]; exact ev_neg e (Ev.now _)
    · refine ev_neg (by simp; omega) (ev_eqv (Ev.now _) ?_)
      rw [lexB_cons_nil a b i hi h2]
theorem cmpInt_eq (a b : Int) : cmp_Compare_int.f a b = some (if a < b then -1 else if a > b then 1 else 0) := by
  unfold cmp_Compare_int.f cmp_isNaN_int.f
  simp
  repeat' split
  all_goals rfl
theorem Compare_ev (a b : List Int) (ha : a.length ≤ 1152921504606846976) : Ev (fun k => slices_Compare_int_int.f k a b) (cmpL a b) := by
  unfold slices_Compare_int_int.f
  have := ev_range a.length (fun k i => slices_Compare_int_int.l0 k a b a (a.length : Int) (i : Int)) (fun i => cmpL (a.drop i) (b.drop i)) ?_ ?_ 0 (Nat.zero_le _)
  · simpa using this
  · refine ev_succ ?_
    simp only [slices_Compare_int_int.l0]
    refine ev_neg (by omega) ?_
    rw [drop_end]
    by_cases h : a.length < b.length
    · rw [List.drop_eq_getElem_cons h]; exact ev_pos (by omega) (Ev.now _)
    · rw [List.drop_of_length_le (by omega)]; exact ev_neg (by omega) (Ev.now _)
  · intro i hi ih
    refine ev_succ ?_
    simp only [slices_Compare_int_int.l0]
    refine ev_pos (by omega) (ev_pos (by omega) (ev_pos (by omega) ?_))
    by_cases h2 : i < b.length
    · refine ev_neg (by omega) (ev_pos (by omega) ?_)
      simp only [rd_get hi, rd_get h2, wrap_succ hi ha, cmpInt_eq, Option.bind_some]
      show Ev _ (cmpL (a.drop i) (b.drop i))
      rw [List.drop_eq_getElem_cons hi, List.drop_eq_getElem_cons h2]
      unfold cmpL
      by_cases e : a[i] = b[i]
      · rw [if_pos e, if_neg (by omega), if_neg (by omega)]; exact ev_pos rfl ih
      · rw [if_neg e]
        by_cases e2 : a[i] < b[i]
        · rw [if_pos e2, if_pos e2]; exact ev_neg (by decide) (Ev.now _)
        · rw [if_neg e2, if_neg e2, if_pos (by omega)]; exact ev_neg (by decide) (Ev.now _)
    · refine ev_pos (by omega) (ev_eqv (Ev.now _) ?_)
      show 1 = cmpL (a.drop i) (b.drop i)
      have hb : b.drop i = [] := List.drop_of_length_le (by omega)
      rw [List.drop_eq_getElem_cons hi, hb]; rfl
theorem rdL1_get {xs : List (List Int)} {i : Nat} (h : i < xs.length) : rd_L1 xs (i : Int) = xs[i] := by unfold rd_L1; rw [Int.toNat_natCast]; exact getD_get h
section
variable {α : Type} (lt : α → α → Bool)
def insL (x : α) : List α → List α
  | [] => [x]
  | y :: ys => if lt y x = true then y :: insL x ys else x :: y :: ys
def sortL (l : List α) : List α := l.foldl (fun out x => insL lt x out) []
theorem insL_perm (x : α) : ∀ l, (insL lt x l).Perm (x :: l)
  | [] => List.Perm.refl _
  | y :: ys => by
    unfold insL
    split
    · exact ((insL_perm x ys).cons y).trans (List.Perm.swap x y ys)
    · exact List.Perm.refl _
theorem foldl_perm : ∀ (l out : List α), (l.foldl (fun out x => insL lt x out) out).Perm (l ++ out)
  | [], out => List.Perm.refl _
  | x :: xs, out => by
    rw [List.foldl_cons]
    refine (foldl_perm xs _).trans ?_
    exact ((insL_perm lt x out).append_left xs).trans (List.perm_middle.trans (List.Perm.refl _))
theorem sortL_perm (l : List α) : (sortL lt l).Perm l := by
  have := foldl_perm lt l []
  rwa [List.append_nil] at this
variable (htr : ∀ a b c, lt a b = true → lt b c = true → lt a c = true) (hnt : ∀ a b c, lt a b = false → lt b c = false → lt a c = false) (has : ∀ a b, lt a b = true → lt b a = false)
include hnt has
theorem insL_sorted (x : α) : ∀ l : List α, l.Pairwise (fun a b => lt b a = false) → (insL lt x l).Pairwise (fun a b => lt b a = false)
  | [], _ => List.pairwise_singleton _ _
  | y :: ys, h => by
    rw [List.pairwise_cons] at h
    unfold insL
    split
    · rename_i hy
      rw [List.pairwise_cons]
      refine ⟨fun z hz => ?_, insL_sorted x ys h.2⟩
      rcases List.mem_cons.1 ((insL_perm lt x ys).mem_iff.1 hz) with rfl | hz
      · exact has _ _ hy
      · exact h.1 z hz
    · rename_i hy
      rw [Bool.not_eq_true] at hy
      rw [List.pairwise_cons]
      refine ⟨fun z hz => ?_, List.pairwise_cons.2 h⟩
      rcases List.mem_cons.1 hz with rfl | hz
      · exact hy
      · exact hnt _ _ _ (h.1 z hz) hy
theorem foldl_sorted : ∀ (l out : List α), out.Pairwise (fun a b => lt b a = false) → (l.foldl (fun out x => insL lt x out) out).Pairwise (fun a b => lt b a = false)
  | [], _, h => h
  | x :: xs, out, h => foldl_sorted xs _ (insL_sorted lt hnt has x out h)
theorem sortL_sorted (l : List α) : (sortL lt l).Pairwise (fun a b => lt b a = false) := foldl_sorted lt hnt has l [] List.Pairwise.nil
omit hnt has in
theorem sorted_unique (tot : ∀ a b, lt a b = false → lt b a = false → a = b) : ∀ {l1 l2 : List α}, l1.Perm l2 → l1.Pairwise (fun a b => lt b a = false) → l2.Pairwise (fun a b => lt b a = false) → l1 = l2
  | [], l2, hp, _, _ => (List.Perm.nil_eq hp)
  | x :: xs, [], hp, _, _ => by have := hp.length_eq; simp at this
  | x :: xs, y :: ys, hp, h1, h2 => by
    rw [List.pairwise_cons] at h1 h2
    have hxy : x = y := by
      rcases List.mem_cons.1 (hp.mem_iff.1 (List.mem_cons_self ..)) with e | hx
      · exact e
      · rcases List.mem_cons.1 (hp.mem_iff.2 (List.mem_cons_self ..)) with e | hy
        · exact e.symm
        · exact tot _ _ (h2.1 x hx) (h1.1 y hy)
    subst hxy
    rw [sorted_unique tot ((List.perm_cons x).1 hp) h1.2 h2.2]
theorem sortL_eq (tot : ∀ a b, lt a b = false → lt b a = false → a = b) {l t : List α} (hp : t.Perm l) (hs : t.Pairwise (fun a b => lt b a = false)) : t = sortL lt l :=
  sorted_unique lt tot (hp.trans (sortL_perm lt l).symm) hs (sortL_sorted lt hnt has l)
end
end Go.Proofs.Ytaacaifiiedoiaa.Q
end
section
namespace Go.Proofs.Ytaacaifiiedoiaa.Q
open Go.RowKit Go.Proofs.YtaacaifiiedoiaaW.PrintWords Go.Proofs.YtaacaifiiedoiaaW.PrintLast Go.Proofs.YtaacaifiiedoiaaW.PrintMore
set_option linter.unusedVariables false
set_option linter.unusedSimpArgs false
def ly116_ren : Go.Shelf.Ren := ⟨fun | 6 => 116 | 15 => 128 | 14 => 127 | 28 => 140 | 29 => 141 | 20 => 132 | 21 => 133 | 22 => 134 | 23 => 135 | 24 => 136 | 25 => 137 | 26 => 138 | 27 => 139 | 46 => 142 | 47 => 143 | 48 => 144 | 49 => 145 | 50 => 146 | 57 => 147 | n => n, fun | 22 => 22 | 24 => 71 | 25 => 82 | 3 => 3 | 39 => 107 | 0 => 0 | 53 => 113 | 55 => 115 | 4 => 4 | 46 => 118 | 45 => 117 | 50 => 122 | 5 => 5 | 9 => 9 | 66 => 124 | 70 => 128 | 76 => 130 | 77 => 131 | n => n, fun | n => n⟩
theorem ly116 : Go.Proofs.SlLaysF.n6 Try.prog ly116_ren := {
  mixed := by kernel_rfl
  f6 := ⟨Try.f116.name, by decide, Try.func116.trans (congrArg some (by kernel_rfl))⟩
  f14 := ⟨Try.f127.name, by decide, Try.func127.trans (congrArg some (by kernel_rfl))⟩
  f15 := Try.func128.trans (congrArg some (by kernel_rfl))
  f20 := ⟨Try.f132.name, by decide, Try.func132.trans (congrArg some (by kernel_rfl))⟩
  f21 := ⟨Try.f133.name, by decide, Try.func133.trans (congrArg some (by kernel_rfl))⟩
  f22 := ⟨Try.f134.name, by decide, Try.func134.trans (congrArg some (by kernel_rfl))⟩
  f23 := ⟨Try.f135.name, by decide, Try.func135.trans (congrArg some (by kernel_rfl))⟩
  f24 := ⟨Try.f136.name, by decide, Try.func136.trans (congrArg some (by kernel_rfl))⟩
  f25 := ⟨Try.f137.name, by decide, Try.func137.trans (congrArg some (by kernel_rfl))⟩
  f26 := ⟨Try.f138.name, by decide, Try.func138.trans (congrArg some (by kernel_rfl))⟩
  f27 := ⟨Try.f139.name, by decide, Try.func139.trans (congrArg some (by kernel_rfl))⟩
  f28 := Try.func140.trans (congrArg some (by kernel_rfl))
  f29 := Try.func141.trans (congrArg some (by kernel_rfl))
  f46 := ⟨Try.f142.name, by decide, Try.func142.trans (congrArg some (by kernel_rfl))⟩
  f47 := Try.func143.trans (congrArg some (by kernel_rfl))
  f48 := Try.func144.trans (congrArg some (by kernel_rfl))
  f49 := ⟨Try.f145.name, by decide, Try.func145.trans (congrArg some (by kernel_rfl))⟩
  f50 := ⟨Try.f146.name, by decide, Try.func146.trans (congrArg some (by kernel_rfl))⟩
  f57 := ⟨Try.f147.name, by decide, Try.func147.trans (congrArg some (by kernel_rfl))⟩
  t0 := Try.underlying0
  a0 := Try.isAgg0
  z0 := Try.sizeOf0
  v0 := Try.zeroValue0
  t3 := Try.underlying3
  a3 := Try.isAgg3
  z3 := Try.sizeOf3
  v3 := Try.zeroValue3
  t4 := Try.underlying4
  a4 := Try.isAgg4
  z4 := Try.sizeOf4
  v4 := Try.zeroValue4
  t5 := Try.underlying5
  a5 := Try.isAgg5
  z5 := Try.sizeOf5
  v5 := Try.zeroValue5
  t9 := Try.underlying9
  a9 := Try.isAgg9
  z9 := Try.sizeOf9
  v9 := Try.zeroValue9
  t22 := Try.underlying22
  a22 := Try.isAgg22
  z22 := Try.sizeOf22
  v22 := Try.zeroValue22
  a24 := Try.isAgg71
  z24 := Try.sizeOf71
  t25 := Try.underlying82
  a25 := Try.isAgg82
  z25 := Try.sizeOf82
  v25 := Try.zeroValue82
  t39 := Try.underlying107
  a39 := Try.isAgg107
  z39 := Try.sizeOf107
  v39 := Try.zeroValue107
  t45 := Try.underlying117
  a45 := Try.isAgg117
  z45 := Try.sizeOf117
  v45 := Try.zeroValue117
  t46 := Try.underlying118
  a46 := Try.isAgg118
  z46 := Try.sizeOf118
  v46 := Try.zeroValue118
  t50 := Try.underlying122
  a50 := Try.isAgg122
  z50 := Try.sizeOf122
  v50 := Try.zeroValue122
  t53 := Try.underlying113
  a53 := Try.isAgg113
  z53 := Try.sizeOf113
  v53 := Try.zeroValue113
  t55 := Try.underlying115
  a55 := Try.isAgg115
  z55 := Try.sizeOf115
  v55 := Try.zeroValue115
  t66 := Try.underlying124
  a66 := Try.isAgg124
  z66 := Try.sizeOf124
  v66 := Try.zeroValue124
  t70 := Try.underlying128
  a70 := Try.isAgg128
  z70 := Try.sizeOf128
  v70 := Try.zeroValue128
  t76 := Try.underlying130
  a76 := Try.isAgg130
  z76 := Try.sizeOf130
  v76 := Try.zeroValue130
  t77 := Try.underlying131
  a77 := Try.isAgg131
  z77 := Try.sizeOf131
  v77 := Try.zeroValue131 }
open Go.Shelf Go.Lib Go.Sort
section
variable {α : Type} [Inhabited α]
theorem holds_of_block (enc : α → Value) {w : World} {g : Nat} {cur : Array Value} {e : TypeId} {ss : List α} (hb : w.heap[g]? = some (.cells cur e (0, 0))) (ht : cur.toList.take ss.length = ss.map enc) : Holds enc w g 0 ss.toArray := by
  intro j hj
  have hj' : j < ss.length := by simpa using hj
  refine ⟨?_, by simp [World.frozen?, hb]⟩
  have h1 : (cur.toList.take ss.length)[j]? = (ss.map enc)[j]? := by rw [ht]
  rw [List.getElem?_take_of_lt hj'] at h1
  simp only [World.cell?, hb, Nat.zero_add]
  simp only [Option.isSome_none, Bool.false_eq_true, if_false]
  rw [← Array.getElem?_toList, h1]
  simp [hj']
theorem heap_sorted (enc : α → Value) {w : World} {g n : Nat} {os : Array Obj} {cur : Array Value} {e : TypeId} {fr : Nat × Nat} (d : Array α) (hb : w.heap[g]? = some (.cells cur e fr)) :
    (sortWorld enc w g 0 n d os).heap[g]? = some (.cells (putCells enc 0 d cur) e fr) := by
  have hg : g < w.heap.size := (Array.getElem?_eq_some_iff.1 hb).1
  unfold sortWorld
  rw [Go.Sort.heap_grow_old _ _ (by simpa using hg)]
  simp [putRow, mapBlock, Sort.ahead, Array.getElem?_modify, hb, onCells]
theorem grownBy_sorted (enc : α → Value) {w : World} {g n : Nat} {os : Array Obj} (d : Array α) : w.grownBy (sortWorld enc w g 0 n d os) (some g) := by
  unfold sortWorld
  refine ⟨rfl, rfl, rfl, by simp, fun k hk hne => ?_⟩
  rw [Go.Sort.heap_grow_old _ _ (by simpa using hk)]
  have : g ≠ k := fun e => hne (by rw [e])
  simp [putRow, mapBlock, Sort.ahead, Array.getElem?_modify, this]
theorem take_putCells (enc : α → Value) (cur : Array Value) (ts : List α) (h : ts.length ≤ cur.size) : (putCells enc 0 ts.toArray cur).toList.take ts.length = ts.map enc := by
  apply List.ext_getElem?
  intro j
  by_cases hj : j < ts.length
  · rw [List.getElem?_take_of_lt hj, Array.getElem?_toList]
    simp [putCells, hj, show j < cur.size by omega]
  · rw [List.getElem?_take_eq_none (by omega), List.getElem?_eq_none (by simp; omega)]
theorem ownsRow_sorted (enc : α → Value) {w : World} {base g cap n : Nat} {e : TypeId} {os : Array Obj} {cur : Array Value} {ts : List α} (hbase : base ≤ g) (hb : w.heap[g]? = some (.cells cur e (0, 0)))
    (h1 : ts.length ≤ cap) (h2 : cap ≤ maxLen) (h3 : cur.size = cap * 1) :
    (sortWorld enc w g 0 n ts.toArray os).ownsRow base e 1 (.slice (some ⟨g, 0, none⟩) ts.length cap) ts.length (ts.map enc) :=
  ⟨by simp, .inr ⟨g, cap, _, rfl, hbase, heap_sorted enc _ hb, h1, h2, by simp [putCells, h3], by rw [Nat.mul_one]; exact take_putCells enc cur ts (by omega)⟩⟩
theorem perm_of_PermIn {d d' : Array α} (h : PermIn 0 d.size d d') : d'.toList.Perm d.toList := by
  have h1 := h.2.2
  have e1 : d.extract 0 d.size = d := by simp
  have e2 : d'.extract 0 d.size = d' := by rw [← h.1]; simp
  rw [e1, e2] at h1
  exact h1
theorem pairwise_of_SortedIn {lt : α → α → Bool} {d : Array α} (h : SortedIn lt 0 d.size d) : d.toList.Pairwise (fun a b => lt b a = false) := by
  rw [List.pairwise_iff_getElem]
  intro i j hi hj hij
  have h1 := h i j (Nat.zero_le _) hij (by simpa using hj)
  rwa [getElem!_pos d j (by simpa using hj), getElem!_pos d i (by simpa using hi)] at h1
end
structure QS (W : World) (okq : Nat → Prop) (f : Nat → Nat) (base : Nat) where
  v : Value
  l : List Int
  j : Nat
  hM : Kd.R (Kd.int .i64) 3 W base (fun k => okq k ∧ f k = j) v l
  hl : l.length ≤ 1152921504606846976
instance {W okq f base} : Inhabited (QS W okq f base) := ⟨⟨.slice none 0 0, [], 0, Kd.R_nil _ _ _ _ _, by simp⟩⟩
def sortSets.f (l : List (List Int)) : Option (List (List Int)) := if (decide (l.length < 4611686018427387904) && l.all fun x => decide (x.length ≤ 1152921504606846976)) = true then some (sortL lexB l) else none
theorem cmp_lays (W : World) (okq : Nat → Prop) (f : Nat → Nat) (base g n : Nat) (hg : ∀ k, okq k → k ≠ g) :
    CmpLays1 Try.prog 71 #[] (fun q : QS W okq f base => q.v) (fun x y => cmpL x.l y.l) g 0 n W := by
  intro m os dk hs x y
  have hgr := grownBy_sorted (fun q : QS W okq f base => q.v) (w := W) (g := g) (n := m) (os := os) dk
  generalize hw : sortWorld (fun q : QS W okq f base => q.v) W g 0 m dk os = wS at hgr
  have hx := Kd.R_grown x.hM hgr (fun k hk e => hg k hk.1 (by injection e))
  have hy := Kd.R_grown y.hM hgr (fun k hk e => hg k hk.1 (by injection e))
  obtain ⟨A, c, hxv, hxl, hxC⟩ := Kd.R_reads hx
  obtain ⟨B, d, hyv, hyl, hyC⟩ := Kd.R_reads hy
  obtain ⟨k, hk⟩ := Compare_ev x.l y.l x.hl
  have := slices_Compare_int_int.calls k A c x.l B d y.l _ wS hxC hxl hyC hyl (hk k (Nat.le_refl _))
  show Calls Try.prog 71 #[x.v, y.v] wS _
  rw [hxv, hyv]
  refine this.mono ?_
  rintro e w' ⟨rfl, ⟨q, rfl⟩⟩
  exact ⟨rfl, q, #[], by rw [grow_empty]⟩
theorem swo_lex {W okq f base} : SWO (ltOf (fun x y : QS W okq f base => cmpL x.l y.l)) where
  irrefl x := by unfold ltOf; rw [cmpL_lt]; exact lexB_irrefl _
  trans x y z h1 h2 := by unfold ltOf at *; rw [cmpL_lt] at *; exact lexB_trans _ _ _ h1 h2
  ntrans x y z h1 h2 := by unfold ltOf at *; rw [cmpL_lt] at *; exact lexB_ntrans _ _ _ h1 h2
theorem sortSets.calls (l t : List (List Int)) (A : Option Addr) (c base : Nat) (ok : Nat → Prop) (w : World) (hS : Kd.S (Kd.slice 3 (Kd.int .i64)) 71 w base ok (.slice A l.length c) l) (h : sortSets.f l = some t) :
    Calls Try.prog 116 #[.slice A l.length c, .func (.func 71) #[] #[]] w fun e w' =>
      e = .returned (.tuple #[]) ∧ Kd.S (Kd.slice 3 (Kd.int .i64)) 71 w' base ok (.slice A l.length c) t ∧ t.length = l.length ∧ w.grownBy w' (Value.slice A l.length c).ownBlock := by
  unfold sortSets.f at h
  split at h
  · rename_i hall
    rw [Bool.and_eq_true, decide_eq_true_eq] at hall
    obtain ⟨hsz, hall⟩ := hall
    injection h with h
    subst h
    have hlen : (sortL lexB l).length = l.length := (sortL_perm lexB l).length_eq
    by_cases h0 : l.length = 0
    · have hl0 := List.length_eq_zero_iff.1 h0
      subst hl0
      have hcon := AnyF.slices_SortFunc_none { ly116 with } A c (.func (.func 71) #[] #[]) w
      change Calls Try.prog 116 _ _ _ at hcon
      refine hcon.mono ?_
      rintro e w' ⟨rfl, rfl⟩
      exact ⟨rfl, hS, rfl, ⟨rfl, rfl, rfl, Nat.le_refl _, fun _ _ _ => rfl⟩⟩
    · obtain ⟨f, hok, inner, ho, hr⟩ := hS
      rw [List.length_zipIdx] at ho
      rcases ho.2 with ⟨hv, hn⟩ | ⟨g, cap, cur, hv, hbase, hb, h1, h2, h3, h4⟩
      · exact absurd hn h0
      · injection hv with hA _ hc
        subst hA; subst hc
        have hil : inner.length = l.length := by
          have := ho.1
          change inner.length = l.length * 1 at this
          omega
        change cur.size = c * 1 at h3
        change cur.toList.take (l.length * 1) = inner at h4
        rw [Nat.mul_one] at h4
        have key : ∀ j : Nat, ∃ q : QS w (fun k => ok k ∧ k ≠ g) f base, j < l.length → q.l = l.getD j [] ∧ q.j = j ∧ inner[j]? = some q.v := by
          intro j
          by_cases hj : j < l.length
          · have hp := hr.2 j _ (Kd.zip_at (List.getElem?_eq_getElem hj))
            obtain ⟨v, hv, hR⟩ := hp
            refine ⟨⟨v, l[j], j, Kd.R_mono hR (fun k hk => ⟨⟨hk.1.1, fun e => hk.1.2 (by rw [e]; rfl)⟩, hk.2⟩), ?_⟩, fun _ => ⟨?_, rfl, ?_⟩⟩
            · exact of_decide_eq_true (List.all_eq_true.1 hall _ (List.getElem_mem hj))
            · rw [List.getD_eq_getElem?_getD, List.getElem?_eq_getElem hj]; rfl
            · have hx := congrArg (fun z => z[0]?) hv
              simpa [show (Kd.tag f (Kd.slice 3 (Kd.int .i64))).sz = 1 from rfl, List.getElem?_take, List.getElem?_drop] using hx
          · exact ⟨default, fun e => absurd e hj⟩
        obtain ⟨fq, hfq⟩ := Classical.axiomOfChoice key
        obtain ⟨ss, hss⟩ : ∃ ss, ss = (List.range l.length).map fq := ⟨_, rfl⟩
        have hsl : ss.length = l.length := by rw [hss]; simp
        have hget : ∀ j (hj : j < ss.length), ss[j] = fq j := fun j hj => by simp [hss]
        have hinn : inner = ss.map QS.v := by
          refine List.ext_getElem? fun j => ?_
          by_cases hj : j < l.length
          · rw [(hfq j hj).2.2, List.getElem?_map, List.getElem?_eq_getElem (by omega), hget]; rfl
          · rw [List.getElem?_eq_none (by omega), List.getElem?_eq_none (by rw [List.length_map]; omega)]
        have hsll : ss.map QS.l = l := by
          refine List.ext_getElem (by rw [List.length_map]; exact hsl) fun j h1 h2 => ?_
          rw [List.getElem_map, hget, (hfq j h2).1, List.getD_eq_getElem?_getD, List.getElem?_eq_getElem h2]; rfl
        have hsj : ss.map QS.j = List.range l.length := by
          refine List.ext_getElem (by rw [List.length_map, List.length_range]; exact hsl) fun j h1 h2 => ?_
          rw [List.getElem_map, hget, (hfq j (by simpa using h2)).2.1, List.getElem_range]
        have hH : Holds QS.v w g 0 ss.toArray := holds_of_block QS.v hb (by rw [hsl, h4, hinn])
        have eg : ∀ args w, (callFunc 71 args).run Try.prog w = .ok (.enter 71 args) w := enters_of Try.func71 (by kernel_rfl) rfl
        have hcon := Any.slices_SortFunc ly116 QS.v (fun q => (Kd.R_val q.hM).2) (fun x y => cmpL x.l y.l) swo_lex 71 #[] g 0 c ss.toArray w eg (cmp_lays w _ f base g _ (fun k hk => hk.2)) hH (Array.getElem?_eq_some_iff.1 hb).1 (by simpa [hsl] using hsz)
        change Calls Try.prog 116 _ _ _ at hcon
        rw [List.size_toArray, hsl] at hcon
        refine hcon.mono ?_
        rintro e w' ⟨rfl, d', n, os, hp, hs, rfl⟩
        obtain ⟨ts, rfl⟩ : ∃ ts : List _, d' = ts.toArray := ⟨d'.toList, rfl⟩
        have hgr := grownBy_sorted QS.v (w := w) (g := g) (n := n) (os := os) ts.toArray
        have hperm : ts.Perm ss := perm_of_PermIn (d := ss.toArray) (by simpa [hsl] using hp)
        have htl : ts.length = l.length := by rw [hperm.length_eq, hsl]
        have hsort : ts.Pairwise (fun a b => ltOf (fun x y : QS w _ f base => cmpL x.l y.l) b a = false) := pairwise_of_SortedIn (d := ts.toArray) (by simpa [htl] using hs)
        have ht : ts.map QS.l = sortL lexB l := by
          refine sortL_eq lexB lexB_ntrans (fun _ _ => lexB_asymm) lexB_total ?_ ?_
          · rw [← hsll]; exact hperm.map QS.l
          · rw [List.pairwise_map]
            refine hsort.imp fun h => ?_
            unfold ltOf at h
            rwa [cmpL_lt] at h
        rw [← ht]
        have hnd : (ts.map QS.j).Nodup := by
          refine (hperm.map QS.j).nodup_iff.2 ?_
          rw [hsj]; exact List.nodup_range
        have hblk : ∀ k, (ok k ∧ k ≠ g) → some k ≠ some g := fun k hk e => hk.2 (by injection e)
        refine ⟨rfl, ⟨fun k => (ts.map QS.j).idxOf (f k), hok, ts.map QS.v, ?_, ?_, fun j p hj => ?_⟩, by rw [List.length_map]; exact htl, hgr⟩
        · rw [List.length_zipIdx, List.length_map, htl]
          have := ownsRow_sorted QS.v (w := w) (base := base) (g := g) (cap := c) (n := n) (e := 71) (os := os) (ts := ts) hbase hb (by omega) h2 h3
          rwa [htl] at this
        · rw [List.length_map, List.length_zipIdx, List.length_map]; exact (Nat.mul_one _).symm
        · rw [List.getElem?_zipIdx, List.getElem?_map, Nat.zero_add] at hj
          obtain ⟨x, hx, rfl⟩ := Option.map_eq_some_iff.1 hj
          obtain ⟨q, hq, rfl⟩ := Option.map_eq_some_iff.1 hx
          obtain ⟨hjl, hqe⟩ := List.getElem?_eq_some_iff.1 hq
          show ∃ v, _ ∧ _
          refine ⟨q.v, ?_, ?_⟩
          · refine List.ext_getElem? fun i => ?_
            rw [show (Kd.tag (fun k => (ts.map QS.j).idxOf (f k)) (Kd.slice 3 (Kd.int .i64))).sz = 1 from rfl, Nat.mul_one]
            cases i with
            | zero => rw [List.getElem?_take_of_lt (by omega), List.getElem?_drop, List.getElem?_map, Nat.add_zero, hq]; rfl
            | succ i => rw [List.getElem?_eq_none (by rw [List.length_take]; omega), List.getElem?_eq_none (by simp)]
          · refine Kd.R_mono (Kd.R_grown q.hM hgr (fun k hk => hblk k hk.1)) (fun k hk => ⟨⟨hk.1.1, ?_⟩, ?_⟩)
            · exact fun e => hk.1.2 (by injection e)
            · show (ts.map QS.j).idxOf (f k) = j
              rw [hk.2, ← hqe, show ts[j].j = (ts.map QS.j)[j]'(by rw [List.length_map]; exact hjl) from by rw [List.getElem_map]]
              exact hnd.idxOf_getElem j _
  · cases h
end Go.Proofs.Ytaacaifiiedoiaa.Q
end
section
namespace Go.Proofs.Ytaacaifiiedoiaa.Q
open Go.RowKit Go.Proofs.YtaacaifiiedoiaaW.PrintWords Go.Proofs.YtaacaifiiedoiaaW.PrintLast Go.Proofs.YtaacaifiiedoiaaW.PrintMore
attribute [local go_sem] max2_int min2_int max_two min_two max_three min_three max_four min_four
set_option linter.unusedVariables false
set_option linter.unusedSimpArgs false
section
variable (a1 : Int → Option Bool)
def impl_votes_sets.l0 : Nat → List (List Int) → Int → Int → Option ((List (List Int)))
 | 0, _, _, _ => none
 | k + 1, x5, x10, x11 => if x11 < x10 then ((a1 x11).bind fun t463 => (if t463 = true then ((impl_setOf.f k x11).bind fun t464 => (if x5.length < 5864062014805 then (impl_votes_sets.l0 k (x5 ++ [t464]) x10 (wrap64 (x11 + 1))) else (none))) else (impl_votes_sets.l0 k x5 x10 (wrap64 (x11 + 1))))) else ((sortSets.f x5).bind fun t_ => (some t_))
def impl_votes_sets.f (k : Nat) (a0_0 : Int) (l0_1 : List Bool) (a1 : Int → Option Bool) : Option ((List (List Int))) := impl_votes_sets.l0 a1 k (([] : List (List Int))) (l0_1.length : Int) 0
set_option maxHeartbeats 8000000 in
set_option maxRecDepth 100000 in
theorem impl_votes_sets.calls (k : Nat) (a0_0 : Int) (A0_1 : Option Addr) (c0_1 : Nat) (l0_1 : List Bool) (a1 : Int → Option Bool) (g_ : Nat) (fa_ lb_ : Array Value) (eg_ : ∀ args w, (callFunc g_ args).run Try.prog w = .ok (.enter g_ args) w) (r : List (List Int)) (w : World) (hp0_ : PredI Try.prog g_ fa_ lb_ w a1) (hr0_1 : Kd.C Kd.bool w A0_1 l0_1.length l0_1) (hc0_1 : l0_1.length ≤ c0_1) (h : impl_votes_sets.f k a0_0 l0_1 a1 = some r) :
  Calls Try.prog 87 #[.agg #[.int .i64 a0_0, .slice A0_1 l0_1.length c0_1], .func (.func g_) fa_ lb_] w fun e w' => ∃ v0_ : Value, e = .returned (v0_) ∧ Kd.S (Kd.slice 3 (Kd.int .i64)) 71 w' w.heap.size (fun _ => True) v0_ r ∧ Below w.heap.size w w' := by
 have hp_ := Aside0.mk hp0_
 clear hp0_
 have hu62 := Try.underlying62
 have HR0_1 := Aside0.mk hr0_1
 have HC0_1 := Aside0.mk hc0_1
 clear hr0_1 hc0_1
 have HB := Aside0.mk (Below.refl w.heap.size w)
 have H : (impl_votes_sets.l0 a1 k (([] : List (List Int))) (l0_1.length : Int) 0) = some r := h
 clear h
 obtain ⟨y460, hy460⟩ : ∃ y_ : List (List Int), y_ = (([] : List (List Int))) := ⟨_, rfl⟩
 replace H : (impl_votes_sets.l0 a1 k y460 (l0_1.length : Int) 0) = some r := by first | (rw [hy460]; with_reducible exact H) | (have H2_ := (Option.bind_some _ _).symm.trans H; rw [hy460]; with_reducible exact H2_) | (have H2_ := (Option.bind_some _ _).symm.trans H; with_reducible exact H2_) | with_reducible exact H | (rw [hy460]; exact H) | exact H
 have Ny460 := Aside0.mk hy460
 clear hy460
 have H' := Aside0.mk H
 clear H
 go_enter Try.func87, Try.ntmps87
 go_wp2_with (first | ((with_reducible refine gate_dst (N := 2) rfl ?_); refine box_event ?hg (N := 2) ?hd (cs := #[.int .i64 a0_0, .slice A0_1 l0_1.length c0_1]) (t := 62) ?hr ?_; (case hd => rfl); (case hg => rfl); (case hr => first | (go_simp; done) | (go_simp; rfl)); intro gb459 hg w3 hbox hb; have n2_ := Aside0.mk ((by rw [hg]; exact (below_size (zh HB.out)) : w.heap.size ≤ gb459)); replace HB := Aside0.mk (below_step (zh HB.out) hb); have BK459 := Aside0.mk hbox; have GW459 := n2_; have GE459 := n2_; clear n2_ hb hbox hg) | ((with_reducible refine gate_dst (N := 7) rfl ?_); refine Kd.S_lit (Kd.slice 3 (Kd.int .i64)) _ 71 ?hg (N := 7) ?hd (xs := ([] : List (List Int))) (inner := []) (ok := fun _ => True) (okp := fun _ => True) ?hr ?hp (fun _ hk => hk) trivial (Below.refl _ _) (Nat.le_refl _) (by simp) ?_; (case hd => rfl); (case hg => rfl); (case hr => first | (go_simp; done) | (go_simp; rfl)); (case hp => exact (Reps.none _ _)); intro v461 w4 ho5 hb hg_ hnew_; clear hg_ hnew_; (first | rw [← Ny460.out] at ho5 | (simp only [Int.reduceToNat] at ho5; rw [← Ny460.out] at ho5)); have n0_ := Aside0.mk (Kd.S_lower ho5 (below_size (zh HB.out))); have n1_ := Aside0.mk (blk_below (g := gb459) (o := .cells #[.int .i64 a0_0, .slice A0_1 l0_1.length c0_1] 62 (0, 0)) (zb BK459.out) hb); have n2_ := Aside0.mk (below_step (zh HB.out) hb); clear BK459; clear HB; have HO462 := n0_; have BK459 := n1_; have HB := n2_; clear n0_ n1_ n2_; clear hb ho5; have hcz6_0 : w4.cell? ⟨gb459, 0, none⟩ = some (.int .i64 a0_0) := (blk_cell BK459.out 0).trans rfl; have hcz6_1 : w4.cell? ⟨gb459, 1, none⟩ = some (.slice A0_1 l0_1.length c0_1) := (blk_cell BK459.out 1).trans rfl; have hfz6_0 := blk_frozen BK459.out 0; have hfz6_1 := blk_frozen BK459.out 1))
 go_loopg [5, 11] k (fun kq v5 v11 w' => ∃ (x5_1 : List (List Int)) (x11_1 : Int), v11 = .int .i64 x11_1 ∧ Aside0 (impl_votes_sets.l0 a1 kq x5_1 (l0_1.length : Int) x11_1 = some r) ∧ Aside0 (kq ≤ k) ∧ Aside0 (Kd.S (Kd.slice 3 (Kd.int .i64)) 71 w' w.heap.size (fun _ => True) v5 x5_1) ∧ Aside0 (w'.heap[gb459]? = some (.cells #[.int .i64 a0_0, (.slice A0_1 l0_1.length c0_1)] 62 (0, 0))) ∧ Aside0 (Below w.heap.size w w'))
 case atStart => exact ⟨(y460), (0), (by first | rfl | (simp; done) | (simp [*]; done)), H', ⟨Nat.le_refl _⟩, ⟨by (with_reducible repeat (first | apply Kd.S_alloc | apply Kd.S_drewN | apply Kd.S_drew)); exact HO462.out⟩, ⟨zb BK459.out⟩, ⟨zh HB.out⟩⟩
 case round =>
  clear H'
  try clear p2
  try clear hcz6_0
  try clear hcz6_1
  try clear hfz6_0
  try clear hfz6_1
  obtain ⟨x5_1, x11_1, rfl, HA, HK1, HO_5, BK459, HB⟩ := hrel
  cases gk with
  | zero => exact absurd HA.out (by simp [impl_votes_sets.l0])
  | succ k1 =>
   have H := HA.out
   clear HA
   simp only [impl_votes_sets.l0] at H
   by_cases c7 : x11_1 < (l0_1.length : Int)
   ·rw [if_pos c7] at H
    have c7b0 : decide (x11_1 < (l0_1.length : Int)) = true := decide_eq_true c7
    clear c7
    replace H := Option.bind_eq_some_iff.mp H
    obtain ⟨t463, A80, H⟩ := H
    replace H : (if t463 = true then ((impl_setOf.f k1 x11_1).bind fun t464 => (if x5_1.length < 5864062014805 then (impl_votes_sets.l0 a1 k1 (x5_1 ++ [t464]) (l0_1.length : Int) (wrap64 (x11_1 + 1))) else (none))) else (impl_votes_sets.l0 a1 k1 x5_1 (l0_1.length : Int) (wrap64 (x11_1 + 1)))) = some r := H
    have A8 := Aside0.mk A80
    clear A80
    by_cases c9 : t463 = true
    ·subst c9
     have H1 : ((impl_setOf.f k1 x11_1).bind fun t464 => (if x5_1.length < 5864062014805 then (impl_votes_sets.l0 a1 k1 (x5_1 ++ [t464]) (l0_1.length : Int) (wrap64 (x11_1 + 1))) else (none))) = some r := by rw [if_pos rfl] at H; exact H
     clear H
     have H := H1
     clear H1
     replace H := Option.bind_eq_some_iff.mp H
     obtain ⟨t464, A100, H⟩ := H
     replace H : (if x5_1.length < 5864062014805 then (impl_votes_sets.l0 a1 k1 (x5_1 ++ [t464]) (l0_1.length : Int) (wrap64 (x11_1 + 1))) else (none)) = some r := H
     have A10 := Aside0.mk A100
     clear A100
     by_cases c11 : x5_1.length < 5864062014805
     ·rw [if_pos c11] at H
      have LMc11 := Aside0.mk c11
      clear c11
      obtain ⟨y467, hy467⟩ : ∃ y_ : List (List Int), y_ = (x5_1 ++ [t464]) := ⟨_, rfl⟩
      replace H : (impl_votes_sets.l0 a1 k1 y467 (l0_1.length : Int) (wrap64 (x11_1 + 1))) = some r := by first | (rw [hy467]; with_reducible exact H) | (have H2_ := (Option.bind_some _ _).symm.trans H; rw [hy467]; with_reducible exact H2_) | (have H2_ := (Option.bind_some _ _).symm.trans H; with_reducible exact H2_) | with_reducible exact H | (rw [hy467]; exact H) | exact H
      have Ny467 := Aside0.mk hy467
      clear hy467
      have H' := Aside0.mk H
      clear H
      go_wp2_with (first | ((with_reducible refine gate_dst (N := 16) rfl ?_); refine goesLF_ (some 16) rfl rfl eg_ (by rfl) #[.int .i64 x11_1] rfl (by (try simp only [List.map_toArray, List.map_cons, List.map_nil]); first | done | rfl | (simp only [List.length_drop, List.length_take]; rfl)) ?_; (with_reducible refine (hp_.out _ x11_1 true (zh HB.out) A8.out).mono ?_); rintro e w12 ⟨rfl, hb⟩; refine ⟨_, rfl, ?_⟩; have n0_ := Aside0.mk (Kd.S_below (by (with_reducible repeat (first | apply Kd.S_alloc | apply Kd.S_drewN | apply Kd.S_drew)); exact HO_5.out) hb); have n1_ := Aside0.mk (blk_below (g := gb459) (o := .cells #[.int .i64 a0_0, .slice A0_1 l0_1.length c0_1] 62 (0, 0)) (zb BK459.out) hb); have n2_ := Aside0.mk (below_step (zh HB.out) hb); clear HO_5; clear BK459; clear HB; have HO_5 := n0_; have BK459 := n1_; have HB := n2_; clear n0_ n1_ n2_; (try clear hb); (try clear hb2); (try clear hk); (try clear hi)) | ((with_reducible refine gate_callee (f := 115) rfl ?_); refine goesL_ (some 19) rfl rfl Try.func115 (by kernel_rfl) rfl #[.int .i64 x11_1] rfl (by (try simp only [List.map_toArray, List.map_cons, List.map_nil]); first | done | rfl | (simp only [List.length_drop, List.length_take]; rfl)) ?_; (with_reducible refine (impl_setOf.calls k1 x11_1 t464 _ A10.out).mono ?_); rintro e w13 ⟨v465, rfl, ho0, hb⟩; refine ⟨_, rfl, ?_⟩; have n0_ := Aside0.mk (Kd.S_elder' (by (with_reducible repeat (first | apply Kd.S_alloc | apply Kd.S_drewN | apply Kd.S_drew)); exact HO_5.out) (Kd.R_base ho0) hb); have n1_ := Aside0.mk (Kd.R_lower ho0 (below_size (zh HB.out))); have n2_ := Aside0.mk (blk_below (g := gb459) (o := .cells #[.int .i64 a0_0, .slice A0_1 l0_1.length c0_1] 62 (0, 0)) (zb BK459.out) hb); have n3_ := Aside0.mk (below_step (zh HB.out) hb); clear HO_5; clear BK459; clear HB; have HO_5 := n0_; have HO466 := n1_; have BK459 := n2_; have HB := n3_; clear n0_ n1_ n2_ n3_; (try clear hb); (try clear hb2); (try clear hk); (try clear hi); (try clear ho0); obtain ⟨Ao15, co15, eo15⟩ := Kd.R_slice HO466.out; subst eo15) | ((with_reducible refine gate_builtin (b := .append) (xs := #[.tmp 17, .tmp 20]) rfl ?_); at_builtin; refine Kd.S_append (Kd.slice 3 (Kd.int .i64)) (w0 := w) w.heap.size rfl (.tmp 17) (.tmp 20) 22 71 (.slice none 0 0) 24 rfl Try.underlying22 info71 rfl (by decide) (by omega) u5 x5_1 t464 [.slice Ao15 t464.length co15] (fun _ => True) (fun k_ => some k_ = (.slice Ao15 t464.length co15 : Value).ownBlock) rfl rfl ?aP (fun k_ hk_ => ((Kd.R_mono (ok' := fun k_ => ((fun _ => True)) k_ ∧ some k_ ≠ (u5 : Value).ownBlock) (Kd.R_apart' (HO466.out) (Kd.S_typed HO_5.out) (by decide)) (fun k_ hk => ⟨trivial, hk.2⟩))).1 k_ hk_.symm) ?aF ?aO ?aB ?aS ?aL ?_; (case aP => exact Kd.M_row (Kd.R_mono (Kd.R_tight rfl (Kd.R_mono (ok' := fun k_ => ((fun _ => True)) k_ ∧ some k_ ≠ (u5 : Value).ownBlock) (Kd.R_apart' (HO466.out) (Kd.S_typed HO_5.out) (by decide)) (fun k_ hk => ⟨trivial, hk.2⟩))) (fun _ h_ => h_))); (case aB => exact (zh HB.out)); (case aF => exact (fun _ _ => trivial)); (case aO => exact (by (with_reducible repeat (first | apply Kd.S_alloc | apply Kd.S_drewN | apply Kd.S_drew)); exact Kd.S_mono HO_5.out (fun k_ hk => ⟨trivial, fun e_ => hk.2 e_⟩))); (case aS => exact (below_size (zh HB.out))); (case aL => have := LMc11.out; omega); intro v468 w14 ho hb hg hat; rw [← Ny467.out] at ho; have n0_ := Aside0.mk (blk_grown (g := gb459) (o := .cells #[.int .i64 a0_0, .slice A0_1 l0_1.length c0_1] 62 (0, 0)) (zb BK459.out) hg (Kd.S_ne HO_5.out BK459.out (by decide))); have n1_ := Aside0.mk (hb); have n2_ := Aside0.mk (ho); clear BK459; clear HB; clear HO_5; clear HO466; have BK459 := n0_; have HB := n1_; have HO469 := n2_; clear n0_ n1_ n2_; clear ho hb hg hat))
      go_roundg k1
      case measure => have := HK1.out; omega
      case rel => exact ⟨(y467), (wrap64 (x11_1 + 1)), (by first | rfl | (simp; done) | (simp [*]; done)), H', ⟨by have := HK1.out; omega⟩, ⟨by (with_reducible repeat (first | apply Kd.S_alloc | apply Kd.S_drewN | apply Kd.S_drew)); exact HO469.out⟩, ⟨zb BK459.out⟩, ⟨zh HB.out⟩⟩
     ·rw [if_neg c11] at H
      exact absurd H (by simp)
    ·replace c9 := Bool.eq_false_iff.mpr c9
     subst c9
     have H1 : (impl_votes_sets.l0 a1 k1 x5_1 (l0_1.length : Int) (wrap64 (x11_1 + 1))) = some r := by rw [if_neg (show ¬ (false = true) by decide)] at H; exact H
     clear H
     have H := H1
     clear H1
     have H' := Aside0.mk H
     clear H
     go_wp2_with (first | ((with_reducible refine gate_dst (N := 16) rfl ?_); refine goesLF_ (some 16) rfl rfl eg_ (by rfl) #[.int .i64 x11_1] rfl (by (try simp only [List.map_toArray, List.map_cons, List.map_nil]); first | done | rfl | (simp only [List.length_drop, List.length_take]; rfl)) ?_; (with_reducible refine (hp_.out _ x11_1 false (zh HB.out) A8.out).mono ?_); rintro e w16 ⟨rfl, hb⟩; refine ⟨_, rfl, ?_⟩; have n0_ := Aside0.mk (Kd.S_below (by (with_reducible repeat (first | apply Kd.S_alloc | apply Kd.S_drewN | apply Kd.S_drew)); exact HO_5.out) hb); have n1_ := Aside0.mk (blk_below (g := gb459) (o := .cells #[.int .i64 a0_0, .slice A0_1 l0_1.length c0_1] 62 (0, 0)) (zb BK459.out) hb); have n2_ := Aside0.mk (below_step (zh HB.out) hb); clear HO_5; clear BK459; clear HB; have HO_5 := n0_; have BK459 := n1_; have HB := n2_; clear n0_ n1_ n2_; (try clear hb); (try clear hb2); (try clear hk); (try clear hi)))
     go_roundg k1
     case measure => have := HK1.out; omega
     case rel => exact ⟨(x5_1), (wrap64 (x11_1 + 1)), (by first | rfl | (simp; done) | (simp [*]; done)), H', ⟨by have := HK1.out; omega⟩, ⟨by (with_reducible repeat (first | apply Kd.S_alloc | apply Kd.S_drewN | apply Kd.S_drew)); exact HO_5.out⟩, ⟨zb BK459.out⟩, ⟨zh HB.out⟩⟩
   ·rw [if_neg c7] at H
    have c7b0 : decide (x11_1 < (l0_1.length : Int)) = false := decide_eq_false c7
    clear c7
    replace H := Option.bind_eq_some_iff.mp H
    obtain ⟨t_, A170, H⟩ := H
    replace H : (some t_) = some r := H
    have A17 := Aside0.mk A170
    clear A170
    obtain rfl := Option.some.inj H
    obtain ⟨Ao18, co18, eo18⟩ := Kd.S_slice HO_5.out
    subst eo18
    go_wp2_with (first | ((with_reducible refine gate_callee (f := 116) rfl ?_); refine goesL_ (some 24) rfl rfl Try.func116 (by kernel_rfl) rfl #[.slice Ao18 x5_1.length co18, .func (.func 71) #[] #[]] rfl (by (try simp only [List.map_toArray, List.map_cons, List.map_nil]); first | done | rfl | (simp only [List.length_drop, List.length_take]; rfl)) ?_; refine (sortSets.calls x5_1 t_ _ _ w.heap.size (fun _ => True) _ ?side1 A17.out).mono ?_; (case side1 => exact (by (with_reducible repeat (first | apply Kd.S_alloc | apply Kd.S_drewN | apply Kd.S_drew)); exact HO_5.out)); rintro e w' ⟨rfl, hs_, hl_, hg_⟩; refine ⟨_, rfl, ?_⟩; have n0_ := Aside0.mk hs_; have hB_ := ((zh HB.out) : Below w.heap.size w _); have n2_ := Aside0.mk (Below.grown hB_ hg_ (below_size hB_) (Kd.S_base HO_5.out)); clear HO_5; clear HB; have HO_5 := n0_; have HB := n2_; clear n0_ n2_ hs_ hl_ hg_ hB_))
    go_ret
    exact ⟨_, by first | rfl | (simp [*, errW_none, errW_some] <;> rfl), by (with_reducible repeat (first | apply Kd.S_alloc | apply Kd.S_drewN | apply Kd.S_drew)); exact HO_5.out, zh HB.out⟩
end
end Go.Proofs.Ytaacaifiiedoiaa.Q
end
section
namespace Go.Proofs.Ytaacaifiiedoiaa.Q
open Go.RowKit Go.Proofs.YtaacaifiiedoiaaW.PrintWords Go.Proofs.YtaacaifiiedoiaaW.PrintLast Go.Proofs.YtaacaifiiedoiaaW.PrintMore
set_option linter.unusedVariables false
set_option linter.unusedSimpArgs false
theorem ordered_1.pred (w : World) : PredI Try.prog 118 #[] #[] w (fun _ => some true) := by
  intro W x b hb hp
  obtain rfl := Option.some.inj hp
  show Calls Try.prog 118 #[.int .i64 x] W _
  clear hp
  go_enter Try.func118, Try.ntmps118
  go_wp2
  go_ret
  exact ⟨rfl, Below.refl _ _⟩
def setsAll.f (k : Nat) (a0_0 : Int) (l0_1 : List Bool) : Option (List (List Int)) := impl_votes_sets.f k a0_0 l0_1 (fun _ => some true)
theorem setsAll.calls (k : Nat) (a0_0 : Int) (A0_1 : Option Addr) (c0_1 : Nat) (l0_1 : List Bool) (r : List (List Int)) (w : World) (hr0_1 : Kd.C Kd.bool w A0_1 l0_1.length l0_1) (hc0_1 : l0_1.length ≤ c0_1) (h : setsAll.f k a0_0 l0_1 = some r) :
    Calls Try.prog 87 #[.agg #[.int .i64 a0_0, .slice A0_1 l0_1.length c0_1], .func (.func 118) #[] #[]] w fun e w' => ∃ v0_ : Value, e = .returned v0_ ∧ Kd.S (Kd.slice 3 (Kd.int .i64)) 71 w' w.heap.size (fun _ => True) v0_ r ∧ Below w.heap.size w w' :=
  impl_votes_sets.calls k a0_0 A0_1 c0_1 l0_1 _ 118 #[] #[] (enters_of Try.func118 (by kernel_rfl) rfl) r w (ordered_1.pred w) hr0_1 hc0_1 h
end Go.Proofs.Ytaacaifiiedoiaa.Q
end
section
namespace Go.Proofs.Ytaacaifiiedoiaa.Q
open Go.RowKit Go.Proofs.YtaacaifiiedoiaaW.PrintWords Go.Proofs.YtaacaifiiedoiaaW.PrintLast Go.Proofs.YtaacaifiiedoiaaW.PrintMore
attribute [local go_sem] max2_int min2_int max_two min_two max_three min_three max_four min_four
set_option linter.unusedVariables false
set_option linter.unusedSimpArgs false
def impl_isTradedGame.f (k : Nat) (a0_0 : Int) (l0_1 : List (List Int)) : Option (Bool) := (impl_IsGame.f k a0_0 l0_1).bind fun t617 => (if t617 = true then (some (decide (a0_0 ≤ 6))) else (some false))
set_option maxHeartbeats 8000000 in
set_option maxRecDepth 100000 in
theorem impl_isTradedGame.calls (k : Nat) (a0_0 : Int) (A0_1 : Option Addr) (c0_1 : Nat) (l0_1 : List (List Int)) (r : Bool) (w : World) (hr0_1 : Kd.C (Kd.slice 3 (Kd.int .i64)) w A0_1 l0_1.length l0_1) (hc0_1 : l0_1.length ≤ c0_1) (h : impl_isTradedGame.f k a0_0 l0_1 = some r) :
  Calls Try.prog 61 #[.agg #[.int .i64 a0_0, .slice A0_1 l0_1.length c0_1]] w fun e w' => e = .returned (.bool r) ∧ Below w.heap.size w w' := by
 have hu31 := Try.underlying31
 have HR0_1 := Aside0.mk hr0_1
 have HC0_1 := Aside0.mk hc0_1
 clear hr0_1 hc0_1
 have HB := Aside0.mk (Below.refl w.heap.size w)
 have H : ((impl_IsGame.f k a0_0 l0_1).bind fun t617 => (if t617 = true then (some (decide (a0_0 ≤ 6))) else (some false))) = some r := h
 clear h
 replace H := Option.bind_eq_some_iff.mp H
 obtain ⟨t617, A20, H⟩ := H
 replace H : (if t617 = true then (some (decide (a0_0 ≤ 6))) else (some false)) = some r := H
 have A2 := Aside0.mk A20
 clear A20
 by_cases c3 : t617 = true
 rotate_left
 ·replace c3 := Bool.eq_false_iff.mpr c3
  subst c3
  have H1 : (some false) = some r := by rw [if_neg (show ¬ (false = true) by decide)] at H; exact H
  clear H
  have H := H1
  clear H1
  obtain rfl := Option.some.inj H
  go_enter Try.func61, Try.ntmps61
  go_wp2_with (first | ((with_reducible refine gate_dst (N := 1) rfl ?_); refine box_event ?hg (N := 1) ?hd (cs := #[.int .i64 a0_0, .slice A0_1 l0_1.length c0_1]) (t := 31) ?hr ?_; (case hd => rfl); (case hg => rfl); (case hr => first | (go_simp; done) | (go_simp; rfl)); intro gb616 hg w8 hbox hb; have n2_ := Aside0.mk ((by rw [hg]; exact (below_size (zh HB.out)) : w.heap.size ≤ gb616)); replace HB := Aside0.mk (below_step (zh HB.out) hb); have BK616 := Aside0.mk hbox; have GW616 := n2_; have GE616 := n2_; clear n2_ hb hbox hg; have hcz9_0 : w8.cell? ⟨gb616, 0, none⟩ = some (.int .i64 a0_0) := (blk_cell BK616.out 0).trans rfl; have hcz9_1 : w8.cell? ⟨gb616, 1, none⟩ = some (.slice A0_1 l0_1.length c0_1) := (blk_cell BK616.out 1).trans rfl; have hfz9_0 := blk_frozen BK616.out 0; have hfz9_1 := blk_frozen BK616.out 1) | ((with_reducible refine gate_callee (f := 41) rfl ?_); refine goesL_ (some 4) rfl rfl Try.func41 (by kernel_rfl) rfl #[.agg #[.int .i64 a0_0, .slice A0_1 l0_1.length c0_1]] rfl (by (try simp only [List.map_toArray, List.map_cons, List.map_nil]); first | done | rfl | (simp only [List.length_drop, List.length_take]; rfl)) ?_; (with_reducible refine (impl_IsGame.calls k a0_0 _ _ l0_1 false _ ?side1 ?side2 A2.out).mono ?_); (case side1 => repeat (first | exact (Kd.C_below HR0_1.out HB.out) | (with_reducible refine Kd.C_alloc ?_ _) | (with_reducible refine Kd.C_drewN ?_ _) | (with_reducible refine Kd.C_drew ?_))); (case side2 => exact HC0_1.out); rintro e w10 ⟨rfl, hb⟩; refine ⟨_, rfl, ?_⟩; have n0_ := Aside0.mk (blk_below (g := gb616) (o := .cells #[.int .i64 a0_0, .slice A0_1 l0_1.length c0_1] 31 (0, 0)) (zb BK616.out) hb); have n1_ := Aside0.mk (below_step (zh HB.out) hb); clear BK616; clear HB; have BK616 := n0_; have HB := n1_; clear n0_ n1_; (try clear hb); (try clear hb2); (try clear hk); (try clear hi)))
  go_ret
  exact ⟨by first | rfl | (simp [*, errW_none, errW_some] <;> rfl), zh HB.out⟩
 subst c3
 have H1 : (some (decide (a0_0 ≤ 6))) = some r := by rw [if_pos rfl] at H; exact H
 clear H
 have H := H1
 clear H1
 obtain rfl := Option.some.inj H
 go_enter Try.func61, Try.ntmps61
 go_wp2_with (first | ((with_reducible refine gate_dst (N := 1) rfl ?_); refine box_event ?hg (N := 1) ?hd (cs := #[.int .i64 a0_0, .slice A0_1 l0_1.length c0_1]) (t := 31) ?hr ?_; (case hd => rfl); (case hg => rfl); (case hr => first | (go_simp; done) | (go_simp; rfl)); intro gb616 hg w4 hbox hb; have n2_ := Aside0.mk ((by rw [hg]; exact (below_size (zh HB.out)) : w.heap.size ≤ gb616)); replace HB := Aside0.mk (below_step (zh HB.out) hb); have BK616 := Aside0.mk hbox; have GW616 := n2_; have GE616 := n2_; clear n2_ hb hbox hg; have hcz5_0 : w4.cell? ⟨gb616, 0, none⟩ = some (.int .i64 a0_0) := (blk_cell BK616.out 0).trans rfl; have hcz5_1 : w4.cell? ⟨gb616, 1, none⟩ = some (.slice A0_1 l0_1.length c0_1) := (blk_cell BK616.out 1).trans rfl; have hfz5_0 := blk_frozen BK616.out 0; have hfz5_1 := blk_frozen BK616.out 1) | ((with_reducible refine gate_callee (f := 41) rfl ?_); refine goesL_ (some 4) rfl rfl Try.func41 (by kernel_rfl) rfl #[.agg #[.int .i64 a0_0, .slice A0_1 l0_1.length c0_1]] rfl (by (try simp only [List.map_toArray, List.map_cons, List.map_nil]); first | done | rfl | (simp only [List.length_drop, List.length_take]; rfl)) ?_; (with_reducible refine (impl_IsGame.calls k a0_0 _ _ l0_1 true _ ?side1 ?side2 A2.out).mono ?_); (case side1 => repeat (first | exact (Kd.C_below HR0_1.out HB.out) | (with_reducible refine Kd.C_alloc ?_ _) | (with_reducible refine Kd.C_drewN ?_ _) | (with_reducible refine Kd.C_drew ?_))); (case side2 => exact HC0_1.out); rintro e w6 ⟨rfl, hb⟩; refine ⟨_, rfl, ?_⟩; have n0_ := Aside0.mk (blk_below (g := gb616) (o := .cells #[.int .i64 a0_0, .slice A0_1 l0_1.length c0_1] 31 (0, 0)) (zb BK616.out) hb); have n1_ := Aside0.mk (below_step (zh HB.out) hb); clear BK616; clear HB; have BK616 := n0_; have HB := n1_; clear n0_ n1_; (try clear hb); (try clear hb2); (try clear hk); (try clear hi); have hcz7_0 : w6.cell? ⟨gb616, 0, none⟩ = some (.int .i64 a0_0) := (blk_cell BK616.out 0).trans rfl; have hcz7_1 : w6.cell? ⟨gb616, 1, none⟩ = some (.slice A0_1 l0_1.length c0_1) := (blk_cell BK616.out 1).trans rfl; have hfz7_0 := blk_frozen BK616.out 0; have hfz7_1 := blk_frozen BK616.out 1))
 go_ret
 exact ⟨by first | rfl | (simp [*, errW_none, errW_some] <;> rfl), zh HB.out⟩
def impl_votes_ordered.l0 : Nat → List Int → List (List Int) → Int → Int → Option (List Int)
 | 0, _, _, _, _ => none
 | k + 1, x3, x8, x9, x10 => if x10 < x9 then (if 0 ≤ x10 then (if x10 < (x8.length : Int) then ((impl_maskOf.f k (rd_L1 x8 x10)).bind fun t626 => (if x3.length < 17592186044416 then (impl_votes_ordered.l0 k (x3 ++ [t626]) x8 x9 (wrap64 (x10 + 1))) else (none))) else (none)) else (none)) else (some x3)
def impl_votes_ordered.f (k : Nat) (a0_0 : Int) (l0_1 : List Bool) : Option (List Int) := (setsAll.f k a0_0 l0_1).bind fun t622 => (impl_votes_ordered.l0 k (([] : List Int)) t622 (t622.length : Int) 0)
set_option maxHeartbeats 8000000 in
set_option maxRecDepth 100000 in
theorem impl_votes_ordered.calls (k : Nat) (a0_0 : Int) (A0_1 : Option Addr) (c0_1 : Nat) (l0_1 : List Bool) (r : List Int) (w : World) (hr0_1 : Kd.C Kd.bool w A0_1 l0_1.length l0_1) (hc0_1 : l0_1.length ≤ c0_1) (h : impl_votes_ordered.f k a0_0 l0_1 = some r) :
  Calls Try.prog 96 #[.agg #[.int .i64 a0_0, .slice A0_1 l0_1.length c0_1]] w fun e w' => ∃ v0_ : Value, e = .returned (v0_) ∧ Kd.R (Kd.int .i64) 3 w' w.heap.size (fun _ => True) v0_ r ∧ Below w.heap.size w w' := by
 have hu62 := Try.underlying62
 have HR0_1 := Aside0.mk hr0_1
 have HC0_1 := Aside0.mk hc0_1
 clear hr0_1 hc0_1
 have HB := Aside0.mk (Below.refl w.heap.size w)
 have H : ((setsAll.f k a0_0 l0_1).bind fun t622 => (impl_votes_ordered.l0 k (([] : List Int)) t622 (t622.length : Int) 0)) = some r := h
 clear h
 obtain ⟨y619, hy619⟩ : ∃ y_ : List Int, y_ = (([] : List Int)) := ⟨_, rfl⟩
 replace H : ((setsAll.f k a0_0 l0_1).bind fun t622 => (impl_votes_ordered.l0 k y619 t622 (t622.length : Int) 0)) = some r := by first | (rw [hy619]; with_reducible exact H) | (have H2_ := (Option.bind_some _ _).symm.trans H; rw [hy619]; with_reducible exact H2_) | (have H2_ := (Option.bind_some _ _).symm.trans H; with_reducible exact H2_) | with_reducible exact H | (rw [hy619]; exact H) | exact H
 have Ny619 := Aside0.mk hy619
 clear hy619
 replace H := Option.bind_eq_some_iff.mp H
 obtain ⟨t622, A20, H⟩ := H
 replace H : (impl_votes_ordered.l0 k y619 t622 (t622.length : Int) 0) = some r := H
 have A2 := Aside0.mk A20
 clear A20
 have H' := Aside0.mk H
 clear H
 go_enter Try.func96, Try.ntmps96
 go_wp2_with (first | ((with_reducible refine gate_dst (N := 1) rfl ?_); refine box_event ?hg (N := 1) ?hd (cs := #[.int .i64 a0_0, .slice A0_1 l0_1.length c0_1]) (t := 62) ?hr ?_; (case hd => rfl); (case hg => rfl); (case hr => first | (go_simp; done) | (go_simp; rfl)); intro gb618 hg w3 hbox hb; have n2_ := Aside0.mk ((by rw [hg]; exact (below_size (zh HB.out)) : w.heap.size ≤ gb618)); replace HB := Aside0.mk (below_step (zh HB.out) hb); have BK618 := Aside0.mk hbox; have GW618 := n2_; have GE618 := n2_; clear n2_ hb hbox hg) | ((with_reducible refine gate_dst (N := 6) rfl ?_); refine Kd.R_lit (Kd.int .i64) _ 3 ?hg (N := 6) ?hd (xs := ([] : List Int)) (inner := []) (ok := fun _ => True) (okp := fun _ => True) ?hr ?hp (fun _ hk => hk) trivial (Below.refl _ _) (Nat.le_refl _) (by simp) ?_; (case hd => rfl); (case hg => rfl); (case hr => first | (go_simp; done) | (go_simp; rfl)); (case hp => exact (Reps.none _ _)); intro v620 w4 ho5 hb hg_ hnew_; clear hg_ hnew_; (first | rw [← Ny619.out] at ho5 | (simp only [Int.reduceToNat] at ho5; rw [← Ny619.out] at ho5)); have n0_ := Aside0.mk (Kd.R_lower ho5 (below_size (zh HB.out))); have n1_ := Aside0.mk (blk_below (g := gb618) (o := .cells #[.int .i64 a0_0, .slice A0_1 l0_1.length c0_1] 62 (0, 0)) (zb BK618.out) hb); have n2_ := Aside0.mk (below_step (zh HB.out) hb); clear BK618; clear HB; have HO621 := n0_; have BK618 := n1_; have HB := n2_; clear n0_ n1_ n2_; clear hb ho5; have hcz6_0 : w4.cell? ⟨gb618, 0, none⟩ = some (.int .i64 a0_0) := (blk_cell BK618.out 0).trans rfl; have hcz6_1 : w4.cell? ⟨gb618, 1, none⟩ = some (.slice A0_1 l0_1.length c0_1) := (blk_cell BK618.out 1).trans rfl; have hfz6_0 := blk_frozen BK618.out 0; have hfz6_1 := blk_frozen BK618.out 1) | ((with_reducible refine gate_callee (f := 87) rfl ?_); refine goesL_ (some 8) rfl rfl Try.func87 (by kernel_rfl) rfl #[.agg #[.int .i64 a0_0, .slice A0_1 l0_1.length c0_1], .func (.func 118) #[] #[]] rfl (by (try simp only [List.map_toArray, List.map_cons, List.map_nil]); first | done | rfl | (simp only [List.length_drop, List.length_take]; rfl)) ?_; (with_reducible refine (setsAll.calls k a0_0 _ _ l0_1 t622 _ ?side1 ?side2 A2.out).mono ?_); (case side1 => repeat (first | exact (Kd.C_below HR0_1.out HB.out) | (with_reducible refine Kd.C_alloc ?_ _) | (with_reducible refine Kd.C_drewN ?_ _) | (with_reducible refine Kd.C_drew ?_))); (case side2 => exact HC0_1.out); rintro e w7 ⟨v623, rfl, ho0, hb⟩; refine ⟨_, rfl, ?_⟩; have n0_ := Aside0.mk (Kd.R_below (zr HO621.out) hb); have n1_ := Aside0.mk (Kd.S_lower (Kd.S_new' ho0 (Kd.R_lt (zr HO621.out))) (below_size (zh HB.out))); have n2_ := Aside0.mk (blk_below (g := gb618) (o := .cells #[.int .i64 a0_0, .slice A0_1 l0_1.length c0_1] 62 (0, 0)) (zb BK618.out) hb); have n3_ := Aside0.mk (below_step (zh HB.out) hb); clear HO621; clear BK618; clear HB; have HO621 := n0_; have HO624 := n1_; have BK618 := n2_; have HB := n3_; clear n0_ n1_ n2_ n3_; (try clear hb); (try clear hb2); (try clear hk); (try clear hi); (try clear ho0); obtain ⟨Ao8, co8, eo8⟩ := Kd.S_slice HO624.out; subst eo8))
 go_loopg [3, 10] k (fun kq v3 v10 w' => ∃ (x3_1 : List Int) (x10_1 : Int), v10 = .int .i64 x10_1 ∧ Aside0 (impl_votes_ordered.l0 kq x3_1 t622 (t622.length : Int) x10_1 = some r) ∧ Aside0 (kq ≤ k) ∧ Aside0 (Kd.R (Kd.int .i64) 3 w' w.heap.size (fun _ => True) v3 x3_1) ∧ Aside0 (Kd.S (Kd.slice 3 (Kd.int .i64)) 71 w' w.heap.size (fun k_ => some k_ ≠ (v3 : Value).ownBlock) (.slice Ao8 t622.length co8) t622) ∧ Aside0 (w'.heap[gb618]? = some (.cells #[.int .i64 a0_0, (.slice A0_1 l0_1.length c0_1)] 62 (0, 0))) ∧ Aside0 (Below w.heap.size w w'))
 case atStart => exact ⟨(y619), (0), (by first | rfl | (simp; done) | (simp [*]; done)), H', ⟨Nat.le_refl _⟩, ⟨zr HO621.out⟩, ⟨by (with_reducible repeat (first | apply Kd.S_alloc | apply Kd.S_drewN | apply Kd.S_drew)); exact Kd.S_mono HO624.out (fun _ hk => hk.2)⟩, ⟨zb BK618.out⟩, ⟨zh HB.out⟩⟩
 case round =>
  clear H'
  try clear c2
  try clear p2
  try clear hcz6_0
  try clear hcz6_1
  try clear hfz6_0
  try clear hfz6_1
  obtain ⟨x3_1, x10_1, rfl, HA, HK1, HO_3, HO_8, BK618, HB⟩ := hrel
  cases gk with
  | zero => exact absurd HA.out (by simp [impl_votes_ordered.l0])
  | succ k1 =>
   have H := HA.out
   clear HA
   simp only [impl_votes_ordered.l0] at H
   by_cases c9 : x10_1 < (t622.length : Int)
   rotate_left
   ·rw [if_neg c9] at H
    have c9b0 : decide (x10_1 < (t622.length : Int)) = false := decide_eq_false c9
    clear c9
    obtain rfl := Option.some.inj H
    go_wp2
    go_ret
    exact ⟨_, by first | rfl | (simp [*, errW_none, errW_some] <;> rfl), by (with_reducible repeat (first | apply Kd.R_alloc | apply Kd.R_drewN | apply Kd.R_drew)); exact HO_3.out, zh HB.out⟩
   rw [if_pos c9] at H
   have c9b0 : decide (x10_1 < (t622.length : Int)) = true := decide_eq_true c9
   clear c9
   by_cases c10 : 0 ≤ x10_1
   rotate_left
   ·rw [if_neg c10] at H
    exact absurd H (by simp)
   rw [if_pos c10] at H
   have c10b0 : decide (0 ≤ x10_1) = true := decide_eq_true c10
   clear c10
   by_cases c11 : x10_1 < (t622.length : Int)
   rotate_left
   ·rw [if_neg c11] at H
    exact absurd H (by simp)
   rw [if_pos c11] at H
   have c11b0 : decide (x10_1 < (t622.length : Int)) = true := decide_eq_true c11
   clear c11
   replace H := Option.bind_eq_some_iff.mp H
   obtain ⟨t626, A120, H⟩ := H
   replace H : (if x3_1.length < 17592186044416 then (impl_votes_ordered.l0 k1 (x3_1 ++ [t626]) t622 (t622.length : Int) (wrap64 (x10_1 + 1))) else (none)) = some r := H
   have A12 := Aside0.mk A120
   clear A120
   by_cases c13 : x3_1.length < 17592186044416
   rotate_left
   ·rw [if_neg c13] at H
    exact absurd H (by simp)
   rw [if_pos c13] at H
   have LMc13 := Aside0.mk c13
   clear c13
   obtain ⟨y627, hy627⟩ : ∃ y_ : List Int, y_ = (x3_1 ++ [t626]) := ⟨_, rfl⟩
   replace H : (impl_votes_ordered.l0 k1 y627 t622 (t622.length : Int) (wrap64 (x10_1 + 1))) = some r := by first | (rw [hy627]; with_reducible exact H) | (have H2_ := (Option.bind_some _ _).symm.trans H; rw [hy627]; with_reducible exact H2_) | (have H2_ := (Option.bind_some _ _).symm.trans H; with_reducible exact H2_) | with_reducible exact H | (rw [hy627]; exact H) | exact H
   have Ny627 := Aside0.mk hy627
   clear hy627
   have H' := Aside0.mk H
   clear H
   have p625 : 0 ≤ (x10_1 : Int) := of_decide_eq_true (by first | (with_reducible assumption) | assumption)
   have q625 : x10_1 < (t622.length : Int) := of_decide_eq_true (by first | (with_reducible assumption) | assumption)
   obtain ⟨ad625, A625_0, c625_0, e625, hx625_0, hl625_0, hi625_0⟩ := at_L1 (Kd.S_reads' HO_8.out).2.2 x10_1 p625 q625
   cases e625
   obtain ⟨ce625, hce625, hMe625, hcc625⟩ := Kd.S_get HO_8.out [] x10_1 p625 (by first | exact q625 | exact of_decide_eq_true (by first | (with_reducible assumption) | assumption) | (have e_ := (Kd.S_reads' HO_8.out).1; omega))
   obtain ⟨ve625_0, rfl, ge625_0⟩ := hMe625
   have hv625_0 := hcc625 0 _ rfl
   rw [Nat.add_zero, show ((Kd.slice 3 (Kd.int .i64))).sz = 1 from rfl, Nat.mul_one] at hv625_0
   replace hv625_0 := Option.some.inj (hv625_0.symm.trans hx625_0)
   rw [hv625_0] at ge625_0
   have HL625_0 := Aside0.mk (show Kd.R (Kd.int .i64) 3 _ _ _ _ (rd_L1 t622 x10_1) from ge625_0)
   clear hv625_0 ge625_0
   clear hcc625 hce625
   have HR625_0 := Aside0.mk hi625_0
   have HC625_0 := Aside0.mk hl625_0
   clear hi625_0 hl625_0
   replace p625 := eq_true p625
   replace q625 := eq_true q625
   go_wp2_with (first | ((with_reducible refine gate_callee (f := 72) rfl ?_); refine goesL_ (some 16) rfl rfl Try.func72 (by kernel_rfl) rfl #[.slice A625_0 (rd_L1 t622 x10_1).length c625_0] rfl (by (try simp only [List.map_toArray, List.map_cons, List.map_nil]); first | done | rfl | (simp only [List.length_drop, List.length_take]; rfl)) ?_; (with_reducible refine (impl_maskOf.calls k1 _ _ (rd_L1 t622 x10_1) t626 _ ?side1 ?side2 A12.out).mono ?_); (case side1 => repeat (first | exact (by repeat (first | (with_reducible exact HR625_0.out) | (with_reducible refine Kd.C_alloc ?_ _) | (with_reducible refine Kd.C_drewN ?_ _) | (with_reducible refine Kd.C_drew ?_) | exact HR625_0.out)) | (with_reducible refine Kd.C_alloc ?_ _) | (with_reducible refine Kd.C_drewN ?_ _) | (with_reducible refine Kd.C_drew ?_))); (case side2 => exact HC625_0.out); rintro e w' ⟨rfl, ⟨nd, rfl⟩⟩; refine ⟨_, rfl, ?_⟩) | ((with_reducible refine gate_builtin (b := .append) (xs := #[.tmp 14, .tmp 17]) rfl ?_); at_builtin; refine Kd.R_append (Kd.int .i64) (w0 := w) w.heap.size rfl (.tmp 14) (.tmp 17) 71 3 (.int .i64 0) 8 rfl Try.underlying71 info3 rfl (by decide) (by omega) u3 x3_1 t626 [.int .i64 t626] (fun _ => True) (fun _ => False) rfl rfl ?aP (fun _ hk => hk.elim) ?aF ?aO ?aB ?aS ?aL ?_; (case aP => exact rfl); (case aB => exact (zh HB.out)); (case aF => exact (fun _ _ => trivial)); (case aO => exact (zr HO_3.out)); (case aS => exact (below_size (zh HB.out))); (case aL => have := LMc13.out; omega); intro v628 w14 ho hb hg hat; rw [← Ny627.out] at ho; have n0_ := Aside0.mk (Kd.S_after (ok := (fun _ => True)) (by (with_reducible repeat (first | apply Kd.S_alloc | apply Kd.S_drewN | apply Kd.S_drew)); exact Kd.S_mono HO_8.out (fun _ hk => ⟨trivial, hk⟩)) hg hat); have n1_ := Aside0.mk (blk_grown (g := gb618) (o := .cells #[.int .i64 a0_0, .slice A0_1 l0_1.length c0_1] 62 (0, 0)) (zb BK618.out) hg (Kd.R_ne HO_3.out BK618.out (by decide))); have n2_ := Aside0.mk (Kd.R_after (ok := (fun k_ => some k_ ≠ (.slice (some ad625) t622.length co8 : Value).ownBlock)) (by (with_reducible repeat (first | apply Kd.R_alloc | apply Kd.R_drewN | apply Kd.R_drew)); exact Kd.R_mono HL625_0.out (fun _ hk => ⟨hk.2, hk.1⟩)) hg hat); have n3_ := Aside0.mk (hb); have n4_ := Aside0.mk (ho); clear HO_8; clear BK618; clear HL625_0; clear HB; clear HO_3; have HO_8 := n0_; have BK618 := n1_; have HL625_0 := n2_; have HB := n3_; have HO629 := n4_; clear n0_ n1_ n2_ n3_ n4_; clear ho hb hg hat))
   go_roundg k1
   case measure => have := HK1.out; omega
   case rel => exact ⟨(y627), (wrap64 (x10_1 + 1)), (by first | rfl | (simp; done) | (simp [*]; done)), H', ⟨by have := HK1.out; omega⟩, ⟨zr HO629.out⟩, ⟨by (with_reducible repeat (first | apply Kd.S_alloc | apply Kd.S_drewN | apply Kd.S_drew)); exact Kd.S_mono HO_8.out (fun _ hk => hk.2)⟩, ⟨zb BK618.out⟩, ⟨zh HB.out⟩⟩
def slices_Index_int_int.l0 : Nat → List Int → Int → Int → Int → Option (Int)
 | 0, _, _, _, _ => none
 | k + 1, x0, x1, x7, x8 => if x8 < x7 then (if 0 ≤ x8 then (if x8 < (x0.length : Int) then (if x1 = (rd x0 x8) then (some x8) else (slices_Index_int_int.l0 k x0 x1 x7 (wrap64 (x8 + 1)))) else (none)) else (none)) else (some (-1))
def slices_Index_int_int.f (k : Nat) (l0 : List Int) (a1 : Int) : Option (Int) := slices_Index_int_int.l0 k l0 a1 (l0.length : Int) 0
set_option maxHeartbeats 8000000 in
set_option maxRecDepth 100000 in
theorem slices_Index_int_int.calls (k : Nat) (A0 : Option Addr) (c0 : Nat) (l0 : List Int) (a1 : Int) (r : Int) (w : World) (hr0 : Kd.C (Kd.int .i64) w A0 l0.length l0) (hc0 : l0.length ≤ c0) (h : slices_Index_int_int.f k l0 a1 = some r) :
  Calls Try.prog 119 #[.slice A0 l0.length c0, .int .i64 a1] w fun e w' => e = .returned (.int .i64 r) ∧ Drawn0 w w' := by
 have HR0 := Aside0.mk hr0
 have HC0 := Aside0.mk hc0
 clear hr0 hc0
 have H : (slices_Index_int_int.l0 k l0 a1 (l0.length : Int) 0) = some r := h
 clear h
 have H' := Aside0.mk H
 clear H
 go_enter Try.func119, Try.ntmps119
 go_wp2
 go_loopg [8] k (fun kq v8 w' => ∃ (x8_1 : Int), v8 = .int .i64 x8_1 ∧ Aside0 (slices_Index_int_int.l0 kq l0 a1 (l0.length : Int) x8_1 = some r) ∧ Aside0 (kq ≤ k) ∧ Drawn0 w w')
 case atStart => exact ⟨(0), (by first | rfl | (simp; done) | (simp [*]; done)), H', ⟨Nat.le_refl _⟩, by repeat (first | exact Drawn0.refl _ | apply Drawn0.step)⟩
 case round =>
  clear H'
  try clear c1
  try clear p2
  obtain ⟨x8_1, rfl, HA, HK1, ⟨m1, rfl⟩⟩ := hrel
  cases gk with
  | zero => exact absurd HA.out (by simp [slices_Index_int_int.l0])
  | succ k1 =>
   have H := HA.out
   clear HA
   simp only [slices_Index_int_int.l0] at H
   by_cases c3 : x8_1 < (l0.length : Int)
   rotate_left
   ·rw [if_neg c3] at H
    have c3b0 : decide (x8_1 < (l0.length : Int)) = false := decide_eq_false c3
    clear c3
    obtain rfl := Option.some.inj H
    go_wp2
    go_ret
    exact ⟨by first | rfl | (simp; done) | (simp [*]; done), by repeat (first | exact Drawn0.refl _ | apply Drawn0.step)⟩
   rw [if_pos c3] at H
   have c3b0 : decide (x8_1 < (l0.length : Int)) = true := decide_eq_true c3
   clear c3
   by_cases c4 : 0 ≤ x8_1
   rotate_left
   ·rw [if_neg c4] at H
    exact absurd H (by simp)
   rw [if_pos c4] at H
   have c4b0 : decide (0 ≤ x8_1) = true := decide_eq_true c4
   clear c4
   by_cases c5 : x8_1 < (l0.length : Int)
   rotate_left
   ·rw [if_neg c5] at H
    exact absurd H (by simp)
   rw [if_pos c5] at H
   have c5b0 : decide (x8_1 < (l0.length : Int)) = true := decide_eq_true c5
   clear c5
   by_cases c6 : a1 = (rd l0 x8_1)
   ·rw [if_pos c6] at H
    have c6b0 : (a1 == (rd l0 x8_1)) = true := beq_iff_eq.mpr c6
    have c6b1 : (a1 != (rd l0 x8_1)) = false := bne_eq_false_iff_eq.mpr c6
    clear c6
    obtain rfl := Option.some.inj H
    have p630 : 0 ≤ (x8_1 : Int) := of_decide_eq_true (by first | (with_reducible assumption) | assumption)
    have q630 : x8_1 < (l0.length : Int) := of_decide_eq_true (by first | (with_reducible assumption) | assumption)
    obtain ⟨ad630, e630, hx630_0⟩ := Kd.at_int HR0.out x8_1 p630 q630
    cases e630
    replace p630 := eq_true p630
    replace q630 := eq_true q630
    go_wp2
    go_ret
    exact ⟨by first | rfl | (simp; done) | (simp [*]; done), by repeat (first | exact Drawn0.refl _ | apply Drawn0.step)⟩
   rw [if_neg c6] at H
   have c6b0 : (a1 == (rd l0 x8_1)) = false := beq_eq_false_iff_ne.mpr c6
   have c6b1 : (a1 != (rd l0 x8_1)) = true := bne_iff_ne.mpr c6
   have H' := Aside0.mk H
   clear H
   have p630 : 0 ≤ (x8_1 : Int) := of_decide_eq_true (by first | (with_reducible assumption) | assumption)
   have q630 : x8_1 < (l0.length : Int) := of_decide_eq_true (by first | (with_reducible assumption) | assumption)
   obtain ⟨ad630, e630, hx630_0⟩ := Kd.at_int HR0.out x8_1 p630 q630
   cases e630
   replace p630 := eq_true p630
   replace q630 := eq_true q630
   go_wp2
   go_roundg k1
   case measure => have := HK1.out; omega
   case rel => exact ⟨(wrap64 (x8_1 + 1)), (by first | rfl | (simp; done) | (simp [*]; done)), H', ⟨by have := HK1.out; omega⟩, by repeat (first | exact Drawn0.refl _ | apply Drawn0.step)⟩
def slices_Contains_int_int.f (k : Nat) (l0 : List Int) (a1 : Int) : Option (Bool) := (slices_Index_int_int.f k l0 a1).bind fun t631 => (some (decide (t631 ≥ 0)))
set_option maxHeartbeats 8000000 in
set_option maxRecDepth 100000 in
theorem slices_Contains_int_int.calls (k : Nat) (A0 : Option Addr) (c0 : Nat) (l0 : List Int) (a1 : Int) (r : Bool) (w : World) (hr0 : Kd.C (Kd.int .i64) w A0 l0.length l0) (hc0 : l0.length ≤ c0) (h : slices_Contains_int_int.f k l0 a1 = some r) :
  Calls Try.prog 97 #[.slice A0 l0.length c0, .int .i64 a1] w fun e w' => e = .returned (.bool r) ∧ Drawn0 w w' := by
 have HR0 := Aside0.mk hr0
 have HC0 := Aside0.mk hc0
 clear hr0 hc0
 have H : ((slices_Index_int_int.f k l0 a1).bind fun t631 => (some (decide (t631 ≥ 0)))) = some r := h
 clear h
 replace H := Option.bind_eq_some_iff.mp H
 obtain ⟨t631, A30, H⟩ := H
 replace H : (some (decide (t631 ≥ 0))) = some r := H
 have A3 := Aside0.mk A30
 clear A30
 obtain rfl := Option.some.inj H
 go_enter Try.func97, Try.ntmps97
 go_wp2_with (first | ((with_reducible refine gate_callee (f := 119) rfl ?_); refine goesL_ (some 7) rfl rfl Try.func119 (by kernel_rfl) rfl #[.slice A0 l0.length c0, .int .i64 a1] rfl (by (try simp only [List.map_toArray, List.map_cons, List.map_nil]); first | done | rfl | (simp only [List.length_drop, List.length_take]; rfl)) ?_; (with_reducible refine (slices_Index_int_int.calls k _ _ l0 a1 t631 _ ?side1 ?side2 A3.out).mono ?_); (case side1 => repeat (first | exact HR0.out | (with_reducible refine Kd.C_alloc ?_ _) | (with_reducible refine Kd.C_drewN ?_ _) | (with_reducible refine Kd.C_drew ?_))); (case side2 => exact HC0.out); rintro e w' ⟨rfl, ⟨nd, rfl⟩⟩; refine ⟨_, rfl, ?_⟩))
 go_ret
 exact ⟨by first | rfl | (simp; done) | (simp [*]; done), by repeat (first | exact Drawn0.refl _ | apply Drawn0.step)⟩
end Go.Proofs.Ytaacaifiiedoiaa.Q
end
section
namespace Go.Proofs.Ytaacaifiiedoiaa.Q
open Go.RowKit Go.Proofs.YtaacaifiiedoiaaW.PrintWords Go.Proofs.YtaacaifiiedoiaaW.PrintLast Go.Proofs.YtaacaifiiedoiaaW.PrintMore
set_option linter.unusedVariables false
set_option linter.unusedSimpArgs false
def ow2 (ow : Nat → Bool) (n : Nat) (row : Value) (b : Bool) : Nat → Bool := fun k => if some k = row.ownBlock ∨ n ≤ k then b else ow k
theorem ow2_row {ow : Nat → Bool} {n k : Nat} {row : Value} {b : Bool} (h : some k = row.ownBlock) : ow2 ow n row b k = b := if_pos (.inl h)
theorem ow2_new {ow : Nat → Bool} {n k : Nat} {row : Value} {b : Bool} (h : n ≤ k) : ow2 ow n row b k = b := if_pos (.inr h)
theorem S_ownOk {α : Type} {d : Kd α} {e base : Nat} {W : World} {ok : Nat → Prop} {v : Value} {xs : List α} (h : Kd.S d e W base ok v xs) : ∀ k, v.ownBlock = some k → ok k := (Kd.S_R h).1
theorem ow2_a {α : Type} {d : Kd α} {e base : Nat} {W : World} {ow : Nat → Bool} {u row : Value} {xs : List α} {b : Bool} (h : Kd.S d e W base (fun k => ow k = b ∧ some k ≠ row.ownBlock) u xs) : Kd.S d e W base (fun k => ow2 ow W.heap.size row b k = b ∧ ¬ some k = row.ownBlock) u xs := by
  refine Kd.S_mono (Kd.S_bound h) (fun k hk => ⟨?_, hk.1.2⟩)
  unfold ow2
  split
  · rfl
  · exact hk.1.1
theorem ow2_b {α : Type} {d : Kd α} {e base : Nat} {W w1 : World} {ow : Nat → Bool} {u v row : Value} {xs : List α} {b c : Bool} (hc : c ≠ b) (h : Kd.S d e W base (fun k => ow k = c ∧ some k ≠ row.ownBlock) u xs) (ho : ∀ k, v.ownBlock = some k → ow k = b) (hg : W.grownBy w1 v.ownBlock) : Kd.S d e w1 base (fun k => ow2 ow W.heap.size row b k = c) u xs := by
  refine Kd.S_mono (Kd.S_grown (Kd.S_bound h) hg (fun k hk he => hc (hk.1.1.symm.trans (ho k he.symm)))) (fun k hk => ?_)
  show ow2 ow W.heap.size row b k = c
  unfold ow2
  rw [if_neg]
  · exact hk.1.1
  · rintro (h | h)
    · exact hk.1.2 h
    · exact absurd hk.2.2.1 (Nat.not_lt.2 h)
end Go.Proofs.Ytaacaifiiedoiaa.Q
end
section
namespace Go.Proofs.Ytaacaifiiedoiaa.Q
open Go.RowKit Go.Proofs.YtaacaifiiedoiaaW.PrintWords Go.Proofs.YtaacaifiiedoiaaW.PrintLast Go.Proofs.YtaacaifiiedoiaaW.PrintMore
attribute [local go_sem] max2_int min2_int max_two min_two max_three min_three max_four min_four
set_option linter.unusedVariables false
set_option linter.unusedSimpArgs false
def impl_pairs.l0 : Nat → List Int → List Int → Int → Int → List (List Int) → List (List Int) → Option ((List (List Int)) × (List (List Int)))
 | 0, _, _, _, _, _, _ => none
 | k + 1, x0, x1, x9, x10, x634000, x634001 => if x10 < x9 then (if 0 ≤ x10 then (if x10 < (x0.length : Int) then ((impl_setOf.f k (rd x0 x10)).bind fun t635 => (if x634000.length < 5864062014805 then (if x10 < (x1.length : Int) then ((impl_setOf.f k (rd x1 x10)).bind fun t642 => (if x634001.length < 5864062014805 then (impl_pairs.l0 k x0 x1 x9 (wrap64 (x10 + 1)) (x634000 ++ [t635]) (x634001 ++ [t642])) else (none))) else (none)) else (none))) else (none)) else (none)) else (some (x634000, x634001))
def impl_pairs.f (k : Nat) (l0 : List Int) (l1 : List Int) : Option ((List (List Int)) × (List (List Int))) := impl_pairs.l0 k l0 l1 (l0.length : Int) 0 ([] : List (List Int)) ([] : List (List Int))
def impl_pairs.T5 : Bool × List (List Nat × List Nat) := (true, [([], []), ([0], [0]), ([], []), ([], []), ([2, 3], [2, 3]), ([4], [4]), ([5], [5]), ([6], [6]), ([1, 7, 6], [1, 7]), ([0, 1, 2, 3, 4, 5, 6, 7, 8], []), ([9, 8, 8, 0, 1, 2, 3, 4, 5, 6, 7, 8], [8, 9])])
def impl_pairs.B5 : List Nat := [0, 1, 0, 0, 12, 28, 60, 124, 255, 511, 1023]
theorem impl_pairs.tab5 : rtab .any (opsOf Try.f98 5) = impl_pairs.T5 := by kernel_rfl
theorem impl_pairs.bits5 : waitsOk impl_pairs.T5.2 impl_pairs.B5 = true := by kernel_rfl
def impl_pairs.T6 : Bool × List (List Nat × List Nat) := (true, [([], []), ([0], [0]), ([], []), ([], []), ([2, 3], [2, 3]), ([4], [4]), ([5], [5]), ([6], [6]), ([1, 7, 6], [1, 7]), ([0, 1, 2, 3, 4, 5, 6, 7, 8], []), ([9, 8, 8, 0, 1, 2, 3, 4, 5, 6, 7, 8], [8, 9])])
def impl_pairs.B6 : List Nat := [0, 1, 0, 0, 12, 28, 60, 124, 255, 511, 1023]
theorem impl_pairs.tab6 : rtab .any (opsOf Try.f98 6) = impl_pairs.T6 := by kernel_rfl
theorem impl_pairs.bits6 : waitsOk impl_pairs.T6.2 impl_pairs.B6 = true := by kernel_rfl
set_option maxHeartbeats 8000000 in
set_option maxRecDepth 100000 in
theorem impl_pairs.calls (k : Nat) (A0 : Option Addr) (c0 : Nat) (l0 : List Int) (A1 : Option Addr) (c1 : Nat) (l1 : List Int) (r1 : List (List Int)) (r2 : List (List Int)) (w : World) (hr0 : Kd.C (Kd.int .i64) w A0 l0.length l0) (hc0 : l0.length ≤ c0) (hr1 : Kd.C (Kd.int .i64) w A1 l1.length l1) (hc1 : l1.length ≤ c1) (h : impl_pairs.f k l0 l1 = some (r1, r2)) :
  Calls Try.prog 98 #[.slice A0 l0.length c0, .slice A1 l1.length c1] w fun e w' => ∃ v0_ v1_ : Value, e = .returned (.agg #[v0_, v1_]) ∧ ∃ ow_ : Nat → Bool, Kd.S (Kd.slice 3 (Kd.int .i64)) 71 w' w.heap.size (fun k_ => ow_ k_ = true) v0_ r1 ∧ Kd.S (Kd.slice 3 (Kd.int .i64)) 71 w' w.heap.size (fun k_ => ow_ k_ = false) v1_ r2 ∧ Below w.heap.size w w' := by
 have hu46 := Try.underlying46
 have HR0 := Aside0.mk hr0
 have HC0 := Aside0.mk hc0
 clear hr0 hc0
 have HR1 := Aside0.mk hr1
 have HC1 := Aside0.mk hc1
 clear hr1 hc1
 have HB := Aside0.mk (Below.refl w.heap.size w)
 have H : (impl_pairs.l0 k l0 l1 (l0.length : Int) 0 ([] : List (List Int)) ([] : List (List Int))) = some (r1, r2) := h
 clear h
 have H' := Aside0.mk H
 clear H
 go_enter Try.func98, Try.ntmps98
 go_wp2_with (first | ((with_reducible refine gate_dst (N := 4) rfl ?_); refine box_event ?hg (N := 4) ?hd (cs := #[.slice none 0 0, .slice none 0 0]) (t := 46) ?hr ?_; (case hd => rfl); (case hg => rfl); (case hr => first | (go_simp; done) | (go_simp; rfl)); intro gb632 hg w3 hbox hb; have n2_ := Aside0.mk ((by rw [hg]; exact (below_size (zh HB.out)) : w.heap.size ≤ gb632)); replace HB := Aside0.mk (below_step (zh HB.out) hb); have BK632 := Aside0.mk hbox; have GW632 := n2_; have GE632 := n2_; clear n2_ hb hbox hg) | ((with_reducible refine gate_dst (N := 5) rfl ?_); refine box_event ?hg (N := 5) ?hd (cs := #[.slice none 0 0, .slice none 0 0]) (t := 46) ?hr ?_; (case hd => rfl); (case hg => rfl); (case hr => first | (go_simp; done) | (go_simp; rfl)); intro gb633 hg w4 hbox hb; have n0_ := Aside0.mk (blk_below (g := gb632) (o := .cells #[.slice none 0 0, .slice none 0 0] 46 (0, 0)) (zb BK632.out) hb); have n1_ := Aside0.mk (below_step (zh HB.out) hb); have n2_ := Aside0.mk (hbox); have n3_ := Aside0.mk ((by rw [hg]; exact (below_size (zh HB.out)) : w.heap.size ≤ gb633)); have n4_ := Aside0.mk ((by rw [hg]; exact (below_size (zh HB.out)) : w.heap.size ≤ gb633)); have n5_ := Aside0.mk ((by rw [hg]; exact Nat.ne_of_lt (blk_lt (g := gb632) (o := .cells #[.slice none 0 0, .slice none 0 0] 46 (0, 0)) (zb BK632.out)) : gb632 ≠ gb633)); have n6_ := Aside0.mk ((by rw [hg]; exact Nat.ne_of_gt (blk_lt (g := gb632) (o := .cells #[.slice none 0 0, .slice none 0 0] 46 (0, 0)) (zb BK632.out)) : gb633 ≠ gb632)); clear BK632; clear HB; have BK632 := n0_; have HB := n1_; have BK633 := n2_; have GW633 := n3_; have GE633 := n4_; have NB632_633 := n5_; have NB633_632 := n6_; clear n0_ n1_ n2_ n3_ n4_ n5_ n6_; clear hb hbox hg; have hnb5 := NB633_632.out; have hnc5 := NB632_633.out; have hcz6_0 : w4.cell? ⟨gb633, 0, none⟩ = some (.slice none 0 0) := (blk_cell BK633.out 0).trans rfl; have hcz6_1 : w4.cell? ⟨gb633, 1, none⟩ = some (.slice none 0 0) := (blk_cell BK633.out 1).trans rfl; have hfz6_0 := blk_frozen BK633.out 0; have hfz6_1 := blk_frozen BK633.out 1))
 go_loopg [10] k (fun kq v10 w' => ∃ (x10_1 : Int) (x634000_1 : List (List Int)) (x634001_1 : List (List Int)) (u634000 : Value) (u634001 : Value) (ow_ : Nat → Bool), v10 = .int .i64 x10_1 ∧ Aside0 (impl_pairs.l0 kq l0 l1 (l0.length : Int) x10_1 x634000_1 x634001_1 = some (r1, r2)) ∧ Aside0 (kq ≤ k) ∧ Aside0 (Kd.S (Kd.slice 3 (Kd.int .i64)) 71 w' w.heap.size (fun k_ => ow_ k_ = true) u634000 x634000_1) ∧ Aside0 (Kd.S (Kd.slice 3 (Kd.int .i64)) 71 w' w.heap.size (fun k_ => ow_ k_ = false) u634001 x634001_1) ∧ Aside0 (w'.heap[gb632]? = some (.cells #[(.slice none 0 0), (.slice none 0 0)] 46 (0, 0))) ∧ Aside0 (w'.heap[gb633]? = some (.cells #[u634000, u634001] 46 (0, 0))) ∧ Aside0 (Below w.heap.size w w'))
 case atStart => exact ⟨(0), (([] : List (List Int))), (([] : List (List Int))), (.slice none 0 0), (.slice none 0 0), (fun _ => true), (by first | rfl | (simp; done) | (simp [*]; done)), H', ⟨Nat.le_refl _⟩, ⟨by first | exact Kd.S_nil _ _ _ _ _ | exact Kd.N_nil _ _ _ _ _ | exact Kd.V_nil _ _ _ _ _ | exact Kd.Q_nil _ _ _ _ _ | exact Kd.R_nil _ _ _ _ _⟩, ⟨by first | exact Kd.S_nil _ _ _ _ _ | exact Kd.N_nil _ _ _ _ _ | exact Kd.V_nil _ _ _ _ _ | exact Kd.Q_nil _ _ _ _ _ | exact Kd.R_nil _ _ _ _ _⟩, ⟨by (with_reducible repeat (first | refine blk_drewN ?_ _ | refine blk_drew ?_ | refine blk_alloc ?_ _)); refine blk_far ?_ NB632_633.out _; (with_reducible repeat (first | refine blk_drewN ?_ _ | refine blk_drew ?_ | refine blk_alloc ?_ _)); refine blk_far ?_ NB632_633.out _; (with_reducible repeat (first | refine blk_drewN ?_ _ | refine blk_drew ?_ | refine blk_alloc ?_ _)); exact BK632.out⟩, ⟨by (with_reducible repeat (first | refine blk_drewN ?_ _ | refine blk_drew ?_ | refine blk_alloc ?_ _)); refine blk_put (cs := #[.slice none 0 0, .slice none 0 0]) ?_ 1 _ rfl; (with_reducible repeat (first | refine blk_drewN ?_ _ | refine blk_drew ?_ | refine blk_alloc ?_ _)); refine blk_put (cs := #[.slice none 0 0, .slice none 0 0]) ?_ 0 _ rfl; (with_reducible repeat (first | refine blk_drewN ?_ _ | refine blk_drew ?_ | refine blk_alloc ?_ _)); exact BK633.out⟩, ⟨zh HB.out⟩⟩
 case round =>
  clear H'
  try clear c1
  try clear p2
  try clear c5
  try clear hcz6_0
  try clear hcz6_1
  try clear hfz6_0
  try clear hfz6_1
  obtain ⟨x10_1, x634000_1, x634001_1, u634000, u634001, ow_, rfl, HA, HK1, HO_634000, HO_634001, BK632, BK633, HB⟩ := hrel
  cases gk with
  | zero => exact absurd HA.out (by simp [impl_pairs.l0])
  | succ k1 =>
   have H := HA.out
   clear HA
   simp only [impl_pairs.l0] at H
   by_cases c7 : x10_1 < (l0.length : Int)
   rotate_left
   ·rw [if_neg c7] at H
    have c7b0 : decide (x10_1 < (l0.length : Int)) = false := decide_eq_false c7
    clear c7
    simp only [Option.some.injEq, Prod.mk.injEq] at H
    obtain ⟨rfl, rfl⟩ := H
    have hnb28 := NB633_632.out
    have hnc28 := NB632_633.out
    have hcz29_0 : wr.cell? ⟨gb633, 0, none⟩ = some (u634000) := (blk_cell BK633.out 0).trans rfl
    have hcz29_1 : wr.cell? ⟨gb633, 1, none⟩ = some (u634001) := (blk_cell BK633.out 1).trans rfl
    have hfz29_0 := blk_frozen BK633.out 0
    have hfz29_1 := blk_frozen BK633.out 1
    obtain ⟨Ao30, co30, eo30⟩ := Kd.S_slice HO_634000.out
    subst eo30
    have hcz31_0 : wr.cell? ⟨gb632, 0, none⟩ = some (.slice none 0 0) := (blk_cell BK632.out 0).trans rfl
    have hcz31_1 : wr.cell? ⟨gb632, 1, none⟩ = some (.slice none 0 0) := (blk_cell BK632.out 1).trans rfl
    have hfz31_0 := blk_frozen BK632.out 0
    have hfz31_1 := blk_frozen BK632.out 1
    obtain ⟨Ao32, co32, eo32⟩ := Kd.S_slice HO_634001.out
    subst eo32
    go_wp2
    refine bodyPost_ret (results_cell_row rfl _ _ gb632 46 #[.slice Ao30 x634000_1.length co30, .slice Ao32 x634001_1.length co32] (0, 0) _ rfl (by (with_reducible repeat (first | refine blk_drewN ?_ _ | refine blk_drew ?_ | refine blk_alloc ?_ _)); refine blk_put (cs := #[.slice Ao30 x634000_1.length co30, .slice none 0 0]) ?_ 1 _ rfl; (with_reducible repeat (first | refine blk_drewN ?_ _ | refine blk_drew ?_ | refine blk_alloc ?_ _)); refine blk_put (cs := #[.slice none 0 0, .slice none 0 0]) ?_ 0 _ rfl; (with_reducible repeat (first | refine blk_drewN ?_ _ | refine blk_drew ?_ | refine blk_alloc ?_ _)); exact BK632.out) Try.underlying46 rfl (by kernel_rfl)) rfl ?_
    exact ⟨_, _, by first | rfl | (simp [*, errW_none, errW_some] <;> rfl), ow_, by (with_reducible repeat (first | apply Kd.S_alloc | apply Kd.S_drewN | apply Kd.S_drew)); exact Kd.S_mono (Kd.S_far (p := ⟨gb632, 1, none⟩) (Kd.S_far (p := ⟨gb632, 0, none⟩) (Kd.S_types HO_634000.out BK632.out (by decide)) (fun _ hk => hk.2) (.slice Ao30 x634000_1.length co30)) (fun _ hk => hk.2) (.slice Ao32 x634001_1.length co32)) (fun _ hk => hk.1), by (with_reducible repeat (first | apply Kd.S_alloc | apply Kd.S_drewN | apply Kd.S_drew)); exact Kd.S_mono (Kd.S_far (p := ⟨gb632, 1, none⟩) (Kd.S_far (p := ⟨gb632, 0, none⟩) (Kd.S_types HO_634001.out BK632.out (by decide)) (fun _ hk => hk.2) (.slice Ao30 x634000_1.length co30)) (fun _ hk => hk.2) (.slice Ao32 x634001_1.length co32)) (fun _ hk => hk.1), zh HB.out⟩
   rw [if_pos c7] at H
   have c7b0 : decide (x10_1 < (l0.length : Int)) = true := decide_eq_true c7
   clear c7
   by_cases c8 : 0 ≤ x10_1
   rotate_left
   ·rw [if_neg c8] at H
    exact absurd H (by simp)
   rw [if_pos c8] at H
   have c8b0 : decide (0 ≤ x10_1) = true := decide_eq_true c8
   clear c8
   by_cases c9 : x10_1 < (l0.length : Int)
   rotate_left
   ·rw [if_neg c9] at H
    exact absurd H (by simp)
   rw [if_pos c9] at H
   have c9b0 : decide (x10_1 < (l0.length : Int)) = true := decide_eq_true c9
   clear c9
   replace H := Option.bind_eq_some_iff.mp H
   obtain ⟨t635, A100, H⟩ := H
   replace H : (if x634000_1.length < 5864062014805 then (if x10_1 < (l1.length : Int) then ((impl_setOf.f k1 (rd l1 x10_1)).bind fun t642 => (if x634001_1.length < 5864062014805 then (impl_pairs.l0 k1 l0 l1 (l0.length : Int) (wrap64 (x10_1 + 1)) (x634000_1 ++ [t635]) (x634001_1 ++ [t642])) else (none))) else (none)) else (none)) = some (r1, r2) := H
   have A10 := Aside0.mk A100
   clear A100
   by_cases c11 : x634000_1.length < 5864062014805
   rotate_left
   ·rw [if_neg c11] at H
    exact absurd H (by simp)
   rw [if_pos c11] at H
   have LMc11 := Aside0.mk c11
   clear c11
   obtain ⟨y638, hy638⟩ : ∃ y_ : List (List Int), y_ = (x634000_1 ++ [t635]) := ⟨_, rfl⟩
   replace H : (if x10_1 < (l1.length : Int) then ((impl_setOf.f k1 (rd l1 x10_1)).bind fun t642 => (if x634001_1.length < 5864062014805 then (impl_pairs.l0 k1 l0 l1 (l0.length : Int) (wrap64 (x10_1 + 1)) y638 (x634001_1 ++ [t642])) else (none))) else (none)) = some (r1, r2) := by first | (rw [hy638]; with_reducible exact H) | (have H2_ := (Option.bind_some _ _).symm.trans H; rw [hy638]; with_reducible exact H2_) | (have H2_ := (Option.bind_some _ _).symm.trans H; with_reducible exact H2_) | with_reducible exact H | (rw [hy638]; exact H) | exact H
   have Ny638 := Aside0.mk hy638
   clear hy638
   by_cases c12 : x10_1 < (l1.length : Int)
   rotate_left
   ·rw [if_neg c12] at H
    exact absurd H (by simp)
   rw [if_pos c12] at H
   have c12b0 : decide (x10_1 < (l1.length : Int)) = true := decide_eq_true c12
   clear c12
   replace H := Option.bind_eq_some_iff.mp H
   obtain ⟨t642, A130, H⟩ := H
   replace H : (if x634001_1.length < 5864062014805 then (impl_pairs.l0 k1 l0 l1 (l0.length : Int) (wrap64 (x10_1 + 1)) y638 (x634001_1 ++ [t642])) else (none)) = some (r1, r2) := H
   have A13 := Aside0.mk A130
   clear A130
   by_cases c14 : x634001_1.length < 5864062014805
   rotate_left
   ·rw [if_neg c14] at H
    exact absurd H (by simp)
   rw [if_pos c14] at H
   have LMc14 := Aside0.mk c14
   clear c14
   obtain ⟨y645, hy645⟩ : ∃ y_ : List (List Int), y_ = (x634001_1 ++ [t642]) := ⟨_, rfl⟩
   replace H : (impl_pairs.l0 k1 l0 l1 (l0.length : Int) (wrap64 (x10_1 + 1)) y638 y645) = some (r1, r2) := by first | (rw [hy645]; with_reducible exact H) | (have H2_ := (Option.bind_some _ _).symm.trans H; rw [hy645]; with_reducible exact H2_) | (have H2_ := (Option.bind_some _ _).symm.trans H; with_reducible exact H2_) | with_reducible exact H | (rw [hy645]; exact H) | exact H
   have Ny645 := Aside0.mk hy645
   clear hy645
   have H' := Aside0.mk H
   clear H
   try go_wp2
   have n0_ := Aside0.mk (Kd.S_drew HO_634000.out)
   have n1_ := Aside0.mk (Kd.S_drew HO_634001.out)
   have n2_ := Aside0.mk (blk_drew BK632.out)
   have n3_ := Aside0.mk (blk_drew BK633.out)
   have n4_ := Aside0.mk (below_drew1 HB.out)
   clear HO_634000
   clear HO_634001
   clear BK632
   clear BK633
   clear HB
   have HO_634000 := n0_
   have HO_634001 := n1_
   have BK632 := n2_
   have BK633 := n3_
   have HB := n4_
   clear n0_ n1_ n2_ n3_ n4_
   have p634 : 0 ≤ (x10_1 : Int) := of_decide_eq_true (by first | (with_reducible assumption) | assumption)
   have q634 : x10_1 < (l0.length : Int) := of_decide_eq_true (by first | (with_reducible assumption) | assumption)
   obtain ⟨ad634, e634, hx634_0⟩ := Kd.at_int HR0.out x10_1 p634 q634
   have hw634_0 := hx634_0
   cases e634
   replace hx634_0 := (HB.out.cell (World.block_lt_of_cell? w _ hx634_0)).trans hx634_0
   replace p634 := eq_true p634
   replace q634 := eq_true q634
   refine start_ (n := 11) (S := fun w' => w'.cell? ⟨gb633, 0, none⟩ = some (u634000) ∧ w'.cell? ⟨gb633, 1, none⟩ = some (u634001) ∧ w'.cell? (ad634.add (x10_1).toNat) = some (.int .i64 (rd l0 x10_1))) (ds := [10]) (tb 11 0) (by kernel_rfl) rfl rfl ⟨(blk_cell BK633.out 0).trans rfl, (blk_cell BK633.out 1).trans rfl, ((HB.out.cell (World.block_lt_of_cell? w _ hw634_0)).trans hw634_0)⟩ (fun hHeld => ?_); refine with_tabW impl_pairs.tab5 impl_pairs.bits5 (fun HT_ HW_ => ?_)
   generalize wr.drew = w15 at HO_634000 HO_634001 BK632 BK633 HB hx634_0 hHeld ⊢
   refine zu (i := 0) (N := some 13) (tb 11 1) rfl rfl HT_ ?_
   refine zu (i := 2) (N := some 15) (tb 11 5) rfl rfl HT_ ?_
   refine zu (i := 3) (N := some 16) (tb 11 13) rfl rfl HT_ ?_
   refine zu (i := 4) (N := some 17) (tb 11 29) rfl rfl HT_ ?_
   refine take_ (i := 1) (N := some 14) (v := ?_) (a' := ?_) (tb 11 31) rfl rfl (take_ofW HT_.out HW_.out (by kernel_rfl)) (fun _ _ _ h => h) (Or.inl ⟨by rfl, ?_⟩) hHeld ?_ ?_
   rotate_left
   ·rintro w' ⟨s0, s1, s2⟩
    go_simp
    with_reducible rfl
   rotate_left
   ·simp only [Act.put, List.setIfInBounds_toArray, List.set_cons_zero, List.set_cons_succ, i64_w, i32_w]
    rfl
   refine take_ (i := 5) (N := some 18) (v := ?_) (a' := ?_) (tb 11 63) rfl rfl (take_ofW HT_.out HW_.out (by kernel_rfl)) (fun _ _ _ h => h) (Or.inl ⟨by rfl, ?_⟩) hHeld ?_ ?_
   rotate_left
   ·rintro w' ⟨s0, s1, s2⟩
    go_simp
    with_reducible rfl
   rotate_left
   ·simp only [Act.put, List.setIfInBounds_toArray, List.set_cons_zero, List.set_cons_succ, i64_w, i32_w]
    rfl
   refine one_ (i := 6) (N := some 19) (tb 11 127) rfl rfl (one_of HT_.out (by kernel_rfl)) (by decide) (fun K hK => ?_)
   refine goes_ Try.func115 (by kernel_rfl) rfl #[.int .i64 (rd l0 x10_1)] (by rfl) rfl rfl (by (try simp only [List.map_toArray, List.map_cons, List.map_nil]); first | done | rfl | (simp only [List.length_drop, List.length_take]; rfl)) ?_
   with_reducible refine (impl_setOf.calls k1 (rd l0 x10_1) t635 _ A10.out).mono ?_
   rintro e w16 ⟨v636, rfl, ho0, hb⟩
   refine ⟨_, rfl, ?_⟩
   have n0_ := Aside0.mk (Kd.S_elder' (by (with_reducible repeat (first | apply Kd.S_alloc | apply Kd.S_drewN | apply Kd.S_drew)); exact HO_634000.out) (Kd.R_base ho0) hb)
   have n1_ := Aside0.mk (Kd.S_elder' (by (with_reducible repeat (first | apply Kd.S_alloc | apply Kd.S_drewN | apply Kd.S_drew)); exact HO_634001.out) (Kd.R_base ho0) hb)
   have n2_ := Aside0.mk (Kd.R_lower ho0 (below_size (zh HB.out)))
   have n3_ := Aside0.mk (blk_below (g := gb632) (o := .cells #[.slice none 0 0, .slice none 0 0] 46 (0, 0)) (zb BK632.out) hb)
   have n4_ := Aside0.mk (blk_below (g := gb633) (o := .cells #[u634000, u634001] 46 (0, 0)) (zb BK633.out) hb)
   have n5_ := Aside0.mk (below_step (zh HB.out) hb)
   clear HO_634000
   clear HO_634001
   clear BK632
   clear BK633
   clear HB
   have HO_634000 := n0_
   have HO_634001 := n1_
   have HO637 := n2_
   have BK632 := n3_
   have BK633 := n4_
   have HB := n5_
   clear n0_ n1_ n2_ n3_ n4_ n5_
   (try clear hb)
   (try clear hb2)
   (try clear hk)
   (try clear hi)
   (try clear ho0)
   obtain ⟨Ao18, co18, eo18⟩ := Kd.R_slice HO637.out
   (first | subst eo18 | (injection eo18 with f1_ f2_ f3_; have f4_ := f1_.symm; have f5_ := f3_.symm; clear f1_ f2_ f3_; subst f4_; subst f5_))
   refine hK.out _ _ ⟨(blk_cell BK633.out 0).trans rfl, (blk_cell BK633.out 1).trans rfl, ((HB.out.cell (World.block_lt_of_cell? w _ hw634_0)).trans hw634_0)⟩ (fun hHeld => ?_)
   clear hK K
   refine norm_ (a' := ?_) ?_ ?_
   rotate_left
   ·show Act.put _ (some 19) _ = _
    simp only [Act.put, List.setIfInBounds_toArray, List.set_cons_zero, List.set_cons_succ, i64_w, i32_w]
    rfl
   refine one_ (i := 7) (N := some 20) (tb 11 255) rfl rfl (one_of HT_.out (by kernel_rfl)) (by decide) (fun K hK => ?_)
   refine value_ (w1 := ?_) (v := ?_) (by rfl) rfl ?_ ?_
   rotate_left 2
   ·go_simp
    constructor
    ·rfl
    ·rfl
   refine hK.out _ _ ⟨(blk_cell (blk_alloc BK633.out _) 0).trans rfl, (blk_cell (blk_alloc BK633.out _) 1).trans rfl, (World.cell?_alloc_lt _ _ _ (World.block_lt_of_cell? _ _ (((HB.out.cell (World.block_lt_of_cell? w _ hw634_0)).trans hw634_0)))).trans (((HB.out.cell (World.block_lt_of_cell? w _ hw634_0)).trans hw634_0))⟩ (fun hHeld => ?_)
   clear hK K
   refine norm_ (a' := ?_) ?_ ?_
   rotate_left
   ·show Act.put _ (some 20) _ = _
    simp only [Act.put, List.setIfInBounds_toArray, List.set_cons_zero, List.set_cons_succ, i64_w, i32_w]
    rfl
   refine one_ (i := 8) (N := some 21) (tb 11 511) rfl rfl (one_of HT_.out (by kernel_rfl)) (by decide) (fun K hK => ?_)
   refine Kd.S_append_step (Kd.slice 3 (Kd.int .i64)) (w0 := w) w.heap.size (by rfl) (.tmp 14) (.tmp 20) 22 71 (.slice none 0 0) 24 rfl Try.underlying22 info71 rfl (by decide) (by omega) u634000 x634000_1 t635 [.slice Ao18 t635.length co18] (fun k_ => ow2 (ow_) w16.heap.size (.slice Ao18 t635.length co18) true k_ = true) (fun k_ => some k_ = (.slice Ao18 t635.length co18 : Value).ownBlock) rfl rfl ?aP (fun k_ hk_ => ⟨ow2_row hk_, ((Kd.R_apart' HO637.out (Kd.S_typed HO_634000.out) (by decide)).1 k_ hk_.symm).2⟩) ?aF ?aO ?aB ?aS ?aL ?_
   (case aP => exact Kd.M_row (Kd.R_tight rfl HO637.out))
   (case aB => exact (zh HB.out))
   (case aF => exact (fun k_ hk => ow2_new hk))
   (case aO => exact (by (with_reducible repeat (first | apply Kd.S_alloc | apply Kd.S_drewN | apply Kd.S_drew)); exact ow2_a HO_634000.out))
   (case aS => exact (below_size (zh HB.out)))
   (case aL => have := LMc11.out; omega)
   intro v639 w17 ho hb hg hat
   rw [← Ny638.out] at ho
   have n0_ := Aside0.mk (ow2_b (by decide) HO_634001.out (fun k hk => (S_ownOk HO_634000.out k hk).1) hg)
   have n1_ := Aside0.mk (blk_grown (g := gb632) (o := .cells #[.slice none 0 0, .slice none 0 0] 46 (0, 0)) (zb BK632.out) hg (Kd.S_ne HO_634000.out BK632.out (by decide)))
   have n2_ := Aside0.mk (blk_grown (g := gb633) (o := .cells #[u634000, u634001] 46 (0, 0)) (zb BK633.out) hg (Kd.S_ne HO_634000.out BK633.out (by decide)))
   have n3_ := Aside0.mk (hb)
   have n4_ := Aside0.mk (ho)
   clear HO_634001
   clear BK632
   clear BK633
   clear HB
   clear HO_634000
   clear HO637
   have HO_634001 := n0_
   have BK632 := n1_
   have BK633 := n2_
   have HB := n3_
   have HO640 := n4_
   clear n0_ n1_ n2_ n3_ n4_
   clear ho hb hg hat
   obtain ⟨Ao19, co19, eo19⟩ := Kd.S_slice HO640.out
   (first | subst eo19 | (injection eo19 with f1_ f2_ f3_; have f4_ := f1_.symm; have f5_ := f3_.symm; clear f1_ f2_ f3_; subst f4_; subst f5_))
   refine hK.out _ _ ⟨(blk_cell BK633.out 0).trans rfl, (blk_cell BK633.out 1).trans rfl, ((HB.out.cell (World.block_lt_of_cell? w _ hw634_0)).trans hw634_0)⟩ (fun hHeld => ?_)
   clear hK K
   refine norm_ (a' := ?_) ?_ ?_
   rotate_left
   ·show Act.put _ (some 21) _ = _
    simp only [Act.put, List.setIfInBounds_toArray, List.set_cons_zero, List.set_cons_succ, i64_w, i32_w]
    rfl
   refine zu (i := 9) (N := some 22) (tb 11 1023) rfl rfl HT_ ?_
   refine last_ (i := 10) (N := none) (tb 11 2047) rfl rfl (one_of HT_.out (by kernel_rfl)) (by decide) (fun K hK => ?_)
   have hs20 : w17.cell? ⟨gb633, 0, none⟩ = some (u634000) := (blk_cell BK633.out 0).trans rfl
   have hfs20 := blk_frozen BK633.out 0
   have hns20_0 := NB632_633.out
   have hms20_0 := NB633_632.out
   refine skip_ (w1 := ?_) (by rfl) rfl ?_ ?_
   rotate_left
   ·go_simp
    rfl
   refine hK.out _ _ ?_
   clear hK K
   refine done_ (done_of HT_.out (by kernel_rfl)) ?_
   try go_wp2
   have n0_ : Aside0 (Kd.S (Kd.slice 3 (Kd.int .i64)) 71 (w17.setCell ⟨gb633, 0, none⟩ (.slice Ao19 y638.length co19)) w.heap.size (fun k_ => ow2 (ow_) w16.heap.size (.slice Ao18 t635.length co18) true k_ = false) u634001 x634001_1) := ⟨by (with_reducible repeat (first | apply Kd.S_alloc | apply Kd.S_drewN | apply Kd.S_drew)); exact Kd.S_mono (Kd.S_far (p := ⟨gb633, 0, none⟩) (Kd.S_types HO_634001.out BK633.out (by decide)) (fun _ hk => hk.2) (.slice Ao19 y638.length co19)) (fun _ hk => hk.1)⟩
   have n1_ : Aside0 (Kd.S (Kd.slice 3 (Kd.int .i64)) 71 (w17.setCell ⟨gb633, 0, none⟩ (.slice Ao19 y638.length co19)) w.heap.size (fun k_ => ow2 (ow_) w16.heap.size (.slice Ao18 t635.length co18) true k_ = true) (.slice Ao19 y638.length co19) y638) := ⟨by (with_reducible repeat (first | apply Kd.S_alloc | apply Kd.S_drewN | apply Kd.S_drew)); exact Kd.S_mono (Kd.S_far (p := ⟨gb633, 0, none⟩) (Kd.S_types HO640.out BK633.out (by decide)) (fun _ hk => hk.2) (.slice Ao19 y638.length co19)) (fun _ hk => hk.1)⟩
   have n2_ : Aside0 ((w17.setCell ⟨gb633, 0, none⟩ (.slice Ao19 y638.length co19)).heap[gb632]? = some (.cells #[.slice none 0 0, .slice none 0 0] 46 (0, 0))) := ⟨by (with_reducible repeat (first | refine blk_drewN ?_ _ | refine blk_drew ?_ | refine blk_alloc ?_ _)); refine blk_far ?_ NB632_633.out _; (with_reducible repeat (first | refine blk_drewN ?_ _ | refine blk_drew ?_ | refine blk_alloc ?_ _)); exact BK632.out⟩
   have n3_ : Aside0 ((w17.setCell ⟨gb633, 0, none⟩ (.slice Ao19 y638.length co19)).heap[gb633]? = some (.cells #[.slice Ao19 y638.length co19, u634001] 46 (0, 0))) := ⟨by (with_reducible repeat (first | refine blk_drewN ?_ _ | refine blk_drew ?_ | refine blk_alloc ?_ _)); refine blk_put (cs := #[u634000, u634001]) ?_ 0 _ rfl; (with_reducible repeat (first | refine blk_drewN ?_ _ | refine blk_drew ?_ | refine blk_alloc ?_ _)); exact BK633.out⟩
   have n4_ : Aside0 (Below w.heap.size w (w17.setCell ⟨gb633, 0, none⟩ (.slice Ao19 y638.length co19))) := ⟨zh HB.out⟩
   (try clear HO_634001)
   (try clear HO640)
   (try clear BK632)
   (try clear BK633)
   (try clear HB)
   generalize (w17.setCell ⟨gb633, 0, none⟩ (.slice Ao19 y638.length co19)) = w21 at n0_ n1_ n2_ n3_ n4_ ⊢
   have HO_634001 := n0_
   have HO640 := n1_
   have BK632 := n2_
   have BK633 := n3_
   have HB := n4_
   clear n0_ n1_ n2_ n3_ n4_
   have n0_ := Aside0.mk (Kd.S_drew HO_634001.out)
   have n1_ := Aside0.mk (Kd.S_drew HO640.out)
   have n2_ := Aside0.mk (blk_drew BK632.out)
   have n3_ := Aside0.mk (blk_drew BK633.out)
   have n4_ := Aside0.mk (below_drew1 HB.out)
   clear HO_634001
   clear HO640
   clear BK632
   clear BK633
   clear HB
   have HO_634001 := n0_
   have HO640 := n1_
   have BK632 := n2_
   have BK633 := n3_
   have HB := n4_
   clear n0_ n1_ n2_ n3_ n4_
   have p641 : 0 ≤ (x10_1 : Int) := of_decide_eq_true (by first | (with_reducible assumption) | assumption)
   have q641 : x10_1 < (l1.length : Int) := of_decide_eq_true (by first | (with_reducible assumption) | assumption)
   obtain ⟨ad641, e641, hx641_0⟩ := Kd.at_int HR1.out x10_1 p641 q641
   have hw641_0 := hx641_0
   cases e641
   replace hx641_0 := (HB.out.cell (World.block_lt_of_cell? w _ hx641_0)).trans hx641_0
   replace p641 := eq_true p641
   replace q641 := eq_true q641
   refine start_ (n := 11) (S := fun w' => w'.cell? ⟨gb633, 0, none⟩ = some (.slice Ao19 y638.length co19) ∧ w'.cell? ⟨gb633, 1, none⟩ = some (u634001) ∧ w'.cell? (ad641.add (x10_1).toNat) = some (.int .i64 (rd l1 x10_1))) (ds := [10]) (tb 11 0) (by kernel_rfl) rfl rfl ⟨(blk_cell BK633.out 0).trans rfl, (blk_cell BK633.out 1).trans rfl, ((HB.out.cell (World.block_lt_of_cell? w _ hw641_0)).trans hw641_0)⟩ (fun hHeld => ?_); refine with_tabW impl_pairs.tab6 impl_pairs.bits6 (fun HT_ HW_ => ?_)
   generalize w21.drew = w22 at HO_634001 HO640 BK632 BK633 HB hx641_0 hHeld ⊢
   refine zu (i := 0) (N := some 23) (tb 11 1) rfl rfl HT_ ?_
   refine zu (i := 2) (N := some 25) (tb 11 5) rfl rfl HT_ ?_
   refine zu (i := 3) (N := some 26) (tb 11 13) rfl rfl HT_ ?_
   refine zu (i := 4) (N := some 27) (tb 11 29) rfl rfl HT_ ?_
   refine take_ (i := 1) (N := some 24) (v := ?_) (a' := ?_) (tb 11 31) rfl rfl (take_ofW HT_.out HW_.out (by kernel_rfl)) (fun _ _ _ h => h) (Or.inl ⟨by rfl, ?_⟩) hHeld ?_ ?_
   rotate_left
   ·rintro w' ⟨s0, s1, s2⟩
    go_simp
    with_reducible rfl
   rotate_left
   ·simp only [Act.put, List.setIfInBounds_toArray, List.set_cons_zero, List.set_cons_succ, i64_w, i32_w]
    rfl
   refine take_ (i := 5) (N := some 28) (v := ?_) (a' := ?_) (tb 11 63) rfl rfl (take_ofW HT_.out HW_.out (by kernel_rfl)) (fun _ _ _ h => h) (Or.inl ⟨by rfl, ?_⟩) hHeld ?_ ?_
   rotate_left
   ·rintro w' ⟨s0, s1, s2⟩
    go_simp
    with_reducible rfl
   rotate_left
   ·simp only [Act.put, List.setIfInBounds_toArray, List.set_cons_zero, List.set_cons_succ, i64_w, i32_w]
    rfl
   refine one_ (i := 6) (N := some 29) (tb 11 127) rfl rfl (one_of HT_.out (by kernel_rfl)) (by decide) (fun K hK => ?_)
   refine goes_ Try.func115 (by kernel_rfl) rfl #[.int .i64 (rd l1 x10_1)] (by rfl) rfl rfl (by (try simp only [List.map_toArray, List.map_cons, List.map_nil]); first | done | rfl | (simp only [List.length_drop, List.length_take]; rfl)) ?_
   with_reducible refine (impl_setOf.calls k1 (rd l1 x10_1) t642 _ A13.out).mono ?_
   rintro e w23 ⟨v643, rfl, ho0, hb⟩
   refine ⟨_, rfl, ?_⟩
   have n0_ := Aside0.mk (Kd.S_elder' (by (with_reducible repeat (first | apply Kd.S_alloc | apply Kd.S_drewN | apply Kd.S_drew)); exact HO_634001.out) (Kd.R_base ho0) hb)
   have n1_ := Aside0.mk (Kd.S_elder' (by (with_reducible repeat (first | apply Kd.S_alloc | apply Kd.S_drewN | apply Kd.S_drew)); exact HO640.out) (Kd.R_base ho0) hb)
   have n2_ := Aside0.mk (Kd.R_lower ho0 (below_size (zh HB.out)))
   have n3_ := Aside0.mk (blk_below (g := gb632) (o := .cells #[.slice none 0 0, .slice none 0 0] 46 (0, 0)) (zb BK632.out) hb)
   have n4_ := Aside0.mk (blk_below (g := gb633) (o := .cells #[.slice Ao19 y638.length co19, u634001] 46 (0, 0)) (zb BK633.out) hb)
   have n5_ := Aside0.mk (below_step (zh HB.out) hb)
   clear HO_634001
   clear HO640
   clear BK632
   clear BK633
   clear HB
   have HO_634001 := n0_
   have HO640 := n1_
   have HO644 := n2_
   have BK632 := n3_
   have BK633 := n4_
   have HB := n5_
   clear n0_ n1_ n2_ n3_ n4_ n5_
   (try clear hb)
   (try clear hb2)
   (try clear hk)
   (try clear hi)
   (try clear ho0)
   obtain ⟨Ao25, co25, eo25⟩ := Kd.R_slice HO644.out
   (first | subst eo25 | (injection eo25 with f1_ f2_ f3_; have f4_ := f1_.symm; have f5_ := f3_.symm; clear f1_ f2_ f3_; subst f4_; subst f5_))
   refine hK.out _ _ ⟨(blk_cell BK633.out 0).trans rfl, (blk_cell BK633.out 1).trans rfl, ((HB.out.cell (World.block_lt_of_cell? w _ hw641_0)).trans hw641_0)⟩ (fun hHeld => ?_)
   clear hK K
   refine norm_ (a' := ?_) ?_ ?_
   rotate_left
   ·show Act.put _ (some 29) _ = _
    simp only [Act.put, List.setIfInBounds_toArray, List.set_cons_zero, List.set_cons_succ, i64_w, i32_w]
    rfl
   refine one_ (i := 7) (N := some 30) (tb 11 255) rfl rfl (one_of HT_.out (by kernel_rfl)) (by decide) (fun K hK => ?_)
   refine value_ (w1 := ?_) (v := ?_) (by rfl) rfl ?_ ?_
   rotate_left 2
   ·go_simp
    constructor
    ·rfl
    ·rfl
   refine hK.out _ _ ⟨(blk_cell (blk_alloc BK633.out _) 0).trans rfl, (blk_cell (blk_alloc BK633.out _) 1).trans rfl, (World.cell?_alloc_lt _ _ _ (World.block_lt_of_cell? _ _ (((HB.out.cell (World.block_lt_of_cell? w _ hw641_0)).trans hw641_0)))).trans (((HB.out.cell (World.block_lt_of_cell? w _ hw641_0)).trans hw641_0))⟩ (fun hHeld => ?_)
   clear hK K
   refine norm_ (a' := ?_) ?_ ?_
   rotate_left
   ·show Act.put _ (some 30) _ = _
    simp only [Act.put, List.setIfInBounds_toArray, List.set_cons_zero, List.set_cons_succ, i64_w, i32_w]
    rfl
   refine one_ (i := 8) (N := some 31) (tb 11 511) rfl rfl (one_of HT_.out (by kernel_rfl)) (by decide) (fun K hK => ?_)
   refine Kd.S_append_step (Kd.slice 3 (Kd.int .i64)) (w0 := w) w.heap.size (by rfl) (.tmp 24) (.tmp 30) 22 71 (.slice none 0 0) 24 rfl Try.underlying22 info71 rfl (by decide) (by omega) u634001 x634001_1 t642 [.slice Ao25 t642.length co25] (fun k_ => ow2 (ow2 (ow_) w16.heap.size (.slice Ao18 t635.length co18) true) w23.heap.size (.slice Ao25 t642.length co25) false k_ = false) (fun k_ => some k_ = (.slice Ao25 t642.length co25 : Value).ownBlock) rfl rfl ?aP (fun k_ hk_ => ⟨ow2_row hk_, ((Kd.R_apart' HO644.out (Kd.S_typed HO_634001.out) (by decide)).1 k_ hk_.symm).2⟩) ?aF ?aO ?aB ?aS ?aL ?_
   (case aP => exact Kd.M_row (Kd.R_tight rfl HO644.out))
   (case aB => exact (zh HB.out))
   (case aF => exact (fun k_ hk => ow2_new hk))
   (case aO => exact (by (with_reducible repeat (first | apply Kd.S_alloc | apply Kd.S_drewN | apply Kd.S_drew)); exact ow2_a HO_634001.out))
   (case aS => exact (below_size (zh HB.out)))
   (case aL => have := LMc14.out; omega)
   intro v646 w24 ho hb hg hat
   rw [← Ny645.out] at ho
   have n0_ := Aside0.mk (blk_grown (g := gb632) (o := .cells #[.slice none 0 0, .slice none 0 0] 46 (0, 0)) (zb BK632.out) hg (Kd.S_ne HO_634001.out BK632.out (by decide)))
   have n1_ := Aside0.mk (blk_grown (g := gb633) (o := .cells #[.slice Ao19 y638.length co19, u634001] 46 (0, 0)) (zb BK633.out) hg (Kd.S_ne HO_634001.out BK633.out (by decide)))
   have n2_ := Aside0.mk (ow2_b (by decide) HO640.out (fun k hk => (S_ownOk HO_634001.out k hk).1) hg)
   have n3_ := Aside0.mk (hb)
   have n4_ := Aside0.mk (ho)
   clear BK632
   clear BK633
   clear HO640
   clear HB
   clear HO_634001
   clear HO644
   have BK632 := n0_
   have BK633 := n1_
   have HO640 := n2_
   have HB := n3_
   have HO647 := n4_
   clear n0_ n1_ n2_ n3_ n4_
   clear ho hb hg hat
   obtain ⟨Ao26, co26, eo26⟩ := Kd.S_slice HO647.out
   (first | subst eo26 | (injection eo26 with f1_ f2_ f3_; have f4_ := f1_.symm; have f5_ := f3_.symm; clear f1_ f2_ f3_; subst f4_; subst f5_))
   refine hK.out _ _ ⟨(blk_cell BK633.out 0).trans rfl, (blk_cell BK633.out 1).trans rfl, ((HB.out.cell (World.block_lt_of_cell? w _ hw641_0)).trans hw641_0)⟩ (fun hHeld => ?_)
   clear hK K
   refine norm_ (a' := ?_) ?_ ?_
   rotate_left
   ·show Act.put _ (some 31) _ = _
    simp only [Act.put, List.setIfInBounds_toArray, List.set_cons_zero, List.set_cons_succ, i64_w, i32_w]
    rfl
   refine zu (i := 9) (N := some 32) (tb 11 1023) rfl rfl HT_ ?_
   refine last_ (i := 10) (N := none) (tb 11 2047) rfl rfl (one_of HT_.out (by kernel_rfl)) (by decide) (fun K hK => ?_)
   have hs27 : w24.cell? ⟨gb633, 1, none⟩ = some (u634001) := (blk_cell BK633.out 1).trans rfl
   have hfs27 := blk_frozen BK633.out 1
   have hns27_0 := NB632_633.out
   have hms27_0 := NB633_632.out
   refine skip_ (w1 := ?_) (by rfl) rfl ?_ ?_
   rotate_left
   ·go_simp
    rfl
   refine hK.out _ _ ?_
   clear hK K
   refine done_ (done_of HT_.out (by kernel_rfl)) ?_
   try go_wp2
   go_roundg k1
   case measure => have := HK1.out; omega
   case rel => exact ⟨(wrap64 (x10_1 + 1)), (y638), (y645), (.slice Ao19 y638.length co19), (.slice Ao26 y645.length co26), (ow2 (ow2 (ow_) w16.heap.size (.slice Ao18 t635.length co18) true) w23.heap.size (.slice Ao25 t642.length co25) false), (by first | rfl | (simp; done) | (simp [*]; done)), H', ⟨by have := HK1.out; omega⟩, ⟨by (with_reducible repeat (first | apply Kd.S_alloc | apply Kd.S_drewN | apply Kd.S_drew)); exact Kd.S_mono (Kd.S_far (p := ⟨gb633, 1, none⟩) (Kd.S_types HO640.out BK633.out (by decide)) (fun _ hk => hk.2) (.slice Ao26 y645.length co26)) (fun _ hk => hk.1)⟩, ⟨by (with_reducible repeat (first | apply Kd.S_alloc | apply Kd.S_drewN | apply Kd.S_drew)); exact Kd.S_mono (Kd.S_far (p := ⟨gb633, 1, none⟩) (Kd.S_types HO647.out BK633.out (by decide)) (fun _ hk => hk.2) (.slice Ao26 y645.length co26)) (fun _ hk => hk.1)⟩, ⟨by (with_reducible repeat (first | refine blk_drewN ?_ _ | refine blk_drew ?_ | refine blk_alloc ?_ _)); refine blk_far ?_ NB632_633.out _; (with_reducible repeat (first | refine blk_drewN ?_ _ | refine blk_drew ?_ | refine blk_alloc ?_ _)); exact BK632.out⟩, ⟨by (with_reducible repeat (first | refine blk_drewN ?_ _ | refine blk_drew ?_ | refine blk_alloc ?_ _)); refine blk_put (cs := #[.slice Ao19 y638.length co19, u634001]) ?_ 1 _ rfl; (with_reducible repeat (first | refine blk_drewN ?_ _ | refine blk_drew ?_ | refine blk_alloc ?_ _)); exact BK633.out⟩, ⟨zh HB.out⟩⟩
section
variable (a1 : Int → Int → Int → Int → Option Bool)
mutual
def impl_votes_firstOfTwo.l0 : Nat → List Int → List Int → Int → Int → Int → List Bool → Option ((List (List Int)) × (List (List Int)) × Bool)
 | 0, _, _, _, _, _, _ => none
 | k + 1, x6, x16, x17, x18, x649000, x649001 => if x18 < x17 then (if 0 ≤ x18 then (if x18 < (x16.length : Int) then (if x18 ≤ (x6.length : Int) then ((some (x6.drop (x18 : Int).toNat : List Int)).bind fun y654 => (impl_votes_firstOfTwo.l1 k x6 (rd x16 x18) x16 x17 x18 y654 (y654.length : Int) 0 x649000 x649001)) else (none)) else (none)) else (none)) else (some (([] : List (List Int)), ([] : List (List Int)), false))
def impl_votes_firstOfTwo.l1 : Nat → List Int → Int → List Int → Int → Int → List Int → Int → Int → Int → List Bool → Option ((List (List Int)) × (List (List Int)) × Bool)
 | 0, _, _, _, _, _, _, _, _, _, _ => none
 | k + 1, x6, x8, x16, x17, x18, x25, x26, x27, x649000, x649001 => if x27 < x26 then (if 0 ≤ x27 then (if x27 < (x25.length : Int) then (if 0 ≤ x8 then (if x8 < (x649001.length : Int) then (if rdOf false x649001 x8 = true then (if 0 ≤ (rd x25 x27) then (if (rd x25 x27) < (x649001.length : Int) then (impl_votes_firstOfTwo.j2 k x6 x8 (rd x25 x27) x16 x17 x18 x25 x26 x27 (!(rdOf false x649001 (rd x25 x27))) x649000 x649001) else (none)) else (none)) else (impl_votes_firstOfTwo.j2 k x6 x8 (rd x25 x27) x16 x17 x18 x25 x26 x27 true x649000 x649001)) else (none)) else (none)) else (none)) else (none)) else (impl_votes_firstOfTwo.l0 k x6 x16 x17 (wrap64 (x18 + 1)) x649000 x649001)
def impl_votes_firstOfTwo.j2 : Nat → List Int → Int → Int → List Int → Int → Int → List Int → Int → Int → Bool → Int → List Bool → Option ((List (List Int)) × (List (List Int)) × Bool)
 | 0, _, _, _, _, _, _, _, _, _, _, _, _ => none
 | k + 1, x6, x8, x10, x16, x17, x18, x25, x26, x27, x44, x649000, x649001 => if x44 = true then (impl_votes_firstOfTwo.l1 k x6 x8 x16 x17 x18 x25 x26 (wrap64 (x27 + 1)) x649000 x649001) else (impl_votes_firstOfTwo.l2 k x6 x8 x10 x16 x17 x18 x25 x26 x27 x6 (x6.length : Int) 0 x649000 x649001)
def impl_votes_firstOfTwo.l2 : Nat → List Int → Int → Int → List Int → Int → Int → List Int → Int → Int → List Int → Int → Int → Int → List Bool → Option ((List (List Int)) × (List (List Int)) × Bool)
 | 0, _, _, _, _, _, _, _, _, _, _, _, _, _, _ => none
 | k + 1, x6, x8, x10, x16, x17, x18, x25, x26, x27, x45, x46, x47, x649000, x649001 => if x47 < x46 then (if 0 ≤ x47 then (if x47 < (x45.length : Int) then (if 0 ≤ (rd x45 x47) then (if (rd x45 x47) < (x649001.length : Int) then (if rdOf false x649001 (rd x45 x47) = true then (impl_votes_firstOfTwo.j4 k x6 x8 x10 x47 (rd x45 x47) x16 x17 x18 x25 x26 x27 x45 x46 x47 true x649000 x649001) else (if (Go.bits .and .i64 (rd x45 x47) (Go.bits .and .i64 x8 x10)) = (Go.bits .and .i64 x8 x10) then (impl_votes_firstOfTwo.j4 k x6 x8 x10 x47 (rd x45 x47) x16 x17 x18 x25 x26 x27 x45 x46 x47 ((Go.bits .andNot .i64 (rd x45 x47) (Go.bits .or .i64 x8 x10)) != 0) x649000 x649001) else (impl_votes_firstOfTwo.j4 k x6 x8 x10 x47 (rd x45 x47) x16 x17 x18 x25 x26 x27 x45 x46 x47 true x649000 x649001))) else (none)) else (none)) else (none)) else (none)) else (impl_votes_firstOfTwo.l1 k x6 x8 x16 x17 x18 x25 x26 (wrap64 (x27 + 1)) x649000 x649001)
def impl_votes_firstOfTwo.j4 : Nat → List Int → Int → Int → Int → Int → List Int → Int → Int → List Int → Int → Int → List Int → Int → Int → Bool → Int → List Bool → Option ((List (List Int)) × (List (List Int)) × Bool)
 | 0, _, _, _, _, _, _, _, _, _, _, _, _, _, _, _, _, _ => none
 | k + 1, x6, x8, x10, x11, x12, x16, x17, x18, x25, x26, x27, x45, x46, x47, x75, x649000, x649001 => if x75 = true then (impl_votes_firstOfTwo.l2 k x6 x8 x10 x16 x17 x18 x25 x26 x27 x45 x46 (wrap64 (x47 + 1)) x649000 x649001) else (if 0 ≤ (Go.bits .or .i64 (Go.bits .and .i64 x8 x10) (Go.bits .andNot .i64 (Go.bits .or .i64 x8 x10) x12)) then (if (Go.bits .or .i64 (Go.bits .and .i64 x8 x10) (Go.bits .andNot .i64 (Go.bits .or .i64 x8 x10) x12)) < (x649001.length : Int) then (if (rdOf false x649001 (Go.bits .or .i64 (Go.bits .and .i64 x8 x10) (Go.bits .andNot .i64 (Go.bits .or .i64 x8 x10) x12)) = true) then (impl_votes_firstOfTwo.l2 k x6 x8 x10 x16 x17 x18 x25 x26 x27 x45 x46 (wrap64 (x47 + 1)) x649000 x649001) else (if 0 ≤ x11 then (if x11 ≤ (x6.length : Int) then ((slices_Contains_int_int.f k (x6.drop (x11 : Int).toNat) (Go.bits .or .i64 (Go.bits .and .i64 x8 x10) (Go.bits .andNot .i64 (Go.bits .or .i64 x8 x10) x12))).bind fun t668 => (if t668 = true then ((a1 x8 x10 x12 (Go.bits .or .i64 (Go.bits .and .i64 x8 x10) (Go.bits .andNot .i64 (Go.bits .or .i64 x8 x10) x12))).bind fun t669 => (if t669 = true then ((impl_pairs.f k (([x8, x10] : List Int)) (([x12, Go.bits .or .i64 (Go.bits .and .i64 x8 x10) (Go.bits .andNot .i64 (Go.bits .or .i64 x8 x10) x12)] : List Int))).bind fun bt676 => (some (bt676.1, bt676.2, true))) else (impl_votes_firstOfTwo.l2 k x6 x8 x10 x16 x17 x18 x25 x26 x27 x45 x46 (wrap64 (x47 + 1)) x649000 x649001))) else (impl_votes_firstOfTwo.l2 k x6 x8 x10 x16 x17 x18 x25 x26 x27 x45 x46 (wrap64 (x47 + 1)) x649000 x649001))) else (none)) else (none))) else (none)) else (none))
end
def impl_votes_firstOfTwo.f (k : Nat) (a0_0 : Int) (l0_1 : List Bool) (a1 : Int → Int → Int → Int → Option Bool) : Option ((List (List Int)) × (List (List Int)) × Bool) := (impl_votes_ordered.f k a0_0 l0_1).bind fun t650 => (impl_votes_firstOfTwo.l0 a1 k t650 t650 (t650.length : Int) 0 a0_0 l0_1)
set_option maxHeartbeats 8000000 in
set_option maxRecDepth 100000 in
theorem impl_votes_firstOfTwo.calls (k : Nat) (a0_0 : Int) (A0_1 : Option Addr) (c0_1 : Nat) (l0_1 : List Bool) (a1 : Int → Int → Int → Int → Option Bool) (g_ : Nat) (fa_ lb_ : Array Value) (eg_ : ∀ args w, (callFunc g_ args).run Try.prog w = .ok (.enter g_ args) w) (r1 : List (List Int)) (r2 : List (List Int)) (r3 : Bool) (w : World) (hp0_ : PredI4 Try.prog g_ fa_ lb_ w a1) (hr0_1 : Kd.C Kd.bool w A0_1 l0_1.length l0_1) (hc0_1 : l0_1.length ≤ c0_1) (h : impl_votes_firstOfTwo.f k a0_0 l0_1 a1 = some (r1, r2, r3)) :
  Calls Try.prog 64 #[.agg #[.int .i64 a0_0, .slice A0_1 l0_1.length c0_1], .func (.func g_) fa_ lb_] w fun e w' => ∃ v0_ v1_ : Value, e = .returned (.tuple #[.agg #[v0_, v1_], .bool r3]) ∧ ∃ ow_ : Nat → Bool, Kd.S (Kd.slice 3 (Kd.int .i64)) 71 w' w.heap.size (fun k_ => ow_ k_ = true) v0_ r1 ∧ Kd.S (Kd.slice 3 (Kd.int .i64)) 71 w' w.heap.size (fun k_ => ow_ k_ = false) v1_ r2 ∧ Below w.heap.size w w' := by
 have hp_ := Aside0.mk hp0_
 clear hp0_
 have hu62 := Try.underlying62
 have hu46 := Try.underlying46
 have HR0_1 := Aside0.mk hr0_1
 have HC0_1 := Aside0.mk hc0_1
 clear hr0_1 hc0_1
 have HB := Aside0.mk (Below.refl w.heap.size w)
 have H : ((impl_votes_ordered.f k a0_0 l0_1).bind fun t650 => (impl_votes_firstOfTwo.l0 a1 k t650 t650 (t650.length : Int) 0 a0_0 l0_1)) = some (r1, r2, r3) := h
 clear h
 replace H := Option.bind_eq_some_iff.mp H
 obtain ⟨t650, A30, H⟩ := H
 replace H : (impl_votes_firstOfTwo.l0 a1 k t650 t650 (t650.length : Int) 0 a0_0 l0_1) = some (r1, r2, r3) := H
 have A3 := Aside0.mk A30
 clear A30
 have H' := Aside0.mk H
 clear H
 go_enter Try.func64, Try.ntmps64
 go_wp2_with (first | ((with_reducible refine gate_dst (N := 2) rfl ?_); refine box_event ?hg (N := 2) ?hd (cs := #[.int .i64 a0_0, .slice A0_1 l0_1.length c0_1]) (t := 62) ?hr ?_; (case hd => rfl); (case hg => rfl); (case hr => first | (go_simp; done) | (go_simp; rfl)); intro gb648 hg w4 hbox hb; have n2_ := Aside0.mk ((by rw [hg]; exact (below_size (zh HB.out)) : w.heap.size ≤ gb648)); replace HB := Aside0.mk (below_step (zh HB.out) hb); have BK648 := Aside0.mk hbox; have GW648 := n2_; have GE648 := n2_; clear n2_ hb hbox hg) | ((with_reducible refine gate_dst (N := 4) rfl ?_); refine box_event ?hg (N := 4) ?hd (cs := #[.slice none 0 0, .slice none 0 0]) (t := 46) ?hr ?_; (case hd => rfl); (case hg => rfl); (case hr => first | (go_simp; done) | (go_simp; rfl)); intro gb649 hg w5 hbox hb; have n0_ := Aside0.mk (blk_below (g := gb648) (o := .cells #[.int .i64 a0_0, .slice A0_1 l0_1.length c0_1] 62 (0, 0)) (zb BK648.out) hb); have n1_ := Aside0.mk (below_step (zh HB.out) hb); have n2_ := Aside0.mk (hbox); have n3_ := Aside0.mk ((by rw [hg]; exact (below_size (zh HB.out)) : w.heap.size ≤ gb649)); have n4_ := Aside0.mk ((by rw [hg]; exact (below_size (zh HB.out)) : w.heap.size ≤ gb649)); have n5_ := Aside0.mk ((by rw [hg]; exact Nat.ne_of_lt (blk_lt (g := gb648) (o := .cells #[.int .i64 a0_0, .slice A0_1 l0_1.length c0_1] 62 (0, 0)) (zb BK648.out)) : gb648 ≠ gb649)); have n6_ := Aside0.mk ((by rw [hg]; exact Nat.ne_of_gt (blk_lt (g := gb648) (o := .cells #[.int .i64 a0_0, .slice A0_1 l0_1.length c0_1] 62 (0, 0)) (zb BK648.out)) : gb649 ≠ gb648)); clear BK648; clear HB; have BK648 := n0_; have HB := n1_; have BK649 := n2_; have GW649 := n3_; have GE649 := n4_; have NB648_649 := n5_; have NB649_648 := n6_; clear n0_ n1_ n2_ n3_ n4_ n5_ n6_; clear hb hbox hg; have hnb6 := NB648_649.out; have hnc6 := NB649_648.out; have hcz7_0 : w5.cell? ⟨gb648, 0, none⟩ = some (.int .i64 a0_0) := (blk_cell BK648.out 0).trans rfl; have hcz7_1 : w5.cell? ⟨gb648, 1, none⟩ = some (.slice A0_1 l0_1.length c0_1) := (blk_cell BK648.out 1).trans rfl; have hfz7_0 := blk_frozen BK648.out 0; have hfz7_1 := blk_frozen BK648.out 1) | ((with_reducible refine gate_callee (f := 96) rfl ?_); refine goesL_ (some 15) rfl rfl Try.func96 (by kernel_rfl) rfl #[.agg #[.int .i64 a0_0, .slice A0_1 l0_1.length c0_1]] rfl (by (try simp only [List.map_toArray, List.map_cons, List.map_nil]); first | done | rfl | (simp only [List.length_drop, List.length_take]; rfl)) ?_; (with_reducible refine (impl_votes_ordered.calls k a0_0 _ _ l0_1 t650 _ ?side1 ?side2 A3.out).mono ?_); (case side1 => repeat (first | exact (Kd.C_below HR0_1.out HB.out) | (with_reducible refine Kd.C_alloc ?_ _) | (with_reducible refine Kd.C_drewN ?_ _) | (with_reducible refine Kd.C_drew ?_))); (case side2 => exact HC0_1.out); rintro e w8 ⟨v651, rfl, ho0, hb⟩; refine ⟨_, rfl, ?_⟩; have n0_ := Aside0.mk (Kd.R_lower ho0 (below_size (zh HB.out))); have n1_ := Aside0.mk (blk_below (g := gb648) (o := .cells #[.int .i64 a0_0, .slice A0_1 l0_1.length c0_1] 62 (0, 0)) (zb BK648.out) hb); have n2_ := Aside0.mk (blk_below (g := gb649) (o := .cells #[.slice none 0 0, .slice none 0 0] 46 (0, 0)) (zb BK649.out) hb); have n3_ := Aside0.mk (below_step (zh HB.out) hb); clear BK648; clear BK649; clear HB; have HO652 := n0_; have BK648 := n1_; have BK649 := n2_; have HB := n3_; clear n0_ n1_ n2_ n3_; (try clear hb); (try clear hb2); (try clear hk); (try clear hi); (try clear ho0); obtain ⟨Ao9, co9, eo9⟩ := Kd.R_slice HO652.out; subst eo9))
 go_loopg [18] k (fun kq v18 w' => ∃ (x18_1 : Int), v18 = .int .i64 x18_1 ∧ Aside0 (impl_votes_firstOfTwo.l0 a1 kq t650 t650 (t650.length : Int) x18_1 a0_0 l0_1 = some (r1, r2, r3)) ∧ Aside0 (kq ≤ k) ∧ Aside0 (Kd.R (Kd.int .i64) 3 w' w.heap.size (fun _ => True) (.slice Ao9 t650.length co9) t650) ∧ Aside0 (Kd.R (Kd.int .i64) 3 w' w.heap.size (fun _ => True) (.slice Ao9 t650.length co9) t650) ∧ Aside0 (w'.heap[gb648]? = some (.cells #[.int .i64 a0_0, (.slice A0_1 l0_1.length c0_1)] 62 (0, 0))) ∧ Aside0 (w'.heap[gb649]? = some (.cells #[(.slice none 0 0), (.slice none 0 0)] 46 (0, 0))) ∧ Aside0 (Below w.heap.size w w'))
 case atStart => exact ⟨(0), (by first | rfl | (simp; done) | (simp [*]; done)), H', ⟨Nat.le_refl _⟩, ⟨zr HO652.out⟩, ⟨zr HO652.out⟩, ⟨zb BK648.out⟩, ⟨zb BK649.out⟩, ⟨zh HB.out⟩⟩
 case round =>
  clear H'
  try clear p2
  try clear c6
  try clear c9
  try clear hcz7_0
  try clear hcz7_1
  try clear hfz7_0
  try clear hfz7_1
  obtain ⟨x18_1, rfl, HA, HK1, HO_6, HO_16, BK648, BK649, HB⟩ := hrel
  cases gk with
  | zero => exact absurd HA.out (by simp [impl_votes_firstOfTwo.l0])
  | succ k1 =>
   have H := HA.out
   clear HA
   simp only [impl_votes_firstOfTwo.l0] at H
   by_cases c10 : x18_1 < (t650.length : Int)
   ·rw [if_pos c10] at H
    have c10b0 : decide (x18_1 < (t650.length : Int)) = true := decide_eq_true c10
    clear c10
    by_cases c11 : 0 ≤ x18_1
    ·rw [if_pos c11] at H
     have c11b0 : decide (0 ≤ x18_1) = true := decide_eq_true c11
     clear c11
     by_cases c12 : x18_1 < (t650.length : Int)
     ·rw [if_pos c12] at H
      have c12b0 : decide (x18_1 < (t650.length : Int)) = true := decide_eq_true c12
      clear c12
      have c13b0 := eq_true (of_decide_eq_true (by first | (with_reducible assumption) | assumption) : 0 ≤ x18_1)
      by_cases c14 : x18_1 ≤ (t650.length : Int)
      ·rw [if_pos c14] at H
       have c14b0 := eq_true c14
       have c14b1 : decide (x18_1 ≤ (t650.length : Int)) = true := decide_eq_true c14
       clear c14
       obtain ⟨y654, hy654⟩ : ∃ y_ : List Int, y_ = (t650.drop (x18_1 : Int).toNat) := ⟨_, rfl⟩
       replace H : (impl_votes_firstOfTwo.l1 a1 k1 t650 (rd t650 x18_1) t650 (t650.length : Int) x18_1 y654 (y654.length : Int) 0 a0_0 l0_1) = some (r1, r2, r3) := by first | (rw [hy654]; with_reducible exact H) | (have H2_ := (Option.bind_some _ _).symm.trans H; rw [hy654]; with_reducible exact H2_) | (have H2_ := (Option.bind_some _ _).symm.trans H; with_reducible exact H2_) | with_reducible exact H | (rw [hy654]; exact H) | exact H
       have Ny654 := Aside0.mk hy654
       clear hy654
       have H' := Aside0.mk H
       clear H
       have p653 : 0 ≤ (x18_1 : Int) := of_decide_eq_true (by first | (with_reducible assumption) | assumption)
       have q653 : x18_1 < (t650.length : Int) := of_decide_eq_true (by first | (with_reducible assumption) | assumption)
       obtain ⟨ad653, e653, hx653_0⟩ := Kd.at_int (Kd.R_reads' HO_16.out).2.2 x18_1 p653 q653
       cases e653
       replace p653 := eq_true p653
       replace q653 := eq_true q653
       have q15 : (x18_1 : Int) ≤ ((t650.length : Int) : Int) := of_decide_eq_true (by first | (with_reducible assumption) | assumption)
       obtain ⟨i015, hi015, _, hsz15, _⟩ := info_parts info3
       have hroom15 : t650.length ≤ co9 := (Kd.R_reads' HO_6.out).2.1
       have hC15 : Kd.C (Kd.int .i64) _ (some ad653) t650.length t650 := (Kd.R_reads' HO_6.out).2.2
       have q015 : (0 : Int) ≤ (x18_1 : Int) := of_decide_eq_true (by first | (with_reducible assumption) | assumption)
       have hcut15 := cut_from (P := Try.prog) 71 3 .i64 Try.underlying71 hi015 1 hsz15 (some ad653) t650.length co9 x18_1 q015 q15
       have hr15 := Kd.C_drop (m := (x18_1 : Int).toNat) (c := co9) hC15 (by omega) hroom15
       obtain ⟨A657, hA15⟩ : ∃ A1, A1 = (if co9 = (x18_1 : Int).toNat then (some ad653) else ((some ad653) : Option Addr).map (·.add ((x18_1 : Int).toNat * 1))) := ⟨_, rfl⟩
       obtain ⟨c15, hc15⟩ : ∃ c1, c1 = co9 - (x18_1 : Int).toNat := ⟨_, rfl⟩
       have hy15 : y654.length = t650.length - (x18_1 : Int).toNat := (by rw [Ny654.out, List.length_drop] <;> omega)
       rw [show (t650).drop (x18_1 : Int).toNat = y654 from Ny654.out.symm] at hr15
       replace hr15 : Kd.C (Kd.int .i64) _ A657 y654.length y654 := (by rw [hA15]; exact hr15)
       rw [← hy15, ← hA15, ← hc15] at hcut15
       have HR657 := Aside0.mk hr15
       have HC657 := Aside0.mk (show y654.length ≤ c15 from by rw [hy15, hc15]; exact Nat.sub_le_sub_right hroom15 _)
       clear hr15 hC15 hroom15 hi015 hsz15 hc15
       have KY15 := Aside0.mk hy15
       have KA15 := Aside0.mk hA15
       clear hy15 hA15
       have KL15 := Aside0.mk (show (x18_1 : Int).toNat ≤ t650.length from by omega)
       replace q15 := eq_true q15
       go_wp2
       go_loopg [27] k1 (fun kq v27 w' => ∃ (x27_2 : Int), v27 = .int .i64 x27_2 ∧ Aside0 (impl_votes_firstOfTwo.l1 a1 kq t650 (rd t650 x18_1) t650 (t650.length : Int) x18_1 y654 (y654.length : Int) x27_2 a0_0 l0_1 = some (r1, r2, r3)) ∧ Aside0 (kq ≤ k1) ∧ Aside0 (Kd.R (Kd.int .i64) 3 w' w.heap.size (fun _ => True) (.slice (some ad653) t650.length co9) t650) ∧ Aside0 (Kd.R (Kd.int .i64) 3 w' w.heap.size (fun _ => True) (.slice (some ad653) t650.length co9) t650) ∧ Aside0 (w'.heap[gb648]? = some (.cells #[.int .i64 a0_0, (.slice A0_1 l0_1.length c0_1)] 62 (0, 0))) ∧ Aside0 (w'.heap[gb649]? = some (.cells #[(.slice none 0 0), (.slice none 0 0)] 46 (0, 0))) ∧ Aside0 (Kd.C (Kd.int .i64) w' A657 y654.length y654) ∧ Aside0 (Below w.heap.size w w'))
       case atStart => exact ⟨(0), (by first | rfl | (simp; done) | (simp [*]; done)), H', ⟨Nat.le_refl _⟩, ⟨zr HO_6.out⟩, ⟨zr HO_16.out⟩, ⟨zb BK648.out⟩, ⟨zb BK649.out⟩, ⟨by repeat (first | (with_reducible exact HR657.out) | (with_reducible refine Kd.C_alloc ?_ _) | (with_reducible refine Kd.C_drewN ?_ _) | (with_reducible refine Kd.C_drew ?_) | exact HR657.out)⟩, ⟨zh HB.out⟩⟩
       case round =>
        clear H'
        try clear c1
        try clear q1
        try clear p2
        try clear c6
        try clear p6
        try clear q6
        try clear hx6
        try clear c9
        try clear c10
        try clear c10b0
        try clear c11
        try clear c11b0
        try clear c12
        try clear c12b0
        try clear c13
        try clear c13b0
        try clear c14
        try clear c14b0
        try clear c14b1
        try clear c15
        try clear q15
        try clear hcz7_0
        try clear hcz7_1
        try clear hfz7_0
        try clear hfz7_1
        try clear hx653_0
        try clear p2
        try clear p653
        try clear q015
        try clear q15
        try clear q653
        obtain ⟨x27_2, rfl, HA, HK2, HO_6, HO_16, BK648, BK649, HR657, HB⟩ := hrel
        cases gk with
        | zero => exact absurd HA.out (by simp [impl_votes_firstOfTwo.l1])
        | succ k2 =>
         have H := HA.out
         clear HA
         simp only [impl_votes_firstOfTwo.l1] at H
         by_cases c16 : x27_2 < (y654.length : Int)
         ·rw [if_pos c16] at H
          have c16b0 : decide (x27_2 < (y654.length : Int)) = true := decide_eq_true c16
          clear c16
          by_cases c17 : 0 ≤ x27_2
          ·rw [if_pos c17] at H
           have c17b0 : decide (0 ≤ x27_2) = true := decide_eq_true c17
           clear c17
           by_cases c18 : x27_2 < (y654.length : Int)
           ·rw [if_pos c18] at H
            have c18b0 : decide (x27_2 < (y654.length : Int)) = true := decide_eq_true c18
            clear c18
            have HC19 := Aside0.mk H
            clear H
            have p658 : 0 ≤ (x27_2 : Int) := of_decide_eq_true (by first | (with_reducible assumption) | assumption)
            have q658 : x27_2 < (y654.length : Int) := of_decide_eq_true (by first | (with_reducible assumption) | assumption)
            obtain ⟨ad658, e658, hx658_0⟩ := Kd.at_int HR657.out x27_2 p658 q658
            cases e658
            (try replace hx658_0 := (HB.out.cell (World.block_lt_of_cell? w _ hx658_0)).trans hx658_0)
            replace p658 := eq_true p658
            replace q658 := eq_true q658
            go_upto_region 8 with (fail)
            go_cut [44] (fun v44 wc => ∃ (kq : Nat) (x44_18 : Bool), v44 = .bool x44_18 ∧ Aside0 (impl_votes_firstOfTwo.j2 a1 kq t650 (rd t650 x18_1) (rd y654 x27_2) t650 (t650.length : Int) x18_1 y654 (y654.length : Int) x27_2 x44_18 a0_0 l0_1 = some (r1, r2, r3)) ∧ Aside0 (kq ≤ k2) ∧ Aside0 (Kd.R (Kd.int .i64) 3 wc w.heap.size (fun _ => True) (.slice (some ad653) t650.length co9) t650) ∧ Aside0 (Kd.R (Kd.int .i64) 3 wc w.heap.size (fun _ => True) (.slice (some ad653) t650.length co9) t650) ∧ Aside0 (wc.heap[gb648]? = some (.cells #[.int .i64 a0_0, (.slice A0_1 l0_1.length c0_1)] 62 (0, 0))) ∧ Aside0 (wc.heap[gb649]? = some (.cells #[(.slice none 0 0), (.slice none 0 0)] 46 (0, 0))) ∧ Aside0 (Kd.C (Kd.int .i64) wc (some ad658) y654.length y654) ∧ Aside0 (Below w.heap.size w wc))
            case first =>
             have H := HC19.out
             clear HC19
             by_cases c20 : 0 ≤ (rd t650 x18_1)
             ·rw [if_pos c20] at H
              have c20b0 : decide (0 ≤ (rd t650 x18_1)) = true := decide_eq_true c20
              clear c20
              (first | rw [c20b0] | (simp only [i64_w, i32_w]; rw [c20b0]) | skip)
              by_cases c21 : (rd t650 x18_1) < (l0_1.length : Int)
              ·rw [if_pos c21] at H
               have c21b0 : decide ((rd t650 x18_1) < (l0_1.length : Int)) = true := decide_eq_true c21
               clear c21
               obtain ⟨bq22, hbq22⟩ : ∃ b_ : Bool, b_ = (rdOf false l0_1 (rd t650 x18_1)) := ⟨_, rfl⟩
               replace H : (if bq22 = true then (if 0 ≤ (rd y654 x27_2) then (if (rd y654 x27_2) < (l0_1.length : Int) then (impl_votes_firstOfTwo.j2 a1 k2 t650 (rd t650 x18_1) (rd y654 x27_2) t650 (t650.length : Int) x18_1 y654 (y654.length : Int) x27_2 (!(rdOf false l0_1 (rd y654 x27_2))) a0_0 l0_1) else (none)) else (none)) else (impl_votes_firstOfTwo.j2 a1 k2 t650 (rd t650 x18_1) (rd y654 x27_2) t650 (t650.length : Int) x18_1 y654 (y654.length : Int) x27_2 true a0_0 l0_1)) = some (r1, r2, r3) := by rw [← hbq22] at H; exact H
               have Nbq22 := Aside0.mk hbq22
               clear hbq22
               by_cases c23 : bq22 = true
               ·subst c23
                have H1 : (if 0 ≤ (rd y654 x27_2) then (if (rd y654 x27_2) < (l0_1.length : Int) then (impl_votes_firstOfTwo.j2 a1 k2 t650 (rd t650 x18_1) (rd y654 x27_2) t650 (t650.length : Int) x18_1 y654 (y654.length : Int) x27_2 (!(rdOf false l0_1 (rd y654 x27_2))) a0_0 l0_1) else (none)) else (none)) = some (r1, r2, r3) := by rw [if_pos rfl] at H; exact H
                clear H
                have H := H1
                clear H1
                by_cases c24 : 0 ≤ (rd y654 x27_2)
                ·rw [if_pos c24] at H
                 have c24b0 : decide (0 ≤ (rd y654 x27_2)) = true := decide_eq_true c24
                 clear c24
                 by_cases c25 : (rd y654 x27_2) < (l0_1.length : Int)
                 ·rw [if_pos c25] at H
                  have c25b0 : decide ((rd y654 x27_2) < (l0_1.length : Int)) = true := decide_eq_true c25
                  clear c25
                  have H' := Aside0.mk H
                  clear H
                  have hnb26 := NB648_649.out
                  have hnc26 := NB649_648.out
                  have hcz27_0 : wr.cell? ⟨gb648, 0, none⟩ = some (.int .i64 a0_0) := (blk_cell BK648.out 0).trans rfl
                  have hcz27_1 : wr.cell? ⟨gb648, 1, none⟩ = some (.slice A0_1 l0_1.length c0_1) := (blk_cell BK648.out 1).trans rfl
                  have hfz27_0 := blk_frozen BK648.out 0
                  have hfz27_1 := blk_frozen BK648.out 1
                  have p659 : 0 ≤ ((rd t650 x18_1) : Int) := of_decide_eq_true (by first | (with_reducible assumption) | assumption)
                  have q659 : (rd t650 x18_1) < (l0_1.length : Int) := of_decide_eq_true (by first | (with_reducible assumption) | assumption)
                  obtain ⟨ad659, e659, hx659_0⟩ := Kd.at_bool HR0_1.out (rd t650 x18_1) p659 q659
                  (try rw [← Nbq22.out] at hx659_0)
                  cases e659
                  (try replace hx659_0 := (HB.out.cell (World.block_lt_of_cell? w _ hx659_0)).trans hx659_0)
                  replace p659 := eq_true p659
                  replace q659 := eq_true q659
                  have p660 : 0 ≤ ((rd y654 x27_2) : Int) := of_decide_eq_true (by first | (with_reducible assumption) | assumption)
                  have q660 : (rd y654 x27_2) < (l0_1.length : Int) := of_decide_eq_true (by first | (with_reducible assumption) | assumption)
                  obtain ⟨ad660, e660, hx660_0⟩ := Kd.at_bool HR0_1.out (rd y654 x27_2) p660 q660
                  (try rw [← Nbq22.out] at hx660_0)
                  obtain rfl : ad659 = ad660 := (by injection e660)
                  (try replace hx660_0 := (HB.out.cell (World.block_lt_of_cell? w _ hx660_0)).trans hx660_0)
                  replace p660 := eq_true p660
                  replace q660 := eq_true q660
                  go_wp2
                  go_meet
                  case rel => exact ⟨_, (!(rdOf false l0_1 (rd y654 x27_2))), (by first | rfl | (simp; done) | (simp [*]; done)), H', ⟨by have := HK1.out; have := HK2.out; first | omega | exact Nat.le_refl _⟩, ⟨zr HO_6.out⟩, ⟨zr HO_16.out⟩, ⟨zb BK648.out⟩, ⟨zb BK649.out⟩, ⟨by repeat (first | (with_reducible exact HR657.out) | (with_reducible refine Kd.C_alloc ?_ _) | (with_reducible refine Kd.C_drewN ?_ _) | (with_reducible refine Kd.C_drew ?_) | exact HR657.out)⟩, ⟨zh HB.out⟩⟩
                 ·rw [if_neg c25] at H
                  exact absurd H (by simp)
                ·rw [if_neg c24] at H
                 exact absurd H (by simp)
               ·replace c23 := Bool.eq_false_iff.mpr c23
                subst c23
                have H1 : (impl_votes_firstOfTwo.j2 a1 k2 t650 (rd t650 x18_1) (rd y654 x27_2) t650 (t650.length : Int) x18_1 y654 (y654.length : Int) x27_2 true a0_0 l0_1) = some (r1, r2, r3) := by rw [if_neg (show ¬ (false = true) by decide)] at H; exact H
                clear H
                have H := H1
                clear H1
                have H' := Aside0.mk H
                clear H
                have hnb28 := NB648_649.out
                have hnc28 := NB649_648.out
                have hcz29_0 : wr.cell? ⟨gb648, 0, none⟩ = some (.int .i64 a0_0) := (blk_cell BK648.out 0).trans rfl
                have hcz29_1 : wr.cell? ⟨gb648, 1, none⟩ = some (.slice A0_1 l0_1.length c0_1) := (blk_cell BK648.out 1).trans rfl
                have hfz29_0 := blk_frozen BK648.out 0
                have hfz29_1 := blk_frozen BK648.out 1
                have p659 : 0 ≤ ((rd t650 x18_1) : Int) := of_decide_eq_true (by first | (with_reducible assumption) | assumption)
                have q659 : (rd t650 x18_1) < (l0_1.length : Int) := of_decide_eq_true (by first | (with_reducible assumption) | assumption)
                obtain ⟨ad659, e659, hx659_0⟩ := Kd.at_bool HR0_1.out (rd t650 x18_1) p659 q659
                (try rw [← Nbq22.out] at hx659_0)
                cases e659
                (try replace hx659_0 := (HB.out.cell (World.block_lt_of_cell? w _ hx659_0)).trans hx659_0)
                replace p659 := eq_true p659
                replace q659 := eq_true q659
                go_wp2
                go_meet
                case rel => exact ⟨_, (true), (by first | rfl | (simp; done) | (simp [*]; done)), H', ⟨by have := HK1.out; have := HK2.out; first | omega | exact Nat.le_refl _⟩, ⟨zr HO_6.out⟩, ⟨zr HO_16.out⟩, ⟨zb BK648.out⟩, ⟨zb BK649.out⟩, ⟨by repeat (first | (with_reducible exact HR657.out) | (with_reducible refine Kd.C_alloc ?_ _) | (with_reducible refine Kd.C_drewN ?_ _) | (with_reducible refine Kd.C_drew ?_) | exact HR657.out)⟩, ⟨zh HB.out⟩⟩
              ·rw [if_neg c21] at H
               exact absurd H (by simp)
             ·rw [if_neg c20] at H
              exact absurd H (by simp)
            case rest =>
             clear HC19
             try clear c1
             try clear q1
             try clear c2
             try clear p2
             try clear q2
             try clear c6
             try clear p6
             try clear q6
             try clear hx6
             try clear c9
             try clear c10
             try clear c10b0
             try clear c11
             try clear c11b0
             try clear c12
             try clear c12b0
             try clear c13
             try clear c13b0
             try clear c14
             try clear c14b0
             try clear c14b1
             try clear c15
             try clear q15
             try clear c16
             try clear c16b0
             try clear c17
             try clear c17b0
             try clear c18
             try clear c18b0
             try clear c20
             try clear c20b0
             try clear c21
             try clear c21b0
             try clear q22
             try clear c23
             try clear c24
             try clear c24b0
             try clear c25
             try clear c25b0
             try clear c26
             try clear c28
             try clear hcz27_0
             try clear hcz27_1
             try clear hcz29_0
             try clear hcz29_1
             try clear hcz7_0
             try clear hcz7_1
             try clear hfz27_0
             try clear hfz27_1
             try clear hfz29_0
             try clear hfz29_1
             try clear hfz7_0
             try clear hfz7_1
             try clear hx653_0
             try clear hx658_0
             try clear hx659_0
             try clear hx660_0
             try clear p2
             try clear p6
             try clear p653
             try clear p658
             try clear p659
             try clear p660
             try clear q015
             try clear q1
             try clear q15
             try clear q6
             try clear q653
             try clear q658
             try clear q659
             try clear q660
             obtain ⟨kq, x44_18, rfl, HA, HJ18, HO_6, HO_16, BK648, BK649, HR657, HB⟩ := hcut
             cases kq with
             | zero => exact absurd HA.out (by simp [impl_votes_firstOfTwo.j2])
             | succ kj18 =>
              have H := HA.out
              clear HA
              simp only [impl_votes_firstOfTwo.j2] at H
              by_cases c30 : x44_18 = true
              ·subst c30
               have H1 : (impl_votes_firstOfTwo.l1 a1 kj18 t650 (rd t650 x18_1) t650 (t650.length : Int) x18_1 y654 (y654.length : Int) (wrap64 (x27_2 + 1)) a0_0 l0_1) = some (r1, r2, r3) := by rw [if_pos rfl] at H; exact H
               clear H
               have H := H1
               clear H1
               have H' := Aside0.mk H
               clear H
               go_wp2
               go_roundg kj18
               case measure => have := HK1.out; have := HK2.out; have := HJ18.out; omega
               case rel => exact ⟨(wrap64 (x27_2 + 1)), (by first | rfl | (simp; done) | (simp [*]; done)), H', ⟨by have := HK1.out; have := HK2.out; have := HJ18.out; omega⟩, ⟨zr HO_6.out⟩, ⟨zr HO_16.out⟩, ⟨zb BK648.out⟩, ⟨zb BK649.out⟩, ⟨by repeat (first | (with_reducible exact HR657.out) | (with_reducible refine Kd.C_alloc ?_ _) | (with_reducible refine Kd.C_drewN ?_ _) | (with_reducible refine Kd.C_drew ?_) | exact HR657.out)⟩, ⟨zh HB.out⟩⟩
              ·replace c30 := Bool.eq_false_iff.mpr c30
               subst c30
               have H1 : (impl_votes_firstOfTwo.l2 a1 kj18 t650 (rd t650 x18_1) (rd y654 x27_2) t650 (t650.length : Int) x18_1 y654 (y654.length : Int) x27_2 t650 (t650.length : Int) 0 a0_0 l0_1) = some (r1, r2, r3) := by rw [if_neg (show ¬ (false = true) by decide)] at H; exact H
               clear H
               have H := H1
               clear H1
               have H' := Aside0.mk H
               clear H
               go_wp2
               go_loopg [47] kj18 (fun kq v47 w' => ∃ (x47_4 : Int), v47 = .int .i64 x47_4 ∧ Aside0 (impl_votes_firstOfTwo.l2 a1 kq t650 (rd t650 x18_1) (rd y654 x27_2) t650 (t650.length : Int) x18_1 y654 (y654.length : Int) x27_2 t650 (t650.length : Int) x47_4 a0_0 l0_1 = some (r1, r2, r3)) ∧ Aside0 (kq ≤ kj18) ∧ Aside0 (Kd.R (Kd.int .i64) 3 w' w.heap.size (fun _ => True) (.slice (some ad653) t650.length co9) t650) ∧ Aside0 (Kd.R (Kd.int .i64) 3 w' w.heap.size (fun _ => True) (.slice (some ad653) t650.length co9) t650) ∧ Aside0 (Kd.R (Kd.int .i64) 3 w' w.heap.size (fun _ => True) (.slice (some ad653) t650.length co9) t650) ∧ Aside0 (w'.heap[gb648]? = some (.cells #[.int .i64 a0_0, (.slice A0_1 l0_1.length c0_1)] 62 (0, 0))) ∧ Aside0 (w'.heap[gb649]? = some (.cells #[(.slice none 0 0), (.slice none 0 0)] 46 (0, 0))) ∧ Aside0 (Kd.C (Kd.int .i64) w' (some ad658) y654.length y654) ∧ Aside0 (Below w.heap.size w w'))
               case atStart => exact ⟨(0), (by first | rfl | (simp; done) | (simp [*]; done)), H', ⟨Nat.le_refl _⟩, ⟨zr HO_6.out⟩, ⟨zr HO_16.out⟩, ⟨zr HO_6.out⟩, ⟨zb BK648.out⟩, ⟨zb BK649.out⟩, ⟨by repeat (first | (with_reducible exact HR657.out) | (with_reducible refine Kd.C_alloc ?_ _) | (with_reducible refine Kd.C_drewN ?_ _) | (with_reducible refine Kd.C_drew ?_) | exact HR657.out)⟩, ⟨zh HB.out⟩⟩
               case round =>
                clear H'
                try clear c1
                try clear q1
                try clear c2
                try clear p2
                try clear q2
                try clear c3
                try clear c6
                try clear p6
                try clear q6
                try clear hx6
                try clear c9
                try clear c10
                try clear c10b0
                try clear c11
                try clear c11b0
                try clear c12
                try clear c12b0
                try clear c13
                try clear c13b0
                try clear c14
                try clear c14b0
                try clear c14b1
                try clear c15
                try clear q15
                try clear c16
                try clear c16b0
                try clear c17
                try clear c17b0
                try clear c18
                try clear c18b0
                try clear c20
                try clear c20b0
                try clear c21
                try clear c21b0
                try clear q22
                try clear c23
                try clear c24
                try clear c24b0
                try clear c25
                try clear c25b0
                try clear c26
                try clear c28
                try clear c30
                try clear hcz27_0
                try clear hcz27_1
                try clear hcz29_0
                try clear hcz29_1
                try clear hcz7_0
                try clear hcz7_1
                try clear hfz27_0
                try clear hfz27_1
                try clear hfz29_0
                try clear hfz29_1
                try clear hfz7_0
                try clear hfz7_1
                try clear hx653_0
                try clear hx658_0
                try clear hx659_0
                try clear hx660_0
                try clear p2
                try clear p6
                try clear p653
                try clear p658
                try clear p659
                try clear p660
                try clear q015
                try clear q1
                try clear q15
                try clear q2
                try clear q22
                try clear q6
                try clear q653
                try clear q658
                try clear q659
                try clear q660
                obtain ⟨x47_4, rfl, HA, HK4, HO_6, HO_16, HO_45, BK648, BK649, HR657, HB⟩ := hrel
                cases gk with
                | zero => exact absurd HA.out (by simp [impl_votes_firstOfTwo.l2])
                | succ k4 =>
                 have H := HA.out
                 clear HA
                 simp only [impl_votes_firstOfTwo.l2] at H
                 by_cases c31 : x47_4 < (t650.length : Int)
                 ·rw [if_pos c31] at H
                  have c31b0 : decide (x47_4 < (t650.length : Int)) = true := decide_eq_true c31
                  clear c31
                  by_cases c32 : 0 ≤ x47_4
                  ·rw [if_pos c32] at H
                   have c32b0 : decide (0 ≤ x47_4) = true := decide_eq_true c32
                   clear c32
                   by_cases c33 : x47_4 < (t650.length : Int)
                   ·rw [if_pos c33] at H
                    have c33b0 : decide (x47_4 < (t650.length : Int)) = true := decide_eq_true c33
                    clear c33
                    have HC34 := Aside0.mk H
                    clear H
                    have p661 : 0 ≤ (x47_4 : Int) := of_decide_eq_true (by first | (with_reducible assumption) | assumption)
                    have q661 : x47_4 < (t650.length : Int) := of_decide_eq_true (by first | (with_reducible assumption) | assumption)
                    obtain ⟨ad661, e661, hx661_0⟩ := Kd.at_int (Kd.R_reads' HO_45.out).2.2 x47_4 p661 q661
                    obtain rfl : ad653 = ad661 := (by injection e661)
                    replace p661 := eq_true p661
                    replace q661 := eq_true q661
                    go_upto_region 12 with (fail)
                    go_cut [75] (fun v75 wc => ∃ (kq : Nat) (x75_33 : Bool), v75 = .bool x75_33 ∧ Aside0 (impl_votes_firstOfTwo.j4 a1 kq t650 (rd t650 x18_1) (rd y654 x27_2) x47_4 (rd t650 x47_4) t650 (t650.length : Int) x18_1 y654 (y654.length : Int) x27_2 t650 (t650.length : Int) x47_4 x75_33 a0_0 l0_1 = some (r1, r2, r3)) ∧ Aside0 (kq ≤ k4) ∧ Aside0 (Kd.R (Kd.int .i64) 3 wc w.heap.size (fun _ => True) (.slice (some ad653) t650.length co9) t650) ∧ Aside0 (Kd.R (Kd.int .i64) 3 wc w.heap.size (fun _ => True) (.slice (some ad653) t650.length co9) t650) ∧ Aside0 (Kd.R (Kd.int .i64) 3 wc w.heap.size (fun _ => True) (.slice (some ad653) t650.length co9) t650) ∧ Aside0 (wc.heap[gb648]? = some (.cells #[.int .i64 a0_0, (.slice A0_1 l0_1.length c0_1)] 62 (0, 0))) ∧ Aside0 (wc.heap[gb649]? = some (.cells #[(.slice none 0 0), (.slice none 0 0)] 46 (0, 0))) ∧ Aside0 (Kd.C (Kd.int .i64) wc (some ad658) y654.length y654) ∧ Aside0 (Below w.heap.size w wc))
                    case first =>
                     have H := HC34.out
                     clear HC34
                     by_cases c35 : 0 ≤ (rd t650 x47_4)
                     ·rw [if_pos c35] at H
                      have c35b0 : decide (0 ≤ (rd t650 x47_4)) = true := decide_eq_true c35
                      clear c35
                      (first | rw [c35b0] | (simp only [i64_w, i32_w]; rw [c35b0]) | skip)
                      by_cases c36 : (rd t650 x47_4) < (l0_1.length : Int)
                      ·rw [if_pos c36] at H
                       have c36b0 : decide ((rd t650 x47_4) < (l0_1.length : Int)) = true := decide_eq_true c36
                       clear c36
                       obtain ⟨bq37, hbq37⟩ : ∃ b_ : Bool, b_ = (rdOf false l0_1 (rd t650 x47_4)) := ⟨_, rfl⟩
                       replace H : (if bq37 = true then (impl_votes_firstOfTwo.j4 a1 k4 t650 (rd t650 x18_1) (rd y654 x27_2) x47_4 (rd t650 x47_4) t650 (t650.length : Int) x18_1 y654 (y654.length : Int) x27_2 t650 (t650.length : Int) x47_4 true a0_0 l0_1) else (if (Go.bits .and .i64 (rd t650 x47_4) (Go.bits .and .i64 (rd t650 x18_1) (rd y654 x27_2))) = (Go.bits .and .i64 (rd t650 x18_1) (rd y654 x27_2)) then (impl_votes_firstOfTwo.j4 a1 k4 t650 (rd t650 x18_1) (rd y654 x27_2) x47_4 (rd t650 x47_4) t650 (t650.length : Int) x18_1 y654 (y654.length : Int) x27_2 t650 (t650.length : Int) x47_4 ((Go.bits .andNot .i64 (rd t650 x47_4) (Go.bits .or .i64 (rd t650 x18_1) (rd y654 x27_2))) != 0) a0_0 l0_1) else (impl_votes_firstOfTwo.j4 a1 k4 t650 (rd t650 x18_1) (rd y654 x27_2) x47_4 (rd t650 x47_4) t650 (t650.length : Int) x18_1 y654 (y654.length : Int) x27_2 t650 (t650.length : Int) x47_4 true a0_0 l0_1))) = some (r1, r2, r3) := by rw [← hbq37] at H; exact H
                       have Nbq37 := Aside0.mk hbq37
                       clear hbq37
                       by_cases c38 : bq37 = true
                       ·subst c38
                        have H1 : (impl_votes_firstOfTwo.j4 a1 k4 t650 (rd t650 x18_1) (rd y654 x27_2) x47_4 (rd t650 x47_4) t650 (t650.length : Int) x18_1 y654 (y654.length : Int) x27_2 t650 (t650.length : Int) x47_4 true a0_0 l0_1) = some (r1, r2, r3) := by rw [if_pos rfl] at H; exact H
                        clear H
                        have H := H1
                        clear H1
                        have H' := Aside0.mk H
                        clear H
                        have hnb39 := NB648_649.out
                        have hnc39 := NB649_648.out
                        have hcz40_0 : wr.cell? ⟨gb648, 0, none⟩ = some (.int .i64 a0_0) := (blk_cell BK648.out 0).trans rfl
                        have hcz40_1 : wr.cell? ⟨gb648, 1, none⟩ = some (.slice A0_1 l0_1.length c0_1) := (blk_cell BK648.out 1).trans rfl
                        have hfz40_0 := blk_frozen BK648.out 0
                        have hfz40_1 := blk_frozen BK648.out 1
                        have p662 : 0 ≤ ((rd t650 x47_4) : Int) := of_decide_eq_true (by first | (with_reducible assumption) | assumption)
                        have q662 : (rd t650 x47_4) < (l0_1.length : Int) := of_decide_eq_true (by first | (with_reducible assumption) | assumption)
                        obtain ⟨ad662, e662, hx662_0⟩ := Kd.at_bool HR0_1.out (rd t650 x47_4) p662 q662
                        (try rw [← Nbq37.out] at hx662_0)
                        cases e662
                        (try replace hx662_0 := (HB.out.cell (World.block_lt_of_cell? w _ hx662_0)).trans hx662_0)
                        replace p662 := eq_true p662
                        replace q662 := eq_true q662
                        go_wp2
                        go_meet
                        case rel => exact ⟨_, (true), (by first | rfl | (simp; done) | (simp [*]; done)), H', ⟨by have := HK1.out; have := HK2.out; have := HJ18.out; have := HK4.out; first | omega | exact Nat.le_refl _⟩, ⟨zr HO_6.out⟩, ⟨zr HO_16.out⟩, ⟨zr HO_45.out⟩, ⟨zb BK648.out⟩, ⟨zb BK649.out⟩, ⟨by repeat (first | (with_reducible exact HR657.out) | (with_reducible refine Kd.C_alloc ?_ _) | (with_reducible refine Kd.C_drewN ?_ _) | (with_reducible refine Kd.C_drew ?_) | exact HR657.out)⟩, ⟨zh HB.out⟩⟩
                       ·replace c38 := Bool.eq_false_iff.mpr c38
                        subst c38
                        have H1 : (if (Go.bits .and .i64 (rd t650 x47_4) (Go.bits .and .i64 (rd t650 x18_1) (rd y654 x27_2))) = (Go.bits .and .i64 (rd t650 x18_1) (rd y654 x27_2)) then (impl_votes_firstOfTwo.j4 a1 k4 t650 (rd t650 x18_1) (rd y654 x27_2) x47_4 (rd t650 x47_4) t650 (t650.length : Int) x18_1 y654 (y654.length : Int) x27_2 t650 (t650.length : Int) x47_4 ((Go.bits .andNot .i64 (rd t650 x47_4) (Go.bits .or .i64 (rd t650 x18_1) (rd y654 x27_2))) != 0) a0_0 l0_1) else (impl_votes_firstOfTwo.j4 a1 k4 t650 (rd t650 x18_1) (rd y654 x27_2) x47_4 (rd t650 x47_4) t650 (t650.length : Int) x18_1 y654 (y654.length : Int) x27_2 t650 (t650.length : Int) x47_4 true a0_0 l0_1)) = some (r1, r2, r3) := by rw [if_neg (show ¬ (false = true) by decide)] at H; exact H
                        clear H
                        have H := H1
                        clear H1
                        by_cases c41 : (Go.bits .and .i64 (rd t650 x47_4) (Go.bits .and .i64 (rd t650 x18_1) (rd y654 x27_2))) = (Go.bits .and .i64 (rd t650 x18_1) (rd y654 x27_2))
                        ·rw [if_pos c41] at H
                         have c41b0 : ((Go.bits .and .i64 (rd t650 x47_4) (Go.bits .and .i64 (rd t650 x18_1) (rd y654 x27_2))) == (Go.bits .and .i64 (rd t650 x18_1) (rd y654 x27_2))) = true := beq_iff_eq.mpr c41
                         have c41b1 : ((Go.bits .and .i64 (rd t650 x47_4) (Go.bits .and .i64 (rd t650 x18_1) (rd y654 x27_2))) != (Go.bits .and .i64 (rd t650 x18_1) (rd y654 x27_2))) = false := bne_eq_false_iff_eq.mpr c41
                         clear c41
                         have H' := Aside0.mk H
                         clear H
                         have hnb42 := NB648_649.out
                         have hnc42 := NB649_648.out
                         have hcz43_0 : wr.cell? ⟨gb648, 0, none⟩ = some (.int .i64 a0_0) := (blk_cell BK648.out 0).trans rfl
                         have hcz43_1 : wr.cell? ⟨gb648, 1, none⟩ = some (.slice _ l0_1.length c0_1) := (blk_cell BK648.out 1).trans rfl
                         have hfz43_0 := blk_frozen BK648.out 0
                         have hfz43_1 := blk_frozen BK648.out 1
                         have p662 : 0 ≤ ((rd t650 x47_4) : Int) := of_decide_eq_true (by first | (with_reducible assumption) | assumption)
                         have q662 : (rd t650 x47_4) < (l0_1.length : Int) := of_decide_eq_true (by first | (with_reducible assumption) | assumption)
                         obtain ⟨ad662, e662, hx662_0⟩ := Kd.at_bool HR0_1.out (rd t650 x47_4) p662 q662
                         (try rw [← Nbq37.out] at hx662_0)
                         cases e662
                         (try replace hx662_0 := (HB.out.cell (World.block_lt_of_cell? w _ hx662_0)).trans hx662_0)
                         replace p662 := eq_true p662
                         replace q662 := eq_true q662
                         go_wp2
                         go_meet
                         case rel => exact ⟨_, (((Go.bits .andNot .i64 (rd t650 x47_4) (Go.bits .or .i64 (rd t650 x18_1) (rd y654 x27_2))) != 0)), (by first | rfl | (simp; done) | (simp [*]; done)), H', ⟨by have := HK1.out; have := HK2.out; have := HJ18.out; have := HK4.out; first | omega | exact Nat.le_refl _⟩, ⟨zr HO_6.out⟩, ⟨zr HO_16.out⟩, ⟨zr HO_45.out⟩, ⟨zb BK648.out⟩, ⟨zb BK649.out⟩, ⟨by repeat (first | (with_reducible exact HR657.out) | (with_reducible refine Kd.C_alloc ?_ _) | (with_reducible refine Kd.C_drewN ?_ _) | (with_reducible refine Kd.C_drew ?_) | exact HR657.out)⟩, ⟨zh HB.out⟩⟩
                        ·rw [if_neg c41] at H
                         have c41b0 : ((Go.bits .and .i64 (rd t650 x47_4) (Go.bits .and .i64 (rd t650 x18_1) (rd y654 x27_2))) == (Go.bits .and .i64 (rd t650 x18_1) (rd y654 x27_2))) = false := beq_eq_false_iff_ne.mpr c41
                         have c41b1 : ((Go.bits .and .i64 (rd t650 x47_4) (Go.bits .and .i64 (rd t650 x18_1) (rd y654 x27_2))) != (Go.bits .and .i64 (rd t650 x18_1) (rd y654 x27_2))) = true := bne_iff_ne.mpr c41
                         have H' := Aside0.mk H
                         clear H
                         have hnb44 := NB648_649.out
                         have hnc44 := NB649_648.out
                         have hcz45_0 : wr.cell? ⟨gb648, 0, none⟩ = some (.int .i64 a0_0) := (blk_cell BK648.out 0).trans rfl
                         have hcz45_1 : wr.cell? ⟨gb648, 1, none⟩ = some (.slice _ l0_1.length c0_1) := (blk_cell BK648.out 1).trans rfl
                         have hfz45_0 := blk_frozen BK648.out 0
                         have hfz45_1 := blk_frozen BK648.out 1
                         have p662 : 0 ≤ ((rd t650 x47_4) : Int) := of_decide_eq_true (by first | (with_reducible assumption) | assumption)
                         have q662 : (rd t650 x47_4) < (l0_1.length : Int) := of_decide_eq_true (by first | (with_reducible assumption) | assumption)
                         obtain ⟨ad662, e662, hx662_0⟩ := Kd.at_bool HR0_1.out (rd t650 x47_4) p662 q662
                         (try rw [← Nbq37.out] at hx662_0)
                         cases e662
                         (try replace hx662_0 := (HB.out.cell (World.block_lt_of_cell? w _ hx662_0)).trans hx662_0)
                         replace p662 := eq_true p662
                         replace q662 := eq_true q662
                         go_wp2
                         go_meet
                         case rel => exact ⟨_, (true), (by first | rfl | (simp; done) | (simp [*]; done)), H', ⟨by have := HK1.out; have := HK2.out; have := HJ18.out; have := HK4.out; first | omega | exact Nat.le_refl _⟩, ⟨zr HO_6.out⟩, ⟨zr HO_16.out⟩, ⟨zr HO_45.out⟩, ⟨zb BK648.out⟩, ⟨zb BK649.out⟩, ⟨by repeat (first | (with_reducible exact HR657.out) | (with_reducible refine Kd.C_alloc ?_ _) | (with_reducible refine Kd.C_drewN ?_ _) | (with_reducible refine Kd.C_drew ?_) | exact HR657.out)⟩, ⟨zh HB.out⟩⟩
                      ·rw [if_neg c36] at H
                       exact absurd H (by simp)
                     ·rw [if_neg c35] at H
                      exact absurd H (by simp)
                    case rest =>
                     clear HC34
                     try clear c1
                     try clear q1
                     try clear c2
                     try clear p2
                     try clear q2
                     try clear c3
                     try clear q3
                     try clear c4
                     try clear c6
                     try clear p6
                     try clear q6
                     try clear hx6
                     try clear c9
                     try clear c10
                     try clear c10b0
                     try clear c11
                     try clear c11b0
                     try clear c12
                     try clear c12b0
                     try clear c13
                     try clear c13b0
                     try clear c14
                     try clear c14b0
                     try clear c14b1
                     try clear c15
                     try clear q15
                     try clear c16
                     try clear c16b0
                     try clear c17
                     try clear c17b0
                     try clear c18
                     try clear c18b0
                     try clear c20
                     try clear c20b0
                     try clear c21
                     try clear c21b0
                     try clear q22
                     try clear c23
                     try clear c24
                     try clear c24b0
                     try clear c25
                     try clear c25b0
                     try clear c26
                     try clear c28
                     try clear c30
                     try clear c31
                     try clear c31b0
                     try clear c32
                     try clear c32b0
                     try clear c33
                     try clear c33b0
                     try clear c35
                     try clear c35b0
                     try clear c36
                     try clear c36b0
                     try clear q37
                     try clear c38
                     try clear c39
                     try clear c41
                     try clear c41b0
                     try clear c41b1
                     try clear c42
                     try clear c44
                     try clear hcz27_0
                     try clear hcz27_1
                     try clear hcz29_0
                     try clear hcz29_1
                     try clear hcz40_0
                     try clear hcz40_1
                     try clear hcz43_0
                     try clear hcz43_1
                     try clear hcz45_0
                     try clear hcz45_1
                     try clear hcz7_0
                     try clear hcz7_1
                     try clear hfz27_0
                     try clear hfz27_1
                     try clear hfz29_0
                     try clear hfz29_1
                     try clear hfz40_0
                     try clear hfz40_1
                     try clear hfz43_0
                     try clear hfz43_1
                     try clear hfz45_0
                     try clear hfz45_1
                     try clear hfz7_0
                     try clear hfz7_1
                     try clear hx653_0
                     try clear hx658_0
                     try clear hx659_0
                     try clear hx660_0
                     try clear hx661_0
                     try clear hx662_0
                     try clear p2
                     try clear p6
                     try clear p653
                     try clear p658
                     try clear p659
                     try clear p660
                     try clear p661
                     try clear p662
                     try clear q015
                     try clear q1
                     try clear q15
                     try clear q2
                     try clear q22
                     try clear q6
                     try clear q653
                     try clear q658
                     try clear q659
                     try clear q660
                     try clear q661
                     try clear q662
                     obtain ⟨kq, x75_33, rfl, HA, HJ33, HO_6, HO_16, HO_45, BK648, BK649, HR657, HB⟩ := hcut
                     cases kq with
                     | zero => exact absurd HA.out (by simp [impl_votes_firstOfTwo.j4])
                     | succ kj33 =>
                      have H := HA.out
                      clear HA
                      simp only [impl_votes_firstOfTwo.j4] at H
                      by_cases c46 : x75_33 = true
                      ·subst c46
                       have H1 : (impl_votes_firstOfTwo.l2 a1 kj33 t650 (rd t650 x18_1) (rd y654 x27_2) t650 (t650.length : Int) x18_1 y654 (y654.length : Int) x27_2 t650 (t650.length : Int) (wrap64 (x47_4 + 1)) a0_0 l0_1) = some (r1, r2, r3) := by rw [if_pos rfl] at H; exact H
                       clear H
                       have H := H1
                       clear H1
                       have H' := Aside0.mk H
                       clear H
                       go_wp2
                       go_roundg kj33
                       case measure => have := HK1.out; have := HK2.out; have := HJ18.out; have := HK4.out; have := HJ33.out; omega
                       case rel => exact ⟨(wrap64 (x47_4 + 1)), (by first | rfl | (simp; done) | (simp [*]; done)), H', ⟨by have := HK1.out; have := HK2.out; have := HJ18.out; have := HK4.out; have := HJ33.out; omega⟩, ⟨zr HO_6.out⟩, ⟨zr HO_16.out⟩, ⟨zr HO_45.out⟩, ⟨zb BK648.out⟩, ⟨zb BK649.out⟩, ⟨by repeat (first | (with_reducible exact HR657.out) | (with_reducible refine Kd.C_alloc ?_ _) | (with_reducible refine Kd.C_drewN ?_ _) | (with_reducible refine Kd.C_drew ?_) | exact HR657.out)⟩, ⟨zh HB.out⟩⟩
                      ·replace c46 := Bool.eq_false_iff.mpr c46
                       subst c46
                       have H1 : (if 0 ≤ (Go.bits .or .i64 (Go.bits .and .i64 (rd t650 x18_1) (rd y654 x27_2)) (Go.bits .andNot .i64 (Go.bits .or .i64 (rd t650 x18_1) (rd y654 x27_2)) (rd t650 x47_4))) then (if (Go.bits .or .i64 (Go.bits .and .i64 (rd t650 x18_1) (rd y654 x27_2)) (Go.bits .andNot .i64 (Go.bits .or .i64 (rd t650 x18_1) (rd y654 x27_2)) (rd t650 x47_4))) < (l0_1.length : Int) then (if (rdOf false l0_1 (Go.bits .or .i64 (Go.bits .and .i64 (rd t650 x18_1) (rd y654 x27_2)) (Go.bits .andNot .i64 (Go.bits .or .i64 (rd t650 x18_1) (rd y654 x27_2)) (rd t650 x47_4))) = true) then (impl_votes_firstOfTwo.l2 a1 kj33 t650 (rd t650 x18_1) (rd y654 x27_2) t650 (t650.length : Int) x18_1 y654 (y654.length : Int) x27_2 t650 (t650.length : Int) (wrap64 (x47_4 + 1)) a0_0 l0_1) else (if 0 ≤ x47_4 then (if x47_4 ≤ (t650.length : Int) then ((slices_Contains_int_int.f kj33 (t650.drop (x47_4 : Int).toNat) (Go.bits .or .i64 (Go.bits .and .i64 (rd t650 x18_1) (rd y654 x27_2)) (Go.bits .andNot .i64 (Go.bits .or .i64 (rd t650 x18_1) (rd y654 x27_2)) (rd t650 x47_4)))).bind fun t668 => (if t668 = true then ((a1 (rd t650 x18_1) (rd y654 x27_2) (rd t650 x47_4) (Go.bits .or .i64 (Go.bits .and .i64 (rd t650 x18_1) (rd y654 x27_2)) (Go.bits .andNot .i64 (Go.bits .or .i64 (rd t650 x18_1) (rd y654 x27_2)) (rd t650 x47_4)))).bind fun t669 => (if t669 = true then ((impl_pairs.f kj33 (([(rd t650 x18_1), (rd y654 x27_2)] : List Int)) (([(rd t650 x47_4), Go.bits .or .i64 (Go.bits .and .i64 (rd t650 x18_1) (rd y654 x27_2)) (Go.bits .andNot .i64 (Go.bits .or .i64 (rd t650 x18_1) (rd y654 x27_2)) (rd t650 x47_4))] : List Int))).bind fun bt676 => (some (bt676.1, bt676.2, true))) else (impl_votes_firstOfTwo.l2 a1 kj33 t650 (rd t650 x18_1) (rd y654 x27_2) t650 (t650.length : Int) x18_1 y654 (y654.length : Int) x27_2 t650 (t650.length : Int) (wrap64 (x47_4 + 1)) a0_0 l0_1))) else (impl_votes_firstOfTwo.l2 a1 kj33 t650 (rd t650 x18_1) (rd y654 x27_2) t650 (t650.length : Int) x18_1 y654 (y654.length : Int) x27_2 t650 (t650.length : Int) (wrap64 (x47_4 + 1)) a0_0 l0_1))) else (none)) else (none))) else (none)) else (none)) = some (r1, r2, r3) := by rw [if_neg (show ¬ (false = true) by decide)] at H; exact H
                       clear H
                       have H := H1
                       clear H1
                       by_cases c47 : 0 ≤ (Go.bits .or .i64 (Go.bits .and .i64 (rd t650 x18_1) (rd y654 x27_2)) (Go.bits .andNot .i64 (Go.bits .or .i64 (rd t650 x18_1) (rd y654 x27_2)) (rd t650 x47_4)))
                       ·rw [if_pos c47] at H
                        have c47b0 : decide (0 ≤ (Go.bits .or .i64 (Go.bits .and .i64 (rd t650 x18_1) (rd y654 x27_2)) (Go.bits .andNot .i64 (Go.bits .or .i64 (rd t650 x18_1) (rd y654 x27_2)) (rd t650 x47_4)))) = true := decide_eq_true c47
                        clear c47
                        by_cases c48 : (Go.bits .or .i64 (Go.bits .and .i64 (rd t650 x18_1) (rd y654 x27_2)) (Go.bits .andNot .i64 (Go.bits .or .i64 (rd t650 x18_1) (rd y654 x27_2)) (rd t650 x47_4))) < (l0_1.length : Int)
                        ·rw [if_pos c48] at H
                         have c48b0 : decide ((Go.bits .or .i64 (Go.bits .and .i64 (rd t650 x18_1) (rd y654 x27_2)) (Go.bits .andNot .i64 (Go.bits .or .i64 (rd t650 x18_1) (rd y654 x27_2)) (rd t650 x47_4))) < (l0_1.length : Int)) = true := decide_eq_true c48
                         clear c48
                         obtain ⟨bq49, hbq49⟩ : ∃ b_ : Bool, b_ = (rdOf false l0_1 (Go.bits .or .i64 (Go.bits .and .i64 (rd t650 x18_1) (rd y654 x27_2)) (Go.bits .andNot .i64 (Go.bits .or .i64 (rd t650 x18_1) (rd y654 x27_2)) (rd t650 x47_4)))) := ⟨_, rfl⟩
                         replace H : (if (bq49 = true) then (impl_votes_firstOfTwo.l2 a1 kj33 t650 (rd t650 x18_1) (rd y654 x27_2) t650 (t650.length : Int) x18_1 y654 (y654.length : Int) x27_2 t650 (t650.length : Int) (wrap64 (x47_4 + 1)) a0_0 l0_1) else (if 0 ≤ x47_4 then (if x47_4 ≤ (t650.length : Int) then ((slices_Contains_int_int.f kj33 (t650.drop (x47_4 : Int).toNat) (Go.bits .or .i64 (Go.bits .and .i64 (rd t650 x18_1) (rd y654 x27_2)) (Go.bits .andNot .i64 (Go.bits .or .i64 (rd t650 x18_1) (rd y654 x27_2)) (rd t650 x47_4)))).bind fun t668 => (if t668 = true then ((a1 (rd t650 x18_1) (rd y654 x27_2) (rd t650 x47_4) (Go.bits .or .i64 (Go.bits .and .i64 (rd t650 x18_1) (rd y654 x27_2)) (Go.bits .andNot .i64 (Go.bits .or .i64 (rd t650 x18_1) (rd y654 x27_2)) (rd t650 x47_4)))).bind fun t669 => (if t669 = true then ((impl_pairs.f kj33 (([(rd t650 x18_1), (rd y654 x27_2)] : List Int)) (([(rd t650 x47_4), Go.bits .or .i64 (Go.bits .and .i64 (rd t650 x18_1) (rd y654 x27_2)) (Go.bits .andNot .i64 (Go.bits .or .i64 (rd t650 x18_1) (rd y654 x27_2)) (rd t650 x47_4))] : List Int))).bind fun bt676 => (some (bt676.1, bt676.2, true))) else (impl_votes_firstOfTwo.l2 a1 kj33 t650 (rd t650 x18_1) (rd y654 x27_2) t650 (t650.length : Int) x18_1 y654 (y654.length : Int) x27_2 t650 (t650.length : Int) (wrap64 (x47_4 + 1)) a0_0 l0_1))) else (impl_votes_firstOfTwo.l2 a1 kj33 t650 (rd t650 x18_1) (rd y654 x27_2) t650 (t650.length : Int) x18_1 y654 (y654.length : Int) x27_2 t650 (t650.length : Int) (wrap64 (x47_4 + 1)) a0_0 l0_1))) else (none)) else (none))) = some (r1, r2, r3) := by rw [← hbq49] at H; exact H
                         have Nbq49 := Aside0.mk hbq49
                         clear hbq49
                         by_cases c50 : (bq49 = true)
                         ·subst c50
                          have H1 : (impl_votes_firstOfTwo.l2 a1 kj33 t650 (rd t650 x18_1) (rd y654 x27_2) t650 (t650.length : Int) x18_1 y654 (y654.length : Int) x27_2 t650 (t650.length : Int) (wrap64 (x47_4 + 1)) a0_0 l0_1) = some (r1, r2, r3) := by rw [if_pos rfl] at H; exact H
                          clear H
                          have H := H1
                          clear H1
                          have H' := Aside0.mk H
                          clear H
                          have hnb51 := NB648_649.out
                          have hnc51 := NB649_648.out
                          have hcz52_0 : wc.cell? ⟨gb648, 0, none⟩ = some (.int .i64 a0_0) := (blk_cell BK648.out 0).trans rfl
                          have hcz52_1 : wc.cell? ⟨gb648, 1, none⟩ = some (.slice A0_1 l0_1.length c0_1) := (blk_cell BK648.out 1).trans rfl
                          have hfz52_0 := blk_frozen BK648.out 0
                          have hfz52_1 := blk_frozen BK648.out 1
                          have p663 : 0 ≤ ((Go.bits .or .i64 (Go.bits .and .i64 (rd t650 x18_1) (rd y654 x27_2)) (Go.bits .andNot .i64 (Go.bits .or .i64 (rd t650 x18_1) (rd y654 x27_2)) (rd t650 x47_4))) : Int) := of_decide_eq_true (by first | (with_reducible assumption) | assumption)
                          have q663 : (Go.bits .or .i64 (Go.bits .and .i64 (rd t650 x18_1) (rd y654 x27_2)) (Go.bits .andNot .i64 (Go.bits .or .i64 (rd t650 x18_1) (rd y654 x27_2)) (rd t650 x47_4))) < (l0_1.length : Int) := of_decide_eq_true (by first | (with_reducible assumption) | assumption)
                          obtain ⟨ad663, e663, hx663_0⟩ := Kd.at_bool HR0_1.out (Go.bits .or .i64 (Go.bits .and .i64 (rd t650 x18_1) (rd y654 x27_2)) (Go.bits .andNot .i64 (Go.bits .or .i64 (rd t650 x18_1) (rd y654 x27_2)) (rd t650 x47_4))) p663 q663
                          (try rw [← Nbq49.out] at hx663_0)
                          cases e663
                          (try replace hx663_0 := (HB.out.cell (World.block_lt_of_cell? w _ hx663_0)).trans hx663_0)
                          replace p663 := eq_true p663
                          replace q663 := eq_true q663
                          go_wp2
                          go_roundg kj33
                          case measure => have := HK1.out; have := HK2.out; have := HJ18.out; have := HK4.out; have := HJ33.out; omega
                          case rel => exact ⟨(wrap64 (x47_4 + 1)), (by first | rfl | (simp; done) | (simp [*]; done)), H', ⟨by have := HK1.out; have := HK2.out; have := HJ18.out; have := HK4.out; have := HJ33.out; omega⟩, ⟨zr HO_6.out⟩, ⟨zr HO_16.out⟩, ⟨zr HO_45.out⟩, ⟨zb BK648.out⟩, ⟨zb BK649.out⟩, ⟨by repeat (first | (with_reducible exact HR657.out) | (with_reducible refine Kd.C_alloc ?_ _) | (with_reducible refine Kd.C_drewN ?_ _) | (with_reducible refine Kd.C_drew ?_) | exact HR657.out)⟩, ⟨zh HB.out⟩⟩
                         ·replace c50 := Bool.eq_false_iff.mpr c50
                          subst c50
                          have H1 : (if 0 ≤ x47_4 then (if x47_4 ≤ (t650.length : Int) then ((slices_Contains_int_int.f kj33 (t650.drop (x47_4 : Int).toNat) (Go.bits .or .i64 (Go.bits .and .i64 (rd t650 x18_1) (rd y654 x27_2)) (Go.bits .andNot .i64 (Go.bits .or .i64 (rd t650 x18_1) (rd y654 x27_2)) (rd t650 x47_4)))).bind fun t668 => (if t668 = true then ((a1 (rd t650 x18_1) (rd y654 x27_2) (rd t650 x47_4) (Go.bits .or .i64 (Go.bits .and .i64 (rd t650 x18_1) (rd y654 x27_2)) (Go.bits .andNot .i64 (Go.bits .or .i64 (rd t650 x18_1) (rd y654 x27_2)) (rd t650 x47_4)))).bind fun t669 => (if t669 = true then ((impl_pairs.f kj33 (([(rd t650 x18_1), (rd y654 x27_2)] : List Int)) (([(rd t650 x47_4), Go.bits .or .i64 (Go.bits .and .i64 (rd t650 x18_1) (rd y654 x27_2)) (Go.bits .andNot .i64 (Go.bits .or .i64 (rd t650 x18_1) (rd y654 x27_2)) (rd t650 x47_4))] : List Int))).bind fun bt676 => (some (bt676.1, bt676.2, true))) else (impl_votes_firstOfTwo.l2 a1 kj33 t650 (rd t650 x18_1) (rd y654 x27_2) t650 (t650.length : Int) x18_1 y654 (y654.length : Int) x27_2 t650 (t650.length : Int) (wrap64 (x47_4 + 1)) a0_0 l0_1))) else (impl_votes_firstOfTwo.l2 a1 kj33 t650 (rd t650 x18_1) (rd y654 x27_2) t650 (t650.length : Int) x18_1 y654 (y654.length : Int) x27_2 t650 (t650.length : Int) (wrap64 (x47_4 + 1)) a0_0 l0_1))) else (none)) else (none)) = some (r1, r2, r3) := by rw [if_neg (show ¬ (false = true) by decide)] at H; exact H
                          clear H
                          have H := H1
                          clear H1
                          by_cases c53 : 0 ≤ x47_4
                          ·rw [if_pos c53] at H
                           have c53b0 := eq_true c53
                           have c53b1 : decide (0 ≤ x47_4) = true := decide_eq_true c53
                           clear c53
                           by_cases c54 : x47_4 ≤ (t650.length : Int)
                           ·rw [if_pos c54] at H
                            have c54b0 := eq_true c54
                            have c54b1 : decide (x47_4 ≤ (t650.length : Int)) = true := decide_eq_true c54
                            clear c54
                            obtain ⟨y664, hy664⟩ : ∃ y_ : List Int, y_ = (t650.drop (x47_4 : Int).toNat) := ⟨_, rfl⟩
                            replace H : ((slices_Contains_int_int.f kj33 y664 (Go.bits .or .i64 (Go.bits .and .i64 (rd t650 x18_1) (rd y654 x27_2)) (Go.bits .andNot .i64 (Go.bits .or .i64 (rd t650 x18_1) (rd y654 x27_2)) (rd t650 x47_4)))).bind fun t668 => (if t668 = true then ((a1 (rd t650 x18_1) (rd y654 x27_2) (rd t650 x47_4) (Go.bits .or .i64 (Go.bits .and .i64 (rd t650 x18_1) (rd y654 x27_2)) (Go.bits .andNot .i64 (Go.bits .or .i64 (rd t650 x18_1) (rd y654 x27_2)) (rd t650 x47_4)))).bind fun t669 => (if t669 = true then ((impl_pairs.f kj33 (([(rd t650 x18_1), (rd y654 x27_2)] : List Int)) (([(rd t650 x47_4), Go.bits .or .i64 (Go.bits .and .i64 (rd t650 x18_1) (rd y654 x27_2)) (Go.bits .andNot .i64 (Go.bits .or .i64 (rd t650 x18_1) (rd y654 x27_2)) (rd t650 x47_4))] : List Int))).bind fun bt676 => (some (bt676.1, bt676.2, true))) else (impl_votes_firstOfTwo.l2 a1 kj33 t650 (rd t650 x18_1) (rd y654 x27_2) t650 (t650.length : Int) x18_1 y654 (y654.length : Int) x27_2 t650 (t650.length : Int) (wrap64 (x47_4 + 1)) a0_0 l0_1))) else (impl_votes_firstOfTwo.l2 a1 kj33 t650 (rd t650 x18_1) (rd y654 x27_2) t650 (t650.length : Int) x18_1 y654 (y654.length : Int) x27_2 t650 (t650.length : Int) (wrap64 (x47_4 + 1)) a0_0 l0_1))) = some (r1, r2, r3) := by first | (rw [hy664]; with_reducible exact H) | (have H2_ := (Option.bind_some _ _).symm.trans H; rw [hy664]; with_reducible exact H2_) | (have H2_ := (Option.bind_some _ _).symm.trans H; with_reducible exact H2_) | with_reducible exact H | (rw [hy664]; exact H) | exact H
                            have Ny664 := Aside0.mk hy664
                            clear hy664
                            replace H := Option.bind_eq_some_iff.mp H
                            obtain ⟨t668, A550, H⟩ := H
                            replace H : (if t668 = true then ((a1 (rd t650 x18_1) (rd y654 x27_2) (rd t650 x47_4) (Go.bits .or .i64 (Go.bits .and .i64 (rd t650 x18_1) (rd y654 x27_2)) (Go.bits .andNot .i64 (Go.bits .or .i64 (rd t650 x18_1) (rd y654 x27_2)) (rd t650 x47_4)))).bind fun t669 => (if t669 = true then ((impl_pairs.f kj33 (([(rd t650 x18_1), (rd y654 x27_2)] : List Int)) (([(rd t650 x47_4), Go.bits .or .i64 (Go.bits .and .i64 (rd t650 x18_1) (rd y654 x27_2)) (Go.bits .andNot .i64 (Go.bits .or .i64 (rd t650 x18_1) (rd y654 x27_2)) (rd t650 x47_4))] : List Int))).bind fun bt676 => (some (bt676.1, bt676.2, true))) else (impl_votes_firstOfTwo.l2 a1 kj33 t650 (rd t650 x18_1) (rd y654 x27_2) t650 (t650.length : Int) x18_1 y654 (y654.length : Int) x27_2 t650 (t650.length : Int) (wrap64 (x47_4 + 1)) a0_0 l0_1))) else (impl_votes_firstOfTwo.l2 a1 kj33 t650 (rd t650 x18_1) (rd y654 x27_2) t650 (t650.length : Int) x18_1 y654 (y654.length : Int) x27_2 t650 (t650.length : Int) (wrap64 (x47_4 + 1)) a0_0 l0_1)) = some (r1, r2, r3) := H
                            have A55 := Aside0.mk A550
                            clear A550
                            by_cases c56 : t668 = true
                            ·subst c56
                             have H1 : ((a1 (rd t650 x18_1) (rd y654 x27_2) (rd t650 x47_4) (Go.bits .or .i64 (Go.bits .and .i64 (rd t650 x18_1) (rd y654 x27_2)) (Go.bits .andNot .i64 (Go.bits .or .i64 (rd t650 x18_1) (rd y654 x27_2)) (rd t650 x47_4)))).bind fun t669 => (if t669 = true then ((impl_pairs.f kj33 (([(rd t650 x18_1), (rd y654 x27_2)] : List Int)) (([(rd t650 x47_4), Go.bits .or .i64 (Go.bits .and .i64 (rd t650 x18_1) (rd y654 x27_2)) (Go.bits .andNot .i64 (Go.bits .or .i64 (rd t650 x18_1) (rd y654 x27_2)) (rd t650 x47_4))] : List Int))).bind fun bt676 => (some (bt676.1, bt676.2, true))) else (impl_votes_firstOfTwo.l2 a1 kj33 t650 (rd t650 x18_1) (rd y654 x27_2) t650 (t650.length : Int) x18_1 y654 (y654.length : Int) x27_2 t650 (t650.length : Int) (wrap64 (x47_4 + 1)) a0_0 l0_1))) = some (r1, r2, r3) := by rw [if_pos rfl] at H; exact H
                             clear H
                             have H := H1
                             clear H1
                             replace H := Option.bind_eq_some_iff.mp H
                             obtain ⟨t669, A570, H⟩ := H
                             replace H : (if t669 = true then ((impl_pairs.f kj33 (([(rd t650 x18_1), (rd y654 x27_2)] : List Int)) (([(rd t650 x47_4), Go.bits .or .i64 (Go.bits .and .i64 (rd t650 x18_1) (rd y654 x27_2)) (Go.bits .andNot .i64 (Go.bits .or .i64 (rd t650 x18_1) (rd y654 x27_2)) (rd t650 x47_4))] : List Int))).bind fun bt676 => (some (bt676.1, bt676.2, true))) else (impl_votes_firstOfTwo.l2 a1 kj33 t650 (rd t650 x18_1) (rd y654 x27_2) t650 (t650.length : Int) x18_1 y654 (y654.length : Int) x27_2 t650 (t650.length : Int) (wrap64 (x47_4 + 1)) a0_0 l0_1)) = some (r1, r2, r3) := H
                             have A57 := Aside0.mk A570
                             clear A570
                             by_cases c58 : t669 = true
                             ·subst c58
                              have H1 : ((impl_pairs.f kj33 (([(rd t650 x18_1), (rd y654 x27_2)] : List Int)) (([(rd t650 x47_4), Go.bits .or .i64 (Go.bits .and .i64 (rd t650 x18_1) (rd y654 x27_2)) (Go.bits .andNot .i64 (Go.bits .or .i64 (rd t650 x18_1) (rd y654 x27_2)) (rd t650 x47_4))] : List Int))).bind fun bt676 => (some (bt676.1, bt676.2, true))) = some (r1, r2, r3) := by rw [if_pos rfl] at H; exact H
                              clear H
                              have H := H1
                              clear H1
                              obtain ⟨y670, hy670⟩ : ∃ y_ : List Int, y_ = (([(rd t650 x18_1), (rd y654 x27_2)] : List Int)) := ⟨_, rfl⟩
                              replace H : ((impl_pairs.f kj33 y670 (([(rd t650 x47_4), Go.bits .or .i64 (Go.bits .and .i64 (rd t650 x18_1) (rd y654 x27_2)) (Go.bits .andNot .i64 (Go.bits .or .i64 (rd t650 x18_1) (rd y654 x27_2)) (rd t650 x47_4))] : List Int))).bind fun bt676 => (some (bt676.1, bt676.2, true))) = some (r1, r2, r3) := by first | (rw [hy670]; with_reducible exact H) | (have H2_ := (Option.bind_some _ _).symm.trans H; rw [hy670]; with_reducible exact H2_) | (have H2_ := (Option.bind_some _ _).symm.trans H; with_reducible exact H2_) | with_reducible exact H | (rw [hy670]; exact H) | exact H
                              have Ny670 := Aside0.mk hy670
                              clear hy670
                              obtain ⟨y673, hy673⟩ : ∃ y_ : List Int, y_ = (([(rd t650 x47_4), Go.bits .or .i64 (Go.bits .and .i64 (rd t650 x18_1) (rd y654 x27_2)) (Go.bits .andNot .i64 (Go.bits .or .i64 (rd t650 x18_1) (rd y654 x27_2)) (rd t650 x47_4))] : List Int)) := ⟨_, rfl⟩
                              replace H : ((impl_pairs.f kj33 y670 y673).bind fun bt676 => (some (bt676.1, bt676.2, true))) = some (r1, r2, r3) := by first | (rw [hy673]; with_reducible exact H) | (have H2_ := (Option.bind_some _ _).symm.trans H; rw [hy673]; with_reducible exact H2_) | (have H2_ := (Option.bind_some _ _).symm.trans H; with_reducible exact H2_) | with_reducible exact H | (rw [hy673]; exact H) | exact H
                              have Ny673 := Aside0.mk hy673
                              clear hy673
                              replace H := Option.bind_eq_some_iff.mp H
                              obtain ⟨⟨t676, t679⟩, A590, H⟩ := H
                              replace H : (some (t676, t679, true)) = some (r1, r2, r3) := H
                              have A59 := Aside0.mk A590
                              clear A590
                              simp only [Option.some.injEq, Prod.mk.injEq] at H
                              obtain ⟨rfl, rfl, rfl⟩ := H
                              have hnb60 := NB648_649.out
                              have hnc60 := NB649_648.out
                              have hcz61_0 : wc.cell? ⟨gb648, 0, none⟩ = some (.int .i64 a0_0) := (blk_cell BK648.out 0).trans rfl
                              have hcz61_1 : wc.cell? ⟨gb648, 1, none⟩ = some (.slice _ l0_1.length c0_1) := (blk_cell BK648.out 1).trans rfl
                              have hfz61_0 := blk_frozen BK648.out 0
                              have hfz61_1 := blk_frozen BK648.out 1
                              have p663 : 0 ≤ ((Go.bits .or .i64 (Go.bits .and .i64 (rd t650 x18_1) (rd y654 x27_2)) (Go.bits .andNot .i64 (Go.bits .or .i64 (rd t650 x18_1) (rd y654 x27_2)) (rd t650 x47_4))) : Int) := of_decide_eq_true (by first | (with_reducible assumption) | assumption)
                              have q663 : (Go.bits .or .i64 (Go.bits .and .i64 (rd t650 x18_1) (rd y654 x27_2)) (Go.bits .andNot .i64 (Go.bits .or .i64 (rd t650 x18_1) (rd y654 x27_2)) (rd t650 x47_4))) < (l0_1.length : Int) := of_decide_eq_true (by first | (with_reducible assumption) | assumption)
                              obtain ⟨ad663, e663, hx663_0⟩ := Kd.at_bool HR0_1.out (Go.bits .or .i64 (Go.bits .and .i64 (rd t650 x18_1) (rd y654 x27_2)) (Go.bits .andNot .i64 (Go.bits .or .i64 (rd t650 x18_1) (rd y654 x27_2)) (rd t650 x47_4))) p663 q663
                              (try rw [← Nbq49.out] at hx663_0)
                              cases e663
                              (try replace hx663_0 := (HB.out.cell (World.block_lt_of_cell? w _ hx663_0)).trans hx663_0)
                              replace p663 := eq_true p663
                              replace q663 := eq_true q663
                              have q62 : (x47_4 : Int) ≤ ((t650.length : Int) : Int) := of_decide_eq_true (by first | (with_reducible assumption) | assumption)
                              obtain ⟨i062, hi062, _, hsz62, _⟩ := info_parts info3
                              have hroom62 : t650.length ≤ co9 := (Kd.R_reads' HO_6.out).2.1
                              have hC62 : Kd.C (Kd.int .i64) _ (some ad653) t650.length t650 := (Kd.R_reads' HO_6.out).2.2
                              have q062 : (0 : Int) ≤ (x47_4 : Int) := of_decide_eq_true (by first | (with_reducible assumption) | assumption)
                              have hcut62 := cut_from (P := Try.prog) 71 3 .i64 Try.underlying71 hi062 1 hsz62 (some ad653) t650.length co9 x47_4 q062 q62
                              have hr62 := Kd.C_drop (m := (x47_4 : Int).toNat) (c := co9) hC62 (by omega) hroom62
                              obtain ⟨A62, hA62⟩ : ∃ A1, A1 = (if co9 = (x47_4 : Int).toNat then (some ad653) else ((some ad653) : Option Addr).map (·.add ((x47_4 : Int).toNat * 1))) := ⟨_, rfl⟩
                              obtain ⟨c62, hc62⟩ : ∃ c1, c1 = co9 - (x47_4 : Int).toNat := ⟨_, rfl⟩
                              have hy62 : y664.length = t650.length - (x47_4 : Int).toNat := (by rw [Ny664.out, List.length_drop] <;> omega)
                              rw [show (t650).drop (x47_4 : Int).toNat = y664 from Ny664.out.symm] at hr62
                              replace hr62 : Kd.C (Kd.int .i64) _ A62 y664.length y664 := (by rw [hA62]; exact hr62)
                              rw [← hy62, ← hA62, ← hc62] at hcut62
                              have HR667 := Aside0.mk hr62
                              have HC667 := Aside0.mk (show y664.length ≤ c62 from by rw [hy62, hc62]; exact Nat.sub_le_sub_right hroom62 _)
                              clear hr62 hC62 hroom62 hi062 hsz62 hc62
                              have KY62 := Aside0.mk hy62
                              have KA62 := Aside0.mk hA62
                              clear hy62 hA62
                              have KL62 := Aside0.mk (show (x47_4 : Int).toNat ≤ t650.length from by omega)
                              replace q62 := eq_true q62
                              go_wp2_with (first | (go_at_call 97; (with_reducible refine (slices_Contains_int_int.calls kj33 _ _ y664 (Go.bits .or .i64 (Go.bits .and .i64 (rd t650 x18_1) (rd y654 x27_2)) (Go.bits .andNot .i64 (Go.bits .or .i64 (rd t650 x18_1) (rd y654 x27_2)) (rd t650 x47_4))) true _ ?side1 ?side2 A55.out).mono ?_); (case side1 => repeat (first | exact (by repeat (first | (with_reducible exact HR667.out) | (with_reducible refine Kd.C_alloc ?_ _) | (with_reducible refine Kd.C_drewN ?_ _) | (with_reducible refine Kd.C_drew ?_) | exact HR667.out)) | (with_reducible refine Kd.C_alloc ?_ _) | (with_reducible refine Kd.C_drewN ?_ _) | (with_reducible refine Kd.C_drew ?_))); (case side2 => exact HC667.out); rintro e w' ⟨rfl, ⟨nd, rfl⟩⟩; (try (rw [drewN_self wc]; generalize hq_ : World.drewN wc _ = wc; have nz_ : Aside0 (Kd.C (Kd.int .i64) wc (some ad658) y654.length y654) := ⟨by rw [← hq_]; exact Kd.C_drewN HR657.out _⟩; have n0_ : Aside0 (Kd.R (Kd.int .i64) 3 wc w.heap.size (fun _ => True) (.slice (some ad653) t650.length co9) t650) := ⟨by rw [← hq_]; exact (zr HO_16.out)⟩; have n1_ : Aside0 (Kd.R (Kd.int .i64) 3 wc w.heap.size (fun _ => True) (.slice (some ad653) t650.length co9) t650) := ⟨by rw [← hq_]; exact (zr HO_45.out)⟩; have n2_ : Aside0 (Kd.R (Kd.int .i64) 3 wc w.heap.size (fun _ => True) (.slice (some ad653) t650.length co9) t650) := ⟨by rw [← hq_]; exact (zr HO_6.out)⟩; have n3_ : Aside0 (wc.heap[gb648]? = some (.cells #[.int .i64 a0_0, .slice (some ad663) l0_1.length c0_1] 62 (0, 0))) := ⟨by rw [← hq_]; exact (zb BK648.out)⟩; have n4_ : Aside0 (wc.heap[gb649]? = some (.cells #[.slice none 0 0, .slice none 0 0] 46 (0, 0))) := ⟨by rw [← hq_]; exact (zb BK649.out)⟩; have n5_ : Aside0 (Below w.heap.size w wc) := ⟨by rw [← hq_]; exact (zh HB.out)⟩; have n6_ : Aside0 (Kd.C (Kd.int .i64) wc A62 y664.length y664) := ⟨by rw [← hq_]; exact (by repeat (first | (with_reducible exact HR667.out) | (with_reducible refine Kd.C_alloc ?_ _) | (with_reducible refine Kd.C_drewN ?_ _) | (with_reducible refine Kd.C_drew ?_) | exact HR667.out))⟩; clear HO_16 HO_45 HO_6 BK648 BK649 HB HR667 HR657 hq_; have HR657 := nz_; clear nz_; have HO_16 := n0_; have HO_45 := n1_; have HO_6 := n2_; have BK648 := n3_; have BK649 := n4_; have HB := n5_; have HR667 := n6_; clear n0_ n1_ n2_ n3_ n4_ n5_ n6_))))
                              rw [← Array.append_assoc]
                              refine (hp_.out _ (rd t650 x18_1) (rd y654 x27_2) (rd t650 x47_4) (Go.bits .or .i64 (Go.bits .and .i64 (rd t650 x18_1) (rd y654 x27_2)) (Go.bits .andNot .i64 (Go.bits .or .i64 (rd t650 x18_1) (rd y654 x27_2)) (rd t650 x47_4))) true (zh HB.out) A57.out).mono ?_
                              rename_i K_ hK_
                              rintro e w63 ⟨rfl, hb⟩
                              (have n0_ := Aside0.mk (Kd.R_below (zr HO_6.out) hb); have n1_ := Aside0.mk (Kd.R_below (zr HO_16.out) hb); have n2_ := Aside0.mk (Kd.R_below (zr HO_45.out) hb); have n3_ := Aside0.mk (blk_below (g := gb648) (o := .cells #[.int .i64 a0_0, .slice (some ad663) l0_1.length c0_1] 62 (0, 0)) (zb BK648.out) hb); have n4_ := Aside0.mk (blk_below (g := gb649) (o := .cells #[.slice none 0 0, .slice none 0 0] 46 (0, 0)) (zb BK649.out) hb); have n5_ := Aside0.mk (Kd.C_below (by repeat (first | (with_reducible exact HR657.out) | (with_reducible refine Kd.C_alloc ?_ _) | (with_reducible refine Kd.C_drewN ?_ _) | (with_reducible refine Kd.C_drew ?_) | exact HR657.out)) hb); have n6_ := Aside0.mk (Kd.C_below (by repeat (first | (with_reducible exact HR667.out) | (with_reducible refine Kd.C_alloc ?_ _) | (with_reducible refine Kd.C_drewN ?_ _) | (with_reducible refine Kd.C_drew ?_) | exact HR667.out)) hb); have n7_ := Aside0.mk (below_step (zh HB.out) hb); clear HO_6; clear HO_16; clear HO_45; clear BK648; clear BK649; clear HR657; clear HR667; clear HB; have HO_6 := n0_; have HO_16 := n1_; have HO_45 := n2_; have BK648 := n3_; have BK649 := n4_; have HR657 := n5_; have HR667 := n6_; have HB := n7_; clear n0_ n1_ n2_ n3_ n4_ n5_ n6_ n7_; (try clear hb); (try clear hb2); (try clear hk); (try clear hi))
                              refine hK_ _ _ ?_
                              clear hK_ K_
                              go_wp2_with (first | ((with_reducible refine gate_dst (N := 108) rfl ?_); refine Kd.R_lit (Kd.int .i64) _ 3 ?hg (N := 108) ?hd (xs := ([(rd t650 x18_1), (rd y654 x27_2)] : List Int)) (inner := [.int .i64 (rd t650 x18_1), .int .i64 (rd y654 x27_2)]) (ok := fun _ => True) (okp := fun _ => True) ?hr ?hp (fun _ hk => hk) trivial (Below.refl _ _) (Nat.le_refl _) (by simp) ?_; (case hd => rfl); (case hg => rfl); (case hr => first | (go_simp; done) | (go_simp; rfl)); (case hp => exact (Reps.one (show Kd.M (Kd.int .i64) _ _ _ (rd t650 x18_1) [.int .i64 (rd t650 x18_1)] from rfl) (Reps.one (show Kd.M (Kd.int .i64) _ _ _ (rd y654 x27_2) [.int .i64 (rd y654 x27_2)] from rfl) (Reps.none _ _)))); intro v671 w64 ho65 hb hg_ hnew_; clear hg_ hnew_; (first | rw [← Ny670.out] at ho65 | (simp only [Int.reduceToNat] at ho65; rw [← Ny670.out] at ho65)); have n0_ := Aside0.mk (Kd.R_elder' (zr HO_6.out) (Kd.R_base ho65) hb); have n1_ := Aside0.mk (Kd.R_elder' (zr HO_16.out) (Kd.R_base ho65) hb); have n2_ := Aside0.mk (Kd.R_elder' (zr HO_45.out) (Kd.R_base ho65) hb); have n3_ := Aside0.mk (Kd.R_lower (Kd.R_new' (Kd.R_new' (Kd.R_new' ho65 (Kd.R_lt (zr HO_6.out))) (Kd.R_lt (zr HO_16.out))) (Kd.R_lt (zr HO_45.out))) (below_size (zh HB.out))); have n4_ := Aside0.mk (blk_below (g := gb648) (o := .cells #[.int .i64 a0_0, .slice (some ad663) l0_1.length c0_1] 62 (0, 0)) (zb BK648.out) hb); have n5_ := Aside0.mk (blk_below (g := gb649) (o := .cells #[.slice none 0 0, .slice none 0 0] 46 (0, 0)) (zb BK649.out) hb); have n6_ := Aside0.mk (Kd.C_below (by repeat (first | (with_reducible exact HR657.out) | (with_reducible refine Kd.C_alloc ?_ _) | (with_reducible refine Kd.C_drewN ?_ _) | (with_reducible refine Kd.C_drew ?_) | exact HR657.out)) hb); have n7_ := Aside0.mk (Kd.C_below (by repeat (first | (with_reducible exact HR667.out) | (with_reducible refine Kd.C_alloc ?_ _) | (with_reducible refine Kd.C_drewN ?_ _) | (with_reducible refine Kd.C_drew ?_) | exact HR667.out)) hb); have n8_ := Aside0.mk (below_step (zh HB.out) hb); clear HO_6; clear HO_16; clear HO_45; clear BK648; clear BK649; clear HR657; clear HR667; clear HB; have HO_6 := n0_; have HO_16 := n1_; have HO_45 := n2_; have HO672 := n3_; have BK648 := n4_; have BK649 := n5_; have HR657 := n6_; have HR667 := n7_; have HB := n8_; clear n0_ n1_ n2_ n3_ n4_ n5_ n6_ n7_ n8_; clear hb ho65) | ((with_reducible refine gate_dst (N := 111) rfl ?_); refine Kd.R_lit (Kd.int .i64) _ 3 ?hg (N := 111) ?hd (xs := ([(rd t650 x47_4), Go.bits .or .i64 (Go.bits .and .i64 (rd t650 x18_1) (rd y654 x27_2)) (Go.bits .andNot .i64 (Go.bits .or .i64 (rd t650 x18_1) (rd y654 x27_2)) (rd t650 x47_4))] : List Int)) (inner := [.int .i64 (rd t650 x47_4), .int .i64 (Go.bits .or .i64 (Go.bits .and .i64 (rd t650 x18_1) (rd y654 x27_2)) (Go.bits .andNot .i64 (Go.bits .or .i64 (rd t650 x18_1) (rd y654 x27_2)) (rd t650 x47_4)))]) (ok := fun _ => True) (okp := fun _ => True) ?hr ?hp (fun _ hk => hk) trivial (Below.refl _ _) (Nat.le_refl _) (by simp) ?_; (case hd => rfl); (case hg => rfl); (case hr => first | (go_simp; done) | (go_simp; rfl)); (case hp => exact (Reps.one (show Kd.M (Kd.int .i64) _ _ _ (rd t650 x47_4) [.int .i64 (rd t650 x47_4)] from rfl) (Reps.one (show Kd.M (Kd.int .i64) _ _ _ (Go.bits .or .i64 (Go.bits .and .i64 (rd t650 x18_1) (rd y654 x27_2)) (Go.bits .andNot .i64 (Go.bits .or .i64 (rd t650 x18_1) (rd y654 x27_2)) (rd t650 x47_4))) [.int .i64 (Go.bits .or .i64 (Go.bits .and .i64 (rd t650 x18_1) (rd y654 x27_2)) (Go.bits .andNot .i64 (Go.bits .or .i64 (rd t650 x18_1) (rd y654 x27_2)) (rd t650 x47_4)))] from rfl) (Reps.none _ _)))); intro v674 w66 ho67 hb hg_ hnew_; clear hg_ hnew_; (first | rw [← Ny673.out] at ho67 | (simp only [Int.reduceToNat] at ho67; rw [← Ny673.out] at ho67)); have n0_ := Aside0.mk (Kd.R_elder' (zr HO_6.out) (Kd.R_base ho67) hb); have n1_ := Aside0.mk (Kd.R_elder' (zr HO_16.out) (Kd.R_base ho67) hb); have n2_ := Aside0.mk (Kd.R_elder' (zr HO_45.out) (Kd.R_base ho67) hb); have n3_ := Aside0.mk (Kd.R_elder' (zr HO672.out) (Kd.R_base ho67) hb); have n4_ := Aside0.mk (Kd.R_lower (Kd.R_new' (Kd.R_new' (Kd.R_new' (Kd.R_new' ho67 (Kd.R_lt (zr HO_6.out))) (Kd.R_lt (zr HO_16.out))) (Kd.R_lt (zr HO_45.out))) (Kd.R_lt (zr HO672.out))) (below_size (zh HB.out))); have n5_ := Aside0.mk (blk_below (g := gb648) (o := .cells #[.int .i64 a0_0, .slice (some ad663) l0_1.length c0_1] 62 (0, 0)) (zb BK648.out) hb); have n6_ := Aside0.mk (blk_below (g := gb649) (o := .cells #[.slice none 0 0, .slice none 0 0] 46 (0, 0)) (zb BK649.out) hb); have n7_ := Aside0.mk (Kd.C_below (by repeat (first | (with_reducible exact HR657.out) | (with_reducible refine Kd.C_alloc ?_ _) | (with_reducible refine Kd.C_drewN ?_ _) | (with_reducible refine Kd.C_drew ?_) | exact HR657.out)) hb); have n8_ := Aside0.mk (Kd.C_below (by repeat (first | (with_reducible exact HR667.out) | (with_reducible refine Kd.C_alloc ?_ _) | (with_reducible refine Kd.C_drewN ?_ _) | (with_reducible refine Kd.C_drew ?_) | exact HR667.out)) hb); have n9_ := Aside0.mk (below_step (zh HB.out) hb); clear HO_6; clear HO_16; clear HO_45; clear HO672; clear BK648; clear BK649; clear HR657; clear HR667; clear HB; have HO_6 := n0_; have HO_16 := n1_; have HO_45 := n2_; have HO672 := n3_; have HO675 := n4_; have BK648 := n5_; have BK649 := n6_; have HR657 := n7_; have HR667 := n8_; have HB := n9_; clear n0_ n1_ n2_ n3_ n4_ n5_ n6_ n7_ n8_ n9_; clear hb ho67; obtain ⟨Ao68, co68, eo68⟩ := Kd.R_slice HO672.out; subst eo68; obtain ⟨Ao69, co69, eo69⟩ := Kd.R_slice HO675.out; subst eo69) | ((with_reducible refine gate_callee (f := 98) rfl ?_); refine goesL_ (some 112) rfl rfl Try.func98 (by kernel_rfl) rfl #[.slice Ao68 y670.length co68, .slice Ao69 y673.length co69] rfl (by (try simp only [List.map_toArray, List.map_cons, List.map_nil]); first | done | rfl | (simp only [List.length_drop, List.length_take]; rfl)) ?_; (with_reducible refine (impl_pairs.calls kj33 _ _ y670 _ _ y673 t676 t679 _ ?side1 ?side2 ?side3 ?side4 A59.out).mono ?_); (case side1 => repeat (first | exact (Kd.R_reads' HO672.out).2.2 | (with_reducible refine Kd.C_alloc ?_ _) | (with_reducible refine Kd.C_drewN ?_ _) | (with_reducible refine Kd.C_drew ?_))); (case side2 => exact (Kd.R_reads' HO672.out).2.1); (case side3 => repeat (first | exact (Kd.R_reads' HO675.out).2.2 | (with_reducible refine Kd.C_alloc ?_ _) | (with_reducible refine Kd.C_drewN ?_ _) | (with_reducible refine Kd.C_drew ?_))); (case side4 => exact (Kd.R_reads' HO675.out).2.1); rintro e w70 ⟨v677, v680, rfl, ow_, ho0, ho1, hb⟩; refine ⟨_, rfl, ?_⟩; have n0_ := Aside0.mk (Kd.R_below (zr HO_6.out) hb); have n1_ := Aside0.mk (Kd.R_below (zr HO_16.out) hb); have n2_ := Aside0.mk (Kd.R_below (zr HO_45.out) hb); have n3_ := Aside0.mk (Kd.R_below (zr HO672.out) hb); have n4_ := Aside0.mk (Kd.R_below (zr HO675.out) hb); have n5_ := Aside0.mk (Kd.S_lower (Kd.S_new' (Kd.S_new' (Kd.S_new' (Kd.S_new' (Kd.S_new' ho0 (Kd.R_lt (zr HO_6.out))) (Kd.R_lt (zr HO_16.out))) (Kd.R_lt (zr HO_45.out))) (Kd.R_lt (zr HO672.out))) (Kd.R_lt (zr HO675.out))) (below_size (zh HB.out))); have n6_ := Aside0.mk (Kd.S_lower (Kd.S_new' (Kd.S_new' (Kd.S_new' (Kd.S_new' (Kd.S_new' ho1 (Kd.R_lt (zr HO_6.out))) (Kd.R_lt (zr HO_16.out))) (Kd.R_lt (zr HO_45.out))) (Kd.R_lt (zr HO672.out))) (Kd.R_lt (zr HO675.out))) (below_size (zh HB.out))); have n7_ := Aside0.mk (blk_below (g := gb648) (o := .cells #[.int .i64 a0_0, .slice (some ad663) l0_1.length c0_1] 62 (0, 0)) (zb BK648.out) hb); have n8_ := Aside0.mk (blk_below (g := gb649) (o := .cells #[.slice none 0 0, .slice none 0 0] 46 (0, 0)) (zb BK649.out) hb); have n9_ := Aside0.mk (Kd.C_below (by repeat (first | (with_reducible exact HR657.out) | (with_reducible refine Kd.C_alloc ?_ _) | (with_reducible refine Kd.C_drewN ?_ _) | (with_reducible refine Kd.C_drew ?_) | exact HR657.out)) hb); have n10_ := Aside0.mk (Kd.C_below (by repeat (first | (with_reducible exact HR667.out) | (with_reducible refine Kd.C_alloc ?_ _) | (with_reducible refine Kd.C_drewN ?_ _) | (with_reducible refine Kd.C_drew ?_) | exact HR667.out)) hb); have n11_ := Aside0.mk (below_step (zh HB.out) hb); clear HO_6; clear HO_16; clear HO_45; clear HO672; clear HO675; clear BK648; clear BK649; clear HR657; clear HR667; clear HB; have HO_6 := n0_; have HO_16 := n1_; have HO_45 := n2_; have HO672 := n3_; have HO675 := n4_; have HO678 := n5_; have HO681 := n6_; have BK648 := n7_; have BK649 := n8_; have HR657 := n9_; have HR667 := n10_; have HB := n11_; clear n0_ n1_ n2_ n3_ n4_ n5_ n6_ n7_ n8_ n9_ n10_ n11_; (try clear hb); (try clear hb2); (try clear hk); (try clear hi); (try clear ho0); (try clear ho1); obtain ⟨Ao71, co71, eo71⟩ := Kd.S_slice HO678.out; subst eo71; have hcz72_0 : w70.cell? ⟨gb649, 0, none⟩ = some (.slice none 0 0) := (blk_cell BK649.out 0).trans rfl; have hcz72_1 : w70.cell? ⟨gb649, 1, none⟩ = some (.slice none 0 0) := (blk_cell BK649.out 1).trans rfl; have hfz72_0 := blk_frozen BK649.out 0; have hfz72_1 := blk_frozen BK649.out 1; obtain ⟨Ao73, co73, eo73⟩ := Kd.S_slice HO681.out; subst eo73))
                              refine bodyPost_ret (results_ct rfl _ _ gb649 46 #[.slice Ao71 t676.length co71, .slice Ao73 t679.length co73] (0, 0) _ rfl (by (with_reducible repeat (first | refine blk_drewN ?_ _ | refine blk_drew ?_ | refine blk_alloc ?_ _)); refine blk_put (cs := #[.slice Ao71 t676.length co71, .slice none 0 0]) ?_ 1 _ rfl; (with_reducible repeat (first | refine blk_drewN ?_ _ | refine blk_drew ?_ | refine blk_alloc ?_ _)); refine blk_put (cs := #[.slice none 0 0, .slice none 0 0]) ?_ 0 _ rfl; (with_reducible repeat (first | refine blk_drewN ?_ _ | refine blk_drew ?_ | refine blk_alloc ?_ _)); exact BK649.out) Try.underlying46 rfl (by kernel_rfl)) rfl ?_
                              exact ⟨_, _, by first | rfl | (simp [*, errW_none, errW_some] <;> rfl), ow_, by (with_reducible repeat (first | apply Kd.S_alloc | apply Kd.S_drewN | apply Kd.S_drew)); exact Kd.S_mono (Kd.S_far (p := ⟨gb649, 1, none⟩) (Kd.S_far (p := ⟨gb649, 0, none⟩) (Kd.S_types HO678.out BK649.out (by decide)) (fun _ hk => hk.2) (.slice Ao71 t676.length co71)) (fun _ hk => hk.2) (.slice Ao73 t679.length co73)) (fun _ hk => hk.1.1.1.1.1.1), by (with_reducible repeat (first | apply Kd.S_alloc | apply Kd.S_drewN | apply Kd.S_drew)); exact Kd.S_mono (Kd.S_far (p := ⟨gb649, 1, none⟩) (Kd.S_far (p := ⟨gb649, 0, none⟩) (Kd.S_types HO681.out BK649.out (by decide)) (fun _ hk => hk.2) (.slice Ao71 t676.length co71)) (fun _ hk => hk.2) (.slice Ao73 t679.length co73)) (fun _ hk => hk.1.1.1.1.1.1), zh HB.out⟩
                             ·replace c58 := Bool.eq_false_iff.mpr c58
                              subst c58
                              have H1 : (impl_votes_firstOfTwo.l2 a1 kj33 t650 (rd t650 x18_1) (rd y654 x27_2) t650 (t650.length : Int) x18_1 y654 (y654.length : Int) x27_2 t650 (t650.length : Int) (wrap64 (x47_4 + 1)) a0_0 l0_1) = some (r1, r2, r3) := by rw [if_neg (show ¬ (false = true) by decide)] at H; exact H
                              clear H
                              have H := H1
                              clear H1
                              have H' := Aside0.mk H
                              clear H
                              have hnb74 := NB648_649.out
                              have hnc74 := NB649_648.out
                              have hcz75_0 : wc.cell? ⟨gb648, 0, none⟩ = some (.int .i64 a0_0) := (blk_cell BK648.out 0).trans rfl
                              have hcz75_1 : wc.cell? ⟨gb648, 1, none⟩ = some (.slice _ l0_1.length c0_1) := (blk_cell BK648.out 1).trans rfl
                              have hfz75_0 := blk_frozen BK648.out 0
                              have hfz75_1 := blk_frozen BK648.out 1
                              have p663 : 0 ≤ ((Go.bits .or .i64 (Go.bits .and .i64 (rd t650 x18_1) (rd y654 x27_2)) (Go.bits .andNot .i64 (Go.bits .or .i64 (rd t650 x18_1) (rd y654 x27_2)) (rd t650 x47_4))) : Int) := of_decide_eq_true (by first | (with_reducible assumption) | assumption)
                              have q663 : (Go.bits .or .i64 (Go.bits .and .i64 (rd t650 x18_1) (rd y654 x27_2)) (Go.bits .andNot .i64 (Go.bits .or .i64 (rd t650 x18_1) (rd y654 x27_2)) (rd t650 x47_4))) < (l0_1.length : Int) := of_decide_eq_true (by first | (with_reducible assumption) | assumption)
                              obtain ⟨ad663, e663, hx663_0⟩ := Kd.at_bool HR0_1.out (Go.bits .or .i64 (Go.bits .and .i64 (rd t650 x18_1) (rd y654 x27_2)) (Go.bits .andNot .i64 (Go.bits .or .i64 (rd t650 x18_1) (rd y654 x27_2)) (rd t650 x47_4))) p663 q663
                              (try rw [← Nbq49.out] at hx663_0)
                              cases e663
                              (try replace hx663_0 := (HB.out.cell (World.block_lt_of_cell? w _ hx663_0)).trans hx663_0)
                              replace p663 := eq_true p663
                              replace q663 := eq_true q663
                              have q76 : (x47_4 : Int) ≤ ((t650.length : Int) : Int) := of_decide_eq_true (by first | (with_reducible assumption) | assumption)
                              obtain ⟨i076, hi076, _, hsz76, _⟩ := info_parts info3
                              have hroom76 : t650.length ≤ co9 := (Kd.R_reads' HO_6.out).2.1
                              have hC76 : Kd.C (Kd.int .i64) _ (some ad653) t650.length t650 := (Kd.R_reads' HO_6.out).2.2
                              have q076 : (0 : Int) ≤ (x47_4 : Int) := of_decide_eq_true (by first | (with_reducible assumption) | assumption)
                              have hcut76 := cut_from (P := Try.prog) 71 3 .i64 Try.underlying71 hi076 1 hsz76 (some ad653) t650.length co9 x47_4 q076 q76
                              have hr76 := Kd.C_drop (m := (x47_4 : Int).toNat) (c := co9) hC76 (by omega) hroom76
                              obtain ⟨A76, hA76⟩ : ∃ A1, A1 = (if co9 = (x47_4 : Int).toNat then (some ad653) else ((some ad653) : Option Addr).map (·.add ((x47_4 : Int).toNat * 1))) := ⟨_, rfl⟩
                              obtain ⟨c76, hc76⟩ : ∃ c1, c1 = co9 - (x47_4 : Int).toNat := ⟨_, rfl⟩
                              have hy76 : y664.length = t650.length - (x47_4 : Int).toNat := (by rw [Ny664.out, List.length_drop] <;> omega)
                              rw [show (t650).drop (x47_4 : Int).toNat = y664 from Ny664.out.symm] at hr76
                              replace hr76 : Kd.C (Kd.int .i64) _ A76 y664.length y664 := (by rw [hA76]; exact hr76)
                              rw [← hy76, ← hA76, ← hc76] at hcut76
                              have HR667 := Aside0.mk hr76
                              have HC667 := Aside0.mk (show y664.length ≤ c76 from by rw [hy76, hc76]; exact Nat.sub_le_sub_right hroom76 _)
                              clear hr76 hC76 hroom76 hi076 hsz76 hc76
                              have KY76 := Aside0.mk hy76
                              have KA76 := Aside0.mk hA76
                              clear hy76 hA76
                              have KL76 := Aside0.mk (show (x47_4 : Int).toNat ≤ t650.length from by omega)
                              replace q76 := eq_true q76
                              go_wp2_with (first | (go_at_call 97; (with_reducible refine (slices_Contains_int_int.calls kj33 _ _ y664 (Go.bits .or .i64 (Go.bits .and .i64 (rd t650 x18_1) (rd y654 x27_2)) (Go.bits .andNot .i64 (Go.bits .or .i64 (rd t650 x18_1) (rd y654 x27_2)) (rd t650 x47_4))) true _ ?side1 ?side2 A55.out).mono ?_); (case side1 => repeat (first | exact (by repeat (first | (with_reducible exact HR667.out) | (with_reducible refine Kd.C_alloc ?_ _) | (with_reducible refine Kd.C_drewN ?_ _) | (with_reducible refine Kd.C_drew ?_) | exact HR667.out)) | (with_reducible refine Kd.C_alloc ?_ _) | (with_reducible refine Kd.C_drewN ?_ _) | (with_reducible refine Kd.C_drew ?_))); (case side2 => exact HC667.out); rintro e w' ⟨rfl, ⟨nd, rfl⟩⟩))
                              rw [← Array.append_assoc]
                              refine (hp_.out _ (rd t650 x18_1) (rd y654 x27_2) (rd t650 x47_4) (Go.bits .or .i64 (Go.bits .and .i64 (rd t650 x18_1) (rd y654 x27_2)) (Go.bits .andNot .i64 (Go.bits .or .i64 (rd t650 x18_1) (rd y654 x27_2)) (rd t650 x47_4))) false (zh HB.out) A57.out).mono ?_
                              rename_i K_ hK_
                              rintro e w77 ⟨rfl, hb⟩
                              (have n0_ := Aside0.mk (Kd.R_below (zr HO_6.out) hb); have n1_ := Aside0.mk (Kd.R_below (zr HO_16.out) hb); have n2_ := Aside0.mk (Kd.R_below (zr HO_45.out) hb); have n3_ := Aside0.mk (blk_below (g := gb648) (o := .cells #[.int .i64 a0_0, .slice (some ad663) l0_1.length c0_1] 62 (0, 0)) (zb BK648.out) hb); have n4_ := Aside0.mk (blk_below (g := gb649) (o := .cells #[.slice none 0 0, .slice none 0 0] 46 (0, 0)) (zb BK649.out) hb); have n5_ := Aside0.mk (Kd.C_below (Kd.C_drewN HR657.out _) hb); have n6_ := Aside0.mk (Kd.C_below (Kd.C_drewN HR667.out _) hb); have n7_ := Aside0.mk (below_step (zh HB.out) hb); clear HO_6; clear HO_16; clear HO_45; clear BK648; clear BK649; clear HR657; clear HR667; clear HB; have HO_6 := n0_; have HO_16 := n1_; have HO_45 := n2_; have BK648 := n3_; have BK649 := n4_; have HR657 := n5_; have HR667 := n6_; have HB := n7_; clear n0_ n1_ n2_ n3_ n4_ n5_ n6_ n7_; (try clear hb); (try clear hb2); (try clear hk); (try clear hi))
                              refine hK_ _ _ ?_
                              clear hK_ K_
                              go_wp2
                              go_roundg kj33
                              case measure => have := HK1.out; have := HK2.out; have := HJ18.out; have := HK4.out; have := HJ33.out; omega
                              case rel => exact ⟨(wrap64 (x47_4 + 1)), (by first | rfl | (simp; done) | (simp [*]; done)), H', ⟨by have := HK1.out; have := HK2.out; have := HJ18.out; have := HK4.out; have := HJ33.out; omega⟩, ⟨zr HO_6.out⟩, ⟨zr HO_16.out⟩, ⟨zr HO_45.out⟩, ⟨zb BK648.out⟩, ⟨zb BK649.out⟩, ⟨by repeat (first | (with_reducible exact HR657.out) | (with_reducible refine Kd.C_alloc ?_ _) | (with_reducible refine Kd.C_drewN ?_ _) | (with_reducible refine Kd.C_drew ?_) | exact HR657.out)⟩, ⟨zh HB.out⟩⟩
                            ·replace c56 := Bool.eq_false_iff.mpr c56
                             subst c56
                             have H1 : (impl_votes_firstOfTwo.l2 a1 kj33 t650 (rd t650 x18_1) (rd y654 x27_2) t650 (t650.length : Int) x18_1 y654 (y654.length : Int) x27_2 t650 (t650.length : Int) (wrap64 (x47_4 + 1)) a0_0 l0_1) = some (r1, r2, r3) := by rw [if_neg (show ¬ (false = true) by decide)] at H; exact H
                             clear H
                             have H := H1
                             clear H1
                             have H' := Aside0.mk H
                             clear H
                             have hnb78 := NB648_649.out
                             have hnc78 := NB649_648.out
                             have hcz79_0 : wc.cell? ⟨gb648, 0, none⟩ = some (.int .i64 a0_0) := (blk_cell BK648.out 0).trans rfl
                             have hcz79_1 : wc.cell? ⟨gb648, 1, none⟩ = some (.slice _ l0_1.length c0_1) := (blk_cell BK648.out 1).trans rfl
                             have hfz79_0 := blk_frozen BK648.out 0
                             have hfz79_1 := blk_frozen BK648.out 1
                             have p663 : 0 ≤ ((Go.bits .or .i64 (Go.bits .and .i64 (rd t650 x18_1) (rd y654 x27_2)) (Go.bits .andNot .i64 (Go.bits .or .i64 (rd t650 x18_1) (rd y654 x27_2)) (rd t650 x47_4))) : Int) := of_decide_eq_true (by first | (with_reducible assumption) | assumption)
                             have q663 : (Go.bits .or .i64 (Go.bits .and .i64 (rd t650 x18_1) (rd y654 x27_2)) (Go.bits .andNot .i64 (Go.bits .or .i64 (rd t650 x18_1) (rd y654 x27_2)) (rd t650 x47_4))) < (l0_1.length : Int) := of_decide_eq_true (by first | (with_reducible assumption) | assumption)
                             obtain ⟨ad663, e663, hx663_0⟩ := Kd.at_bool HR0_1.out (Go.bits .or .i64 (Go.bits .and .i64 (rd t650 x18_1) (rd y654 x27_2)) (Go.bits .andNot .i64 (Go.bits .or .i64 (rd t650 x18_1) (rd y654 x27_2)) (rd t650 x47_4))) p663 q663
                             (try rw [← Nbq49.out] at hx663_0)
                             cases e663
                             (try replace hx663_0 := (HB.out.cell (World.block_lt_of_cell? w _ hx663_0)).trans hx663_0)
                             replace p663 := eq_true p663
                             replace q663 := eq_true q663
                             have q80 : (x47_4 : Int) ≤ ((t650.length : Int) : Int) := of_decide_eq_true (by first | (with_reducible assumption) | assumption)
                             obtain ⟨i080, hi080, _, hsz80, _⟩ := info_parts info3
                             have hroom80 : t650.length ≤ co9 := (Kd.R_reads' HO_6.out).2.1
                             have hC80 : Kd.C (Kd.int .i64) _ (some ad653) t650.length t650 := (Kd.R_reads' HO_6.out).2.2
                             have q080 : (0 : Int) ≤ (x47_4 : Int) := of_decide_eq_true (by first | (with_reducible assumption) | assumption)
                             have hcut80 := cut_from (P := Try.prog) 71 3 .i64 Try.underlying71 hi080 1 hsz80 (some ad653) t650.length co9 x47_4 q080 q80
                             have hr80 := Kd.C_drop (m := (x47_4 : Int).toNat) (c := co9) hC80 (by omega) hroom80
                             obtain ⟨A80, hA80⟩ : ∃ A1, A1 = (if co9 = (x47_4 : Int).toNat then (some ad653) else ((some ad653) : Option Addr).map (·.add ((x47_4 : Int).toNat * 1))) := ⟨_, rfl⟩
                             obtain ⟨c80, hc80⟩ : ∃ c1, c1 = co9 - (x47_4 : Int).toNat := ⟨_, rfl⟩
                             have hy80 : y664.length = t650.length - (x47_4 : Int).toNat := (by rw [Ny664.out, List.length_drop] <;> omega)
                             rw [show (t650).drop (x47_4 : Int).toNat = y664 from Ny664.out.symm] at hr80
                             replace hr80 : Kd.C (Kd.int .i64) _ A80 y664.length y664 := (by rw [hA80]; exact hr80)
                             rw [← hy80, ← hA80, ← hc80] at hcut80
                             have HR667 := Aside0.mk hr80
                             have HC667 := Aside0.mk (show y664.length ≤ c80 from by rw [hy80, hc80]; exact Nat.sub_le_sub_right hroom80 _)
                             clear hr80 hC80 hroom80 hi080 hsz80 hc80
                             have KY80 := Aside0.mk hy80
                             have KA80 := Aside0.mk hA80
                             clear hy80 hA80
                             have KL80 := Aside0.mk (show (x47_4 : Int).toNat ≤ t650.length from by omega)
                             replace q80 := eq_true q80
                             go_wp2_with (first | (go_at_call 97; (with_reducible refine (slices_Contains_int_int.calls kj33 _ _ y664 (Go.bits .or .i64 (Go.bits .and .i64 (rd t650 x18_1) (rd y654 x27_2)) (Go.bits .andNot .i64 (Go.bits .or .i64 (rd t650 x18_1) (rd y654 x27_2)) (rd t650 x47_4))) false _ ?side1 ?side2 A55.out).mono ?_); (case side1 => repeat (first | exact (by repeat (first | (with_reducible exact HR667.out) | (with_reducible refine Kd.C_alloc ?_ _) | (with_reducible refine Kd.C_drewN ?_ _) | (with_reducible refine Kd.C_drew ?_) | exact HR667.out)) | (with_reducible refine Kd.C_alloc ?_ _) | (with_reducible refine Kd.C_drewN ?_ _) | (with_reducible refine Kd.C_drew ?_))); (case side2 => exact HC667.out); rintro e w' ⟨rfl, ⟨nd, rfl⟩⟩))
                             go_roundg kj33
                             case measure => have := HK1.out; have := HK2.out; have := HJ18.out; have := HK4.out; have := HJ33.out; omega
                             case rel => exact ⟨(wrap64 (x47_4 + 1)), (by first | rfl | (simp; done) | (simp [*]; done)), H', ⟨by have := HK1.out; have := HK2.out; have := HJ18.out; have := HK4.out; have := HJ33.out; omega⟩, ⟨zr HO_6.out⟩, ⟨zr HO_16.out⟩, ⟨zr HO_45.out⟩, ⟨zb BK648.out⟩, ⟨zb BK649.out⟩, ⟨by repeat (first | (with_reducible exact HR657.out) | (with_reducible refine Kd.C_alloc ?_ _) | (with_reducible refine Kd.C_drewN ?_ _) | (with_reducible refine Kd.C_drew ?_) | exact HR657.out)⟩, ⟨zh HB.out⟩⟩
                           ·rw [if_neg c54] at H
                            exact absurd H (by simp)
                          ·rw [if_neg c53] at H
                           exact absurd H (by simp)
                        ·rw [if_neg c48] at H
                         exact absurd H (by simp)
                       ·rw [if_neg c47] at H
                        exact absurd H (by simp)
                   ·rw [if_neg c33] at H
                    exact absurd H (by simp)
                  ·rw [if_neg c32] at H
                   exact absurd H (by simp)
                 ·rw [if_neg c31] at H
                  have c31b0 : decide (x47_4 < (t650.length : Int)) = false := decide_eq_false c31
                  clear c31
                  have H' := Aside0.mk H
                  clear H
                  go_wp2
                  go_roundg k4
                  case measure => have := HK1.out; have := HK2.out; have := HJ18.out; have := HK4.out; omega
                  case rel => exact ⟨(wrap64 (x27_2 + 1)), (by first | rfl | (simp; done) | (simp [*]; done)), H', ⟨by have := HK1.out; have := HK2.out; have := HJ18.out; have := HK4.out; omega⟩, ⟨zr HO_6.out⟩, ⟨zr HO_16.out⟩, ⟨zb BK648.out⟩, ⟨zb BK649.out⟩, ⟨by repeat (first | (with_reducible exact HR657.out) | (with_reducible refine Kd.C_alloc ?_ _) | (with_reducible refine Kd.C_drewN ?_ _) | (with_reducible refine Kd.C_drew ?_) | exact HR657.out)⟩, ⟨zh HB.out⟩⟩
           ·rw [if_neg c18] at H
            exact absurd H (by simp)
          ·rw [if_neg c17] at H
           exact absurd H (by simp)
         ·rw [if_neg c16] at H
          have c16b0 : decide (x27_2 < (y654.length : Int)) = false := decide_eq_false c16
          clear c16
          have H' := Aside0.mk H
          clear H
          go_wp2
          go_roundg k2
          case measure => have := HK1.out; have := HK2.out; omega
          case rel => exact ⟨(wrap64 (x18_1 + 1)), (by first | rfl | (simp; done) | (simp [*]; done)), H', ⟨by have := HK1.out; have := HK2.out; omega⟩, ⟨zr HO_6.out⟩, ⟨zr HO_16.out⟩, ⟨zb BK648.out⟩, ⟨zb BK649.out⟩, ⟨zh HB.out⟩⟩
      ·rw [if_neg c14] at H
       exact absurd H (by simp)
     ·rw [if_neg c12] at H
      exact absurd H (by simp)
    ·rw [if_neg c11] at H
     exact absurd H (by simp)
   ·rw [if_neg c10] at H
    have c10b0 : decide (x18_1 < (t650.length : Int)) = false := decide_eq_false c10
    clear c10
    simp only [Option.some.injEq, Prod.mk.injEq] at H
    obtain ⟨rfl, rfl, rfl⟩ := H
    have hnb81 := NB649_648.out
    have hnc81 := NB648_649.out
    have hcz82_0 : wr.cell? ⟨gb649, 0, none⟩ = some (.slice none 0 0) := (blk_cell BK649.out 0).trans rfl
    have hcz82_1 : wr.cell? ⟨gb649, 1, none⟩ = some (.slice none 0 0) := (blk_cell BK649.out 1).trans rfl
    have hfz82_0 := blk_frozen BK649.out 0
    have hfz82_1 := blk_frozen BK649.out 1
    go_wp2
    refine bodyPost_ret (results_ct rfl _ _ gb649 46 #[.slice none 0 0, .slice none 0 0] (0, 0) _ rfl (by (with_reducible repeat (first | refine blk_drewN ?_ _ | refine blk_drew ?_ | refine blk_alloc ?_ _)); refine blk_put (cs := #[.slice none 0 0, .slice none 0 0]) ?_ 1 _ rfl; (with_reducible repeat (first | refine blk_drewN ?_ _ | refine blk_drew ?_ | refine blk_alloc ?_ _)); refine blk_put (cs := #[.slice none 0 0, .slice none 0 0]) ?_ 0 _ rfl; (with_reducible repeat (first | refine blk_drewN ?_ _ | refine blk_drew ?_ | refine blk_alloc ?_ _)); exact BK649.out) Try.underlying46 rfl (by kernel_rfl)) rfl ?_
    exact ⟨_, _, by first | rfl | (simp [*, errW_none, errW_some] <;> rfl), fun _ => true, by first | exact Kd.S_nil _ _ _ _ _ | exact Kd.N_nil _ _ _ _ _ | exact Kd.V_nil _ _ _ _ _ | exact Kd.Q_nil _ _ _ _ _ | exact Kd.R_nil _ _ _ _ _, by first | exact Kd.S_nil _ _ _ _ _ | exact Kd.N_nil _ _ _ _ _ | exact Kd.V_nil _ _ _ _ _ | exact Kd.Q_nil _ _ _ _ _ | exact Kd.R_nil _ _ _ _ _, zh HB.out⟩
end
end Go.Proofs.Ytaacaifiiedoiaa.Q
end
section
namespace Go.Proofs.Ytaacaifiiedoiaa.Q
open Go.RowKit Go.Proofs.YtaacaifiiedoiaaW.PrintWords Go.Proofs.YtaacaifiiedoiaaW.PrintLast Go.Proofs.YtaacaifiiedoiaaW.PrintMore
set_option linter.unusedVariables false
set_option linter.unusedSimpArgs false
theorem firstTrade_1.pred (w : World) : PredI4 Try.prog 95 #[] #[] w (fun _ _ _ _ => some true) := by
  intro W x y z u b hb hp
  obtain rfl := Option.some.inj hp
  show Calls Try.prog 95 #[.int .i64 x, .int .i64 y, .int .i64 z, .int .i64 u] W _
  clear hp
  go_enter Try.func95, Try.ntmps95
  go_wp2
  go_ret
  exact ⟨rfl, Below.refl _ _⟩
def firstOfAny.f (k : Nat) (a0_0 : Int) (l0_1 : List Bool) : Option ((List (List Int)) × (List (List Int)) × Bool) := impl_votes_firstOfTwo.f k a0_0 l0_1 (fun _ _ _ _ => some true)
theorem firstOfAny.calls (k : Nat) (a0_0 : Int) (A0_1 : Option Addr) (c0_1 : Nat) (l0_1 : List Bool) (r1 : List (List Int)) (r2 : List (List Int)) (r3 : Bool) (w : World) (hr0_1 : Kd.C Kd.bool w A0_1 l0_1.length l0_1) (hc0_1 : l0_1.length ≤ c0_1) (h : firstOfAny.f k a0_0 l0_1 = some (r1, r2, r3)) :
    Calls Try.prog 64 #[.agg #[.int .i64 a0_0, .slice A0_1 l0_1.length c0_1], .func (.func 95) #[] #[]] w fun e w' => ∃ v0_ v1_ : Value, e = .returned (.tuple #[.agg #[v0_, v1_], .bool r3]) ∧ ∃ ow_ : Nat → Bool, Kd.S (Kd.slice 3 (Kd.int .i64)) 71 w' w.heap.size (fun k_ => ow_ k_ = true) v0_ r1 ∧ Kd.S (Kd.slice 3 (Kd.int .i64)) 71 w' w.heap.size (fun k_ => ow_ k_ = false) v1_ r2 ∧ Below w.heap.size w w' :=
  impl_votes_firstOfTwo.calls k a0_0 A0_1 c0_1 l0_1 _ 95 #[] #[] (enters_of Try.func95 (by kernel_rfl) rfl) r1 r2 r3 w (firstTrade_1.pred w) hr0_1 hc0_1 h
end Go.Proofs.Ytaacaifiiedoiaa.Q
end

/- Part 6 of the proof of FnExactChambersOf: what it leans on (no condition). -/
import Derived.Test.YtmbkmabpebjboaaGreatKFnExactChambersOf5
import Derived.ProofKit
import Derived.OpenShut
import Derived.ShutString
import Derived.ChangeOld
import Derived.SizedLaws
import Derived.Deep.Slices
import Derived.Deep.Strs
section
namespace Go.Proofs.YtmbkmabpebjboaaGreat.Q
open Go.RowKit Go.Proofs.YtmbkmabpebjboaaGreatW.PrintWords Go.Proofs.YtmbkmabpebjboaaGreatW.PrintLast Go.Proofs.YtmbkmabpebjboaaGreatW.PrintMore
attribute [local go_sem] max2_int min2_int max_two min_two max_three min_three max_four min_four
set_option linter.unusedVariables false
set_option linter.unusedSimpArgs false
mutual
def spec_gmGood.l0 : Nat → List (List Int) → Int → Int → Int → List (List Int) → Option (Bool)
 | 0, _, _, _, _, _ => none
 | k + 1, x16, x17, x18, x119000, x119001 => if x18 < x17 then (if 0 ≤ x18 then (if x18 < (x16.length : Int) then (if x18 > 0 then (if 0 ≤ (wrap64 (x18 - 1)) then (if (wrap64 (x18 - 1)) < (x119001.length : Int) then ((spec_voBefore.f k (rd_L1 x119001 (wrap64 (x18 - 1))) (rd_L1 x16 x18)).bind fun t122 => (spec_gmGood.j1 k x18 (rd_L1 x16 x18) x16 x17 x18 (!t122) x119000 x119001)) else (none)) else (none)) else (spec_gmGood.j1 k x18 (rd_L1 x16 x18) x16 x17 x18 false x119000 x119001)) else (none)) else (none)) else (some true)
def spec_gmGood.j1 : Nat → Int → List Int → List (List Int) → Int → Int → Bool → Int → List (List Int) → Option (Bool)
 | 0, _, _, _, _, _, _, _, _ => none
 | k + 1, x3, x4, x16, x17, x18, x35, x119000, x119001 => if x35 = true then (some false) else ((spec_voBits.f k x4).bind fun t123 => (if 0 ≤ x3 then (if x3 ≤ (x119001.length : Int) then ((some (x119001.take (x3 : Int).toNat : List (List Int))).bind fun y124 => (spec_gmGood.l1 k t123 x16 x17 x18 y124 (y124.length : Int) 0 x119000 x119001)) else (none)) else (none)))
def spec_gmGood.l1 : Nat → Int → List (List Int) → Int → Int → List (List Int) → Int → Int → Int → List (List Int) → Option (Bool)
 | 0, _, _, _, _, _, _, _, _, _ => none
 | k + 1, x5, x16, x17, x18, x41, x42, x43, x119000, x119001 => if x43 < x42 then (if 0 ≤ x43 then (if x43 < (x41.length : Int) then ((spec_voBits.f k (rd_L1 x41 x43)).bind fun t129 => (if (Go.bits .and .i64 x5 t129) = x5 then (some false) else (if (Go.bits .and .i64 x5 t129) = t129 then (some false) else (spec_gmGood.l1 k x5 x16 x17 x18 x41 x42 (wrap64 (x43 + 1)) x119000 x119001)))) else (none)) else (none)) else (spec_gmGood.l0 k x16 x17 (wrap64 (x18 + 1)) x119000 x119001)
end
def spec_gmGood.f (k : Nat) (a0_0 : Int) (l0_1 : List (List Int)) : Option (Bool) := (spec_gmSets.f k a0_0 l0_1 126).bind fun t119 => (if t119 = true then (spec_gmGood.l0 k l0_1 (l0_1.length : Int) 0 a0_0 l0_1) else (some false))
set_option maxHeartbeats 8000000 in
set_option maxRecDepth 100000 in
theorem spec_gmGood.calls (k : Nat) (a0_0 : Int) (A0_1 : Option Addr) (c0_1 : Nat) (l0_1 : List (List Int)) (r : Bool) (w : World) (hr0_1 : Kd.C (Kd.slice 3 (Kd.int .i64)) w A0_1 l0_1.length l0_1) (hc0_1 : l0_1.length ≤ c0_1) (h : spec_gmGood.f k a0_0 l0_1 = some r) :
  Calls Tryz.prog 50 #[.agg #[.int .i64 a0_0, .slice A0_1 l0_1.length c0_1]] w fun e w' => e = .returned (.bool r) ∧ Below w.heap.size w w' := by
 have hu28 := Tryz.underlying28
 have HR0_1 := Aside0.mk hr0_1
 have HC0_1 := Aside0.mk hc0_1
 clear hr0_1 hc0_1
 have HB := Aside0.mk (Below.refl w.heap.size w)
 have H : ((spec_gmSets.f k a0_0 l0_1 126).bind fun t119 => (if t119 = true then (spec_gmGood.l0 k l0_1 (l0_1.length : Int) 0 a0_0 l0_1) else (some false))) = some r := h
 clear h
 replace H := Option.bind_eq_some_iff.mp H
 obtain ⟨t119, A20, H⟩ := H
 have A2 := Aside0.mk A20
 clear A20
 by_cases c3 : t119 = true
 rotate_left
 ·replace c3 := Bool.eq_false_iff.mpr c3
  subst c3
  rw [if_neg zF] at H
  obtain rfl := Option.some.inj H
  go_enter Tryz.func50, Tryz.ntmps50
  go_wp2_with (first | ((with_reducible refine gate_dst (N := 1) rfl ?_); refine zq 1 #[.int .i64 a0_0, .slice A0_1 l0_1.length c0_1] 28 ?_; intro gb118 hg w28 hbox hb; have GW118 := zG hg HB; replace HB := zH hb HB; have BK118 := Aside0.mk hbox; have GE118 := GW118; clear hb hbox hg; obtain ⟨hcz29_0, hcz29_1, hfz29_0, hfz29_1⟩ := zC2 BK118) | ((with_reducible refine gate_callee (f := 82) rfl ?_); refine zl 13 Tryz.func82 #[.int .i64 a0_0, .slice A0_1 l0_1.length c0_1, .int .i64 126] ?_; (with_reducible refine (spec_gmSets.calls k a0_0 _ _ l0_1 126 false _ ?side1 ?side2 A2.out).mono ?_); (case side1 => exact zQ (Kd.C_below HR0_1.out HB.out)); (case side2 => exact HC0_1.out); rintro e w' ⟨rfl, ⟨nd, rfl⟩⟩; refine ⟨_, rfl, ?_⟩))
  go_ret
  exact ⟨by first | rfl | (simp [*, errW_none, errW_some] <;> rfl), zh HB.out⟩
 subst c3
 rw [if_pos rfl] at H
 have H' := Aside0.mk H
 clear H
 go_enter Tryz.func50, Tryz.ntmps50
 go_wp2_with (first | ((with_reducible refine gate_dst (N := 1) rfl ?_); refine zq 1 #[.int .i64 a0_0, .slice A0_1 l0_1.length c0_1] 28 ?_; intro gb118 hg w4 hbox hb; have GW118 := zG hg HB; replace HB := zH hb HB; have BK118 := Aside0.mk hbox; have GE118 := GW118; clear hb hbox hg; obtain ⟨hcz5_0, hcz5_1, hfz5_0, hfz5_1⟩ := zC2 BK118) | ((with_reducible refine gate_callee (f := 82) rfl ?_); refine zl 13 Tryz.func82 #[.int .i64 a0_0, .slice A0_1 l0_1.length c0_1, .int .i64 126] ?_; (with_reducible refine (spec_gmSets.calls k a0_0 _ _ l0_1 126 true _ ?side1 ?side2 A2.out).mono ?_); (case side1 => exact zQ (Kd.C_below HR0_1.out HB.out)); (case side2 => exact HC0_1.out); rintro e w' ⟨rfl, ⟨nd, rfl⟩⟩; refine ⟨_, rfl, ?_⟩))
 go_loopg [18] k (fun kq v18 w' => ∃ (x18_1 : Int), v18 = .int .i64 x18_1 ∧ Aside0 (spec_gmGood.l0 kq l0_1 (l0_1.length : Int) x18_1 a0_0 l0_1 = some r) ∧ Aside0 (kq ≤ k) ∧ Aside0 (w'.heap[gb118]? = some (.cells #[.int .i64 a0_0, (.slice A0_1 l0_1.length c0_1)] 28 (0, 0))) ∧ Aside0 (Below w.heap.size w w'))
 case atStart => exact ⟨(0), zE, H', ⟨Nat.le_refl _⟩, ⟨zb BK118.out⟩, ⟨zh HB.out⟩⟩
 case round =>
  clear H'
  try clear p2
  try clear c3
  try clear c5
  try clear hcz5_0
  try clear hcz5_1
  try clear hfz5_0
  try clear hfz5_1
  obtain ⟨x18_1, rfl, HA, HK1, BK118, HB⟩ := hrel
  cases gk with
  | zero => exact absurd HA.out (by simp [spec_gmGood.l0])
  | succ k1 =>
   have H := HA.out
   clear HA
   simp only [spec_gmGood.l0] at H
   by_cases c6 : x18_1 < (l0_1.length : Int)
   rotate_left
   ·rw [if_neg c6] at H
    have c6b0 := decide_eq_false c6
    clear c6
    obtain rfl := Option.some.inj H
    go_wp2
    go_ret
    exact ⟨by first | rfl | (simp [*, errW_none, errW_some] <;> rfl), zh HB.out⟩
   rw [if_pos c6] at H
   have c6b0 := decide_eq_true c6
   clear c6
   by_cases c7 : 0 ≤ x18_1
   rotate_left
   ·rw [if_neg c7] at H
    cases H
   rw [if_pos c7] at H
   have c7b0 := decide_eq_true c7
   clear c7
   by_cases c8 : x18_1 < (l0_1.length : Int)
   rotate_left
   ·rw [if_neg c8] at H
    cases H
   rw [if_pos c8] at H
   have c8b0 := decide_eq_true c8
   clear c8
   have HC9 := Aside0.mk H
   clear H
   obtain ⟨⟨ad120, A120_0, c120_0, e120, hx120_0, hl120_0, hi120_0⟩, p120, q120⟩ := zW (at_L1 HR0_1.out x18_1)
   cases e120
   replace hx120_0 := zx HB.out hx120_0
   have HR120_0 := Aside0.mk hi120_0
   have HC120_0 := Aside0.mk hl120_0
   clear hi120_0 hl120_0
   go_upto_region 6 with (fail)
   go_cut [35] (fun v35 wc => ∃ (kq : Nat) (x35_8 : Bool), v35 = .bool x35_8 ∧ Aside0 (spec_gmGood.j1 kq x18_1 (rd_L1 l0_1 x18_1) l0_1 (l0_1.length : Int) x18_1 x35_8 a0_0 l0_1 = some r) ∧ Aside0 (kq ≤ k1) ∧ Aside0 (wc.heap[gb118]? = some (.cells #[.int .i64 a0_0, (.slice (some ad120) l0_1.length c0_1)] 28 (0, 0))) ∧ Aside0 (Below w.heap.size w wc))
   case first =>
    have H := HC9.out
    clear HC9
    by_cases c10 : x18_1 > 0
    ·rw [if_pos c10] at H
     have c10b0 := decide_eq_true c10
     clear c10
     (first | rw [c10b0] | (simp only [i64_w, i32_w]; rw [c10b0]) | skip)
     obtain ⟨ji11, hji11⟩ : ∃ j_ : Int, (wrap64 (x18_1 - 1)) = j_ := ⟨_, rfl⟩
     first | rw [hji11] at H | simp only [hji11] at H
     have hji11w := (i64_w _).trans hji11
     by_cases c12 : 0 ≤ (ji11)
     ·rw [if_pos c12] at H
      have c12b0 := decide_eq_true c12
      clear c12
      by_cases c13 : (ji11) < (l0_1.length : Int)
      ·rw [if_pos c13] at H
       have c13b0 := decide_eq_true c13
       clear c13
       replace H := Option.bind_eq_some_iff.mp H
       obtain ⟨t122, A140, H⟩ := H
       have A14 := Aside0.mk A140
       clear A140
       have H' := Aside0.mk H
       clear H
       obtain ⟨hcz15_0, hcz15_1, hfz15_0, hfz15_1⟩ := zC2 BK118
       obtain ⟨⟨ad121, A121_0, c121_0, e121, hx121_0, hl121_0, hi121_0⟩, p121, q121⟩ := zW (at_L1 HR0_1.out (ji11))
       obtain rfl : ad120 = ad121 := (by injection e121)
       replace hx121_0 := zx HB.out hx121_0
       have HR121_0 := Aside0.mk hi121_0
       have HC121_0 := Aside0.mk hl121_0
       clear hi121_0 hl121_0
       go_wp2_with (first | (go_at_call 83; (with_reducible refine (spec_voBefore.calls k1 _ _ (rd_L1 l0_1 (ji11)) _ _ (rd_L1 l0_1 x18_1) t122 _ ?side1 ?side2 ?side3 ?side4 A14.out).mono ?_); (case side1 => exact zQ (Kd.C_below HR121_0.out HB.out)); (case side2 => exact HC121_0.out); (case side3 => exact zQ (Kd.C_below HR120_0.out HB.out)); (case side4 => exact HC120_0.out); rintro e w' ⟨rfl, ⟨nd, rfl⟩⟩))
       go_meet
       case rel => exact ⟨_, (!t122), zE, H', ⟨by have := HK1.out; first | omega | exact Nat.le_refl _⟩, ⟨zb BK118.out⟩, ⟨zh HB.out⟩⟩
      ·rw [if_neg c13] at H
       cases H
     ·rw [if_neg c12] at H
      cases H
    ·rw [if_neg c10] at H
     have c10b0 := decide_eq_false c10
     clear c10
     (first | rw [c10b0] | (simp only [i64_w, i32_w]; rw [c10b0]) | skip)
     have H' := Aside0.mk H
     clear H
     go_wp2
     go_meet
     case rel => exact ⟨_, (false), zE, H', ⟨by have := HK1.out; first | omega | exact Nat.le_refl _⟩, ⟨zb BK118.out⟩, ⟨zh HB.out⟩⟩
   case rest =>
    clear HC9
    try clear c1
    try clear p1
    try clear q1
    try clear hx1
    try clear p2
    try clear c3
    try clear c5
    try clear c6
    try clear c6b0
    try clear p6
    try clear c7
    try clear c7b0
    try clear c8
    try clear c8b0
    try clear c10
    try clear c10b0
    try clear c12
    try clear c12b0
    try clear p12
    try clear q12
    try clear hx12
    try clear c13
    try clear c13b0
    try clear hcz15_0
    try clear hcz15_1
    try clear hcz5_0
    try clear hcz5_1
    try clear hfz15_0
    try clear hfz15_1
    try clear hfz5_0
    try clear hfz5_1
    try clear hx120_0
    try clear hx121_0
    try clear p120
    try clear p121
    try clear p2
    try clear q120
    try clear q121
    obtain ⟨kq, x35_8, rfl, HA, HJ8, BK118, HB⟩ := hcut
    cases kq with
    | zero => exact absurd HA.out (by simp [spec_gmGood.j1])
    | succ kj8 =>
     have H := HA.out
     clear HA
     simp only [spec_gmGood.j1] at H
     by_cases c16 : x35_8 = true
     ·subst c16
      rw [if_pos rfl] at H
      obtain rfl := Option.some.inj H
      go_wp2
      go_ret
      exact ⟨by first | rfl | (simp [*, errW_none, errW_some] <;> rfl), zh HB.out⟩
     replace c16 := Bool.eq_false_iff.mpr c16
     subst c16
     rw [if_neg zF] at H
     replace H := Option.bind_eq_some_iff.mp H
     obtain ⟨t123, A170, H⟩ := H
     have A17 := Aside0.mk A170
     clear A170
     by_cases c18 : 0 ≤ x18_1
     rotate_left
     ·rw [if_neg c18] at H
      cases H
     rw [if_pos c18] at H
     have c18b0 := eq_true c18
     have c18b1 := decide_eq_true c18
     clear c18
     by_cases c19 : x18_1 ≤ (l0_1.length : Int)
     rotate_left
     ·rw [if_neg c19] at H
      cases H
     rw [if_pos c19] at H
     have c19b0 := eq_true c19
     have c19b1 := decide_eq_true c19
     clear c19
     replace H := zY H
     obtain ⟨y124, Ny124, H⟩ := H
     have H' := Aside0.mk H
     clear H
     go_wp2_with (first | ((with_reducible refine gate_callee (f := 84) rfl ?_); refine zl 37 Tryz.func84 #[.slice A120_0 (rd_L1 l0_1 x18_1).length c120_0] ?_; (with_reducible refine (spec_voBits.calls kj8 _ _ (rd_L1 l0_1 x18_1) t123 _ ?side1 ?side2 A17.out).mono ?_); (case side1 => exact zQ (Kd.C_below HR120_0.out HB.out)); (case side2 => exact HC120_0.out); rintro e w' ⟨rfl, ⟨nd, rfl⟩⟩; refine ⟨_, rfl, ?_⟩; obtain ⟨hcz20_0, hcz20_1, hfz20_0, hfz20_1⟩ := zC2 BK118; have q21 : (x18_1 : Int) ≤ ((l0_1.length : Int) : Int) := zk; obtain ⟨i021, hi021, _, hsz21, _⟩ := info_parts info65; have hroom21 : l0_1.length ≤ c0_1 := HC0_1.out; have hC21 : Kd.C (Kd.slice 3 (Kd.int .i64)) _ (some ad120) l0_1.length l0_1 := HR0_1.out; have hcut21 := cut_to (P := Tryz.prog) 22 65 .i64 Tryz.underlying22 hi021 (some ad120) l0_1.length c0_1 x18_1 (zk) q21 hroom21; have hr21 := Kd.C_take (m := (x18_1 : Int).toNat) hC21 (by omega); have hy21 : y124.length = (x18_1 : Int).toNat := (by rw [Ny124.out, List.length_take]; omega); rw [← Ny124.out] at hr21; rw [← hy21] at hcut21; have HR127 := Aside0.mk hr21; have HC127 := Aside0.mk (show y124.length ≤ c0_1 from by omega); clear hr21 hC21 hroom21 hi021 hsz21; have KY21 := Aside0.mk hy21; clear hy21; replace q21 := eq_true q21))
     go_loopg [43] kj8 (fun kq v43 w' => ∃ (x43_3 : Int), v43 = .int .i64 x43_3 ∧ Aside0 (spec_gmGood.l1 kq t123 l0_1 (l0_1.length : Int) x18_1 y124 (y124.length : Int) x43_3 a0_0 l0_1 = some r) ∧ Aside0 (kq ≤ kj8) ∧ Aside0 (w'.heap[gb118]? = some (.cells #[.int .i64 a0_0, (.slice (some ad120) l0_1.length c0_1)] 28 (0, 0))) ∧ Aside0 (Below w.heap.size w w'))
     case atStart => exact ⟨(0), zE, H', ⟨Nat.le_refl _⟩, ⟨zb BK118.out⟩, ⟨zh HB.out⟩⟩
     case round =>
      clear H'
      try clear c1
      try clear p1
      try clear q1
      try clear hx1
      try clear p2
      try clear q2
      try clear c3
      try clear c5
      try clear c6
      try clear c6b0
      try clear p6
      try clear c7
      try clear c7b0
      try clear c8
      try clear c8b0
      try clear c10
      try clear c10b0
      try clear c12
      try clear c12b0
      try clear p12
      try clear q12
      try clear hx12
      try clear c13
      try clear c13b0
      try clear c16
      try clear c18
      try clear c18b0
      try clear c18b1
      try clear c19
      try clear c19b0
      try clear c19b1
      try clear q21
      try clear hcz15_0
      try clear hcz15_1
      try clear hcz20_0
      try clear hcz20_1
      try clear hcz5_0
      try clear hcz5_1
      try clear hfz15_0
      try clear hfz15_1
      try clear hfz20_0
      try clear hfz20_1
      try clear hfz5_0
      try clear hfz5_1
      try clear hx120_0
      try clear hx121_0
      try clear p1
      try clear p12
      try clear p120
      try clear p121
      try clear p2
      try clear p6
      try clear q1
      try clear q12
      try clear q120
      try clear q121
      try clear q21
      obtain ⟨x43_3, rfl, HA, HK3, BK118, HB⟩ := hrel
      cases gk with
      | zero => exact absurd HA.out (by simp [spec_gmGood.l1])
      | succ k3 =>
       have H := HA.out
       clear HA
       simp only [spec_gmGood.l1] at H
       by_cases c22 : x43_3 < (y124.length : Int)
       rotate_left
       ·rw [if_neg c22] at H
        have c22b0 := decide_eq_false c22
        clear c22
        have H' := Aside0.mk H
        clear H
        go_wp2
        go_roundg k3
        case measure => have := HK1.out; have := HJ8.out; have := HK3.out; omega
        case rel => exact ⟨(wrap64 (x18_1 + 1)), zE, H', ⟨by have := HK1.out; have := HJ8.out; have := HK3.out; omega⟩, ⟨zb BK118.out⟩, ⟨zh HB.out⟩⟩
       rw [if_pos c22] at H
       have c22b0 := decide_eq_true c22
       clear c22
       by_cases c23 : 0 ≤ x43_3
       rotate_left
       ·rw [if_neg c23] at H
        cases H
       rw [if_pos c23] at H
       have c23b0 := decide_eq_true c23
       clear c23
       by_cases c24 : x43_3 < (y124.length : Int)
       rotate_left
       ·rw [if_neg c24] at H
        cases H
       rw [if_pos c24] at H
       have c24b0 := decide_eq_true c24
       clear c24
       replace H := Option.bind_eq_some_iff.mp H
       obtain ⟨t129, A250, H⟩ := H
       have A25 := Aside0.mk A250
       clear A250
       by_cases c26 : (Go.bits .and .i64 t123 t129) = t123
       ·rw [if_pos c26] at H
        have c26b0 := beq_iff_eq.mpr c26
        have c26b1 := bne_eq_false_iff_eq.mpr c26
        clear c26
        obtain rfl := Option.some.inj H
        obtain ⟨⟨ad128, A128_0, c128_0, e128, hx128_0, hl128_0, hi128_0⟩, p128, q128⟩ := zW (at_L1 HR127.out x43_3)
        obtain rfl : ad120 = ad128 := (by injection e128)
        replace hx128_0 := zx HB.out hx128_0
        have HR128_0 := Aside0.mk hi128_0
        have HC128_0 := Aside0.mk hl128_0
        clear hi128_0 hl128_0
        go_wp2_with (first | ((with_reducible refine gate_callee (f := 84) rfl ?_); refine zl 48 Tryz.func84 #[.slice A128_0 (rd_L1 y124 x43_3).length c128_0] ?_; (with_reducible refine (spec_voBits.calls k3 _ _ (rd_L1 y124 x43_3) t129 _ ?side1 ?side2 A25.out).mono ?_); (case side1 => exact zQ (Kd.C_below HR128_0.out HB.out)); (case side2 => exact HC128_0.out); rintro e w' ⟨rfl, ⟨nd, rfl⟩⟩; refine ⟨_, rfl, ?_⟩))
        go_ret
        exact ⟨by first | rfl | (simp [*, errW_none, errW_some] <;> rfl), zh HB.out⟩
       rw [if_neg c26] at H
       have c26b0 := beq_eq_false_iff_ne.mpr c26
       have c26b1 := bne_iff_ne.mpr c26
       by_cases c27 : (Go.bits .and .i64 t123 t129) = t129
       ·rw [if_pos c27] at H
        have c27b0 := beq_iff_eq.mpr c27
        have c27b1 := bne_eq_false_iff_eq.mpr c27
        clear c27
        obtain rfl := Option.some.inj H
        obtain ⟨⟨ad128, A128_0, c128_0, e128, hx128_0, hl128_0, hi128_0⟩, p128, q128⟩ := zW (at_L1 HR127.out x43_3)
        obtain rfl : ad120 = ad128 := (by injection e128)
        replace hx128_0 := zx HB.out hx128_0
        have HR128_0 := Aside0.mk hi128_0
        have HC128_0 := Aside0.mk hl128_0
        clear hi128_0 hl128_0
        go_wp2_with (first | ((with_reducible refine gate_callee (f := 84) rfl ?_); refine zl 48 Tryz.func84 #[.slice A128_0 (rd_L1 y124 x43_3).length c128_0] ?_; (with_reducible refine (spec_voBits.calls k3 _ _ (rd_L1 y124 x43_3) t129 _ ?side1 ?side2 A25.out).mono ?_); (case side1 => exact zQ (Kd.C_below HR128_0.out HB.out)); (case side2 => exact HC128_0.out); rintro e w' ⟨rfl, ⟨nd, rfl⟩⟩; refine ⟨_, rfl, ?_⟩))
        go_ret
        exact ⟨by first | rfl | (simp [*, errW_none, errW_some] <;> rfl), zh HB.out⟩
       rw [if_neg c27] at H
       have c27b0 := beq_eq_false_iff_ne.mpr c27
       have c27b1 := bne_iff_ne.mpr c27
       have H' := Aside0.mk H
       clear H
       obtain ⟨⟨ad128, A128_0, c128_0, e128, hx128_0, hl128_0, hi128_0⟩, p128, q128⟩ := zW (at_L1 HR127.out x43_3)
       obtain rfl : ad120 = ad128 := (by injection e128)
       replace hx128_0 := zx HB.out hx128_0
       have HR128_0 := Aside0.mk hi128_0
       have HC128_0 := Aside0.mk hl128_0
       clear hi128_0 hl128_0
       go_wp2_with (first | ((with_reducible refine gate_callee (f := 84) rfl ?_); refine zl 48 Tryz.func84 #[.slice A128_0 (rd_L1 y124 x43_3).length c128_0] ?_; (with_reducible refine (spec_voBits.calls k3 _ _ (rd_L1 y124 x43_3) t129 _ ?side1 ?side2 A25.out).mono ?_); (case side1 => exact zQ (Kd.C_below HR128_0.out HB.out)); (case side2 => exact HC128_0.out); rintro e w' ⟨rfl, ⟨nd, rfl⟩⟩; refine ⟨_, rfl, ?_⟩))
       go_roundg k3
       case measure => have := HK1.out; have := HJ8.out; have := HK3.out; omega
       case rel => exact ⟨(wrap64 (x43_3 + 1)), zE, H', ⟨by have := HK1.out; have := HJ8.out; have := HK3.out; omega⟩, ⟨zb BK118.out⟩, ⟨zh HB.out⟩⟩
def spec_chNeeds.f (k : Nat) (a0_0 : Int) (l0_1 : List (List Int)) : Option (Bool) := (spec_gmGood.f k a0_0 l0_1).bind fun t131 => (if t131 = true then (some (decide (a0_0 ≤ 4))) else (some false))
set_option maxHeartbeats 8000000 in
set_option maxRecDepth 100000 in
theorem spec_chNeeds.calls (k : Nat) (a0_0 : Int) (A0_1 : Option Addr) (c0_1 : Nat) (l0_1 : List (List Int)) (r : Bool) (w : World) (hr0_1 : Kd.C (Kd.slice 3 (Kd.int .i64)) w A0_1 l0_1.length l0_1) (hc0_1 : l0_1.length ≤ c0_1) (h : spec_chNeeds.f k a0_0 l0_1 = some r) :
  Calls Tryz.prog 27 #[.agg #[.int .i64 a0_0, .slice A0_1 l0_1.length c0_1]] w fun e w' => e = .returned (.bool r) ∧ Below w.heap.size w w' := by
 have hu28 := Tryz.underlying28
 have HR0_1 := Aside0.mk hr0_1
 have HC0_1 := Aside0.mk hc0_1
 clear hr0_1 hc0_1
 have HB := Aside0.mk (Below.refl w.heap.size w)
 have H : ((spec_gmGood.f k a0_0 l0_1).bind fun t131 => (if t131 = true then (some (decide (a0_0 ≤ 4))) else (some false))) = some r := h
 clear h
 replace H := Option.bind_eq_some_iff.mp H
 obtain ⟨t131, A20, H⟩ := H
 have A2 := Aside0.mk A20
 clear A20
 by_cases c3 : t131 = true
 rotate_left
 ·replace c3 := Bool.eq_false_iff.mpr c3
  subst c3
  rw [if_neg zF] at H
  obtain rfl := Option.some.inj H
  go_enter Tryz.func27, Tryz.ntmps27
  go_wp2_with (first | ((with_reducible refine gate_dst (N := 1) rfl ?_); refine zq 1 #[.int .i64 a0_0, .slice A0_1 l0_1.length c0_1] 28 ?_; intro gb130 hg w8 hbox hb; have GW130 := zG hg HB; replace HB := zH hb HB; have BK130 := Aside0.mk hbox; have GE130 := GW130; clear hb hbox hg; obtain ⟨hcz9_0, hcz9_1, hfz9_0, hfz9_1⟩ := zC2 BK130) | ((with_reducible refine gate_callee (f := 50) rfl ?_); refine zl 4 Tryz.func50 #[.agg #[.int .i64 a0_0, .slice A0_1 l0_1.length c0_1]] ?_; (with_reducible refine (spec_gmGood.calls k a0_0 _ _ l0_1 false _ ?side1 ?side2 A2.out).mono ?_); (case side1 => exact zQ (Kd.C_below HR0_1.out HB.out)); (case side2 => exact HC0_1.out); rintro e w10 ⟨rfl, hb⟩; refine ⟨_, rfl, ?_⟩; replace BK130 := zK BK130 hb; replace HB := zH hb HB; clear hb))
  go_ret
  exact ⟨by first | rfl | (simp [*, errW_none, errW_some] <;> rfl), zh HB.out⟩
 subst c3
 rw [if_pos rfl] at H
 obtain rfl := Option.some.inj H
 go_enter Tryz.func27, Tryz.ntmps27
 go_wp2_with (first | ((with_reducible refine gate_dst (N := 1) rfl ?_); refine zq 1 #[.int .i64 a0_0, .slice A0_1 l0_1.length c0_1] 28 ?_; intro gb130 hg w4 hbox hb; have GW130 := zG hg HB; replace HB := zH hb HB; have BK130 := Aside0.mk hbox; have GE130 := GW130; clear hb hbox hg; obtain ⟨hcz5_0, hcz5_1, hfz5_0, hfz5_1⟩ := zC2 BK130) | ((with_reducible refine gate_callee (f := 50) rfl ?_); refine zl 4 Tryz.func50 #[.agg #[.int .i64 a0_0, .slice A0_1 l0_1.length c0_1]] ?_; (with_reducible refine (spec_gmGood.calls k a0_0 _ _ l0_1 true _ ?side1 ?side2 A2.out).mono ?_); (case side1 => exact zQ (Kd.C_below HR0_1.out HB.out)); (case side2 => exact HC0_1.out); rintro e w6 ⟨rfl, hb⟩; refine ⟨_, rfl, ?_⟩; replace BK130 := zK BK130 hb; replace HB := zH hb HB; clear hb; obtain ⟨hcz7_0, hcz7_1, hfz7_0, hfz7_1⟩ := zC2 BK130))
 go_ret
 exact ⟨by first | rfl | (simp [*, errW_none, errW_some] <;> rfl), zh HB.out⟩
def spec_ChambersOf.l0 : Nat → List (S67) → List (S28) → Int → Int → Option ((List (S67)) × Bool)
 | 0, _, _, _, _ => none
 | k + 1, x4, x13, x14, x15 => if x15 < x14 then (if 0 ≤ x15 then (if x15 < (x13.length : Int) then ((spec_weFind.f k ((rd_T28 x13 x15).f0) ((rd_T28 x13 x15).f1)).bind fun bt524 => (if x4.length < 4398046511104 then (spec_ChambersOf.l0 k (x4 ++ [(⟨bt524.1, bt524.2.1⟩ : S67)]) x13 x14 (wrap64 (x15 + 1))) else (none))) else (none)) else (none)) else (some (x4, true))
def spec_ChambersOf.f (k : Nat) (a0_0 : Int) (l0_1 : List (List Int)) : Option ((List (S67)) × Bool) := (spec_chNeeds.f k a0_0 l0_1).bind fun t518 => (if t518 = true then ((spec_chNeeded.f k a0_0 l0_1).bind fun t519 => (spec_ChambersOf.l0 k ([] : List (S67)) t519 (t519.length : Int) 0)) else (some (([] : List (S67)), false)))
set_option maxHeartbeats 8000000 in
set_option maxRecDepth 100000 in
theorem spec_ChambersOf.calls (k : Nat) (a0_0 : Int) (A0_1 : Option Addr) (c0_1 : Nat) (l0_1 : List (List Int)) (r1 : List (S67)) (r2 : Bool) (w : World) (hr0_1 : Kd.C (Kd.slice 3 (Kd.int .i64)) w A0_1 l0_1.length l0_1) (hc0_1 : l0_1.length ≤ c0_1) (h : spec_ChambersOf.f k a0_0 l0_1 = some (r1, r2)) :
  Calls Tryz.prog 11 #[.agg #[.int .i64 a0_0, .slice A0_1 l0_1.length c0_1]] w fun e w' => ∃ v0_ : Value, e = .returned (.tuple #[v0_, .bool r2]) ∧ Kd.S k67 67 w' w.heap.size (fun _ => True) v0_ r1 ∧ Below w.heap.size w w' := by
 have hu28 := Tryz.underlying28
 have hu67 := Tryz.underlying67
 have HR0_1 := Aside0.mk hr0_1
 have HC0_1 := Aside0.mk hc0_1
 clear hr0_1 hc0_1
 have HB := Aside0.mk (Below.refl w.heap.size w)
 have H : ((spec_chNeeds.f k a0_0 l0_1).bind fun t518 => (if t518 = true then ((spec_chNeeded.f k a0_0 l0_1).bind fun t519 => (spec_ChambersOf.l0 k ([] : List (S67)) t519 (t519.length : Int) 0)) else (some (([] : List (S67)), false)))) = some (r1, r2) := h
 clear h
 replace H := Option.bind_eq_some_iff.mp H
 obtain ⟨t518, A20, H⟩ := H
 replace H : (if t518 = true then ((spec_chNeeded.f k a0_0 l0_1).bind fun t519 => (spec_ChambersOf.l0 k ([] : List (S67)) t519 (t519.length : Int) 0)) else (some (([] : List (S67)), false))) = some (r1, r2) := H
 have A2 := Aside0.mk A20
 clear A20
 by_cases c3 : t518 = true
 rotate_left
 ·replace c3 := Bool.eq_false_iff.mpr c3
  subst c3
  rw [if_neg zF] at H
  simp only [Option.some.injEq, Prod.mk.injEq] at H
  obtain ⟨rfl, rfl⟩ := H
  go_enter Tryz.func11, Tryz.ntmps11
  go_wp2_with (first | ((with_reducible refine gate_dst (N := 1) rfl ?_); refine zq 1 #[.int .i64 a0_0, .slice A0_1 l0_1.length c0_1] 28 ?_; intro gb517 hg w28 hbox hb; have GW517 := zG hg HB; replace HB := zH hb HB; have BK517 := Aside0.mk hbox; have GE517 := GW517; clear hb hbox hg; obtain ⟨hcz29_0, hcz29_1, hfz29_0, hfz29_1⟩ := zC2 BK517) | ((with_reducible refine gate_callee (f := 27) rfl ?_); refine zl 10 Tryz.func27 #[.agg #[.int .i64 a0_0, .slice A0_1 l0_1.length c0_1]] ?_; (with_reducible refine (spec_chNeeds.calls k a0_0 _ _ l0_1 false _ ?side1 ?side2 A2.out).mono ?_); (case side1 => exact zQ (Kd.C_below HR0_1.out HB.out)); (case side2 => exact HC0_1.out); rintro e w30 ⟨rfl, hb⟩; refine ⟨_, rfl, ?_⟩; replace BK517 := zK BK517 hb; replace HB := zH hb HB; clear hb))
  go_ret2
  exact ⟨_, by first | rfl | (simp [*, errW_none, errW_some] <;> rfl), by first | exact Kd.S_nil _ _ _ _ _ | exact Kd.N_nil _ _ _ _ _ | exact Kd.V_nil _ _ _ _ _ | exact Kd.Q_nil _ _ _ _ _ | exact Kd.R_nil _ _ _ _ _, zh HB.out⟩
 subst c3
 rw [if_pos rfl] at H
 replace H := Option.bind_eq_some_iff.mp H
 obtain ⟨t519, A40, H⟩ := H
 replace H : (spec_ChambersOf.l0 k ([] : List (S67)) t519 (t519.length : Int) 0) = some (r1, r2) := H
 have A4 := Aside0.mk A40
 clear A40
 have H' := Aside0.mk H
 clear H
 go_enter Tryz.func11, Tryz.ntmps11
 go_wp2_with (first | ((with_reducible refine gate_dst (N := 1) rfl ?_); refine zq 1 #[.int .i64 a0_0, .slice A0_1 l0_1.length c0_1] 28 ?_; intro gb517 hg w5 hbox hb; have GW517 := zG hg HB; replace HB := zH hb HB; have BK517 := Aside0.mk hbox; have GE517 := GW517; clear hb hbox hg; obtain ⟨hcz6_0, hcz6_1, hfz6_0, hfz6_1⟩ := zC2 BK517) | ((with_reducible refine gate_callee (f := 27) rfl ?_); refine zl 10 Tryz.func27 #[.agg #[.int .i64 a0_0, .slice A0_1 l0_1.length c0_1]] ?_; (with_reducible refine (spec_chNeeds.calls k a0_0 _ _ l0_1 true _ ?side1 ?side2 A2.out).mono ?_); (case side1 => exact zQ (Kd.C_below HR0_1.out HB.out)); (case side2 => exact HC0_1.out); rintro e w7 ⟨rfl, hb⟩; refine ⟨_, rfl, ?_⟩; replace BK517 := zK BK517 hb; replace HB := zH hb HB; clear hb; obtain ⟨hcz8_0, hcz8_1, hfz8_0, hfz8_1⟩ := zC2 BK517) | ((with_reducible refine gate_callee (f := 28) rfl ?_); refine zl 13 Tryz.func28 #[.agg #[.int .i64 a0_0, .slice A0_1 l0_1.length c0_1]] ?_; (with_reducible refine (spec_chNeeded.calls k a0_0 _ _ l0_1 t519 _ ?side1 ?side2 A4.out).mono ?_); (case side1 => exact zQ (Kd.C_below HR0_1.out HB.out)); (case side2 => exact HC0_1.out); rintro e w9 ⟨v520, rfl, ho0, hb⟩; refine ⟨_, rfl, ?_⟩; have HO521 := Aside0.mk (Kd.V_lower (Kd.V_mono (ok' := fun k_ => k_ ≠ gb517) ho0 (fun k_ hk_ => (Kd.freshB (g := gb517) (o := .cells #[.int .i64 a0_0, .slice A0_1 l0_1.length c0_1] 28 (0, 0)) (zb BK517.out) k_ hk_))) (below_size (zh HB.out))); replace BK517 := zK BK517 hb; replace HB := zH hb HB; clear hb; (try clear ho0); obtain ⟨Ao10, co10, eo10⟩ := Kd.V_slice HO521.out; subst eo10))
 go_loopg [4, 15] k (fun kq v4 v15 w' => ∃ (x4_1 : List (S67)) (x15_1 : Int), v15 = .int .i64 x15_1 ∧ Aside0 (spec_ChambersOf.l0 kq x4_1 t519 (t519.length : Int) x15_1 = some (r1, r2)) ∧ Aside0 (kq ≤ k) ∧ Aside0 (Kd.S k67 67 w' w.heap.size (fun _ => True) v4 x4_1) ∧ Aside0 (Kd.V k28 28 w' w.heap.size (fun k_ => some k_ ≠ (v4 : Value).ownBlock ∧ k_ ≠ gb517) (.slice Ao10 t519.length co10) t519) ∧ Aside0 (w'.heap[gb517]? = some (.cells #[.int .i64 a0_0, (.slice A0_1 l0_1.length c0_1)] 28 (0, 0))) ∧ Aside0 (Below w.heap.size w w'))
 case atStart => exact ⟨(([] : List (S67))), (0), zE, H', ⟨Nat.le_refl _⟩, ⟨by first | exact Kd.S_nil _ _ _ _ _ | exact Kd.N_nil _ _ _ _ _ | exact Kd.V_nil _ _ _ _ _ | exact Kd.Q_nil _ _ _ _ _ | exact Kd.R_nil _ _ _ _ _⟩, ⟨by (with_reducible repeat (first | apply Kd.V_alloc | apply Kd.V_drewN | apply Kd.V_drew)); exact Kd.V_mono HO521.out (fun _ hk => ⟨(by simp [Value.ownBlock]), hk⟩)⟩, ⟨zb BK517.out⟩, ⟨zh HB.out⟩⟩
 case round =>
  clear H'
  try clear c1
  try clear c2
  try clear p2
  try clear c3
  try clear hcz6_0
  try clear hcz6_1
  try clear hcz8_0
  try clear hcz8_1
  try clear hfz6_0
  try clear hfz6_1
  try clear hfz8_0
  try clear hfz8_1
  obtain ⟨x4_1, x15_1, rfl, HA, HK1, HO_4, HO_13, BK517, HB⟩ := hrel
  cases gk with
  | zero => exact absurd HA.out (by simp [spec_ChambersOf.l0])
  | succ k1 =>
   have H := HA.out
   clear HA
   simp only [spec_ChambersOf.l0] at H
   by_cases c11 : x15_1 < (t519.length : Int)
   rotate_left
   ·rw [if_neg c11] at H
    have c11b0 := decide_eq_false c11
    clear c11
    simp only [Option.some.injEq, Prod.mk.injEq] at H
    obtain ⟨rfl, rfl⟩ := H
    go_wp2
    go_ret2
    exact ⟨_, by first | rfl | (simp [*, errW_none, errW_some] <;> rfl), by (with_reducible repeat (first | apply Kd.S_alloc | apply Kd.S_drewN | apply Kd.S_drew)); exact HO_4.out, zh HB.out⟩
   rw [if_pos c11] at H
   have c11b0 := decide_eq_true c11
   clear c11
   by_cases c12 : 0 ≤ x15_1
   rotate_left
   ·rw [if_neg c12] at H
    cases H
   rw [if_pos c12] at H
   have c12b0 := decide_eq_true c12
   clear c12
   by_cases c13 : x15_1 < (t519.length : Int)
   rotate_left
   ·rw [if_neg c13] at H
    cases H
   rw [if_pos c13] at H
   have c13b0 := decide_eq_true c13
   clear c13
   replace H := Option.bind_eq_some_iff.mp H
   obtain ⟨⟨t524, t525, t528⟩, A140, H⟩ := H
   replace H : (if x4_1.length < 4398046511104 then (spec_ChambersOf.l0 k1 (x4_1 ++ [(⟨t524, t525⟩ : S67)]) t519 (t519.length : Int) (wrap64 (x15_1 + 1))) else (none)) = some (r1, r2) := H
   have A14 := Aside0.mk A140
   clear A140
   by_cases c15 : x4_1.length < 4398046511104
   rotate_left
   ·rw [if_neg c15] at H
    cases H
   rw [if_pos c15] at H
   have LMc15 := Aside0.mk c15
   clear c15
   obtain ⟨y530, hy530⟩ : ∃ y_ : List (S67), y_ = (x4_1 ++ [(⟨t524, t525⟩ : S67)]) := ⟨_, rfl⟩
   rw [← hy530] at H
   have Ny530 := Aside0.mk hy530
   clear hy530
   have H' := Aside0.mk H
   clear H
   have p522 : 0 ≤ (x15_1 : Int) := zk
   have q522 : x15_1 < (t519.length : Int) := zk
   obtain ⟨ad522, A522_1, c522_1, e522, hx522_0, hx522_1, hl522_1, hi522_1⟩ := at_T28 (Kd.V_reads' HO_13.out).2.2 x15_1 p522 q522
   cases e522
   obtain ⟨ce522, hce522, hMe522, hcc522⟩ := Kd.V_get HO_13.out z28 x15_1 p522 (by first | exact q522 | exact zk | (have e_ := (Kd.V_reads' HO_13.out).1; omega))
   obtain ⟨ua522_1, uc522_1, rfl, ul522_1, ge522_1⟩ := k28_openF hMe522
   have hv522_1 := hcc522 1 _ rfl
   rw [add_field _ _ 1 (by omega)] at hv522_1
   replace hv522_1 := Option.some.inj (hv522_1.symm.trans hx522_1)
   injection hv522_1 with hva_ hvn_ hvc_
   rw [hva_] at ge522_1
   rw [hvc_] at ul522_1
   have HL522_1 := Aside0.mk (show Kd.V (Kd.slice 3 (Kd.int .i64)) 65 _ w.heap.size _ _ ((rd_T28 t519 x15_1).f1) from Kd.V_mk ul522_1 ge522_1)
   clear hva_ hvn_ hvc_ ge522_1 ul522_1 hcc522 hce522
   have HR522_1 := Aside0.mk hi522_1
   have HC522_1 := Aside0.mk hl522_1
   clear hi522_1 hl522_1
   replace p522 := eq_true p522
   replace q522 := eq_true q522
   go_wp2_with (first | ((with_reducible refine gate_dst (N := 6) rfl ?_); refine zq 6 #[.int .i64 0, .slice none 0 0] 28 ?_; intro gb523 hg w16 hbox hb; have BK523 := Aside0.mk hbox; have GW523 := zG hg HB; have GE523 := zG hg HB; have NB517_523 := zNa hg BK517; have NB523_517 := zNb hg BK517; replace HO_4 := Aside0.mk (Kd.S_below (by (with_reducible repeat (first | apply Kd.S_alloc | apply Kd.S_drewN | apply Kd.S_drew)); exact HO_4.out) hb); replace HO_13 := Aside0.mk (Kd.V_below (Kd.V_elderB (by (with_reducible repeat (first | apply Kd.V_alloc | apply Kd.V_drewN | apply Kd.V_drew)); exact HO_13.out) gb523 (Nat.le_of_eq hg.symm)) hb); replace HL522_1 := Aside0.mk (Kd.V_below (Kd.V_elderB (by (with_reducible repeat (first | apply Kd.V_alloc | apply Kd.V_drewN | apply Kd.V_drew)); exact HL522_1.out) gb523 (Nat.le_of_eq hg.symm)) hb); replace BK517 := zK BK517 hb; replace HR522_1 := Aside0.mk (Kd.C_below (by repeat (first | (with_reducible exact HR522_1.out) | (with_reducible refine Kd.C_alloc ?_ _) | (with_reducible refine Kd.C_drewN ?_ _) | (with_reducible refine Kd.C_drew ?_) | exact HR522_1.out)) hb); replace HB := zH hb HB; clear hb hbox hg; have hnb17 := NB523_517.out; have hnc17 := NB517_523.out; obtain ⟨hcz18_0, hcz18_1, hfz18_0, hfz18_1⟩ := zC2 BK523) | ((with_reducible refine gate_callee (f := 34) rfl ?_); refine zl 21 Tryz.func34 #[.agg #[.int .i64 ((rd_T28 t519 x15_1).f0), .slice A522_1 ((rd_T28 t519 x15_1).f1).length c522_1]] ?_; (with_reducible refine (spec_weFind.calls k1 ((rd_T28 t519 x15_1).f0) _ _ ((rd_T28 t519 x15_1).f1) t524 t525 t528 _ ?side1 ?side2 A14.out).mono ?_); (case side1 => repeat (first | exact ((Kd.V_reads' (by (with_reducible repeat (first | apply Kd.V_alloc | apply Kd.V_drewN | apply Kd.V_drew)); exact (Kd.V_mono (Kd.V_far (p := ⟨gb523, 1, none⟩) (Kd.V_far (p := ⟨gb523, 0, none⟩) (Kd.V_mono HL522_1.out (fun k_ hk => (⟨hk, hk.2⟩ : _ ∧ k_ ≠ gb523))) (fun _ hk => hk.2) (.int .i64 ((rd_T28 t519 x15_1).f0))) (fun _ hk => hk.2) (.slice A522_1 ((rd_T28 t519 x15_1).f1).length c522_1)) (fun _ h_ => h_.1)))).2.2) | (with_reducible refine Kd.C_alloc ?_ _) | (with_reducible refine Kd.C_drewN ?_ _) | (with_reducible refine Kd.C_drew ?_))); (case side2 => exact HC522_1.out); rintro e w19 ⟨v526, rfl, ho0, hb⟩; refine ⟨_, rfl, ?_⟩; have HO527 := Aside0.mk (Kd.R_lower ho0 (below_size (zh HB.out))); replace HO_4 := Aside0.mk (Kd.S_elder' (by (with_reducible repeat (first | apply Kd.S_alloc | apply Kd.S_drewN | apply Kd.S_drew)); exact (Kd.S_mono (Kd.S_far (p := ⟨gb523, 1, none⟩) (Kd.S_far (p := ⟨gb523, 0, none⟩) (Kd.S_types HO_4.out BK523.out (by decide)) (fun _ hk => hk.2) (.int .i64 ((rd_T28 t519 x15_1).f0))) (fun _ hk => hk.2) (.slice A522_1 ((rd_T28 t519 x15_1).f1).length c522_1)) (fun _ h_ => h_.1))) (Kd.R_base ho0) hb); replace HO_13 := Aside0.mk (Kd.V_elder' (by (with_reducible repeat (first | apply Kd.V_alloc | apply Kd.V_drewN | apply Kd.V_drew)); exact (Kd.V_mono (Kd.V_far (p := ⟨gb523, 1, none⟩) (Kd.V_far (p := ⟨gb523, 0, none⟩) (Kd.V_mono HO_13.out (fun k_ hk => (⟨hk, hk.2⟩ : _ ∧ k_ ≠ gb523))) (fun _ hk => hk.2) (.int .i64 ((rd_T28 t519 x15_1).f0))) (fun _ hk => hk.2) (.slice A522_1 ((rd_T28 t519 x15_1).f1).length c522_1)) (fun _ h_ => h_.1))) (Kd.R_base ho0) hb); replace BK517 := Aside0.mk (blk_below (g := gb517) (o := .cells #[.int .i64 a0_0, .slice A0_1 l0_1.length c0_1] 28 (0, 0)) (zf2 BK517.out NB517_523.out NB517_523.out) hb); replace HR522_1 := Aside0.mk (Kd.C_below ((Kd.V_reads' (by (with_reducible repeat (first | apply Kd.V_alloc | apply Kd.V_drewN | apply Kd.V_drew)); exact (Kd.V_mono (Kd.V_far (p := ⟨gb523, 1, none⟩) (Kd.V_far (p := ⟨gb523, 0, none⟩) (Kd.V_mono HL522_1.out (fun k_ hk => (⟨hk, hk.2⟩ : _ ∧ k_ ≠ gb523))) (fun _ hk => hk.2) (.int .i64 ((rd_T28 t519 x15_1).f0))) (fun _ hk => hk.2) (.slice A522_1 ((rd_T28 t519 x15_1).f1).length c522_1)) (fun _ h_ => h_.1)))).2.2) hb); replace HL522_1 := Aside0.mk (Kd.V_elder' (by (with_reducible repeat (first | apply Kd.V_alloc | apply Kd.V_drewN | apply Kd.V_drew)); exact (Kd.V_mono (Kd.V_far (p := ⟨gb523, 1, none⟩) (Kd.V_far (p := ⟨gb523, 0, none⟩) (Kd.V_mono HL522_1.out (fun k_ hk => (⟨hk, hk.2⟩ : _ ∧ k_ ≠ gb523))) (fun _ hk => hk.2) (.int .i64 ((rd_T28 t519 x15_1).f0))) (fun _ hk => hk.2) (.slice A522_1 ((rd_T28 t519 x15_1).f1).length c522_1)) (fun _ h_ => h_.1))) (Kd.R_base ho0) hb); replace BK523 := Aside0.mk (blk_below (g := gb523) (o := .cells #[.int .i64 ((rd_T28 t519 x15_1).f0), .slice A522_1 ((rd_T28 t519 x15_1).f1).length c522_1] 28 (0, 0)) (by (with_reducible repeat (first | refine blk_drewN ?_ _ | refine blk_drew ?_ | refine blk_alloc ?_ _)); refine blk_put (cs := #[.int .i64 ((rd_T28 t519 x15_1).f0), .slice none 0 0]) ?_ 1 _ rfl; (with_reducible repeat (first | refine blk_drewN ?_ _ | refine blk_drew ?_ | refine blk_alloc ?_ _)); refine blk_put (cs := #[.int .i64 0, .slice none 0 0]) ?_ 0 _ rfl; (with_reducible repeat (first | refine blk_drewN ?_ _ | refine blk_drew ?_ | refine blk_alloc ?_ _)); exact BK523.out) hb); replace HB := zH hb HB; clear hb; (try clear ho0)) | ((with_reducible refine gate_dst (N := 7) rfl ?_); refine zq 7 #[.int .i64 0, .slice none 0 0] 67 ?_; intro gb529 hg w20 hbox hb; have BK529 := Aside0.mk hbox; have GW529 := zG hg HB; have GE529 := zG hg HB; have NB517_529 := zNa hg BK517; have NB529_517 := zNb hg BK517; have NB523_529 := zNa hg BK523; have NB529_523 := zNb hg BK523; replace HO_4 := Aside0.mk (Kd.S_below (Kd.S_elderB (by (with_reducible repeat (first | apply Kd.S_alloc | apply Kd.S_drewN | apply Kd.S_drew)); exact HO_4.out) gb529 (Nat.le_of_eq hg.symm)) hb); replace HO_13 := Aside0.mk (Kd.V_below (Kd.V_elderB (by (with_reducible repeat (first | apply Kd.V_alloc | apply Kd.V_drewN | apply Kd.V_drew)); exact HO_13.out) gb529 (Nat.le_of_eq hg.symm)) hb); replace HL522_1 := Aside0.mk (Kd.V_below (Kd.V_elderB (by (with_reducible repeat (first | apply Kd.V_alloc | apply Kd.V_drewN | apply Kd.V_drew)); exact HL522_1.out) gb529 (Nat.le_of_eq hg.symm)) hb); replace HO527 := Aside0.mk (Kd.R_below (zr HO527.out) hb); replace BK517 := zK BK517 hb; replace HR522_1 := Aside0.mk (Kd.C_below (by repeat (first | (with_reducible exact HR522_1.out) | (with_reducible refine Kd.C_alloc ?_ _) | (with_reducible refine Kd.C_drewN ?_ _) | (with_reducible refine Kd.C_drew ?_) | exact HR522_1.out)) hb); replace BK523 := zK BK523 hb; replace HB := zH hb HB; clear hb hbox hg; have hnb21 := NB529_517.out; have hnc21 := NB517_529.out; have hnb22 := NB529_523.out; have hnc22 := NB523_529.out; obtain ⟨hcz23_0, hcz23_1, hfz23_0, hfz23_1⟩ := zC2 BK529; obtain ⟨Ao24, co24, eo24⟩ := Kd.R_slice HO527.out; subst eo24) | ((with_reducible refine gate_store (t := 67) (p := 7) rfl ?_); refine store_event (t := 67) (p := 7) (v := ?vo_w25) (w1 := ((w20.setCell ⟨gb529, 0, none⟩ (.int .i64 t524)).setCell ⟨gb529, 1, none⟩ (.slice Ao24 t525.length co24))) ?hg ?ho ?hn ?hr ?_; (case ho => rfl); (case hg => rfl); (case hn => rfl); (case hr => first | (go_simp; done) | (go_simp; rfl)); intro w25 hw; replace HO_4 : Aside0 (Kd.S k67 67 w25 w.heap.size (fun k_ => some k_ ≠ (.slice Ao24 t525.length co24 : Value).ownBlock ∧ k_ ≠ gb529) u4 x4_1) := ⟨(by rw [hw]; exact (by (with_reducible repeat (first | apply Kd.S_alloc | apply Kd.S_drewN | apply Kd.S_drew)); exact Kd.S_mono (Kd.S_far (p := ⟨gb529, 1, none⟩) (Kd.S_far (p := ⟨gb529, 0, none⟩) (Kd.S_mono HO_4.out (fun k_ hk => (⟨hk, hk.2⟩ : _ ∧ k_ ≠ gb529))) (fun _ hk => hk.2) (.int .i64 t524)) (fun _ hk => hk.2) (.slice Ao24 t525.length co24)) (fun _ hk => ⟨hk.1.1.2, hk.1.2⟩)))⟩; replace HO_13 : Aside0 (Kd.V k28 28 w25 w.heap.size (fun k_ => some k_ ≠ (u4 : Value).ownBlock ∧ some k_ ≠ (.slice Ao24 t525.length co24 : Value).ownBlock ∧ k_ ≠ gb517 ∧ k_ ≠ gb523 ∧ k_ ≠ gb529) (.slice (some ad522) t519.length co10) t519) := ⟨(by rw [hw]; exact (by (with_reducible repeat (first | apply Kd.V_alloc | apply Kd.V_drewN | apply Kd.V_drew)); exact Kd.V_mono (Kd.V_far (p := ⟨gb529, 1, none⟩) (Kd.V_far (p := ⟨gb529, 0, none⟩) (Kd.V_mono HO_13.out (fun k_ hk => (⟨hk, hk.2⟩ : _ ∧ k_ ≠ gb529))) (fun _ hk => hk.2) (.int .i64 t524)) (fun _ hk => hk.2) (.slice Ao24 t525.length co24)) (fun _ hk => ⟨hk.1.1.1.1.1, ⟨hk.1.1.2, ⟨hk.1.1.1.1.2, ⟨hk.1.1.1.2, hk.1.2⟩⟩⟩⟩)))⟩; replace HL522_1 : Aside0 (Kd.V (Kd.slice 3 (Kd.int .i64)) 65 w25 w.heap.size (fun k_ => some k_ ≠ (u4 : Value).ownBlock ∧ some k_ ≠ (.slice Ao24 t525.length co24 : Value).ownBlock ∧ k_ ≠ gb517 ∧ k_ ≠ gb523 ∧ k_ ≠ gb529) (.slice A522_1 ((rd_T28 t519 x15_1).f1).length c522_1) ((rd_T28 t519 x15_1).f1)) := ⟨(by rw [hw]; exact (by (with_reducible repeat (first | apply Kd.V_alloc | apply Kd.V_drewN | apply Kd.V_drew)); exact Kd.V_mono (Kd.V_far (p := ⟨gb529, 1, none⟩) (Kd.V_far (p := ⟨gb529, 0, none⟩) (Kd.V_mono HL522_1.out (fun k_ hk => (⟨hk, hk.2⟩ : _ ∧ k_ ≠ gb529))) (fun _ hk => hk.2) (.int .i64 t524)) (fun _ hk => hk.2) (.slice Ao24 t525.length co24)) (fun _ hk => ⟨hk.1.1.1.1.1, ⟨hk.1.1.2, ⟨hk.1.1.1.1.2, ⟨hk.1.1.1.2, hk.1.2⟩⟩⟩⟩)))⟩; replace HO527 : Aside0 (Kd.R (Kd.int .i64) 3 w25 w.heap.size (fun _ => True) (.slice Ao24 t525.length co24) t525) := ⟨(by rw [hw]; exact (by (with_reducible repeat (first | apply Kd.R_alloc | apply Kd.R_drewN | apply Kd.R_drew)); exact Kd.R_mono (Kd.R_far (p := ⟨gb529, 1, none⟩) (Kd.R_far (p := ⟨gb529, 0, none⟩) (Kd.R_types HO527.out BK529.out (by decide)) (fun _ hk => hk.2) (.int .i64 t524)) (fun _ hk => hk.2) (.slice Ao24 t525.length co24)) (fun _ hk => trivial)))⟩; replace BK517 : Aside0 (w25.heap[gb517]? = some (.cells #[.int .i64 a0_0, .slice A0_1 l0_1.length c0_1] 28 (0, 0))) := ⟨(by rw [hw]; exact (zf2 BK517.out NB517_529.out NB517_529.out))⟩; replace BK523 : Aside0 (w25.heap[gb523]? = some (.cells #[.int .i64 ((rd_T28 t519 x15_1).f0), .slice A522_1 ((rd_T28 t519 x15_1).f1).length c522_1] 28 (0, 0))) := ⟨(by rw [hw]; exact (zf2 BK523.out NB523_529.out NB523_529.out))⟩; replace BK529 : Aside0 (w25.heap[gb529]? = some (.cells #[.int .i64 t524, .slice Ao24 t525.length co24] 67 (0, 0))) := ⟨(by rw [hw]; exact (by (with_reducible repeat (first | refine blk_drewN ?_ _ | refine blk_drew ?_ | refine blk_alloc ?_ _)); refine blk_put (cs := #[.int .i64 t524, .slice none 0 0]) ?_ 1 _ rfl; (with_reducible repeat (first | refine blk_drewN ?_ _ | refine blk_drew ?_ | refine blk_alloc ?_ _)); refine blk_put (cs := #[.int .i64 0, .slice none 0 0]) ?_ 0 _ rfl; (with_reducible repeat (first | refine blk_drewN ?_ _ | refine blk_drew ?_ | refine blk_alloc ?_ _)); exact BK529.out))⟩; replace HB : Aside0 (Below w.heap.size w w25) := ⟨(by rw [hw]; exact (zh HB.out))⟩; clear hw; obtain ⟨hcz26_0, hcz26_1, hfz26_0, hfz26_1⟩ := zC2 BK529) | ((with_reducible refine gate_builtin (b := .append) (xs := #[.tmp 24, .tmp 26]) rfl ?_); at_builtin; refine Kd.S_append k67 (w0 := w) w.heap.size rfl (.tmp 24) (.tmp 26) 32 67 (.agg #[(.int .i64 0), (.slice none 0 0)]) 32 rfl Tryz.underlying32 info67 rfl (by decide) (by omega) u4 x4_1 (⟨t524, t525⟩ : S67) [.int .i64 t524, .slice Ao24 t525.length co24] (fun k_ => k_ ≠ gb529) (fun k_ => some k_ = (.slice Ao24 t525.length co24 : Value).ownBlock) rfl rfl ?aP (fun k_ hk_ => ((Kd.R_mono (ok' := fun k_ => ((fun k_ => k_ ≠ gb529)) k_ ∧ some k_ ≠ (u4 : Value).ownBlock) (Kd.R_types (Kd.R_apart' (HO527.out) (Kd.S_typed HO_4.out) (by decide)) BK529.out (by decide)) (fun k_ hk => ⟨hk.2, hk.1.2⟩))).1 k_ hk_.symm) ?aF ?aO ?aB ?aS ?aL ?_; (case aP => exact k67_mkM _ _ _ (⟨t524, t525⟩ : S67) (Kd.R_mono (Kd.R_tight rfl (Kd.R_mono (ok' := fun k_ => ((fun k_ => k_ ≠ gb529)) k_ ∧ some k_ ≠ (u4 : Value).ownBlock) (Kd.R_types (Kd.R_apart' (HO527.out) (Kd.S_typed HO_4.out) (by decide)) BK529.out (by decide)) (fun k_ hk => ⟨hk.2, hk.1.2⟩))) (fun _ h_ => h_))); (case aB => exact (zh HB.out)); (case aF => exact (fun k_ hk => Kd.freshB (g := gb529) (o := .cells #[.int .i64 t524, .slice Ao24 t525.length co24] 67 (0, 0)) (zb BK529.out) k_ hk)); (case aO => exact (by (with_reducible repeat (first | apply Kd.S_alloc | apply Kd.S_drewN | apply Kd.S_drew)); exact Kd.S_mono HO_4.out (fun k_ hk => ⟨hk.2, fun e_ => hk.1 e_⟩))); (case aS => exact (below_size (zh HB.out))); (case aL => have := LMc15.out; omega); intro v531 w27 ho hb hg hat; rw [← Ny530.out] at ho; have HO532 := Aside0.mk (ho); replace HO_13 := Aside0.mk (Kd.V_afterv (ok := (fun k_ => some k_ ≠ (.slice Ao24 t525.length co24 : Value).ownBlock ∧ k_ ≠ gb517 ∧ k_ ≠ gb523 ∧ k_ ≠ gb529)) (by (with_reducible repeat (first | apply Kd.V_alloc | apply Kd.V_drewN | apply Kd.V_drew)); exact Kd.V_mono HO_13.out (fun _ hk => ⟨⟨hk.2.1, ⟨hk.2.2.1, ⟨hk.2.2.2.1, hk.2.2.2.2⟩⟩⟩, hk.1⟩)) hg hat); replace BK517 := Aside0.mk (blk_grown (g := gb517) (o := .cells #[.int .i64 a0_0, .slice A0_1 l0_1.length c0_1] 28 (0, 0)) (zb BK517.out) hg (Kd.S_ne HO_4.out BK517.out (by decide))); replace HL522_1 := Aside0.mk (Kd.V_afterv (ok := (fun k_ => some k_ ≠ (.slice Ao24 t525.length co24 : Value).ownBlock ∧ k_ ≠ gb517 ∧ k_ ≠ gb523 ∧ k_ ≠ gb529)) (by (with_reducible repeat (first | apply Kd.V_alloc | apply Kd.V_drewN | apply Kd.V_drew)); exact Kd.V_mono HL522_1.out (fun _ hk => ⟨⟨hk.2.1, ⟨hk.2.2.1, ⟨hk.2.2.2.1, hk.2.2.2.2⟩⟩⟩, hk.1⟩)) hg hat); replace BK523 := Aside0.mk (blk_grown (g := gb523) (o := .cells #[.int .i64 ((rd_T28 t519 x15_1).f0), .slice A522_1 ((rd_T28 t519 x15_1).f1).length c522_1] 28 (0, 0)) (zb BK523.out) hg (Kd.S_ne HO_4.out BK523.out (by decide))); replace BK529 := Aside0.mk (blk_grown (g := gb529) (o := .cells #[.int .i64 t524, .slice Ao24 t525.length co24] 67 (0, 0)) (zb BK529.out) hg (Kd.S_away HO_4.out (fun _ hk => hk.2))); replace HB := Aside0.mk (hb); clear HO_4 HO527 ho hb hg hat))
   go_roundg k1
   case measure => have := HK1.out; omega
   case rel => exact ⟨(y530), (wrap64 (x15_1 + 1)), zE, H', zO HK1, ⟨zS (Kd.S_mono HO532.out (fun _ hk => trivial))⟩, ⟨by (with_reducible repeat (first | apply Kd.V_alloc | apply Kd.V_drewN | apply Kd.V_drew)); exact Kd.V_mono HO_13.out (fun _ hk => ⟨hk.2, hk.1.2.1⟩)⟩, ⟨zb BK517.out⟩, ⟨zh HB.out⟩⟩
end Go.Proofs.YtmbkmabpebjboaaGreat.Q
end
section
namespace Go.Proofs.YtmbkmabpebjboaaGreat.Q
open Go.RowKit Go.Proofs.YtmbkmabpebjboaaGreatW.PrintWords Go.Proofs.YtmbkmabpebjboaaGreatW.PrintLast Go.Proofs.YtmbkmabpebjboaaGreatW.PrintMore
set_option linter.unusedVariables false
set_option linter.unusedSimpArgs false
def laws_FnExactChambersOf.f (k : Nat) (a : Int) (l : List (List Int)) : Option Bool :=
  (laws_szGame.f k a l 1048576).bind fun q => if q < 0 then some true else (laws_toGame.f k a l).bind fun p => (spec_ChambersOf.f k p.1 p.2).bind fun s => (impl_ChambersOf.f k p.1 p.2).bind fun g => (laws_eqCommitteeS.f k g.1 s.1).bind fun t => if t = true then (if g.2 = s.2 then (laws_eqGame.f k p.1 p.2 p.1 p.2).bind fun e => if e = true then (laws_markIntSS.f k p.2 1).bind fun x => if x.1 < 0 then none else (laws_markCommitteeS.f k g.1 1).bind fun n => (laws_heldCommitteeS.f k n.2 1).bind fun q => if q < 0 then none else if q = n.1 then some true else none else none else none) else none
set_option maxRecDepth 100000 in
set_option maxHeartbeats 8000000 in
theorem laws_FnExactChambersOf_walk (k : Nat) (a : Int) (A : Option Addr) (c : Nat) (l : List (List Int)) (r : Bool) (w : World) (hC0 : Kd.C (Kd.slice 3 (Kd.int .i64)) w A l.length l) (hc : l.length ≤ c) (h : laws_FnExactChambersOf.f k a l = some r) :
    Calls Tryz.prog 4 #[.agg #[.int .i64 a, .slice A l.length c]] w fun e w' => e = .returned (.bool r) ∧ Below w.heap.size w w' := by
  have HC := Aside0.mk hC0
  have u1 := Tryz.underlying24
  have u2 := Tryz.underlying28
  clear hC0
  replace h := Option.bind_eq_some_iff.mp h
  obtain ⟨q0, hq0, h⟩ := h
  have HQ0 := Aside0.mk hq0
  clear hq0
  by_cases c0 : q0 < 0
  · rw [if_pos c0] at h
    obtain rfl := Option.some.inj h
    have c0b : decide (q0 < 0) = true := decide_eq_true c0
    clear h
    go_enter Tryz.func4, Tryz.ntmps4
    go_wp2_with (go_at_call 6; refine (laws_szGame.calls k a A c l 1048576 q0 _ ?hC hc HQ0.out).mono ?_; (case hC => exact Kd.C_alloc HC.out _); rintro e u1_ ⟨rfl, hb⟩; have hA := blk_below (blk_new w _) hb; have hA0 := (blk_cell hA 0).trans rfl; have hA1 := (blk_cell hA 1).trans rfl; have HA := Aside0.mk hA; have HB0 := Aside0.mk (((Below.refl w.heap.size w).alloc (Nat.le_refl _) (.cells #[.int .i64 a, .slice A l.length c] 24 (0, 0))).trans (hb.mono (by simp))); clear hb hA)
    go_ret
    exact ⟨rfl, HB0.out⟩
  rw [if_neg c0] at h
  have c0b : decide (q0 < 0) = false := decide_eq_false c0
  replace h := Option.bind_eq_some_iff.mp h
  obtain ⟨⟨m, p⟩, hp, h⟩ := h
  replace h := Option.bind_eq_some_iff.mp h
  obtain ⟨⟨s, sb⟩, hs, h⟩ := h
  replace h := Option.bind_eq_some_iff.mp h
  obtain ⟨⟨g, gb⟩, hg, h⟩ := h
  replace h := Option.bind_eq_some_iff.mp h
  obtain ⟨t, ht, h⟩ := h
  dsimp only at hs hg ht h
  by_cases c1 : t = true
  case neg => rw [if_neg c1] at h; cases h
  rw [if_pos c1] at h
  subst c1
  by_cases c2 : gb = sb
  case neg => rw [if_neg c2] at h; cases h
  rw [if_pos c2] at h
  subst c2
  replace h := Option.bind_eq_some_iff.mp h
  obtain ⟨t, hep, h⟩ := h
  by_cases c1 : t = true
  case neg => rw [if_neg c1] at h; cases h
  rw [if_pos c1] at h
  subst c1
  replace h := Option.bind_eq_some_iff.mp h
  obtain ⟨⟨x1, xm⟩, hx, h⟩ := h
  dsimp only at hep hx h
  by_cases c3 : x1 < 0
  case pos => rw [if_pos c3] at h; cases h
  rw [if_neg c3] at h
  have c3b : decide (x1 < 0) = false := decide_eq_false c3
  replace h := Option.bind_eq_some_iff.mp h
  obtain ⟨⟨n1, nm⟩, hn, h⟩ := h
  replace h := Option.bind_eq_some_iff.mp h
  obtain ⟨q, hh, h⟩ := h
  dsimp only at hn hh h
  by_cases c4 : q < 0
  case pos => rw [if_pos c4] at h; cases h
  rw [if_neg c4] at h
  have c4b : decide (q < 0) = false := decide_eq_false c4
  by_cases c5 : q = n1
  case neg => rw [if_neg c5] at h; cases h
  rw [if_pos c5] at h
  subst c5
  obtain rfl := Option.some.inj h
  have gg : (gb != gb) = false := by simp
  have HP := Aside0.mk hp
  have HS := Aside0.mk hs
  have HG := Aside0.mk hg
  have HT := Aside0.mk ht
  have HE := Aside0.mk hep
  have HX := Aside0.mk hx
  have HN := Aside0.mk hn
  have HH := Aside0.mk hh
  clear h hp hs hg ht hep hx hn hh
  go_enter Tryz.func4, Tryz.ntmps4
  go_wp2_with (go_at_call 6; refine (laws_szGame.calls k a A c l 1048576 q0 _ ?hC hc HQ0.out).mono ?_; (case hC => exact Kd.C_alloc HC.out _); rintro e u1_ ⟨rfl, hb⟩; have hA := blk_below (blk_new w _) hb; have hA0 := (blk_cell hA 0).trans rfl; have hA1 := (blk_cell hA 1).trans rfl; have HA := Aside0.mk hA; have HB0 := Aside0.mk (((Below.refl w.heap.size w).alloc (Nat.le_refl _) (.cells #[.int .i64 a, .slice A l.length c] 24 (0, 0))).trans (hb.mono (by simp))); clear hb hA)
  go_wp2_with (go_at_call 8; refine (laws_toGame.calls k a A c l m p _ (Kd.C_below HC.out HB0.out) hc HP.out).mono ?_; rintro e u2_ ⟨v, rfl, hR, hb⟩; obtain ⟨D, d, rfl⟩ := Kd.S_slice hR; have HD := Aside0.mk (Kd.S_reads' hR); have hB := HB0.out.trans (hb.mono HB0.out.size); have hA := blk_below HA.out hb; clear HA HB0 hA0 hA1; have HA := Aside0.mk hA; have HB0 := Aside0.mk hB; have hA0 := (blk_cell hA 0).trans rfl; have hA1 := (blk_cell hA 1).trans rfl; clear hb hR hA hB)
  go_wp2_with (go_at_call 11; refine (spec_ChambersOf.calls k m D d p s gb _ HD.out.2.2 HD.out.2.1 HS.out).mono ?_; rintro e w1 ⟨v, rfl, hV, hb⟩; obtain ⟨As, cs, rfl⟩ := Kd.S_slice hV; have HW := Aside0.mk (Kd.S_reads' hV); have hB := HB0.out.trans (hb.mono HB0.out.size); have hA := blk_below HA.out hb; clear HA HB0 HD hA0 hA1; have HA := Aside0.mk hA; have HB0 := Aside0.mk hB; have HCA := Aside0.mk (Kd.C_below HC.out hB); have hA0 := (blk_cell hA 0).trans rfl; have hA1 := (blk_cell hA 1).trans rfl; clear hb hV hA hB)
  go_wp2_with (go_at_call 8; refine (laws_toGame.calls k a A c l m p _ HCA.out hc HP.out).mono ?_; rintro e w2 ⟨v, rfl, hR, hb⟩; obtain ⟨X, cx, rfl⟩ := Kd.S_slice hR; have HX0 := Aside0.mk hR; have B1 := Aside0.mk hb; have hA := blk_alloc (blk_below HA.out hb) (.cells #[.int .i64 m, .slice X p.length cx] 28 (0, 0)); have hX := blk_new w2 (.cells #[.int .i64 m, .slice X p.length cx] 28 (0, 0)); clear hA0 hA1; have hA0 := (blk_cell hA 0).trans rfl; have hA1 := (blk_cell hA 1).trans rfl; have hX0 := (blk_cell hX 0).trans rfl; have hX1 := (blk_cell hX 1).trans rfl; clear hb hR hA hX)
  go_wp2_with (go_at_call 12; refine (impl_ChambersOfS.calls k m X cx p g gb _ (Kd.C_alloc (Kd.S_reads' HX0.out).2.2 _) (Kd.S_reads' HX0.out).2.1 HG.out).mono ?_; rintro e w3 ⟨v, rfl, hS, hb⟩; obtain ⟨G, cg, rfl⟩ := Kd.S_slice hS; have HG0 := Aside0.mk hS; have hA := blk_below (blk_alloc (blk_below HA.out B1.out) (.cells #[.int .i64 m, .slice X p.length cx] 28 (0, 0))) hb; have hX := blk_below (blk_new w2 (.cells #[.int .i64 m, .slice X p.length cx] 28 (0, 0))) hb; have hR := Kd.S_below (Kd.S_mono (Kd.S_bound (Kd.S_alloc HX0.out (.cells #[.int .i64 m, .slice X p.length cx] 28 (0, 0)))) (ok' := fun z => z < w2.heap.size + 1) (fun z hz => Nat.lt_of_lt_of_le hz.2.2.1 (by simp))) hb; have hS2 := Kd.S_mono (Kd.S_bound hS) (ok' := fun z => w2.heap.size + 1 ≤ z) (fun z hz => Nat.le_trans (by simp) hz.2.1); have hB := (B1.out.alloc B1.out.size (.cells #[.int .i64 m, .slice X p.length cx] 28 (0, 0))).trans (hb.mono (Nat.le_trans B1.out.size (by simp))); have hsz := B1.out.size; clear HX0 HG0 B1 hA0 hA1 hX0 hX1; have HX0 := Aside0.mk hR; have HG0 := Aside0.mk hS2; have B1 := Aside0.mk hB; have BA := Aside0.mk hA; have BX := Aside0.mk hX; have hA0 := (blk_cell hA 0).trans rfl; have hA1 := (blk_cell hA 1).trans rfl; have hX0 := (blk_cell hX 0).trans rfl; have hX1 := (blk_cell hX 1).trans rfl; have HZ := Aside0.mk hsz; clear hb hS hR hS2 hA hX hB hsz)
  go_wp2_with (go_at_call 13; refine (laws_eqCommitteeS.calls k G cg g As cs s true _ (Kd.S_reads' HG0.out).2.2 (Kd.S_reads' HG0.out).2.1 (Kd.C_below HW.out.2.2 B1.out) HW.out.2.1 HT.out).mono ?_; rintro e w4 ⟨rfl, hb⟩; have hA := blk_below BA.out hb; have hX := blk_below BX.out hb; have hR := Kd.S_below HX0.out hb; have hS := Kd.S_below HG0.out hb; have hB := B1.out.trans (hb.mono B1.out.size); clear BA BX HX0 HG0 B1 hA0 hA1 hX0 hX1; have BA := Aside0.mk hA; have BX := Aside0.mk hX; have HX0 := Aside0.mk hR; have HG0 := Aside0.mk hS; have B1 := Aside0.mk hB; have hA0 := (blk_cell hA 0).trans rfl; have hA1 := (blk_cell hA 1).trans rfl; have hX0 := (blk_cell hX 0).trans rfl; have hX1 := (blk_cell hX 1).trans rfl; clear hb hR hS hA hX hB)
  refine start_ (n := 5) (S := fun w' => w'.cell? ⟨w2.heap.size, 0, none⟩ = some (.int .i64 m) ∧ w'.cell? ⟨w2.heap.size, 1, none⟩ = some (.slice X p.length cx) ∧ w'.cell? ⟨w.heap.size, 0, none⟩ = some (.int .i64 a) ∧ w'.cell? ⟨w.heap.size, 1, none⟩ = some (.slice A l.length c)) (ds := []) #[false, false, false, false, false] (by kernel_rfl) rfl rfl ⟨(blk_cell (blk_drew BX.out) 0).trans rfl, (blk_cell (blk_drew BX.out) 1).trans rfl, (blk_cell (blk_drew BA.out) 0).trans rfl, (blk_cell (blk_drew BA.out) 1).trans rfl⟩ (fun hHeld => ?_)
  have hb : Below w4.heap.size w4 w4.drew := (Below.refl _ w4).drew
  generalize w4.drew = w5 at hb hHeld ⊢
  have hA := blk_below BA.out hb
  have hX := blk_below BX.out hb
  have hR := Kd.S_below HX0.out hb
  have hS := Kd.S_below HG0.out hb
  have hB := B1.out.trans (hb.mono B1.out.size)
  clear BA BX HX0 HG0 B1 hA0 hA1 hX0 hX1
  have BA := Aside0.mk hA
  have BX := Aside0.mk hX
  have HX0 := Aside0.mk hR
  have HG0 := Aside0.mk hS
  have B1 := Aside0.mk hB
  have hA0 := (blk_cell hA 0).trans rfl
  have hA1 := (blk_cell hA 1).trans rfl
  have hX0 := (blk_cell hX 0).trans rfl
  have hX1 := (blk_cell hX 1).trans rfl
  clear hb hR hS hA hX hB
  refine take_ (i := 0) (N := some 41) (v := ?_) (a' := ?_) #[true, false, false, false, false] rfl rfl (by kernel_rfl) (fun _ _ _ h => h) (Or.inl ⟨by rfl, ?_⟩) hHeld ?_ ?_
  rotate_left
  · rintro w' ⟨s0, s1, s2, s3⟩
    go_simp
    with_reducible rfl
  rotate_left
  · simp only [Act.put, List.setIfInBounds_toArray, List.set_cons_zero, List.set_cons_succ, i64_w, i32_w]
    rfl
  refine take_ (i := 1) (N := some 42) (v := ?_) (a' := ?_) #[true, true, false, false, false] rfl rfl (by kernel_rfl) (fun _ _ _ h => h) (Or.inl ⟨by rfl, ?_⟩) hHeld ?_ ?_
  rotate_left
  · rintro w' ⟨s0, s1, s2, s3⟩
    go_simp
    with_reducible rfl
  rotate_left
  · simp only [Act.put, List.setIfInBounds_toArray, List.set_cons_zero, List.set_cons_succ, i64_w, i32_w]
    rfl
  refine one_ (i := 2) (N := some 43) #[true, true, true, false, false] rfl rfl (by kernel_rfl) (by decide) (fun K hK => ?_)
  refine goes_ Tryz.func8 (by kernel_rfl) rfl #[.agg #[.int .i64 a, .slice A l.length c]] (by rfl) rfl rfl (by (try simp only [List.map_toArray, List.map_cons, List.map_nil]); first | done | rfl) ?_
  refine (laws_toGame.calls k a A c l m p _ (Kd.C_below HCA.out B1.out) hc HP.out).mono ?_
  rintro e w6 ⟨v, rfl, hD, hb⟩
  refine ⟨_, rfl, ?_⟩
  obtain ⟨D, d, rfl⟩ := Kd.S_slice hD
  have HD := Aside0.mk (Kd.S_reads' hD)
  clear hD
  have hA := blk_below BA.out hb
  have hX := blk_below BX.out hb
  have hR := Kd.S_below HX0.out hb
  have hS := Kd.S_below HG0.out hb
  have hB := B1.out.trans (hb.mono B1.out.size)
  clear BA BX HX0 HG0 B1 hA0 hA1 hX0 hX1
  have BA := Aside0.mk hA
  have BX := Aside0.mk hX
  have HX0 := Aside0.mk hR
  have HG0 := Aside0.mk hS
  have B1 := Aside0.mk hB
  have hA0 := (blk_cell hA 0).trans rfl
  have hA1 := (blk_cell hA 1).trans rfl
  have hX0 := (blk_cell hX 0).trans rfl
  have hX1 := (blk_cell hX 1).trans rfl
  clear hb hR hS hA hX hB
  refine hK.out _ _ ⟨(blk_cell BX.out 0).trans rfl, (blk_cell BX.out 1).trans rfl, (blk_cell BA.out 0).trans rfl, (blk_cell BA.out 1).trans rfl⟩ (fun hHeld => ?_)
  clear hK K
  refine norm_ (a' := ?_) ?_ ?_
  rotate_left
  · show Act.put _ (some 43) _ = _
    simp only [Act.put, List.setIfInBounds_toArray, List.set_cons_zero, List.set_cons_succ, i64_w, i32_w]
    rfl
  refine one_ (i := 3) (N := some 44) #[true, true, true, true, false] rfl rfl (by kernel_rfl) (by decide) (fun K hK => ?_)
  refine goes_ Tryz.func10 (by kernel_rfl) rfl #[.agg #[.int .i64 m, .slice X p.length cx], .agg #[.int .i64 m, .slice D p.length d]] (by rfl) rfl rfl (by (try simp only [List.map_toArray, List.map_cons, List.map_nil]); first | done | rfl) ?_
  refine (laws_eqGame.calls k m X cx p m D d p true _ (Kd.S_reads' HX0.out).2.2 (Kd.S_reads' HX0.out).2.1 HD.out.2.2 HD.out.2.1 HE.out).mono ?_
  rintro e w7 ⟨rfl, hb⟩
  refine ⟨_, rfl, ?_⟩
  clear HD
  have hA := blk_below BA.out hb
  have hX := blk_below BX.out hb
  have hR := Kd.S_below HX0.out hb
  have hS := Kd.S_below HG0.out hb
  have hB := B1.out.trans (hb.mono B1.out.size)
  clear BA BX HX0 HG0 B1 hA0 hA1 hX0 hX1
  have BA := Aside0.mk hA
  have BX := Aside0.mk hX
  have HX0 := Aside0.mk hR
  have HG0 := Aside0.mk hS
  have B1 := Aside0.mk hB
  have hA0 := (blk_cell hA 0).trans rfl
  have hA1 := (blk_cell hA 1).trans rfl
  have hX0 := (blk_cell hX 0).trans rfl
  have hX1 := (blk_cell hX 1).trans rfl
  clear hb hR hS hA hX hB
  refine hK.out _ _ ⟨(blk_cell BX.out 0).trans rfl, (blk_cell BX.out 1).trans rfl, (blk_cell BA.out 0).trans rfl, (blk_cell BA.out 1).trans rfl⟩ (fun hHeld => ?_)
  clear hK K
  refine norm_ (a' := ?_) ?_ ?_
  rotate_left
  · show Act.put _ (some 44) _ = _
    simp only [Act.put, List.setIfInBounds_toArray, List.set_cons_zero, List.set_cons_succ, i64_w, i32_w]
    rfl
  refine pure_ (i := 4) (N := some 45) (v := ?_) (a' := ?_) #[true, true, true, true, true] rfl rfl (by kernel_rfl) (fun _ _ _ h => h) (Or.inl ⟨by rfl, ?_⟩) ?_ ?_
  rotate_left
  · intro w'
    go_simp
    with_reducible rfl
  rotate_left
  · simp only [Act.put, List.setIfInBounds_toArray, List.set_cons_zero, List.set_cons_succ, i64_w, i32_w]
    rfl
  refine done_ (by kernel_rfl) ?_
  clear hHeld
  go_wp2_with (go_at_call 14; refine (laws_markGame.calls k m X cx p 1 x1 xm (fun z => z < w2.heap.size + 1 ∧ w1.heap.size ≤ z) w1 _ B1.out (Kd.S_mono (Kd.S_bound HX0.out) (fun z hz => ⟨hz.1, hz.2.1⟩)) HX.out).mono ?_; rintro e w8 ⟨rfl, -, -, hb, hk⟩; have hA := (hk.2 _ (blk_lt BA.out) (fun hz => absurd (blk_lt HA.out) (Nat.not_lt.2 hz.2))).trans BA.out; have hS := Kd.S_step HG0.out (fun z hz hlt => hk.2 z hlt (fun h => absurd h.1 (Nat.not_lt.2 hz))); clear BA BX HX0 HG0 B1 hA0 hA1 hX0 hX1; have BA := Aside0.mk hA; have HG0 := Aside0.mk hS; have B1 := Aside0.mk hb; have hA0 := (blk_cell hA 0).trans rfl; have hA1 := (blk_cell hA 1).trans rfl; clear hb hk hA hS)
  go_wp2_with (go_at_call 13; refine (laws_eqCommitteeS.calls k G cg g As cs s true _ (Kd.S_reads' HG0.out).2.2 (Kd.S_reads' HG0.out).2.1 (Kd.C_below HW.out.2.2 B1.out) HW.out.2.1 HT.out).mono ?_; rintro e w9 ⟨rfl, hb⟩; have hA := blk_below BA.out hb; have hS := Kd.S_below HG0.out hb; have hB := B1.out.trans (hb.mono B1.out.size); clear BA HG0 B1 hA0 hA1; have BA := Aside0.mk hA; have HG0 := Aside0.mk hS; have B1 := Aside0.mk hB; have hA0 := (blk_cell hA 0).trans rfl; have hA1 := (blk_cell hA 1).trans rfl; clear hb hS hA hB)
  go_wp2_with (go_at_call 15; refine (laws_markCommitteeS.calls k G cg g 1 q nm (fun z => w2.heap.size + 1 ≤ z) w1 _ B1.out (Kd.S_lower HG0.out (Nat.le_trans HZ.out (by simp))) HN.out).mono ?_; rintro e w10 ⟨rfl, hS, hlen, hb, hk⟩; have hA := (hk.2 _ (blk_lt BA.out) (fun hz => absurd (Nat.le_trans HZ.out (Nat.le_trans (Nat.le_succ _) hz)) (Nat.not_le.2 (blk_lt HA.out)))).trans BA.out; have HM := Aside0.mk (Kd.S_reads' hS); clear BA HG0 B1 hA0 hA1; have BA := Aside0.mk hA; have B1 := Aside0.mk hb; have hA0 := (blk_cell hA 0).trans rfl; have hA1 := (blk_cell hA 1).trans rfl; clear hb hk hA hS hlen)
  go_wp2_with (go_at_call 16; refine (coHeld k q _ HM.out HH.out).mono ?_; rintro e w11 ⟨rfl, hb⟩; have hA := blk_below BA.out hb; have hM := And.intro HM.out.1 (And.intro HM.out.2.1 (Kd.C_below HM.out.2.2 hb)); have hB := B1.out.trans (hb.mono B1.out.size); clear BA HM B1 hA0 hA1; have BA := Aside0.mk hA; have HM := Aside0.mk hM; have B1 := Aside0.mk hB; have hA0 := (blk_cell hA 0).trans rfl; have hA1 := (blk_cell hA 1).trans rfl; clear hb hM hA hB)
  go_wp2_with (go_at_call 8; refine (laws_toGame.calls k a A c l m p _ (Kd.C_below HCA.out B1.out) hc HP.out).mono ?_; rintro e w12 ⟨v, rfl, hR, hb⟩; obtain ⟨D, d, rfl⟩ := Kd.S_slice hR; have HD := Aside0.mk (Kd.S_reads' hR); clear hR; have hA := blk_below BA.out hb; have hM := And.intro HM.out.1 (And.intro HM.out.2.1 (Kd.C_below HM.out.2.2 hb)); have hB := B1.out.trans (hb.mono B1.out.size); clear BA HM B1 hA0 hA1; have BA := Aside0.mk hA; have HM := Aside0.mk hM; have B1 := Aside0.mk hB; have hA0 := (blk_cell hA 0).trans rfl; have hA1 := (blk_cell hA 1).trans rfl; clear hb hM hA hB)
  go_wp2_with (go_at_call 12; refine (impl_ChambersOfS.calls k m D d p g gb _ HD.out.2.2 HD.out.2.1 HG.out).mono ?_; rintro e w13 ⟨v, rfl, hR, hb⟩; obtain ⟨E, f, rfl⟩ := Kd.S_slice hR; clear HD; have HD := Aside0.mk (Kd.S_reads' hR); clear hR; have hA := blk_below BA.out hb; have hM := And.intro HM.out.1 (And.intro HM.out.2.1 (Kd.C_below HM.out.2.2 hb)); have hB := B1.out.trans (hb.mono B1.out.size); clear BA HM B1 hA0 hA1; have BA := Aside0.mk hA; have HM := Aside0.mk hM; have B1 := Aside0.mk hB; have hA0 := (blk_cell hA 0).trans rfl; have hA1 := (blk_cell hA 1).trans rfl; clear hb hM hA hB)
  go_wp2_with (go_at_call 13; refine (laws_eqCommitteeS.calls k E f g As cs s true _ HD.out.2.2 HD.out.2.1 (Kd.C_below HW.out.2.2 B1.out) HW.out.2.1 HT.out).mono ?_; rintro e w14 ⟨rfl, hb⟩; clear HD; have hA := blk_below BA.out hb; have hM := And.intro HM.out.1 (And.intro HM.out.2.1 (Kd.C_below HM.out.2.2 hb)); have hB := B1.out.trans (hb.mono B1.out.size); clear BA HM B1 hA0 hA1; have BA := Aside0.mk hA; have HM := Aside0.mk hM; have B1 := Aside0.mk hB; have hA0 := (blk_cell hA 0).trans rfl; have hA1 := (blk_cell hA 1).trans rfl; clear hb hM hA hB)
  go_wp2_with (go_at_call 16; refine (coHeld k q _ HM.out HH.out).mono ?_; rintro e w15 ⟨rfl, hb⟩; have hA := blk_below BA.out hb; have hM := And.intro HM.out.1 (And.intro HM.out.2.1 (Kd.C_below HM.out.2.2 hb)); have hB := B1.out.trans (hb.mono B1.out.size); clear BA HM B1 hA0 hA1; have BA := Aside0.mk hA; have HM := Aside0.mk hM; have B1 := Aside0.mk hB; have hA0 := (blk_cell hA 0).trans rfl; have hA1 := (blk_cell hA 1).trans rfl; clear hb hM hA hB)
  go_ret
  exact ⟨rfl, HB0.out.trans (B1.out.mono HB0.out.size)⟩
theorem laws_FnExactChambersOf.calls (k : Nat) (a0_0 : Int) (A0_1 : Option Addr) (c0_1 : Nat) (l0_1 : List (List Int)) (r : Bool) (w : World) (hr0_1 : Kd.C (Kd.slice 3 (Kd.int .i64)) w A0_1 l0_1.length l0_1) (hc0_1 : l0_1.length ≤ c0_1) (h : laws_FnExactChambersOf.f k a0_0 l0_1 = some r) :
    Calls Tryz.prog 4 #[.agg #[.int .i64 a0_0, .slice A0_1 l0_1.length c0_1]] w fun e w' => e = .returned (.bool r) ∧ Below w.heap.size w w' := by
  exact laws_FnExactChambersOf_walk k a0_0 A0_1 c0_1 l0_1 r w hr0_1 hc0_1 h
end Go.Proofs.YtmbkmabpebjboaaGreat.Q
end
section
namespace Go.Proofs.YtmbkmabpebjboaaGreat.Q
open Go.RowKit Go.Proofs.YtmbkmabpebjboaaGreatW.PrintWords Go.Proofs.YtmbkmabpebjboaaGreatW.PrintLast Go.Proofs.YtmbkmabpebjboaaGreatW.PrintMore
set_option linter.unusedVariables false
set_option linter.unusedSimpArgs false
open Go.ChangeShapes Go.WideShapes Go.ChangeAt Go.Deep
section
variable {H : Type} {enc : TypeId × Value → H} {P : Program} {W : World} {α β γ : Type}
def Opens (enc : TypeId × Value → H) (P : Program) (W : World) (t : TypeId) (d : Kd α) (G : α → Prop) : Prop :=
  ∀ (fuel : Nat) (cs : List Value) (y : DataW H × List MemPlace), DataW.trod enc P W 0 (fun _ => true) true fuel t cs = some y → ∃ x, d.K W x cs ∧ G x
def I64 (x : Int) : Prop := -9223372036854775808 ≤ x ∧ x ≤ 9223372036854775807
theorem opens_int {t : TypeId} (ht : P.underlying t = some (.int .i64)) : Opens enc P W t (Kd.int .i64) I64 := by
  intro fuel cs y h
  obtain ⟨n, rfl, _, hw⟩ := DataW.trod_int ht h
  exact ⟨n, rfl, Go.bounds_i64 hw⟩
theorem opens_slice [Inhabited α] {t e : TypeId} {d : Kd α} {G : α → Prop} (ht : P.underlying t = some (.slice e)) (he : P.cellsOf e = d.sz) (h : Opens enc P W e d G) :
    Opens enc P W t (Kd.slice e d) (fun xs => ∀ x ∈ xs, G x) := by
  intro fuel cs y hr
  rcases Deep.open_slice ht hr with ⟨rfl, _⟩ | ⟨a, len, cap, m, n, D, Pl, rfl, _, hlc, hcm, hm, _, hel⟩
  · exact ⟨[], ⟨none, 0, rfl, Nat.le_refl _, rfl, by simp, fun hp => absurd hp (by simp)⟩, fun x hx => by cases hx⟩
  · have hm' : len ≤ m := by rw [hm]; simp; omega
    have key : ∀ i, i < len → ∃ x, (∃ cs', d.K W x cs' ∧ ∀ j u, cs'[j]? = some u → W.cell? (a.add (i * d.sz + j)) = some u) ∧ G x := by
      intro i hi
      obtain ⟨cs', h1, h2⟩ := hel i (by omega)
      obtain ⟨x, hx, hG⟩ := h _ _ _ h2
      obtain ⟨_, hl, hc⟩ := World.cells?_some h1
      refine ⟨x, ⟨cs', hx, fun j u hu => ?_⟩, hG⟩
      have hj : j < P.cellsOf e := by rw [← hl]; exact (List.getElem?_eq_some_iff.1 hu).1
      have h3 := hc j hj
      rw [Deep.add_add, he] at h3
      rw [h3, hu]
    obtain ⟨f, hf⟩ := Deep.choose_lt key
    have hlen : ((List.range len).map f).length = len := by simp
    refine ⟨(List.range len).map f, ⟨some a, cap, by rw [hlen], by rw [hlen]; exact hlc, rfl, ?_, fun _ => ⟨a, rfl, fun j p hj => ?_⟩⟩, fun x hx => ?_⟩
    · rw [hlen]; unfold maxLen at hcm; omega
    · obtain ⟨hj1, hj2⟩ := List.getElem?_eq_some_iff.1 hj
      have hjl : j < len := by rw [hlen] at hj1; exact hj1
      have : p = f j := by rw [← hj2]; simp
      subst this
      obtain ⟨⟨cs', hK, hc⟩, _⟩ := hf j hjl
      exact ⟨cs', d.K_len hK, hK, hc⟩
    · obtain ⟨i, hi, rfl⟩ := List.mem_map.1 hx
      exact (hf i (List.mem_range.1 hi)).2
theorem opens_pair {t : TypeId} {f0 f1 : Field} {d0 : Kd α} {d1 : Kd β} {G0 : α → Prop} {G1 : β → Prop} (ht : P.underlying t = some (.struct #[f0, f1])) (hC : P.cellsOf t = d0.sz + d1.sz)
    (o0 : f0.offset = 0) (o1 : f1.offset = d0.sz) (c0 : P.cellsOf f0.type = d0.sz) (c1 : P.cellsOf f1.type = d1.sz) (h0 : Opens enc P W f0.type d0 G0) (h1 : Opens enc P W f1.type d1 G1) :
    Opens enc P W t (Kd.pair d0 d1) (fun x => G0 x.1 ∧ G1 x.2) := by
  intro fuel cs y hr
  obtain ⟨y0, y1, n, _, hl, r0, r1⟩ := trod_struct2 ht hr
  rw [o0, c0] at r0
  rw [o1, c1] at r1
  obtain ⟨x0, k0, g0⟩ := h0 _ _ _ r0
  obtain ⟨x1, k1, g1⟩ := h1 _ _ _ r1
  refine ⟨(x0, x1), ⟨_, _, ?_, k0, k1⟩, g0, g1⟩
  rw [List.drop_zero, List.take_of_length_le (l := cs.drop d0.sz) (by rw [List.length_drop, hl, hC]; omega), List.take_append_drop]
theorem open_struct {r : Reach} {b0 : Nat} {t : TypeId} {fs : Array Field} {d : Kd α} {G : α → Prop} {v : Value} {y : DataW H} {p : List MemPlace} (ht : P.underlying t = some (.struct fs)) (hv : Value.okWide P W r b0 t v)
    (hr : DataW.Trod enc P W 0 (fun _ => true) true t v y p) (h : Opens enc P W t d G) : ∃ x cs, v = .agg cs ∧ d.K W x cs.toList ∧ G x := by
  obtain ⟨cs, rfl, _⟩ := okWide_struct ht hv
  obtain ⟨fuel, hf⟩ := hr
  obtain ⟨x, k, g⟩ := h _ _ _ hf
  exact ⟨x, cs, rfl, k, g⟩
end
end Go.Proofs.YtmbkmabpebjboaaGreat.Q
end
section
namespace Go.Proofs.YtmbkmabpebjboaaGreat.Q
open Go.RowKit Go.Proofs.YtmbkmabpebjboaaGreatW.PrintWords Go.Proofs.YtmbkmabpebjboaaGreatW.PrintLast Go.Proofs.YtmbkmabpebjboaaGreatW.PrintMore
set_option linter.unusedVariables false
set_option linter.unusedSimpArgs false
theorem wraps_i64 (n : Int) (h0 : 0 ≤ n) (h1 : n < 2 ^ 62) : IntKind.i64.wrap n = n := by rw [IntKind.wrap_i64]; omega
theorem and_nat (a b : Nat) (ha : a < 2 ^ 62) (hb : b < 2 ^ 62) : Go.bits .and .i64 (a : Int) (b : Int) = ((a &&& b : Nat) : Int) := (Go.bits_nat .i64 62 (by decide) wraps_i64 a b ha hb).1
theorem or_nat (a b : Nat) (ha : a < 2 ^ 62) (hb : b < 2 ^ 62) : Go.bits .or .i64 (a : Int) (b : Int) = ((a ||| b : Nat) : Int) := (Go.bits_nat .i64 62 (by decide) wraps_i64 a b ha hb).2
theorem shr_nat (a n : Nat) (hn : n ≤ 64) : shr .i64 (a : Int) (n : Int) = ((a >>> n : Nat) : Int) := by
  unfold shr
  rw [Int.toNat_natCast, show min n IntKind.i64.bits = n from Nat.min_eq_left hn, Nat.shiftRight_eq_div_pow]
  simp
theorem shl_one_nat (n : Nat) (hn : n ≤ 16) : shl .i64 1 (n : Int) = ((2 ^ n : Nat) : Int) := by
  rw [shl_one (n : Int) ⟨by omega, by omega⟩, Int.toNat_natCast]; simp
theorem and_one_nat (a : Nat) (ha : a < 2 ^ 62) : Go.bits .and .i64 (a : Int) 1 = ((a % 2 : Nat) : Int) := by
  have := and_nat a 1 ha (by decide)
  rw [Nat.and_one_is_mod] at this
  exact this
theorem tmod_two (a : Nat) : Int.tmod (a : Int) 2 = ((a % 2 : Nat) : Int) := by
  rw [Int.tmod_eq_emod_of_nonneg (by omega)]; omega
theorem shr_lt (a i : Nat) (ha : a < 2 ^ 62) : a >>> i < 2 ^ 62 := by
  rw [Nat.shiftRight_eq_div_pow]
  exact Nat.lt_of_le_of_lt (Nat.div_le_self _ _) ha
def bitsL (m : Nat) : Nat → Nat → List Int
  | _, 0 => []
  | i, n + 1 => if m >>> i % 2 = 1 then (i : Int) :: bitsL m (i + 1) n else bitsL m (i + 1) n
def setL (m : Nat) : List Int := bitsL m 0 16
theorem bitsL_zero (m i n : Nat) (h : m >>> i = 0) : bitsL m i n = [] := by
  induction n generalizing i with
  | zero => rfl
  | succ n ih =>
    rw [bitsL, h, if_neg (by decide)]
    exact ih (i + 1) (by rw [Nat.shiftRight_succ, h])
theorem bitsL_len (m i n : Nat) : (bitsL m i n).length ≤ n := by
  induction n generalizing i with
  | zero => simp [bitsL]
  | succ n ih =>
    rw [bitsL]
    split
    · simp; exact ih _
    · exact Nat.le_succ_of_le (ih _)
theorem setOf_ev (m : Nat) (hm : m < 65536) : Ev (fun k => impl_setOf.f k (m : Int)) (setL m) := by
  unfold impl_setOf.f
  have key : ∀ (n i : Nat) (acc : List Int), i + n = 16 → acc.length ≤ i → Ev (fun k => impl_setOf.l0 k (m : Int) acc (i : Int)) (acc ++ bitsL m i n) := by
    intro n
    induction n with
    | zero =>
      intro i acc hi ha
      refine ev_succ ?_
      simp only [impl_setOf.l0, shr_nat m i (by omega)]
      refine ev_pos (by omega) (ev_neg ?_ (ev_eqv (Ev.now acc) (by simp [bitsL])))
      rw [show i = 16 by omega, Nat.shiftRight_eq_div_pow, Nat.div_eq_of_lt hm]; decide
    | succ n ih =>
      intro i acc hi ha
      refine ev_succ ?_
      simp only [impl_setOf.l0, shr_nat m i (by omega), and_one_nat _ (shr_lt m i (by omega))]
      refine ev_pos (by omega) ?_
      by_cases h0 : m >>> i = 0
      · exact ev_neg (by rw [h0]; decide) (ev_eqv (Ev.now acc) (by rw [bitsL_zero m i _ h0]; simp))
      · refine ev_pos (Int.ofNat_lt.2 (Nat.pos_of_ne_zero h0)) ?_
        rw [wrap_succ (n := 16) (by omega) (by decide), bitsL]
        by_cases h1 : m >>> i % 2 = 1
        · refine ev_pos (by omega) (ev_pos (by omega) (ev_eqv (ih (i + 1) (acc ++ [(i : Int)]) (by omega) (by simp; omega)) ?_))
          rw [if_pos h1]; simp
        · refine ev_neg (by omega) (ev_eqv (ih (i + 1) acc (by omega) (by omega)) ?_)
          rw [if_neg h1]
  exact key 16 0 [] (by omega) (by simp)
theorem toIntS_ev (l : List Int) (hl : l.length ≤ 1152921504606) : Ev (fun k => laws_toIntS.f k l) l := by
  unfold laws_toIntS.f
  refine ev_pos (by omega) (ev_pos (by omega) ?_)
  rw [Int.toNat_natCast]
  have key : ∀ (d i : Nat), i + d = l.length → Ev (fun k => laws_toIntS.l0 k l (l.take i ++ List.replicate (l.length - i) 0) (i : Int)) l := by
    intro d
    induction d with
    | zero =>
      intro i hi
      refine ev_succ ?_
      simp only [laws_toIntS.l0]
      refine ev_neg (by omega) (ev_eqv (Ev.now _) ?_)
      rw [show i = l.length by omega]; simp
    | succ d ih =>
      intro i hi
      have h1 : i < l.length := by omega
      refine ev_succ ?_
      simp only [laws_toIntS.l0]
      refine ev_pos (by omega) (ev_pos (by omega) (ev_pos (by rw [List.length_append, List.length_take, List.length_replicate]; omega) ?_))
      rw [wrap_succ h1 (by omega), Int.toNat_natCast, rd_get h1]
      have e : (l.take i ++ List.replicate (l.length - i) 0).set i l[i] = l.take (i + 1) ++ List.replicate (l.length - (i + 1)) 0 := by
        rw [List.set_append_right _ _ (by rw [List.length_take]; omega), List.length_take, Nat.min_eq_left (by omega), Nat.sub_self, show l.length - i = (l.length - (i + 1)) + 1 by omega, List.replicate_succ, List.set_cons_zero, List.take_succ_eq_append_getElem h1, List.append_assoc]
        rfl
      rw [e]
      exact ih (i + 1) (by omega)
  exact key l.length 0 (by omega)
def maskN (m : Nat) : List Int → Nat
  | [] => m
  | x :: l => maskN (m ||| 2 ^ x.toNat) l
theorem maskOf_ev (l : List Int) (hl : l.length ≤ 1152921504606) (h : ∀ x ∈ l, 0 ≤ x ∧ x ≤ 15) : Ev (fun k => impl_maskOf.f k l) (maskN 0 l : Int) ∧ Ev (fun k => spec_voBits.f k l) (maskN 0 l : Int) := by
  unfold impl_maskOf.f spec_voBits.f
  have key : ∀ (d i m : Nat), i + d = l.length → m < 65536 → Ev (fun k => impl_maskOf.l0 k (m : Int) l (l.length : Int) (i : Int)) (maskN m (l.drop i) : Int) ∧ Ev (fun k => spec_voBits.l0 k (m : Int) l (l.length : Int) (i : Int)) (maskN m (l.drop i) : Int) := by
    intro d
    induction d with
    | zero =>
      intro i m hi hm
      refine ⟨ev_succ ?_, ev_succ ?_⟩
      all_goals
        simp only [impl_maskOf.l0, spec_voBits.l0]
        refine ev_neg (by omega) (ev_eqv (Ev.now _) ?_)
        rw [List.drop_of_length_le (by omega)]; rfl
    | succ d ih =>
      intro i m hi hm
      have h1 : i < l.length := by omega
      have hx := h l[i] (List.getElem_mem h1)
      obtain ⟨q, hq⟩ := Int.eq_ofNat_of_zero_le hx.1
      have hq16 : q ≤ 15 := by omega
      have hp : 2 ^ q < 65536 := Nat.pow_lt_pow_right (n := 16) (by decide) (by omega)
      have ih' := ih (i + 1) (m ||| 2 ^ q) (by omega) (Nat.or_lt_two_pow (n := 16) hm hp)
      rw [List.drop_eq_getElem_cons h1, maskN, hq, Int.toNat_natCast]
      refine ⟨ev_succ ?_, ev_succ ?_⟩
      all_goals
        simp only [impl_maskOf.l0, spec_voBits.l0]
        refine ev_pos (by omega) (ev_pos (by omega) (ev_pos (by omega) (ev_pos (by rw [rd_get h1]; omega) ?_)))
        rw [rd_get h1, hq, shl_one_nat q (by omega), or_nat m (2 ^ q) (by omega) (by omega), wrap_succ h1 (by omega)]
      · exact ih'.1
      · exact ih'.2
  exact key l.length 0 0 (by omega) (by decide)
def incFrom : Option Int → List Int → Bool
  | _, [] => true
  | p, x :: l => (match p with | none => true | some y => decide (y < x)) && incFrom (some x) l
def incB (l : List Int) : Bool := incFrom none l
def isSetB (l : List Int) (n : Int) : Bool := l.all (inB · 0 (n - 1)) && incB l
def prev (l : List Int) : Nat → Option Int
  | 0 => none
  | i + 1 => l[i]?
theorem isIncreasing_ev (l : List Int) (hl : l.length ≤ 1152921504606) : Ev (fun k => impl_isIncreasing.f k l) (incB l) := by
  unfold impl_isIncreasing.f
  have key : ∀ (d i : Nat), i + d = l.length → Ev (fun k => impl_isIncreasing.l0 k l (l.length : Int) (i : Int)) (incFrom (prev l i) (l.drop i)) := by
    intro d
    induction d with
    | zero =>
      intro i hi
      refine ev_succ ?_
      simp only [impl_isIncreasing.l0]
      refine ev_neg (by omega) (ev_eqv (Ev.now _) ?_)
      rw [List.drop_of_length_le (by omega)]; rfl
    | succ d ih =>
      intro i hi
      have h1 : i < l.length := by omega
      have ih' := ih (i + 1) (by omega)
      have hp : prev l (i + 1) = some l[i] := by rw [prev, List.getElem?_eq_getElem h1]
      rw [hp] at ih'
      refine ev_succ ?_
      simp only [impl_isIncreasing.l0]
      refine ev_pos (by omega) ?_
      rw [wrap_succ h1 (by omega), List.drop_eq_getElem_cons h1]
      cases i with
      | zero => exact ev_neg (by omega) (ev_eqv ih' (by simp [incFrom, prev]))
      | succ i =>
        have h2 : i < l.length := by omega
        rw [wrap_pred h2 (by omega), rd_get h1, rd_get h2]
        refine ev_pos (by omega) (ev_pos (by omega) (ev_pos (by omega) (ev_pos (by omega) (ev_pos (by omega) ?_))))
        have e : prev l (i + 1) = some l[i] := by rw [prev, List.getElem?_eq_getElem h2]
        rw [e, incFrom]
        by_cases c : l[i + 1] ≤ l[i]
        · exact ev_pos c (ev_eqv (Ev.now _) (by rw [decide_eq_false (by omega)]; rfl))
        · exact ev_neg c (ev_eqv ih' (by rw [decide_eq_true (by omega)]; rfl))
  exact key l.length 0 (by omega)
theorem l1Rising_ev (l : List Int) (lo hi : Int) (hl : l.length ≤ 1152921504606) : Ev (fun k => spec_l1Rising.f k l lo hi) (l.all (inB · lo hi) && incB l) := by
  unfold spec_l1Rising.f
  have key : ∀ (d i : Nat), i + d = l.length → Ev (fun k => spec_l1Rising.l0 k l lo hi l (l.length : Int) (i : Int)) ((l.drop i).all (inB · lo hi) && incFrom (prev l i) (l.drop i)) := by
    intro d
    induction d with
    | zero =>
      intro i hi
      refine ev_succ ?_
      simp only [spec_l1Rising.l0]
      refine ev_neg (by omega) (ev_eqv (Ev.now _) ?_)
      rw [List.drop_of_length_le (by omega)]; rfl
    | succ d ih =>
      intro i hi
      have h1 : i < l.length := by omega
      have ih' := ih (i + 1) (by omega)
      have hp : prev l (i + 1) = some l[i] := by rw [prev, List.getElem?_eq_getElem h1]
      rw [hp] at ih'
      refine ev_succ ?_
      simp only [spec_l1Rising.l0, l1In_eq, Option.bind_some]
      refine ev_pos (by omega) (ev_pos (by omega) (ev_pos (by omega) ?_))
      rw [wrap_succ h1 (by omega), List.drop_eq_getElem_cons h1, rd_get h1, List.all_cons]
      refine ev_bool (fun hb => ?_) (fun hb => ev_eqv (Ev.now _) (by rw [hb]; rfl))
      rw [hb]
      cases i with
      | zero => exact ev_neg (by omega) (ev_eqv ih' (by simp [incFrom, prev]))
      | succ i =>
        have h2 : i < l.length := by omega
        rw [wrap_pred h2 (by omega), rd_get h2]
        refine ev_pos (by omega) (ev_pos (by omega) (ev_pos (by omega) ?_))
        have e : prev l (i + 1) = some l[i] := by rw [prev, List.getElem?_eq_getElem h2]
        rw [e, incFrom]
        by_cases c : l[i] ≥ l[i + 1]
        · exact ev_pos c (ev_eqv (Ev.now _) (by rw [decide_eq_false (by omega)]; simp))
        · exact ev_neg c (ev_eqv ih' (by rw [decide_eq_true (by omega)]; rfl))
  exact key l.length 0 (by omega)
theorem any_not_all {α : Type} (l : List α) (p : α → Bool) : (!l.any fun x => !p x) = l.all p := by
  induction l with
  | nil => rfl
  | cons x l ih => rw [List.any_cons, List.all_cons, ← ih]; cases p x <;> simp
theorem areIn_eq (l : List Int) (lo hi : Int) : impl_areIn.f l lo hi = some (l.all (inB · lo hi)) := by
  unfold impl_areIn.f
  rw [anyO_some (q := fun x => !inB x lo hi) (fun x _ => by unfold impl_areIn_1.f; rw [within_eq]; rfl)]
  rw [Option.bind_some, any_not_all]
theorem isSet_ev (l : List Int) (n : Int) (hn : -1000000 ≤ n ∧ n ≤ 1000000) (hl : l.length ≤ 1152921504606) : Ev (fun k => impl_isSet.f k l n) (isSetB l n) := by
  unfold impl_isSet.f isSetB
  rw [wrap64_id (by omega)]
  simp only [areIn_eq, Option.bind_some]
  refine ev_bool (fun hb => ?_) (fun hb => ev_eqv (Ev.now _) (by rw [hb]; rfl))
  rw [hb]
  exact Ev.bind (isIncreasing_ev l hl) (Ev.now _)
theorem voSet_ev (l : List Int) (n : Int) (hn : -1000000 ≤ n ∧ n ≤ 1000000) (hl : l.length ≤ 1152921504606) : Ev (fun k => spec_voSet.f k n l) (isSetB l n) := by
  unfold spec_voSet.f isSetB
  rw [wrap64_id (by omega)]
  exact Ev.bind (l1Rising_ev l 0 (n - 1) hl) (Ev.now _)
theorem isSetB_mem {l : List Int} {n : Int} (h : isSetB l n = true) : ∀ x ∈ l, 0 ≤ x ∧ x ≤ n - 1 := by
  intro x hx
  unfold isSetB at h
  rw [Bool.and_eq_true, List.all_eq_true] at h
  exact inB_iff.1 (h.1 x hx)
theorem ev_anyO {α : Type} (p : Nat → α → Option Bool) (q : α → Bool) : ∀ l : List α, (∀ x ∈ l, Ev (fun k => p k x) (q x)) → Ev (fun k => anyO (p k) l) (l.any q)
  | [], _ => Ev.now _
  | x :: xs, h => by
    simp only [anyO, List.any_cons]
    refine Ev.bind (h x (List.mem_cons_self ..)) (ev_bool (fun e => ?_) (fun e => ?_))
    · rw [e]; exact Ev.now _
    · rw [e]; exact ev_anyO p q xs (fun y hy => h y (List.mem_cons_of_mem _ hy))
def allR (P : Nat → Bool) (n i : Nat) : Bool := ((List.range n).drop i).all P
theorem allR_end (P : Nat → Bool) (n : Nat) : allR P n n = true := by
  unfold allR
  rw [List.drop_of_length_le (by simp)]; rfl
theorem allR_step (P : Nat → Bool) (n i : Nat) (h : i < n) : allR P n i = (P i && allR P n (i + 1)) := by
  unfold allR
  rw [all_drop P (List.range n) i (by simpa using h), List.getElem_range]
theorem allR_iff (P : Nat → Bool) (n : Nat) : allR P n 0 = true ↔ ∀ i, i < n → P i = true := by
  unfold allR
  rw [List.drop_zero, List.all_eq_true]
  exact ⟨fun h i hi => h i (List.mem_range.2 hi), fun h i hi => h i (List.mem_range.1 hi)⟩
def mk (l : List (List Int)) (i : Nat) : Nat := maskN 0 (l.getD i [])
def rises (l : List (List Int)) (i : Nat) : Bool := decide (i = 0) || lexB (l.getD (i - 1) []) (l.getD i [])
def apartS (l : List (List Int)) (i : Nat) : Bool := allR (fun h => !(mk l i &&& mk l h == mk l i) && !(mk l i &&& mk l h == mk l h)) i 0
def apartI (l : List (List Int)) (i : Nat) : Bool := allR (fun h => decide (h = i) || !(mk l i &&& mk l h == mk l h)) l.length 0
theorem maskN_lt2 (n : Nat) (l : List Int) : ∀ m, m < 2 ^ n → (∀ x ∈ l, 0 ≤ x ∧ x ≤ (n : Int) - 1) → maskN m l < 2 ^ n := by
  induction l with
  | nil => intro m hm _; exact hm
  | cons x l ih =>
    intro m hm h
    refine ih _ ?_ (fun y hy => h y (List.mem_cons_of_mem _ hy))
    have hx := h x (List.mem_cons_self ..)
    exact Nat.or_lt_two_pow hm (Nat.pow_lt_pow_right (by decide) (by omega))
def SetsOk (m : Int) (l : List (List Int)) : Prop := (1 ≤ m ∧ m ≤ 9) ∧ ∀ x ∈ l, isSetB x m = true ∧ x.length ≤ 1048576
theorem SetsOk.elem {m : Int} {l : List (List Int)} (h : SetsOk m l) {x : List Int} (hx : x ∈ l) : ∀ y ∈ x, 0 ≤ y ∧ y ≤ (9 : Nat) - 1 := fun y hy => by
  have := isSetB_mem (h.2 x hx).1 y hy
  have := h.1
  omega
theorem SetsOk.lt {m : Int} {l : List (List Int)} (h : SetsOk m l) {i : Nat} (hi : i < l.length) : mk l i < 512 := by
  unfold mk
  rw [getD_get hi]
  exact maskN_lt2 9 _ 0 (by decide) (h.elem (List.getElem_mem hi))
theorem SetsOk.masks {m : Int} {l : List (List Int)} (h : SetsOk m l) {i : Nat} (hi : i < l.length) : Ev (fun k => impl_maskOf.f k l[i]) (mk l i : Int) ∧ Ev (fun k => spec_voBits.f k l[i]) (mk l i : Int) := by
  have hx := List.getElem_mem hi
  have := maskOf_ev l[i] (Nat.le_trans (h.2 _ hx).2 (by decide)) (fun y hy => by have := h.elem hx y hy; omega)
  unfold mk
  rw [getD_get hi]
  exact this
theorem and_eq_nat {a b c : Nat} (ha : a < 512) (hb : b < 512) : (Go.bits .and .i64 (a : Int) (b : Int) = (c : Int)) ↔ ((a &&& b == c) = true) := by
  rw [and_nat a b (by omega) (by omega), beq_iff_eq]
  omega
theorem wrap_pred2 {i : Nat} (h : i < 1152921504606846976) (h0 : 0 < i) : wrap64 ((i : Int) - 1) = ((i - 1 : Nat) : Int) := by unfold wrap64; omega
def gmOk (m : Int) (l : List (List Int)) : Bool := inB m 1 9 && (decide (l ≠ []) && ((l.all fun s => decide (s ≠ []) && isSetB s m) && allR (fun i => rises l i && apartI l i) l.length 0))
theorem SetsOk.of {m : Int} {l : List (List Int)} (hm : inB m 1 9 = true) (hs : (l.all fun s => decide (s ≠ []) && isSetB s m) = true) (hb : ∀ x ∈ l, x.length ≤ 1048576) : SetsOk m l := by
  refine ⟨inB_iff.1 hm, fun x hx => ⟨?_, hb x hx⟩⟩
  have := List.all_eq_true.1 hs x hx
  rw [Bool.and_eq_true] at this
  exact this.2
theorem rdOf_get {xs : List Bool} {i : Nat} (h : i < xs.length) : rdOf false xs (i : Int) = xs[i] := by unfold rdOf; rw [Int.toNat_natCast]; exact getD_get h
def tabB (g : Nat → Bool) (n : Nat) : List Bool := (List.range n).map g
theorem tabB_len (g : Nat → Bool) (n : Nat) : (tabB g n).length = n := by simp [tabB]
theorem tabB_get (g : Nat → Bool) (n i : Nat) (h : i < (tabB g n).length) : (tabB g n)[i] = g i := by simp [tabB]
theorem tabB_succ (g : Nat → Bool) (n : Nat) : tabB g (n + 1) = tabB g n ++ [g n] := by simp [tabB, List.range_succ]
theorem tabB_set (g : Nat → Bool) (i : Nat) (b b' : Bool) (l : List Bool) : (tabB g i ++ b :: l).set i b' = tabB g i ++ b' :: l := by
  rw [List.set_append_right _ _ (by rw [tabB_len]; omega), tabB_len, Nat.sub_self]; rfl
theorem tabB_rd (g : Nat → Bool) (i : Nat) (b : Bool) (l : List Bool) : rdOf false (tabB g i ++ b :: l) (i : Int) = b := by
  rw [rdOf_get (by rw [List.length_append, tabB_len, List.length_cons]; omega), List.getElem_append_right (by rw [tabB_len]; omega)]
  simp [tabB_len]
theorem tabB_next (g : Nat → Bool) (i : Nat) (l : List Bool) : tabB g i ++ g i :: l = tabB g (i + 1) ++ l := by rw [tabB_succ, List.append_assoc]; rfl
def winB (l : List (List Int)) (i : Nat) : Bool := l.any fun s => i &&& maskN 0 s == maskN 0 s
def winT (m : Int) (l : List (List Int)) : List Bool := tabB (winB l) (2 ^ m.toNat)
theorem and_self_nat {a b : Nat} (ha : a < 512) (hb : b < 512) : (Go.bits .and .i64 (a : Int) (b : Int) == (b : Int)) = (a &&& b == b) := by
  rw [Bool.eq_iff_iff, ← and_eq_nat ha hb, beq_iff_eq]
theorem pow_le512 {m : Int} (h : 1 ≤ m ∧ m ≤ 9) : 2 ^ m.toNat ≤ 512 := Nat.pow_le_pow_right (n := 2) (by decide) (show m.toNat ≤ 9 by omega)
theorem voAll_nat {m : Int} (h : 1 ≤ m ∧ m ≤ 9) : spec_voAll.f m = some (((2 ^ m.toNat - 1 : Nat) : Int)) := by
  rw [voAll_eq m (by omega)]
  have : 1 ≤ 2 ^ m.toNat := Nat.one_le_two_pow
  congr 1
  rw [Int.ofNat_sub this]; simp
theorem gmWins_l1 (n i : Nat) (m : Int) (l : List (List Int)) (hl : l.length ≤ 1048576) (h : SetsOk m l) (hi : i < n) (hn : n ≤ 512) (r : List Bool) (ih : Ev (fun k => spec_gmWins.l0 k l (tabB (winB l) (i + 1) ++ List.replicate (n - (i + 1)) false) (n : Int) ((i + 1 : Nat) : Int)) r) :
    ∀ j, j ≤ l.length → Ev (fun k => spec_gmWins.l1 k l (tabB (winB l) i ++ ((l.take j).any fun s => i &&& maskN 0 s == maskN 0 s) :: List.replicate (n - (i + 1)) false) (i : Int) (n : Int) (i : Int) l (l.length : Int) (j : Int)) r := by
  have hlen : ∀ b : Bool, (tabB (winB l) i ++ b :: List.replicate (n - (i + 1)) false).length = n := fun b => by rw [List.length_append, tabB_len, List.length_cons, List.length_replicate]; omega
  refine ev_range l.length (fun k j => spec_gmWins.l1 k l (tabB (winB l) i ++ ((l.take j).any fun s => i &&& maskN 0 s == maskN 0 s) :: List.replicate (n - (i + 1)) false) (i : Int) (n : Int) (i : Int) l (l.length : Int) (j : Int)) (fun _ => r) ?_ ?_
  · refine ev_succ ?_
    simp only [spec_gmWins.l1]
    refine ev_neg (Int.lt_irrefl _) ?_
    rw [List.take_length, wrap_succ hi (Nat.le_trans hn (by decide))]
    have e : (l.any fun s => i &&& maskN 0 s == maskN 0 s) = winB l i := by unfold winB; rfl
    rw [e, tabB_next]
    exact ih
  · intro j hj ihj
    refine ev_succ ?_
    simp only [spec_gmWins.l1]
    refine ev_pos (by omega) (ev_pos (by omega) (ev_pos (by omega) ?_))
    rw [rdL1_get hj, wrap_succ hj (Nat.le_trans hl (by decide))]
    have hm := (h.masks hj).2
    have hk : mk l j = maskN 0 l[j] := by unfold mk; rw [getD_get hj]
    have hlt := h.lt hj
    rw [hk] at hm hlt
    refine Ev.bind hm (ev_pos (by omega) (ev_pos (by rw [hlen]; omega) ?_))
    rw [tabB_rd, Int.toNat_natCast, tabB_set, tabB_set, and_self_nat (by omega) hlt]
    rw [List.take_succ_eq_append_getElem hj, List.any_append] at ihj
    simp only [List.any_cons, List.any_nil, Bool.or_false] at ihj
    refine ev_bool (fun e => ?_) (fun e => ?_)
    · rw [e, Bool.true_or] at ihj; exact ihj
    · rw [e, Bool.false_or] at ihj; exact ihj
theorem gmWins_l0 (n : Nat) (m : Int) (l : List (List Int)) (hl : l.length ≤ 1048576) (h : SetsOk m l) (hn : n ≤ 512) :
    Ev (fun k => spec_gmWins.l0 k l (List.replicate n false) (n : Int) 0) (tabB (winB l) n) := by
  have := ev_range n (fun k i => spec_gmWins.l0 k l (tabB (winB l) i ++ List.replicate (n - i) false) (n : Int) (i : Int)) (fun _ => tabB (winB l) n) ?_ ?_ 0 (Nat.zero_le _)
  · simpa [tabB] using this
  · refine ev_succ ?_
    simp only [spec_gmWins.l0]
    exact ev_neg (Int.lt_irrefl _) (ev_eqv (Ev.now _) (by simp))
  · intro i hi ih
    refine ev_succ ?_
    simp only [spec_gmWins.l0]
    refine ev_pos (by omega) ?_
    have := gmWins_l1 n i m l hl h hi hn _ ih 0 (Nat.zero_le _)
    rw [show n - i = (n - (i + 1)) + 1 by omega, List.replicate_succ]
    simpa using this
theorem gmWins_ev (m : Int) (l : List (List Int)) (hl : l.length ≤ 1048576) (h : SetsOk m l) : Ev (fun k => spec_gmWins.f k m l) (winT m l) := by
  have hp := pow_le512 h.1
  have h1 : 1 ≤ 2 ^ m.toNat := Nat.one_le_two_pow
  have hw : wrap64 (((2 ^ m.toNat - 1 : Nat) : Int) + 1) = ((2 ^ m.toNat : Nat) : Int) := by
    generalize 2 ^ m.toNat = n at hp h1
    unfold wrap64; omega
  have hl0 := gmWins_l0 (2 ^ m.toNat) m l hl h hp
  unfold spec_gmWins.f winT
  refine ev_bindS (voAll_nat h.1) ?_
  generalize 2 ^ m.toNat = n at *
  rw [hw]
  have hn2 : (n : Int).toNat ≤ 281474976710656 := by rw [Int.toNat_natCast]; exact Nat.le_trans hp (by decide)
  refine ev_pos (Int.natCast_nonneg n) (ev_pos hn2 (ev_bindS rfl ?_))
  simp only [Int.toNat_natCast, List.length_replicate]
  exact hl0
theorem andNot_nat (a b : Nat) (ha : a < 2 ^ 62) (hb : b < 2 ^ 62) : Go.bits .andNot .i64 (a : Int) (b : Int) = ((a ^^^ (a &&& b) : Nat) : Int) := by
  have ha' : a % 2 ^ 64 = a := Nat.mod_eq_of_lt (by omega)
  have hb' : b % 2 ^ 64 = b := Nat.mod_eq_of_lt (by omega)
  have e : a &&& (2 ^ 64 - (b + 1)) = a ^^^ (a &&& b) := by
    refine Nat.eq_of_testBit_eq fun i => ?_
    rw [Nat.testBit_and, Nat.testBit_xor, Nat.testBit_and, Nat.testBit_two_pow_sub_succ (by omega)]
    by_cases hi : i < 64
    · cases a.testBit i <;> cases b.testBit i <;> simp [hi]
    · have : a.testBit i = false := Nat.testBit_lt_two_pow (Nat.lt_of_lt_of_le (show a < 2 ^ 64 by omega) (Nat.pow_le_pow_right (by decide) (by omega)))
      simp [this]
  have h : Go.bits .andNot .i64 (a : Int) (b : Int) = IntKind.i64.wrap ((a &&& (2 ^ 64 - 1 - b % 2 ^ 64) : Nat) : Int) := by
    show IntKind.i64.wrap ((BitVec.ofInt 64 (a : Int) &&& ~~~ (BitVec.ofInt 64 (b : Int))).toNat : Int) = _
    rw [BitVec.ofInt_natCast, BitVec.ofInt_natCast, BitVec.toNat_and, BitVec.toNat_not, BitVec.toNat_ofNat, BitVec.toNat_ofNat, ha']
  rw [h, hb', show 2 ^ 64 - 1 - b = 2 ^ 64 - (b + 1) by omega, e]
  have : a ^^^ (a &&& b) < 2 ^ 62 := Nat.xor_lt_two_pow ha (Nat.and_lt_two_pow _ hb)
  exact wraps_i64 _ (by omega) (by exact_mod_cast this)
def bitB (m i : Nat) : Bool := m >>> i % 2 == 1
theorem has_eq (m i : Nat) (hm : m < 65536) (hi : i ≤ 64) : impl_has.f (m : Int) (i : Int) = some (bitB m i) := by
  unfold impl_has.f bitB
  have h2 : m >>> i < 2 ^ 62 := shr_lt _ _ (by omega)
  rw [if_pos (by omega), shr_nat _ _ hi, and_one_nat _ h2]
  congr 1
  rw [Bool.eq_iff_iff, beq_iff_eq, beq_iff_eq]
  omega
theorem tmod_bit (m i : Nat) (hi : i ≤ 64) : Int.tmod (shr .i64 (m : Int) (i : Int)) 2 = 0 ↔ bitB m i = false := by
  rw [shr_nat _ _ hi, tmod_two]
  unfold bitB
  rw [beq_eq_false_iff_ne]
  omega
theorem tmod_bit1 (m i : Nat) (hi : i ≤ 64) : Int.tmod (shr .i64 (m : Int) (i : Int)) 2 = 1 ↔ bitB m i = true := by
  rw [shr_nat _ _ hi, tmod_two]
  unfold bitB
  rw [beq_iff_eq]
  omega
theorem fin512 {P : Nat → Nat → Prop} [∀ m i, Decidable (P m i)] (h : ((List.range 512).all fun m => (List.range 9).all fun i => decide (P m i)) = true) : ∀ m i, m < 512 → i < 9 → P m i := fun m i hm hi =>
  of_decide_eq_true (List.all_eq_true.1 (List.all_eq_true.1 h m (List.mem_range.2 hm)) i (List.mem_range.2 hi))
theorem or_bit : ∀ m i, m < 512 → i < 9 → m ||| 2 ^ i = if bitB m i = true then m else m + 2 ^ i := fin512 (by decide +kernel)
theorem rdOf_tab {g : Nat → Bool} {N i : Nat} (h : i < N) : rdOf false (tabB g N) (i : Int) = g i := by
  rw [rdOf_get (by rw [tabB_len]; exact h), tabB_get]
theorem pow_lt9 {i n : Nat} (h : i < n) (hn : n ≤ 9) : 2 ^ i < 2 ^ n ∧ 2 ^ n ≤ 512 :=
  ⟨Nat.pow_lt_pow_right (by decide) h, Nat.pow_le_pow_right (n := 2) (by decide) hn⟩
def setK (m : Nat) : List Int := ((List.range 4).filter fun i => m >>> i % 2 == 1).map fun (i : Nat) => (i : Int)
def lookT : Nat → List Bool → Option (List (List Bool))
  | 0, p => some (if rdOf false p ((p.length - 1 : Nat) : Int) = false then [] else if rdOf false p 0 = true then [] else [p])
  | d + 1, p => (mustO p (setK p.length) false).bind fun m => (lookT d (p ++ [true])).bind fun l1 => if m = true then some l1 else (lookT d (p ++ [false])).bind fun l2 => some (l1 ++ l2)
def tabsK (n : Nat) : List (List Bool) := (lookT (2 ^ n) []).getD []
def leastK (t : List Bool) : List (List Int) := sortL lexB (((List.range t.length).filter fun m => t.getD m false && (List.range 4).all fun i => !(m >>> i % 2 == 1 && t.getD (m - 2 ^ i) false)).map setK)
def gamesK (n : Nat) : List (List (List Int)) := sortL lexG ((tabsK n).map leastK)
theorem voList_K : ∀ m : Nat, m < 16 → spec_voList.f 40 (m : Int) = some (setK m) := by decide +kernel
theorem look_K : ∀ n, n < 5 → (lookT (2 ^ n) []).isSome = true := by decide +kernel
theorem gmOf_K : ∀ n : Nat, n < 5 → 1 ≤ n → ∀ t ∈ tabsK n, (spec_gmOf.f 100 n t) = some ((n : Int), leastK t) := by decide +kernel
theorem win_K : ∀ n : Nat, n < 5 → 1 ≤ n → ∀ t ∈ tabsK n, winT n (leastK t) = t := by decide +kernel
theorem games_K1 : (impl_allGames.f 1200 1).map (·.map fun g => (g.f0, g.f1)) = some ((gamesK 1).map fun s => (1, s)) := by decide +kernel
theorem games_K2 : (impl_allGames.f 1200 2).map (·.map fun g => (g.f0, g.f1)) = some ((gamesK 2).map fun s => (2, s)) := by decide +kernel
theorem games_K3 : (impl_allGames.f 1200 3).map (·.map fun g => (g.f0, g.f1)) = some ((gamesK 3).map fun s => (3, s)) := by decide +kernel
theorem games_K4 : (impl_allGames.f 1200 4).map (·.map fun g => (g.f0, g.f1)) = some ((gamesK 4).map fun s => (4, s)) := by decide +kernel
theorem len_K : ∀ n : Nat, n < 5 → 1 ≤ n → ((tabsK n).length ≤ 1000000 ∧ ∀ t ∈ tabsK n, t.length = 2 ^ n) := by decide +kernel
theorem sets_K : ∀ n : Nat, n < 5 → 1 ≤ n → ∀ t ∈ tabsK n, (leastK t).length ≤ 16 ∧ ∀ s ∈ leastK t, isSetB s n = true ∧ s.length ≤ 16 := by decide +kernel
theorem games_K : ∀ n : Nat, n < 5 → 1 ≤ n → (impl_allGames.f 1200 n).map (·.map fun g => (g.f0, g.f1)) = some ((gamesK n).map fun s => ((n : Int), s))
  | 1, _, _ => games_K1
  | 2, _, _ => games_K2
  | 3, _, _ => games_K3
  | 4, _, _ => games_K4
  | n + 5, h, _ => absurd h (by omega)
  | 0, _, h => absurd h (by decide)
def setsM (q : Nat → Bool) (N : Nat) : List (List Int) := ((List.range N).filter q).map setL
theorem setsM_len (q : Nat → Bool) (N : Nat) : (setsM q N).length ≤ N := by unfold setsM; rw [List.length_map]; exact Nat.le_trans (List.length_filter_le _ _) (by simp)
theorem setsM_mem {q : Nat → Bool} {N : Nat} {x : List Int} (h : x ∈ setsM q N) : x.length ≤ 16 := by
  obtain ⟨m, _, rfl⟩ := List.mem_map.1 h
  exact bitsL_len _ _ _
theorem setsM_succ (q : Nat → Bool) (i : Nat) : setsM q (i + 1) = setsM q i ++ if q i = true then [setL i] else [] := by
  unfold setsM
  rw [List.range_succ, List.filter_append, List.map_append]
  congr 1
  by_cases h : q i = true
  · rw [if_pos h, List.filter_cons_of_pos h]; rfl
  · rw [if_neg h, List.filter_cons_of_neg h]; rfl
theorem sets_fix (n : Int) (l : List Bool) (N : Nat) (hN : l.length = N) (hN2 : N ≤ 512) (p : Int → Option Bool) (q : Nat → Bool) (h : ∀ m, m < N → p (m : Int) = some (q m)) : Ev (fun k => impl_votes_sets.f k n l p) (sortL lexB (setsM q N)) := by
  unfold impl_votes_sets.f
  rw [hN]
  refine ev_range N (fun k i => impl_votes_sets.l0 p k (setsM q i) (N : Int) (i : Int)) (fun _ => sortL lexB (setsM q N)) ?_ ?_ 0 (Nat.zero_le _)
  · refine ev_succ ?_
    simp only [impl_votes_sets.l0]
    refine ev_neg (by omega) (ev_bindS (show sortSets.f (setsM q N) = some (sortL lexB (setsM q N)) by
      unfold sortSets.f
      rw [if_pos]
      rw [Bool.and_eq_true]
      exact ⟨decide_eq_true (by have := setsM_len q N; omega), List.all_eq_true.2 fun x hx => decide_eq_true (Nat.le_trans (setsM_mem hx) (by decide))⟩) (Ev.now _))
  · intro i hi ih
    refine ev_succ ?_
    simp only [impl_votes_sets.l0]
    rw [wrap_succ hi (by omega)]
    rw [setsM_succ] at ih
    refine ev_pos (by omega) (ev_bindS (h i hi) (ev_bool (fun e => ?_) (fun e => ?_)))
    · rw [if_pos e] at ih
      exact Ev.bind (setOf_ev i (by omega)) (ev_pos (by have := setsM_len q i; omega) ih)
    · rw [if_neg (by rw [e]; decide), List.append_nil] at ih
      exact ih
def mkSS : Int → List (List Int) → List (List Int)
  | _, [] => []
  | m, x :: xs => iotaL m x.length :: mkSS (m + x.length) xs
def totS : Int → List (List Int) → Int
  | m, [] => m
  | m, x :: xs => totS (m + x.length) xs
theorem totS_ge : ∀ (l : List (List Int)) (m : Int), m ≤ totS m l
  | [], m => Int.le_refl m
  | x :: xs, m => by
    have := totS_ge xs (m + x.length)
    unfold totS
    omega
theorem markIntSS_l0 : ∀ (rest pre : List (List Int)) (m : Int), pre.length + rest.length ≤ 1048576 → (∀ x ∈ rest, x.length ≤ 1048576) → 0 ≤ m → m + 1048576 * rest.length ≤ 1152921504606846976 → Ev (fun k => laws_markIntSS.l0 k (pre ++ rest) m (pre.length : Int)) (totS m rest, pre ++ mkSS m rest)
  | [], pre, m, hl, hx, h0, hm => by
    refine ev_succ ?_
    simp only [laws_markIntSS.l0, List.append_nil]
    exact ev_neg (by omega) (ev_eqv (Ev.now _) (by simp [totS, mkSS]))
  | x :: xs, pre, m, hl, hx, h0, hm => by
    have hxl := hx x (List.mem_cons_self ..)
    rw [List.length_cons] at hl hm
    have ih := markIntSS_l0 xs (pre ++ [iotaL m x.length]) (m + x.length) (by rw [List.length_append, List.length_singleton]; omega) (fun y hy => hx y (List.mem_cons_of_mem _ hy)) (by omega) (by omega)
    refine ev_succ ?_
    simp only [laws_markIntSS.l0, Int.toNat_natCast]
    refine ev_pos (by rw [List.length_append, List.length_cons]; omega) (ev_pos (by omega) ?_)
    rw [show (pre ++ x :: xs).getD pre.length [] = x from by simp [List.getD_eq_getElem?_getD]]
    refine Ev.bind (markIntS_ev x m (by omega) (by omega)) ?_
    simp only [show (pre ++ x :: xs).set pre.length (iotaL m x.length) = (pre ++ [iotaL m x.length]) ++ xs from by simp, show wrap64 ((pre.length : Int) + 1) = (((pre ++ [iotaL m x.length]).length : Nat) : Int) from by rw [List.length_append, List.length_singleton]; unfold wrap64; omega]
    exact ev_eqv ih (by simp [totS, mkSS])
theorem markIntSS_ev (l : List (List Int)) (hl : l.length ≤ 1048576) (hx : ∀ x ∈ l, x.length ≤ 1048576) : Ev (fun k => laws_markIntSS.f k l 1) (totS 1 l, mkSS 1 l) := by
  have := markIntSS_l0 l [] 1 (by simpa using hl) hx (by decide) (by omega)
  exact this
def aN (a b : Nat) : Nat := a ^^^ (a &&& b)
def wOf (s t u : Nat) : Nat := (s &&& t) ||| aN (s ||| t) u
def betw (s t u : Nat) : Bool := u &&& (s &&& t) == s &&& t && aN u (s ||| t) == 0
theorem setL_mask_K : ((List.range 512).all fun m => maskN 0 (setL m) == m) = true := by decide +kernel
def ordL (N : Nat) : List Nat := (sortL lexB (setsM (fun _ => true) N)).map (maskN 0)
theorem setL_in_K : ((List.range 512).all fun m => (setL m).all fun x => decide (0 ≤ x ∧ x ≤ 15)) = true := by decide +kernel
theorem setL_mask (m : Nat) (hm : m < 512) : maskN 0 (setL m) = m := by
  have := List.all_eq_true.1 setL_mask_K m (List.mem_range.2 hm)
  simpa using this
theorem ordL_perm (N : Nat) (hN : N ≤ 512) : (ordL N).Perm (List.range N) := by
  unfold ordL
  refine ((sortL_perm lexB _).map (maskN 0)).trans ?_
  unfold setsM
  rw [List.filter_eq_self.2 (fun _ _ => rfl), List.map_map, show (List.range N).map (maskN 0 ∘ setL) = (List.range N).map id from List.map_congr_left fun m hm => setL_mask m (by have := List.mem_range.1 hm; omega), List.map_id]
theorem ordL_len (N : Nat) (hN : N ≤ 512) : (ordL N).length = N := by rw [(ordL_perm N hN).length_eq, List.length_range]
theorem ordL_lt (N : Nat) (hN : N ≤ 512) {x : Nat} (h : x ∈ ordL N) : x < N := List.mem_range.1 ((ordL_perm N hN).mem_iff.1 h)
def cI (l : List Nat) : List Int := l.map fun (m : Nat) => (m : Int)
theorem cI_len (l : List Nat) : (cI l).length = l.length := by unfold cI; rw [List.length_map]
theorem rd_cI {l : List Nat} {i : Nat} (h : i < l.length) : rd (cI l) (i : Int) = (l[i] : Int) := by
  rw [rd_get (by rw [cI_len]; exact h)]
  unfold cI
  rw [List.getElem_map]
theorem ordered_ev (g : Nat → Bool) (n : Nat) (hn : n ≤ 9) : Ev (fun k => impl_votes_ordered.f k (n : Int) (tabB g (2 ^ n))) (cI (ordL (2 ^ n))) := by
  have hN : 2 ^ n ≤ 512 := Nat.pow_le_pow_right (by decide) hn
  unfold impl_votes_ordered.f setsAll.f
  refine Ev.bind (sets_fix (n : Int) (tabB g (2 ^ n)) (2 ^ n) (tabB_len _ _) hN (fun _ => some true) (fun _ => true) (fun _ _ => rfl)) ?_
  have hp := sortL_perm lexB (setsM (fun _ => true) (2 ^ n))
  have hin : ∀ x ∈ sortL lexB (setsM (fun _ => true) (2 ^ n)), x.length ≤ 16 ∧ ∀ y ∈ x, 0 ≤ y ∧ y ≤ 15 := by
    intro x hx
    obtain ⟨m, hm, rfl⟩ := List.mem_map.1 (hp.mem_iff.1 hx)
    have hm2 := List.mem_range.1 (List.mem_filter.1 hm).1
    refine ⟨bitsL_len _ _ _, fun y hy => ?_⟩
    exact of_decide_eq_true (List.all_eq_true.1 (List.all_eq_true.1 setL_in_K m (List.mem_range.2 (by omega))) y hy)
  have hl : (sortL lexB (setsM (fun _ => true) (2 ^ n))).length ≤ 512 := by rw [hp.length_eq]; exact Nat.le_trans (setsM_len _ _) hN
  unfold ordL cI
  generalize sortL lexB (setsM (fun _ => true) (2 ^ n)) = S at hin hl
  rw [List.map_map]
  refine ev_range S.length (fun k i => impl_votes_ordered.l0 k ((S.take i).map ((fun (m : Nat) => (m : Int)) ∘ maskN 0)) S (S.length : Int) (i : Int)) (fun _ => S.map ((fun (m : Nat) => (m : Int)) ∘ maskN 0)) ?_ ?_ 0 (Nat.zero_le _)
  · refine ev_succ ?_
    simp only [impl_votes_ordered.l0, List.take_length]
    exact ev_neg (by omega) (Ev.now _)
  · intro i hi ih
    obtain ⟨h1, h2⟩ := hin _ (List.getElem_mem hi)
    refine ev_succ ?_
    simp only [impl_votes_ordered.l0]
    rw [rdL1_get hi, wrap_succ hi (by omega)]
    rw [List.take_succ_eq_append_getElem hi, List.map_append] at ih
    exact ev_pos (by omega) (ev_pos (by omega) (ev_pos (by omega) (Ev.bind (maskOf_ev S[i] (by omega) h2).1 (ev_pos (by rw [List.length_map, List.length_take]; omega) ih))))
theorem index_ex (l : List Int) (x : Int) (hl : l.length ≤ 1000) : ∃ v : Int, (v ≥ 0 ↔ x ∈ l) ∧ Ev (fun k => slices_Index_int_int.f k l x) v := by
  unfold slices_Index_int_int.f
  have key : ∀ d i : Nat, i + d = l.length → ∃ v : Int, (v ≥ 0 ↔ x ∈ l.drop i) ∧ Ev (fun k => slices_Index_int_int.l0 k l x (l.length : Int) (i : Int)) v := by
    intro d
    induction d with
    | zero =>
      intro i hi
      refine ⟨-1, ?_, ev_succ ?_⟩
      · rw [List.drop_of_length_le (by omega)]; simp
      · simp only [slices_Index_int_int.l0]
        exact ev_neg (by omega) (Ev.now _)
    | succ d ih =>
      intro i hi
      have hil : i < l.length := by omega
      obtain ⟨v, h1, h2⟩ := ih (i + 1) (by omega)
      rw [List.drop_eq_getElem_cons hil]
      by_cases e : x = l[i]
      · refine ⟨(i : Int), ?_, ev_succ ?_⟩
        · rw [e]; exact ⟨fun _ => List.mem_cons_self .., fun _ => by omega⟩
        · simp only [slices_Index_int_int.l0]
          rw [rd_get hil]
          exact ev_pos (by omega) (ev_pos (by omega) (ev_pos (by omega) (ev_pos e (Ev.now _))))
      · refine ⟨v, ?_, ev_succ ?_⟩
        · rw [h1, List.mem_cons]; simp [e]
        · simp only [slices_Index_int_int.l0]
          rw [rd_get hil, wrap_succ hil (by omega)]
          exact ev_pos (by omega) (ev_pos (by omega) (ev_pos (by omega) (ev_neg e h2)))
  obtain ⟨v, h1, h2⟩ := key l.length 0 (Nat.zero_add _)
  exact ⟨v, by simpa using h1, h2⟩
theorem contains_ev (l : List Nat) (x : Nat) (hl : l.length ≤ 1000) : Ev (fun k => slices_Contains_int_int.f k (cI l) (x : Int)) (l.contains x) := by
  obtain ⟨v, h1, h2⟩ := index_ex (cI l) (x : Int) (by rw [cI_len]; exact hl)
  unfold slices_Contains_int_int.f
  refine Ev.bind h2 (ev_eqv (Ev.now _) ?_)
  rw [Bool.eq_iff_iff, decide_eq_true_eq, h1, List.contains_iff_mem]
  unfold cI
  rw [List.mem_map]
  constructor
  · rintro ⟨a, ha, h⟩
    have e : a = x := by omega
    rw [← e]; exact ha
  · intro h
    exact ⟨x, h, rfl⟩
theorem wOf_lt {n s t u : Nat} (hs : s < 2 ^ n) (ht : t < 2 ^ n) : wOf s t u < 2 ^ n := by
  unfold wOf aN
  exact Nat.or_lt_two_pow (Nat.and_lt_two_pow _ ht) (Nat.xor_lt_two_pow (Nat.or_lt_two_pow hs ht) (Nat.lt_of_le_of_lt Nat.and_le_left (Nat.or_lt_two_pow hs ht)))
theorem add_lt (m i n : Nat) (hn : n ≤ 9) (hm : m < 2 ^ n) (hi : i < n) (hb : bitB m i = false) : m + 2 ^ i < 2 ^ n := by
  have hp := (pow_lt9 hi hn).2
  have := Nat.or_lt_two_pow hm (pow_lt9 hi hn).1
  rw [or_bit m i (by omega) (by omega), if_neg (by simp [hb])] at this
  exact this
def allB (p : Nat → Bool) (n m : Nat) : Bool := (List.range (n - m)).all fun j => p (m + j)
theorem allB_end (p : Nat → Bool) (n : Nat) : allB p n n = true := by simp [allB]
theorem allB_step (p : Nat → Bool) (n m : Nat) (h : m < n) : allB p n m = (p m && allB p n (m + 1)) := by
  obtain ⟨d, rfl⟩ := Nat.exists_eq_add_of_lt h
  unfold allB
  rw [show m + d + 1 - m = d + 1 by omega, show m + d + 1 - (m + 1) = d by omega, List.range_succ_eq_map, List.all_cons, List.all_map]
  simp only [Nat.add_zero, Function.comp_def, Nat.succ_eq_add_one, Nat.add_assoc, Nat.add_comm, Nat.add_left_comm]
def wsB (g : Nat → Bool) (i j m : Nat) : Bool := !(!bitB m i && !bitB m j && g (m + 2 ^ j) && !g (m + 2 ^ i))
theorem wrap_nat (x : Nat) (h : x < 1152921504606846976) : wrap64 (x : Int) = (x : Int) := wrap64_id (by omega)
theorem deWorth_ev (g : Nat → Bool) (n i j : Nat) (hn : n ≤ 9) (hi : i < n) (hj : j < n) : Ev (fun k => spec_deWorth.f k (tabB g (2 ^ n)) (i : Int) (j : Int)) (allB (wsB g i j) (2 ^ n) 0) := by
  have hp := (pow_lt9 hi hn).2
  unfold spec_deWorth.f
  rw [tabB_len]
  have := ev_range (2 ^ n) (fun k m => spec_deWorth.l0 k (tabB g (2 ^ n)) (i : Int) (j : Int) ((2 ^ n : Nat) : Int) (m : Int)) (fun m => allB (wsB g i j) (2 ^ n) m) ?_ ?_ 0 (Nat.zero_le _)
  · exact this
  · refine ev_succ ?_
    simp only [spec_deWorth.l0]
    rw [allB_end]
    exact ev_neg (Int.lt_irrefl _) (Ev.now _)
  · intro m hm ih
    refine ev_succ ?_
    simp only [spec_deWorth.l0]
    rw [allB_step _ _ _ hm]
    refine ev_pos (by omega) (ev_pos (by omega) ?_)
    rw [wrap_succ hm (by omega)]
    by_cases e0 : bitB m i = false
    case neg => exact ev_neg (fun h => e0 ((tmod_bit m i (by omega)).1 h)) (by have e := eq_true_of_ne_false e0; simpa [wsB, e] using ih)
    refine ev_pos ((tmod_bit m i (by omega)).2 e0) (ev_pos (by omega) ?_)
    by_cases e2 : bitB m j = false
    case neg => exact ev_neg (fun h => e2 ((tmod_bit m j (by omega)).1 h)) (by have e := eq_true_of_ne_false e2; simpa [wsB, e] using ih)
    refine ev_pos ((tmod_bit m j (by omega)).2 e2) ?_
    have l1 := add_lt m j n hn hm hj e2
    have l2 := add_lt m i n hn hm hi e0
    have w1 : wrap64 ((m : Int) + shl .i64 1 (j : Int)) = ((m + 2 ^ j : Nat) : Int) := by rw [shl_one_nat j (by omega), ← Int.natCast_add]; exact wrap_nat _ (by omega)
    have w2 : wrap64 ((m : Int) + shl .i64 1 (i : Int)) = ((m + 2 ^ i : Nat) : Int) := by rw [shl_one_nat i (by omega), ← Int.natCast_add]; exact wrap_nat _ (by omega)
    rw [w1, w2, tabB_len, rdOf_tab l1, rdOf_tab l2]
    refine ev_pos (Int.natCast_nonneg _) (ev_pos (Int.ofNat_lt.2 l1) ?_)
    refine ev_bool (fun e3 => ?_) (fun e3 => by simpa [wsB, e3] using ih)
    refine ev_pos (Int.natCast_nonneg _) (ev_pos (Int.ofNat_lt.2 l2) ?_)
    refine ev_bool (fun e4 => by simpa [wsB, e4] using ih) (fun e4 => ?_)
    simpa [wsB, e0, e2, e3, e4] using (Ev.now _)
def resT (o : Option (List (List Int) × List (List Int))) : List (List Int) × List (List Int) × Bool := match o with
  | some p => (p.1, p.2, true)
  | none => ([], [], false)
def prT (s t u w : Nat) : List (List Int) × List (List Int) := ([setL s, setL t], [setL u, setL w])
def inQ (g : Nat → Bool) (Q : Nat → Nat → Nat → Nat → Bool) (s t u : Nat) (r : List Nat) : Bool := (!g u && betw s t u) && (!g (wOf s t u) && ((u :: r).contains (wOf s t u) && Q s t u (wOf s t u)))
def inT (g : Nat → Bool) (Q : Nat → Nat → Nat → Nat → Bool) (s t : Nat) (rest : Option (List (List Int) × List (List Int))) : List Nat → Option (List (List Int) × List (List Int))
  | [] => rest
  | u :: r => if inQ g Q s t u r = true then some (prT s t u (wOf s t u)) else inT g Q s t rest r
def outT (g : Nat → Bool) (Q : Nat → Nat → Nat → Nat → Bool) (O : List Nat) (s : Nat) (rest : Option (List (List Int) × List (List Int))) : List Nat → Option (List (List Int) × List (List Int))
  | [] => rest
  | t :: r => if (g s && g t) = true then inT g Q s t (outT g Q O s rest r) O else outT g Q O s rest r
def allT (g : Nat → Bool) (Q : Nat → Nat → Nat → Nat → Bool) (O : List Nat) : List Nat → Option (List (List Int) × List (List Int))
  | [] => none
  | s :: r => outT g Q O s (allT g Q O r) (s :: r)
theorem pairs_ev (s t u w : Nat) (h : s < 512 ∧ t < 512 ∧ u < 512 ∧ w < 512) : Ev (fun k => impl_pairs.f k [(s : Int), (t : Int)] [(u : Int), (w : Int)]) (prT s t u w) := by
  have w1 : wrap64 (0 + 1) = 1 := by unfold wrap64; omega
  have w2 : wrap64 (1 + 1) = 2 := by unfold wrap64; omega
  have r1 : rd [(s : Int), (t : Int)] 0 = (s : Int) := rfl
  have r2 : rd [(u : Int), (w : Int)] 0 = (u : Int) := rfl
  have r3 : rd [(s : Int), (t : Int)] 1 = (t : Int) := rfl
  have r4 : rd [(u : Int), (w : Int)] 1 = (w : Int) := rfl
  unfold impl_pairs.f
  refine ev_succ ?_
  simp only [impl_pairs.l0, w1, r1, r2]
  refine ev_pos (by simp) (ev_pos (by simp) (ev_pos (by simp) (Ev.bind (setOf_ev s (by omega)) (ev_pos (by simp) (ev_pos (by simp) (Ev.bind (setOf_ev u (by omega)) (ev_pos (by simp) (ev_succ ?_))))))))
  simp only [impl_pairs.l0, w2, r3, r4]
  refine ev_pos (by simp) (ev_pos (by simp) (ev_pos (by simp) (Ev.bind (setOf_ev t (by omega)) (ev_pos (by simp) (ev_pos (by simp) (Ev.bind (setOf_ev w (by omega)) (ev_pos (by simp) (ev_succ ?_))))))))
  simp only [impl_pairs.l0]
  exact ev_neg (by simp) (ev_eqv (Ev.now _) rfl)
section
variable (P : Int → Int → Int → Int → Option Bool) (Q : Nat → Nat → Nat → Nat → Bool) (hP : ∀ s t u w : Nat, s < 64 ∧ t < 64 ∧ u < 64 ∧ w < 64 → P s t u w = some (Q s t u w)) (g : Nat → Bool) (n : Nat) (hn : n ≤ 6) (O : List Nat) (hO : O.length ≤ 64) (hOl : ∀ x ∈ O, x < 2 ^ n)
section
variable (s t : Nat) (hs : s < 2 ^ n) (ht : t < 2 ^ n) (x18 x27 x26 : Int) (x25 : List Int)
include hP hn hO hOl hs ht
theorem ft_j4 (k : Nat) (hk : k < O.length) (x75 : Bool) (h75 : x75 = !(!g O[k] && betw s t O[k])) (rs : Option (List (List Int) × List (List Int)))
    (hnx : Ev (fun r => impl_votes_firstOfTwo.l2 P r (cI O) (s : Int) (t : Int) (cI O) (O.length : Int) x18 x25 x26 x27 (cI O) (O.length : Int) (wrap64 ((k : Int) + 1)) (n : Int) (tabB g (2 ^ n))) (resT rs)) :
    Ev (fun r => impl_votes_firstOfTwo.j4 P r (cI O) (s : Int) (t : Int) (k : Int) ((O[k] : Nat) : Int) (cI O) (O.length : Int) x18 x25 x26 x27 (cI O) (O.length : Int) (k : Int) x75 (n : Int) (tabB g (2 ^ n))) (resT (if inQ g Q s t O[k] (O.drop (k + 1)) = true then some (prT s t O[k] (wOf s t O[k])) else rs)) := by
  have hp : 2 ^ n ≤ 64 := Nat.le_trans (Nat.pow_le_pow_right (n := 2) (by decide) hn) (by decide)
  have hu : O[k] < 2 ^ n := hOl _ (List.getElem_mem hk)
  have hdr : O.drop k = O[k] :: O.drop (k + 1) := List.drop_eq_getElem_cons hk
  have hlen : (O.drop k).length ≤ 64 := by rw [List.length_drop]; omega
  have hd : (cI O).drop (k : Int).toNat = cI (O.drop k) := by unfold cI; rw [Int.toNat_natCast, List.map_drop]
  rw [hdr] at hd hlen
  unfold inQ
  generalize O[k] = u at hu h75 hd hlen
  have hw := wOf_lt (u := u) hs ht
  have hst : s ||| t < 2 ^ n := Nat.or_lt_two_pow hs ht
  have hsa : s &&& t < 2 ^ n := Nat.and_lt_two_pow _ ht
  have hx : aN (s ||| t) u < 2 ^ n := Nat.xor_lt_two_pow hst (Nat.lt_of_le_of_lt Nat.and_le_left hst)
  have e : Go.bits .or .i64 (Go.bits .and .i64 (s : Int) (t : Int)) (Go.bits .andNot .i64 (Go.bits .or .i64 (s : Int) (t : Int)) (u : Int)) = ((wOf s t u : Nat) : Int) := by
    rw [and_nat s t (by omega) (by omega), or_nat s t (by omega) (by omega), andNot_nat (s ||| t) u (by omega) (by omega)]
    exact or_nat (s &&& t) (aN (s ||| t) u) (by omega) (by omega)
  refine ev_succ ?_
  simp only [impl_votes_firstOfTwo.j4, e]
  refine ev_bool (fun e1 => ?_) (fun e1 => ?_)
  · refine ev_eqv hnx ?_
    rw [h75] at e1
    rw [show (!g u && betw s t u) = false from by cases h : (!g u && betw s t u) with
      | false => rfl
      | true => rw [h] at e1; cases e1]
    simp
  · have hb : (!g u && betw s t u) = true := by
      rw [h75] at e1
      cases h : (!g u && betw s t u) with
      | true => rfl
      | false => rw [h] at e1; cases e1
    rw [hb, Bool.true_and, tabB_len, rdOf_tab hw]
    refine ev_pos (Int.natCast_nonneg _) (ev_pos (Int.ofNat_lt.2 hw) (ev_bool (fun e2 => ?_) (fun e2 => ?_)))
    · exact ev_eqv hnx (by rw [e2]; simp)
    · rw [e2, Bool.not_false, Bool.true_and]
      refine ev_pos (by omega) (ev_pos (by rw [cI_len]; omega) ?_)
      rw [hd]
      refine Ev.bind (contains_ev (u :: O.drop (k + 1)) (wOf s t u) (by omega)) (ev_bool (fun e3 => ?_) (fun e3 => ?_))
      · rw [e3, Bool.true_and]
        refine ev_bindS (hP s t u (wOf s t u) ⟨by omega, by omega, by omega, by omega⟩) (ev_bool (fun e4 => ?_) (fun e4 => ?_))
        · rw [e4, if_pos rfl]
          exact Ev.bind (pairs_ev s t u (wOf s t u) ⟨by omega, by omega, by omega, by omega⟩) (Ev.now _)
        · exact ev_eqv hnx (by rw [e4]; simp)
      · exact ev_eqv hnx (by rw [e3]; simp)
theorem ft_l2 (rest : Option (List (List Int) × List (List Int))) (hnx : Ev (fun r => impl_votes_firstOfTwo.l1 P r (cI O) (s : Int) (cI O) (O.length : Int) x18 x25 x26 (wrap64 (x27 + 1)) (n : Int) (tabB g (2 ^ n))) (resT rest)) :
    ∀ d k : Nat, k + d = O.length → Ev (fun r => impl_votes_firstOfTwo.l2 P r (cI O) (s : Int) (t : Int) (cI O) (O.length : Int) x18 x25 x26 x27 (cI O) (O.length : Int) (k : Int) (n : Int) (tabB g (2 ^ n))) (resT (inT g Q s t rest (O.drop k))) := by
  have hp : 2 ^ n ≤ 64 := Nat.le_trans (Nat.pow_le_pow_right (n := 2) (by decide) hn) (by decide)
  intro d
  induction d with
  | zero =>
    intro k hk
    obtain rfl : k = O.length := by omega
    refine ev_succ ?_
    simp only [impl_votes_firstOfTwo.l2]
    rw [List.drop_length]
    exact ev_neg (Int.lt_irrefl _) hnx
  | succ d ih =>
    intro k hk
    have hkl : k < O.length := by omega
    have hih := ih (k + 1) (by omega)
    have hw : wrap64 ((k : Int) + 1) = ((k + 1 : Nat) : Int) := wrap_succ hkl (by omega)
    rw [← hw] at hih
    have hj := fun x75 h75 => ft_j4 P Q hP g n hn O hO hOl s t hs ht x18 x27 x26 x25 k hkl x75 h75 _ hih
    have hu : O[k] < 2 ^ n := hOl _ (List.getElem_mem hkl)
    have hr : rd (cI O) (k : Int) = ((O[k] : Nat) : Int) := rd_cI hkl
    rw [List.drop_eq_getElem_cons hkl]
    refine ev_succ ?_
    simp only [impl_votes_firstOfTwo.l2, hr, inT]
    generalize O[k] = u at hu hj
    have hst : s ||| t < 2 ^ n := Nat.or_lt_two_pow hs ht
    have hsa : s &&& t < 2 ^ n := Nat.and_lt_two_pow _ ht
    rw [tabB_len, rdOf_tab hu, cI_len]
    refine ev_pos (by omega) (ev_pos (by omega) (ev_pos (by omega) (ev_pos (Int.natCast_nonneg _) (ev_pos (Int.ofNat_lt.2 hu) (ev_bool (fun e1 => ?_) (fun e1 => ?_))))))
    · exact hj true (by rw [e1]; rfl)
    · rw [and_nat s t (by omega) (by omega), and_nat u (s &&& t) (by omega) (by omega), or_nat s t (by omega) (by omega), andNot_nat u (s ||| t) (by omega) (by omega)]
      by_cases e2 : u &&& (s &&& t) = s &&& t
      · refine ev_pos (by rw [e2]) (hj _ ?_)
        rw [e1]
        unfold betw aN
        rw [e2]
        simp only [Bool.not_false, Bool.true_and, beq_self_eq_true]
        rw [Bool.eq_iff_iff]
        simp
      · refine ev_neg (by omega) (hj true ?_)
        rw [e1]
        unfold betw
        rw [show (u &&& (s &&& t) == s &&& t) = false from by simpa using e2]
        rfl
end
include hP hn hO hOl
theorem ft_l1 (s : Nat) (hs : s < 2 ^ n) (x18 : Int) (T : List Nat) (hT : T.length ≤ 64) (hTl : ∀ x ∈ T, x < 2 ^ n) (rest : Option (List (List Int) × List (List Int)))
    (hnx : Ev (fun r => impl_votes_firstOfTwo.l0 P r (cI O) (cI O) (O.length : Int) (wrap64 (x18 + 1)) (n : Int) (tabB g (2 ^ n))) (resT rest)) :
    ∀ d j : Nat, j + d = T.length → Ev (fun r => impl_votes_firstOfTwo.l1 P r (cI O) (s : Int) (cI O) (O.length : Int) x18 (cI T) (T.length : Int) (j : Int) (n : Int) (tabB g (2 ^ n))) (resT (outT g Q O s rest (T.drop j))) := by
  intro d
  induction d with
  | zero =>
    intro j hj
    obtain rfl : j = T.length := by omega
    refine ev_succ ?_
    simp only [impl_votes_firstOfTwo.l1]
    rw [List.drop_length]
    exact ev_neg (Int.lt_irrefl _) hnx
  | succ d ih =>
    intro j hj
    have hjl : j < T.length := by omega
    have hih := ih (j + 1) (by omega)
    have hw : wrap64 ((j : Int) + 1) = ((j + 1 : Nat) : Int) := wrap_succ hjl (by omega)
    rw [← hw] at hih
    have ht : T[j] < 2 ^ n := hTl _ (List.getElem_mem hjl)
    have hr : rd (cI T) (j : Int) = ((T[j] : Nat) : Int) := rd_cI hjl
    have h2 : ∀ x44 : Bool, x44 = !(g s && g T[j]) → Ev (fun r => impl_votes_firstOfTwo.j2 P r (cI O) (s : Int) ((T[j] : Nat) : Int) (cI O) (O.length : Int) x18 (cI T) (T.length : Int) (j : Int) x44 (n : Int) (tabB g (2 ^ n))) (resT (outT g Q O s rest (T[j] :: T.drop (j + 1)))) := by
      intro x44 hx
      refine ev_succ ?_
      simp only [impl_votes_firstOfTwo.j2, outT]
      refine ev_bool (fun e => ?_) (fun e => ?_)
      · refine ev_eqv hih ?_
        have : (g s && g T[j]) = false := by
          rw [hx] at e
          cases h : (g s && g T[j]) with
          | false => rfl
          | true => rw [h] at e; cases e
        rw [this]; rfl
      · have : (g s && g T[j]) = true := by
          rw [hx] at e
          cases h : (g s && g T[j]) with
          | true => rfl
          | false => rw [h] at e; cases e
        rw [cI_len]
        refine ev_eqv (ft_l2 P Q hP g n hn O hO hOl s T[j] hs ht x18 (j : Int) (T.length : Int) (cI T) _ hih O.length 0 (Nat.zero_add _)) ?_
        rw [this, if_pos rfl, List.drop_zero]
    rw [List.drop_eq_getElem_cons hjl]
    refine ev_succ ?_
    simp only [impl_votes_firstOfTwo.l1, hr]
    rw [tabB_len, rdOf_tab hs, rdOf_tab ht, cI_len]
    refine ev_pos (by omega) (ev_pos (by omega) (ev_pos (by omega) (ev_pos (Int.natCast_nonneg _) (ev_pos (Int.ofNat_lt.2 hs) (ev_bool (fun e => ?_) (fun e => ?_))))))
    · exact ev_pos (Int.natCast_nonneg _) (ev_pos (Int.ofNat_lt.2 ht) (h2 _ (by rw [e]; simp)))
    · exact h2 _ (by rw [e]; simp)
theorem ft_l0 : ∀ d i : Nat, i + d = O.length → Ev (fun k => impl_votes_firstOfTwo.l0 P k (cI O) (cI O) (O.length : Int) (i : Int) (n : Int) (tabB g (2 ^ n))) (resT (allT g Q O (O.drop i))) := by
  intro d
  induction d with
  | zero =>
    intro i hi
    obtain rfl : i = O.length := by omega
    refine ev_succ ?_
    simp only [impl_votes_firstOfTwo.l0]
    rw [List.drop_length]
    exact ev_neg (Int.lt_irrefl _) (Ev.now _)
  | succ d ih =>
    intro i hi
    have hil : i < O.length := by omega
    have hih := ih (i + 1) (by omega)
    have hw : wrap64 ((i : Int) + 1) = ((i + 1 : Nat) : Int) := wrap_succ hil (by omega)
    rw [← hw] at hih
    have hr : rd (cI O) (i : Int) = ((O[i] : Nat) : Int) := rd_cI hil
    have hd : (cI O).drop (i : Int).toNat = cI (O.drop i) := by unfold cI; rw [Int.toNat_natCast, List.map_drop]
    have h1 := ft_l1 P Q hP g n hn O hO hOl O[i] (hOl _ (List.getElem_mem hil)) (i : Int) (O.drop i) (by rw [List.length_drop]; omega) (fun x hx => hOl x (List.mem_of_mem_drop hx)) _ hih (O.drop i).length 0 (Nat.zero_add _)
    refine ev_succ ?_
    simp only [impl_votes_firstOfTwo.l0, hr, hd, Option.bind_some, cI_len]
    refine ev_pos (by omega) (ev_pos (by omega) (ev_pos (by omega) (ev_pos (by omega) (ev_eqv h1 ?_))))
    rw [List.drop_zero, List.drop_eq_getElem_cons hil]
    rfl
end
theorem firstOf_ev (P : Int → Int → Int → Int → Option Bool) (Q : Nat → Nat → Nat → Nat → Bool) (hP : ∀ s t u w : Nat, s < 64 ∧ t < 64 ∧ u < 64 ∧ w < 64 → P s t u w = some (Q s t u w)) (g : Nat → Bool) (n : Nat) (hn : n ≤ 6) :
    Ev (fun k => impl_votes_firstOfTwo.f k (n : Int) (tabB g (2 ^ n)) P) (resT (allT g Q (ordL (2 ^ n)) (ordL (2 ^ n)))) := by
  have hp : 2 ^ n ≤ 64 := Nat.le_trans (Nat.pow_le_pow_right (n := 2) (by decide) hn) (by decide)
  have hO : (ordL (2 ^ n)).length ≤ 64 := by rw [ordL_len _ (by omega)]; omega
  have hOl : ∀ x ∈ ordL (2 ^ n), x < 2 ^ n := fun x hx => ordL_lt _ (by omega) hx
  unfold impl_votes_firstOfTwo.f
  refine Ev.bind (ordered_ev g n (by omega)) ?_
  rw [cI_len]
  generalize ordL (2 ^ n) = O at hO hOl
  have := ft_l0 P Q hP g n hn O hO hOl O.length 0 (Nat.zero_add _)
  rw [List.drop_zero] at this
  exact this
def liI (g : Nat → Bool) (Q : Nat → Nat → Nat → Nat → Bool) (s t : Nat) : List Nat → List (List (List Int) × List (List Int))
  | [] => []
  | u :: r => (if inQ g Q s t u r = true then [prT s t u (wOf s t u)] else []) ++ liI g Q s t r
def liO (g : Nat → Bool) (Q : Nat → Nat → Nat → Nat → Bool) (O : List Nat) (s : Nat) : List Nat → List (List (List Int) × List (List Int))
  | [] => []
  | t :: r => (if (g s && g t) = true then liI g Q s t O else []) ++ liO g Q O s r
def liA (g : Nat → Bool) (Q : Nat → Nat → Nat → Nat → Bool) (O : List Nat) : List Nat → List (List (List Int) × List (List Int))
  | [] => []
  | s :: r => liO g Q O s (s :: r) ++ liA g Q O r
section
variable (g : Nat → Bool) (Q : Nat → Nat → Nat → Nat → Bool) (O : List Nat)
theorem inT_head (s t : Nat) (rest : Option (List (List Int) × List (List Int))) : ∀ l, inT g Q s t rest l = ((liI g Q s t l).head?).or rest
  | [] => by simp [inT, liI]
  | u :: r => by
    unfold inT liI
    by_cases e : inQ g Q s t u r = true
    · rw [if_pos e, if_pos e]; rfl
    · rw [if_neg e, if_neg e, List.nil_append]; exact inT_head s t rest r
theorem outT_head (s : Nat) (rest : Option (List (List Int) × List (List Int))) : ∀ l, outT g Q O s rest l = ((liO g Q O s l).head?).or rest
  | [] => by simp [outT, liO]
  | t :: r => by
    unfold outT liO
    have ih := outT_head s rest r
    by_cases e : (g s && g t) = true
    · rw [if_pos e, if_pos e, inT_head, ih, List.head?_append, Option.or_assoc]
    · rw [if_neg e, if_neg e, List.nil_append]; exact ih
theorem allT_head : ∀ l, allT g Q O l = (liA g Q O l).head?
  | [] => rfl
  | s :: r => by
    unfold allT liA
    rw [outT_head, allT_head r, List.head?_append]
theorem liI_mem {s t : Nat} {c : List (List Int) × List (List Int)} : ∀ l, c ∈ liI g Q s t l ↔ ∃ a u r, l = a ++ u :: r ∧ inQ g Q s t u r = true ∧ c = prT s t u (wOf s t u)
  | [] => by simp [liI]
  | v :: l => by
    have ih := liI_mem (s := s) (t := t) (c := c) l
    unfold liI
    rw [List.mem_append, ih]
    constructor
    · rintro (h | ⟨a, u, r, h1, h2, h3⟩)
      · by_cases e : inQ g Q s t v l = true
        · rw [if_pos e, List.mem_singleton] at h; exact ⟨[], v, l, rfl, e, h⟩
        · rw [if_neg e] at h; cases h
      · exact ⟨v :: a, u, r, by rw [h1]; rfl, h2, h3⟩
    · rintro ⟨a, u, r, h1, h2, h3⟩
      cases a with
      | nil =>
        injection h1 with h4 h5; subst h4; subst h5
        left; rw [if_pos h2, h3]; exact List.mem_cons_self ..
      | cons b a =>
        injection h1 with h4 h5
        exact .inr ⟨a, u, r, h5, h2, h3⟩
theorem liO_mem {s : Nat} {c : List (List Int) × List (List Int)} : ∀ l, c ∈ liO g Q O s l ↔ g s = true ∧ ∃ t ∈ l, g t = true ∧ c ∈ liI g Q s t O
  | [] => by simp [liO]
  | v :: l => by
    have ih := liO_mem (s := s) (c := c) l
    unfold liO
    rw [List.mem_append, ih]
    constructor
    · rintro (h | ⟨h1, t, h2, h3⟩)
      · by_cases e : (g s && g v) = true
        · rw [if_pos e] at h
          rw [Bool.and_eq_true] at e
          exact ⟨e.1, v, List.mem_cons_self .., e.2, h⟩
        · rw [if_neg e] at h; cases h
      · exact ⟨h1, t, List.mem_cons_of_mem _ h2, h3⟩
    · rintro ⟨h1, t, h2, h3, h4⟩
      rcases List.mem_cons.1 h2 with rfl | h2
      · left; rw [if_pos (by rw [h1, h3]; rfl)]; exact h4
      · exact .inr ⟨h1, t, h2, h3, h4⟩
theorem liA_mem {c : List (List Int) × List (List Int)} : ∀ l, c ∈ liA g Q O l ↔ ∃ a s r, l = a ++ s :: r ∧ c ∈ liO g Q O s (s :: r)
  | [] => by simp [liA]
  | v :: l => by
    have ih := liA_mem (c := c) l
    unfold liA
    rw [List.mem_append, ih]
    constructor
    · rintro (h | ⟨a, u, r, h1, h2⟩)
      · exact ⟨[], v, l, rfl, h⟩
      · exact ⟨v :: a, u, r, by rw [h1]; rfl, h2⟩
    · rintro ⟨a, u, r, h1, h2⟩
      cases a with
      | nil => injection h1 with h4 h5; subst h4; subst h5; exact .inl h2
      | cons b a => injection h1 with h4 h5; exact .inr ⟨a, u, r, h5, h2⟩
end
theorem bitB_test (m i : Nat) : bitB m i = m.testBit i := by
  unfold bitB
  rw [Nat.testBit_eq_decide_div_mod_eq, Nat.shiftRight_eq_div_pow, Bool.eq_iff_iff, beq_iff_eq, decide_eq_true_eq]
def wtF : List Int → Nat → Nat → Int
  | [], _, _ => 0
  | w :: ws, m, i => (if bitB m i = true then w else 0) + wtF ws m (i + 1)
theorem betw_bit {s t u : Nat} (h : betw s t u = true) (i : Nat) :
    (if bitB u i = true then 1 else 0) + (if bitB (wOf s t u) i = true then 1 else 0) = (if bitB s i = true then 1 else 0) + (if bitB t i = true then (1 : Int) else 0) := by
  unfold betw at h
  rw [Bool.and_eq_true, beq_iff_eq, beq_iff_eq] at h
  have h1 := congrArg (fun n => Nat.testBit n i) h.1
  have h2 := congrArg (fun n => Nat.testBit n i) h.2
  unfold aN at h2
  simp only [Nat.testBit_and, Nat.testBit_or, Nat.testBit_xor, Nat.zero_testBit] at h1 h2
  simp only [bitB_test]
  unfold wOf aN
  simp only [Nat.testBit_and, Nat.testBit_or, Nat.testBit_xor]
  revert h1 h2
  cases s.testBit i <;> cases t.testBit i <;> cases u.testBit i <;> simp
theorem betw_wt {s t u : Nat} (h : betw s t u = true) : ∀ (W : List Int) (i : Nat), wtF W u i + wtF W (wOf s t u) i = wtF W s i + wtF W t i
  | [], _ => rfl
  | w :: ws, i => by
    have h1 := betw_wt h ws (i + 1)
    have h2 := betw_bit h i
    unfold wtF
    revert h2
    cases bitB s i <;> cases bitB t i <;> cases bitB u i <;> cases bitB (wOf s t u) i <;> simp <;> omega
def gW (W : List Int) (q : Int) (m : Nat) : Bool := decide (q ≤ wtF W m 0)
theorem no_trade (W : List Int) (q : Int) (Q : Nat → Nat → Nat → Nat → Bool) (O : List Nat) : allT (gW W q) Q O O = none := by
  rw [allT_head]
  cases h : (liA (gW W q) Q O O).head? with
  | none => rfl
  | some c =>
    exfalso
    have hm : c ∈ liA (gW W q) Q O O := List.mem_of_mem_head? h
    obtain ⟨p, s, r, e1, h⟩ := (liA_mem (gW W q) Q O O).1 hm
    obtain ⟨h1, t, ht, h2, h⟩ := (liO_mem (gW W q) Q O _).1 h
    obtain ⟨p', u, r', e2, hq, rfl⟩ := (liI_mem (gW W q) Q O).1 h
    unfold inQ at hq
    simp only [Bool.and_eq_true, Bool.not_eq_true'] at hq
    obtain ⟨⟨h3, h4⟩, h5, _⟩ := hq
    have h6 := betw_wt h4 W 0
    unfold gW at h1 h2 h3 h5
    rw [decide_eq_true_eq] at h1 h2
    rw [decide_eq_false_iff_not] at h3 h5
    omega
theorem wt_or (j : Nat) : ∀ (W : List Int) (m o : Nat), m.testBit j = false → wtF W (m ||| 2 ^ j) o = wtF W m o + (if o ≤ j then W.getD (j - o) 0 else 0)
  | [], _, _, _ => by simp [wtF]
  | w :: ws, m, o, h => by
    have ih := wt_or j ws m (o + 1) h
    unfold wtF
    rw [ih, bitB_test, bitB_test, Nat.testBit_or, Nat.testBit_two_pow]
    by_cases e : j = o
    · subst e
      rw [h]
      simp
      omega
    · by_cases e2 : o ≤ j
      · have e3 : j - o = (j - (o + 1)) + 1 := by omega
        rw [if_pos e2, if_pos (show o + 1 ≤ j by omega), e3, List.getD_cons_succ]
        simp [e]
        omega
      · rw [if_neg e2, if_neg (show ¬ o + 1 ≤ j by omega)]
        simp [e]
theorem wt_add {W : List Int} {m j : Nat} (hm : m < 512) (hj : j < 9) (h : bitB m j = false) : wtF W (m + 2 ^ j) 0 = wtF W m 0 + W.getD j 0 := by
  have h1 := or_bit m j hm hj
  rw [if_neg (by rw [h]; decide)] at h1
  have h2 := wt_or j W m 0 (by rw [← bitB_test]; exact h)
  rw [h1] at h2
  simpa using h2
theorem worth_W {W : List Int} {q : Int} {n i j : Nat} (hn : n ≤ 9) (hi : i < n) (hj : j < n) (h : W.getD j 0 ≤ W.getD i 0) : allB (wsB (gW W q) i j) (2 ^ n) 0 = true := by
  unfold allB
  rw [List.all_eq_true]
  intro m hm
  have hm1 : m < 2 ^ n := by have := List.mem_range.1 hm; omega
  have hp : 2 ^ n ≤ 512 := Nat.pow_le_pow_right (n := 2) (by decide) hn
  rw [Nat.zero_add]
  unfold wsB
  cases e1 : bitB m i with
  | true => simp
  | false =>
    cases e2 : bitB m j with
    | true => simp
    | false =>
      have h1 := wt_add (W := W) (show m < 512 by omega) (show i < 9 by omega) e1
      have h2 := wt_add (W := W) (show m < 512 by omega) (show j < 9 by omega) e2
      unfold gW
      by_cases e3 : q ≤ wtF W (m + 2 ^ j) 0
      · rw [decide_eq_true e3, decide_eq_true (show q ≤ wtF W (m + 2 ^ i) 0 by omega)]; rfl
      · rw [decide_eq_false e3]; rfl
def encT (g : Nat → Bool) : Nat → Nat
  | 0 => 0
  | N + 1 => encT g N + (if g N = true then 2 ^ N else 0)
def monoK : Nat → List Nat
  | 0 => [0, 1]
  | k + 1 => (monoK k).flatMap fun a => ((monoK k).filter fun b => a &&& b == a).map fun b => a + b * 2 ^ 2 ^ k
def offK (n i j : Nat) : Nat := encT (fun m => !m.testBit i && !m.testBit j) (2 ^ n)
def wK (n t i j : Nat) : Bool := ((t >>> 2 ^ j) &&& offK n i j) &&& (t >>> 2 ^ i) == (t >>> 2 ^ j) &&& offK n i j
def complK (n t : Nat) : Bool := (List.range n).all fun i => (List.range i).all fun j => wK n t i j || wK n t j i
def popK : Nat → Nat → Nat
  | 0, _ => 0
  | k + 1, x => x % 2 + popK k (x / 2)
def banK (n t i : Nat) : Nat := popK 32 (((t >>> 2 ^ i) ^^^ t) &&& offK n i i) * 2 ^ (5 - n)
def phiK : List Int := [0, 2, 3, 4, 5, 6, 7, 9, 9, 10, 9, 11, 12, 9, 8, 7, 8]
def wtsK (n t : Nat) : List Int := (List.range n).map fun i => phiK.getD (banK n t i) 0
def maxL (W : List Int) (t : Nat) : Nat → Int
  | 0 => 0
  | m + 1 => if t.testBit m = true then maxL W t m else mx (maxL W t m) (wtF W m 0)
def fitsK (n t : Nat) (W : List Int) (q : Int) : Bool := decide (1 ≤ q) && (List.range (2 ^ n)).all fun m => t.testBit m == decide (q ≤ wtF W m 0)
def chkK (n t : Nat) : Bool := !complK n t || t.testBit 0 || !t.testBit (2 ^ n - 1) || fitsK n t (wtsK n t) (maxL (wtsK n t) t (2 ^ n) + 1)
def chkA (k : Nat) : Bool := (monoK k).all fun a => (monoK k).all fun b => !(a &&& b == a) || chkK (k + 1) (a + b * 2 ^ 2 ^ k)
theorem encT_lt (g : Nat → Bool) : ∀ N, encT g N < 2 ^ N
  | 0 => by simp [encT]
  | N + 1 => by
    have h := encT_lt g N
    rw [encT, Nat.pow_succ]
    split <;> omega
theorem encT_bit (g : Nat → Bool) : ∀ N m, (encT g N).testBit m = (decide (m < N) && g m)
  | 0, m => by simp [encT]
  | N + 1, m => by
    have hl := encT_lt g N
    rw [encT]
    by_cases c : g N = true
    · have e1 := Nat.two_pow_add_eq_or_of_lt hl 1
      rw [Nat.mul_one] at e1
      rw [if_pos c, Nat.add_comm, e1, Nat.testBit_or, Nat.testBit_two_pow, encT_bit g N m]
      by_cases e : N = m
      · subst e; simp [c]
      · have : (decide (m < N + 1)) = decide (m < N) := decide_eq_decide.2 (by omega)
        simp [e, this]
    · rw [if_neg c, Nat.add_zero, encT_bit g N m]
      by_cases e : m = N
      · subst e; simp [eq_false_of_ne_true c]
      · have : (decide (m < N + 1)) = decide (m < N) := decide_eq_decide.2 (by omega)
        rw [this]
theorem encT_split (g : Nat → Bool) (N : Nat) : ∀ M, encT g (N + M) = encT g N + encT (fun m => g (m + N)) M * 2 ^ N
  | 0 => by simp [encT]
  | M + 1 => by
    rw [show N + (M + 1) = N + M + 1 from rfl, encT, encT_split g N M, encT, Nat.add_mul, Nat.add_assoc, Nat.add_comm N M]
    congr 2
    split
    · rw [Nat.pow_add]
    · simp
def MonG (g : Nat → Bool) (N : Nat) : Prop := ∀ m m', m < N → m' < N → m &&& m' = m' → g m' = true → g m = true
theorem and_low {m m' k : Nat} (h : m < 2 ^ k) (h' : m' < 2 ^ k) (e : m &&& m' = m') : (m + 2 ^ k) &&& (m' + 2 ^ k) = m' + 2 ^ k := by
  have e1 := Nat.two_pow_add_eq_or_of_lt h 1
  have e2 := Nat.two_pow_add_eq_or_of_lt h' 1
  rw [Nat.mul_one] at e1 e2
  rw [Nat.add_comm m, Nat.add_comm m', e1, e2, ← Nat.or_and_distrib_left, e]
theorem and_up {m k : Nat} (h : m < 2 ^ k) : (m + 2 ^ k) &&& m = m := by
  have e1 := Nat.two_pow_add_eq_or_of_lt h 1
  rw [Nat.mul_one] at e1
  rw [Nat.add_comm m, e1, Nat.and_comm, Nat.and_or_distrib_left, Nat.and_self]
  refine Nat.eq_of_testBit_eq fun i => ?_
  rw [Nat.testBit_or, Nat.testBit_and, Nat.testBit_two_pow]
  cases m.testBit i <;> simp
theorem mono_mem : ∀ (k : Nat) (g : Nat → Bool), MonG g (2 ^ k) → encT g (2 ^ k) ∈ monoK k
  | 0, g, _ => by
    show encT g 1 ∈ [0, 1]
    rw [encT, encT]
    cases g 0 <;> simp
  | k + 1, g, h => by
    have hk : 2 ^ (k + 1) = 2 ^ k + 2 ^ k := by rw [Nat.pow_succ]; omega
    have h1 : MonG g (2 ^ k) := fun m m' a b => h m m' (by omega) (by omega)
    have h2 : MonG (fun m => g (m + 2 ^ k)) (2 ^ k) := fun m m' a b e => h _ _ (by omega) (by omega) (and_low a b e)
    rw [hk, encT_split, monoK, List.mem_flatMap]
    refine ⟨_, mono_mem k g h1, List.mem_map.2 ⟨_, List.mem_filter.2 ⟨mono_mem k _ h2, ?_⟩, rfl⟩⟩
    rw [beq_iff_eq]
    exact mono_le k g h
where
  mono_le (k : Nat) (g : Nat → Bool) (h : MonG g (2 ^ (k + 1))) : encT g (2 ^ k) &&& encT (fun m => g (m + 2 ^ k)) (2 ^ k) = encT g (2 ^ k) := by
    have hk : 2 ^ (k + 1) = 2 ^ k + 2 ^ k := by rw [Nat.pow_succ]; omega
    refine Nat.eq_of_testBit_eq fun m => ?_
    rw [Nat.testBit_and, encT_bit, encT_bit]
    by_cases c : m < 2 ^ k
    · rw [decide_eq_true c, Bool.true_and, Bool.true_and]
      cases e : g m with
      | false => rfl
      | true => rw [h (m + 2 ^ k) m (by omega) (by omega) (and_up c) e]; rfl
    · rw [decide_eq_false c]; rfl
theorem chkA_at {k : Nat} (hc : chkA k = true) (g : Nat → Bool) (h : MonG g (2 ^ (k + 1))) : chkK (k + 1) (encT g (2 ^ (k + 1))) = true := by
  have hk : 2 ^ (k + 1) = 2 ^ k + 2 ^ k := by rw [Nat.pow_succ]; omega
  have h1 : MonG g (2 ^ k) := fun m m' a b => h m m' (by omega) (by omega)
  have h2 : MonG (fun m => g (m + 2 ^ k)) (2 ^ k) := fun m m' a b e => h _ _ (by omega) (by omega) (and_low a b e)
  have h3 := List.all_eq_true.1 (List.all_eq_true.1 hc _ (mono_mem k g h1)) _ (mono_mem k _ h2)
  rw [mono_mem.mono_le k g h, ← encT_split, ← hk] at h3
  simpa using h3
theorem lc_ite {α : Type} {c : Prop} [Decidable c] {f g : Nat → Option α} {r : α} (h1 : c → Ev f r) (h2 : ¬ c → Ev g r) : Ev (fun n => if c then f n else g n) r := by
  by_cases h : c
  · exact ev_pos h (h1 h)
  · exact ev_neg h (h2 h)
def Wok (W : List Int) : Prop := W.length ≤ 9 ∧ ∀ w ∈ W, 0 ≤ w ∧ w ≤ 5000
theorem wtF_nn : ∀ (W : List Int) (m i : Nat), (∀ w ∈ W, 0 ≤ w ∧ w ≤ 5000) → 0 ≤ wtF W m i
  | [], _, _, _ => Int.le_refl 0
  | w :: ws, m, i, h => by
    have h1 := wtF_nn ws m (i + 1) (fun x hx => h x (List.mem_cons_of_mem _ hx))
    have h2 := h w (List.mem_cons_self ..)
    unfold wtF
    split <;> omega
theorem voWeight_ev (q : Int) (W : List Int) (h : Wok W) (m : Nat) : Ev (fun k => spec_voWeight.f k q W (m : Int)) (wtF W m 0) := by
  unfold spec_voWeight.f
  have := ev_rangeS W.length (fun k i s => spec_voWeight.l0 k (m : Int) s W (W.length : Int) (i : Int)) (fun i s => s + wtF (W.drop i) m i) (fun i s => 0 ≤ s ∧ s ≤ (i : Int) * 5000) ?_ ?_ 0 0 (Nat.zero_le _) ⟨by omega, by omega⟩
  · simpa using this
  · intro s hs
    refine ev_succ ?_
    simp only [spec_voWeight.l0]
    exact ev_neg (Int.lt_irrefl _) (ev_eqv (Ev.now _) (by simp [wtF]))
  · intro i s hi hs ih
    refine ev_succ ?_
    simp only [spec_voWeight.l0]
    have h9 := h.1
    have hw := h.2 W[i] (List.getElem_mem hi)
    refine ev_pos (by omega) (ev_pos (by omega) (ev_pos (by omega) ?_))
    rw [rd_get hi, wrap_succ hi (by omega), List.drop_eq_getElem_cons hi]
    rw [wtF]
    cases e : bitB m i with
    | true =>
      refine ev_pos ((tmod_bit1 m i (by omega)).2 e) ?_
      rw [wrap64_id (by omega)]
      exact ev_eqv (ih (s + W[i]) ⟨by omega, by omega⟩) (by simp [Int.add_assoc])
    | false => exact ev_neg (fun h => by rw [(tmod_bit1 m i (by omega)).1 h] at e; cases e) (ev_eqv (ih s ⟨by omega, by omega⟩) (by simp))
theorem iWeight_ev (q : Int) (W : List Int) (h : Wok W) (m : Nat) (hm : m < 65536) : Ev (fun k => impl_Committee_weight.f k q W (m : Int)) (wtF W m 0) := by
  unfold impl_Committee_weight.f
  have := ev_rangeS W.length (fun k i s => impl_Committee_weight.l0 k (m : Int) s W (W.length : Int) (i : Int)) (fun i s => s + wtF (W.drop i) m i) (fun i s => 0 ≤ s ∧ s ≤ (i : Int) * 5000) ?_ ?_ 0 0 (Nat.zero_le _) ⟨by omega, by omega⟩
  · simpa using this
  · intro s hs
    refine ev_succ ?_
    simp only [impl_Committee_weight.l0]
    exact ev_neg (Int.lt_irrefl _) (ev_eqv (Ev.now _) (by simp [wtF]))
  · intro i s hi hs ih
    refine ev_succ ?_
    simp only [impl_Committee_weight.l0]
    have h9 := h.1
    have hw := h.2 W[i] (List.getElem_mem hi)
    refine ev_pos (by omega) (ev_pos (by omega) (ev_pos (by omega) (ev_bindS (has_eq m i hm (by omega)) ?_)))
    rw [rd_get hi, wrap_succ hi (by omega), List.drop_eq_getElem_cons hi]
    rw [wtF]
    refine ev_bool (fun e => ?_) (fun e => ?_)
    · rw [wrap64_id (by omega)]
      exact ev_eqv (ih (s + W[i]) ⟨by omega, by omega⟩) (by simp [e, Int.add_assoc])
    · exact ev_eqv (ih s ⟨by omega, by omega⟩) (by simp [e])
def stW (g : Nat → Bool) (W : List Int) (st : Int × Int) (m : Nat) : Int × Int :=
  if g m = true then (if st.1 < 0 ∨ wtF W m 0 < st.1 then (wtF W m 0, st.2) else st) else (st.1, if st.2 < wtF W m 0 then wtF W m 0 else st.2)
def wqR (g : Nat → Bool) (W : List Int) (N : Nat) : Int × Int := (List.range N).foldl (stW g W) (-1, -1)
theorem range_drop (N i : Nat) (h : i < N) : (List.range N).drop i = i :: (List.range N).drop (i + 1) := by
  rw [List.drop_eq_getElem_cons (by rw [List.length_range]; exact h), List.getElem_range]
theorem spare_ev (a : Int) (g : Nat → Bool) (N : Nat) (hN : N ≤ 512) (W : List Int) (h : Wok W) : Ev (fun k => impl_votes_spare.f k a (tabB g N) W) (wqR g W N) := by
  unfold impl_votes_spare.f wqR
  rw [tabB_len]
  have := ev_rangeS N (fun k i (s : Int × Int) => impl_votes_spare.l0 k s.1 s.2 (tabB g N) (N : Int) (i : Int) 0 W) (fun i s => ((List.range N).drop i).foldl (stW g W) s) (fun _ _ => True) ?_ ?_ 0 (-1, -1) (Nat.zero_le _) trivial
  · simpa using this
  · intro s _
    refine ev_succ ?_
    simp only [impl_votes_spare.l0]
    exact ev_neg (Int.lt_irrefl _) (ev_eqv (Ev.now _) (by simp [List.drop_eq_nil_of_le]))
  · intro i s hi _ ih
    refine ev_succ ?_
    simp only [impl_votes_spare.l0]
    have hr : rdOf false (tabB g N) (i : Int) = g i := by rw [rdOf_get (by rw [tabB_len]; exact hi), tabB_get]
    refine ev_pos (by omega) (ev_pos (by omega) (ev_pos (by rw [tabB_len]; omega) (Ev.bind (iWeight_ev 0 W h i (by omega)) ?_)))
    rw [range_drop N i hi, List.foldl_cons, hr]
    refine ev_bool (fun e => ?_) (fun e => ?_)
    · refine lc_ite (fun c => ?_) (fun c => ?_)
      · refine ev_succ ?_
        simp only [impl_votes_spare.j1]
        refine ev_pos trivial (ev_pos e ?_)
        rw [wrap_succ hi (by omega)]
        exact ev_eqv (ih (wtF W i 0, s.2) trivial) (by rw [stW, if_pos e, if_pos (.inl c)])
      · refine ev_succ ?_
        simp only [impl_votes_spare.j1]
        refine lc_ite (fun c2 => ?_) (fun c2 => ?_)
        · refine ev_pos e ?_
          rw [wrap_succ hi (by omega)]
          exact ev_eqv (ih (wtF W i 0, s.2) trivial) (by rw [stW, if_pos e, if_pos (.inr (of_decide_eq_true c2))])
        · refine ev_pos e ?_
          rw [wrap_succ hi (by omega)]
          exact ev_eqv (ih s trivial) (by rw [stW, if_pos e, if_neg (fun h => h.elim c (fun h => c2 (decide_eq_true h)))])
    · refine ev_succ ?_
      simp only [impl_votes_spare.j1]
      refine ev_neg (by decide) (ev_neg (by rw [e]; decide) ?_)
      rw [wrap_succ hi (by omega)]
      exact ev_eqv (ih (s.1, mx s.2 (wtF W i 0)) trivial) (by rw [stW, if_neg (by rw [e]; decide)]; rfl)
theorem weQuota_ev (g : Nat → Bool) (N : Nat) (hN : N ≤ 512) (W : List Int) (h : Wok W) : Ev (fun k => spec_weQuota.f k (tabB g N) W) (wrap64 ((wqR g W N).2 + 1), decide ((wqR g W N).2 < (wqR g W N).1)) := by
  unfold spec_weQuota.f wqR
  rw [tabB_len]
  have := ev_rangeS N (fun k i (s : Int × Int) => spec_weQuota.l0 k s.2 s.1 (tabB g N) (N : Int) (i : Int) 0 W) (fun i s => (wrap64 ((((List.range N).drop i).foldl (stW g W) s).2 + 1), decide ((((List.range N).drop i).foldl (stW g W) s).2 < (((List.range N).drop i).foldl (stW g W) s).1))) (fun _ _ => True) ?_ ?_ 0 (-1, -1) (Nat.zero_le _) trivial
  · simpa using this
  · intro s _
    refine ev_succ ?_
    simp only [spec_weQuota.l0]
    exact ev_neg (Int.lt_irrefl _) (ev_eqv (Ev.now _) (by simp [List.drop_eq_nil_of_le]))
  · intro i s hi _ ih
    refine ev_succ ?_
    simp only [spec_weQuota.l0]
    have hr : rdOf false (tabB g N) (i : Int) = g i := by rw [rdOf_get (by rw [tabB_len]; exact hi), tabB_get]
    refine ev_pos (by omega) (ev_pos (by omega) (ev_pos (by rw [tabB_len]; omega) (Ev.bind (voWeight_ev 0 W h i) ?_)))
    rw [range_drop N i hi, List.foldl_cons, hr]
    refine ev_bool (fun e => ?_) (fun e => ?_)
    · refine lc_ite (fun c => ?_) (fun c => ?_)
      · refine ev_succ ?_
        simp only [spec_weQuota.j1]
        refine ev_pos trivial (ev_pos e ?_)
        rw [wrap_succ hi (by omega)]
        exact ev_eqv (ih (wtF W i 0, s.2) trivial) (by rw [stW, if_pos e, if_pos (.inl c)])
      · refine ev_succ ?_
        simp only [spec_weQuota.j1]
        refine lc_ite (fun c2 => ?_) (fun c2 => ?_)
        · refine ev_pos e ?_
          rw [wrap_succ hi (by omega)]
          exact ev_eqv (ih (wtF W i 0, s.2) trivial) (by rw [stW, if_pos e, if_pos (.inr (of_decide_eq_true c2))])
        · refine ev_pos e ?_
          rw [wrap_succ hi (by omega)]
          exact ev_eqv (ih s trivial) (by rw [stW, if_pos e, if_neg (fun h => h.elim c (fun h => c2 (decide_eq_true h)))])
    · refine ev_succ ?_
      simp only [spec_weQuota.j1]
      refine ev_neg (by decide) (ev_neg (by rw [e]; decide) ?_)
      rw [wrap_succ hi (by omega)]
      refine lc_ite (fun c => ?_) (fun c => ?_)
      · exact ev_eqv (ih (s.1, wtF W i 0) trivial) (by rw [stW, if_neg (by rw [e]; decide), if_pos c])
      · exact ev_eqv (ih s trivial) (by rw [stW, if_neg (by rw [e]; decide), if_neg c])
theorem tabB_congr {f g : Nat → Bool} {N : Nat} (h : ∀ m, m < N → f m = g m) : tabB f N = tabB g N := by
  unfold tabB
  exact List.map_congr_left fun m hm => h m (List.mem_range.1 hm)
def fitF (g : Nat → Bool) (N : Nat) (W : List Int) : Option Int := if (wqR g W N).1 ≤ (wqR g W N).2 then none else some (wrap64 ((wqR g W N).2 + 1))
def lookF (fit : List Int → Option Int) : Nat → List Int → Nat → Option (Int × List Int)
  | 0, b, s => (fit (b ++ [(s : Int)])).map fun q => (q, b ++ [(s : Int)])
  | r + 1, b, s => (List.range (s + 1)).findSome? fun x : Nat => lookF fit r (b ++ [(x : Int)]) (s - x)
theorem look_ok (fit : List Int → Option Int) : ∀ (r : Nat) (b : List Int) (s : Nat) (p : Int × List Int), s ≤ 5000 → (∀ w ∈ b, 0 ≤ w ∧ w ≤ 5000) → lookF fit r b s = some p → fit p.2 = some p.1 ∧ p.2.length = b.length + r + 1 ∧ ∀ w ∈ p.2, 0 ≤ w ∧ w ≤ 5000
  | 0, b, s, p, hs, hb, h => by
    rw [lookF, Option.map_eq_some_iff] at h
    obtain ⟨q, h1, rfl⟩ := h
    refine ⟨h1, by simp, fun w hw => ?_⟩
    rcases List.mem_append.1 hw with h | h
    · exact hb w h
    · rw [List.mem_singleton] at h; omega
  | r + 1, b, s, p, hs, hb, h => by
    rw [lookF, List.findSome?_eq_some_iff] at h
    obtain ⟨l1, x, l2, e, h, _⟩ := h
    have hx : x < s + 1 := List.mem_range.1 (by rw [e]; simp)
    obtain ⟨h1, h2, h3⟩ := look_ok fit r _ _ p (by omega) (fun w hw => by
      rcases List.mem_append.1 hw with h | h
      · exact hb w h
      · rw [List.mem_singleton] at h; omega) h
    exact ⟨h1, by rw [h2, List.length_append, List.length_singleton]; omega, h3⟩
theorem look_some (fit : List Int → Option Int) : ∀ (r : Nat) (b e : List Int) (s : Nat), e.length = r + 1 → (∀ w ∈ e, 0 ≤ w) → e.foldr (fun a c => a + c) 0 = (s : Int) → fit (b ++ e) ≠ none → lookF fit r b s ≠ none
  | 0, b, e, s, h1, h2, h3, h4 => by
    match e, h1 with
    | [w], _ =>
      have : w = (s : Int) := by simpa using h3
      subst this
      rw [lookF]
      simpa using h4
  | r + 1, b, e, s, h1, h2, h3, h4 => by
    match e, h1 with
    | w :: ws, h1 =>
      have hw := h2 w (List.mem_cons_self ..)
      have hn : 0 ≤ ws.foldr (fun a c => a + c) 0 := by
        have : ∀ l : List Int, (∀ w ∈ l, 0 ≤ w) → 0 ≤ l.foldr (fun a c => a + c) 0 := fun l => by
          induction l with
          | nil => intro _; exact Int.le_refl _
          | cons y ys ih =>
            intro h
            have h1 := ih (fun z hz => h z (List.mem_cons_of_mem _ hz))
            have h2 := h y (List.mem_cons_self ..)
            rw [List.foldr_cons]; omega
        exact this ws (fun z hz => h2 z (List.mem_cons_of_mem _ hz))
      rw [List.foldr_cons] at h3
      have hx : (w.toNat : Int) = w := Int.toNat_of_nonneg hw
      rw [lookF]
      intro hc
      rw [List.findSome?_eq_none_iff] at hc
      have := hc w.toNat (List.mem_range.2 (by omega))
      rw [hx] at this
      refine look_some fit r (b ++ [w]) ws (s - w.toNat) (by simpa using h1) (fun z hz => h2 z (List.mem_cons_of_mem _ hz)) (by omega) ?_ this
      rw [List.append_assoc]; exact h4
def resL : Option (Int × List Int) → List Int × Bool
  | some p => (p.2, true)
  | none => ([], false)
theorem l1Own_eq (b : List Int) (h : b.length < 17592186044416) : spec_l1Own.f b = some b := by
  unfold spec_l1Own.f
  simp [h]
section
variable (g : Nat → Bool) (N n : Nat) (hN : N ≤ 512) (hn : n ≤ 9)
include hN hn
theorem weLook_ev : ∀ (r : Nat) (b : List Int) (s : Nat), b.length + r + 1 = n → (∀ w ∈ b, 0 ≤ w ∧ w ≤ 5000) → s ≤ 5000 → ∃ l, Ev (fun k => spec_weLook.f k (tabB g N) (n : Int) b (s : Int)) (l, (lookF (fitF g N) r b s).isSome) ∧ ∀ p, lookF (fitF g N) r b s = some p → l = p.2
  | 0, b, s, hb, hw, hs => by
    have hW : Wok (b ++ [(s : Int)]) := ⟨by simp; omega, fun w h => by
      rcases List.mem_append.1 h with h | h
      · exact hw w h
      · rw [List.mem_singleton] at h; omega⟩
    refine ⟨b ++ [(s : Int)], ?_, fun p hp => ?_⟩
    · refine ev_succ ?_
      simp only [spec_weLook.f]
      refine ev_pos (by rw [wrap64_id (by omega)]; omega) (ev_bindS (l1Own_eq b (by omega)) (ev_pos (by omega) (ev_bindS rfl (Ev.bind (weQuota_ev g N hN _ hW) (ev_eqv (Ev.now _) ?_)))))
      rw [lookF, Option.isSome_map, fitF]
      by_cases c : (wqR g (b ++ [(s : Int)]) N).1 ≤ (wqR g (b ++ [(s : Int)]) N).2
      · rw [if_pos c, decide_eq_false (by omega)]; rfl
      · rw [if_neg c, decide_eq_true (by omega)]; rfl
    · rw [lookF, Option.map_eq_some_iff] at hp
      obtain ⟨q, _, rfl⟩ := hp
      rfl
  | r + 1, b, s, hb, hw, hs => by
    have hl := ev_range (s + 1) (fun k i => spec_weLook.l0 k (tabB g N) (n : Int) b (s : Int) (i : Int)) (fun i => resL (((List.range (s + 1)).drop i).findSome? fun x : Nat => lookF (fitF g N) r (b ++ [(x : Int)]) (s - x))) ?_ ?_ 0 (Nat.zero_le _)
    · refine ⟨(resL (lookF (fitF g N) (r + 1) b s)).1, ?_, fun p hp => by rw [hp]; rfl⟩
      refine ev_succ ?_
      simp only [spec_weLook.f]
      refine ev_neg (by rw [wrap64_id (by omega)]; omega) (ev_eqv hl ?_)
      rw [List.drop_zero, ← lookF]
      cases lookF (fitF g N) (r + 1) b s <;> rfl
    · refine ev_succ ?_
      simp only [spec_weLook.l0]
      refine ev_neg (by omega) (ev_eqv (Ev.now _) ?_)
      rw [List.drop_eq_nil_of_le (by simp)]; rfl
    · intro i hi ih
      refine ev_succ ?_
      simp only [spec_weLook.l0]
      have hr := weLook_ev r (b ++ [(i : Int)]) (s - i) (by simp; omega) (fun w h => by
        rcases List.mem_append.1 h with h | h
        · exact hw w h
        · rw [List.mem_singleton] at h; omega) (by omega)
      obtain ⟨l, h1, h2⟩ := hr
      refine ev_pos (by omega) (ev_bindS (l1Own_eq b (by omega)) (ev_pos (by omega) ?_))
      have e1 : wrap64 ((s : Int) - (i : Int)) = ((s - i : Nat) : Int) := by rw [wrap64_id (by omega)]; omega
      rw [e1, wrap_succ hi (by omega), range_drop (s + 1) i hi, List.findSome?_cons]
      refine Ev.bind h1 (ev_bool (fun e => ?_) (fun e => ?_))
      · cases h3 : lookF (fitF g N) r (b ++ [(i : Int)]) (s - i) with
        | none => rw [h3] at e; cases e
        | some p => exact ev_eqv (Ev.now _) (by rw [h2 p h3]; rfl)
      · cases h3 : lookF (fitF g N) r (b ++ [(i : Int)]) (s - i) with
        | none => exact ih
        | some p => rw [h3] at e; cases e
theorem eachW_ev : ∀ (r : Nat) (b : List Int) (s : Nat), b.length + r + 1 = n → (∀ w ∈ b, 0 ≤ w ∧ w ≤ 5000) → s ≤ 5000 → Ev (fun k => eachW.f k (n : Int) (tabB g N) b (s : Int)) (lookF (fitF g N) r b s)
  | 0, b, s, hb, hw, hs => by
    have hW : Wok (b ++ [(s : Int)]) := ⟨by simp; omega, fun w h => by
      rcases List.mem_append.1 h with h | h
      · exact hw w h
      · rw [List.mem_singleton] at h; omega⟩
    refine ev_succ ?_
    simp only [eachW.f]
    refine ev_pos (by rw [wrap64_id (by omega)]; omega) (ev_pos (by omega) (Ev.bind (spare_ev _ g N hN _ hW) ?_))
    rw [lookF, fitF]
    exact lc_ite (fun c => ev_eqv (Ev.now _) (by rw [if_pos c]; rfl)) (fun c => ev_eqv (Ev.now _) (by rw [if_neg c]; rfl))
  | r + 1, b, s, hb, hw, hs => by
    have hl := ev_range (s + 1) (fun k i => eachW.l k (n : Int) (tabB g N) b (s : Int) (i : Int)) (fun i => ((List.range (s + 1)).drop i).findSome? fun x : Nat => lookF (fitF g N) r (b ++ [(x : Int)]) (s - x)) ?_ ?_ 0 (Nat.zero_le _)
    · refine ev_succ ?_
      simp only [eachW.f]
      exact ev_neg (by rw [wrap64_id (by omega)]; omega) (ev_eqv hl (by rw [List.drop_zero, ← lookF]))
    · refine ev_succ ?_
      simp only [eachW.l]
      refine ev_neg (by rw [wrap64_id (by omega)]; omega) (ev_eqv (Ev.now _) ?_)
      rw [List.drop_eq_nil_of_le (by simp)]; rfl
    · intro i hi ih
      refine ev_succ ?_
      simp only [eachW.l]
      have hr := eachW_ev r (b ++ [(i : Int)]) (s - i) (by simp; omega) (fun w h => by
        rcases List.mem_append.1 h with h | h
        · exact hw w h
        · rw [List.mem_singleton] at h; omega) (by omega)
      have e1 : wrap64 ((s : Int) - (i : Int)) = ((s - i : Nat) : Int) := by rw [wrap64_id (by omega)]; omega
      refine ev_pos (by rw [wrap64_id (by omega)]; omega) (ev_pos (by omega) ?_)
      rw [e1, wrap_succ hi (by omega), range_drop (s + 1) i hi, List.findSome?_cons]
      refine Ev.bind hr ?_
      cases h3 : lookF (fitF g N) r (b ++ [(i : Int)]) (s - i) with
      | none => exact ih
      | some p => exact Ev.now _
end
theorem deUnlikeW_ev (W : List Int) (q : Int) (n i j : Nat) (hn : n ≤ 9) (hi : i < n) (hj : j < n) : Ev (fun k => spec_deUnlike.f k (tabB (gW W q) (2 ^ n)) (i : Int) (j : Int)) false := by
  unfold spec_deUnlike.f
  by_cases h : W.getD j 0 ≤ W.getD i 0
  · exact Ev.bind (ev_eqv (deWorth_ev (gW W q) n i j hn hi hj) (worth_W hn hi hj h)) (ev_pos rfl (Ev.now _))
  · refine Ev.bind (deWorth_ev (gW W q) n i j hn hi hj) (ev_bool (fun _ => Ev.now _) (fun _ => ?_))
    exact Ev.bind (ev_eqv (deWorth_ev (gW W q) n j i hn hj hi) (worth_W hn hj hi (by omega))) (Ev.now _)
theorem deCompleteW_ev (W : List Int) (q : Int) (n : Nat) (hn : n ≤ 9) : Ev (fun k => spec_deComplete.f k (tabB (gW W q) (2 ^ n)) (n : Int)) true := by
  unfold spec_deComplete.f
  have := ev_range n (fun k i => spec_deComplete.l0 k (tabB (gW W q) (2 ^ n)) (n : Int) (i : Int)) (fun _ => true) ?_ ?_ 0 (Nat.zero_le _)
  · exact this
  · refine ev_succ ?_
    simp only [spec_deComplete.l0]
    exact ev_neg (Int.lt_irrefl _) (Ev.now _)
  · intro i hi ih
    refine ev_succ ?_
    simp only [spec_deComplete.l0]
    refine ev_pos (by omega) ?_
    have := ev_range i (fun k j => spec_deComplete.l1 k (tabB (gW W q) (2 ^ n)) (n : Int) (i : Int) (j : Int)) (fun _ => true) ?_ ?_ 0 (Nat.zero_le _)
    · exact this
    · refine ev_succ ?_
      simp only [spec_deComplete.l1]
      refine ev_neg (Int.lt_irrefl _) ?_
      rw [wrap_succ hi (by omega)]
      exact ih
    · intro j hj ih2
      refine ev_succ ?_
      simp only [spec_deComplete.l1]
      refine ev_pos (by omega) (Ev.bind (deUnlikeW_ev W q n i j hn hi (by omega)) (ev_neg (by decide) ?_))
      rw [wrap_succ hj (by omega)]
      exact ih2
theorem wtF_le : ∀ (W : List Int) (m i : Nat), (∀ w ∈ W, 0 ≤ w ∧ w ≤ 5000) → wtF W m i ≤ (W.length : Int) * 5000
  | [], _, _, _ => by simp [wtF]
  | w :: ws, m, i, h => by
    have h1 := wtF_le ws m (i + 1) (fun x hx => h x (List.mem_cons_of_mem _ hx))
    have h2 := h w (List.mem_cons_self ..)
    rw [wtF, List.length_cons]
    split <;> omega
theorem fold_pos (g : Nat → Bool) (W : List Int) (hW : Wok W) : ∀ (l : List Nat) (st : Int × Int), (0 ≤ st.2 ∧ st.2 ≤ 45000) → 0 ≤ (l.foldl (stW g W) st).2 ∧ (l.foldl (stW g W) st).2 ≤ 45000
  | [], st, h => h
  | m :: l, st, h => by
    rw [List.foldl_cons]
    refine fold_pos g W hW l _ ?_
    have h1 := wtF_nn W m 0 hW.2
    have h2 := wtF_le W m 0 hW.2
    have h3 := hW.1
    unfold stW
    split
    · split
      · exact h
      · exact h
    · dsimp only
      split <;> omega
theorem fit_pos (g : Nat → Bool) (N : Nat) (hN : 1 ≤ N) (h0 : g 0 = false) (W : List Int) (hW : Wok W) (p : Int) (h : fitF g N W = some p) : p ≠ 0 ∧ p = (wqR g W N).2 + 1 := by
  have hp : 0 ≤ (wqR g W N).2 ∧ (wqR g W N).2 ≤ 45000 := by
    unfold wqR
    obtain ⟨d, rfl⟩ : ∃ d, N = d + 1 := ⟨N - 1, by omega⟩
    rw [show List.range (d + 1) = 0 :: (List.range (d + 1)).drop 1 from by rw [← range_drop (d + 1) 0 (by omega), List.drop_zero], List.foldl_cons]
    refine fold_pos g W hW _ _ ?_
    have h1 := wtF_nn W 0 0 hW.2
    have h2 := wtF_le W 0 0 hW.2
    have h3 := hW.1
    unfold stW
    rw [h0, if_neg (by decide)]
    dsimp only
    rw [if_pos (by omega)]
    omega
  unfold fitF at h
  split at h
  · cases h
  · rw [wrap64_id (by omega)] at h
    have := Option.some.inj h
    exact ⟨by omega, this.symm⟩
theorem fold_fit (W : List Int) (q : Int) (hq : 1 ≤ q) : ∀ (l : List Nat) (st : Int × Int), st.2 < q → (st.1 = -1 ∨ q ≤ st.1) → (q ≤ st.1 ∨ ∃ m ∈ l, gW W q m = true) → (l.foldl (stW (gW W q) W) st).2 < q ∧ q ≤ (l.foldl (stW (gW W q) W) st).1
  | [], st, h1, h2, h3 => ⟨h1, h3.elim id (fun h => by obtain ⟨m, hm, _⟩ := h; cases hm)⟩
  | m :: l, st, h1, h2, h3 => by
    rw [List.foldl_cons]
    cases e : gW W q m with
    | true =>
      have e2 : q ≤ wtF W m 0 := by unfold gW at e; exact of_decide_eq_true e
      have hs : (stW (gW W q) W st m).2 = st.2 ∧ q ≤ (stW (gW W q) W st m).1 := by
        unfold stW
        rw [if_pos e]
        split
        · exact ⟨rfl, e2⟩
        · exact ⟨rfl, by omega⟩
      exact fold_fit W q hq l _ (by rw [hs.1]; exact h1) (.inr hs.2) (.inl hs.2)
    | false =>
      have e2 : wtF W m 0 < q := by unfold gW at e; have := of_decide_eq_false e; omega
      have hs : (stW (gW W q) W st m).1 = st.1 ∧ (stW (gW W q) W st m).2 < q := by
        unfold stW
        rw [if_neg (by rw [e]; decide)]
        refine ⟨rfl, ?_⟩
        dsimp only
        split <;> omega
      refine fold_fit W q hq l _ hs.2 (by rw [hs.1]; exact h2) ?_
      rw [hs.1]
      rcases h3 with h | ⟨m', hm', h⟩
      · exact .inl h
      · rcases List.mem_cons.1 hm' with rfl | hm'
        · rw [e] at h; cases h
        · exact .inr ⟨m', hm', h⟩
theorem wt_full : ∀ (W : List Int) (M i : Nat), (∀ j, j < W.length → bitB M (i + j) = true) → wtF W M i = W.foldr (fun a c => a + c) 0
  | [], _, _, _ => rfl
  | w :: ws, M, i, h => by
    rw [wtF, List.foldr_cons, wt_full ws M (i + 1) (fun j hj => by have := h (j + 1) (by rw [List.length_cons]; omega); rwa [show i + 1 + j = i + (j + 1) by omega]), if_pos (by have := h 0 (by rw [List.length_cons]; omega); rwa [Nat.add_zero] at this)]
theorem own_fit (W : List Int) (hW : Wok W) (q : Int) (hq : 1 ≤ q) (hs : q ≤ W.foldr (fun a c => a + c) 0) : fitF (gW W q) (2 ^ W.length) W ≠ none := by
  have hpos := Nat.two_pow_pos W.length
  have hw : gW W q (2 ^ W.length - 1) = true := by
    unfold gW
    rw [wt_full W _ 0 (fun j hj => by rw [bitB_test, Nat.testBit_two_pow_sub_one, Nat.zero_add]; exact decide_eq_true hj)]
    exact decide_eq_true hs
  have := fold_fit W q hq (List.range (2 ^ W.length)) (-1, -1) (by show -1 < q; omega) (.inl rfl) (.inr ⟨_, List.mem_range.2 (by omega), hw⟩)
  unfold fitF wqR
  rw [if_neg (by omega)]
  exact Option.some_ne_none _
theorem find_now (W : List Int) (hW : Wok W) (q : Int) (hn : 1 ≤ W.length) (hp : 2 ^ W.length ≤ 512) (hpos : 0 < 2 ^ W.length) (h0 : gW W q 0 = false) (L : List (List Int)) (x : Nat) (hx : x ≤ 5000) (p : Int × List Int) (hk : lookF (fitF (gW W q) (2 ^ W.length)) (W.length - 1) [] x = some p) :
    ∃ p : Int × List Int, (p.2.length = W.length ∧ ∀ w ∈ p.2, 0 ≤ w ∧ w ≤ 5000) ∧ Ev (fun k => spec_weFind.l0 k (tabB (gW W q) (2 ^ W.length)) (x : Int) (W.length : Int) L) (p.1, p.2, true) ∧ Ev (fun k => fnd.l k (W.length : Int) (tabB (gW W q) (2 ^ W.length)) 0 [] (x : Int)) p := by
  obtain ⟨f1, f2, f3⟩ := look_ok _ (W.length - 1) [] x p hx (by simp) hk
  rw [List.length_nil] at f2
  have hWp : Wok p.2 := ⟨by have := hW.1; omega, f3⟩
  obtain ⟨g1, g2⟩ := fit_pos (gW W q) (2 ^ W.length) hpos h0 p.2 hWp p.1 f1
  have ew : wrap64 ((x : Int) + 1) = ((x + 1 : Nat) : Int) := by rw [wrap64_id (by omega)]; omega
  refine ⟨p, ⟨by omega, f3⟩, ?_, ?_⟩
  · obtain ⟨l, e1, e2⟩ := weLook_ev (gW W q) (2 ^ W.length) W.length hp hW.1 (W.length - 1) [] x (by simp; omega) (by simp) hx
    rw [hk] at e1
    obtain rfl := e2 p hk
    refine ev_succ ?_
    simp only [spec_weFind.l0]
    refine Ev.bind e1 (ev_pos rfl (Ev.bind (weQuota_ev (gW W q) _ hp p.2 hWp) (ev_eqv (Ev.now _) ?_)))
    have hf := f1
    unfold fitF at hf
    split at hf
    · cases hf
    · rw [Option.some.inj hf]
  · have e1 := eachW_ev (gW W q) (2 ^ W.length) W.length hp hW.1 (W.length - 1) [] x (by simp; omega) (by simp) hx
    rw [hk] at e1
    refine ev_succ ?_
    simp only [fnd.l]
    refine ev_pos trivial (Ev.bind e1 (ev_succ ?_))
    simp only [fnd.l]
    exact ev_neg g1 (ev_eqv (Ev.now _) rfl)
theorem find_ev (W : List Int) (hW : Wok W) (q : Int) (hq : 1 ≤ q) (hs : q ≤ W.foldr (fun a c => a + c) 0) (hn : 1 ≤ W.length) (T0 : Nat) (hT0 : W.foldr (fun a c => a + c) 0 = (T0 : Int)) (hT1 : T0 ≤ 5000) (L : List (List Int)) :
    ∀ d x, x + d = T0 → ∃ p : Int × List Int, (p.2.length = W.length ∧ ∀ w ∈ p.2, 0 ≤ w ∧ w ≤ 5000) ∧ Ev (fun k => spec_weFind.l0 k (tabB (gW W q) (2 ^ W.length)) (x : Int) (W.length : Int) L) (p.1, p.2, true) ∧ Ev (fun k => fnd.l k (W.length : Int) (tabB (gW W q) (2 ^ W.length)) 0 [] (x : Int)) p := by
  have hp : 2 ^ W.length ≤ 512 := Nat.pow_le_pow_right (n := 2) (by decide) hW.1
  have hpos := Nat.two_pow_pos W.length
  have h0 : gW W q 0 = false := by
    unfold gW
    have : ∀ (V : List Int) (i : Nat), wtF V 0 i = 0 := fun V => by
      induction V with
      | nil => intro i; rfl
      | cons v vs ih => intro i; rw [wtF, ih, bitB_test, Nat.zero_testBit, if_neg (by decide)]; rfl
    rw [this]
    exact decide_eq_false (by omega)
  intro d
  induction d with
  | zero =>
    intro x hx
    obtain rfl : x = T0 := by omega
    have hne := look_some (fitF (gW W q) (2 ^ W.length)) (W.length - 1) [] W x (by omega) (fun w h => (hW.2 w h).1) hT0 (by rw [List.nil_append]; exact own_fit W hW q hq hs)
    obtain ⟨p, hk⟩ := Option.ne_none_iff_exists'.1 hne
    exact find_now W hW q hn hp hpos h0 L x hT1 p hk
  | succ d ih =>
    intro x hx
    cases hk : lookF (fitF (gW W q) (2 ^ W.length)) (W.length - 1) [] x with
    | some p => exact find_now W hW q hn hp hpos h0 L x (by omega) p hk
    | none =>
      obtain ⟨p, h1, h2, h3⟩ := ih (x + 1) (by omega)
      have ew : wrap64 ((x : Int) + 1) = ((x + 1 : Nat) : Int) := by rw [wrap64_id (by omega)]; omega
      refine ⟨p, h1, ?_, ?_⟩
      · obtain ⟨l, e1, e2⟩ := weLook_ev (gW W q) (2 ^ W.length) W.length hp hW.1 (W.length - 1) [] x (by simp; omega) (by simp) (by omega)
        rw [hk] at e1
        refine ev_succ ?_
        simp only [spec_weFind.l0]
        refine Ev.bind e1 (ev_neg (by simp) ?_)
        rw [ew]; exact h2
      · have e1 := eachW_ev (gW W q) (2 ^ W.length) W.length hp hW.1 (W.length - 1) [] x (by simp; omega) (by simp) (by omega)
        rw [hk] at e1
        refine ev_succ ?_
        simp only [fnd.l]
        refine ev_pos trivial (Ev.bind e1 ?_)
        rw [ew]; exact h3
theorem wK_of (g : Nat → Bool) (n i j : Nat) (hn : n ≤ 9) (hi : i < n) (hj : j < n) (h : allB (wsB g i j) (2 ^ n) 0 = true) : wK n (encT g (2 ^ n)) i j = true := by
  unfold wK
  rw [beq_iff_eq]
  refine Nat.eq_of_testBit_eq fun m => ?_
  unfold offK
  simp only [Nat.testBit_and, Nat.testBit_shiftRight, encT_bit]
  by_cases c : m < 2 ^ n
  · rw [decide_eq_true c, Bool.true_and]
    unfold allB at h
    have h1 := List.all_eq_true.1 h m (List.mem_range.2 (by omega))
    rw [Nat.zero_add] at h1
    unfold wsB at h1
    rw [bitB_test, bitB_test] at h1
    cases e1 : m.testBit i with
    | true => simp
    | false =>
      cases e2 : m.testBit j with
      | true => simp
      | false =>
        have l1 := add_lt m i n hn c hi (by rw [bitB_test]; exact e1)
        rw [e1, e2, Nat.add_comm m, Nat.add_comm m] at h1
        rw [Nat.add_comm] at l1
        rw [decide_eq_true l1]
        revert h1
        cases g (2 ^ j + m) <;> cases g (2 ^ i + m) <;> simp
  · rw [decide_eq_false c]; simp
theorem phi_b (x : Nat) : 0 ≤ phiK.getD x 0 ∧ phiK.getD x 0 ≤ 12 := by
  by_cases h : x < 17
  · have : ∀ y : Nat, y < 17 → 0 ≤ phiK.getD y 0 ∧ phiK.getD y 0 ≤ 12 := by decide
    exact this x h
  · rw [List.getD_eq_getElem?_getD, List.getElem?_eq_none (by show 17 ≤ x; omega)]; decide
theorem sum_le (W : List Int) (h : ∀ w ∈ W, 0 ≤ w ∧ w ≤ 12) : 0 ≤ W.foldr (fun a c => a + c) 0 ∧ W.foldr (fun a c => a + c) 0 ≤ (W.length : Int) * 12 := by
  induction W with
  | nil => simp
  | cons v vs ih =>
    have h1 := ih (fun z hz => h z (List.mem_cons_of_mem _ hz))
    have h2 := h v (List.mem_cons_self ..)
    rw [List.foldr_cons, List.length_cons]
    omega
theorem hasW (hK : ∀ k, k < 5 → chkA k = true) (g : Nat → Bool) (n : Nat) (hn : 1 ≤ n ∧ n ≤ 5) (hm : MonG g (2 ^ n)) (h0 : g 0 = false) (h1 : g (2 ^ n - 1) = true)
    (hc : ∀ i j, i < n → j < n → allB (wsB g i j) (2 ^ n) 0 = true ∨ allB (wsB g j i) (2 ^ n) 0 = true) :
    ∃ (W : List Int) (q : Int), Wok W ∧ W.length = n ∧ 1 ≤ q ∧ q ≤ W.foldr (fun a c => a + c) 0 ∧ W.foldr (fun a c => a + c) 0 ≤ 5000 ∧ ∀ m, m < 2 ^ n → g m = gW W q m := by
  have hpos := Nat.two_pow_pos n
  obtain ⟨k, rfl⟩ : ∃ k, n = k + 1 := ⟨n - 1, by omega⟩
  have h := chkA_at (hK k (by omega)) g hm
  have hcK : complK (k + 1) (encT g (2 ^ (k + 1))) = true := by
    unfold complK
    refine List.all_eq_true.2 fun i hi => List.all_eq_true.2 fun j hj => ?_
    have hi := List.mem_range.1 hi
    have hj := List.mem_range.1 hj
    rw [Bool.or_eq_true]
    rcases hc i j hi (by omega) with h | h
    · exact .inl (wK_of g (k + 1) i j (by omega) hi (by omega) h)
    · exact .inr (wK_of g (k + 1) j i (by omega) (by omega) hi h)
  unfold chkK at h
  rw [hcK, encT_bit, encT_bit, h0, h1, decide_eq_true (show 2 ^ (k + 1) - 1 < 2 ^ (k + 1) by omega)] at h
  simp only [Bool.not_true, Bool.and_false, Bool.and_true, Bool.false_or] at h
  generalize hW : wtsK (k + 1) (encT g (2 ^ (k + 1))) = W at h
  generalize maxL W (encT g (2 ^ (k + 1))) (2 ^ (k + 1)) + 1 = q at h
  have hb : ∀ w ∈ W, 0 ≤ w ∧ w ≤ 12 := by
    intro w hw
    rw [← hW] at hw
    obtain ⟨i, _, rfl⟩ := List.mem_map.1 hw
    exact phi_b _
  have hl : W.length = k + 1 := by rw [← hW]; simp [wtsK]
  have hs := sum_le W hb
  unfold fitsK at h
  rw [Bool.and_eq_true, decide_eq_true_eq] at h
  have hg : ∀ m, m < 2 ^ (k + 1) → g m = gW W q m := by
    intro m hm
    have h2 := List.all_eq_true.1 h.2 m (List.mem_range.2 hm)
    rw [beq_iff_eq, encT_bit, decide_eq_true hm, Bool.true_and] at h2
    rw [h2]; rfl
  refine ⟨W, q, ⟨by omega, fun w hw => by have := hb w hw; omega⟩, hl, h.1, ?_, by omega, hg⟩
  have h3 := hg (2 ^ (k + 1) - 1) (by omega)
  rw [h1] at h3
  have h4 : q ≤ wtF W (2 ^ (k + 1) - 1) 0 := of_decide_eq_true h3.symm
  rw [wt_full W _ 0 (fun j hj => by rw [bitB_test, Nat.testBit_two_pow_sub_one, Nat.zero_add]; exact decide_eq_true (by omega))] at h4
  exact h4
theorem swap_K : ((List.range 5).all fun i => (List.range 5).all fun j => (List.range 32).all fun S => S.testBit i || S.testBit j || (List.range 32).all fun T => T.testBit i || T.testBit j || i == j ||
    (betw (S + 2 ^ i) (T + 2 ^ j) (S + 2 ^ j) && wOf (S + 2 ^ i) (T + 2 ^ j) (S + 2 ^ j) == T + 2 ^ i && (betw (S + 2 ^ i) (T + 2 ^ j) (T + 2 ^ i) && wOf (S + 2 ^ i) (T + 2 ^ j) (T + 2 ^ i) == S + 2 ^ j))) = true := by decide +kernel
theorem swap_at {i j S T : Nat} (hi : i < 5) (hj : j < 5) (hS : S < 32) (hT : T < 32) (hij : i ≠ j) (a : S.testBit i = false) (b : S.testBit j = false) (c : T.testBit i = false) (d : T.testBit j = false) :
    (betw (S + 2 ^ i) (T + 2 ^ j) (S + 2 ^ j) = true ∧ wOf (S + 2 ^ i) (T + 2 ^ j) (S + 2 ^ j) = T + 2 ^ i) ∧ (betw (S + 2 ^ i) (T + 2 ^ j) (T + 2 ^ i) = true ∧ wOf (S + 2 ^ i) (T + 2 ^ j) (T + 2 ^ i) = S + 2 ^ j) := by
  have h := List.all_eq_true.1 (List.all_eq_true.1 (List.all_eq_true.1 swap_K i (List.mem_range.2 hi)) j (List.mem_range.2 hj)) S (List.mem_range.2 hS)
  rw [a, b, Bool.false_or, Bool.false_or] at h
  have h := List.all_eq_true.1 h T (List.mem_range.2 hT)
  rw [c, d, Bool.false_or, Bool.false_or] at h
  simpa [hij] using h
theorem two_in {s t : Nat} : ∀ O : List Nat, s ∈ O → t ∈ O → (∃ a r, O = a ++ s :: r ∧ t ∈ s :: r) ∨ (∃ a r, O = a ++ t :: r ∧ s ∈ t :: r)
  | [], h, _ => by cases h
  | v :: O, hs, ht => by
    by_cases e1 : v = s
    · subst e1
      exact .inl ⟨[], O, rfl, ht⟩
    by_cases e2 : v = t
    · subst e2
      exact .inr ⟨[], O, rfl, hs⟩
    have hs : s ∈ O := (List.mem_cons.1 hs).resolve_left (fun h => e1 h.symm)
    have ht : t ∈ O := (List.mem_cons.1 ht).resolve_left (fun h => e2 h.symm)
    rcases two_in O hs ht with ⟨a, r, e, h⟩ | ⟨a, r, e, h⟩
    · exact .inl ⟨v :: a, r, by rw [e]; rfl, h⟩
    · exact .inr ⟨v :: a, r, by rw [e]; rfl, h⟩
theorem betw_comm (s t u : Nat) : betw s t u = betw t s u := by
  unfold betw aN
  rw [Nat.or_comm, Nat.and_comm s t]
theorem wOf_comm (s t u : Nat) : wOf s t u = wOf t s u := by
  unfold wOf aN
  rw [Nat.or_comm s t, Nat.and_comm s t]
theorem trade_at (g : Nat → Bool) (O : List Nat) (s t u w : Nat) (hs : s ∈ O) (ht : t ∈ O) (hu : u ∈ O) (hw : w ∈ O) (gs : g s = true) (gt : g t = true) (gu : g u = false) (gw : g w = false)
    (b1 : betw s t u = true) (w1 : wOf s t u = w) (b2 : betw s t w = true) (w2 : wOf s t w = u) : allT g (fun _ _ _ _ => true) O O ≠ none := by
  have key : ∀ s t, g s = true → g t = true → betw s t u = true → wOf s t u = w → betw s t w = true → wOf s t w = u → (∃ a r, O = a ++ s :: r ∧ t ∈ s :: r) → allT g (fun _ _ _ _ => true) O O ≠ none := by
    rintro s t gs gt b1 w1 b2 w2 ⟨a, r, e, h⟩ hn
    rw [allT_head, List.head?_eq_none_iff] at hn
    have hI : ∃ c, c ∈ liI g (fun _ _ _ _ => true) s t O := by
      rcases two_in O hu hw with ⟨a', r', e', h'⟩ | ⟨a', r', e', h'⟩
      · exact ⟨_, (liI_mem g _ O).2 ⟨a', u, r', e', by unfold inQ; rw [w1, gu, gw, b1]; simpa using h', rfl⟩⟩
      · exact ⟨_, (liI_mem g _ O).2 ⟨a', w, r', e', by unfold inQ; rw [w2, gu, gw, b2]; simpa using h', rfl⟩⟩
    obtain ⟨c, hc⟩ := hI
    have : c ∈ liA g (fun _ _ _ _ => true) O O := (liA_mem g _ O O).2 ⟨a, s, r, e, (liO_mem g _ O _).2 ⟨gs, t, h, gt, hc⟩⟩
    rw [hn] at this
    cases this
  rcases two_in O hs ht with h | h
  · exact key s t gs gt b1 w1 b2 w2 h
  · exact key t s gt gs (by rw [betw_comm]; exact b1) (by rw [wOf_comm]; exact w1) (by rw [betw_comm]; exact b2) (by rw [wOf_comm]; exact w2) h
theorem allB_false {p : Nat → Bool} {N : Nat} (h : ¬ allB p N 0 = true) : ∃ m, m < N ∧ p m = false := by
  unfold allB at h
  rw [List.all_eq_true] at h
  obtain ⟨m, hm⟩ := Classical.not_forall.1 h
  obtain ⟨h1, h2⟩ := Classical.not_imp.1 hm
  have := List.mem_range.1 h1
  rw [Nat.zero_add] at h2
  exact ⟨m, by omega, eq_false_of_ne_true h2⟩
theorem wsB_false {g : Nat → Bool} {i j m : Nat} (h : wsB g i j m = false) : m.testBit i = false ∧ m.testBit j = false ∧ g (m + 2 ^ j) = true ∧ g (m + 2 ^ i) = false := by
  unfold wsB at h
  rw [bitB_test, bitB_test] at h
  simpa [and_assoc] using h
theorem trade_unlike (g : Nat → Bool) (n i j : Nat) (hn : n ≤ 5) (hi : i < n) (hj : j < n) (h1 : ¬ allB (wsB g i j) (2 ^ n) 0 = true) (h2 : ¬ allB (wsB g j i) (2 ^ n) 0 = true) :
    allT g (fun _ _ _ _ => true) (ordL (2 ^ n)) (ordL (2 ^ n)) ≠ none := by
  have hp : 2 ^ n ≤ 32 := Nat.pow_le_pow_right (n := 2) (by decide) hn
  obtain ⟨T, hT, e1⟩ := allB_false h1
  obtain ⟨S, hS, e2⟩ := allB_false h2
  obtain ⟨t1, t2, t3, t4⟩ := wsB_false e1
  obtain ⟨s1, s2, s3, s4⟩ := wsB_false e2
  have hij : i ≠ j := fun e => by subst e; rw [t3] at t4; cases t4
  obtain ⟨⟨b1, w1⟩, b2, w2⟩ := swap_at (show i < 5 by omega) (show j < 5 by omega) (show S < 32 by omega) (show T < 32 by omega) hij s2 s1 t1 t2
  have mem : ∀ x k, x < 2 ^ n → k < n → x.testBit k = false → x + 2 ^ k ∈ ordL (2 ^ n) := fun x k hx hk hb =>
    (ordL_perm (2 ^ n) (by omega)).mem_iff.2 (List.mem_range.2 (add_lt x k n (by omega) hx hk (by rw [bitB_test]; exact hb)))
  exact trade_at g _ (S + 2 ^ i) (T + 2 ^ j) (S + 2 ^ j) (T + 2 ^ i) (mem S i hS hi s2) (mem T j hT hj t2) (mem S j hS hj s1) (mem T i hT hi t1) s3 t3 s4 t4 b1 w1 b2 w2
end Go.Proofs.YtmbkmabpebjboaaGreat.Q
end

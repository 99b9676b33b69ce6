/- Part 4 of the proof of FnChambersNeededOfAll: what it leans on (no condition). -/
import Derived.Test.YtodchjdgpnpdcaaGreatKFnChambersNeededOfAll3
import Derived.Shelf.SlSortCmp.NoneTotal
section
namespace Go.Proofs.YtodchjdgpnpdcaaGreat.Q
open Go.RowKit Go.Proofs.YtodchjdgpnpdcaaGreatW.PrintWords Go.Proofs.YtodchjdgpnpdcaaGreatW.PrintLast Go.Proofs.YtodchjdgpnpdcaaGreatW.PrintMore
attribute [local go_sem] Xm Um Pp Qp ql yl Gm Mm
set_option linter.unusedVariables false
set_option linter.unusedSimpArgs false
set_option maxHeartbeats 8000000
set_option maxRecDepth 100000
mutual
def Ia.l0 : Nat → List Bool → Int → Int → Option (Bool)
 | 0, _, _, _ => none
 | k + 1, x0, x1, x5 => if x5 < x1 then (Ia.l1 k x0 x1 x5 0) else (some true)
def Ia.l1 : Nat → List Bool → Int → Int → Int → Option (Bool)
 | 0, _, _, _, _ => none
 | k + 1, x0, x1, x5, x6 => if x6 < x5 then ((Ng.f k x0 x5 x6).bind fun t382 => (if t382 = true then (some false) else (Ia.l1 k x0 x1 x5 (wrap64 (x6 + 1))))) else (Ia.l0 k x0 x1 (wrap64 (x5 + 1)))
end
def Ia.f (k : Nat) (l0 : List Bool) (a1 : Int) : Option (Bool) := Ia.l0 k l0 a1 0
theorem Ia.calls (k : Nat) (A0 : Option Addr) (c0 : Nat) (l0 : List Bool) (a1 : Int) (r : Bool) (w : World) (hr0 : Kd.C Kd.bool w A0 l0.length l0) (hc0 : l0.length ≤ c0) (h : Ia.f k l0 a1 = some r) :
 Calls Tryz.prog 68 #[.slice A0 l0.length c0, .int .i64 a1] w fun e w' => e = .returned (.bool r) ∧ Jd w w' := by
 have HR0 := qa.mk hr0;have HC0 := qa.mk hc0;clear hr0 hc0;have H : (Ia.l0 k l0 a1 0) = some r := h;clear h;have H' := qa.mk H;clear H;go_enter Tryz.func68, Tryz.ntmps68;go_wp2;go_loopg [5] k (fun kq v5 w' => ∃ (x5_1 : Int), v5 = .int .i64 x5_1 ∧ qa (Ia.l0 kq l0 a1 x5_1 = some r) ∧ qa (kq ≤ k) ∧ Jd w w');case atStart => exact ⟨(0), zE, H', ⟨Nat.le_refl _⟩, zD⟩
 case round =>
  clear H';try clear p2
  obtain ⟨x5_1, rfl, HA, HK1, ⟨m1, rfl⟩⟩ := hrel;cases gk with
  | zero => exact absurd HA.out (by simp [Ia.l0])
  | succ k1 =>
   have H := HA.out;clear HA;simp only [Ia.l0] at H;by_cases c3 : x5_1 < a1
   rotate_left
   ·rw [if_neg c3] at H;have c3b0 := decide_eq_false c3;clear c3;obtain rfl := Option.some.inj H;go_wp2;go_ret;exact za1
   rw [if_pos c3] at H;have c3b0 := decide_eq_true c3;clear c3;have H' := qa.mk H;clear H;go_wp2;go_loopg [6] k1 (fun kq v6 w' => ∃ (x6_2 : Int), v6 = .int .i64 x6_2 ∧ qa (Ia.l1 kq l0 a1 x5_1 x6_2 = some r) ∧ qa (kq ≤ k1) ∧ Jd w w');case atStart => exact ⟨(0), zE, H', ⟨Nat.le_refl _⟩, zD⟩
   case round =>
    clear H';try clear p2
    try clear c3
    try clear c3b0
    try clear p2
    obtain ⟨x6_2, rfl, HA, HK2, ⟨m2, rfl⟩⟩ := hrel;cases gk with
    | zero => exact absurd HA.out (by simp [Ia.l1])
    | succ k2 =>
     have H := HA.out;clear HA;simp only [Ia.l1] at H;by_cases c4 : x6_2 < x5_1
     rotate_left
     ·rw [if_neg c4] at H;have c4b0 := decide_eq_false c4;clear c4;have H' := qa.mk H;clear H;go_wp2;go_roundg k2;case measure => have := HK1.out; have := HK2.out; omega
      case rel => exact ⟨(wrap64 (x5_1 + 1)), zE, H', zO2 HK1 HK2, zD⟩
     rw [if_pos c4] at H;have c4b0 := decide_eq_true c4;clear c4;replace H := zB0 H;obtain ⟨t382, A50, H⟩ := H;have A5 := qa.mk A50;clear A50;by_cases c6 : t382 = true
     ·subst c6;rw [if_pos rfl] at H;obtain rfl := Option.some.inj H;go_wp2_with (first | ((with_reducible refine Va (f := 123) rfl ?_); refine zl 20 Tryz.func123 #[.slice A0 l0.length c0, .int .i64 x5_1, .int .i64 x6_2] ?_; (with_reducible refine (Ng.calls k2 _ _ l0 x5_1 x6_2 true _ ?side1 ?side2 A5.out).mono ?_); (case side1 => exact zQ HR0.out); (case side2 => exact HC0.out); rintro e w' ⟨rfl, ⟨nd, rfl⟩⟩; refine ⟨_, rfl, ?_⟩));go_ret;exact za1
     replace c6 := Bool.eq_false_iff.mpr c6;subst c6;rw [if_neg zF] at H;have H' := qa.mk H;clear H;go_wp2_with (first | ((with_reducible refine Va (f := 123) rfl ?_); refine zl 20 Tryz.func123 #[.slice A0 l0.length c0, .int .i64 x5_1, .int .i64 x6_2] ?_; (with_reducible refine (Ng.calls k2 _ _ l0 x5_1 x6_2 false _ ?side1 ?side2 A5.out).mono ?_); (case side1 => exact zQ HR0.out); (case side2 => exact HC0.out); rintro e w' ⟨rfl, ⟨nd, rfl⟩⟩; refine ⟨_, rfl, ?_⟩));go_roundg k2;case measure => have := HK1.out; have := HK2.out; omega
     case rel => exact ⟨(wrap64 (x6_2 + 1)), zE, H', zO2 HK1 HK2, zD⟩
def Jf.l0 : Nat → List Bool → List Bool → Int → Int → Option (Bool)
 | 0, _, _, _, _ => none
 | k + 1, x0, x1, x12, x13 => if x13 < x12 then (if 0 ≤ x13 then (if x13 < (x0.length : Int) then (if x13 < (x1.length : Int) then (if ((yf false x0 x13) != (yf false x1 x13)) = true then (some false) else (Jf.l0 k x0 x1 x12 (wrap64 (x13 + 1)))) else (none)) else (none)) else (none)) else (some true)
def Jf.f (k : Nat) (l0 : List Bool) (l1 : List Bool) : Option (Bool) := if (l0.length : Int) = (l1.length : Int) then (Jf.l0 k l0 l1 (l0.length : Int) 0) else (some false)
theorem Jf.calls (k : Nat) (A0 : Option Addr) (c0 : Nat) (l0 : List Bool) (A1 : Option Addr) (c1 : Nat) (l1 : List Bool) (r : Bool) (w : World) (hr0 : Kd.C Kd.bool w A0 l0.length l0) (hc0 : l0.length ≤ c0) (hr1 : Kd.C Kd.bool w A1 l1.length l1) (hc1 : l1.length ≤ c1) (h : Jf.f k l0 l1 = some r) :
 Calls Tryz.prog 121 #[.slice A0 l0.length c0, .slice A1 l1.length c1] w fun e w' => e = .returned (.bool r) ∧ Jd w w' := by
 have HR0 := qa.mk hr0;have HC0 := qa.mk hc0;clear hr0 hc0;have HR1 := qa.mk hr1;have HC1 := qa.mk hc1;clear hr1 hc1;have H : (if (l0.length : Int) = (l1.length : Int) then (Jf.l0 k l0 l1 (l0.length : Int) 0) else (some false)) = some r := h;clear h;by_cases c3 : (l0.length : Int) = (l1.length : Int)
 rotate_left
 ·rw [if_neg c3] at H;have c3b0 := beq_eq_false_iff_ne.mpr c3;have c3b1 := bne_iff_ne.mpr c3;have c3b2 : (l0.length == l1.length) = false := by first | simpa using c3 | (simp at c3 ⊢; omega)
  obtain rfl := Option.some.inj H;go_enter Tryz.func121, Tryz.ntmps121;go_wp2;repeat (go_quiet (fail); try go_wp2)
  go_ret;exact za1
 rw [if_pos c3] at H;have c3b0 := beq_iff_eq.mpr c3;have c3b1 := bne_eq_false_iff_eq.mpr c3;have c3b2 : (l0.length == l1.length) = true := by first | simpa using c3 | (simp at c3 ⊢; omega)
 clear c3;have H' := qa.mk H;clear H;go_enter Tryz.func121, Tryz.ntmps121;go_wp2;repeat (go_quiet (fail); try go_wp2)
 go_loopg [13] k (fun kq v13 w' => ∃ (x13_1 : Int), v13 = .int .i64 x13_1 ∧ qa (Jf.l0 kq l0 l1 (l0.length : Int) x13_1 = some r) ∧ qa (kq ≤ k) ∧ Jd w w');case atStart => exact ⟨(0), zE, H', ⟨Nat.le_refl _⟩, zD⟩
 case round =>
  clear H';try clear c1
  try clear p2
  try clear c3
  try clear c3b0
  try clear c3b1
  try clear c3b2
  obtain ⟨x13_1, rfl, HA, HK1, ⟨m1, rfl⟩⟩ := hrel;cases gk with
  | zero => exact absurd HA.out (by simp [Jf.l0])
  | succ k1 =>
   have H := HA.out;clear HA;simp only [Jf.l0] at H;by_cases c4 : x13_1 < (l0.length : Int)
   rotate_left
   ·rw [if_neg c4] at H;have c4b0 := decide_eq_false c4;clear c4;obtain rfl := Option.some.inj H;go_wp2;repeat (go_quiet (fail); try go_wp2)
    go_ret;exact za1
   rw [if_pos c4] at H;have c4b0 := decide_eq_true c4;clear c4;by_cases c5 : 0 ≤ x13_1
   rotate_left
   ·rw [if_neg c5] at H;cases H
   rw [if_pos c5] at H;have c5b0 := decide_eq_true c5;clear c5;by_cases c6 : x13_1 < (l0.length : Int)
   rotate_left
   ·rw [if_neg c6] at H;cases H
   rw [if_pos c6] at H;have c6b0 := decide_eq_true c6;clear c6;by_cases c7 : x13_1 < (l1.length : Int)
   rotate_left
   ·rw [if_neg c7] at H;cases H
   rw [if_pos c7] at H;have c7b0 := decide_eq_true c7;clear c7;by_cases c8 : ((yf false l0 x13_1) != (yf false l1 x13_1)) = true
   ·rw [if_pos c8] at H;have c8b0 : ((yf false l0 x13_1) != (yf false l1 x13_1)) = true := c8;(try (have c8b1 : decide ((yf false l0 x13_1) = (yf false l1 x13_1)) = false := by simpa using c8))
    (try (have c8b2 : ((yf false l0 x13_1) == (yf false l1 x13_1)) = false := by simpa using c8))
    (try (have c8b3 : ¬ ((yf false l0 x13_1) = (yf false l1 x13_1)) := by simpa using c8))
    clear c8;obtain rfl := Option.some.inj H;obtain ⟨⟨ad413, e413, hx413_0⟩, p413, q413⟩ := zW (Kd.at_bool HR0.out x13_1);cases e413;obtain ⟨⟨ad414, e414, hx414_0⟩, p414, q414⟩ := zW (Kd.at_bool HR1.out x13_1);cases e414;go_wp2;repeat (go_quiet (fail); try go_wp2)
    go_ret;exact za1
   rw [if_neg c8] at H;have c8b0 : ((yf false l0 x13_1) != (yf false l1 x13_1)) = false := by simpa using c8
   (try (have c8b1 : decide ((yf false l0 x13_1) = (yf false l1 x13_1)) = true := by simpa using c8))
   (try (have c8b2 : ((yf false l0 x13_1) == (yf false l1 x13_1)) = true := by simpa using c8))
   clear c8;have H' := qa.mk H;clear H;obtain ⟨⟨ad413, e413, hx413_0⟩, p413, q413⟩ := zW (Kd.at_bool HR0.out x13_1);cases e413;obtain ⟨⟨ad414, e414, hx414_0⟩, p414, q414⟩ := zW (Kd.at_bool HR1.out x13_1);cases e414;go_wp2;repeat (go_quiet (fail); try go_wp2)
   go_roundg k1;case measure => have := HK1.out; omega
   case rel => exact ⟨(wrap64 (x13_1 + 1)), zE, H', zO HK1, zD⟩
def Xe.l0 : Nat → Int → Int → List Int → Int → Int → Option (Int)
 | 0, _, _, _, _, _ => none
 | k + 1, x1, x5, x9, x10, x11 => if x11 < x10 then (if 0 ≤ x11 then (if x11 < (x9.length : Int) then (if (Int.tmod (shr .i64 x1 x11) 2) = 1 then (Xe.l0 k x1 (wrap64 (x5 + (rd x9 x11))) x9 x10 (wrap64 (x11 + 1))) else (Xe.l0 k x1 x5 x9 x10 (wrap64 (x11 + 1)))) else (none)) else (none)) else (some x5)
def Xe.f (k : Nat) (a0_0 : Int) (l0_1 : List Int) (a1 : Int) : Option (Int) := Xe.l0 k a1 0 l0_1 (l0_1.length : Int) 0
theorem Xe.calls (k : Nat) (a0_0 : Int) (A0_1 : Option Addr) (c0_1 : Nat) (l0_1 : List Int) (a1 : Int) (r : Int) (w : World) (hr0_1 : Kd.C (Kd.int .i64) w A0_1 l0_1.length l0_1) (hc0_1 : l0_1.length ≤ c0_1) (h : Xe.f k a0_0 l0_1 a1 = some r) :
 Calls Tryz.prog 125 #[.agg #[.int .i64 a0_0, .slice A0_1 l0_1.length c0_1], .int .i64 a1] w fun e w' => e = .returned (.int .i64 r) ∧ Below w.heap.size w w' := by
 have hu40 := Tryz.underlying40;have HR0_1 := qa.mk hr0_1;have HC0_1 := qa.mk hc0_1;clear hr0_1 hc0_1;have HB := qa.mk (Below.refl w.heap.size w);have H : (Xe.l0 k a1 0 l0_1 (l0_1.length : Int) 0) = some r := h;clear h;have H' := qa.mk H;clear H;go_enter Tryz.func125, Tryz.ntmps125;go_wp2_with (first | ((with_reducible refine Ma (N := 2) rfl ?_); refine zq 2 #[.int .i64 a0_0, .slice A0_1 l0_1.length c0_1] 40 ?_; intro gb441 hg w3 hbox hb; have GW441 := zG hg HB; replace HB := zH hb HB; have BK441 := qa.mk hbox; have GE441 := GW441; clear hb hbox hg; obtain ⟨hcz4_0, hcz4_1, hfz4_0, hfz4_1⟩ := zC2 BK441));go_loopg [5, 11] k (fun kq v5 v11 w' => ∃ (x5_1 : Int) (x11_1 : Int), v5 = .int .i64 x5_1 ∧ v11 = .int .i64 x11_1 ∧ qa (Xe.l0 kq a1 x5_1 l0_1 (l0_1.length : Int) x11_1 = some r) ∧ qa (kq ≤ k) ∧ qa (w'.heap[gb441]? = some (.cells #[.int .i64 a0_0, (.slice A0_1 l0_1.length c0_1)] 40 (0, 0))) ∧ qa (Below w.heap.size w w'));case atStart => exact ⟨(0), (0), zE, zE, H', ⟨Nat.le_refl _⟩, ⟨zb BK441.out⟩, ⟨zh HB.out⟩⟩
 case round =>
  clear H';try clear c1
  try clear p2
  try clear hcz4_0
  try clear hcz4_1
  try clear hfz4_0
  try clear hfz4_1
  obtain ⟨x5_1, x11_1, rfl, rfl, HA, HK1, BK441, HB⟩ := hrel;cases gk with
  | zero => exact absurd HA.out (by simp [Xe.l0])
  | succ k1 =>
   have H := HA.out;clear HA;simp only [Xe.l0] at H;by_cases c5 : x11_1 < (l0_1.length : Int)
   rotate_left
   ·rw [if_neg c5] at H;have c5b0 := decide_eq_false c5;clear c5;obtain rfl := Option.some.inj H;go_wp2;go_ret;exact ⟨zL0, zh HB.out⟩
   rw [if_pos c5] at H;have c5b0 := decide_eq_true c5;clear c5;by_cases c6 : 0 ≤ x11_1
   rotate_left
   ·rw [if_neg c6] at H;cases H
   rw [if_pos c6] at H;have c6b0 := decide_eq_true c6;clear c6;by_cases c7 : x11_1 < (l0_1.length : Int)
   rotate_left
   ·rw [if_neg c7] at H;cases H
   rw [if_pos c7] at H;have c7b0 := decide_eq_true c7;clear c7;have c8b0 := eq_true (zk : 0 ≤ x11_1);obtain ⟨ji9, hji9⟩ : ∃ j_ : Int, (shr .i64 a1 x11_1) = j_ := ⟨_, rfl⟩;rw [hji9] at H;obtain ⟨hji9_, hji9z⟩ := zI hji9;by_cases c10 : (Int.tmod (ji9) 2) = 1
   rotate_left
   ·rw [if_neg c10] at H;have c10b0 := beq_eq_false_iff_ne.mpr c10;have c10b1 := bne_iff_ne.mpr c10;have H' := qa.mk H;clear H;obtain ⟨⟨ad442, e442, hx442_0⟩, p442, q442⟩ := zW (Kd.at_int HR0_1.out x11_1);cases e442;replace hx442_0 := zx HB.out hx442_0;go_wp2;go_roundg k1;case measure => have := HK1.out; omega
    case rel => exact ⟨(x5_1), (wrap64 (x11_1 + 1)), zE, zE, H', zO HK1, ⟨zb BK441.out⟩, ⟨zh HB.out⟩⟩
   rw [if_pos c10] at H;have c10b0 := beq_iff_eq.mpr c10;have c10b1 := bne_eq_false_iff_eq.mpr c10;clear c10;have H' := qa.mk H;clear H;obtain ⟨⟨ad442, e442, hx442_0⟩, p442, q442⟩ := zW (Kd.at_int HR0_1.out x11_1);cases e442;replace hx442_0 := zx HB.out hx442_0;go_wp2;go_roundg k1;case measure => have := HK1.out; omega
   case rel => exact ⟨(wrap64 (x5_1 + (rd l0_1 x11_1))), (wrap64 (x11_1 + 1)), zE, zE, H', zO HK1, ⟨zb BK441.out⟩, ⟨zh HB.out⟩⟩
mutual
def Qb.l0 : Nat → Int → Int → List Bool → Int → Int → Int → List Int → Option (Int × Bool)
 | 0, _, _, _, _, _, _, _ => none
 | k + 1, x7, x8, x14, x15, x16, x444000, x444001 => if x16 < x15 then (if 0 ≤ x16 then (if x16 < (x14.length : Int) then ((Xe.f k x444000 x444001 x16).bind fun t445 => (if yf false x14 x16 = true then (if x8 < 0 then (Qb.j1 k x7 x8 (yf false x14 x16) t445 x14 x15 x16 true x444000 x444001) else (Qb.j1 k x7 x8 (yf false x14 x16) t445 x14 x15 x16 (decide (t445 < x8)) x444000 x444001)) else (Qb.j1 k x7 x8 (yf false x14 x16) t445 x14 x15 x16 false x444000 x444001))) else (none)) else (none)) else (some (wrap64 (x7 + 1), decide (x7 < x8)))
def Qb.j1 : Nat → Int → Int → Bool → Int → List Bool → Int → Int → Bool → Int → List Int → Option (Int × Bool)
 | 0, _, _, _, _, _, _, _, _, _, _ => none
 | k + 1, x7, x8, x10, x11, x14, x15, x16, x33, x444000, x444001 => if x33 = true then (if x10 = true then (Qb.l0 k x7 x11 x14 x15 (wrap64 (x16 + 1)) x444000 x444001) else (if x11 > x7 then (Qb.l0 k x11 x11 x14 x15 (wrap64 (x16 + 1)) x444000 x444001) else (Qb.l0 k x7 x11 x14 x15 (wrap64 (x16 + 1)) x444000 x444001))) else (if x10 = true then (Qb.l0 k x7 x8 x14 x15 (wrap64 (x16 + 1)) x444000 x444001) else (if x11 > x7 then (Qb.l0 k x11 x8 x14 x15 (wrap64 (x16 + 1)) x444000 x444001) else (Qb.l0 k x7 x8 x14 x15 (wrap64 (x16 + 1)) x444000 x444001)))
end
def Qb.f (k : Nat) (l0 : List Bool) (l1 : List Int) : Option (Int × Bool) := Qb.l0 k (-1) (-1) l0 (l0.length : Int) 0 0 l1
theorem Qb.calls (k : Nat) (A0 : Option Addr) (c0 : Nat) (l0 : List Bool) (A1 : Option Addr) (c1 : Nat) (l1 : List Int) (r1 : Int) (r2 : Bool) (w : World) (hr0 : Kd.C Kd.bool w A0 l0.length l0) (hc0 : l0.length ≤ c0) (hr1 : Kd.C (Kd.int .i64) w A1 l1.length l1) (hc1 : l1.length ≤ c1) (h : Qb.f k l0 l1 = some (r1, r2)) :
 Calls Tryz.prog 70 #[.slice A0 l0.length c0, .slice A1 l1.length c1] w fun e w' => e = .returned (.tuple #[.int .i64 r1, .bool r2]) ∧ Below w.heap.size w w' := by
 have hu40 := Tryz.underlying40;have HR0 := qa.mk hr0;have HC0 := qa.mk hc0;clear hr0 hc0;have HR1 := qa.mk hr1;have HC1 := qa.mk hc1;clear hr1 hc1;have HB := qa.mk (Below.refl w.heap.size w);have H : (Qb.l0 k (-1) (-1) l0 (l0.length : Int) 0 0 l1) = some (r1, r2) := h;clear h;have H' := qa.mk H;clear H;go_enter Tryz.func70, Tryz.ntmps70;go_wp2_with (first | ((with_reducible refine Ma (N := 6) rfl ?_); refine zq 6 #[.int .i64 0, .slice none 0 0] 40 ?_; intro gb443 hg w3 hbox hb; have GW443 := zG hg HB; replace HB := zH hb HB; have BK443 := qa.mk hbox; have GE443 := GW443; clear hb hbox hg; obtain ⟨hcz4_0, hcz4_1, hfz4_0, hfz4_1⟩ := zC2 BK443));go_loopg [7, 8, 16] k (fun kq v7 v8 v16 w' => ∃ (x7_1 : Int) (x8_1 : Int) (x16_1 : Int), v7 = .int .i64 x7_1 ∧ v8 = .int .i64 x8_1 ∧ v16 = .int .i64 x16_1 ∧ qa (Qb.l0 kq x7_1 x8_1 l0 (l0.length : Int) x16_1 0 l1 = some (r1, r2)) ∧ qa (kq ≤ k) ∧ qa (w'.heap[gb443]? = some (.cells #[.int .i64 0, (.slice A1 l1.length c1)] 40 (0, 0))) ∧ qa (Below w.heap.size w w'));case atStart => exact ⟨((-1)), ((-1)), (0), zE, zE, zE, H', ⟨Nat.le_refl _⟩, ⟨by (with_reducible repeat (first | refine Ca ?_ _ | refine Ra ?_ | refine Qa ?_ _)); refine Yb (cs := #[.int .i64 0, .slice none 0 0]) ?_ 1 _ rfl; (with_reducible repeat (first | refine Ca ?_ _ | refine Ra ?_ | refine Qa ?_ _)); refine Yb (cs := #[.int .i64 0, .slice none 0 0]) ?_ 0 _ rfl; exact zb BK443.out⟩, ⟨zh HB.out⟩⟩
 case round =>
  clear H';try clear c1
  try clear p2
  try clear hcz4_0
  try clear hcz4_1
  try clear hfz4_0
  try clear hfz4_1
  obtain ⟨x7_1, x8_1, x16_1, rfl, rfl, rfl, HA, HK1, BK443, HB⟩ := hrel;cases gk with
  | zero => exact absurd HA.out (by simp [Qb.l0])
  | succ k1 =>
   have H := HA.out;clear HA;simp only [Qb.l0] at H;by_cases c5 : x16_1 < (l0.length : Int)
   rotate_left
   ·rw [if_neg c5] at H;have c5b0 := decide_eq_false c5;clear c5;simp only [Option.some.injEq, Prod.mk.injEq] at H;obtain ⟨rfl, rfl⟩ := H;go_wp2;go_ret2
    exact ⟨zL0, zh HB.out⟩
   rw [if_pos c5] at H;have c5b0 := decide_eq_true c5;clear c5;by_cases c6 : 0 ≤ x16_1
   rotate_left
   ·rw [if_neg c6] at H;cases H
   rw [if_pos c6] at H;have c6b0 := decide_eq_true c6;clear c6;by_cases c7 : x16_1 < (l0.length : Int)
   rotate_left
   ·rw [if_neg c7] at H;cases H
   rw [if_pos c7] at H;have c7b0 := decide_eq_true c7;clear c7;replace H := zB0 H;obtain ⟨t445, A80, H⟩ := H;replace H : (if yf false l0 x16_1 = true then (if x8_1 < 0 then (Qb.j1 k1 x7_1 x8_1 (yf false l0 x16_1) t445 l0 (l0.length : Int) x16_1 true 0 l1) else (Qb.j1 k1 x7_1 x8_1 (yf false l0 x16_1) t445 l0 (l0.length : Int) x16_1 (decide (t445 < x8_1)) 0 l1)) else (Qb.j1 k1 x7_1 x8_1 (yf false l0 x16_1) t445 l0 (l0.length : Int) x16_1 false 0 l1)) = some (r1, r2) := H;have A8 := qa.mk A80;clear A80;have HC9 := qa.mk H;clear H;obtain ⟨⟨ad444, e444, hx444_0⟩, p444, q444⟩ := zW (Kd.at_bool HR0.out x16_1);cases e444;replace hx444_0 := zx HB.out hx444_0;obtain ⟨bz444, hbz444⟩ : ∃ b_ : Bool, b_ = (yf false l0 x16_1) := ⟨_, rfl⟩;(try rw [← hbz444] at hx444_0)
   (try rw [← hbz444] at H)
   (try (have H2_ := H'.out; rw [← hbz444] at H2_; clear H'; have H' := qa.mk H2_; clear H2_))
   (try (have H2_ := HC9.out; rw [← hbz444] at H2_; clear HC9; have HC9 := qa.mk H2_; clear H2_))
   have Nbz444 := qa.mk hbz444;clear hbz444;obtain ⟨hcz10_0, hcz10_1, hfz10_0, hfz10_1⟩ := zC2 BK443;go_upto_region 7 with (first | ((with_reducible refine Va (f := 125) rfl ?_); refine zl 23 Tryz.func125 #[.agg #[.int .i64 0, .slice A1 l1.length c1], .int .i64 x16_1] ?_; (with_reducible refine (Xe.calls k1 0 _ _ l1 x16_1 t445 _ ?side1 ?side2 A8.out).mono ?_); (case side1 => repeat (first | exact (Kd.C_below HR1.out HB.out) | (with_reducible refine Kd.C_alloc ?_ _) | (with_reducible refine Kd.C_drewN ?_ _) | (with_reducible refine Kd.C_drew ?_))); (case side2 => exact HC1.out); rintro e w11 ⟨rfl, hb⟩; refine ⟨_, rfl, ?_⟩; have n0_ := qa.mk (Na (g := gb443) (o := .cells #[.int .i64 0, .slice A1 l1.length c1] 40 (0, 0)) (zb BK443.out) hb); have n1_ := qa.mk (Rc (zh HB.out) hb); clear BK443; clear HB; have BK443 := n0_; have HB := n1_; clear n0_ n1_; (try clear hb); (try clear hb2); (try clear hk); (try clear hi)))
   (try simp only [Act.put, List.setIfInBounds_toArray, List.set_cons_zero, List.set_cons_succ])
   go_cut [33] (fun v33 wc => ∃ (kq : Nat) (x33_8 : Bool), v33 = .bool x33_8 ∧ qa (Qb.j1 kq x7_1 x8_1 bz444 t445 l0 (l0.length : Int) x16_1 x33_8 0 l1 = some (r1, r2)) ∧ qa (kq ≤ k1) ∧ qa (wc.heap[gb443]? = some (.cells #[.int .i64 0, (.slice A1 l1.length c1)] 40 (0, 0))) ∧ qa (Below w.heap.size w wc));case first =>
    have H := HC9.out;clear HC9;(try rw [← Nbz444.out])
    by_cases c13 : bz444 = true
    ·subst c13;rw [if_pos rfl] at H;by_cases c14 : x8_1 < 0
     ·rw [if_pos c14] at H;have c14b0 := decide_eq_true c14;clear c14;have H' := qa.mk H;clear H;go_wp2;go_meet
      case rel => exact ⟨_, (true), zE, H', ⟨by have := HK1.out; first | omega | exact Nat.le_refl _⟩, ⟨zb BK443.out⟩, ⟨zh HB.out⟩⟩
     ·rw [if_neg c14] at H;have c14b0 := decide_eq_false c14;clear c14;have H' := qa.mk H;clear H;go_wp2;go_meet
      case rel => exact ⟨_, (decide (t445 < x8_1)), zE, H', ⟨by have := HK1.out; first | omega | exact Nat.le_refl _⟩, ⟨zb BK443.out⟩, ⟨zh HB.out⟩⟩
    ·replace c13 := Bool.eq_false_iff.mpr c13;subst c13;rw [if_neg zF] at H;have H' := qa.mk H;clear H;go_wp2;go_meet
     case rel => exact ⟨_, (false), zE, H', ⟨by have := HK1.out; first | omega | exact Nat.le_refl _⟩, ⟨zb BK443.out⟩, ⟨zh HB.out⟩⟩
   case rest =>
    clear HC9;try clear c1
    try clear q1
    try clear p2
    try clear p4
    try clear q4
    try clear hx4
    try clear c5
    try clear c5b0
    try clear c6
    try clear c6b0
    try clear c7
    try clear c7b0
    try clear c12
    try clear q12
    try clear c13
    try clear c14
    try clear c14b0
    try clear hcz10_0
    try clear hcz10_1
    try clear hcz4_0
    try clear hcz4_1
    try clear hfz10_0
    try clear hfz10_1
    try clear hfz4_0
    try clear hfz4_1
    try clear hx444_0
    try clear p2
    try clear p444
    try clear q444
    obtain ⟨kq, x33_8, rfl, HA, HJ8, BK443, HB⟩ := hcut;cases kq with
    | zero => exact absurd HA.out (by simp [Qb.j1])
    | succ kj8 =>
     have H := HA.out;clear HA;simp only [Qb.j1] at H;by_cases c15 : x33_8 = true
     ·subst c15;rw [if_pos rfl] at H;by_cases c17 : (bz444) = true
      ·rw [if_pos c17] at H;subst c17;have H' := qa.mk H;clear H;go_wp2;go_roundg kj8;case measure => have := HK1.out; have := HJ8.out; omega
       case rel => exact ⟨(x7_1), (t445), (wrap64 (x16_1 + 1)), zE, zE, zE, H', zO2 HK1 HJ8, ⟨zb BK443.out⟩, ⟨zh HB.out⟩⟩
      rw [if_neg c17] at H;have c17b0 := Bool.eq_false_iff.mpr c17;clear c17;by_cases c18 : t445 > x7_1
      ·rw [if_pos c18] at H;have c18b0 := decide_eq_true c18;clear c18;have H' := qa.mk H;clear H;go_wp2;go_roundg kj8;case measure => have := HK1.out; have := HJ8.out; omega
       case rel => exact ⟨(t445), (t445), (wrap64 (x16_1 + 1)), zE, zE, zE, H', zO2 HK1 HJ8, ⟨zb BK443.out⟩, ⟨zh HB.out⟩⟩
      rw [if_neg c18] at H;have c18b0 := decide_eq_false c18;clear c18;have H' := qa.mk H;clear H;go_wp2;go_roundg kj8;case measure => have := HK1.out; have := HJ8.out; omega
      case rel => exact ⟨(x7_1), (t445), (wrap64 (x16_1 + 1)), zE, zE, zE, H', zO2 HK1 HJ8, ⟨zb BK443.out⟩, ⟨zh HB.out⟩⟩
     replace c15 := Bool.eq_false_iff.mpr c15;subst c15;rw [if_neg zF] at H;by_cases c20 : (bz444) = true
     ·rw [if_pos c20] at H;subst c20;have H' := qa.mk H;clear H;go_wp2;go_roundg kj8;case measure => have := HK1.out; have := HJ8.out; omega
      case rel => exact ⟨(x7_1), (x8_1), (wrap64 (x16_1 + 1)), zE, zE, zE, H', zO2 HK1 HJ8, ⟨zb BK443.out⟩, ⟨zh HB.out⟩⟩
     rw [if_neg c20] at H;have c20b0 := Bool.eq_false_iff.mpr c20;clear c20;by_cases c21 : t445 > x7_1
     ·rw [if_pos c21] at H;have c21b0 := decide_eq_true c21;clear c21;have H' := qa.mk H;clear H;go_wp2;go_roundg kj8;case measure => have := HK1.out; have := HJ8.out; omega
      case rel => exact ⟨(t445), (x8_1), (wrap64 (x16_1 + 1)), zE, zE, zE, H', zO2 HK1 HJ8, ⟨zb BK443.out⟩, ⟨zh HB.out⟩⟩
     rw [if_neg c21] at H;have c21b0 := decide_eq_false c21;clear c21;have H' := qa.mk H;clear H;go_wp2;go_roundg kj8;case measure => have := HK1.out; have := HJ8.out; omega
     case rel => exact ⟨(x7_1), (x8_1), (wrap64 (x16_1 + 1)), zE, zE, zE, H', zO2 HK1 HJ8, ⟨zb BK443.out⟩, ⟨zh HB.out⟩⟩
def Uh.f (l0 : List Int) : Option (List Int) := (some (([] : List Int) : List Int)).bind fun y446 => (if y446.length + l0.length < 17592186044416 then (some (y446 ++ l0)) else (none))
theorem Uh.calls (A0 : Option Addr) (c0 : Nat) (l0 : List Int) (r : List Int) (w : World) (hr0 : Kd.C (Kd.int .i64) w A0 l0.length l0) (hc0 : l0.length ≤ c0) (h : Uh.f l0 = some r) :
 Calls Tryz.prog 124 #[.slice A0 l0.length c0] w fun e w' => ∃ v0_ : Value, e = .returned (v0_) ∧ Kd.R (Kd.int .i64) 3 w' w.heap.size (fun _ => True) v0_ r ∧ Below w.heap.size w w' := by
 have HR0 := qa.mk hr0;have HC0 := qa.mk hc0;clear hr0 hc0;have HB := qa.mk (Below.refl w.heap.size w);have H : ((some (([] : List Int) : List Int)).bind fun y446 => (if y446.length + l0.length < 17592186044416 then (some (y446 ++ l0)) else (none))) = some r := h;clear h;replace H := zY H;obtain ⟨y446, Ny446, H⟩ := H;by_cases c2 : y446.length + l0.length < 17592186044416
 rotate_left
 ·rw [if_neg c2] at H;cases H
 rw [if_pos c2] at H;have LMc2 := qa.mk c2;clear c2;obtain ⟨y449, hy449⟩ : ∃ y_ : List Int, y_ = (y446 ++ l0) := ⟨_, rfl⟩;rw [← hy449] at H;have Ny449 := qa.mk hy449;clear hy449;obtain rfl := Option.some.inj H;go_enter Tryz.func124, Tryz.ntmps124;go_wp2_with (first | ((with_reducible refine Ma (N := 3) rfl ?_); refine Kd.R_lit (Kd.int .i64) _ 3 ?hg (N := 3) ?hd (xs := ([] : List Int)) (inner := []) (ok := fun _ => True) (okp := fun _ => True) ?hr ?hp (fun _ hk => hk) trivial (Below.refl _ _) (Nat.le_refl _) (by simp) ?_; (case hd => rfl); (case hg => rfl); (case hr => first | (go_simp; done) | (go_simp; rfl)); (case hp => exact (qg.none _ _)); intro v447 w3 ho4 hb hg_ hnew_; clear hg_ hnew_; (first | rw [← Ny446.out] at ho4 | (simp only [Int.reduceToNat] at ho4; rw [← Ny446.out] at ho4)); have HO448 := qa.mk (Kd.R_lower ho4 (Ua (zh HB.out))); replace HB := zH hb HB; clear hb ho4) | ((with_reducible refine Uc (b := .append) (xs := #[.tmp 3, .tmp 4]) rfl ?_); at_builtin; refine Kd.R_append_rows (Kd.int .i64) (w0 := w) w.heap.size rfl (.tmp 3) (.tmp 4) 35 3 (.int .i64 0) 8 rfl Tryz.underlying35 info3 rfl (by decide) (by omega) v447 y446 l0 _ _ _ (fun _ => True) (fun _ => False) rfl rfl ?aO ?aR (fun _ _ h => h) (fun _ h => h.elim) ?aF ?aB ?aS ?aL ?_; (case aR => exact zQ (Kd.C_below HR0.out HB.out)); (case aB => exact (zh HB.out)); (case aF => exact (fun _ _ => trivial)); (case aO => exact (zr HO448.out)); (case aS => exact (Ua (zh HB.out))); (case aL => have := LMc2.out; omega); intro v450 w5 ho hb hg hat; rw [← Ny449.out] at ho; have HO451 := qa.mk (ho); replace HB := qa.mk (hb); clear HO448 ho hb hg hat));go_ret;exact ⟨_, zL0, by (with_reducible repeat (first | apply Kd.R_alloc | apply Kd.R_drewN | apply Kd.R_drew)); exact HO451.out, zh HB.out⟩
def Ee.f (k : Nat) (n : Int) (o : List Bool) : Nat → List Bool → Option (List S24)
 | 0, p => if yf false p ((p.length - 1 : Nat) : Int) = true then (if yf false p 0 = true then some [] else (Ia.f k p n).bind fun b => if b = true then (Yi.f k n p).bind fun g => some [⟨g.1, g.2⟩] else some []) else some []
 | d + 1, p => (Jc.f k (p.length : Int)).bind fun s => (Fp p s (yf false o (p.length : Int))).bind fun m => (Ee.f k n o d (p ++ [true])).bind fun l1 => if m = true then some l1 else (Ee.f k n o d (p ++ [false])).bind fun l2 => some (l1 ++ l2)
structure Gw (gw go : Nat) (u w0 w : World) (ws : List Bool) (v : Value) (gs : List S24) : Prop where
 N : Kd.N k24 24 w w0.heap.size (fun z => w0.heap.size ≤ z) v gs
 O : w.heap[go]? = some (.cells #[v] 47 (0, 0))
 W : w.heap[gw]? = some (.cells (ws.map Value.bool).toArray 4 (0, 0))
 K : Kept w0 w (fun z => z = gw ∨ z = go)
 B : Below u.heap.size u w
section
variable {gw go : Nat} {u w0 w w1 : World} {ws : List Bool} {v : Value} {gs : List S24}
theorem Gw.below (h : Gw gw go u w0 w ws v gs) (hb : Below w.heap.size w w1) : Gw gw go u w0 w1 ws v gs :=
 ⟨Kd.N_below h.N hb, Na h.O hb, Na h.W hb, h.K.below hb, h.B.trans (hb.mono h.B.size)⟩
theorem Gw.alloc (h : Gw gw go u w0 w ws v gs) (o : Obj) : Gw gw go u w0 (w.alloc o) ws v gs := h.below ((Below.refl _ _).alloc (Nat.le_refl _) o)
theorem Gw.put (h : Gw gw go u w0 w ws v gs) (hne : gw ≠ go) (hbw : u.heap.size ≤ gw) (hw0 : gw < w0.heap.size) (i : Nat) (b : Bool) : Gw gw go u w0 (w.setCell ⟨gw, i, none⟩ (.bool b)) (ws.set i b) v gs :=
 ⟨Kd.N_far h.N (fun k hk => by have h1 : w0.heap.size ≤ k := hk; show k ≠ gw; omega) _, Nh h.O (Ne.symm hne) _, Yb h.W i _ (by simp), h.K.setCell (.inl (.inl rfl)) _, Re h.B hbw⟩
end
theorem GI (k : Nat) (n : Int) (A : Option Addr) (c : Nat) (o : List Bool) (gw go : Nat) (u w0 : World) (hC : ∀ W, Kept w0 W (fun z => z = gw ∨ z = go) → Kd.C Kd.bool W A o.length o) (hc : o.length ≤ c) (hne : gw ≠ go) (hbw : u.heap.size ≤ gw) (hbo : u.heap.size ≤ go) (hw0 : gw < w0.heap.size) (ho0 : go < w0.heap.size)
 (p : List Bool) (N q : Nat) (hp : p.length = N) (hq : N = q + 1) (hN : N ≤ 65536) (gs r : List S24) (v : Value) (w : World) (hr : gs.length + r.length ≤ 1000000) (h : Ee.f k n o 0 p = some r) (hS : Gw gw go u w0 w p v gs) :
 Calls Tryz.prog 120 #[.slice (some ⟨gw, 0, none⟩) N N, .slice A o.length c, .int .i64 N, .int .i64 n, .pointer (some ⟨go, 0, none⟩)] w fun e w' => e = .returned (.tuple #[]) ∧ ∃ v', Gw gw go u w0 w' p v' (gs ++ r) := by
 have h1 : wrap64 ((N : Int) - 1) = (q : Int) := by unfold wrap64; omega
 have hqN : (q : Int) < (N : Int) := by omega
 have h0N : (0 : Int) < (N : Int) := by omega
 have hql : q < p.length := by omega
 have h0l : 0 < p.length := by omega
 have hxq : w.cell? ⟨gw, N - 1, none⟩ = some (.bool p[q]) := by rw [show N - 1 = q by omega, Ya hS.W, List.getElem?_toArray, List.getElem?_map, List.getElem?_eq_getElem hql]; rfl
 have hx0 : w.cell? ⟨gw, 0, none⟩ = some (.bool p[0]) := by rw [Ya hS.W, List.getElem?_toArray, List.getElem?_map, List.getElem?_eq_getElem h0l]; rfl
 unfold Ee.f at h;rw [hp, show N - 1 = q by omega, rdN hql, show (0 : Int) = ((0 : Nat) : Int) from rfl, rdN h0l] at h;generalize p[q] = b1 at h hxq;generalize p[0] = b0 at h hx0;have HS := qa.mk hS;have HH := qa.mk h;have HC := qa.mk hC;have HP := qa.mk hp;clear hS h hC hq hql h0l hp;cases b1;case false =>
  have := HH.out;rw [if_neg (by decide)] at this;obtain rfl := Option.some.inj this;clear this;go_enter Tryz.func120, Tryz.ntmps120;go_wp2;(try simp only [Exit.inBlock, Exit.then]); refine bodyPost_ret (results_none rfl _ _ _) rfl ?_
  exact ⟨rfl, v, by first | exact HS.out | (rw [List.append_nil]; exact HS.out)⟩
 cases b0;case true =>
  have := HH.out;rw [if_pos rfl, if_pos rfl] at this;obtain rfl := Option.some.inj this;clear this;go_enter Tryz.func120, Tryz.ntmps120;go_wp2;(try simp only [Exit.inBlock, Exit.then]); refine bodyPost_ret (results_none rfl _ _ _) rfl ?_
  exact ⟨rfl, v, by first | exact HS.out | (rw [List.append_nil]; exact HS.out)⟩
 have h := HH.out;clear HH;rw [if_pos rfl, if_neg (by decide)] at h;obtain ⟨t, ht, h⟩ := zB0 h;have HT := qa.mk ht;have HH := qa.mk h;clear h ht;have hCb := fun (W : World) (hW : Gw gw go u w0 W p v gs) => Cw hW.W (by rw [HP.out]; exact hN);rw [HP.out] at hCb;have HCB := qa.mk hCb;clear hCb;cases t;case false =>
  have h := HH.out;rw [if_neg (by decide)] at h;obtain rfl := Option.some.inj h;clear h;go_enter Tryz.func120, Tryz.ntmps120;go_wp2_with (go_at_call 68; have hh := Ia.calls k (some ⟨gw, 0, none⟩) N p n false; rw [HP.out] at hh; refine (hh _ (HCB.out _ HS.out) (Nat.le_refl _) HT.out).mono ?_; clear hh; rintro e w' ⟨rfl, hb0'⟩; have hb' := hb0'.below);(try simp only [Exit.inBlock, Exit.then]); refine bodyPost_ret (results_none rfl _ _ _) rfl ?_
  exact ⟨rfl, v, by first | exact HS.out.below hb' | (rw [List.append_nil]; exact HS.out.below hb')⟩
 have h := HH.out;rw [if_pos rfl] at h;obtain ⟨⟨g1, g2⟩, hg, h⟩ := zB0 h;obtain rfl := Option.some.inj h;have HG := qa.mk hg;clear h hg HH;go_enter Tryz.func120, Tryz.ntmps120;go_wp2_with (go_at_call 68; have hh := Ia.calls k (some ⟨gw, 0, none⟩) N p n true; rw [HP.out] at hh; refine (hh _ (HCB.out _ HS.out) (Nat.le_refl _) HT.out).mono ?_; clear hh; rintro e w' ⟨rfl, hb0'⟩; have hb' := hb0'.below; have HS1 := qa.mk (HS.out.below hb'); clear HS hb' hb0' hxq hx0; have HS := HS1; clear HS1; have hO := HS.out.O; have ho0 := (Ya hO 0).trans rfl; have hof := Ea hO 0; clear hO);refine Kg (n := 11) (S := fun w' => w'.cell? ⟨go, 0, none⟩ = some v) (ds := [10]) #[false, false, false, false, false, false, false, false, false, false, false] (by kernel_rfl) rfl rfl ((Ya HS.out.O 0).trans rfl) (fun hHeld => ?_);have HS1 := qa.mk (HS.out.below (Eg (Below.refl _ _)));clear HS;have HS := HS1;clear HS1;generalize w'.drew = w1 at HS hHeld ⊢;refine zp1 (i := 0) (N := some 33) #[true, false, false, false, false, false, false, false, false, false, false] rfl rfl (by kernel_rfl) ?_;refine zp1 (i := 1) (N := some 34) #[true, true, false, false, false, false, false, false, false, false, false] rfl rfl (by kernel_rfl) ?_;refine zp1 (i := 2) (N := some 35) #[true, true, true, false, false, false, false, false, false, false, false] rfl rfl (by kernel_rfl) ?_;refine zp1 (i := 4) (N := some 37) #[true, true, true, false, true, false, false, false, false, false, false] rfl rfl (by kernel_rfl) ?_;refine zp1 (i := 5) (N := some 38) #[true, true, true, false, true, true, false, false, false, false, false] rfl rfl (by kernel_rfl) ?_;refine take_ (i := 3) (N := some 36) (v := ?_) (a' := ?_) #[true, true, true, true, true, true, false, false, false, false, false] rfl rfl (by kernel_rfl) (fun _ _ _ h => h) (Or.inl ⟨by rfl, ?_⟩) hHeld ?_ ?_;rotate_left
 ·intro w' s0;go_simp
  with_reducible rfl
 rotate_left
 ·simp only [Act.put, List.setIfInBounds_toArray, List.set_cons_zero, List.set_cons_succ, Ff, Jh];rfl
 refine Uj (i := 6) (N := some 39) #[true, true, true, true, true, true, true, false, false, false, false] rfl rfl (by kernel_rfl) (by decide) (fun K hK => ?_);refine Di Tryz.func139 (by kernel_rfl) rfl #[.int .i64 n, .slice (some ⟨gw, 0, none⟩) N N] (by rfl) rfl rfl (by (try simp only [List.map_toArray, List.map_cons, List.map_nil]); first | done | rfl) ?_;have hh := Yi.calls k n (some ⟨gw, 0, none⟩) N p g1 g2;rw [HP.out] at hh;refine (hh _ (HCB.out _ HS.out) (Nat.le_refl _) HG.out).mono ?_;clear hh;rintro e w2 ⟨v1, rfl, hV, hb'⟩;refine ⟨_, rfl, ?_⟩;have HS1 := qa.mk (HS.out.below hb');have hgw := Lf HS.out.W;have hgo := Lf HS.out.O;obtain ⟨A1, c1, rfl⟩ := Kd.V_slice hV;have HV := qa.mk (Kd.V_at hV);have HK := qa.mk (Kd.FK_mono (YI w2 _ (⟨g1, g2⟩ : S24) HV.out.2.1 HV.out.2.2) (fun z (hz : w1.heap.size ≤ z) => (⟨Nat.le_trans HS.out.K.1 hz, fun he => by have := Kd.N_lt HS.out.N z he.symm; omega⟩ : (w0.heap.size ≤ z) ∧ some z ≠ v.ownBlock)));clear HS hb' hV;have HS := HS1;clear HS1 hHeld;refine hK.out _ _ ((Ya HS.out.O 0).trans rfl) (fun hHeld => ?_);clear hK K;refine zn1 ?_;refine Uj (i := 7) (N := some 40) #[true, true, true, true, true, true, true, true, false, false, false] rfl rfl (by kernel_rfl) (by decide) (fun K hK => ?_);refine Lj (w1 := ?_) (v := ?_) (by rfl) rfl ?_ ?_;rotate_left 2
 ·go_simp
  constructor
  ·rfl
  ·rfl
 refine hK.out _ _ ((Ya (HS.out.alloc _).O 0).trans rfl) (fun hHeld => ?_);clear hK K;refine zn1 ?_;refine Uj (i := 8) (N := some 41) #[true, true, true, true, true, true, true, true, true, false, false] rfl rfl (by kernel_rfl) (by decide) (fun K hK => ?_);refine Kd.N_append_step k24 (w0 := w2) w0.heap.size (by rfl) (.tmp 36) (.tmp 40) 47 24 (.agg #[(.int .i64 0), (.slice none 0 0)]) 32 rfl Tryz.underlying47 Oj rfl (by decide) (by omega) v gs ⟨g1, g2⟩ [.int .i64 g1, .slice A1 g2.length c1] (fun z => w0.heap.size ≤ z) _ rfl rfl HK.out (fun _ hz => hz) (fun z hz => Nat.le_trans HS.out.K.1 hz) HS.out.N (Below.refl _ _) HS.out.K.1 (by simp at hr; omega) ?_;intro v2 w3 hN2 hB2 hg2 _;obtain ⟨A2, c2, rfl⟩ := Kd.N_slice hN2;have HO3 := qa.mk (Qe HS.out.O hg2 (Kd.N_ne HS.out.N HS.out.O (by decide)));have HW3 := qa.mk (Qe HS.out.W hg2 (Kd.N_ne HS.out.N HS.out.W (by decide)));have HN3 := qa.mk hN2;have HB3 := qa.mk (HS.out.B.trans (hB2.mono (show u.heap.size ≤ w0.heap.size by omega)));have HK3 := qa.mk (Kept.of_grown hg2 HS.out.K (fun z hz => .inr (Kd.N_base HS.out.N z hz)));clear hN2 hB2 hg2 HS hHeld HK HV;refine hK.out _ _ ((Ya HO3.out 0).trans rfl) (fun hHeld => ?_);clear hK K;refine zn1 ?_;refine zp1 (i := 9) (N := some 42) #[true, true, true, true, true, true, true, true, true, true, false] rfl rfl (by kernel_rfl) ?_;refine Qz (i := 10) (N := none) #[true, true, true, true, true, true, true, true, true, true, true] rfl rfl (by kernel_rfl) (by decide) (fun K hK => ?_);have hs := (Ya HO3.out 0).trans rfl;have hfs := Ea HO3.out 0;refine Pw (w1 := ?_) (by rfl) rfl ?_ ?_;rotate_left
 ·go_simp
  rfl
 refine hK.out _ _ ?_;clear hK K;refine Bi (by kernel_rfl) ?_;go_wp2;(try simp only [Exit.inBlock, Exit.then]); refine bodyPost_ret (results_none rfl _ _ _) rfl ?_
 exact ⟨rfl, _, Kd.N_far HN3.out (fun z hk => by have h1 : w0.heap.size ≤ z := hk; show z ≠ go; omega) _, Yb HO3.out 0 _ (by simp), Nh HW3.out hne _, HK3.out.setCell (.inl (.inr rfl)) _, Re HB3.out hbo⟩
theorem Ee.calls (k : Nat) (n : Int) (A : Option Addr) (c : Nat) (o : List Bool) (gw go : Nat) (u w0 : World) (hC : ∀ W, Kept w0 W (fun z => z = gw ∨ z = go) → Kd.C Kd.bool W A o.length o) (hc : o.length ≤ c) (hne : gw ≠ go) (hbw : u.heap.size ≤ gw) (hbo : u.heap.size ≤ go) (hw0 : gw < w0.heap.size) (ho0 : go < w0.heap.size) (N : Nat) (hoN : o.length = N) (hN : N ≤ 65536) (hN1 : 1 ≤ N) :
 ∀ (d : Nat) (p ws : List Bool) (m : Nat) (gs r : List S24) (v : Value) (w : World), p.length = m → m + d = N → ws.length = N → ws.take p.length = p → gs.length + r.length ≤ 1000000 → Ee.f k n o d p = some r → Gw gw go u w0 w ws v gs →
 Calls Tryz.prog 120 #[.slice (some ⟨gw, 0, none⟩) N N, .slice A o.length c, .int .i64 m, .int .i64 n, .pointer (some ⟨go, 0, none⟩)] w fun e w' => e = .returned (.tuple #[]) ∧ ∃ v' ws', Gw gw go u w0 w' ws' v' (gs ++ r) ∧ ws'.length = N ∧ ws'.take p.length = p := by
 intro d;induction d with
 | zero =>
  intro p ws m gs r v w hp hd hwl hwt hr h hS;obtain rfl : m = N := hd;have : ws = p := by rw [← hwt, hp, ← hwl, List.take_length]
  subst this;obtain ⟨q, rfl⟩ : ∃ q, m = q + 1 := ⟨m - 1, by omega⟩;refine (GI k n A c o gw go u w0 hC hc hne hbw hbo hw0 ho0 ws (q + 1) q hp rfl hN gs r v w hr h hS).mono ?_;rintro e w' ⟨rfl, v', hS'⟩;exact ⟨rfl, v', ws, hS', hp, by rw [hp, ← hp, List.take_length]⟩
 | succ d ih =>
  intro p ws m gs r v w hp hd hwl hwt hr h hS;unfold Ee.f at h;obtain ⟨s, hs, h⟩ := zB0 h;obtain ⟨mm, hm, h⟩ := zB0 h;obtain ⟨l1, h1, h⟩ := zB0 h;rw [hp] at hs hm;have hmo : (m : Int) < (o.length : Int) := by omega
  clear hoN;obtain ⟨ad0, e0, hov⟩ := Kd.at_bool (hC w hS.K) (m : Int) (Int.natCast_nonneg _) hmo;rw [Int.toNat_natCast] at hov;generalize yf false o (m : Int) = b00 at hov hm;have hpl : p.length < ws.length := by omega
  have hmN : (m : Int) < (N : Int) := by omega
  have hne1 : ((m : Int) == (N : Int)) = false := by rw [beq_eq_false_iff_ne]; omega
  have hne2 : ¬ m = N := by omega
  have hw1 : wrap64 ((m : Int) + 1) = ((m + 1 : Nat) : Int) := by unfold wrap64; omega
  have HS := qa.mk hS;have HV := qa.mk hs;have HM := qa.mk hm;have H1 := qa.mk h1;have HH := qa.mk h;have HWL := qa.mk hwl;have HWT := qa.mk hwt;have HP := qa.mk hp;have HD := qa.mk hd;have IH := qa.mk ih;clear hS hs hm h1 h hwl hwt ih hp hd;subst e0;go_enter Tryz.func120, Tryz.ntmps120;go_wp2_with (go_at_call 140; refine (Jc.calls k (m : Int) s _ HV.out).mono ?_; rintro e w1 ⟨vs, rfl, hR, hb⟩; obtain ⟨As, cs, rfl⟩ := Kd.R_slice hR; have HR := qa.mk (Kd.R_reads' hR).2.2; have HS1 := qa.mk (HS.out.below hb); clear HS hR hb; have HS := HS1; clear HS1);clear hov hmo;go_loopg [10, 50] s.length (fun gg v12 v54 wr => ∃ (kk : Nat) (b : Bool), kk ≤ s.length ∧ s.length - kk ≤ gg ∧ v12 = .bool b ∧ v54 = .int .i64 kk ∧ qa (Gw gw go u w0 wr ws v gs) ∧ qa (Kd.C (Kd.int .i64) wr As s.length s) ∧ qa (Fp p (s.drop kk) b = some mm));case atStart => exact ⟨0, b00, Nat.zero_le _, by omega, rfl, rfl, HS, HR, HM⟩
  case round =>
   clear HS HM;have hls := Kd.C_max HR.out;clear HR;obtain ⟨kk, b, hkk, hg, rfl, rfl, HS, HR, HM⟩ := hrel;by_cases hlt : kk < s.length
   ·have hltz : (kk : Int) < (s.length : Int) := Int.ofNat_lt.2 hlt;have hdec : decide ((kk : Int) < (s.length : Int)) = true := decide_eq_true hltz;obtain ⟨ad, e, x0⟩ := Kd.at_int HR.out (kk : Int) (Int.natCast_nonneg _) hltz;subst e;have hM := HM.out;rw [Bz hlt, HP.out] at hM;rw [Int.toNat_natCast] at x0;generalize rd s (kk : Int) = x at hM x0;cases b;case true =>
     rw [if_pos rfl] at hM;have HM2 := qa.mk hM;clear hM HM;go_wp2;go_roundg (s.length - (kk + 1));case measure => exact om2 hlt hg
     case rel => exact ⟨kk + 1, true, hlt, Nat.le_refl _, rfl, by congr 1; (try exact om3 hlt hls), HS, HR, HM2⟩
    case false =>
     rw [if_neg (by decide)] at hM;by_cases c0 : 0 ≤ x
     case neg => rw [if_neg c0] at hM; cases hM
     rw [if_pos c0] at hM;obtain ⟨ji, hji⟩ : ∃ j_ : Int, shl .i64 1 x = j_ := ⟨_, rfl⟩;rw [hji] at hM;obtain ⟨hji_, hjiz, hjiu, hjiv, hjiy, hjix⟩ := zJ1 hji;obtain ⟨jk, hjk⟩ : ∃ j_ : Int, wrap64 ((m : Int) - ji) = j_ := ⟨_, rfl⟩;rw [hjk] at hM;have hjkw : (IntKind.i64.wrap ((m : Int) - ji)) = jk := (Ff _).trans hjk;by_cases c1 : 0 ≤ jk ∧ jk < (m : Int)
     case neg => rw [if_neg c1] at hM; cases hM
     rw [if_pos c1] at hM;have c0b : decide (0 ≤ x) = true := decide_eq_true c0;have c10 := c1.1;have c11 : jk < (N : Int) := Int.lt_trans c1.2 hmN;have c10b : decide (0 ≤ jk) = true := decide_eq_true c10;have c11b : decide (jk < (N : Int)) = true := decide_eq_true c11;obtain ⟨hjl, hje⟩ := qC HWT.out c10 (by rw [HP.out]; exact c1.2);have hx : wr.cell? ⟨gw, jk.toNat, none⟩ = some (.bool (yf false p jk)) := by rw [Ya HS.out.W, List.getElem?_toArray, List.getElem?_map, List.getElem?_eq_getElem hjl, hje]; rfl
     generalize yf false p jk = b at hx hM;have HM2 := qa.mk hM;clear hM HM hjl hje c1;go_wp2;clear hji_ hjiz hjiu hjiv hjiy hjix hjkw hji hjk c0b c10b c11b c10 c11 c0 hx;go_roundg (s.length - (kk + 1));case measure => exact om2 hlt hg
     case rel => exact ⟨kk + 1, b, hlt, Nat.le_refl _, rfl, by congr 1; (try exact om3 hlt hls), HS, HR, HM2⟩
   ·have hltz : ¬ (kk : Int) < (s.length : Int) := fun e => hlt (Int.ofNat_lt.1 e);have hkl : kk = s.length := Nat.le_antisymm hkk (Nat.le_of_not_lt hlt);subst hkl;have hM := HM.out;rw [List.drop_length] at hM;obtain rfl := Option.some.inj hM;clear hM HM HR;have hpl2 : m < ws.length := by rw [HWL.out]; exact Int.ofNat_lt.1 hmN
    have hx : wr.cell? ⟨gw, m, none⟩ = some (.bool ws[m]) := by rw [Ya HS.out.W, List.getElem?_toArray, List.getElem?_map, List.getElem?_eq_getElem hpl2]; rfl
    have hf := Ea HS.out.W m;have hT1 := Dm HWT.out (by rw [HP.out]; exact hpl2) true;rw [HP.out] at hT1;have HT1 := qa.mk hT1;have HSP := qa.mk (HS.out.put hne hbw hw0 m true);generalize ws[m] = bm at hx;clear HS hT1;have hm1 : m + 1 + d = N := om1 HD.out;have hr1 : gs.length + l1.length ≤ 1000000 := by
     have h := HH.out;cases b
     ·rw [if_neg (by decide)] at h;obtain ⟨l2, _, h⟩ := zB0 h;obtain rfl := Option.some.inj h;rw [List.length_append] at hr;exact om4 hr
     ·rw [if_pos rfl] at h;obtain rfl := Option.some.inj h;exact hr
    have IH1 := qa.mk (IH.out (p ++ [true]) (ws.set m true) (m + 1) gs l1 v _ (by rw [List.length_append, HP.out]; rfl) hm1 (by rw [List.length_set]; exact HWL.out) HT1.out hr1 H1.out HSP.out);clear HSP HT1 hltz;go_wp2_with fail;refine IH1.out.mono ?_;clear IH1;rintro e w2 ⟨rfl, v2, ws2, hS2, hl2, ht2⟩;have hpl3 : m < ws2.length := by rw [hl2]; exact Int.ofNat_lt.1 hmN
    have ht3 := Yv ht2;clear hx hf;have hx : w2.cell? ⟨gw, m, none⟩ = some (.bool ws2[m]) := by rw [Ya hS2.W, List.getElem?_toArray, List.getElem?_map, List.getElem?_eq_getElem hpl3]; rfl
    have hf := Ea hS2.W m;generalize ws2[m] = bm2 at hx;have HS2 := qa.mk hS2;have HL2 := qa.mk hl2;have HT2 := qa.mk ht3;clear hS2 hl2 ht2 ht3;have h := HH.out;cases b;case true =>
     rw [if_pos rfl] at h;obtain rfl := Option.some.inj h;clear h HH;go_wp2;go_end0
     exact ⟨rfl, v2, ws2, HS2.out, HL2.out, HT2.out⟩
    case false =>
     rw [if_neg (by decide)] at h;obtain ⟨l2, h2, h⟩ := zB0 h;obtain rfl := Option.some.inj h;rw [List.length_append] at hr;have hT3 := Dm HT2.out (by rw [HP.out]; exact hpl3) false;rw [HP.out] at hT3;have IH2 := qa.mk (IH.out (p ++ [false]) (ws2.set m false) (m + 1) (gs ++ l1) l2 v2 _ (by rw [List.length_append, HP.out]; rfl) hm1 (by rw [List.length_set]; exact HL2.out) hT3 (by rw [List.length_append]; exact om5 hr) h2 (HS2.out.put hne hbw hw0 m false));clear h HH h2 hT3 HS2 HL2 HT2;go_wp2_with fail;refine IH2.out.mono ?_;clear IH2;rintro e w3 ⟨rfl, v3, ws3, hS3, hl3, ht3⟩;have HS3 := qa.mk hS3;have HL3 := qa.mk hl3;have HT3 := qa.mk (Yv ht3);clear hS3 hl3 ht3;go_wp2;go_end0
     exact ⟨rfl, v3, ws3, by first | exact HS3.out | (rw [← List.append_assoc]; exact HS3.out), HL3.out, HT3.out⟩
def inB (n lo hi : Int) : Bool := decide (lo ≤ n) && decide (n ≤ hi)
theorem Ip (n : Int) (h : 0 ≤ n ∧ n ≤ 16) : shl .i64 1 n = 2 ^ n.toNat := by
 obtain ⟨m, rfl⟩ := Int.eq_ofNat_of_zero_le h.1;have hm : m ≤ 16 := by omega
 have : ∀ m : Nat, m ≤ 16 → shl .i64 1 (m : Int) = 2 ^ (m : Int).toNat := by decide
 exact this m hm
theorem FE (n : Int) (h : 0 ≤ n ∧ n ≤ 16) : 1 ≤ (2 : Int) ^ n.toNat ∧ (2 : Int) ^ n.toNat ≤ 65536 := by
 obtain ⟨m, rfl⟩ := Int.eq_ofNat_of_zero_le h.1;have hm : m ≤ 16 := by omega
 have : ∀ m : Nat, m ≤ 16 → 1 ≤ (2 : Int) ^ (m : Int).toNat ∧ (2 : Int) ^ (m : Int).toNat ≤ 65536 := by decide
 exact this m hm
theorem Uf {x : Int} (h : -9223372036854775808 ≤ x ∧ x ≤ 9223372036854775807) : wrap64 x = x := by unfold wrap64; omega
theorem IE (n : Int) (h : 0 ≤ n ∧ n ≤ 16) : wrap64 (shl .i64 1 n - 1) = 2 ^ n.toNat - 1 := by
 rw [Ip n h];have := FE n h;exact Uf (by omega)
theorem Em (n lo hi : Int) : Fe.f n lo hi = some (inB n lo hi) := by
 unfold Fe.f inB;split <;> simp_all <;> omega
theorem yC (n lo hi : Int) : Gg.f n lo hi = some (inB n lo hi) := by
 unfold Gg.f inB;split <;> simp_all <;> omega
theorem KE (n : Int) (h : 0 ≤ n ∧ n ≤ 16) : Gi.f n = some (2 ^ n.toNat - 1) := by
 unfold Gi.f;rw [if_pos h.1, IE n h]
theorem Ki {n lo hi : Int} : inB n lo hi = true ↔ lo ≤ n ∧ n ≤ hi := by unfold inB; simp
def Dw (k : Nat) (g : S24) : List S24 → Nat → Option Nat
 | [], i => some i
 | x :: xs, i => (We.f k x.f0 x.f1 g.f0 g.f1).bind fun b => if b = true then Dw k g xs (i + 1) else some i
def NI (k : Nat) (g : S24) (outs : List S24) : Option (List S24) := (Dw k g outs 0).bind fun i => some (outs.take i ++ [g] ++ outs.drop i)
def Lp (k : Nat) : List S24 → List S24 → Option (List S24)
 | [], outs => some outs
 | g :: gs, outs => (NI k g outs).bind fun o => Lp k gs o
theorem om6 {i n : Nat} (h : i ≤ n) : i + 1 + (n - i) = n + 1 := by omega
theorem Ew (N : Nat) : madeCells (Value.bool false).cells N = ((List.replicate N false).map Value.bool).toArray := by
 refine Array.ext ?_ fun j h1 h2 => ?_
 ·rw [size_madeCells, List.size_toArray, List.length_map, List.length_replicate]
 ·simp [madeCells, Value.cells, Nat.mod_one]
theorem Kr (N : Nat) (hN : N ≤ 65536) (W : World) : (Instr.makeSlice 60 (.int .i64 (N : Int)) (.int .i64 (N : Int))).run Tryz.prog W = .ok (.slice (some ⟨W.heap.size, 0, none⟩) N N) (W.alloc (.cells ((List.replicate N false).map Value.bool).toArray 4 (0, 0))) := by
 obtain ⟨i, hi, hz⟩ := Option.map_eq_some_iff.1 SH;simp only [Prod.mk.injEq] at hz;obtain ⟨h0, h1, h2⟩ := hz;have := run_make (P := Tryz.prog) W 60 4 i (.bool false) Tryz.underlying60 hi h0 .i64 .i64 (N : Int) (N : Int) (Int.natCast_nonneg _) (Int.le_refl _) (by rw [h2]; omega) (by omega);rw [this, Int.toNat_natCast, h1, Nat.mul_one, Ew]
section
variable {e base : Nat} {W : World} {v : Value} {lo : Nat}
theorem OE {α : Type} {d : Kd α} (h : Kd.N d e W base (fun _ => True) v []) (hb : lo ≤ base) : Kd.N d e W base (fun z => lo ≤ z) v [] := by
 have hbb := Kd.N_base h;obtain ⟨_, rows, hl, hR, _⟩ := h;exact ⟨fun k hk => Nat.le_trans hb (hbb k hk), rows, hl, hR, fun j x c hx => by simp at hx⟩
end
theorem qH {W : World} {b cg : Nat} {Ag : Option Addr} {g : S24} {ok : Nat → Prop} (hb : W.heap[b]? = some (.cells #[.int .i64 g.f0, .slice Ag g.f1.length cg] 24 (0, 0))) (hF : Kd.FK k24 W ok g [.int .i64 g.f0, .slice Ag g.f1.length cg]) :
 Ef (fun x c => Kd.FK k24 W ok x c) (Kd.sz k24) W (some ⟨b, 0, none⟩) 1 [g] := by
 refine ⟨rfl, by decide, fun _ => ⟨_, rfl, fun j p hj => ?_⟩⟩;cases j with
 | succ j => simp at hj
 | zero =>
  obtain rfl : g = p := by simpa using hj
  refine ⟨_, rfl, hF, fun i u hu => ?_⟩;rw [qB, Nat.zero_mul, Nat.zero_add, Nat.zero_add, Ya hb];simpa using hu
section
variable {P : Program} {ops : Array Oper} {o : Oper} {a : Act} {Q : Exit → Act → World → Prop} {Kc : Act → World → Prop} {α : Type}
theorem Ik (d : Kd α) {w0 W : World} (base : Nat) (hw : Region.wanted o (yielded ops a.tmps) = true) (s x : Operand) (t e : TypeId) (z : Value) (bytes : Nat)
 (ho : o.op = .call { callee := .builtin .append, args := #[s, x], argTypes := #[t, t] })
 (ht : P.underlying t = some (.slice e)) (hinfo : (P.info? e).map (fun i => (i.zero, i.size, i.bytes)) = some (some z, d.sz, bytes)) (hz : z.cells.size = d.sz) (hs0 : 0 < d.sz) (hb0 : 0 < bytes)
 (v : Value) (xs ys : List α) (A : Option Addr) (m c : Nat) (ok okp : Nat → Prop) (hs : a.eval s = v) (hx : a.eval x = .slice A m c)
 (HO : Kd.N d e W base ok v xs) (HR : Ef (fun x c => Kd.FK d W okp x c) d.sz W A m ys) (hokp : ∀ k, okp k → ok k ∧ some k ≠ v.ownBlock) (hfresh : ∀ k, W.heap.size ≤ k → ok k)
 (HB : Below base w0 W) (hbase : base ≤ W.heap.size) (hl : (xs.length + m) * bytes ≤ 140737488355328)
 (h : ∀ v1 w1, Kd.N d e w1 base ok v1 (xs ++ ys) → Below base w0 w1 → W.grownBy w1 v.ownBlock → (v1.ownBlock = v.ownBlock ∨ ∃ b, v1.ownBlock = some b ∧ W.heap.size ≤ b) → Kc (a.put o.dst v1) w1) :
 if Region.wanted o (yielded ops a.tmps) = true then Oper.wp P o a W Kc Q else Kc (a.put o.dst undef) W := by
 obtain ⟨h0, rows, hlr, hR, hf⟩ := HO;obtain ⟨news, hnl, hnr, hnf⟩ := Kd.reads_raw HR (fun y c hk => ⟨d.K_len (Kd.FK_now hk), d.K_one (Kd.FK_now hk)⟩);refine Kd.R_append_rows_step (Kd.raw d.sz) base hw s x t e z bytes ho ht hinfo hz hs0 hb0 v rows news A m c (fun _ => True) (fun _ => False) hs hx (Kd.raw_any hR) hnr (fun _ _ hk => hk) (fun _ hk => hk.elim) (fun _ _ => trivial) HB hbase (by rw [hlr]; exact hl) ?_;intro v1 w1 hr hb hg hat
 exact h v1 w1 (Kd.N_appended h0 hlr hf hnl hnf hokp hfresh hr hg hat) hb hg hat
end
theorem Fw {k : Nat} {gs outs : List S24} {i : Nat} (h : i < gs.length) : Lp k (gs.drop i) outs = (NI k (gs.getD i z24) outs).bind fun o => Lp k (gs.drop (i + 1)) o := by
 rw [List.drop_eq_getElem_cons h, List.getD_eq_getElem?_getD, List.getElem?_eq_getElem h]; rfl
theorem Cz {k : Nat} {g : S24} {outs : List S24} {i : Nat} (h : i < outs.length) : Dw k g (outs.drop i) i = (We.f k (outs.getD i z24).f0 (outs.getD i z24).f1 g.f0 g.f1).bind fun b => if b = true then Dw k g (outs.drop (i + 1)) (i + 1) else some i := by
 rw [List.drop_eq_getElem_cons h, List.getD_eq_getElem?_getD, List.getElem?_eq_getElem h]; rfl
def Bh.f (k : Nat) (n : Int) (l : List (List Int)) : Option (List S24) := if 0 ≤ n ∧ n ≤ 16 then (Be.f k n l).bind fun o => if o.length = 2 ^ n.toNat then (Ee.f k n o (2 ^ n.toNat) []).bind fun gs => if gs.length ≤ 1000000 then Lp k gs [] else none else none else none
theorem Bh.calls (k : Nat) (n : Int) (A : Option Addr) (c : Nat) (l : List (List Int)) (r : List S24) (w : World) (hC : Kd.C (Kd.slice 3 (Kd.int .i64)) w A l.length l) (hc : l.length ≤ c) (h : Bh.f k n l = some r) :
 Calls Tryz.prog 65 #[.agg #[.int .i64 n, .slice A l.length c]] w fun e w' => ∃ v0_ : Value, e = .returned v0_ ∧ Kd.V k24 24 w' w.heap.size (fun k_ => w.heap.size ≤ k_) v0_ r ∧ Below w.heap.size w w' := by
 unfold Bh.f at h;by_cases c0 : 0 ≤ n ∧ n ≤ 16
 case neg => rw [if_neg c0] at h; cases h
 rw [if_pos c0] at h;obtain ⟨o, hgm, h⟩ := zB0 h;by_cases co : o.length = 2 ^ n.toNat
 case neg => rw [if_neg co] at h; cases h
 rw [if_pos co] at h;obtain ⟨gs, hg, h⟩ := zB0 h;by_cases c1 : gs.length ≤ 1000000
 case neg => rw [if_neg c1] at h; cases h
 rw [if_pos c1] at h;have hp16 : 2 ^ n.toNat ≤ 65536 := Nat.pow_le_pow_right (n := 2) (by decide) (show n.toNat ≤ 16 by omega);have hp1 : 1 ≤ 2 ^ n.toNat := Nat.one_le_two_pow;have hji : shl .i64 1 n = ((2 ^ n.toNat : Nat) : Int) := by rw [Ip n c0]; simp
 generalize 2 ^ n.toNat = N at hji hg hp16 hp1 co;obtain ⟨hji_, hjiz, hjiu, hjiv, hjiy, hjix⟩ := zJ1 hji;have hjie := (Ff _).symm.trans (hjiv (by omega));have hmk := Kr N hp16;have c00 := c0.1;have c00b : decide (0 ≤ n) = true := decide_eq_true c00;have hNb : decide (0 ≤ (N : Int)) = true := decide_eq_true (Int.natCast_nonneg _);have HG := qa.mk hg;have HGM := qa.mk hgm;have HH := qa.mk h;have HC := qa.mk hC;have HCO := qa.mk co;have HP1 := qa.mk hp1;clear hg h hC hgm co hp1;have huG := Tryz.underlying24;go_enter Tryz.func65, Tryz.ntmps65;go_wp2_with ((with_reducible refine Ma (N := 1) rfl ?_); refine Bg ?hg (N := 1) ?hd (cs := #[.int .i64 n, .slice A l.length c]) (t := 24) ?hr ?_; (case hd => rfl); (case hg => rfl); (case hr => first | (go_simp; done) | (go_simp; rfl)); intro gb hgb w1 hbox hb1; have HBX := qa.mk hbox; have HB1 := qa.mk hb1; have hgw : w.heap.size ≤ gb := Nat.le_of_eq hgb.symm; have hg1 := Lf hbox; clear hbox hb1 hgb);have HBX2 := qa.mk (Qa HBX.out (.cells #[.slice none 0 0] 47));have HB2 := qa.mk (HB1.out.alloc HB1.out.size (.cells #[.slice none 0 0] 47));have HGO := qa.mk (Ph w1 (.cells #[.slice none 0 0] 47));clear HBX;have hs2 : (w1.alloc (.cells #[.slice none 0 0] 47)).heap.size = w1.heap.size + 1 := by simp
 generalize hw2 : w1.alloc (.cells #[.slice none 0 0] 47) = w2 at *
 refine Kg (n := 9) (S := fun w' => w'.cell? ⟨gb, 0, none⟩ = some (.int .i64 n) ∧ w'.cell? ⟨gb, 1, none⟩ = some (.slice A l.length c)) (ds := []) #[false, false, false, false, false, false, false, false, false] (by kernel_rfl) rfl rfl (⟨(Ya (Ra HBX2.out) 0).trans rfl, (Ya (Ra HBX2.out) 1).trans rfl⟩) (fun hHeld => ?_);have HBXd := qa.mk (Ra HBX2.out);have HGOd := qa.mk (Ra HGO.out);have HBd := qa.mk (HB2.out.trans ((Eg (Below.refl _ _)).mono HB2.out.size));have hs3 : w2.drew.heap.size = w1.heap.size + 1 := hs2;clear HBX2 HGO HB2 hs2 hw2;generalize w2.drew = wd at *
 refine zp1 (i := 0) (N := some 9) #[true, false, false, false, false, false, false, false, false] rfl rfl (by kernel_rfl) ?_;refine take_ (i := 1) (N := some 10) (v := ?_) (a' := ?_) #[true, true, false, false, false, false, false, false, false] rfl rfl (by kernel_rfl) (fun _ _ _ h => h) (Or.inl ⟨by rfl, ?_⟩) hHeld ?_ ?_;rotate_left
 ·rintro w' ⟨s0, s1⟩;go_simp
  with_reducible rfl
 rotate_left
 ·simp only [Act.put, List.setIfInBounds_toArray, List.set_cons_zero, List.set_cons_succ, Ff, Jh];rfl
 refine zp1 (i := 2) (N := some 11) #[true, true, true, false, false, false, false, false, false] rfl rfl (by kernel_rfl) ?_;refine take_ (i := 4) (N := some 13) (v := ?_) (a' := ?_) #[true, true, true, false, true, false, false, false, false] rfl rfl (by kernel_rfl) (fun _ _ _ h => h) (Or.inl ⟨by rfl, ?_⟩) hHeld ?_ ?_;rotate_left
 ·rintro w' ⟨s0, s1⟩;go_simp
  with_reducible rfl
 rotate_left
 ·simp only [Act.put, List.setIfInBounds_toArray, List.set_cons_zero, List.set_cons_succ, Ff, Jh];rfl
 refine zp1 (i := 6) (N := some 15) #[true, true, true, false, true, false, true, false, false] rfl rfl (by kernel_rfl) ?_;refine take_ (i := 7) (N := some 16) (v := ?_) (a' := ?_) #[true, true, true, false, true, false, true, true, false] rfl rfl (by kernel_rfl) (fun _ _ _ h => h) (Or.inl ⟨by rfl, ?_⟩) hHeld ?_ ?_;rotate_left
 ·rintro w' ⟨s0, s1⟩;go_simp
  with_reducible rfl
 rotate_left
 ·simp only [Act.put, List.setIfInBounds_toArray, List.set_cons_zero, List.set_cons_succ, Ff, Jh];rfl
 refine MH (σ := Value × Value) 1 #[true, true, true, true, true, true, true, true, false] (fun s_ => [(12, s_.1), (14, s_.2)]) (fun s_ w' => ∃ b, s_.1 = .slice (some ⟨b, 0, none⟩) N N ∧ wd.heap.size ≤ b ∧ w'.heap[b]? = some (.cells ((List.replicate N false).map Value.bool).toArray 4 (0, 0)) ∧ Kd.R Kd.bool 4 w' wd.heap.size (fun z => wd.heap.size ≤ z ∧ z ≠ b) s_.2 o ∧ Below wd.heap.size wd w') ?_ ?_;rotate_left
 ·intro hCont;refine VK (i := 3) (j := 5) (Ni := some 12) (Nj := some 14) #[true, true, true, true, true, false, true, true, false] #[true, true, true, false, true, true, true, true, false] rfl rfl rfl rfl (by kernel_rfl) (by decide) (by decide) (fun K hK => ?_) (fun K hK => ?_)
  ·refine Lj (w1 := wd.alloc (.cells ((List.replicate N false).map Value.bool).toArray 4 (0, 0))) (v := .slice (some ⟨wd.heap.size, 0, none⟩) N N) (by rfl) rfl ?_ ?_
   ·go_simp
   refine hK.out _ _ ⟨(Ya (Qa HBXd.out _) 0).trans rfl, (Ya (Qa HBXd.out _) 1).trans rfl⟩ (fun hHeld => ?_);clear hK K;refine zn1 ?_;have hbw0 := Ph wd (.cells ((List.replicate N false).map Value.bool).toArray 4 (0, 0));have HBa := qa.mk ((Below.refl wd.heap.size wd).alloc (Nat.le_refl _) (.cells ((List.replicate N false).map Value.bool).toArray 4 (0, 0)));have hsa : (wd.alloc (.cells ((List.replicate N false).map Value.bool).toArray 4 (0, 0))).heap.size = wd.heap.size + 1 := by simp
   have HXa := qa.mk (Qa HBXd.out (.cells ((List.replicate N false).map Value.bool).toArray 4 (0, 0)));generalize wd.alloc (.cells ((List.replicate N false).map Value.bool).toArray 4 (0, 0)) = wa at *
   refine Uj (i := 5) (N := some 14) #[true, true, true, true, true, true, true, true, false] rfl rfl (by kernel_rfl) (by decide) (fun K hK => ?_);refine Di Tryz.func67 (by kernel_rfl) rfl #[.agg #[.int .i64 n, .slice A l.length c]] (by rfl) rfl rfl (by (try simp only [List.map_toArray, List.map_cons, List.map_nil]); first | done | rfl) ?_;refine (Be.calls k n A c l o _ (Kd.C_below HC.out (HBd.out.trans (HBa.out.mono HBd.out.size))) hc HGM.out).mono ?_;rintro e wz ⟨v14, rfl, hR, hbz⟩;refine ⟨_, rfl, ?_⟩;refine hK.out _ _ ⟨(Ya (Na HXa.out hbz) 0).trans rfl, (Ya (Na HXa.out hbz) 1).trans rfl⟩ (fun hHeld => ?_);clear hK K;refine zn1 ?_;exact Co (by simp only [Fj, Act.put, List.setIfInBounds_toArray, List.set_cons_zero, List.set_cons_succ]) (hCont (.slice (some ⟨wd.heap.size, 0, none⟩) N N, v14) _ ⟨wd.heap.size, rfl, Nat.le_refl _, Na hbw0 hbz, Kd.R_lower (Kd.R_mono (Kd.R_bound hR) (fun z hz => ⟨by have := hz.2.1; omega, by have := hz.2.1; omega⟩)) (by omega), HBa.out.trans (hbz.mono HBa.out.size)⟩)
  ·refine Di Tryz.func67 (by kernel_rfl) rfl #[.agg #[.int .i64 n, .slice A l.length c]] (by rfl) rfl rfl (by (try simp only [List.map_toArray, List.map_cons, List.map_nil]); first | done | rfl) ?_;refine (Be.calls k n A c l o _ (Kd.C_below HC.out HBd.out) hc HGM.out).mono ?_;rintro e wz ⟨v14, rfl, hR, hbz⟩;refine ⟨_, rfl, ?_⟩;refine hK.out _ _ ⟨(Ya (Na HBXd.out hbz) 0).trans rfl, (Ya (Na HBXd.out hbz) 1).trans rfl⟩ (fun hHeld => ?_);clear hK K;refine zn1 ?_;refine Uj (i := 3) (N := some 12) #[true, true, true, true, true, true, true, true, false] rfl rfl (by kernel_rfl) (by decide) (fun K hK => ?_);refine Lj (w1 := wz.alloc (.cells ((List.replicate N false).map Value.bool).toArray 4 (0, 0))) (v := .slice (some ⟨wz.heap.size, 0, none⟩) N N) (by rfl) rfl ?_ ?_
   ·go_simp
   refine hK.out _ _ ⟨(Ya (Qa (Na HBXd.out hbz) _) 0).trans rfl, (Ya (Qa (Na HBXd.out hbz) _) 1).trans rfl⟩ (fun hHeld => ?_);clear hK K;refine zn1 ?_;exact Co (by simp only [Fj, Act.put, List.setIfInBounds_toArray, List.set_cons_zero, List.set_cons_succ]) (hCont (.slice (some ⟨wz.heap.size, 0, none⟩) N N, v14) _ ⟨wz.heap.size, rfl, hbz.size, Ph wz _, Kd.R_alloc (Kd.R_mono (Kd.R_bound hR) (fun z hz => ⟨hz.2.1, by have := hz.2.2; omega⟩)) _, hbz.alloc hbz.size _⟩)
 rintro ⟨v12, v14⟩ wj ⟨bw, e12, hbw, hw12, hR, hbj⟩;dsimp only at e12 hR;subst e12;obtain ⟨Ao, cov, rfl⟩ := Kd.R_slice hR;have HR := qa.mk hR;have hoc := (Kd.R_reads' hR).2.1;have HBJ := qa.mk (HBd.out.trans (hbj.mono HBd.out.size));have HOJ := qa.mk (Na HGOd.out hbj);have HWJ := qa.mk hw12;have HXJ := qa.mk (Na HBXd.out hbj);have hwj := Lf hw12;have hoj := Lf HOJ.out;clear hR hbj hw12 HGOd HBXd HBd hHeld;refine Co (a' := ?_) ?_ ?_;rotate_left
 ·simp only [Fj, Act.put, List.setIfInBounds_toArray, List.set_cons_zero, List.set_cons_succ];rfl
 have hne : bw ≠ w1.heap.size := by omega
 have hSt : Gw bw w1.heap.size w wj wj (List.replicate N false) (.slice none 0 0) [] := ⟨Kd.N_nil _ _ _ _ _, HOJ.out, HWJ.out, Kept.refl _ _, HBJ.out⟩;have hcl := Ee.calls k n Ao cov o bw w1.heap.size w wj (Kd.C_kept_own HR.out (fun z hz he => he.elim hz.2 (fun he => by have := hz.1; omega))) hoc hne (by omega) HB1.out.size hwj hoj N HCO.out hp16 HP1.out N [] (List.replicate N false) 0 [] gs (.slice none 0 0) wj rfl (by omega) (by simp) (by simp) (by simpa using c1) HG.out hSt;refine Uj (i := 8) (N := some 17) #[true, true, true, true, true, true, true, true, true] rfl rfl (by kernel_rfl) (by decide) (fun K hK => ?_);refine Di Tryz.func120 (by kernel_rfl) rfl #[.slice (some ⟨bw, 0, none⟩) N N, .slice Ao o.length cov, .int .i64 (0 : Nat), .int .i64 n, .pointer (some ⟨w1.heap.size, 0, none⟩)] (by rfl) rfl rfl (by (try simp only [List.map_toArray, List.map_cons, List.map_nil]); first | done | rfl) ?_;refine hcl.mono ?_;clear hcl hSt;rintro e wc ⟨rfl, v1, ws', hS1, -, -⟩;refine ⟨_, rfl, ?_⟩;rw [List.nil_append] at hS1;refine hK.out _ _ ⟨(Ya (Vt HXJ.out hS1.K (fun he => he.elim (fun he => by omega) (fun he => by omega))) 0).trans rfl, (Ya (Vt HXJ.out hS1.K (fun he => he.elim (fun he => by omega) (fun he => by omega))) 1).trans rfl⟩ (fun hHeld => ?_);clear hK K hHeld;refine zn1 ?_;refine Bi (by kernel_rfl) ?_;obtain ⟨A1, cA, rfl⟩ := Kd.N_slice hS1.N;have hx0 := (Ya hS1.O 0).trans rfl;have HA := qa.mk (Kd.F_mono (Kd.F_bound (Kd.N_F hS1.N)) (ok' := fun z => w.heap.size ≤ z ∧ z < wc.heap.size) (fun z hz => ⟨Nat.le_trans HBJ.out.size hz.1, hz.2⟩));have HB := qa.mk hS1.B;clear hS1 hmk hji hji_ hjiz hjiu hjiv hjiy hjix hjie hNb c00b HG HR HXJ HWJ HOJ HBJ HGM HC HCO HP1 HB1 hbw hne hoc hwj hoj hgw hg1 hs3;obtain ⟨w1, rfl⟩ : ∃ w1, w1 = wc := ⟨wc, rfl⟩;obtain ⟨inf, hinf, _, hinf2, _⟩ := info_parts Oj;go_wp2_with fail;go_loopg [4, 20] gs.length (fun gg v6 v19 wr => ∃ (kk : Nat) (Ao : Option Addr) (co : Nat) (outs : List S24), kk ≤ gs.length ∧ gs.length - kk ≤ gg ∧ v6 = .slice Ao outs.length co ∧ v19 = .int .i64 kk ∧ qa (outs.length = kk) ∧ outs.length ≤ co ∧ qa (Lp k (gs.drop kk) outs = some r) ∧ qa (Kd.F k24 wr (fun z => w.heap.size ≤ z ∧ z < wr.heap.size) Ao outs.length outs) ∧ qa (Below w1.heap.size w1 wr));case atStart => exact ⟨0, none, 0, [], Nat.zero_le _, Nat.le_refl _, rfl, rfl, ⟨rfl⟩, Nat.le_refl _, HH, ⟨Kd.F_nil _ _ _⟩, ⟨Below.refl _ _⟩⟩
 case round =>
  clear HH hx0;obtain ⟨kk, Ao, co, outs, hkk, hg, rfl, rfl, HOL, hoc, HT, HO, HB1⟩ := hrel;by_cases hlt : kk < gs.length
  ·obtain ⟨wo, rfl⟩ : ∃ wo, wo = wr := ⟨wr, rfl⟩;have hltz : (kk : Int) < (gs.length : Int) := Int.ofNat_lt.2 hlt;have hol : outs.length < 1000000 := by have := HOL.out; omega
   obtain ⟨ad, cc, e, _, hK, hcc, _⟩ := Kd.F_get (Kd.F_below HA.out HB1.out) z24 (kk : Int) (Int.natCast_nonneg _) hltz;subst e;rw [Int.toNat_natCast] at hK hcc;have hT := HT.out;rw [Fw hlt] at hT;generalize gs.getD kk z24 = g at hK hT;obtain ⟨o2, ho2, hT⟩ := zB0 hT;obtain ⟨pos, hpos, ho2⟩ := zB0 ho2;obtain rfl := Option.some.inj ho2;obtain ⟨Ag, cg, rfl, hgl, hgF⟩ := Yl hK;have x0 : wo.cell? (ad.add (kk * 2)) = some (.int .i64 g.f0) := hcc 0 _ rfl;have x1 : wo.cell? ⟨(ad.add (kk * 2)).block, (ad.add (kk * 2)).off + 1, none⟩ = some (.slice Ag g.f1.length cg) := by rw [← Vh _ _ 1 (by omega)]; exact hcc 1 _ rfl
   have HPOS := qa.mk hpos;have HT2a := qa.mk hT;have HGF := qa.mk (Kd.FK_mono hK (ok' := fun z => w.heap.size ≤ z ∧ z < wo.heap.size) (fun z hz => ⟨hz.1, Nat.lt_of_lt_of_le hz.2 HB1.out.size⟩));have HGC := qa.mk (Kd.F_now hgF);clear hK hcc hT hpos ho2 HT hgF;go_wp2_with fail;go_loopg [7] outs.length (fun gg v9 wr => ∃ i : Nat, i ≤ outs.length ∧ outs.length - i ≤ gg ∧ v9 = .int .i64 i ∧ qa (Dw k g (outs.drop i) i = some pos) ∧ qa (Below wo.heap.size wo wr) ∧ qa (wr.heap[wo.heap.size]? = some (.cells #[.int .i64 g.f0, .slice Ag g.f1.length cg] 24 (0, 0))));case atStart => exact ⟨0, Nat.zero_le _, Nat.le_refl _, rfl, HPOS, ⟨(Below.refl _ wo).alloc (Nat.le_refl _) _⟩, ⟨Ph wo _⟩⟩
   case round =>
    clear HPOS x0 x1;obtain ⟨i, hi, hgi, rfl, HPOS, HQ, HGB⟩ := hrel;have HOQ := qa.mk (Kd.F_mono (Kd.F_below HO.out HQ.out) (ok' := fun z => w.heap.size ≤ z ∧ z < wr.heap.size) (fun z hz => ⟨hz.1, Nat.lt_of_lt_of_le hz.2 HQ.out.size⟩));have HGFQ := qa.mk (Kd.FK_mono (Kd.FK_below HGF.out HQ.out) (ok' := fun z => w.heap.size ≤ z ∧ z < wr.heap.size) (fun z hz => ⟨hz.1, Nat.lt_of_lt_of_le hz.2 HQ.out.size⟩));have HA1 := qa.mk (HB1.out.trans (HQ.out.mono HB1.out.size));have HBQ := qa.mk (HB.out.trans (HA1.out.mono HB.out.size));by_cases hil : i < outs.length
    case' pos =>
     have hiz : (i : Int) < (outs.length : Int) := Int.ofNat_lt.2 hil;have hizb : decide ((i : Int) < (outs.length : Int)) = true := decide_eq_true hiz;obtain ⟨bd, cc2, e2, _, hK2, hcc2, _⟩ := Kd.F_get HOQ.out z24 (i : Int) (Int.natCast_nonneg _) hiz;subst e2;rw [Int.toNat_natCast] at hK2 hcc2;have hP := HPOS.out;rw [Cz hil] at hP;generalize outs.getD i z24 = x at hK2 hP;obtain ⟨bb, hbb, hP⟩ := zB0 hP;obtain ⟨Ax, cx, rfl, hxl, hxF⟩ := Yl hK2;have y0 : wr.cell? (bd.add (i * 2)) = some (.int .i64 x.f0) := hcc2 0 _ rfl;have y1 : wr.cell? ⟨(bd.add (i * 2)).block, (bd.add (i * 2)).off + 1, none⟩ = some (.slice Ax x.f1.length cx) := by rw [← Vh _ _ 1 (by omega)]; exact hcc2 1 _ rfl
     have HXC := qa.mk (Kd.F_now hxF);have HGC2 := qa.mk (Kd.C_below HGC.out HQ.out);have HBB := qa.mk hbb;have HP2 := qa.mk hP;have hci : (0 : Int) ≤ (i : Int) := Int.natCast_nonneg _;have hcib : decide ((0 : Int) ≤ (i : Int)) = true := decide_eq_true hci;clear hK2 hcc2 hP hbb hxF HPOS;go_wp2_with fail;refine Kg (n := 12) (S := fun w' => w'.cell? ⟨wo.heap.size, 0, none⟩ = some (.int .i64 g.f0) ∧ w'.cell? ⟨wo.heap.size, 1, none⟩ = some (.slice Ag g.f1.length cg) ∧ w'.cell? (bd.add (i * 2)) = some (.int .i64 x.f0) ∧ w'.cell? ⟨(bd.add (i * 2)).block, (bd.add (i * 2)).off + 1, none⟩ = some (.slice Ax x.f1.length cx)) (ds := []) #[false, false, false, false, false, false, false, false, false, false, false, false] (by kernel_rfl) rfl rfl (⟨(Ya (Ra HGB.out) 0).trans rfl, (Ya (Ra HGB.out) 1).trans rfl, y0, y1⟩) (fun hHeld => ?_);have HDR := qa.mk (Eg (Below.refl wr.heap.size wr));generalize hwd : wr.drew = wd0 at *
     refine zp1 (i := 0) (N := some 24) #[true, false, false, false, false, false, false, false, false, false, false, false] rfl rfl (by kernel_rfl) ?_;refine zp1 (i := 1) (N := some 25) #[true, true, false, false, false, false, false, false, false, false, false, false] rfl rfl (by kernel_rfl) ?_;refine zp1 (i := 2) (N := some 26) #[true, true, true, false, false, false, false, false, false, false, false, false] rfl rfl (by kernel_rfl) ?_;refine zp1 (i := 3) (N := some 27) #[true, true, true, true, false, false, false, false, false, false, false, false] rfl rfl (by kernel_rfl) ?_;refine zp1 (i := 4) (N := some 28) #[true, true, true, true, true, false, false, false, false, false, false, false] rfl rfl (by kernel_rfl) ?_;refine zp1 (i := 5) (N := some 29) #[true, true, true, true, true, true, false, false, false, false, false, false] rfl rfl (by kernel_rfl) ?_;refine zp1 (i := 6) (N := some 30) #[true, true, true, true, true, true, true, false, false, false, false, false] rfl rfl (by kernel_rfl) ?_;refine zp1 (i := 7) (N := some 31) #[true, true, true, true, true, true, true, true, false, false, false, false] rfl rfl (by kernel_rfl) ?_;refine take_ (i := 8) (N := some 32) (v := ?_) (a' := ?_) #[true, true, true, true, true, true, true, true, true, false, false, false] rfl rfl (by kernel_rfl) (fun _ _ _ h => h) (Or.inl ⟨by rfl, ?_⟩) hHeld ?_ ?_;rotate_left
     ·rintro w' ⟨s0, s1, s2, s3⟩;go_simp
      with_reducible rfl
     rotate_left
     ·simp only [Act.put, List.setIfInBounds_toArray, List.set_cons_zero, List.set_cons_succ, Ff, Jh];rfl
     refine take_ (i := 9) (N := some 33) (v := ?_) (a' := ?_) #[true, true, true, true, true, true, true, true, true, true, false, false] rfl rfl (by kernel_rfl) (fun _ _ _ h => h) (Or.inl ⟨by rfl, ?_⟩) hHeld ?_ ?_;rotate_left
     ·rintro w' ⟨s0, s1, s2, s3⟩;go_simp
      with_reducible rfl
     rotate_left
     ·simp only [Act.put, List.setIfInBounds_toArray, List.set_cons_zero, List.set_cons_succ, Ff, Jh];rfl
     refine Uj (i := 10) (N := some 34) #[true, true, true, true, true, true, true, true, true, true, true, false] rfl rfl (by kernel_rfl) (by decide) (fun K hK => ?_);refine Di Tryz.func89 (by kernel_rfl) rfl #[.agg #[.int .i64 x.f0, .slice Ax x.f1.length cx], .agg #[.int .i64 g.f0, .slice Ag g.f1.length cg]] (by rfl) rfl rfl (by (try simp only [List.map_toArray, List.map_cons, List.map_nil]); first | done | rfl) ?_;refine (We.calls k x.f0 Ax cx x.f1 g.f0 Ag cg g.f1 bb _ (Kd.C_below HXC.out HDR.out) hxl (Kd.C_below HGC2.out HDR.out) hgl HBB.out).mono ?_;rintro e wz ⟨rfl, hbz⟩;refine ⟨_, rfl, ?_⟩;have HZ := qa.mk (HDR.out.trans (hbz.mono HDR.out.size));refine hK.out _ _ (⟨(Ya (Na HGB.out HZ.out) 0).trans rfl, (Ya (Na HGB.out HZ.out) 1).trans rfl, (HZ.out.cell (World.block_lt_of_cell? wr _ y0)).trans y0, (HZ.out.cell (World.block_lt_of_cell? wr _ y1)).trans y1⟩) (fun hHeld => ?_);clear hK K;refine zn1 ?_;clear hbz y0 y1;refine zp1 (i := 11) (N := some 35) #[true, true, true, true, true, true, true, true, true, true, true, true] rfl rfl (by kernel_rfl) ?_;refine Bi (by kernel_rfl) ?_;cases bb;case true =>
      have hP := HP2.out;rw [if_pos rfl] at hP;have HP3 := qa.mk hP;clear hP HP2;go_wp2;go_roundg (outs.length - (i + 1));case measure => exact om2 hil hgi
      case rel => exact ⟨i + 1, hil, Nat.le_refl _, by congr 1; (try exact om3 hil (Nat.le_trans (Nat.le_of_lt hol) (by decide))), HP3, ⟨HQ.out.trans (HZ.out.mono HQ.out.size)⟩, ⟨Na HGB.out HZ.out⟩⟩
     case' false =>
      have hP := HP2.out;rw [if_neg (by decide)] at hP;obtain rfl := Option.some.inj hP;have HT2 := HT2a;clear hP HP2;have HGBz := qa.mk (Na HGB.out HZ.out);have HOQz := qa.mk (Kd.F_mono (Kd.F_below HOQ.out HZ.out) (ok' := fun z => w.heap.size ≤ z ∧ z < wz.heap.size) (fun z hz => ⟨hz.1, Nat.lt_of_lt_of_le hz.2 HZ.out.size⟩));have HGFQz := qa.mk (Kd.FK_mono (Kd.FK_below HGFQ.out HZ.out) (ok' := fun z => w.heap.size ≤ z ∧ z < wz.heap.size) (fun z hz => ⟨hz.1, Nat.lt_of_lt_of_le hz.2 HZ.out.size⟩));have HA1z := qa.mk (HA1.out.trans (HZ.out.mono HA1.out.size));have HBQz := qa.mk (HBQ.out.trans (HZ.out.mono HBQ.out.size));clear HGB HOQ HGFQ HA1 HBQ HGC HGC2 HXC HBB HT2a HGF HQ;have HGB := HGBz;have HOQ := HOQz;have HGFQ := HGFQz;have HA1 := HA1z;have HBQ := HBQz;clear HGBz HOQz HGFQz HA1z HBQz HZ;obtain ⟨wd0, rfl⟩ : ∃ wd0, wd0 = wz := ⟨wz, rfl⟩;generalize (some bd : Option Addr) = Ao at *
    case' neg =>
     have hiz : ¬ (i : Int) < (outs.length : Int) := fun e => hil (Int.ofNat_lt.1 e);have hizb : decide ((i : Int) < (outs.length : Int)) = false := decide_eq_false hiz;have hie : i = outs.length := Nat.le_antisymm hi (Nat.le_of_not_lt hil);have hP := HPOS.out;rw [List.drop_of_length_le (Nat.le_of_eq hie.symm)] at hP;obtain rfl := Option.some.inj hP;have HT2 := HT2a;clear hP HPOS hie HGC HT2a HGF HQ;go_wp2_with fail;refine Kg (n := 12) (S := fun w' => w'.cell? ⟨wo.heap.size, 0, none⟩ = some (.int .i64 g.f0) ∧ w'.cell? ⟨wo.heap.size, 1, none⟩ = some (.slice Ag g.f1.length cg)) (ds := []) #[false, false, false, false, false, false, false, false, false, false, false, false] (by kernel_rfl) rfl rfl (⟨(Ya (Ra HGB.out) 0).trans rfl, (Ya (Ra HGB.out) 1).trans rfl⟩) (fun hHeld => ?_);have HDR := qa.mk (Eg (Below.refl wr.heap.size wr));generalize hwd : wr.drew = wd0 at *
     refine zp1 (i := 0) (N := some 24) #[true, false, false, false, false, false, false, false, false, false, false, false] rfl rfl (by kernel_rfl) ?_;refine zp1 (i := 1) (N := some 25) #[true, true, false, false, false, false, false, false, false, false, false, false] rfl rfl (by kernel_rfl) ?_;refine zp1 (i := 2) (N := some 26) #[true, true, true, false, false, false, false, false, false, false, false, false] rfl rfl (by kernel_rfl) ?_;refine zp1 (i := 3) (N := some 27) #[true, true, true, true, false, false, false, false, false, false, false, false] rfl rfl (by kernel_rfl) ?_;refine zp1 (i := 4) (N := some 28) #[true, true, true, true, true, false, false, false, false, false, false, false] rfl rfl (by kernel_rfl) ?_;refine Yt (i := 5) (N := some 29) (v := undef) (a' := ?_) #[true, true, true, true, true, true, false, false, false, false, false, false] rfl rfl (by kernel_rfl) (fun _ _ _ h => h) (Or.inr ⟨by rfl, rfl⟩) ?_ ?_;rotate_left
     ·simp only [Act.put, List.setIfInBounds_toArray, List.set_cons_zero, List.set_cons_succ, Ff, Jh];rfl
     refine Yt (i := 6) (N := some 30) (v := undef) (a' := ?_) #[true, true, true, true, true, true, true, false, false, false, false, false] rfl rfl (by kernel_rfl) (fun _ _ _ h => h) (Or.inr ⟨by rfl, rfl⟩) ?_ ?_;rotate_left
     ·simp only [Act.put, List.setIfInBounds_toArray, List.set_cons_zero, List.set_cons_succ, Ff, Jh];rfl
     refine Yt (i := 7) (N := some 31) (v := undef) (a' := ?_) #[true, true, true, true, true, true, true, true, false, false, false, false] rfl rfl (by kernel_rfl) (fun _ _ _ h => h) (Or.inr ⟨by rfl, rfl⟩) ?_ ?_;rotate_left
     ·simp only [Act.put, List.setIfInBounds_toArray, List.set_cons_zero, List.set_cons_succ, Ff, Jh];rfl
     refine Yt (i := 8) (N := some 32) (v := undef) (a' := ?_) #[true, true, true, true, true, true, true, true, true, false, false, false] rfl rfl (by kernel_rfl) (fun _ _ _ h => h) (Or.inr ⟨by rfl, rfl⟩) ?_ ?_;rotate_left
     ·simp only [Act.put, List.setIfInBounds_toArray, List.set_cons_zero, List.set_cons_succ, Ff, Jh];rfl
     refine Yt (i := 9) (N := some 33) (v := undef) (a' := ?_) #[true, true, true, true, true, true, true, true, true, true, false, false] rfl rfl (by kernel_rfl) (fun _ _ _ h => h) (Or.inr ⟨by rfl, rfl⟩) ?_ ?_;rotate_left
     ·simp only [Act.put, List.setIfInBounds_toArray, List.set_cons_zero, List.set_cons_succ, Ff, Jh];rfl
     refine Yt (i := 10) (N := some 34) (v := undef) (a' := ?_) #[true, true, true, true, true, true, true, true, true, true, true, false] rfl rfl (by kernel_rfl) (fun _ _ _ h => h) (Or.inr ⟨by rfl, rfl⟩) ?_ ?_;rotate_left
     ·simp only [Act.put, List.setIfInBounds_toArray, List.set_cons_zero, List.set_cons_succ, Ff, Jh];rfl
     refine zp1 (i := 11) (N := some 35) #[true, true, true, true, true, true, true, true, true, true, true, true] rfl rfl (by kernel_rfl) ?_;refine Bi (by kernel_rfl) ?_;have HGBd := qa.mk (Na HGB.out HDR.out);have HOQd := qa.mk (Kd.F_mono (Kd.F_below HOQ.out HDR.out) (ok' := fun z => w.heap.size ≤ z ∧ z < wd0.heap.size) (fun z hz => ⟨hz.1, Nat.lt_of_lt_of_le hz.2 HDR.out.size⟩));have HGFQd := qa.mk (Kd.FK_mono (Kd.FK_below HGFQ.out HDR.out) (ok' := fun z => w.heap.size ≤ z ∧ z < wd0.heap.size) (fun z hz => ⟨hz.1, Nat.lt_of_lt_of_le hz.2 HDR.out.size⟩));have HA1d := qa.mk (HA1.out.trans (HDR.out.mono HA1.out.size));have HBQd := qa.mk (HBQ.out.trans (HDR.out.mono HBQ.out.size));clear HGB HOQ HGFQ HA1 HBQ hHeld;have HGB := HGBd;have HOQ := HOQd;have HGFQ := HGFQd;have HA1 := HA1d;have HBQ := HBQd;clear HGBd HOQd HGFQd HA1d HBQd HDR;go_wp2_with fail
    all_goals (
     have hcut1 := qy (P := Tryz.prog) 47 24 .i64 Tryz.underlying47 hinf Ao outs.length co (i : Int) (Int.natCast_nonneg _) (Int.ofNat_le.2 hi) hoc;simp only [Int.toNat_natCast] at hcut1;have hcut2 := Uk (P := Tryz.prog) 47 24 .i64 Tryz.underlying47 hinf 2 hinf2 Ao outs.length co (i : Int) (Int.natCast_nonneg _) (Int.ofNat_le.2 hi);simp only [Int.toNat_natCast] at hcut2;obtain ⟨A2c, hA2c⟩ : ∃ A2c : Option Addr, A2c = (if co = i then Ao else (Ao : Option Addr).map (·.add (i * 2))) := ⟨_, rfl⟩;obtain ⟨c2c, hc2c⟩ : ∃ c2c : Nat, c2c = co - i := ⟨_, rfl⟩;obtain ⟨n2c, hn2c⟩ : ∃ n2c : Nat, n2c = outs.length - i := ⟨_, rfl⟩;rw [← hA2c, ← hc2c, ← hn2c] at hcut2;have hib : decide (0 ≤ (i : Int)) = true := decide_eq_true (Int.natCast_nonneg _);have hlt1 : (outs.take i).length = i := by rw [List.length_take]; exact Nat.min_eq_left hi
     have hld1 : (outs.drop i).length = outs.length - i := List.length_drop;have HF1 := qa.mk (show Kd.F k24 wd0 (fun z => w.heap.size ≤ z ∧ z < wd0.heap.size) Ao i (outs.take i) from by have := Kd.F_take HOQ.out hi; rwa [hlt1] at this);have HF2 := qa.mk (show Kd.F k24 wd0 (fun z => w.heap.size ≤ z ∧ z < wd0.heap.size) A2c n2c (outs.drop i) from by have := Kd.F_cut HOQ.out hi hoc; rw [hld1] at this; rw [hA2c, hn2c]; exact this);have HN2c := qa.mk hn2c;clear hA2c hc2c hn2c;go_wp2_with fail;refine Kg (n := 9) (S := fun w' => w'.cell? ⟨wo.heap.size, 0, none⟩ = some (.int .i64 g.f0) ∧ w'.cell? ⟨wo.heap.size, 1, none⟩ = some (.slice Ag g.f1.length cg)) (ds := []) #[false, false, false, false, false, false, false, false, false] (by kernel_rfl) rfl rfl (⟨(Ya (Ra HGB.out) 0).trans rfl, (Ya (Ra HGB.out) 1).trans rfl⟩) (fun hHeld => ?_);have HBD := qa.mk (HBQ.out.trans ((Eg (Below.refl _ _)).mono HBQ.out.size));have HAD := qa.mk (Below.trans HA1.out ((Eg (Below.refl _ _)).mono HA1.out.size));have HF1d := qa.mk (Kd.F_drew HF1.out);have HF2d := qa.mk (Kd.F_drew HF2.out);have HGd := qa.mk (Ra HGB.out);have HGFd := qa.mk (Kd.FK_below HGFQ.out (Eg (Below.refl _ _)));have hsz : wd0.drew.heap.size = wd0.heap.size := rfl;clear HF1 HF2 HGB HGFQ HOQ HBQ HA1;rw [← hsz] at HF1d HF2d HGFd;clear hsz;generalize wd0.drew = wd at *
     refine zp1 (i := 1) (N := some 39) #[false, true, false, false, false, false, false, false, false] rfl rfl (by kernel_rfl) ?_;refine zp1 (i := 2) (N := some 40) #[false, true, true, false, false, false, false, false, false] rfl rfl (by kernel_rfl) ?_;refine zp1 (i := 3) (N := some 41) #[false, true, true, true, false, false, false, false, false] rfl rfl (by kernel_rfl) ?_;refine take_ (i := 5) (N := some 43) (v := ?_) (a' := ?_) #[false, true, true, true, false, true, false, false, false] rfl rfl (by kernel_rfl) (fun _ _ _ h => h) (Or.inl ⟨by rfl, ?_⟩) hHeld ?_ ?_;rotate_left
     ·rintro w' ⟨s0, s1⟩;go_simp
      with_reducible rfl
     rotate_left
     ·simp only [Act.put, List.setIfInBounds_toArray, List.set_cons_zero, List.set_cons_succ, Ff, Jh];rfl
     refine MH (σ := Value × Value × Value) 2 #[true, true, true, true, true, true, true, false, false] (fun s_ => [(38, s_.1), (42, s_.2.1), (44, s_.2.2)]) (fun s_ w' => Kd.N k24 24 w' wd.heap.size (fun z => w.heap.size ≤ z) s_.2.1 (outs.take i) ∧ (∃ b, s_.2.2 = .slice (some ⟨b, 0, none⟩) 1 1 ∧ w'.heap[b]? = some (.cells #[.int .i64 g.f0, .slice Ag g.f1.length cg] 24 (0, 0)) ∧ some b ≠ s_.2.1.ownBlock) ∧ Below wd.heap.size wd w') ?_ ?_;rotate_left
     ·intro hCont;refine VK (i := 0) (j := 6) (Ni := some 38) (Nj := some 44) #[true, true, true, true, false, true, false, false, false] #[false, true, true, true, false, true, true, false, false] rfl rfl rfl rfl (by kernel_rfl) (by decide) (by decide) (fun K hK => ?_) (fun K hK => ?_)
      ·refine Kd.N_lit_step k24 _ 24 ?hg (N' := 38) ?hd (xs := ([] : List S24)) (inner := []) (ok := fun _ => True) (okp := fun _ => False) ?hr ?hp (fun _ hk => hk.elim) trivial (Below.refl _ _) (Nat.le_refl _) (by simp) ?_;case hd => rfl
       case hg => rfl
       case hr => first | (go_simp; done) | (go_simp; rfl)
       case hp => exact qg.none _ _
       intro v37 wa hn37 hba _ hnew;have HN37 := qa.mk (Kd.N_mono (Kd.N_lower hn37 (Nat.le_refl wd.heap.size)) (ok' := fun z => w.heap.size ≤ z ∨ True) (fun _ _ => .inr trivial));have hN37 : Kd.N k24 24 wa wd.heap.size (fun z => w.heap.size ≤ z) v37 [] := OE hn37 (Nat.le_trans HBD.out.size (Nat.le_refl _));have HN37 := qa.mk hN37;have HBa := qa.mk hba;clear hn37 hba hN37 hnew;refine hK.out _ _ ⟨(Ya (Na HGd.out HBa.out) 0).trans rfl, (Ya (Na HGd.out HBa.out) 1).trans rfl⟩ (fun hHeld => ?_);clear hK K;refine zn1 ?_;refine VK (i := 4) (j := 6) (Ni := some 42) (Nj := some 44) #[true, true, true, true, true, true, false, false, false] #[true, true, true, true, false, true, true, false, false] rfl rfl rfl rfl (by kernel_rfl) (by decide) (by decide) (fun K hK => ?_) (fun K hK => ?_)
       ·refine Kd.N_append_rows_step k24 (w0 := wd) wd.heap.size (by rfl) (.tmp 38) (.tmp 41) 47 24 (.agg #[(.int .i64 0), (.slice none 0 0)]) 32 rfl Tryz.underlying47 Oj rfl (by decide) (by omega) v37 [] (outs.take i) Ao i co (fun z => w.heap.size ≤ z) (fun z => w.heap.size ≤ z ∧ z < wd.heap.size) rfl rfl HN37.out (Kd.F_below HF1d.out HBa.out) (fun z hz => ⟨hz.1, fun he => by have := Kd.N_base HN37.out z he.symm; exact absurd hz.2 (Nat.not_lt.2 this)⟩) (fun z hz => Nat.le_trans HBD.out.size (Nat.le_trans (Below.size HBa.out) hz)) HBa.out (Below.size HBa.out) (by have := hol; simp; omega) ?_;intro v41 wb hn41 hbb hgb hat
        rw [List.nil_append] at hn41;have HN41 := qa.mk hn41;have HBb := qa.mk hbb;clear hn41 hbb hgb hat HN37 HBa;refine hK.out _ _ ⟨(Ya (Na HGd.out HBb.out) 0).trans rfl, (Ya (Na HGd.out HBb.out) 1).trans rfl⟩ (fun hHeld => ?_);clear hK K;refine zn1 ?_;refine Uj (i := 6) (N := some 44) #[true, true, true, true, true, true, true, false, false] rfl rfl (by kernel_rfl) (by decide) (fun K hK => ?_);refine Lj (w1 := ?_) (v := ?_) (by rfl) rfl ?_ ?_;rotate_left 2
        ·go_simp
         constructor
         ·rfl
         ·rfl
        refine hK.out _ _ ⟨(Ya (Qa (Na HGd.out HBb.out) _) 0).trans rfl, (Ya (Qa (Na HGd.out HBb.out) _) 1).trans rfl⟩ (fun hHeld => ?_);clear hK K;refine zn1 ?_;exact Co (by simp only [Fj, Act.put, List.setIfInBounds_toArray, List.set_cons_zero, List.set_cons_succ]) (hCont (v37, v41, .slice (some ⟨wb.heap.size, 0, none⟩) 1 1) _ ⟨Kd.N_alloc HN41.out _, ⟨_, rfl, Ph wb _, fun he => Nat.lt_irrefl _ (Kd.N_lt HN41.out _ he.symm)⟩, HBb.out.alloc HBb.out.size _⟩)
       ·refine Lj (w1 := ?_) (v := ?_) (by rfl) rfl ?_ ?_;rotate_left 2
        ·go_simp
         constructor
         ·rfl
         ·rfl
        refine hK.out _ _ ⟨(Ya (Qa (Na HGd.out HBa.out) _) 0).trans rfl, (Ya (Qa (Na HGd.out HBa.out) _) 1).trans rfl⟩ (fun hHeld => ?_);clear hK K;refine zn1 ?_;have hb43 := Ph wa (.cells #[.int .i64 g.f0, .slice Ag g.f1.length cg] 24 (0, 0));have hne43 : some wa.heap.size ≠ v37.ownBlock := fun he => Nat.lt_irrefl _ (Kd.N_lt HN37.out _ he.symm);have HN37b := qa.mk (Kd.N_alloc HN37.out (.cells #[.int .i64 g.f0, .slice Ag g.f1.length cg] 24 (0, 0)));have HBab := qa.mk (HBa.out.alloc HBa.out.size (.cells #[.int .i64 g.f0, .slice Ag g.f1.length cg] 24 (0, 0)));refine Uj (i := 4) (N := some 42) #[true, true, true, true, true, true, true, false, false] rfl rfl (by kernel_rfl) (by decide) (fun K hK => ?_);refine Kd.N_append_rows_step k24 (w0 := wd) wd.heap.size (by rfl) (.tmp 38) (.tmp 41) 47 24 (.agg #[(.int .i64 0), (.slice none 0 0)]) 32 rfl Tryz.underlying47 Oj rfl (by decide) (by omega) v37 [] (outs.take i) Ao i co (fun z => w.heap.size ≤ z) (fun z => w.heap.size ≤ z ∧ z < wd.heap.size) rfl rfl HN37b.out (Kd.F_below HF1d.out HBab.out) (fun z hz => ⟨hz.1, fun he => by have := Kd.N_base HN37b.out z he.symm; exact absurd hz.2 (Nat.not_lt.2 this)⟩) (fun z hz => Nat.le_trans HBD.out.size (Nat.le_trans (Below.size HBab.out) hz)) HBab.out (Below.size HBab.out) (by have := hol; simp; omega) ?_;intro v41 wb hn41 hbb hgb hat
        rw [List.nil_append] at hn41;have hb43' := Qe hb43 hgb hne43;have hne41 : some wa.heap.size ≠ v41.ownBlock := by
         rcases hat with hat | ⟨bb, hbb', hle⟩
         ·rw [hat]; exact hne43
         ·rw [hbb']; intro he; injection he with he; have := Lf hb43; omega
        refine hK.out _ _ ⟨(Ya (Na HGd.out hbb) 0).trans rfl, (Ya (Na HGd.out hbb) 1).trans rfl⟩ (fun hHeld => ?_);clear hK K;refine zn1 ?_;exact Co (by simp only [Fj, Act.put, List.setIfInBounds_toArray, List.set_cons_zero, List.set_cons_succ]) (hCont (v37, v41, .slice (some ⟨wa.heap.size, 0, none⟩) 1 1) _ ⟨hn41, ⟨_, rfl, hb43', hne41⟩, hbb⟩)
      ·refine Lj (w1 := ?_) (v := ?_) (by rfl) rfl ?_ ?_;rotate_left 2
       ·go_simp
        constructor
        ·rfl
        ·rfl
       refine hK.out _ _ ⟨(Ya (Qa HGd.out _) 0).trans rfl, (Ya (Qa HGd.out _) 1).trans rfl⟩ (fun hHeld => ?_);clear hK K;refine zn1 ?_;have hb430 := Ph wd (.cells #[.int .i64 g.f0, .slice Ag g.f1.length cg] 24 (0, 0));have HBe := qa.mk ((Below.refl _ wd).alloc (Nat.le_refl _) (.cells #[.int .i64 g.f0, .slice Ag g.f1.length cg] 24 (0, 0)));refine Uj (i := 0) (N := some 38) #[true, true, true, true, false, true, true, false, false] rfl rfl (by kernel_rfl) (by decide) (fun K hK => ?_);refine Kd.N_lit_step k24 _ 24 ?hg (N' := 38) ?hd (xs := ([] : List S24)) (inner := []) (ok := fun _ => True) (okp := fun _ => False) ?hr ?hp (fun _ hk => hk.elim) trivial (Below.refl _ _) (Nat.le_refl _) (by simp) ?_;case hd => rfl
       case hg => rfl
       case hr => first | (go_simp; done) | (go_simp; rfl)
       case hp => exact qg.none _ _
       intro v37 wa hn37 hba _ hnew;have hN37 : Kd.N k24 24 wa wd.heap.size (fun z => w.heap.size ≤ z) v37 [] := Kd.N_lower (OE hn37 (Nat.le_trans HBD.out.size HBe.out.size)) HBe.out.size;have hb43 := Na hb430 hba;have hne43 : some wd.heap.size ≠ v37.ownBlock := fun he => by have h1 := Kd.N_base hn37 _ he.symm; have h2 := Lf hb430; omega
       have HBab := qa.mk (HBe.out.trans (hba.mono HBe.out.size));have HN37b := qa.mk hN37;clear hn37 hba hN37 hnew;refine hK.out _ _ ⟨(Ya (Na HGd.out HBab.out) 0).trans rfl, (Ya (Na HGd.out HBab.out) 1).trans rfl⟩ (fun hHeld => ?_);clear hK K;refine zn1 ?_;refine Uj (i := 4) (N := some 42) #[true, true, true, true, true, true, true, false, false] rfl rfl (by kernel_rfl) (by decide) (fun K hK => ?_);refine Kd.N_append_rows_step k24 (w0 := wd) wd.heap.size (by rfl) (.tmp 38) (.tmp 41) 47 24 (.agg #[(.int .i64 0), (.slice none 0 0)]) 32 rfl Tryz.underlying47 Oj rfl (by decide) (by omega) v37 [] (outs.take i) Ao i co (fun z => w.heap.size ≤ z) (fun z => w.heap.size ≤ z ∧ z < wd.heap.size) rfl rfl HN37b.out (Kd.F_below HF1d.out HBab.out) (fun z hz => ⟨hz.1, fun he => by have := Kd.N_base HN37b.out z he.symm; exact absurd hz.2 (Nat.not_lt.2 this)⟩) (fun z hz => Nat.le_trans HBD.out.size (Nat.le_trans (Below.size HBab.out) hz)) HBab.out (Below.size HBab.out) (by have := hol; simp; omega) ?_;intro v41 wb hn41 hbb hgb hat
       rw [List.nil_append] at hn41;have hb43' := Qe hb43 hgb hne43;have hne41 : some wd.heap.size ≠ v41.ownBlock := by
        rcases hat with hat | ⟨bb, hbb', hle⟩
        ·rw [hat]; exact hne43
        ·rw [hbb']; intro he; injection he with he; have := Lf hb43; omega
       refine hK.out _ _ ⟨(Ya (Na HGd.out hbb) 0).trans rfl, (Ya (Na HGd.out hbb) 1).trans rfl⟩ (fun hHeld => ?_);clear hK K;refine zn1 ?_;exact Co (by simp only [Fj, Act.put, List.setIfInBounds_toArray, List.set_cons_zero, List.set_cons_succ]) (hCont (v37, v41, .slice (some ⟨wd.heap.size, 0, none⟩) 1 1) _ ⟨hn41, ⟨_, rfl, hb43', hne41⟩, hbb⟩)
     rintro ⟨v37, v41, v43⟩ w' ⟨hn41, ⟨b, hb43e, hb43, hne41⟩, hbw⟩;dsimp only at hn41 hb43e hne41;subst hb43e;have HN41 := qa.mk hn41;have HBW := qa.mk hbw;have HB43 := qa.mk hb43;have HNE := qa.mk hne41;clear hn41 hbw hb43 hne41;refine Co (a' := ?_) ?_ ?_;rotate_left
     ·simp only [Fj, Act.put, List.setIfInBounds_toArray, List.set_cons_zero, List.set_cons_succ];rfl
     refine Uj (i := 7) (N := some 45) #[true, true, true, true, true, true, true, true, false] rfl rfl (by kernel_rfl) (by decide) (fun K hK => ?_);refine Ik k24 (w0 := wd) wd.heap.size (by rfl) (.tmp 42) (.tmp 44) 47 24 (.agg #[(.int .i64 0), (.slice none 0 0)]) 32 rfl Tryz.underlying47 Oj rfl (by decide) (by omega) v41 (outs.take i) [g] (some ⟨b, 0, none⟩) 1 1 (fun z => w.heap.size ≤ z) (fun z => w.heap.size ≤ z ∧ z < wd.heap.size) rfl rfl HN41.out (qH HB43.out (Kd.FK_below HGFd.out HBW.out)) (fun z hz => ⟨hz.1, fun he => by have := Kd.N_base HN41.out z he.symm; exact absurd hz.2 (Nat.not_lt.2 this)⟩) (fun z hz => Nat.le_trans HBD.out.size (Nat.le_trans HBW.out.size hz)) HBW.out HBW.out.size (by rw [hlt1]; have := hol; omega) ?_;intro v44 wc hn44 hbc _ _;obtain ⟨A44, c44, rfl⟩ := Kd.N_slice hn44;have HN44 := qa.mk hn44;have HBC := qa.mk hbc;clear hn44 hbc HN41 HBW HB43 HNE;refine hK.out _ _ ⟨(Ya (Na HGd.out HBC.out) 0).trans rfl, (Ya (Na HGd.out HBC.out) 1).trans rfl⟩ (fun hHeld => ?_);clear hK K;refine zn1 ?_;refine zp1 (i := 8) (N := some 8) #[true, true, true, true, true, true, true, true, true] rfl rfl (by kernel_rfl) ?_;refine Bi (by kernel_rfl) ?_;have hl44 : (outs.take i ++ [g]).length = i + 1 := by rw [List.length_append, hlt1]; rfl
     have hn44 := HN44.out;rw [hl44] at hn44;have HN45 := qa.mk hn44;clear hn44 HN44;go_wp2_with ((with_reducible refine Uc (b := .append) (xs := #[.tmp 46, .tmp 49]) rfl ?_); at_builtin; refine Kd.N_append_rows k24 (w0 := wd) wd.heap.size rfl (.tmp 46) (.tmp 49) 47 24 (.agg #[(.int .i64 0), (.slice none 0 0)]) 32 rfl Tryz.underlying47 Oj rfl (by decide) (by omega) (.slice A44 (i + 1) c44) (outs.take i ++ [g]) (outs.drop i) A2c n2c c2c (fun z => w.heap.size ≤ z) (fun z => w.heap.size ≤ z ∧ z < wd.heap.size) rfl rfl HN45.out (Kd.F_below HF2d.out HBC.out) (fun z hz => ⟨hz.1, fun he => by have := Kd.N_base HN45.out z he.symm; exact absurd hz.2 (Nat.not_lt.2 this)⟩) (fun z hz => Nat.le_trans HBD.out.size (Nat.le_trans HBC.out.size hz)) HBC.out HBC.out.size (by rw [hl44, HN2c.out]; have := hol; omega) ?_; intro v49 we hn49 hbe _ _; obtain ⟨A49, c49, rfl⟩ := Kd.N_slice hn49; have HN49 := qa.mk hn49; have HBE := qa.mk hbe; clear hn49 hbe);have hl3 : (outs.take i ++ [g] ++ outs.drop i).length = outs.length + 1 := by rw [List.length_append, hl44, hld1]; exact om6 hi
     go_roundg (gs.length - (kk + 1));case measure => exact om2 hlt hg
     case rel => exact ⟨kk + 1, A49, c49, outs.take i ++ [g] ++ outs.drop i, hlt, Nat.le_refl _, by first | rfl | (simp; done) | (congr 1; simp; omega), by congr 1; (try exact om3 hlt (Nat.le_trans c1 (by decide))), ⟨by rw [hl3, HOL.out]⟩, (Kd.N_reads' HN49.out).2.1, HT2, ⟨Kd.F_bound (Kd.N_F HN49.out)⟩, ⟨HAD.out.trans (HBE.out.mono HAD.out.size)⟩⟩)
  ·have hkl : kk = gs.length := Nat.le_antisymm hkk (Nat.le_of_not_lt hlt);have hltz : ¬ (kk : Int) < (gs.length : Int) := fun e => hlt (Int.ofNat_lt.1 e);subst hkl;have hT := HT.out;rw [List.drop_length] at hT;obtain rfl := Option.some.inj hT;go_wp2;go_ret;exact ⟨_, rfl, ⟨Ao, co, rfl, hoc, Kd.F_mono HO.out (fun z hz => hz.1)⟩, HB.out.trans (HB1.out.mono HB.out.size)⟩
def Wo (k : Nat) (F : Nat → List Bool → List S24 → Option (List S24 × Bool)) (now : List Bool) (b : List S24) : List S24 → Nat → Option (List S24 × Bool)
 | [], _ => some ([], false)
 | g :: gs, i => (Be.f k g.f0 g.f1).bind fun nx => if nx.length = now.length then (F (i + 1) (List.zipWith (fun x y => x && y) nx now) (b ++ [g])).bind fun r => if r.2 = true then some (r.1, true) else Wo k F now b gs (i + 1) else none
def Hf.f (k : Nat) (gl : List S24) (ov : List Bool) : Nat → Nat → List Bool → List S24 → Option (List S24 × Bool)
 | 0, _, now, b => (Jf.f k now ov).bind fun t => some (b, t)
 | m + 1, i, now, b => Wo k (Hf.f k gl ov m) now b (gl.drop i) i
theorem Hw {k : Nat} {F : Nat → List Bool → List S24 → Option (List S24 × Bool)} {now : List Bool} {b gl : List S24} {i j : Nat} (h : i < gl.length) :
 Wo k F now b (gl.drop i) j = (Be.f k (gl.getD i z24).f0 (gl.getD i z24).f1).bind fun nx => if nx.length = now.length then (F (j + 1) (List.zipWith (fun x y => x && y) nx now) (b ++ [gl.getD i z24])).bind fun r => if r.2 = true then some (r.1, true) else Wo k F now b (gl.drop (i + 1)) (j + 1) else none := by
 rw [List.drop_eq_getElem_cons h, List.getD_eq_getElem?_getD, List.getElem?_eq_getElem h]; rfl
def YC (nx now : List Bool) (j : Nat) : List Bool := List.zipWith (fun x y => x && y) (nx.take j) (now.take j) ++ nx.drop j
theorem omq {a b : Nat} (h : a = b) (hb : 1 ≤ b) : 0 < a := by omega
theorem MI {a b : List Bool} (h : a.length = b.length) : (List.zipWith (fun x y => x && y) a b).length = a.length := by rw [List.length_zipWith]; omega
theorem wmA {m : Nat} (h : m ≤ 1000000) : wrap64 (((m + 1 : Nat) : Int) - 1) = (m : Int) := by unfold wrap64; omega
theorem wmB {m : Nat} (h : m ≤ 1000000) : wrap64 (m : Int) = (m : Int) := by unfold wrap64; omega
theorem wmC {m : Nat} (h : m ≤ 1000000) : wrap64 ((m : Int) + 1 - 1) = (m : Int) := by unfold wrap64; omega
theorem JC (nx now : List Bool) : YC nx now 0 = nx := by simp [YC]
theorem SE {nx now : List Bool} (h : nx.length = now.length) : YC nx now now.length = List.zipWith (fun x y => x && y) nx now := by
 unfold YC;rw [List.take_of_length_le (by omega), List.take_of_length_le (Nat.le_refl _), List.drop_of_length_le (by omega), List.append_nil]
theorem qF {nx now : List Bool} (h : nx.length = now.length) {j : Nat} (hj : j < now.length) : yf false (YC nx now j) (j : Int) = nx.getD j false := by
 have hz : (List.zipWith (fun x y => x && y) (nx.take j) (now.take j)).length = j := by rw [List.length_zipWith, List.length_take, List.length_take]; omega
 unfold yf YC;rw [Int.toNat_natCast, List.getD_eq_getElem?_getD, List.getElem?_append_right (by omega), hz, Nat.sub_self, List.getElem?_drop, Nat.add_zero, List.getD_eq_getElem?_getD]
theorem yF {nx now : List Bool} (h : nx.length = now.length) {j : Nat} (hj : j < now.length) : (YC nx now j).set j (nx.getD j false && now.getD j false) = YC nx now (j + 1) := by
 have hz : (List.zipWith (fun x y => x && y) (nx.take j) (now.take j)).length = j := by rw [List.length_zipWith, List.length_take, List.length_take]; omega
 have h1 : j < nx.length := by omega
 unfold YC;rw [List.set_append_right _ _ (by omega), hz, Nat.sub_self, List.drop_eq_getElem_cons h1, List.set_cons_zero, List.take_succ_eq_append_getElem h1, List.take_succ_eq_append_getElem hj, List.zipWith_append (by rw [List.length_take, List.length_take]; omega), List.append_assoc];rw [List.getD_eq_getElem?_getD, List.getD_eq_getElem?_getD, List.getElem?_eq_getElem h1, List.getElem?_eq_getElem hj]; rfl
theorem Hf.calls (k : Nat) (gl : List S24) (Ag : Option Addr) (cg : Nat) (hcg : gl.length ≤ cg) (hgl : gl.length ≤ 1000000) (ov : List Bool) (Ao : Option Addr) (co : Nat) (hco : ov.length ≤ co) (bs : Nat) (w0 : World) (hbs : bs ≤ w0.heap.size)
 (hG : Kd.F k24 w0 (fun z => bs ≤ z ∧ z < w0.heap.size) Ag gl.length gl) (hO : Kd.C Kd.bool w0 Ao ov.length ov) :
 ∀ (m i : Nat) (now : List Bool) (An : Option Addr) (cn : Nat) (b : List S24) (Ab : Option Addr) (cb : Nat) (r : List S24) (t : Bool) (w : World), Below w0.heap.size w0 w → now.length ≤ cn → 1 ≤ now.length → b.length ≤ cb → i ≤ gl.length → b.length + m ≤ 1000000 → Kd.C Kd.bool w An now.length now → Kd.F k24 w (fun z => bs ≤ z ∧ z < w.heap.size) Ab b.length b → Hf.f k gl ov m i now b = some (r, t) →
 Calls Tryz.prog 66 #[.slice Ag gl.length cg, .int .i64 i, .int .i64 m, .slice An now.length cn, .slice Ao ov.length co, .slice Ab b.length cb] w fun e w' => ∃ v0_ : Value, e = .returned (.tuple #[v0_, .bool t]) ∧ Kd.V k24 24 w' bs (fun z => bs ≤ z ∧ z < w'.heap.size) v0_ r ∧ Below w.heap.size w w' := by
 have HG := qa.mk hG;have HO := qa.mk hO;clear hG hO;intro m;induction m with
 | zero =>
  intro i now An cn b Ab cb r t w hB hcn hn1 hcb hi hbm hN hF h;rw [Hf.f] at h;replace h := zB0 h;obtain ⟨t', ht, h⟩ := h;simp only [Option.some.injEq, Prod.mk.injEq] at h;obtain ⟨rfl, rfl⟩ := h;have HT := qa.mk ht;have HN := qa.mk hN;have HF := qa.mk hF;have HB := qa.mk hB;clear ht hN hF hB hbm;go_enter Tryz.func66, Tryz.ntmps66;go_wp2_with (go_at_call 121; refine (Jf.calls k An cn now Ao co ov t' _ HN.out hcn (Kd.C_below HO.out HB.out) hco HT.out).mono ?_; rintro e w1 ⟨rfl, hb⟩; have HB1 := qa.mk hb.below; clear hb);go_ret2
  exact ⟨_, by first | rfl | (simp [*] <;> rfl), ⟨Ab, cb, rfl, hcb, Kd.F_mono (Kd.F_below HF.out HB1.out) (fun z hz => ⟨hz.1, Nat.lt_of_lt_of_le hz.2 HB1.out.size⟩)⟩, HB1.out⟩
 | succ m IH =>
  intro i now An cn b Ab cb r t w hB hcn hn1 hcb hi hbm hN hF h;obtain ⟨adn, eAn, _⟩ := Kd.at_bool hN (0 : Int) (Int.le_refl _) (by omega);subst eAn;have HB32 := qa.mk (show (b.length + 1) * 32 ≤ 140737488355328 by omega);have HB33 := qa.mk (show (([] : List S24).length + b.length) * 32 ≤ 140737488355328 by simp only [List.length_nil]; omega);have HBM2 := qa.mk (show b.length + 1 + m ≤ 1000000 by omega);have hm0 : (((m + 1 : Nat) : Int) == 0) = false := beq_eq_false_iff_ne.2 (by omega);have hm1 : ¬ (((m + 1 : Nat) : Int) = 0) := by omega
  have hm9 : m ≤ 1000000 := Nat.le_trans (Nat.le_succ m) (Nat.le_trans (Nat.le_add_left _ _) hbm);have HMW := qa.mk (wmA hm9);have HMW2 := qa.mk (wmB hm9);have HMW3 := qa.mk (wmC hm9);clear hm9;rw [Hf.f] at h;have IH := qa.mk IH;have HH := qa.mk h;have HN := qa.mk hN;have HF := qa.mk hF;have HB := qa.mk hB;have HBM := qa.mk hbm;clear h hN hF hB hbm;obtain ⟨inf, hinf, _, hinf2, _⟩ := info_parts Oj;go_enter Tryz.func66, Tryz.ntmps66;go_wp2;go_loopg [14] gl.length (fun gg v14 wr => ∃ kk : Nat, kk ≤ gl.length ∧ gl.length - kk ≤ gg ∧ v14 = .int .i64 kk ∧ qa (Wo k (Hf.f k gl ov m) now b (gl.drop kk) kk = some (r, t)) ∧ qa (Below w.heap.size w wr));case atStart => exact ⟨i, hi, Nat.sub_le _ _, rfl, HH, ⟨Below.refl _ _⟩⟩
  case round =>
   clear HH;obtain ⟨kk, hkk, hg, rfl, HT, HB1⟩ := hrel;obtain ⟨wo, rfl⟩ : ∃ wo, wo = wr := ⟨wr, rfl⟩;by_cases hlt : kk < gl.length
   ·have hltz : (kk : Int) < (gl.length : Int) := Int.ofNat_lt.2 hlt;have hltb : decide ((kk : Int) < (gl.length : Int)) = true := decide_eq_true hltz;have hk1 : wrap64 ((kk : Int) + 1) = ((kk + 1 : Nat) : Int) := om3 hlt (Nat.le_trans hgl (by decide));have HB01 := qa.mk (HB.out.trans (HB1.out.mono HB.out.size));obtain ⟨ad, cc, e, hcl, hK, hcc, _⟩ := Kd.F_get (Kd.F_below HG.out HB01.out) z24 (kk : Int) (Int.natCast_nonneg _) hltz;subst e;rw [Int.toNat_natCast] at hK hcc;have hT := HT.out;rw [Hw hlt] at hT;generalize gl.getD kk z24 = g at hK hT;replace hT := zB0 hT;obtain ⟨nx, hnx, hT⟩ := hT;by_cases c1 : nx.length = now.length
    case neg => rw [if_neg c1] at hT; cases hT
    rw [if_pos c1] at hT;replace hT := zB0 hT;obtain ⟨⟨r1, t1⟩, hr1, hT⟩ := hT;obtain ⟨A0, c0, rfl, hl0, hgF⟩ := Yl hK;have x0 : wo.cell? (ad.add (kk * 2)) = some (.int .i64 g.f0) := hcc 0 _ rfl;have x1 : wo.cell? ⟨(ad.add (kk * 2)).block, (ad.add (kk * 2)).off + 1, none⟩ = some (.slice A0 g.f1.length c0) := by rw [← Vh _ _ 1 (by decide)]; exact hcc 1 _ rfl
    have HNX := qa.mk hnx;have HR1 := qa.mk hr1;have HT2 := qa.mk hT;have HK := qa.mk (Kd.FK_mono hK (ok' := fun z => bs ≤ z ∧ z < wo.heap.size) (fun z hz => ⟨hz.1, Nat.lt_of_lt_of_le hz.2 HB01.out.size⟩));have HGC := qa.mk (Kd.F_now hgF);have HX0 := qa.mk x0;have HX1 := qa.mk x1;have HC1 := qa.mk c1;clear hK hcc hcl hT hnx hr1 HT hgF c1;go_wp2_with (go_at_call 67; refine (Be.calls k g.f0 A0 c0 g.f1 nx _ HGC.out hl0 HNX.out).mono ?_; rintro e w1 ⟨vn, rfl, hR, hb⟩; have HR := qa.mk hR; have HBW := qa.mk hb; clear x0 x1 hb hR; obtain ⟨gn, cn2, e2, hgn, hgn2, _⟩ := Kd.R_form HR.out (omq HC1.out hn1); subst e2);have HGN := qa.mk hgn;clear hgn hgn2;go_loopg [39] nx.length (fun gg v39 wr => ∃ j : Nat, j ≤ nx.length ∧ nx.length - j ≤ gg ∧ v39 = .int .i64 j ∧ qa (Kd.R Kd.bool 4 wr wo.heap.size (fun _ => True) (.slice (some ⟨gn, 0, none⟩) nx.length cn2) (YC nx now j)) ∧ qa (Below wo.heap.size wo wr));case atStart => exact ⟨0, Nat.zero_le _, Nat.le_refl _, rfl, ⟨by rw [JC]; exact HR.out⟩, HBW⟩
    case round =>
     clear HR HBW;obtain ⟨j, hj, hg2, rfl, HR, HBW⟩ := hrel;by_cases hjl : j < nx.length
     ·have hjz : (j : Int) < (nx.length : Int) := Int.ofNat_lt.2 hjl;have hjn : j < now.length := HC1.out ▸ hjl;have hjnz : (j : Int) < (now.length : Int) := Int.ofNat_lt.2 hjn;have hjb : decide ((j : Int) < (nx.length : Int)) = true := decide_eq_true hjz;obtain ⟨ad2, e2, y0⟩ := Kd.at_bool (Kd.C_below HN.out (HB1.out.trans (HBW.out.mono HB1.out.size))) (j : Int) (Int.natCast_nonneg _) hjnz;injection e2 with e2;subst e2;obtain ⟨hx, hf⟩ := Kd.R_celln false HR.out (j : Int) (Int.natCast_nonneg _) hjz;rw [Int.toNat_natCast] at y0 hx hf;rw [qF HC1.out hjn] at hx;rw [show yf false now (j : Int) = now.getD j false from by unfold yf; rw [Int.toNat_natCast]] at y0;have hS := Kd.R_putn HR.out (j : Int) (nx.getD j false && now.getD j false);rw [Int.toNat_natCast, yF HC1.out hjn] at hS;have HS := qa.mk hS;have HB2 := qa.mk (Re (j := j) (v := .bool (nx.getD j false && now.getD j false)) HBW.out HGN.out);clear hS HR HBW;generalize nx.getD j false = b1 at hx HS HB2;generalize now.getD j false = b2 at y0 HS HB2;have hw3 : wrap64 ((j : Int) + 1) = ((j + 1 : Nat) : Int) := om3 hjn (Kd.C_max HN.out);cases b1;case false =>
       go_wp2;go_roundg (nx.length - (j + 1));case measure => exact om2 hjl hg2
       case rel => exact ⟨j + 1, hjl, Nat.le_refl _, by congr 1, HS, HB2⟩
      case true =>
       go_wp2;go_roundg (nx.length - (j + 1));case measure => exact om2 hjl hg2
       case rel => exact ⟨j + 1, hjl, Nat.le_refl _, by congr 1, HS, HB2⟩
     ·have hje : j = nx.length := Nat.le_antisymm hj (Nat.le_of_not_lt hjl);subst hje;have hR2 := HR.out;rw [show YC nx now nx.length = List.zipWith (fun x y => x && y) nx now from by rw [show nx.length = now.length from HC1.out]; exact SE HC1.out] at hR2;have hzl : (List.zipWith (fun x y => x && y) nx now).length = nx.length := MI HC1.out;have HR2 := qa.mk hR2;have HZL := qa.mk hzl;clear HR hR2 hzl;generalize List.zipWith (fun x y => x && y) nx now = nz at HR2 HZL HR1;have HBD := qa.mk (HBW.out.trans ((Eg (Below.refl wr.heap.size wr)).mono HBW.out.size));have HR3 := qa.mk (Kd.R_drew HR2.out);have HFd := qa.mk (Kd.F_mono (Kd.F_below HF.out (HB1.out.trans (HBD.out.mono HB1.out.size))) (ok' := fun z => bs ≤ z ∧ z < wr.drew.heap.size) (fun z hz => ⟨hz.1, Nat.lt_of_lt_of_le hz.2 (Nat.le_trans HB1.out.size HBD.out.size)⟩));have HKd := qa.mk (Kd.FK_mono (Kd.FK_below HK.out HBD.out) (ok' := fun z => bs ≤ z ∧ z < wr.drew.heap.size) (fun z hz => ⟨hz.1, Nat.lt_of_lt_of_le hz.2 HBD.out.size⟩));have HS0 := qa.mk ((HBD.out.cell (World.block_lt_of_cell? wo _ HX0.out)).trans HX0.out);have HS1 := qa.mk ((HBD.out.cell (World.block_lt_of_cell? wo _ HX1.out)).trans HX1.out);have HBS := qa.mk (show bs ≤ wr.drew.heap.size from Nat.le_trans hbs (Nat.le_trans HB01.out.size HBD.out.size));clear HR2 HF HK HX0 HX1 HBW;go_wp2_with fail;refine Kg (n := 22) (S := fun w' => w'.cell? (ad.add (kk * 2)) = some (.int .i64 g.f0) ∧ w'.cell? ⟨(ad.add (kk * 2)).block, (ad.add (kk * 2)).off + 1, none⟩ = some (.slice A0 g.f1.length c0)) (ds := []) #[false, false, false, false, false, false, false, false, false, false, false, false, false, false, false, false, false, false, false, false, false, false] (by kernel_rfl) rfl rfl (⟨HS0.out, HS1.out⟩) (fun hHeld => ?_);generalize wr.drew = wd at *
      refine zp1 (i := 0) (N := some 57) #[true, false, false, false, false, false, false, false, false, false, false, false, false, false, false, false, false, false, false, false, false, false] rfl rfl (by kernel_rfl) ?_;refine zp1 (i := 1) (N := some 58) #[true, true, false, false, false, false, false, false, false, false, false, false, false, false, false, false, false, false, false, false, false, false] rfl rfl (by kernel_rfl) ?_;refine zp1 (i := 2) (N := some 59) #[true, true, true, false, false, false, false, false, false, false, false, false, false, false, false, false, false, false, false, false, false, false] rfl rfl (by kernel_rfl) ?_;refine zp1 (i := 3) (N := some 60) #[true, true, true, true, false, false, false, false, false, false, false, false, false, false, false, false, false, false, false, false, false, false] rfl rfl (by kernel_rfl) ?_;refine zp1 (i := 4) (N := some 61) #[true, true, true, true, true, false, false, false, false, false, false, false, false, false, false, false, false, false, false, false, false, false] rfl rfl (by kernel_rfl) ?_;refine zp1 (i := 5) (N := some 62) #[true, true, true, true, true, true, false, false, false, false, false, false, false, false, false, false, false, false, false, false, false, false] rfl rfl (by kernel_rfl) ?_;refine zp1 (i := 6) (N := some 63) #[true, true, true, true, true, true, true, false, false, false, false, false, false, false, false, false, false, false, false, false, false, false] rfl rfl (by kernel_rfl) ?_;refine zp1 (i := 8) (N := some 65) #[true, true, true, true, true, true, true, false, true, false, false, false, false, false, false, false, false, false, false, false, false, false] rfl rfl (by kernel_rfl) ?_;refine zp1 (i := 10) (N := some 67) #[true, true, true, true, true, true, true, false, true, false, true, false, false, false, false, false, false, false, false, false, false, false] rfl rfl (by kernel_rfl) ?_;refine zp1 (i := 11) (N := some 68) #[true, true, true, true, true, true, true, false, true, false, true, true, false, false, false, false, false, false, false, false, false, false] rfl rfl (by kernel_rfl) ?_;refine zp1 (i := 12) (N := some 69) #[true, true, true, true, true, true, true, false, true, false, true, true, true, false, false, false, false, false, false, false, false, false] rfl rfl (by kernel_rfl) ?_;refine take_ (i := 13) (N := some 70) (v := ?_) (a' := ?_) #[true, true, true, true, true, true, true, false, true, false, true, true, true, true, false, false, false, false, false, false, false, false] rfl rfl (by kernel_rfl) (fun _ _ _ h => h) (Or.inl ⟨by rfl, ?_⟩) hHeld ?_ ?_;rotate_left
      ·rintro w' ⟨s0, s1⟩;go_simp
       with_reducible rfl
      rotate_left
      ·simp only [Act.put, List.setIfInBounds_toArray, List.set_cons_zero, List.set_cons_succ, Ff, Jh];rfl
      refine MH (σ := Value × Value × Value) 7 #[true, true, true, true, true, true, true, true, true, true, true, true, true, true, true, false, false, false, false, false, false, false] (fun s_ => [(64, s_.1), (66, s_.2.1), (71, s_.2.2)]) (fun s_ w' => Kd.N k24 24 w' wd.heap.size (fun z => bs ≤ z) s_.2.1 b ∧ (∃ q, s_.2.2 = .slice (some ⟨q, 0, none⟩) 1 1 ∧ w'.heap[q]? = some (.cells #[.int .i64 g.f0, .slice A0 g.f1.length c0] 24 (0, 0)) ∧ some q ≠ s_.2.1.ownBlock) ∧ Below wd.heap.size wd w') ?_ ?_;rotate_left
      ·intro hCont;refine VK (i := 7) (j := 14) (Ni := some 64) (Nj := some 71) #[true, true, true, true, true, true, true, true, true, false, true, true, true, true, false, false, false, false, false, false, false, false] #[true, true, true, true, true, true, true, false, true, false, true, true, true, true, true, false, false, false, false, false, false, false] rfl rfl rfl rfl (by kernel_rfl) (by decide) (by decide) (fun K hK => ?_) (fun K hK => ?_)
       ·refine Kd.N_lit_step k24 _ 24 ?hg (N' := 64) ?hd (xs := ([] : List S24)) (inner := []) (ok := fun _ => True) (okp := fun _ => False) ?hr ?hp (fun _ hk => hk.elim) trivial (Below.refl _ _) (Nat.le_refl _) (by simp) ?_;case hd => rfl
        case hg => rfl
        case hr => first | (go_simp; done) | (go_simp; rfl)
        case hp => exact qg.none _ _
        intro v37 wa hn37 hba _ hnew;have hN37 : Kd.N k24 24 wa wd.heap.size (fun z => bs ≤ z) v37 [] := OE hn37 HBS.out;have HN37 := qa.mk hN37;have HBa := qa.mk hba;clear hn37 hba hN37 hnew;refine hK.out _ _ ⟨((HBa.out : Below wd.heap.size wd _).cell (World.block_lt_of_cell? wd _ HS0.out)).trans HS0.out, ((HBa.out : Below wd.heap.size wd _).cell (World.block_lt_of_cell? wd _ HS1.out)).trans HS1.out⟩ (fun hHeld => ?_);clear hK K;refine zn1 ?_;refine VK (i := 9) (j := 14) (Ni := some 66) (Nj := some 71) #[true, true, true, true, true, true, true, true, true, true, true, true, true, true, false, false, false, false, false, false, false, false] #[true, true, true, true, true, true, true, true, true, false, true, true, true, true, true, false, false, false, false, false, false, false] rfl rfl rfl rfl (by kernel_rfl) (by decide) (by decide) (fun K hK => ?_) (fun K hK => ?_)
        ·refine Kd.N_append_rows_step k24 (w0 := wd) wd.heap.size (by rfl) (.tmp 64) (.tmp 65) 47 24 (.agg #[(.int .i64 0), (.slice none 0 0)]) 32 rfl Tryz.underlying47 Oj rfl (by decide) (by decide) v37 [] b Ab b.length cb (fun z => bs ≤ z) (fun z => bs ≤ z ∧ z < wd.heap.size) rfl rfl HN37.out (Kd.F_below HFd.out HBa.out) (fun z hz => ⟨hz.1, fun he => by have := Kd.N_base HN37.out z he.symm; exact absurd hz.2 (Nat.not_lt.2 this)⟩) (fun z hz => Nat.le_trans HBS.out (Nat.le_trans (Below.size HBa.out) hz)) HBa.out (Below.size HBa.out) HB33.out ?_;intro v41 wb hn41 hbb hgb hat
         rw [List.nil_append] at hn41;have HN41 := qa.mk hn41;have HBb := qa.mk hbb;clear hn41 hbb hgb hat HN37 HBa;refine hK.out _ _ ⟨((HBb.out : Below wd.heap.size wd _).cell (World.block_lt_of_cell? wd _ HS0.out)).trans HS0.out, ((HBb.out : Below wd.heap.size wd _).cell (World.block_lt_of_cell? wd _ HS1.out)).trans HS1.out⟩ (fun hHeld => ?_);clear hK K;refine zn1 ?_;refine Uj (i := 14) (N := some 71) #[true, true, true, true, true, true, true, true, true, true, true, true, true, true, true, false, false, false, false, false, false, false] rfl rfl (by kernel_rfl) (by decide) (fun K hK => ?_);refine Lj (w1 := ?_) (v := ?_) (by rfl) rfl ?_ ?_;rotate_left 2
         ·go_simp
          constructor
          ·rfl
          ·rfl
         refine hK.out _ _ ⟨(((Below.alloc HBb.out (Below.size HBb.out) (.cells #[.int .i64 g.f0, .slice A0 g.f1.length c0] 24 (0, 0))) : Below wd.heap.size wd _).cell (World.block_lt_of_cell? wd _ HS0.out)).trans HS0.out, (((Below.alloc HBb.out (Below.size HBb.out) (.cells #[.int .i64 g.f0, .slice A0 g.f1.length c0] 24 (0, 0))) : Below wd.heap.size wd _).cell (World.block_lt_of_cell? wd _ HS1.out)).trans HS1.out⟩ (fun hHeld => ?_);clear hK K;refine zn1 ?_;exact Co (by simp only [Fj, Act.put, List.setIfInBounds_toArray, List.set_cons_zero, List.set_cons_succ]) (hCont (v37, v41, .slice (some ⟨wb.heap.size, 0, none⟩) 1 1) _ ⟨Kd.N_alloc HN41.out _, ⟨_, rfl, Ph wb _, fun he => Nat.lt_irrefl _ (Kd.N_lt HN41.out _ he.symm)⟩, HBb.out.alloc HBb.out.size _⟩)
        ·refine Lj (w1 := ?_) (v := ?_) (by rfl) rfl ?_ ?_;rotate_left 2
         ·go_simp
          constructor
          ·rfl
          ·rfl
         refine hK.out _ _ ⟨(((Below.alloc HBa.out (Below.size HBa.out) (.cells #[.int .i64 g.f0, .slice A0 g.f1.length c0] 24 (0, 0))) : Below wd.heap.size wd _).cell (World.block_lt_of_cell? wd _ HS0.out)).trans HS0.out, (((Below.alloc HBa.out (Below.size HBa.out) (.cells #[.int .i64 g.f0, .slice A0 g.f1.length c0] 24 (0, 0))) : Below wd.heap.size wd _).cell (World.block_lt_of_cell? wd _ HS1.out)).trans HS1.out⟩ (fun hHeld => ?_);clear hK K;refine zn1 ?_;have hb43 := Ph wa (.cells #[.int .i64 g.f0, .slice A0 g.f1.length c0] 24 (0, 0));have hne43 : some wa.heap.size ≠ v37.ownBlock := fun he => Nat.lt_irrefl _ (Kd.N_lt HN37.out _ he.symm);have HN37b := qa.mk (Kd.N_alloc HN37.out (.cells #[.int .i64 g.f0, .slice A0 g.f1.length c0] 24 (0, 0)));have HBab := qa.mk (HBa.out.alloc HBa.out.size (.cells #[.int .i64 g.f0, .slice A0 g.f1.length c0] 24 (0, 0)));refine Uj (i := 9) (N := some 66) #[true, true, true, true, true, true, true, true, true, true, true, true, true, true, true, false, false, false, false, false, false, false] rfl rfl (by kernel_rfl) (by decide) (fun K hK => ?_);refine Kd.N_append_rows_step k24 (w0 := wd) wd.heap.size (by rfl) (.tmp 64) (.tmp 65) 47 24 (.agg #[(.int .i64 0), (.slice none 0 0)]) 32 rfl Tryz.underlying47 Oj rfl (by decide) (by decide) v37 [] b Ab b.length cb (fun z => bs ≤ z) (fun z => bs ≤ z ∧ z < wd.heap.size) rfl rfl HN37b.out (Kd.F_below HFd.out HBab.out) (fun z hz => ⟨hz.1, fun he => by have := Kd.N_base HN37b.out z he.symm; exact absurd hz.2 (Nat.not_lt.2 this)⟩) (fun z hz => Nat.le_trans HBS.out (Nat.le_trans (Below.size HBab.out) hz)) HBab.out (Below.size HBab.out) HB33.out ?_;intro v41 wb hn41 hbb hgb hat
         rw [List.nil_append] at hn41;have hb43' := Qe hb43 hgb hne43;have hne41 : some wa.heap.size ≠ v41.ownBlock := by
          rcases hat with hat | ⟨bb, hbb', hle⟩
          ·rw [hat]; exact hne43
          ·rw [hbb']; intro he; injection he with he; exact absurd he (Nat.ne_of_lt (Nat.lt_of_lt_of_le (Lf hb43) hle))
         refine hK.out _ _ ⟨((hbb : Below wd.heap.size wd _).cell (World.block_lt_of_cell? wd _ HS0.out)).trans HS0.out, ((hbb : Below wd.heap.size wd _).cell (World.block_lt_of_cell? wd _ HS1.out)).trans HS1.out⟩ (fun hHeld => ?_);clear hK K;refine zn1 ?_;exact Co (by simp only [Fj, Act.put, List.setIfInBounds_toArray, List.set_cons_zero, List.set_cons_succ]) (hCont (v37, v41, .slice (some ⟨wa.heap.size, 0, none⟩) 1 1) _ ⟨hn41, ⟨_, rfl, hb43', hne41⟩, hbb⟩)
       ·refine Lj (w1 := ?_) (v := ?_) (by rfl) rfl ?_ ?_;rotate_left 2
        ·go_simp
         constructor
         ·rfl
         ·rfl
        refine hK.out _ _ ⟨(((Below.alloc (Below.refl wd.heap.size wd) (Below.size (Below.refl wd.heap.size wd)) (.cells #[.int .i64 g.f0, .slice A0 g.f1.length c0] 24 (0, 0))) : Below wd.heap.size wd _).cell (World.block_lt_of_cell? wd _ HS0.out)).trans HS0.out, (((Below.alloc (Below.refl wd.heap.size wd) (Below.size (Below.refl wd.heap.size wd)) (.cells #[.int .i64 g.f0, .slice A0 g.f1.length c0] 24 (0, 0))) : Below wd.heap.size wd _).cell (World.block_lt_of_cell? wd _ HS1.out)).trans HS1.out⟩ (fun hHeld => ?_);clear hK K;refine zn1 ?_;have hb430 := Ph wd (.cells #[.int .i64 g.f0, .slice A0 g.f1.length c0] 24 (0, 0));have HBe := qa.mk ((Below.refl _ wd).alloc (Nat.le_refl _) (.cells #[.int .i64 g.f0, .slice A0 g.f1.length c0] 24 (0, 0)));refine Uj (i := 7) (N := some 64) #[true, true, true, true, true, true, true, true, true, false, true, true, true, true, true, false, false, false, false, false, false, false] rfl rfl (by kernel_rfl) (by decide) (fun K hK => ?_);refine Kd.N_lit_step k24 _ 24 ?hg (N' := 64) ?hd (xs := ([] : List S24)) (inner := []) (ok := fun _ => True) (okp := fun _ => False) ?hr ?hp (fun _ hk => hk.elim) trivial (Below.refl _ _) (Nat.le_refl _) (by simp) ?_;case hd => rfl
        case hg => rfl
        case hr => first | (go_simp; done) | (go_simp; rfl)
        case hp => exact qg.none _ _
        intro v37 wa hn37 hba _ hnew;have hN37 : Kd.N k24 24 wa wd.heap.size (fun z => bs ≤ z) v37 [] := Kd.N_lower (OE hn37 (Nat.le_trans HBS.out HBe.out.size)) HBe.out.size;have hb43 := Na hb430 hba;have hne43 : some wd.heap.size ≠ v37.ownBlock := fun he => absurd (Kd.N_base hn37 _ he.symm) (Nat.not_le.2 (Lf hb430));have HBab := qa.mk (HBe.out.trans (hba.mono HBe.out.size));have HN37b := qa.mk hN37;clear hn37 hba hN37 hnew;refine hK.out _ _ ⟨((HBab.out : Below wd.heap.size wd _).cell (World.block_lt_of_cell? wd _ HS0.out)).trans HS0.out, ((HBab.out : Below wd.heap.size wd _).cell (World.block_lt_of_cell? wd _ HS1.out)).trans HS1.out⟩ (fun hHeld => ?_);clear hK K;refine zn1 ?_;refine Uj (i := 9) (N := some 66) #[true, true, true, true, true, true, true, true, true, true, true, true, true, true, true, false, false, false, false, false, false, false] rfl rfl (by kernel_rfl) (by decide) (fun K hK => ?_);refine Kd.N_append_rows_step k24 (w0 := wd) wd.heap.size (by rfl) (.tmp 64) (.tmp 65) 47 24 (.agg #[(.int .i64 0), (.slice none 0 0)]) 32 rfl Tryz.underlying47 Oj rfl (by decide) (by decide) v37 [] b Ab b.length cb (fun z => bs ≤ z) (fun z => bs ≤ z ∧ z < wd.heap.size) rfl rfl HN37b.out (Kd.F_below HFd.out HBab.out) (fun z hz => ⟨hz.1, fun he => by have := Kd.N_base HN37b.out z he.symm; exact absurd hz.2 (Nat.not_lt.2 this)⟩) (fun z hz => Nat.le_trans HBS.out (Nat.le_trans (Below.size HBab.out) hz)) HBab.out (Below.size HBab.out) HB33.out ?_;intro v41 wb hn41 hbb hgb hat
        rw [List.nil_append] at hn41;have hb43' := Qe hb43 hgb hne43;have hne41 : some wd.heap.size ≠ v41.ownBlock := by
         rcases hat with hat | ⟨bb, hbb', hle⟩
         ·rw [hat]; exact hne43
         ·rw [hbb']; intro he; injection he with he; exact absurd he (Nat.ne_of_lt (Nat.lt_of_lt_of_le (Lf hb43) hle))
        refine hK.out _ _ ⟨((hbb : Below wd.heap.size wd _).cell (World.block_lt_of_cell? wd _ HS0.out)).trans HS0.out, ((hbb : Below wd.heap.size wd _).cell (World.block_lt_of_cell? wd _ HS1.out)).trans HS1.out⟩ (fun hHeld => ?_);clear hK K;refine zn1 ?_;exact Co (by simp only [Fj, Act.put, List.setIfInBounds_toArray, List.set_cons_zero, List.set_cons_succ]) (hCont (v37, v41, .slice (some ⟨wd.heap.size, 0, none⟩) 1 1) _ ⟨hn41, ⟨_, rfl, hb43', hne41⟩, hbb⟩)
      rintro ⟨v37, v41, v43⟩ w' ⟨hn41, ⟨q, hb43e, hb43, hne41⟩, hbw⟩;dsimp only at hn41 hb43e hne41;subst hb43e;have HN41 := qa.mk hn41;have HBW := qa.mk hbw;have HB43 := qa.mk hb43;have HNE := qa.mk hne41;clear hn41 hbw hb43 hne41;refine Co (a' := ?_) ?_ ?_;rotate_left
      ·simp only [Fj, Act.put, List.setIfInBounds_toArray, List.set_cons_zero, List.set_cons_succ];rfl
      refine Uj (i := 15) (N := some 72) #[true, true, true, true, true, true, true, true, true, true, true, true, true, true, true, true, false, false, false, false, false, false] rfl rfl (by kernel_rfl) (by decide) (fun K hK => ?_);refine Ik k24 (w0 := wd) wd.heap.size (by rfl) (.tmp 66) (.tmp 71) 47 24 (.agg #[(.int .i64 0), (.slice none 0 0)]) 32 rfl Tryz.underlying47 Oj rfl (by decide) (by decide) v41 b [g] (some ⟨q, 0, none⟩) 1 1 (fun z => bs ≤ z) (fun z => bs ≤ z ∧ z < wd.heap.size) rfl rfl HN41.out (qH HB43.out (Kd.FK_below HKd.out HBW.out)) (fun z hz => ⟨hz.1, fun he => by have := Kd.N_base HN41.out z he.symm; exact absurd hz.2 (Nat.not_lt.2 this)⟩) (fun z hz => Nat.le_trans HBS.out (Nat.le_trans HBW.out.size hz)) HBW.out HBW.out.size HB32.out ?_;intro v44 wc hn44 hbc _ _;obtain ⟨A44, c44, rfl⟩ := Kd.N_slice hn44;have HN44 := qa.mk hn44;have HBC := qa.mk hbc;clear hn44 hbc HN41 HBW HB43 HNE;refine hK.out _ _ ⟨((HBC.out : Below wd.heap.size wd _).cell (World.block_lt_of_cell? wd _ HS0.out)).trans HS0.out, ((HBC.out : Below wd.heap.size wd _).cell (World.block_lt_of_cell? wd _ HS1.out)).trans HS1.out⟩ (fun hHeld => ?_);clear hK K;refine zn1 ?_;have hlb : (b ++ [g]).length = b.length + 1 := by rw [List.length_append]; rfl
      have hlz : nz.length = now.length := HZL.out.trans HC1.out;have HBX := qa.mk (HBD.out.trans (HBC.out.mono HBD.out.size));have hcl := IH.out (kk + 1) nz (some ⟨gn, 0, none⟩) cn2 (b ++ [g]) A44 c44 r1 t1 wc (HB01.out.trans (HBX.out.mono HB01.out.size)) (by have := (Kd.R_reads' HR3.out).2.1; rw [HZL.out]; exact this) (by rw [hlz]; exact hn1) (Kd.N_reads' HN44.out).2.1 hlt (by rw [hlb]; exact HBM2.out) (by have := Kd.C_below (Kd.R_reads' HR3.out).2.2 HBC.out; first | exact this | rwa [HZL.out] | rwa [← HZL.out]) (Kd.F_mono (Kd.F_bound (Kd.N_F HN44.out)) (fun z hz => hz)) HR1.out;rw [HZL.out] at hcl;have HCL := qa.mk hcl;clear hcl hlz hlb;refine Uj (i := 16) (N := some 73) #[true, true, true, true, true, true, true, true, true, true, true, true, true, true, true, true, true, false, false, false, false, false] rfl rfl (by kernel_rfl) (by decide) (fun K hK => ?_);refine Di Tryz.func66 (by kernel_rfl) rfl #[.slice (some ad) gl.length cg, .int .i64 (wrap64 ((kk : Int) + 1)), .int .i64 (wrap64 (m : Int)), .slice (some ⟨gn, 0, none⟩) nx.length cn2, .slice Ao ov.length co, .slice A44 (b ++ [g]).length c44] (by rfl) rfl rfl (by simp only [List.map_toArray, List.map_cons, List.map_nil]; rfl) ?_;rw [hk1, HMW2.out];refine HCL.out.mono ?_;clear HCL;rintro e we ⟨ve, rfl, hV, hbe⟩;refine ⟨_, rfl, ?_⟩;have HBE := qa.mk (HBC.out.trans (hbe.mono HBC.out.size));have HV := qa.mk hV;clear hV hbe;refine hK.out _ _ ⟨((HBE.out : Below wd.heap.size wd _).cell (World.block_lt_of_cell? wd _ HS0.out)).trans HS0.out, ((HBE.out : Below wd.heap.size wd _).cell (World.block_lt_of_cell? wd _ HS1.out)).trans HS1.out⟩ (fun hHeld => ?_);clear hK K;refine zn1 ?_;refine zp1 (i := 17) (N := some 56) #[true, true, true, true, true, true, true, true, true, true, true, true, true, true, true, true, true, true, false, false, false, false] rfl rfl (by kernel_rfl) ?_;refine zp1 (i := 18) (N := some 74) #[true, true, true, true, true, true, true, true, true, true, true, true, true, true, true, true, true, true, true, false, false, false] rfl rfl (by kernel_rfl) ?_;refine zp1 (i := 19) (N := some 75) #[true, true, true, true, true, true, true, true, true, true, true, true, true, true, true, true, true, true, true, true, false, false] rfl rfl (by kernel_rfl) ?_;refine zp1 (i := 20) (N := some 17) #[true, true, true, true, true, true, true, true, true, true, true, true, true, true, true, true, true, true, true, true, true, false] rfl rfl (by kernel_rfl) ?_;refine zp1 (i := 21) (N := some 18) #[true, true, true, true, true, true, true, true, true, true, true, true, true, true, true, true, true, true, true, true, true, true] rfl rfl (by kernel_rfl) ?_;refine Bi (by kernel_rfl) ?_;have HB1e := qa.mk (HB1.out.trans ((HBD.out.trans (HBE.out.mono HBD.out.size)).mono HB1.out.size));have HFe := qa.mk (Kd.F_mono (Kd.F_below HFd.out HBE.out) (ok' := fun z => bs ≤ z ∧ z < we.heap.size) (fun z hz => ⟨hz.1, Nat.lt_of_lt_of_le hz.2 HBE.out.size⟩));have hT2 := HT2.out;cases t1;case false =>
       rw [if_neg (by decide)] at hT2;have HT3 := qa.mk hT2;clear hT2 HT2;go_wp2;go_roundg (gl.length - (kk + 1));case measure => exact om2 hlt hg
       case rel => exact ⟨kk + 1, hlt, Nat.le_refl _, by congr 1, HT3, HB1e⟩
      case true =>
       rw [if_pos rfl] at hT2;simp only [Option.some.injEq, Prod.mk.injEq] at hT2;obtain ⟨rfl, rfl⟩ := hT2;go_wp2;go_ret2
       exact ⟨_, by first | rfl | (simp [*] <;> rfl), HV.out, HB1e.out⟩
   ·have hkl : kk = gl.length := Nat.le_antisymm hkk (Nat.le_of_not_lt hlt);have hltz : ¬ (kk : Int) < (gl.length : Int) := fun e => hlt (Int.ofNat_lt.1 e);subst hkl;have hT := HT.out;rw [List.drop_length] at hT;simp only [Wo, Option.some.injEq, Prod.mk.injEq] at hT;obtain ⟨rfl, rfl⟩ := hT;go_wp2;go_ret2
    exact ⟨_, by first | rfl | (simp [*] <;> rfl), Kd.V_nil _ _ _ _ _, HB1.out⟩
def SK (k : Nat) (gs : List S24) (ov : List Bool) (N : Nat) : Nat → Nat → Option (List S24)
 | 0, _ => some []
 | d + 1, c => (Hf.f k gs ov c 0 (List.replicate N true) []).bind fun r => if r.2 = true then some r.1 else SK k gs ov N d (c + 1)
def qf.f (k : Nat) (n : Int) (l : List (List Int)) : Option (List S24) := if 0 ≤ n ∧ n ≤ 16 then (Bh.f k n l).bind fun gs => (Be.f k n l).bind fun ov => if gs.length ≤ 1000000 then SK k gs ov (2 ^ n.toNat) 4 1 else none else none
theorem YF {N j : Nat} (h : j < N) : j < (List.replicate j true ++ List.replicate (N - j) false).length := by rw [List.length_append, List.length_replicate, List.length_replicate]; omega
theorem FN {q : Nat} (h : q ≤ 4) : 5 - q = 5 - (q + 1) + 1 := by omega
theorem MN {q : Nat} (h : q ≤ 5) : ([] : List S24).length + q ≤ 1000000 := by simp only [List.length_nil]; omega
theorem KN {q : Nat} (h : q ≤ 5) (h2 : ¬ q ≤ 4) : q = 5 := by omega
theorem JF {N j : Nat} (h : j < N) : ((List.replicate j true ++ List.replicate (N - j) false).map Value.bool).toArray.setIfInBounds j (.bool true) = ((List.replicate (j + 1) true ++ List.replicate (N - (j + 1)) false).map Value.bool).toArray := by
 rw [List.setIfInBounds_toArray, ← List.map_set, List.set_append_right _ _ (by rw [List.length_replicate]; exact Nat.le_refl _), List.length_replicate, Nat.sub_self, show N - j = N - (j + 1) + 1 by omega, List.replicate_succ, List.set_cons_zero, List.replicate_succ', List.append_assoc]; rfl
theorem qf.calls (k : Nat) (n : Int) (A : Option Addr) (c : Nat) (l : List (List Int)) (r : List S24) (w : World) (hC : Kd.C (Kd.slice 3 (Kd.int .i64)) w A l.length l) (hc : l.length ≤ c) (h : qf.f k n l = some r) :
 Calls Tryz.prog 29 #[.agg #[.int .i64 n, .slice A l.length c]] w fun e w' => ∃ v0_ : Value, e = .returned v0_ ∧ Kd.V k24 24 w' w.heap.size (fun k_ => w.heap.size ≤ k_) v0_ r ∧ Below w.heap.size w w' := by
 unfold qf.f at h;by_cases c0 : 0 ≤ n ∧ n ≤ 16
 case neg => rw [if_neg c0] at h; cases h
 rw [if_pos c0] at h;obtain ⟨gs, hgs, h⟩ := zB0 h;obtain ⟨ov, hov, h⟩ := zB0 h;by_cases c1 : gs.length ≤ 1000000
 case neg => rw [if_neg c1] at h; cases h
 rw [if_pos c1] at h;have hp16 : 2 ^ n.toNat ≤ 65536 := Nat.pow_le_pow_right (n := 2) (by decide) (show n.toNat ≤ 16 by omega);have hp1 : 1 ≤ 2 ^ n.toNat := Nat.one_le_two_pow;have hji : shl .i64 1 n = ((2 ^ n.toNat : Nat) : Int) := by rw [Ip n c0]; simp
 generalize 2 ^ n.toNat = N at hji h hp16 hp1;obtain ⟨hji_, hjiz, hjiu, hjiv, hjiy, hjix⟩ := zJ1 hji;have hjie := (Ff _).symm.trans (hjiv (by omega));have hmk := Kr N hp16;have c00 := c0.1;have c00b : decide (0 ≤ n) = true := decide_eq_true c00;have hNb : decide (0 ≤ (N : Int)) = true := decide_eq_true (Int.natCast_nonneg _);have HGS := qa.mk hgs;have HOV := qa.mk hov;have HH := qa.mk h;have HC := qa.mk hC;have HP := qa.mk (show 1 ≤ N ∧ N ≤ 65536 from ⟨hp1, hp16⟩);clear hgs hov h hC hp1 hp16;have huG := Tryz.underlying24;go_enter Tryz.func29, Tryz.ntmps29;go_wp2_with (first
  | ((with_reducible refine Ma (N := 1) rfl ?_); refine Bg ?hg (N := 1) ?hd (cs := #[.int .i64 n, .slice A l.length c]) (t := 24) ?hr ?_; (case hd => rfl); (case hg => rfl); (case hr => first | (go_simp; done) | (go_simp; rfl)); intro gb hgb w1 hbox hb1; have HBX := qa.mk hbox; have HB1 := qa.mk hb1; have hgw : w.heap.size ≤ gb := Nat.le_of_eq hgb.symm; have z0_ : w1.cell? ⟨gb, 0, none⟩ = some (.int .i64 n) := (Ya hbox 0).trans rfl; have z1_ : w1.cell? ⟨gb, 1, none⟩ = some (.slice A l.length c) := (Ya hbox 1).trans rfl; have f0_ := Ea hbox 0; have f1_ := Ea hbox 1; clear hbox hb1 hgb)
  | (go_at_call 65; refine (Bh.calls k n A c l gs _ (Kd.C_below HC.out HB1.out) hc HGS.out).mono ?_; rintro e w2 ⟨v3, rfl, hV, hb⟩; obtain ⟨Ag, cg, rfl, hcg, hF⟩ := hV; have HF := qa.mk (Kd.F_mono (Kd.F_bound hF) (ok' := fun z => w.heap.size ≤ z ∧ z < w2.heap.size) (fun z hz => ⟨Nat.le_trans HB1.out.size hz.1, hz.2⟩)); have HB2 := qa.mk (HB1.out.trans (hb.mono HB1.out.size)); have HBX2 := qa.mk (Na HBX.out hb); clear z0_ z1_ f0_ f1_ hF hb HBX; have z0_ : w2.cell? ⟨gb, 0, none⟩ = some (.int .i64 n) := (Ya HBX2.out 0).trans rfl; have z1_ : w2.cell? ⟨gb, 1, none⟩ = some (.slice A l.length c) := (Ya HBX2.out 1).trans rfl; have f0_ := Ea HBX2.out 0; have f1_ := Ea HBX2.out 1))
 have HCG := qa.mk hcg;clear z0_ z1_ f0_ f1_ hmk hji hji_ hjiz hjiu hjiv hjiy hjix hjie c00b HGS HB1 hcg;go_loopg [17] N (fun gg v17 wr => ∃ j : Nat, j ≤ N ∧ N - j ≤ gg ∧ v17 = .int .i64 j ∧ qa (wr.heap[w2.heap.size]? = some (.cells ((List.replicate j true ++ List.replicate (N - j) false).map Value.bool).toArray 4 (0, 0))) ∧ qa (Below w2.heap.size w2 wr));case atStart => exact ⟨0, Nat.zero_le _, Nat.le_refl _, rfl, ⟨by have h1 := Ph w2 (.cells (Array.replicate N (.bool false)) 4); rw [h1, List.replicate_zero, List.nil_append, Nat.sub_zero, List.map_replicate, List.toArray_replicate]⟩, ⟨(Below.refl _ w2).alloc (Nat.le_refl _) _⟩⟩
 case round =>
  obtain ⟨j, hj, hg, rfl, HW, HB3⟩ := hrel;by_cases hjl : j < N
  ·have hjz : (j : Int) < (N : Int) := Int.ofNat_lt.2 hjl;have hjb : decide ((j : Int) < (N : Int)) = true := decide_eq_true hjz;have hln := YF hjl;have hx : wr.cell? ⟨w2.heap.size, j, none⟩ = some (.bool (List.replicate j true ++ List.replicate (N - j) false)[j]) := by rw [Ya HW.out, List.getElem?_toArray, List.getElem?_map, List.getElem?_eq_getElem hln]; rfl
   have hf := Ea HW.out j;generalize (List.replicate j true ++ List.replicate (N - j) false)[j] = b0 at hx;have HWS := qa.mk (Yb HW.out j (.bool true) (JF hjl));have HBS := qa.mk (Re (j := j) (v := .bool true) HB3.out (Nat.le_refl _));have hw3 : wrap64 ((j : Int) + 1) = ((j + 1 : Nat) : Int) := om3 hjl (Nat.le_trans HP.out.2 (by decide));clear hln HW HB3;go_wp2;go_roundg (N - (j + 1));case measure => exact om2 hjl hg
   case rel => exact ⟨j + 1, hjl, Nat.le_refl _, by congr 1, HWS, HBS⟩
  ·have hje : j = N := Nat.le_antisymm hj (Nat.le_of_not_lt hjl);subst hje;obtain ⟨wo, rfl⟩ : ∃ wo, wo = wr := ⟨wr, rfl⟩;have hW := HW.out;rw [Nat.sub_self, List.replicate_zero, List.append_nil] at hW;have HW2 := qa.mk hW;have HF2 := qa.mk (Kd.F_below HF.out HB3.out);have HBW := qa.mk (HB2.out.trans (HB3.out.mono HB2.out.size));have HBX3 := qa.mk (Na HBX2.out HB3.out);have hsz := HB3.out.size;clear hW HW;go_wp2;go_loopg [6] 4 (fun gg v6 wr => ∃ q : Nat, 1 ≤ q ∧ q ≤ 5 ∧ 5 - q ≤ gg ∧ v6 = .int .i64 q ∧ qa (SK k gs ov j (5 - q) q = some r) ∧ qa (Below wo.heap.size wo wr));case atStart => exact ⟨1, Nat.le_refl _, by decide, by decide, rfl, HH, ⟨Below.refl _ _⟩⟩
   case round =>
    clear HH;obtain ⟨q, hq1, hq5, hg2, rfl, HT, HB4⟩ := hrel;by_cases hql : q ≤ 4
    ·have hqz : (q : Int) ≤ 4 := Int.ofNat_le.2 hql;have hqb : decide ((q : Int) ≤ 4) = true := decide_eq_true hqz;have hw4 : wrap64 ((q : Int) + 1) = ((q + 1 : Nat) : Int) := om3 (Nat.lt_succ_of_le hql) (by decide);have hT := HT.out;rw [FN hql, SK] at hT;replace hT := zB0 hT;obtain ⟨⟨r1, t1⟩, hr1, hT⟩ := hT;have HR1 := qa.mk hr1;have HT2 := qa.mk hT;have HBW4 := qa.mk (HBW.out.trans (HB4.out.mono HBW.out.size));have HBX4 := qa.mk (Na HBX3.out HB4.out);have z0_ : wr.cell? ⟨gb, 0, none⟩ = some (.int .i64 n) := (Ya HBX4.out 0).trans rfl;have z1_ : wr.cell? ⟨gb, 1, none⟩ = some (.slice A l.length c) := (Ya HBX4.out 1).trans rfl;have f0_ := Ea HBX4.out 0;have f1_ := Ea HBX4.out 1;clear hT hr1 HT;have hT2 := HT2.out;cases t1;case false =>
      rw [if_neg (Bool.false_ne_true)] at hT2;have HT3 := qa.mk hT2;clear hT2 HT2;go_wp2_with (first
       | (go_at_call 67; refine (Be.calls k n A c l ov _ (Kd.C_below HC.out HBW4.out) hc HOV.out).mono ?_; rintro e w5 ⟨vo, rfl, hR, hb⟩; obtain ⟨Ao, co, rfl⟩ := Kd.R_slice hR; have HR5 := qa.mk (Kd.R_reads' hR); have HB5 := qa.mk hb; clear hR hb z0_ z1_ f0_ f1_)
       | (go_at_call 66; have hcl := Hf.calls k gs Ag cg HCG.out c1 ov Ao co HR5.out.2.1 w.heap.size w5 (Nat.le_trans HBW4.out.size HB5.out.size) (Kd.F_mono (Kd.F_below HF2.out (HB4.out.trans (HB5.out.mono HB4.out.size))) (fun z hz => ⟨hz.1, Nat.lt_of_lt_of_le hz.2 (Nat.le_trans hsz (Nat.le_trans HB4.out.size HB5.out.size))⟩)) HR5.out.2.2 q 0 (List.replicate j true) (some ⟨w2.heap.size, 0, none⟩) j [] none 0 r1 false w5 (Below.refl _ _) (by rw [List.length_replicate]; exact Nat.le_refl _) (by rw [List.length_replicate]; exact HP.out.1) (Nat.le_refl _) (Nat.zero_le _) (MN hq5) (Cw (Na (Na HW2.out HB4.out) HB5.out) (by rw [List.length_replicate]; exact HP.out.2)) (Kd.F_nil _ _ _) HR1.out; rw [List.length_replicate] at hcl; refine hcl.mono ?_; clear hcl; rintro e w6 ⟨v7, rfl, hV, hb⟩; have HV := qa.mk hV; have HB6 := qa.mk (HB4.out.trans ((HB5.out.trans (hb.mono HB5.out.size)).mono HB4.out.size)); clear hV hb))
      go_roundg (5 - (q + 1));case measure => exact om2 (Nat.lt_succ_of_le hql) hg2
      case rel => exact ⟨q + 1, Nat.le_add_left _ _, Nat.succ_le_succ hql, Nat.le_refl _, by congr 1, HT3, HB6⟩
     case true =>
      rw [if_pos rfl] at hT2;obtain rfl := Option.some.inj hT2;go_wp2_with (first
       | (go_at_call 67; refine (Be.calls k n A c l ov _ (Kd.C_below HC.out HBW4.out) hc HOV.out).mono ?_; rintro e w5 ⟨vo, rfl, hR, hb⟩; obtain ⟨Ao, co, rfl⟩ := Kd.R_slice hR; have HR5 := qa.mk (Kd.R_reads' hR); have HB5 := qa.mk hb; clear hR hb z0_ z1_ f0_ f1_)
       | (go_at_call 66; have hcl := Hf.calls k gs Ag cg HCG.out c1 ov Ao co HR5.out.2.1 w.heap.size w5 (Nat.le_trans HBW4.out.size HB5.out.size) (Kd.F_mono (Kd.F_below HF2.out (HB4.out.trans (HB5.out.mono HB4.out.size))) (fun z hz => ⟨hz.1, Nat.lt_of_lt_of_le hz.2 (Nat.le_trans hsz (Nat.le_trans HB4.out.size HB5.out.size))⟩)) HR5.out.2.2 q 0 (List.replicate j true) (some ⟨w2.heap.size, 0, none⟩) j [] none 0 r1 true w5 (Below.refl _ _) (by rw [List.length_replicate]; exact Nat.le_refl _) (by rw [List.length_replicate]; exact HP.out.1) (Nat.le_refl _) (Nat.zero_le _) (MN hq5) (Cw (Na (Na HW2.out HB4.out) HB5.out) (by rw [List.length_replicate]; exact HP.out.2)) (Kd.F_nil _ _ _) HR1.out; rw [List.length_replicate] at hcl; refine hcl.mono ?_; clear hcl; rintro e w6 ⟨v7, rfl, hV, hb⟩; have HV := qa.mk hV; have HB6 := qa.mk (HB4.out.trans ((HB5.out.trans (hb.mono HB5.out.size)).mono HB4.out.size)); clear hV hb))
      go_ret;exact ⟨_, rfl, Kd.V_mono HV.out (fun z hz => hz.1), HBW.out.trans (HB6.out.mono HBW.out.size)⟩
    ·have hqe : q = 5 := KN hq5 hql;subst hqe;have hT := HT.out;obtain rfl := Option.some.inj hT;go_wp2;go_ret;exact ⟨_, rfl, Kd.V_nil _ _ _ _ _, HBW.out.trans (HB4.out.mono HBW.out.size)⟩
mutual
def Kb.l0 : Nat → List (List Int) → Int → Int → Int → List (List Int) → Option (Bool)
 | 0, _, _, _, _, _ => none
 | k + 1, x16, x17, x18, x345000, x345001 => if x18 < x17 then (if 0 ≤ x18 then (if x18 < (x16.length : Int) then (if x18 > 0 then (if 0 ≤ (wrap64 (x18 - 1)) then (if (wrap64 (x18 - 1)) < (x345001.length : Int) then ((Ta.f k (Bd x345001 (wrap64 (x18 - 1))) (Bd x16 x18)).bind fun t348 => (Kb.j1 k x18 (Bd x16 x18) x16 x17 x18 (!t348) x345000 x345001)) else (none)) else (none)) else (Kb.j1 k x18 (Bd x16 x18) x16 x17 x18 false x345000 x345001)) else (none)) else (none)) else (some true)
def Kb.j1 : Nat → Int → List Int → List (List Int) → Int → Int → Bool → Int → List (List Int) → Option (Bool)
 | 0, _, _, _, _, _, _, _, _ => none
 | k + 1, x3, x4, x16, x17, x18, x35, x345000, x345001 => if x35 = true then (some false) else ((Qd.f k x4).bind fun t349 => (if 0 ≤ x3 then (if x3 ≤ (x345001.length : Int) then ((some (x345001.take (x3 : Int).toNat : List (List Int))).bind fun y350 => (Kb.l1 k t349 x16 x17 x18 y350 (y350.length : Int) 0 x345000 x345001)) else (none)) else (none)))
def Kb.l1 : Nat → Int → List (List Int) → Int → Int → List (List Int) → Int → Int → Int → List (List Int) → Option (Bool)
 | 0, _, _, _, _, _, _, _, _, _ => none
 | k + 1, x5, x16, x17, x18, x41, x42, x43, x345000, x345001 => if x43 < x42 then (if 0 ≤ x43 then (if x43 < (x41.length : Int) then ((Qd.f k (Bd x41 x43)).bind fun t355 => (if (Go.bits .and .i64 x5 t355) = x5 then (some false) else (if (Go.bits .and .i64 x5 t355) = t355 then (some false) else (Kb.l1 k x5 x16 x17 x18 x41 x42 (wrap64 (x43 + 1)) x345000 x345001)))) else (none)) else (none)) else (Kb.l0 k x16 x17 (wrap64 (x18 + 1)) x345000 x345001)
end
def Kb.f (k : Nat) (a0_0 : Int) (l0_1 : List (List Int)) : Option (Bool) := (Oc.f k a0_0 l0_1 126).bind fun t345 => (if t345 = true then (Kb.l0 k l0_1 (l0_1.length : Int) 0 a0_0 l0_1) else (some false))
theorem Kb.calls (k : Nat) (a0_0 : Int) (A0_1 : Option Addr) (c0_1 : Nat) (l0_1 : List (List Int)) (r : Bool) (w : World) (hr0_1 : Kd.C (Kd.slice 3 (Kd.int .i64)) w A0_1 l0_1.length l0_1) (hc0_1 : l0_1.length ≤ c0_1) (h : Kb.f k a0_0 l0_1 = some r) :
 Calls Tryz.prog 64 #[.agg #[.int .i64 a0_0, .slice A0_1 l0_1.length c0_1]] w fun e w' => e = .returned (.bool r) ∧ Below w.heap.size w w' := by
 have hu24 := Tryz.underlying24;have HR0_1 := qa.mk hr0_1;have HC0_1 := qa.mk hc0_1;clear hr0_1 hc0_1;have HB := qa.mk (Below.refl w.heap.size w);have H : ((Oc.f k a0_0 l0_1 126).bind fun t345 => (if t345 = true then (Kb.l0 k l0_1 (l0_1.length : Int) 0 a0_0 l0_1) else (some false))) = some r := h;clear h;replace H := zB0 H;obtain ⟨t345, A20, H⟩ := H;have A2 := qa.mk A20;clear A20;by_cases c3 : t345 = true
 rotate_left
 ·replace c3 := Bool.eq_false_iff.mpr c3;subst c3;rw [if_neg zF] at H;obtain rfl := Option.some.inj H;go_enter Tryz.func64, Tryz.ntmps64;go_wp2_with (first | ((with_reducible refine Ma (N := 1) rfl ?_); refine zq 1 #[.int .i64 a0_0, .slice A0_1 l0_1.length c0_1] 24 ?_; intro gb344 hg w28 hbox hb; have GW344 := zG hg HB; replace HB := zH hb HB; have BK344 := qa.mk hbox; have GE344 := GW344; clear hb hbox hg; obtain ⟨hcz29_0, hcz29_1, hfz29_0, hfz29_1⟩ := zC2 BK344) | ((with_reducible refine Va (f := 117) rfl ?_); refine zl 13 Tryz.func117 #[.int .i64 a0_0, .slice A0_1 l0_1.length c0_1, .int .i64 126] ?_; (with_reducible refine (Oc.calls k a0_0 _ _ l0_1 126 false _ ?side1 ?side2 A2.out).mono ?_); (case side1 => exact zQ (Kd.C_below HR0_1.out HB.out)); (case side2 => exact HC0_1.out); rintro e w' ⟨rfl, ⟨nd, rfl⟩⟩; refine ⟨_, rfl, ?_⟩));go_ret;exact ⟨zL0, zh HB.out⟩
 subst c3;rw [if_pos rfl] at H;have H' := qa.mk H;clear H;go_enter Tryz.func64, Tryz.ntmps64;go_wp2_with (first | ((with_reducible refine Ma (N := 1) rfl ?_); refine zq 1 #[.int .i64 a0_0, .slice A0_1 l0_1.length c0_1] 24 ?_; intro gb344 hg w4 hbox hb; have GW344 := zG hg HB; replace HB := zH hb HB; have BK344 := qa.mk hbox; have GE344 := GW344; clear hb hbox hg; obtain ⟨hcz5_0, hcz5_1, hfz5_0, hfz5_1⟩ := zC2 BK344) | ((with_reducible refine Va (f := 117) rfl ?_); refine zl 13 Tryz.func117 #[.int .i64 a0_0, .slice A0_1 l0_1.length c0_1, .int .i64 126] ?_; (with_reducible refine (Oc.calls k a0_0 _ _ l0_1 126 true _ ?side1 ?side2 A2.out).mono ?_); (case side1 => exact zQ (Kd.C_below HR0_1.out HB.out)); (case side2 => exact HC0_1.out); rintro e w' ⟨rfl, ⟨nd, rfl⟩⟩; refine ⟨_, rfl, ?_⟩));go_loopg [18] k (fun kq v18 w' => ∃ (x18_1 : Int), v18 = .int .i64 x18_1 ∧ qa (Kb.l0 kq l0_1 (l0_1.length : Int) x18_1 a0_0 l0_1 = some r) ∧ qa (kq ≤ k) ∧ qa (w'.heap[gb344]? = some (.cells #[.int .i64 a0_0, (.slice A0_1 l0_1.length c0_1)] 24 (0, 0))) ∧ qa (Below w.heap.size w w'));case atStart => exact ⟨(0), zE, H', ⟨Nat.le_refl _⟩, ⟨zb BK344.out⟩, ⟨zh HB.out⟩⟩
 case round =>
  clear H';try clear c1
  try clear p2
  try clear c3
  try clear hcz5_0
  try clear hcz5_1
  try clear hfz5_0
  try clear hfz5_1
  obtain ⟨x18_1, rfl, HA, HK1, BK344, HB⟩ := hrel;cases gk with
  | zero => exact absurd HA.out (by simp [Kb.l0])
  | succ k1 =>
   have H := HA.out;clear HA;simp only [Kb.l0] at H;by_cases c6 : x18_1 < (l0_1.length : Int)
   rotate_left
   ·rw [if_neg c6] at H;have c6b0 := decide_eq_false c6;clear c6;obtain rfl := Option.some.inj H;go_wp2;go_ret;exact ⟨zL0, zh HB.out⟩
   rw [if_pos c6] at H;have c6b0 := decide_eq_true c6;clear c6;by_cases c7 : 0 ≤ x18_1
   rotate_left
   ·rw [if_neg c7] at H;cases H
   rw [if_pos c7] at H;have c7b0 := decide_eq_true c7;clear c7;by_cases c8 : x18_1 < (l0_1.length : Int)
   rotate_left
   ·rw [if_neg c8] at H;cases H
   rw [if_pos c8] at H;have c8b0 := decide_eq_true c8;clear c8;have HC9 := qa.mk H;clear H;obtain ⟨⟨ad346, A346_0, c346_0, e346, hx346_0, hl346_0, hi346_0⟩, p346, q346⟩ := zW (qi HR0_1.out x18_1);cases e346;replace hx346_0 := zx HB.out hx346_0;have HR346_0 := qa.mk hi346_0;have HC346_0 := qa.mk hl346_0;clear hi346_0 hl346_0;go_upto_region 6 with (fail)
   go_cut [35] (fun v35 wc => ∃ (kq : Nat) (x35_8 : Bool), v35 = .bool x35_8 ∧ qa (Kb.j1 kq x18_1 (Bd l0_1 x18_1) l0_1 (l0_1.length : Int) x18_1 x35_8 a0_0 l0_1 = some r) ∧ qa (kq ≤ k1) ∧ qa (wc.heap[gb344]? = some (.cells #[.int .i64 a0_0, (.slice (some ad346) l0_1.length c0_1)] 24 (0, 0))) ∧ qa (Below w.heap.size w wc));case first =>
    have H := HC9.out;clear HC9;by_cases c10 : x18_1 > 0
    ·rw [if_pos c10] at H;have c10b0 := decide_eq_true c10;clear c10;(first | rw [c10b0] | (simp only [Ff, Jh]; rw [c10b0]) | skip)
     obtain ⟨ji11, hji11⟩ : ∃ j_ : Int, (wrap64 (x18_1 - 1)) = j_ := ⟨_, rfl⟩;first | rw [hji11] at H | simp only [hji11] at H
     have hji11w := (Ff _).trans hji11;by_cases c12 : 0 ≤ (ji11)
     ·rw [if_pos c12] at H;have c12b0 := decide_eq_true c12;clear c12;by_cases c13 : (ji11) < (l0_1.length : Int)
      ·rw [if_pos c13] at H;have c13b0 := decide_eq_true c13;clear c13;replace H := zB0 H;obtain ⟨t348, A140, H⟩ := H;have A14 := qa.mk A140;clear A140;have H' := qa.mk H;clear H;obtain ⟨hcz15_0, hcz15_1, hfz15_0, hfz15_1⟩ := zC2 BK344;obtain ⟨⟨ad347, A347_0, c347_0, e347, hx347_0, hl347_0, hi347_0⟩, p347, q347⟩ := zW (qi HR0_1.out (ji11));obtain rfl : ad346 = ad347 := (by injection e347);replace hx347_0 := zx HB.out hx347_0;have HR347_0 := qa.mk hi347_0;have HC347_0 := qa.mk hl347_0;clear hi347_0 hl347_0;go_wp2_with (first | (go_at_call 118; (with_reducible refine (Ta.calls k1 _ _ (Bd l0_1 (ji11)) _ _ (Bd l0_1 x18_1) t348 _ ?side1 ?side2 ?side3 ?side4 A14.out).mono ?_); (case side1 => exact zQ (Kd.C_below HR347_0.out HB.out)); (case side2 => exact HC347_0.out); (case side3 => exact zQ (Kd.C_below HR346_0.out HB.out)); (case side4 => exact HC346_0.out); rintro e w' ⟨rfl, ⟨nd, rfl⟩⟩));go_meet
       case rel => exact ⟨_, (!t348), zE, H', ⟨by have := HK1.out; first | omega | exact Nat.le_refl _⟩, ⟨zb BK344.out⟩, ⟨zh HB.out⟩⟩
      ·rw [if_neg c13] at H;cases H
     ·rw [if_neg c12] at H;cases H
    ·rw [if_neg c10] at H;have c10b0 := decide_eq_false c10;clear c10;(first | rw [c10b0] | (simp only [Ff, Jh]; rw [c10b0]) | skip)
     have H' := qa.mk H;clear H;go_wp2;go_meet
     case rel => exact ⟨_, (false), zE, H', ⟨by have := HK1.out; first | omega | exact Nat.le_refl _⟩, ⟨zb BK344.out⟩, ⟨zh HB.out⟩⟩
   case rest =>
    clear HC9;try clear c1
    try clear p2
    try clear c3
    try clear p3
    try clear q3
    try clear hx3
    try clear c6
    try clear c6b0
    try clear p6
    try clear c7
    try clear c7b0
    try clear c8
    try clear c8b0
    try clear c10
    try clear c10b0
    try clear c11
    try clear c12
    try clear c12b0
    try clear c13
    try clear c13b0
    try clear hcz15_0
    try clear hcz15_1
    try clear hcz5_0
    try clear hcz5_1
    try clear hfz15_0
    try clear hfz15_1
    try clear hfz5_0
    try clear hfz5_1
    try clear hx346_0
    try clear hx347_0
    try clear p2
    try clear p346
    try clear p347
    try clear q346
    try clear q347
    obtain ⟨kq, x35_8, rfl, HA, HJ8, BK344, HB⟩ := hcut;cases kq with
    | zero => exact absurd HA.out (by simp [Kb.j1])
    | succ kj8 =>
     have H := HA.out;clear HA;simp only [Kb.j1] at H;by_cases c16 : x35_8 = true
     ·subst c16;rw [if_pos rfl] at H;obtain rfl := Option.some.inj H;go_wp2;go_ret;exact ⟨zL0, zh HB.out⟩
     replace c16 := Bool.eq_false_iff.mpr c16;subst c16;rw [if_neg zF] at H;replace H := zB0 H;obtain ⟨t349, A170, H⟩ := H;have A17 := qa.mk A170;clear A170;by_cases c18 : 0 ≤ x18_1
     rotate_left
     ·rw [if_neg c18] at H;cases H
     rw [if_pos c18] at H;have c18b0 := eq_true c18;have c18b1 := decide_eq_true c18;clear c18;by_cases c19 : x18_1 ≤ (l0_1.length : Int)
     rotate_left
     ·rw [if_neg c19] at H;cases H
     rw [if_pos c19] at H;have c19b0 := eq_true c19;have c19b1 := decide_eq_true c19;clear c19;replace H := zY H;obtain ⟨y350, Ny350, H⟩ := H;have H' := qa.mk H;clear H;go_wp2_with (first | ((with_reducible refine Va (f := 119) rfl ?_); refine zl 37 Tryz.func119 #[.slice A346_0 (Bd l0_1 x18_1).length c346_0] ?_; (with_reducible refine (Qd.calls kj8 _ _ (Bd l0_1 x18_1) t349 _ ?side1 ?side2 A17.out).mono ?_); (case side1 => exact zQ (Kd.C_below HR346_0.out HB.out)); (case side2 => exact HC346_0.out); rintro e w' ⟨rfl, ⟨nd, rfl⟩⟩; refine ⟨_, rfl, ?_⟩; obtain ⟨hcz20_0, hcz20_1, hfz20_0, hfz20_1⟩ := zC2 BK344; have q21 : (x18_1 : Int) ≤ ((l0_1.length : Int) : Int) := zk; obtain ⟨i021, hi021, _, hsz21, _⟩ := info_parts Tj; have hroom21 : l0_1.length ≤ c0_1 := HC0_1.out; have hC21 : Kd.C (Kd.slice 3 (Kd.int .i64)) _ (some ad346) l0_1.length l0_1 := HR0_1.out; have hcut21 := qy (P := Tryz.prog) 22 35 .i64 Tryz.underlying22 hi021 (some ad346) l0_1.length c0_1 x18_1 (zk) q21 hroom21; have hr21 := Kd.C_take (m := (x18_1 : Int).toNat) hC21 (by omega); have hy21 : y350.length = (x18_1 : Int).toNat := (by rw [Ny350.out, List.length_take]; omega); rw [← Ny350.out] at hr21; rw [← hy21] at hcut21; have HR353 := qa.mk hr21; have HC353 := qa.mk (show y350.length ≤ c0_1 from by omega); clear hr21 hC21 hroom21 hi021 hsz21; have KY21 := qa.mk hy21; clear hy21; replace q21 := eq_true q21));go_loopg [43] kj8 (fun kq v43 w' => ∃ (x43_3 : Int), v43 = .int .i64 x43_3 ∧ qa (Kb.l1 kq t349 l0_1 (l0_1.length : Int) x18_1 y350 (y350.length : Int) x43_3 a0_0 l0_1 = some r) ∧ qa (kq ≤ kj8) ∧ qa (w'.heap[gb344]? = some (.cells #[.int .i64 a0_0, (.slice (some ad346) l0_1.length c0_1)] 24 (0, 0))) ∧ qa (Below w.heap.size w w'));case atStart => exact ⟨(0), zE, H', ⟨Nat.le_refl _⟩, ⟨zb BK344.out⟩, ⟨zh HB.out⟩⟩
     case round =>
      clear H';try clear c1
      try clear p2
      try clear q2
      try clear c3
      try clear p3
      try clear q3
      try clear hx3
      try clear c6
      try clear c6b0
      try clear p6
      try clear c7
      try clear c7b0
      try clear c8
      try clear c8b0
      try clear c10
      try clear c10b0
      try clear c11
      try clear c12
      try clear c12b0
      try clear c13
      try clear c13b0
      try clear c16
      try clear c18
      try clear c18b0
      try clear c18b1
      try clear c19
      try clear c19b0
      try clear c19b1
      try clear q21
      try clear hcz15_0
      try clear hcz15_1
      try clear hcz20_0
      try clear hcz20_1
      try clear hcz5_0
      try clear hcz5_1
      try clear hfz15_0
      try clear hfz15_1
      try clear hfz20_0
      try clear hfz20_1
      try clear hfz5_0
      try clear hfz5_1
      try clear hx346_0
      try clear hx347_0
      try clear p2
      try clear p3
      try clear p346
      try clear p347
      try clear p6
      try clear q21
      try clear q3
      try clear q346
      try clear q347
      obtain ⟨x43_3, rfl, HA, HK3, BK344, HB⟩ := hrel;cases gk with
      | zero => exact absurd HA.out (by simp [Kb.l1])
      | succ k3 =>
       have H := HA.out;clear HA;simp only [Kb.l1] at H;by_cases c22 : x43_3 < (y350.length : Int)
       rotate_left
       ·rw [if_neg c22] at H;have c22b0 := decide_eq_false c22;clear c22;have H' := qa.mk H;clear H;go_wp2;go_roundg k3;case measure => have := HK1.out; have := HJ8.out; have := HK3.out; omega
        case rel => exact ⟨(wrap64 (x18_1 + 1)), zE, H', ⟨by have := HK1.out; have := HJ8.out; have := HK3.out; omega⟩, ⟨zb BK344.out⟩, ⟨zh HB.out⟩⟩
       rw [if_pos c22] at H;have c22b0 := decide_eq_true c22;clear c22;by_cases c23 : 0 ≤ x43_3
       rotate_left
       ·rw [if_neg c23] at H;cases H
       rw [if_pos c23] at H;have c23b0 := decide_eq_true c23;clear c23;by_cases c24 : x43_3 < (y350.length : Int)
       rotate_left
       ·rw [if_neg c24] at H;cases H
       rw [if_pos c24] at H;have c24b0 := decide_eq_true c24;clear c24;replace H := zB0 H;obtain ⟨t355, A250, H⟩ := H;have A25 := qa.mk A250;clear A250;by_cases c26 : (Go.bits .and .i64 t349 t355) = t349
       ·rw [if_pos c26] at H;have c26b0 := beq_iff_eq.mpr c26;have c26b1 := bne_eq_false_iff_eq.mpr c26;clear c26;obtain rfl := Option.some.inj H;obtain ⟨⟨ad354, A354_0, c354_0, e354, hx354_0, hl354_0, hi354_0⟩, p354, q354⟩ := zW (qi HR353.out x43_3);obtain rfl : ad346 = ad354 := (by injection e354);replace hx354_0 := zx HB.out hx354_0;have HR354_0 := qa.mk hi354_0;have HC354_0 := qa.mk hl354_0;clear hi354_0 hl354_0;go_wp2_with (first | ((with_reducible refine Va (f := 119) rfl ?_); refine zl 48 Tryz.func119 #[.slice A354_0 (Bd y350 x43_3).length c354_0] ?_; (with_reducible refine (Qd.calls k3 _ _ (Bd y350 x43_3) t355 _ ?side1 ?side2 A25.out).mono ?_); (case side1 => exact zQ (Kd.C_below HR354_0.out HB.out)); (case side2 => exact HC354_0.out); rintro e w' ⟨rfl, ⟨nd, rfl⟩⟩; refine ⟨_, rfl, ?_⟩));go_ret;exact ⟨zL0, zh HB.out⟩
       rw [if_neg c26] at H;have c26b0 := beq_eq_false_iff_ne.mpr c26;have c26b1 := bne_iff_ne.mpr c26;by_cases c27 : (Go.bits .and .i64 t349 t355) = t355
       ·rw [if_pos c27] at H;have c27b0 := beq_iff_eq.mpr c27;have c27b1 := bne_eq_false_iff_eq.mpr c27;clear c27;obtain rfl := Option.some.inj H;obtain ⟨⟨ad354, A354_0, c354_0, e354, hx354_0, hl354_0, hi354_0⟩, p354, q354⟩ := zW (qi HR353.out x43_3);obtain rfl : ad346 = ad354 := (by injection e354);replace hx354_0 := zx HB.out hx354_0;have HR354_0 := qa.mk hi354_0;have HC354_0 := qa.mk hl354_0;clear hi354_0 hl354_0;go_wp2_with (first | ((with_reducible refine Va (f := 119) rfl ?_); refine zl 48 Tryz.func119 #[.slice A354_0 (Bd y350 x43_3).length c354_0] ?_; (with_reducible refine (Qd.calls k3 _ _ (Bd y350 x43_3) t355 _ ?side1 ?side2 A25.out).mono ?_); (case side1 => exact zQ (Kd.C_below HR354_0.out HB.out)); (case side2 => exact HC354_0.out); rintro e w' ⟨rfl, ⟨nd, rfl⟩⟩; refine ⟨_, rfl, ?_⟩));go_ret;exact ⟨zL0, zh HB.out⟩
       rw [if_neg c27] at H;have c27b0 := beq_eq_false_iff_ne.mpr c27;have c27b1 := bne_iff_ne.mpr c27;have H' := qa.mk H;clear H;obtain ⟨⟨ad354, A354_0, c354_0, e354, hx354_0, hl354_0, hi354_0⟩, p354, q354⟩ := zW (qi HR353.out x43_3);obtain rfl : ad346 = ad354 := (by injection e354);replace hx354_0 := zx HB.out hx354_0;have HR354_0 := qa.mk hi354_0;have HC354_0 := qa.mk hl354_0;clear hi354_0 hl354_0;go_wp2_with (first | ((with_reducible refine Va (f := 119) rfl ?_); refine zl 48 Tryz.func119 #[.slice A354_0 (Bd y350 x43_3).length c354_0] ?_; (with_reducible refine (Qd.calls k3 _ _ (Bd y350 x43_3) t355 _ ?side1 ?side2 A25.out).mono ?_); (case side1 => exact zQ (Kd.C_below HR354_0.out HB.out)); (case side2 => exact HC354_0.out); rintro e w' ⟨rfl, ⟨nd, rfl⟩⟩; refine ⟨_, rfl, ?_⟩));go_roundg k3;case measure => have := HK1.out; have := HJ8.out; have := HK3.out; omega
       case rel => exact ⟨(wrap64 (x43_3 + 1)), zE, H', ⟨by have := HK1.out; have := HJ8.out; have := HK3.out; omega⟩, ⟨zb BK344.out⟩, ⟨zh HB.out⟩⟩
def Cf.f (k : Nat) (a0_0 : Int) (l0_1 : List (List Int)) : Option (Bool) := (Kb.f k a0_0 l0_1).bind fun t357 => (if t357 = true then (some (decide (a0_0 ≤ 4))) else (some false))
theorem Cf.calls (k : Nat) (a0_0 : Int) (A0_1 : Option Addr) (c0_1 : Nat) (l0_1 : List (List Int)) (r : Bool) (w : World) (hr0_1 : Kd.C (Kd.slice 3 (Kd.int .i64)) w A0_1 l0_1.length l0_1) (hc0_1 : l0_1.length ≤ c0_1) (h : Cf.f k a0_0 l0_1 = some r) :
 Calls Tryz.prog 28 #[.agg #[.int .i64 a0_0, .slice A0_1 l0_1.length c0_1]] w fun e w' => e = .returned (.bool r) ∧ Below w.heap.size w w' := by
 have hu24 := Tryz.underlying24;have HR0_1 := qa.mk hr0_1;have HC0_1 := qa.mk hc0_1;clear hr0_1 hc0_1;have HB := qa.mk (Below.refl w.heap.size w);have H : ((Kb.f k a0_0 l0_1).bind fun t357 => (if t357 = true then (some (decide (a0_0 ≤ 4))) else (some false))) = some r := h;clear h;replace H := zB0 H;obtain ⟨t357, A20, H⟩ := H;have A2 := qa.mk A20;clear A20;by_cases c3 : t357 = true
 rotate_left
 ·replace c3 := Bool.eq_false_iff.mpr c3;subst c3;rw [if_neg zF] at H;obtain rfl := Option.some.inj H;go_enter Tryz.func28, Tryz.ntmps28;go_wp2_with (first | ((with_reducible refine Ma (N := 1) rfl ?_); refine zq 1 #[.int .i64 a0_0, .slice A0_1 l0_1.length c0_1] 24 ?_; intro gb356 hg w8 hbox hb; have GW356 := zG hg HB; replace HB := zH hb HB; have BK356 := qa.mk hbox; have GE356 := GW356; clear hb hbox hg; obtain ⟨hcz9_0, hcz9_1, hfz9_0, hfz9_1⟩ := zC2 BK356) | ((with_reducible refine Va (f := 64) rfl ?_); refine zl 4 Tryz.func64 #[.agg #[.int .i64 a0_0, .slice A0_1 l0_1.length c0_1]] ?_; (with_reducible refine (Kb.calls k a0_0 _ _ l0_1 false _ ?side1 ?side2 A2.out).mono ?_); (case side1 => exact zQ (Kd.C_below HR0_1.out HB.out)); (case side2 => exact HC0_1.out); rintro e w10 ⟨rfl, hb⟩; refine ⟨_, rfl, ?_⟩; replace BK356 := zK BK356 hb; replace HB := zH hb HB; clear hb));go_ret;exact ⟨zL0, zh HB.out⟩
 subst c3;rw [if_pos rfl] at H;obtain rfl := Option.some.inj H;go_enter Tryz.func28, Tryz.ntmps28;go_wp2_with (first | ((with_reducible refine Ma (N := 1) rfl ?_); refine zq 1 #[.int .i64 a0_0, .slice A0_1 l0_1.length c0_1] 24 ?_; intro gb356 hg w4 hbox hb; have GW356 := zG hg HB; replace HB := zH hb HB; have BK356 := qa.mk hbox; have GE356 := GW356; clear hb hbox hg; obtain ⟨hcz5_0, hcz5_1, hfz5_0, hfz5_1⟩ := zC2 BK356) | ((with_reducible refine Va (f := 64) rfl ?_); refine zl 4 Tryz.func64 #[.agg #[.int .i64 a0_0, .slice A0_1 l0_1.length c0_1]] ?_; (with_reducible refine (Kb.calls k a0_0 _ _ l0_1 true _ ?side1 ?side2 A2.out).mono ?_); (case side1 => exact zQ (Kd.C_below HR0_1.out HB.out)); (case side2 => exact HC0_1.out); rintro e w6 ⟨rfl, hb⟩; refine ⟨_, rfl, ?_⟩; replace BK356 := zK BK356 hb; replace HB := zH hb HB; clear hb; obtain ⟨hcz7_0, hcz7_1, hfz7_0, hfz7_1⟩ := zC2 BK356));go_ret;exact ⟨zL0, zh HB.out⟩
mutual
def Td.l0 : Nat → List Bool → Int → List Int → Int → Int → Option (List Int × Bool)
 | 0, _, _, _, _, _ => none
 | k + 1, x0, x1, x2, x3, x13 => if x13 ≤ x3 then ((Uh.f x2).bind fun t460 => (if t460.length < 17592186044416 then ((Td.f k x0 x1 (t460 ++ [x13]) (wrap64 (x3 - x13))).bind fun bt466 => (if bt466.2 = true then (some (bt466.1, true)) else (Td.l0 k x0 x1 x2 x3 (wrap64 (x13 + 1))))) else (none))) else (some (([] : List Int), false))
def Td.f : Nat → List Bool → Int → List Int → Int → Option (List Int × Bool)
 | 0, _, _, _, _ => none
 | k + 1, l0, a1, l2, a3 => if (l2.length : Int) = (wrap64 (a1 - 1)) then ((Uh.f l2).bind fun t452 => (if t452.length < 17592186044416 then ((some (t452 ++ [a3] : List Int)).bind fun y455 => ((Qb.f k l0 y455).bind fun bt458 => (some (y455, bt458.2)))) else (none))) else (Td.l0 k l0 a1 l2 a3 0)
end
theorem Td.calls (k : Nat) : ∀ (A0 : Option Addr) (c0 : Nat) (l0 : List Bool) (a1 : Int) (A2 : Option Addr) (c2 : Nat) (l2 : List Int) (a3 : Int) (r1 : List Int) (r2 : Bool) (w : World) (hr0 : Kd.C Kd.bool w A0 l0.length l0) (hc0 : l0.length ≤ c0) (hr2 : Kd.C (Kd.int .i64) w A2 l2.length l2) (hc2 : l2.length ≤ c2) (h : Td.f k l0 a1 l2 a3 = some (r1, r2)),
 Calls Tryz.prog 69 #[.slice A0 l0.length c0, .int .i64 a1, .slice A2 l2.length c2, .int .i64 a3] w fun e w' => ∃ v0_ : Value, e = .returned (.tuple #[v0_, .bool r2]) ∧ Kd.R (Kd.int .i64) 3 w' w.heap.size (fun _ => True) v0_ r1 ∧ Below w.heap.size w w' := by
 induction k using Nat.strongRecOn with
 | _ k ih =>
 intro A0 c0 l0 a1 A2 c2 l2 a3 r1 r2 w hr0 hc0 hr2 hc2 h;cases k with
 | zero => exact absurd h (by simp [Td.f])
 | succ k =>
 simp only [Td.f] at h;have HR0 := qa.mk hr0;have HC0 := qa.mk hc0;clear hr0 hc0;have HR2 := qa.mk hr2;have HC2 := qa.mk hc2;clear hr2 hc2;have HB := qa.mk (Below.refl w.heap.size w);have H : (if (l2.length : Int) = (wrap64 (a1 - 1)) then ((Uh.f l2).bind fun t452 => (if t452.length < 17592186044416 then ((some (t452 ++ [a3] : List Int)).bind fun y455 => ((Qb.f k l0 y455).bind fun bt458 => (some (y455, bt458.2)))) else (none))) else (Td.l0 k l0 a1 l2 a3 0)) = some (r1, r2) := h;clear h;by_cases c5 : (l2.length : Int) = (wrap64 (a1 - 1))
 ·rw [if_pos c5] at H;have c5b0 := beq_iff_eq.mpr c5;have c5b1 := bne_eq_false_iff_eq.mpr c5;clear c5;replace H := zB0 H;obtain ⟨t452, A60, H⟩ := H;replace H : (if t452.length < 17592186044416 then ((some (t452 ++ [a3] : List Int)).bind fun y455 => ((Qb.f k l0 y455).bind fun bt458 => (some (y455, bt458.2)))) else (none)) = some (r1, r2) := H;have A6 := qa.mk A60;clear A60;by_cases c7 : t452.length < 17592186044416
  rotate_left
  ·rw [if_neg c7] at H;cases H
  rw [if_pos c7] at H;have LMc7 := qa.mk c7;clear c7;replace H := zY H;obtain ⟨y455, Ny455, H⟩ := H;replace H := zB0 H;obtain ⟨⟨t458, t459⟩, A80, H⟩ := H;replace H : (some (y455, t459)) = some (r1, r2) := H;have A8 := qa.mk A80;clear A80;simp only [Option.some.injEq, Prod.mk.injEq] at H;obtain ⟨rfl, rfl⟩ := H;go_enter Tryz.func69, Tryz.ntmps69;go_wp2_with (first | ((with_reducible refine Va (f := 124) rfl ?_); refine zl 22 Tryz.func124 #[.slice A2 l2.length c2] ?_; (with_reducible refine (Uh.calls _ _ l2 t452 _ ?side1 ?side2 A6.out).mono ?_); (case side1 => exact zQ HR2.out); (case side2 => exact HC2.out); rintro e w9 ⟨v453, rfl, ho0, hb⟩; refine ⟨_, rfl, ?_⟩; have HO454 := qa.mk (Kd.R_lower ho0 (Ua (zh HB.out))); replace HB := zH hb HB; clear hb; (try clear ho0)) | ((with_reducible refine Uc (b := .append) (xs := #[.tmp 22, .tmp 24]) rfl ?_); at_builtin; refine Kd.R_append (Kd.int .i64) (w0 := w) w.heap.size rfl (.tmp 22) (.tmp 24) 35 3 (.int .i64 0) 8 rfl Tryz.underlying35 info3 rfl (by decide) (by omega) v453 t452 a3 [.int .i64 a3] (fun _ => True) (fun _ => False) rfl rfl ?aP (fun _ hk => hk.elim) ?aF ?aO ?aB ?aS ?aL ?_; (case aP => exact rfl); (case aB => exact (zh HB.out)); (case aF => exact (fun _ _ => trivial)); (case aO => exact (zr HO454.out)); (case aS => exact (Ua (zh HB.out))); (case aL => have := LMc7.out; omega); intro v456 w10 ho hb hg hat; rw [← Ny455.out] at ho; have HO457 := qa.mk (ho); replace HB := qa.mk (hb); clear HO454 ho hb hg hat; obtain ⟨Ao11, co11, eo11⟩ := Kd.R_slice HO457.out; subst eo11) | ((with_reducible refine Va (f := 70) rfl ?_); refine zl 29 Tryz.func70 #[.slice A0 l0.length c0, .slice Ao11 y455.length co11] ?_; (with_reducible refine (Qb.calls k _ _ l0 _ _ y455 t458 t459 _ ?side1 ?side2 ?side3 ?side4 A8.out).mono ?_); (case side1 => exact zQ (Kd.C_below HR0.out HB.out)); (case side2 => exact HC0.out); (case side3 => exact zQ ((Kd.R_reads' HO457.out).2.2)); (case side4 => exact (Kd.R_reads' HO457.out).2.1); rintro e w12 ⟨rfl, hb⟩; refine ⟨_, rfl, ?_⟩; replace HO457 := qa.mk (Kd.R_below (zr HO457.out) hb); replace HB := zH hb HB; clear hb));go_ret2
  exact ⟨_, zL0, by (with_reducible repeat (first | apply Kd.R_alloc | apply Kd.R_drewN | apply Kd.R_drew)); exact HO457.out, zh HB.out⟩
 rw [if_neg c5] at H;have c5b0 := beq_eq_false_iff_ne.mpr c5;have c5b1 := bne_iff_ne.mpr c5;have H' := qa.mk H;clear H;go_enter Tryz.func69, Tryz.ntmps69;go_wp2;go_loopg [13] k (fun kq v13 w' => ∃ (x13_1 : Int), v13 = .int .i64 x13_1 ∧ qa (Td.l0 kq l0 a1 l2 a3 x13_1 = some (r1, r2)) ∧ qa (kq ≤ k) ∧ qa (Below w.heap.size w w'));case atStart => exact ⟨(0), zE, H', ⟨Nat.le_refl _⟩, ⟨zh HB.out⟩⟩
 case round =>
  clear H';try clear c1
  try clear c2
  try clear p2
  try clear c5
  try clear c5b0
  try clear c5b1
  try clear c6
  try clear p6
  try clear c7
  try clear c12
  obtain ⟨x13_1, rfl, HA, HK1, HB⟩ := hrel;cases gk with
  | zero => exact absurd HA.out (by simp [Td.l0])
  | succ k1 =>
   have H := HA.out;clear HA;simp only [Td.l0] at H;by_cases c13 : x13_1 ≤ a3
   rotate_left
   ·rw [if_neg c13] at H;have c13b0 := decide_eq_false c13;clear c13;simp only [Option.some.injEq, Prod.mk.injEq] at H;obtain ⟨rfl, rfl⟩ := H;go_wp2;go_ret2
    exact ⟨_, zL0, by first | exact Kd.R_nil _ _ _ _ _ | exact Kd.N_nil _ _ _ _ _ | exact Kd.V_nil _ _ _ _ _ | exact Kd.Q_nil _ _ _ _ _ | exact Kd.S_nil _ _ _ _ _, zh HB.out⟩
   rw [if_pos c13] at H;have c13b0 := decide_eq_true c13;clear c13;replace H := zB0 H;obtain ⟨t460, A140, H⟩ := H;replace H : (if t460.length < 17592186044416 then ((Td.f k1 l0 a1 (t460 ++ [x13_1]) (wrap64 (a3 - x13_1))).bind fun bt466 => (if bt466.2 = true then (some (bt466.1, true)) else (Td.l0 k1 l0 a1 l2 a3 (wrap64 (x13_1 + 1))))) else (none)) = some (r1, r2) := H;have A14 := qa.mk A140;clear A140;by_cases c15 : t460.length < 17592186044416
   rotate_left
   ·rw [if_neg c15] at H;cases H
   rw [if_pos c15] at H;have LMc15 := qa.mk c15;clear c15;obtain ⟨y463, hy463⟩ : ∃ y_ : List Int, y_ = (t460 ++ [x13_1]) := ⟨_, rfl⟩;rw [← hy463] at H;have Ny463 := qa.mk hy463;clear hy463;replace H := zB0 H;obtain ⟨⟨t466, t467⟩, A160, H⟩ := H;replace H : (if t467 = true then (some (t466, true)) else (Td.l0 k1 l0 a1 l2 a3 (wrap64 (x13_1 + 1)))) = some (r1, r2) := H;have A16 := qa.mk A160;clear A160;by_cases c17 : t467 = true
   rotate_left
   ·replace c17 := Bool.eq_false_iff.mpr c17;subst c17;rw [if_neg zF] at H;have H' := qa.mk H;clear H;go_wp2_with (first | ((with_reducible refine Va (f := 124) rfl ?_); refine zl 43 Tryz.func124 #[.slice A2 l2.length c2] ?_; (with_reducible refine (Uh.calls _ _ l2 t460 _ ?side1 ?side2 A14.out).mono ?_); (case side1 => exact zQ (Kd.C_below HR2.out HB.out)); (case side2 => exact HC2.out); rintro e w22 ⟨v461, rfl, ho0, hb⟩; refine ⟨_, rfl, ?_⟩; have HO462 := qa.mk (Kd.R_lower ho0 (Ua (zh HB.out))); replace HB := zH hb HB; clear hb; (try clear ho0)) | ((with_reducible refine Uc (b := .append) (xs := #[.tmp 43, .tmp 45]) rfl ?_); at_builtin; refine Kd.R_append (Kd.int .i64) (w0 := w) w.heap.size rfl (.tmp 43) (.tmp 45) 35 3 (.int .i64 0) 8 rfl Tryz.underlying35 info3 rfl (by decide) (by omega) v461 t460 x13_1 [.int .i64 x13_1] (fun _ => True) (fun _ => False) rfl rfl ?aP (fun _ hk => hk.elim) ?aF ?aO ?aB ?aS ?aL ?_; (case aP => exact rfl); (case aB => exact (zh HB.out)); (case aF => exact (fun _ _ => trivial)); (case aO => exact (zr HO462.out)); (case aS => exact (Ua (zh HB.out))); (case aL => have := LMc15.out; omega); intro v464 w23 ho hb hg hat; rw [← Ny463.out] at ho; have HO465 := qa.mk (ho); replace HB := qa.mk (hb); clear HO462 ho hb hg hat; obtain ⟨Ao24, co24, eo24⟩ := Kd.R_slice HO465.out; subst eo24) | ((with_reducible refine Va (f := 69) rfl ?_); refine zl 50 Tryz.func69 #[.slice A0 l0.length c0, .int .i64 a1, .slice Ao24 y463.length co24, .int .i64 (wrap64 (a3 - x13_1))] ?_; (with_reducible refine (ih k1 (by have := HK1.out; omega) _ _ l0 a1 _ _ y463 (wrap64 (a3 - x13_1)) t466 false _ ?side1 ?side2 ?side3 ?side4 A16.out).mono ?_); (case side1 => exact zQ (Kd.C_below HR0.out HB.out)); (case side2 => exact HC0.out); (case side3 => exact zQ ((Kd.R_reads' HO465.out).2.2)); (case side4 => exact (Kd.R_reads' HO465.out).2.1); rintro e w25 ⟨v468, rfl, ho0, hb⟩; refine ⟨_, rfl, ?_⟩; have HO469 := qa.mk (Kd.R_lower (Kd.R_new' ho0 (Kd.R_lt (zr HO465.out))) (Ua (zh HB.out))); replace HO465 := qa.mk (Kd.R_elder' (zr HO465.out) (Kd.R_base ho0) hb); replace HB := zH hb HB; clear hb; (try clear ho0)));go_roundg k1;case measure => have := HK1.out; omega
    case rel => exact ⟨(wrap64 (x13_1 + 1)), zE, H', zO HK1, ⟨zh HB.out⟩⟩
   subst c17;rw [if_pos rfl] at H;simp only [Option.some.injEq, Prod.mk.injEq] at H;obtain ⟨rfl, rfl⟩ := H;go_wp2_with (first | ((with_reducible refine Va (f := 124) rfl ?_); refine zl 43 Tryz.func124 #[.slice A2 l2.length c2] ?_; (with_reducible refine (Uh.calls _ _ l2 t460 _ ?side1 ?side2 A14.out).mono ?_); (case side1 => exact zQ (Kd.C_below HR2.out HB.out)); (case side2 => exact HC2.out); rintro e w18 ⟨v461, rfl, ho0, hb⟩; refine ⟨_, rfl, ?_⟩; have HO462 := qa.mk (Kd.R_lower ho0 (Ua (zh HB.out))); replace HB := zH hb HB; clear hb; (try clear ho0)) | ((with_reducible refine Uc (b := .append) (xs := #[.tmp 43, .tmp 45]) rfl ?_); at_builtin; refine Kd.R_append (Kd.int .i64) (w0 := w) w.heap.size rfl (.tmp 43) (.tmp 45) 35 3 (.int .i64 0) 8 rfl Tryz.underlying35 info3 rfl (by decide) (by omega) v461 t460 x13_1 [.int .i64 x13_1] (fun _ => True) (fun _ => False) rfl rfl ?aP (fun _ hk => hk.elim) ?aF ?aO ?aB ?aS ?aL ?_; (case aP => exact rfl); (case aB => exact (zh HB.out)); (case aF => exact (fun _ _ => trivial)); (case aO => exact (zr HO462.out)); (case aS => exact (Ua (zh HB.out))); (case aL => have := LMc15.out; omega); intro v464 w19 ho hb hg hat; rw [← Ny463.out] at ho; have HO465 := qa.mk (ho); replace HB := qa.mk (hb); clear HO462 ho hb hg hat; obtain ⟨Ao20, co20, eo20⟩ := Kd.R_slice HO465.out; subst eo20) | ((with_reducible refine Va (f := 69) rfl ?_); refine zl 50 Tryz.func69 #[.slice A0 l0.length c0, .int .i64 a1, .slice Ao20 y463.length co20, .int .i64 (wrap64 (a3 - x13_1))] ?_; (with_reducible refine (ih k1 (by have := HK1.out; omega) _ _ l0 a1 _ _ y463 (wrap64 (a3 - x13_1)) t466 true _ ?side1 ?side2 ?side3 ?side4 A16.out).mono ?_); (case side1 => exact zQ (Kd.C_below HR0.out HB.out)); (case side2 => exact HC0.out); (case side3 => exact zQ ((Kd.R_reads' HO465.out).2.2)); (case side4 => exact (Kd.R_reads' HO465.out).2.1); rintro e w21 ⟨v468, rfl, ho0, hb⟩; refine ⟨_, rfl, ?_⟩; have HO469 := qa.mk (Kd.R_lower (Kd.R_new' ho0 (Kd.R_lt (zr HO465.out))) (Ua (zh HB.out))); replace HO465 := qa.mk (Kd.R_elder' (zr HO465.out) (Kd.R_base ho0) hb); replace HB := zH hb HB; clear hb; (try clear ho0)));go_ret2
   exact ⟨_, zL0, by (with_reducible repeat (first | apply Kd.R_alloc | apply Kd.R_drewN | apply Kd.R_drew)); exact Kd.R_mono HO469.out (fun _ hk => trivial), zh HB.out⟩
def Md.l0 : Nat → List Bool → Int → Int → List (List Int) → Option (Int × List Int × Bool)
 | 0, _, _, _, _ => none
 | k + 1, x4, x5, x471000, x471001 => (Td.f k x4 x471000 ([] : List Int) x5).bind fun bt476 => (if bt476.2 = true then ((Qb.f k x4 bt476.1).bind fun bt480 => (some (bt480.1, bt476.1, true))) else (Md.l0 k x4 (wrap64 (x5 + 1)) x471000 x471001))
def Md.f (k : Nat) (a0_0 : Int) (l0_1 : List (List Int)) : Option (Int × List Int × Bool) := (Be.f k a0_0 l0_1).bind fun t472 => ((Ia.f k t472 a0_0).bind fun t475 => (if t475 = true then (Md.l0 k t472 1 a0_0 l0_1) else (some (0, ([] : List Int), false))))
theorem Md.calls (k : Nat) (a0_0 : Int) (A0_1 : Option Addr) (c0_1 : Nat) (l0_1 : List (List Int)) (r1 : Int) (r2 : List Int) (r3 : Bool) (w : World) (hr0_1 : Kd.C (Kd.slice 3 (Kd.int .i64)) w A0_1 l0_1.length l0_1) (hc0_1 : l0_1.length ≤ c0_1) (h : Md.f k a0_0 l0_1 = some (r1, r2, r3)) :
 Calls Tryz.prog 30 #[.agg #[.int .i64 a0_0, .slice A0_1 l0_1.length c0_1]] w fun e w' => ∃ v1_ : Value, e = .returned (.tuple #[.agg #[.int .i64 r1, v1_], .bool r3]) ∧ Kd.R (Kd.int .i64) 3 w' w.heap.size (fun _ => True) v1_ r2 ∧ Below w.heap.size w w' := by
 have hu24 := Tryz.underlying24;have hu40 := Tryz.underlying40;have HR0_1 := qa.mk hr0_1;have HC0_1 := qa.mk hc0_1;clear hr0_1 hc0_1;have HB := qa.mk (Below.refl w.heap.size w);have H : ((Be.f k a0_0 l0_1).bind fun t472 => ((Ia.f k t472 a0_0).bind fun t475 => (if t475 = true then (Md.l0 k t472 1 a0_0 l0_1) else (some (0, ([] : List Int), false))))) = some (r1, r2, r3) := h;clear h;replace H := zB0 H;obtain ⟨t472, A20, H⟩ := H;replace H : ((Ia.f k t472 a0_0).bind fun t475 => (if t475 = true then (Md.l0 k t472 1 a0_0 l0_1) else (some (0, ([] : List Int), false)))) = some (r1, r2, r3) := H;have A2 := qa.mk A20;clear A20;replace H := zB0 H;obtain ⟨t475, A30, H⟩ := H;replace H : (if t475 = true then (Md.l0 k t472 1 a0_0 l0_1) else (some (0, ([] : List Int), false))) = some (r1, r2, r3) := H;have A3 := qa.mk A30;clear A30;by_cases c4 : t475 = true
 rotate_left
 ·replace c4 := Bool.eq_false_iff.mpr c4;subst c4;rw [if_neg zF] at H;simp only [Option.some.injEq, Prod.mk.injEq] at H;obtain ⟨rfl, rfl, rfl⟩ := H;go_enter Tryz.func30, Tryz.ntmps30;go_wp2_with (first | ((with_reducible refine Ma (N := 1) rfl ?_); refine zq 1 #[.int .i64 a0_0, .slice A0_1 l0_1.length c0_1] 24 ?_; intro gb470 hg w24 hbox hb; have GW470 := zG hg HB; replace HB := zH hb HB; have BK470 := qa.mk hbox; have GE470 := GW470; clear hb hbox hg) | ((with_reducible refine Ma (N := 2) rfl ?_); refine zq 2 #[.int .i64 0, .slice none 0 0] 40 ?_; intro gb471 hg w25 hbox hb; have BK471 := qa.mk hbox; have GW471 := zG hg HB; have GE471 := zG hg HB; have NB470_471 := zNa hg BK470; have NB471_470 := zNb hg BK470; replace BK470 := zK BK470 hb; replace HB := zH hb HB; clear hb hbox hg; have hnb26 := NB470_471.out; have hnc26 := NB471_470.out; obtain ⟨hcz27_0, hcz27_1, hfz27_0, hfz27_1⟩ := zC2 BK470) | ((with_reducible refine Va (f := 67) rfl ?_); refine zl 11 Tryz.func67 #[.agg #[.int .i64 a0_0, .slice A0_1 l0_1.length c0_1]] ?_; (with_reducible refine (Be.calls k a0_0 _ _ l0_1 t472 _ ?side1 ?side2 A2.out).mono ?_); (case side1 => exact zQ (Kd.C_below HR0_1.out HB.out)); (case side2 => exact HC0_1.out); rintro e w28 ⟨v473, rfl, ho0, hb⟩; refine ⟨_, rfl, ?_⟩; have HO474 := qa.mk (Kd.R_lower ho0 (Ua (zh HB.out))); replace BK470 := zK BK470 hb; replace BK471 := zK BK471 hb; replace HB := zH hb HB; clear hb; (try clear ho0); obtain ⟨hcz29_0, hcz29_1, hfz29_0, hfz29_1⟩ := zC2 BK470; obtain ⟨Ao30, co30, eo30⟩ := Kd.R_slice HO474.out; subst eo30) | ((with_reducible refine Va (f := 68) rfl ?_); refine zl 15 Tryz.func68 #[.slice Ao30 t472.length co30, .int .i64 a0_0] ?_; (with_reducible refine (Ia.calls k _ _ t472 a0_0 false _ ?side1 ?side2 A3.out).mono ?_); (case side1 => exact zQ ((Kd.R_reads' HO474.out).2.2)); (case side2 => exact (Kd.R_reads' HO474.out).2.1); rintro e w' ⟨rfl, ⟨nd, rfl⟩⟩; refine ⟨_, rfl, ?_⟩; (try (rw [Xl w28]; generalize hq_ : World.drewN w28 _ = w28; have n0_ : qa (Kd.R Kd.bool 4 w28 w.heap.size (fun _ => True) (.slice Ao30 t472.length co30) t472) := ⟨by rw [← hq_]; exact (zr HO474.out)⟩; have n1_ : qa (w28.heap[gb470]? = some (.cells #[.int .i64 a0_0, .slice A0_1 l0_1.length c0_1] 24 (0, 0))) := ⟨by rw [← hq_]; exact (zb BK470.out)⟩; have n2_ : qa (w28.heap[gb471]? = some (.cells #[.int .i64 0, .slice none 0 0] 40 (0, 0))) := ⟨by rw [← hq_]; exact (zb BK471.out)⟩; have n3_ : qa (Below w.heap.size w w28) := ⟨by rw [← hq_]; exact (zh HB.out)⟩; clear HO474 BK470 BK471 HB hq_; have HO474 := n0_; have BK470 := n1_; have BK471 := n2_; have HB := n3_; clear n0_ n1_ n2_ n3_)); obtain ⟨hcz31_0, hcz31_1, hfz31_0, hfz31_1⟩ := zC2 BK471));refine bodyPost_ret (Og rfl _ _ gb471 40 #[.int .i64 0, .slice none 0 0] (0, 0) _ rfl (by (with_reducible repeat (first | refine Ca ?_ _ | refine Ra ?_ | refine Qa ?_ _)); refine Yb (cs := #[.int .i64 0, .slice none 0 0]) ?_ 1 _ rfl; (with_reducible repeat (first | refine Ca ?_ _ | refine Ra ?_ | refine Qa ?_ _)); refine Yb (cs := #[.int .i64 0, .slice none 0 0]) ?_ 0 _ rfl; exact zb BK471.out) Tryz.underlying40 rfl (by kernel_rfl)) rfl ?_;exact ⟨_, zL0, by first | exact Kd.R_nil _ _ _ _ _ | exact Kd.N_nil _ _ _ _ _ | exact Kd.V_nil _ _ _ _ _ | exact Kd.Q_nil _ _ _ _ _ | exact Kd.S_nil _ _ _ _ _, zh HB.out⟩
 subst c4;rw [if_pos rfl] at H;have H' := qa.mk H;clear H;go_enter Tryz.func30, Tryz.ntmps30;go_wp2_with (first | ((with_reducible refine Ma (N := 1) rfl ?_); refine zq 1 #[.int .i64 a0_0, .slice A0_1 l0_1.length c0_1] 24 ?_; intro gb470 hg w5 hbox hb; have GW470 := zG hg HB; replace HB := zH hb HB; have BK470 := qa.mk hbox; have GE470 := GW470; clear hb hbox hg) | ((with_reducible refine Ma (N := 2) rfl ?_); refine zq 2 #[.int .i64 0, .slice none 0 0] 40 ?_; intro gb471 hg w6 hbox hb; have BK471 := qa.mk hbox; have GW471 := zG hg HB; have GE471 := zG hg HB; have NB470_471 := zNa hg BK470; have NB471_470 := zNb hg BK470; replace BK470 := zK BK470 hb; replace HB := zH hb HB; clear hb hbox hg; have hnb7 := NB470_471.out; have hnc7 := NB471_470.out; obtain ⟨hcz8_0, hcz8_1, hfz8_0, hfz8_1⟩ := zC2 BK470) | ((with_reducible refine Va (f := 67) rfl ?_); refine zl 11 Tryz.func67 #[.agg #[.int .i64 a0_0, .slice A0_1 l0_1.length c0_1]] ?_; (with_reducible refine (Be.calls k a0_0 _ _ l0_1 t472 _ ?side1 ?side2 A2.out).mono ?_); (case side1 => exact zQ (Kd.C_below HR0_1.out HB.out)); (case side2 => exact HC0_1.out); rintro e w9 ⟨v473, rfl, ho0, hb⟩; refine ⟨_, rfl, ?_⟩; have HO474 := qa.mk (Kd.R_lower ho0 (Ua (zh HB.out))); replace BK470 := zK BK470 hb; replace BK471 := zK BK471 hb; replace HB := zH hb HB; clear hb; (try clear ho0); obtain ⟨hcz10_0, hcz10_1, hfz10_0, hfz10_1⟩ := zC2 BK470; obtain ⟨Ao11, co11, eo11⟩ := Kd.R_slice HO474.out; subst eo11) | ((with_reducible refine Va (f := 68) rfl ?_); refine zl 15 Tryz.func68 #[.slice Ao11 t472.length co11, .int .i64 a0_0] ?_; (with_reducible refine (Ia.calls k _ _ t472 a0_0 true _ ?side1 ?side2 A3.out).mono ?_); (case side1 => exact zQ ((Kd.R_reads' HO474.out).2.2)); (case side2 => exact (Kd.R_reads' HO474.out).2.1); rintro e w' ⟨rfl, ⟨nd, rfl⟩⟩; refine ⟨_, rfl, ?_⟩));go_loopg [5] k (fun kq v5 w' => ∃ (x5_1 : Int) (x472000_1 : Int), v5 = .int .i64 x5_1 ∧ qa (Md.l0 kq t472 x5_1 a0_0 l0_1 = some (r1, r2, r3)) ∧ qa (kq ≤ k) ∧ qa (Kd.R Kd.bool 4 w' w.heap.size (fun _ => True) (.slice Ao11 t472.length co11) t472) ∧ qa (w'.heap[gb470]? = some (.cells #[.int .i64 a0_0, (.slice A0_1 l0_1.length c0_1)] 24 (0, 0))) ∧ qa (w'.heap[gb471]? = some (.cells #[.int .i64 x472000_1, (.slice none 0 0)] 40 (0, 0))) ∧ qa (Below w.heap.size w w'));case atStart => exact ⟨(1), (0), zE, H', ⟨Nat.le_refl _⟩, ⟨zr HO474.out⟩, ⟨zb BK470.out⟩, ⟨zb BK471.out⟩, ⟨zh HB.out⟩⟩
 case round =>
  clear H';try clear p2
  try clear c3
  try clear c4
  try clear c6
  try clear c7
  try clear hcz10_0
  try clear hcz10_1
  try clear hcz8_0
  try clear hcz8_1
  try clear hfz10_0
  try clear hfz10_1
  try clear hfz8_0
  try clear hfz8_1
  obtain ⟨x5_1, x472000_1, rfl, HA, HK1, HO_4, BK470, BK471, HB⟩ := hrel;cases gk with
  | zero => exact absurd HA.out (by simp [Md.l0])
  | succ k1 =>
   have H := HA.out;clear HA;simp only [Md.l0] at H;replace H := zB0 H;obtain ⟨⟨t476, t477⟩, A120, H⟩ := H;replace H : (if t477 = true then ((Qb.f k1 t472 t476).bind fun bt480 => (some (bt480.1, t476, true))) else (Md.l0 k1 t472 (wrap64 (x5_1 + 1)) a0_0 l0_1)) = some (r1, r2, r3) := H;have A12 := qa.mk A120;clear A120;by_cases c13 : t477 = true
   rotate_left
   ·replace c13 := Bool.eq_false_iff.mpr c13;subst c13;rw [if_neg zF] at H;have H' := qa.mk H;clear H;have hnb21 := NB470_471.out;have hnc21 := NB471_470.out;obtain ⟨hcz22_0, hcz22_1, hfz22_0, hfz22_1⟩ := zC2 BK470;go_wp2_with (first | ((with_reducible refine Va (f := 69) rfl ?_); refine zl 25 Tryz.func69 #[.slice Ao11 t472.length co11, .int .i64 a0_0, .slice none 0 0, .int .i64 x5_1] ?_; (refine (Td.calls k1 _ _ t472 a0_0 _ _ ([] : List Int) x5_1 t476 false _ ?side1 ?side2 ?side3 ?side4 A12.out).mono ?_); (case side1 => exact zQ ((Kd.R_reads' HO_4.out).2.2)); (case side2 => exact (Kd.R_reads' HO_4.out).2.1); (case side3 => exact Kd.C_nil _ _); (case side4 => exact Nat.le_refl _); rintro e w23 ⟨v478, rfl, ho0, hb⟩; refine ⟨_, rfl, ?_⟩; have HO479 := qa.mk (Kd.R_lower ho0 (Ua (zh HB.out))); replace HO_4 := qa.mk (Kd.R_below (zr HO_4.out) hb); replace BK470 := zK BK470 hb; replace BK471 := zK BK471 hb; replace HB := zH hb HB; clear hb; (try clear ho0)));go_roundg k1;case measure => have := HK1.out; omega
    case rel => exact ⟨(wrap64 (x5_1 + 1)), (x472000_1), zE, H', zO HK1, ⟨zr HO_4.out⟩, ⟨zb BK470.out⟩, ⟨zb BK471.out⟩, ⟨zh HB.out⟩⟩
   subst c13;rw [if_pos rfl] at H;replace H := zB0 H;obtain ⟨⟨t480, t481⟩, A140, H⟩ := H;replace H : (some (t480, t476, true)) = some (r1, r2, r3) := H;have A14 := qa.mk A140;clear A140;simp only [Option.some.injEq, Prod.mk.injEq] at H;obtain ⟨rfl, rfl, rfl⟩ := H;have hnb15 := NB470_471.out;have hnc15 := NB471_470.out;obtain ⟨hcz16_0, hcz16_1, hfz16_0, hfz16_1⟩ := zC2 BK470;go_wp2_with (first | ((with_reducible refine Va (f := 69) rfl ?_); refine zl 25 Tryz.func69 #[.slice Ao11 t472.length co11, .int .i64 a0_0, .slice none 0 0, .int .i64 x5_1] ?_; (refine (Td.calls k1 _ _ t472 a0_0 _ _ ([] : List Int) x5_1 t476 true _ ?side1 ?side2 ?side3 ?side4 A12.out).mono ?_); (case side1 => exact zQ ((Kd.R_reads' HO_4.out).2.2)); (case side2 => exact (Kd.R_reads' HO_4.out).2.1); (case side3 => exact Kd.C_nil _ _); (case side4 => exact Nat.le_refl _); rintro e w17 ⟨v478, rfl, ho0, hb⟩; refine ⟨_, rfl, ?_⟩; have HO479 := qa.mk (Kd.R_lower ho0 (Ua (zh HB.out))); replace HO_4 := qa.mk (Kd.R_below (zr HO_4.out) hb); replace BK470 := zK BK470 hb; replace BK471 := zK BK471 hb; replace HB := zH hb HB; clear hb; (try clear ho0); obtain ⟨Ao18, co18, eo18⟩ := Kd.R_slice HO479.out; subst eo18) | ((with_reducible refine Va (f := 70) rfl ?_); refine zl 32 Tryz.func70 #[.slice Ao11 t472.length co11, .slice Ao18 t476.length co18] ?_; (with_reducible refine (Qb.calls k1 _ _ t472 _ _ t476 t480 t481 _ ?side1 ?side2 ?side3 ?side4 A14.out).mono ?_); (case side1 => exact zQ ((Kd.R_reads' HO_4.out).2.2)); (case side2 => exact (Kd.R_reads' HO_4.out).2.1); (case side3 => exact zQ ((Kd.R_reads' HO479.out).2.2)); (case side4 => exact (Kd.R_reads' HO479.out).2.1); rintro e w19 ⟨rfl, hb⟩; refine ⟨_, rfl, ?_⟩; replace HO_4 := qa.mk (Kd.R_below (zr HO_4.out) hb); replace HO479 := qa.mk (Kd.R_below (zr HO479.out) hb); replace BK470 := zK BK470 hb; replace BK471 := zK BK471 hb; replace HB := zH hb HB; clear hb; obtain ⟨hcz20_0, hcz20_1, hfz20_0, hfz20_1⟩ := zC2 BK471));refine bodyPost_ret (Og rfl _ _ gb471 40 #[.int .i64 t480, .slice Ao18 t476.length co18] (0, 0) _ rfl (by (with_reducible repeat (first | refine Ca ?_ _ | refine Ra ?_ | refine Qa ?_ _)); refine Yb (cs := #[.int .i64 t480, .slice none 0 0]) ?_ 1 _ rfl; (with_reducible repeat (first | refine Ca ?_ _ | refine Ra ?_ | refine Qa ?_ _)); refine Yb (cs := #[.int .i64 x472000_1, .slice none 0 0]) ?_ 0 _ rfl; exact zb BK471.out) Tryz.underlying40 rfl (by kernel_rfl)) rfl ?_;exact ⟨_, zL0, by (with_reducible repeat (first | apply Kd.R_alloc | apply Kd.R_drewN | apply Kd.R_drew)); exact Kd.R_mono (Kd.R_far (p := ⟨gb471, 1, none⟩) (Kd.R_far (p := ⟨gb471, 0, none⟩) (Kd.R_types HO479.out BK471.out (by decide)) (fun _ hk => hk.2) (.int .i64 t480)) (fun _ hk => hk.2) (.slice Ao18 t476.length co18)) (fun _ hk => trivial), zh HB.out⟩
def Lb.l0 : Nat → List (S40) → List (S24) → Int → Int → Option ((List (S40)) × Bool)
 | 0, _, _, _, _ => none
 | k + 1, x4, x13, x14, x15 => if x15 < x14 then (if 0 ≤ x15 then (if x15 < (x13.length : Int) then ((Md.f k ((Pf x13 x15).f0) ((Pf x13 x15).f1)).bind fun bt489 => (if x4.length < 4398046511104 then (Lb.l0 k (x4 ++ [(⟨bt489.1, bt489.2.1⟩ : S40)]) x13 x14 (wrap64 (x15 + 1))) else (none))) else (none)) else (none)) else (some (x4, true))
def Lb.f (k : Nat) (a0_0 : Int) (l0_1 : List (List Int)) : Option ((List (S40)) × Bool) := (Cf.f k a0_0 l0_1).bind fun t483 => (if t483 = true then ((qf.f k a0_0 l0_1).bind fun t484 => (Lb.l0 k ([] : List (S40)) t484 (t484.length : Int) 0)) else (some (([] : List (S40)), false)))
theorem Lb.calls (k : Nat) (a0_0 : Int) (A0_1 : Option Addr) (c0_1 : Nat) (l0_1 : List (List Int)) (r1 : List (S40)) (r2 : Bool) (w : World) (hr0_1 : Kd.C (Kd.slice 3 (Kd.int .i64)) w A0_1 l0_1.length l0_1) (hc0_1 : l0_1.length ≤ c0_1) (h : Lb.f k a0_0 l0_1 = some (r1, r2)) :
 Calls Tryz.prog 6 #[.agg #[.int .i64 a0_0, .slice A0_1 l0_1.length c0_1]] w fun e w' => ∃ v0_ : Value, e = .returned (.tuple #[v0_, .bool r2]) ∧ Kd.S k40 40 w' w.heap.size (fun _ => True) v0_ r1 ∧ Below w.heap.size w w' := by
 have hu24 := Tryz.underlying24;have hu40 := Tryz.underlying40;have HR0_1 := qa.mk hr0_1;have HC0_1 := qa.mk hc0_1;clear hr0_1 hc0_1;have HB := qa.mk (Below.refl w.heap.size w);have H : ((Cf.f k a0_0 l0_1).bind fun t483 => (if t483 = true then ((qf.f k a0_0 l0_1).bind fun t484 => (Lb.l0 k ([] : List (S40)) t484 (t484.length : Int) 0)) else (some (([] : List (S40)), false)))) = some (r1, r2) := h;clear h;replace H := zB0 H;obtain ⟨t483, A20, H⟩ := H;replace H : (if t483 = true then ((qf.f k a0_0 l0_1).bind fun t484 => (Lb.l0 k ([] : List (S40)) t484 (t484.length : Int) 0)) else (some (([] : List (S40)), false))) = some (r1, r2) := H;have A2 := qa.mk A20;clear A20;by_cases c3 : t483 = true
 rotate_left
 ·replace c3 := Bool.eq_false_iff.mpr c3;subst c3;rw [if_neg zF] at H;simp only [Option.some.injEq, Prod.mk.injEq] at H;obtain ⟨rfl, rfl⟩ := H;go_enter Tryz.func6, Tryz.ntmps6;go_wp2_with (first | ((with_reducible refine Ma (N := 1) rfl ?_); refine zq 1 #[.int .i64 a0_0, .slice A0_1 l0_1.length c0_1] 24 ?_; intro gb482 hg w28 hbox hb; have GW482 := zG hg HB; replace HB := zH hb HB; have BK482 := qa.mk hbox; have GE482 := GW482; clear hb hbox hg; obtain ⟨hcz29_0, hcz29_1, hfz29_0, hfz29_1⟩ := zC2 BK482) | ((with_reducible refine Va (f := 28) rfl ?_); refine zl 10 Tryz.func28 #[.agg #[.int .i64 a0_0, .slice A0_1 l0_1.length c0_1]] ?_; (with_reducible refine (Cf.calls k a0_0 _ _ l0_1 false _ ?side1 ?side2 A2.out).mono ?_); (case side1 => exact zQ (Kd.C_below HR0_1.out HB.out)); (case side2 => exact HC0_1.out); rintro e w30 ⟨rfl, hb⟩; refine ⟨_, rfl, ?_⟩; replace BK482 := zK BK482 hb; replace HB := zH hb HB; clear hb));go_ret2
  exact ⟨_, zL0, by first | exact Kd.S_nil _ _ _ _ _ | exact Kd.N_nil _ _ _ _ _ | exact Kd.V_nil _ _ _ _ _ | exact Kd.Q_nil _ _ _ _ _ | exact Kd.R_nil _ _ _ _ _, zh HB.out⟩
 subst c3;rw [if_pos rfl] at H;replace H := zB0 H;obtain ⟨t484, A40, H⟩ := H;replace H : (Lb.l0 k ([] : List (S40)) t484 (t484.length : Int) 0) = some (r1, r2) := H;have A4 := qa.mk A40;clear A40;have H' := qa.mk H;clear H;go_enter Tryz.func6, Tryz.ntmps6;go_wp2_with (first | ((with_reducible refine Ma (N := 1) rfl ?_); refine zq 1 #[.int .i64 a0_0, .slice A0_1 l0_1.length c0_1] 24 ?_; intro gb482 hg w5 hbox hb; have GW482 := zG hg HB; replace HB := zH hb HB; have BK482 := qa.mk hbox; have GE482 := GW482; clear hb hbox hg; obtain ⟨hcz6_0, hcz6_1, hfz6_0, hfz6_1⟩ := zC2 BK482) | ((with_reducible refine Va (f := 28) rfl ?_); refine zl 10 Tryz.func28 #[.agg #[.int .i64 a0_0, .slice A0_1 l0_1.length c0_1]] ?_; (with_reducible refine (Cf.calls k a0_0 _ _ l0_1 true _ ?side1 ?side2 A2.out).mono ?_); (case side1 => exact zQ (Kd.C_below HR0_1.out HB.out)); (case side2 => exact HC0_1.out); rintro e w7 ⟨rfl, hb⟩; refine ⟨_, rfl, ?_⟩; replace BK482 := zK BK482 hb; replace HB := zH hb HB; clear hb; obtain ⟨hcz8_0, hcz8_1, hfz8_0, hfz8_1⟩ := zC2 BK482) | ((with_reducible refine Va (f := 29) rfl ?_); refine zl 13 Tryz.func29 #[.agg #[.int .i64 a0_0, .slice A0_1 l0_1.length c0_1]] ?_; (with_reducible refine (qf.calls k a0_0 _ _ l0_1 t484 _ ?side1 ?side2 A4.out).mono ?_); (case side1 => exact zQ (Kd.C_below HR0_1.out HB.out)); (case side2 => exact HC0_1.out); rintro e w9 ⟨v485, rfl, ho0, hb⟩; refine ⟨_, rfl, ?_⟩; have HO486 := qa.mk (Kd.V_lower (Kd.V_mono (ok' := fun k_ => k_ ≠ gb482) ho0 (fun k_ hk_ => (Kd.freshB (g := gb482) (o := .cells #[.int .i64 a0_0, .slice A0_1 l0_1.length c0_1] 24 (0, 0)) (zb BK482.out) k_ hk_))) (Ua (zh HB.out))); replace BK482 := zK BK482 hb; replace HB := zH hb HB; clear hb; (try clear ho0); obtain ⟨Ao10, co10, eo10⟩ := Kd.V_slice HO486.out; subst eo10));go_loopg [4, 15] k (fun kq v4 v15 w' => ∃ (x4_1 : List (S40)) (x15_1 : Int), v15 = .int .i64 x15_1 ∧ qa (Lb.l0 kq x4_1 t484 (t484.length : Int) x15_1 = some (r1, r2)) ∧ qa (kq ≤ k) ∧ qa (Kd.S k40 40 w' w.heap.size (fun _ => True) v4 x4_1) ∧ qa (Kd.V k24 24 w' w.heap.size (fun k_ => some k_ ≠ (v4 : Value).ownBlock ∧ k_ ≠ gb482) (.slice Ao10 t484.length co10) t484) ∧ qa (w'.heap[gb482]? = some (.cells #[.int .i64 a0_0, (.slice A0_1 l0_1.length c0_1)] 24 (0, 0))) ∧ qa (Below w.heap.size w w'));case atStart => exact ⟨(([] : List (S40))), (0), zE, H', ⟨Nat.le_refl _⟩, ⟨by first | exact Kd.S_nil _ _ _ _ _ | exact Kd.N_nil _ _ _ _ _ | exact Kd.V_nil _ _ _ _ _ | exact Kd.Q_nil _ _ _ _ _ | exact Kd.R_nil _ _ _ _ _⟩, ⟨by (with_reducible repeat (first | apply Kd.V_alloc | apply Kd.V_drewN | apply Kd.V_drew)); exact Kd.V_mono HO486.out (fun _ hk => ⟨(by simp [Value.ownBlock]), hk⟩)⟩, ⟨zb BK482.out⟩, ⟨zh HB.out⟩⟩
 case round =>
  clear H';try clear c2
  try clear p2
  try clear c3
  try clear c6
  try clear hcz6_0
  try clear hcz6_1
  try clear hcz8_0
  try clear hcz8_1
  try clear hfz6_0
  try clear hfz6_1
  try clear hfz8_0
  try clear hfz8_1
  obtain ⟨x4_1, x15_1, rfl, HA, HK1, HO_4, HO_13, BK482, HB⟩ := hrel;cases gk with
  | zero => exact absurd HA.out (by simp [Lb.l0])
  | succ k1 =>
   have H := HA.out;clear HA;simp only [Lb.l0] at H;by_cases c11 : x15_1 < (t484.length : Int)
   rotate_left
   ·rw [if_neg c11] at H;have c11b0 := decide_eq_false c11;clear c11;simp only [Option.some.injEq, Prod.mk.injEq] at H;obtain ⟨rfl, rfl⟩ := H;go_wp2;go_ret2
    exact ⟨_, zL0, by (with_reducible repeat (first | apply Kd.S_alloc | apply Kd.S_drewN | apply Kd.S_drew)); exact HO_4.out, zh HB.out⟩
   rw [if_pos c11] at H;have c11b0 := decide_eq_true c11;clear c11;by_cases c12 : 0 ≤ x15_1
   rotate_left
   ·rw [if_neg c12] at H;cases H
   rw [if_pos c12] at H;have c12b0 := decide_eq_true c12;clear c12;by_cases c13 : x15_1 < (t484.length : Int)
   rotate_left
   ·rw [if_neg c13] at H;cases H
   rw [if_pos c13] at H;have c13b0 := decide_eq_true c13;clear c13;replace H := zB0 H;obtain ⟨⟨t489, t490, t493⟩, A140, H⟩ := H;replace H : (if x4_1.length < 4398046511104 then (Lb.l0 k1 (x4_1 ++ [(⟨t489, t490⟩ : S40)]) t484 (t484.length : Int) (wrap64 (x15_1 + 1))) else (none)) = some (r1, r2) := H;have A14 := qa.mk A140;clear A140;by_cases c15 : x4_1.length < 4398046511104
   rotate_left
   ·rw [if_neg c15] at H;cases H
   rw [if_pos c15] at H;have LMc15 := qa.mk c15;clear c15;obtain ⟨y495, hy495⟩ : ∃ y_ : List (S40), y_ = (x4_1 ++ [(⟨t489, t490⟩ : S40)]) := ⟨_, rfl⟩;rw [← hy495] at H;have Ny495 := qa.mk hy495;clear hy495;have H' := qa.mk H;clear H;have p487 : 0 ≤ (x15_1 : Int) := zk;have q487 : x15_1 < (t484.length : Int) := zk;obtain ⟨ad487, A487_1, c487_1, e487, hx487_0, hx487_1, hl487_1, hi487_1⟩ := CK (Kd.V_reads' HO_13.out).2.2 x15_1 p487 q487;cases e487;obtain ⟨ce487, hce487, hMe487, hcc487⟩ := Kd.V_get HO_13.out z24 x15_1 p487 (by first | exact q487 | exact zk | (have e_ := (Kd.V_reads' HO_13.out).1; omega));obtain ⟨ua487_1, uc487_1, rfl, ul487_1, ge487_1⟩ := Yl hMe487;have hv487_1 := hcc487 1 _ rfl;rw [Vh _ _ 1 (by omega)] at hv487_1;replace hv487_1 := Option.some.inj (hv487_1.symm.trans hx487_1);injection hv487_1 with hva_ hvn_ hvc_;rw [hva_] at ge487_1;rw [hvc_] at ul487_1;have HL487_1 := qa.mk (show Kd.V (Kd.slice 3 (Kd.int .i64)) 35 _ w.heap.size _ _ ((Pf t484 x15_1).f1) from Kd.V_mk ul487_1 ge487_1);clear hva_ hvn_ hvc_ ge487_1 ul487_1 hcc487 hce487;have HR487_1 := qa.mk hi487_1;have HC487_1 := qa.mk hl487_1;clear hi487_1 hl487_1;replace p487 := eq_true p487;replace q487 := eq_true q487;go_wp2_with (first | ((with_reducible refine Ma (N := 6) rfl ?_); refine zq 6 #[.int .i64 0, .slice none 0 0] 24 ?_; intro gb488 hg w16 hbox hb; have BK488 := qa.mk hbox; have GW488 := zG hg HB; have GE488 := zG hg HB; have NB482_488 := zNa hg BK482; have NB488_482 := zNb hg BK482; replace HO_4 := qa.mk (Kd.S_below (by (with_reducible repeat (first | apply Kd.S_alloc | apply Kd.S_drewN | apply Kd.S_drew)); exact HO_4.out) hb); replace HO_13 := qa.mk (Kd.V_below (Kd.V_elderB (by (with_reducible repeat (first | apply Kd.V_alloc | apply Kd.V_drewN | apply Kd.V_drew)); exact HO_13.out) gb488 (Nat.le_of_eq hg.symm)) hb); replace HL487_1 := qa.mk (Kd.V_below (Kd.V_elderB (by (with_reducible repeat (first | apply Kd.V_alloc | apply Kd.V_drewN | apply Kd.V_drew)); exact HL487_1.out) gb488 (Nat.le_of_eq hg.symm)) hb); replace BK482 := zK BK482 hb; replace HR487_1 := qa.mk (Kd.C_below (by repeat (first | (with_reducible exact HR487_1.out) | (with_reducible refine Kd.C_alloc ?_ _) | (with_reducible refine Kd.C_drewN ?_ _) | (with_reducible refine Kd.C_drew ?_) | exact HR487_1.out)) hb); replace HB := zH hb HB; clear hb hbox hg; have hnb17 := NB488_482.out; have hnc17 := NB482_488.out; obtain ⟨hcz18_0, hcz18_1, hfz18_0, hfz18_1⟩ := zC2 BK488) | ((with_reducible refine Va (f := 30) rfl ?_); refine zl 21 Tryz.func30 #[.agg #[.int .i64 ((Pf t484 x15_1).f0), .slice A487_1 ((Pf t484 x15_1).f1).length c487_1]] ?_; (with_reducible refine (Md.calls k1 ((Pf t484 x15_1).f0) _ _ ((Pf t484 x15_1).f1) t489 t490 t493 _ ?side1 ?side2 A14.out).mono ?_); (case side1 => repeat (first | exact ((Kd.V_reads' (by (with_reducible repeat (first | apply Kd.V_alloc | apply Kd.V_drewN | apply Kd.V_drew)); exact (Kd.V_mono (Kd.V_far (p := ⟨gb488, 1, none⟩) (Kd.V_far (p := ⟨gb488, 0, none⟩) (Kd.V_mono HL487_1.out (fun k_ hk => (⟨hk, hk.2⟩ : _ ∧ k_ ≠ gb488))) (fun _ hk => hk.2) (.int .i64 ((Pf t484 x15_1).f0))) (fun _ hk => hk.2) (.slice A487_1 ((Pf t484 x15_1).f1).length c487_1)) (fun _ h_ => h_.1)))).2.2) | (with_reducible refine Kd.C_alloc ?_ _) | (with_reducible refine Kd.C_drewN ?_ _) | (with_reducible refine Kd.C_drew ?_))); (case side2 => exact HC487_1.out); rintro e w19 ⟨v491, rfl, ho0, hb⟩; refine ⟨_, rfl, ?_⟩; have HO492 := qa.mk (Kd.R_lower ho0 (Ua (zh HB.out))); replace HO_4 := qa.mk (Kd.S_elder' (by (with_reducible repeat (first | apply Kd.S_alloc | apply Kd.S_drewN | apply Kd.S_drew)); exact (Kd.S_mono (Kd.S_far (p := ⟨gb488, 1, none⟩) (Kd.S_far (p := ⟨gb488, 0, none⟩) (Kd.S_types HO_4.out BK488.out (by decide)) (fun _ hk => hk.2) (.int .i64 ((Pf t484 x15_1).f0))) (fun _ hk => hk.2) (.slice A487_1 ((Pf t484 x15_1).f1).length c487_1)) (fun _ h_ => h_.1))) (Kd.R_base ho0) hb); replace HO_13 := qa.mk (Kd.V_elder' (by (with_reducible repeat (first | apply Kd.V_alloc | apply Kd.V_drewN | apply Kd.V_drew)); exact (Kd.V_mono (Kd.V_far (p := ⟨gb488, 1, none⟩) (Kd.V_far (p := ⟨gb488, 0, none⟩) (Kd.V_mono HO_13.out (fun k_ hk => (⟨hk, hk.2⟩ : _ ∧ k_ ≠ gb488))) (fun _ hk => hk.2) (.int .i64 ((Pf t484 x15_1).f0))) (fun _ hk => hk.2) (.slice A487_1 ((Pf t484 x15_1).f1).length c487_1)) (fun _ h_ => h_.1))) (Kd.R_base ho0) hb); replace BK482 := qa.mk (Na (g := gb482) (o := .cells #[.int .i64 a0_0, .slice A0_1 l0_1.length c0_1] 24 (0, 0)) (zf2 BK482.out NB482_488.out NB482_488.out) hb); replace HR487_1 := qa.mk (Kd.C_below ((Kd.V_reads' (by (with_reducible repeat (first | apply Kd.V_alloc | apply Kd.V_drewN | apply Kd.V_drew)); exact (Kd.V_mono (Kd.V_far (p := ⟨gb488, 1, none⟩) (Kd.V_far (p := ⟨gb488, 0, none⟩) (Kd.V_mono HL487_1.out (fun k_ hk => (⟨hk, hk.2⟩ : _ ∧ k_ ≠ gb488))) (fun _ hk => hk.2) (.int .i64 ((Pf t484 x15_1).f0))) (fun _ hk => hk.2) (.slice A487_1 ((Pf t484 x15_1).f1).length c487_1)) (fun _ h_ => h_.1)))).2.2) hb); replace HL487_1 := qa.mk (Kd.V_elder' (by (with_reducible repeat (first | apply Kd.V_alloc | apply Kd.V_drewN | apply Kd.V_drew)); exact (Kd.V_mono (Kd.V_far (p := ⟨gb488, 1, none⟩) (Kd.V_far (p := ⟨gb488, 0, none⟩) (Kd.V_mono HL487_1.out (fun k_ hk => (⟨hk, hk.2⟩ : _ ∧ k_ ≠ gb488))) (fun _ hk => hk.2) (.int .i64 ((Pf t484 x15_1).f0))) (fun _ hk => hk.2) (.slice A487_1 ((Pf t484 x15_1).f1).length c487_1)) (fun _ h_ => h_.1))) (Kd.R_base ho0) hb); replace BK488 := qa.mk (Na (g := gb488) (o := .cells #[.int .i64 ((Pf t484 x15_1).f0), .slice A487_1 ((Pf t484 x15_1).f1).length c487_1] 24 (0, 0)) (by (with_reducible repeat (first | refine Ca ?_ _ | refine Ra ?_ | refine Qa ?_ _)); refine Yb (cs := #[.int .i64 ((Pf t484 x15_1).f0), .slice none 0 0]) ?_ 1 _ rfl; (with_reducible repeat (first | refine Ca ?_ _ | refine Ra ?_ | refine Qa ?_ _)); refine Yb (cs := #[.int .i64 0, .slice none 0 0]) ?_ 0 _ rfl; exact zb BK488.out) hb); replace HB := zH hb HB; clear hb; (try clear ho0)) | ((with_reducible refine Ma (N := 7) rfl ?_); refine zq 7 #[.int .i64 0, .slice none 0 0] 40 ?_; intro gb494 hg w20 hbox hb; have BK494 := qa.mk hbox; have GW494 := zG hg HB; have GE494 := zG hg HB; have NB482_494 := zNa hg BK482; have NB494_482 := zNb hg BK482; have NB488_494 := zNa hg BK488; have NB494_488 := zNb hg BK488; replace HO_4 := qa.mk (Kd.S_below (Kd.S_elderB (by (with_reducible repeat (first | apply Kd.S_alloc | apply Kd.S_drewN | apply Kd.S_drew)); exact HO_4.out) gb494 (Nat.le_of_eq hg.symm)) hb); replace HO_13 := qa.mk (Kd.V_below (Kd.V_elderB (by (with_reducible repeat (first | apply Kd.V_alloc | apply Kd.V_drewN | apply Kd.V_drew)); exact HO_13.out) gb494 (Nat.le_of_eq hg.symm)) hb); replace HL487_1 := qa.mk (Kd.V_below (Kd.V_elderB (by (with_reducible repeat (first | apply Kd.V_alloc | apply Kd.V_drewN | apply Kd.V_drew)); exact HL487_1.out) gb494 (Nat.le_of_eq hg.symm)) hb); replace HO492 := qa.mk (Kd.R_below (zr HO492.out) hb); replace BK482 := zK BK482 hb; replace HR487_1 := qa.mk (Kd.C_below (by repeat (first | (with_reducible exact HR487_1.out) | (with_reducible refine Kd.C_alloc ?_ _) | (with_reducible refine Kd.C_drewN ?_ _) | (with_reducible refine Kd.C_drew ?_) | exact HR487_1.out)) hb); replace BK488 := zK BK488 hb; replace HB := zH hb HB; clear hb hbox hg; have hnb21 := NB494_482.out; have hnc21 := NB482_494.out; have hnb22 := NB494_488.out; have hnc22 := NB488_494.out; obtain ⟨hcz23_0, hcz23_1, hfz23_0, hfz23_1⟩ := zC2 BK494; obtain ⟨Ao24, co24, eo24⟩ := Kd.R_slice HO492.out; subst eo24) | ((with_reducible refine Fh (t := 40) (p := 7) rfl ?_); refine Yh (t := 40) (p := 7) (v := ?vo_w25) (w1 := ((w20.setCell ⟨gb494, 0, none⟩ (.int .i64 t489)).setCell ⟨gb494, 1, none⟩ (.slice Ao24 t490.length co24))) ?hg ?ho ?hn ?hr ?_; (case ho => rfl); (case hg => rfl); (case hn => rfl); (case hr => first | (go_simp; done) | (go_simp; rfl)); intro w25 hw; replace HO_4 : qa (Kd.S k40 40 w25 w.heap.size (fun k_ => some k_ ≠ (.slice Ao24 t490.length co24 : Value).ownBlock ∧ k_ ≠ gb494) u4 x4_1) := ⟨(by rw [hw]; exact (by (with_reducible repeat (first | apply Kd.S_alloc | apply Kd.S_drewN | apply Kd.S_drew)); exact Kd.S_mono (Kd.S_far (p := ⟨gb494, 1, none⟩) (Kd.S_far (p := ⟨gb494, 0, none⟩) (Kd.S_mono HO_4.out (fun k_ hk => (⟨hk, hk.2⟩ : _ ∧ k_ ≠ gb494))) (fun _ hk => hk.2) (.int .i64 t489)) (fun _ hk => hk.2) (.slice Ao24 t490.length co24)) (fun _ hk => ⟨hk.1.1.2, hk.1.2⟩)))⟩; replace HO_13 : qa (Kd.V k24 24 w25 w.heap.size (fun k_ => some k_ ≠ (u4 : Value).ownBlock ∧ some k_ ≠ (.slice Ao24 t490.length co24 : Value).ownBlock ∧ k_ ≠ gb482 ∧ k_ ≠ gb488 ∧ k_ ≠ gb494) (.slice (some ad487) t484.length co10) t484) := ⟨(by rw [hw]; exact (by (with_reducible repeat (first | apply Kd.V_alloc | apply Kd.V_drewN | apply Kd.V_drew)); exact Kd.V_mono (Kd.V_far (p := ⟨gb494, 1, none⟩) (Kd.V_far (p := ⟨gb494, 0, none⟩) (Kd.V_mono HO_13.out (fun k_ hk => (⟨hk, hk.2⟩ : _ ∧ k_ ≠ gb494))) (fun _ hk => hk.2) (.int .i64 t489)) (fun _ hk => hk.2) (.slice Ao24 t490.length co24)) (fun _ hk => ⟨hk.1.1.1.1.1, ⟨hk.1.1.2, ⟨hk.1.1.1.1.2, ⟨hk.1.1.1.2, hk.1.2⟩⟩⟩⟩)))⟩; replace HL487_1 : qa (Kd.V (Kd.slice 3 (Kd.int .i64)) 35 w25 w.heap.size (fun k_ => some k_ ≠ (u4 : Value).ownBlock ∧ some k_ ≠ (.slice Ao24 t490.length co24 : Value).ownBlock ∧ k_ ≠ gb482 ∧ k_ ≠ gb488 ∧ k_ ≠ gb494) (.slice A487_1 ((Pf t484 x15_1).f1).length c487_1) ((Pf t484 x15_1).f1)) := ⟨(by rw [hw]; exact (by (with_reducible repeat (first | apply Kd.V_alloc | apply Kd.V_drewN | apply Kd.V_drew)); exact Kd.V_mono (Kd.V_far (p := ⟨gb494, 1, none⟩) (Kd.V_far (p := ⟨gb494, 0, none⟩) (Kd.V_mono HL487_1.out (fun k_ hk => (⟨hk, hk.2⟩ : _ ∧ k_ ≠ gb494))) (fun _ hk => hk.2) (.int .i64 t489)) (fun _ hk => hk.2) (.slice Ao24 t490.length co24)) (fun _ hk => ⟨hk.1.1.1.1.1, ⟨hk.1.1.2, ⟨hk.1.1.1.1.2, ⟨hk.1.1.1.2, hk.1.2⟩⟩⟩⟩)))⟩; replace HO492 : qa (Kd.R (Kd.int .i64) 3 w25 w.heap.size (fun _ => True) (.slice Ao24 t490.length co24) t490) := ⟨(by rw [hw]; exact (by (with_reducible repeat (first | apply Kd.R_alloc | apply Kd.R_drewN | apply Kd.R_drew)); exact Kd.R_mono (Kd.R_far (p := ⟨gb494, 1, none⟩) (Kd.R_far (p := ⟨gb494, 0, none⟩) (Kd.R_types HO492.out BK494.out (by decide)) (fun _ hk => hk.2) (.int .i64 t489)) (fun _ hk => hk.2) (.slice Ao24 t490.length co24)) (fun _ hk => trivial)))⟩; replace BK482 : qa (w25.heap[gb482]? = some (.cells #[.int .i64 a0_0, .slice A0_1 l0_1.length c0_1] 24 (0, 0))) := ⟨(by rw [hw]; exact (zf2 BK482.out NB482_494.out NB482_494.out))⟩; replace BK488 : qa (w25.heap[gb488]? = some (.cells #[.int .i64 ((Pf t484 x15_1).f0), .slice A487_1 ((Pf t484 x15_1).f1).length c487_1] 24 (0, 0))) := ⟨(by rw [hw]; exact (zf2 BK488.out NB488_494.out NB488_494.out))⟩; replace BK494 : qa (w25.heap[gb494]? = some (.cells #[.int .i64 t489, .slice Ao24 t490.length co24] 40 (0, 0))) := ⟨(by rw [hw]; exact (by (with_reducible repeat (first | refine Ca ?_ _ | refine Ra ?_ | refine Qa ?_ _)); refine Yb (cs := #[.int .i64 t489, .slice none 0 0]) ?_ 1 _ rfl; (with_reducible repeat (first | refine Ca ?_ _ | refine Ra ?_ | refine Qa ?_ _)); refine Yb (cs := #[.int .i64 0, .slice none 0 0]) ?_ 0 _ rfl; exact zb BK494.out))⟩; replace HB : qa (Below w.heap.size w w25) := ⟨(by rw [hw]; exact (zh HB.out))⟩; clear hw; obtain ⟨hcz26_0, hcz26_1, hfz26_0, hfz26_1⟩ := zC2 BK494) | ((with_reducible refine Uc (b := .append) (xs := #[.tmp 24, .tmp 26]) rfl ?_); at_builtin; refine Kd.S_append k40 (w0 := w) w.heap.size rfl (.tmp 24) (.tmp 26) 25 40 (.agg #[(.int .i64 0), (.slice none 0 0)]) 32 rfl Tryz.underlying25 Vy rfl (by decide) (by omega) u4 x4_1 (⟨t489, t490⟩ : S40) [.int .i64 t489, .slice Ao24 t490.length co24] (fun k_ => k_ ≠ gb494) (fun k_ => some k_ = (.slice Ao24 t490.length co24 : Value).ownBlock) rfl rfl ?aP (fun k_ hk_ => ((Kd.R_mono (ok' := fun k_ => ((fun k_ => k_ ≠ gb494)) k_ ∧ some k_ ≠ (u4 : Value).ownBlock) (Kd.R_types (Kd.R_apart' (HO492.out) (Kd.S_typed HO_4.out) (by decide)) BK494.out (by decide)) (fun k_ hk => ⟨hk.2, hk.1.2⟩))).1 k_ hk_.symm) ?aF ?aO ?aB ?aS ?aL ?_; (case aP => exact LB _ _ _ (⟨t489, t490⟩ : S40) (Kd.R_mono (Kd.R_tight rfl (Kd.R_mono (ok' := fun k_ => ((fun k_ => k_ ≠ gb494)) k_ ∧ some k_ ≠ (u4 : Value).ownBlock) (Kd.R_types (Kd.R_apart' (HO492.out) (Kd.S_typed HO_4.out) (by decide)) BK494.out (by decide)) (fun k_ hk => ⟨hk.2, hk.1.2⟩))) (fun _ h_ => h_))); (case aB => exact (zh HB.out)); (case aF => exact (fun k_ hk => Kd.freshB (g := gb494) (o := .cells #[.int .i64 t489, .slice Ao24 t490.length co24] 40 (0, 0)) (zb BK494.out) k_ hk)); (case aO => exact (by (with_reducible repeat (first | apply Kd.S_alloc | apply Kd.S_drewN | apply Kd.S_drew)); exact Kd.S_mono HO_4.out (fun k_ hk => ⟨hk.2, fun e_ => hk.1 e_⟩))); (case aS => exact (Ua (zh HB.out))); (case aL => have := LMc15.out; omega); intro v496 w27 ho hb hg hat; rw [← Ny495.out] at ho; have HO497 := qa.mk (ho); replace HO_13 := qa.mk (Kd.V_afterv (ok := (fun k_ => some k_ ≠ (.slice Ao24 t490.length co24 : Value).ownBlock ∧ k_ ≠ gb482 ∧ k_ ≠ gb488 ∧ k_ ≠ gb494)) (by (with_reducible repeat (first | apply Kd.V_alloc | apply Kd.V_drewN | apply Kd.V_drew)); exact Kd.V_mono HO_13.out (fun _ hk => ⟨⟨hk.2.1, ⟨hk.2.2.1, ⟨hk.2.2.2.1, hk.2.2.2.2⟩⟩⟩, hk.1⟩)) hg hat); replace BK482 := qa.mk (Qe (g := gb482) (o := .cells #[.int .i64 a0_0, .slice A0_1 l0_1.length c0_1] 24 (0, 0)) (zb BK482.out) hg (Kd.S_ne HO_4.out BK482.out (by decide))); replace HL487_1 := qa.mk (Kd.V_afterv (ok := (fun k_ => some k_ ≠ (.slice Ao24 t490.length co24 : Value).ownBlock ∧ k_ ≠ gb482 ∧ k_ ≠ gb488 ∧ k_ ≠ gb494)) (by (with_reducible repeat (first | apply Kd.V_alloc | apply Kd.V_drewN | apply Kd.V_drew)); exact Kd.V_mono HL487_1.out (fun _ hk => ⟨⟨hk.2.1, ⟨hk.2.2.1, ⟨hk.2.2.2.1, hk.2.2.2.2⟩⟩⟩, hk.1⟩)) hg hat); replace BK488 := qa.mk (Qe (g := gb488) (o := .cells #[.int .i64 ((Pf t484 x15_1).f0), .slice A487_1 ((Pf t484 x15_1).f1).length c487_1] 24 (0, 0)) (zb BK488.out) hg (Kd.S_ne HO_4.out BK488.out (by decide))); replace BK494 := qa.mk (Qe (g := gb494) (o := .cells #[.int .i64 t489, .slice Ao24 t490.length co24] 40 (0, 0)) (zb BK494.out) hg (Kd.S_away HO_4.out (fun _ hk => hk.2))); replace HB := qa.mk (hb); clear HO_4 HO492 ho hb hg hat));go_roundg k1;case measure => have := HK1.out; omega
   case rel => exact ⟨(y495), (wrap64 (x15_1 + 1)), zE, H', zO HK1, ⟨zS (Kd.S_mono HO497.out (fun _ hk => trivial))⟩, ⟨by (with_reducible repeat (first | apply Kd.V_alloc | apply Kd.V_drewN | apply Kd.V_drew)); exact Kd.V_mono HO_13.out (fun _ hk => ⟨hk.2, hk.1.2.1⟩)⟩, ⟨zb BK482.out⟩, ⟨zh HB.out⟩⟩
def qd.f (k : Nat) (a0_0 : Int) (l0_1 : List (List Int)) : Option (Int × Bool) := (Cf.f k a0_0 l0_1).bind fun t508 => (if t508 = true then ((qf.f k a0_0 l0_1).bind fun t509 => (some ((t509.length : Int), true))) else (some (0, false)))
theorem qd.calls (k : Nat) (a0_0 : Int) (A0_1 : Option Addr) (c0_1 : Nat) (l0_1 : List (List Int)) (r1 : Int) (r2 : Bool) (w : World) (hr0_1 : Kd.C (Kd.slice 3 (Kd.int .i64)) w A0_1 l0_1.length l0_1) (hc0_1 : l0_1.length ≤ c0_1) (h : qd.f k a0_0 l0_1 = some (r1, r2)) :
 Calls Tryz.prog 8 #[.agg #[.int .i64 a0_0, .slice A0_1 l0_1.length c0_1]] w fun e w' => e = .returned (.tuple #[.int .i64 r1, .bool r2]) ∧ Below w.heap.size w w' := by
 have hu24 := Tryz.underlying24;have HR0_1 := qa.mk hr0_1;have HC0_1 := qa.mk hc0_1;clear hr0_1 hc0_1;have HB := qa.mk (Below.refl w.heap.size w);have H : ((Cf.f k a0_0 l0_1).bind fun t508 => (if t508 = true then ((qf.f k a0_0 l0_1).bind fun t509 => (some ((t509.length : Int), true))) else (some (0, false)))) = some (r1, r2) := h;clear h;replace H := zB0 H;obtain ⟨t508, A20, H⟩ := H;replace H : (if t508 = true then ((qf.f k a0_0 l0_1).bind fun t509 => (some ((t509.length : Int), true))) else (some (0, false))) = some (r1, r2) := H;have A2 := qa.mk A20;clear A20;by_cases c3 : t508 = true
 rotate_left
 ·replace c3 := Bool.eq_false_iff.mpr c3;subst c3;rw [if_neg zF] at H;simp only [Option.some.injEq, Prod.mk.injEq] at H;obtain ⟨rfl, rfl⟩ := H;go_enter Tryz.func8, Tryz.ntmps8;go_wp2_with (first | ((with_reducible refine Ma (N := 1) rfl ?_); refine zq 1 #[.int .i64 a0_0, .slice A0_1 l0_1.length c0_1] 24 ?_; intro gb507 hg w11 hbox hb; have GW507 := zG hg HB; replace HB := zH hb HB; have BK507 := qa.mk hbox; have GE507 := GW507; clear hb hbox hg; obtain ⟨hcz12_0, hcz12_1, hfz12_0, hfz12_1⟩ := zC2 BK507) | ((with_reducible refine Va (f := 28) rfl ?_); refine zl 5 Tryz.func28 #[.agg #[.int .i64 a0_0, .slice A0_1 l0_1.length c0_1]] ?_; (with_reducible refine (Cf.calls k a0_0 _ _ l0_1 false _ ?side1 ?side2 A2.out).mono ?_); (case side1 => exact zQ (Kd.C_below HR0_1.out HB.out)); (case side2 => exact HC0_1.out); rintro e w13 ⟨rfl, hb⟩; refine ⟨_, rfl, ?_⟩; replace BK507 := zK BK507 hb; replace HB := zH hb HB; clear hb));go_ret2
  exact ⟨zL0, zh HB.out⟩
 subst c3;rw [if_pos rfl] at H;replace H := zB0 H;obtain ⟨t509, A40, H⟩ := H;replace H : (some ((t509.length : Int), true)) = some (r1, r2) := H;have A4 := qa.mk A40;clear A40;simp only [Option.some.injEq, Prod.mk.injEq] at H;obtain ⟨rfl, rfl⟩ := H;go_enter Tryz.func8, Tryz.ntmps8;go_wp2_with (first | ((with_reducible refine Ma (N := 1) rfl ?_); refine zq 1 #[.int .i64 a0_0, .slice A0_1 l0_1.length c0_1] 24 ?_; intro gb507 hg w5 hbox hb; have GW507 := zG hg HB; replace HB := zH hb HB; have BK507 := qa.mk hbox; have GE507 := GW507; clear hb hbox hg; obtain ⟨hcz6_0, hcz6_1, hfz6_0, hfz6_1⟩ := zC2 BK507) | ((with_reducible refine Va (f := 28) rfl ?_); refine zl 5 Tryz.func28 #[.agg #[.int .i64 a0_0, .slice A0_1 l0_1.length c0_1]] ?_; (with_reducible refine (Cf.calls k a0_0 _ _ l0_1 true _ ?side1 ?side2 A2.out).mono ?_); (case side1 => exact zQ (Kd.C_below HR0_1.out HB.out)); (case side2 => exact HC0_1.out); rintro e w7 ⟨rfl, hb⟩; refine ⟨_, rfl, ?_⟩; replace BK507 := zK BK507 hb; replace HB := zH hb HB; clear hb; obtain ⟨hcz8_0, hcz8_1, hfz8_0, hfz8_1⟩ := zC2 BK507) | ((with_reducible refine Va (f := 29) rfl ?_); refine zl 8 Tryz.func29 #[.agg #[.int .i64 a0_0, .slice A0_1 l0_1.length c0_1]] ?_; (with_reducible refine (qf.calls k a0_0 _ _ l0_1 t509 _ ?side1 ?side2 A4.out).mono ?_); (case side1 => exact zQ (Kd.C_below HR0_1.out HB.out)); (case side2 => exact HC0_1.out); rintro e w9 ⟨v510, rfl, ho0, hb⟩; refine ⟨_, rfl, ?_⟩; have HO511 := qa.mk (Kd.V_lower (Kd.V_mono (ok' := fun k_ => k_ ≠ gb507) ho0 (fun k_ hk_ => (Kd.freshB (g := gb507) (o := .cells #[.int .i64 a0_0, .slice A0_1 l0_1.length c0_1] 24 (0, 0)) (zb BK507.out) k_ hk_))) (Ua (zh HB.out))); replace BK507 := zK BK507 hb; replace HB := zH hb HB; clear hb; (try clear ho0); obtain ⟨Ao10, co10, eo10⟩ := Kd.V_slice HO511.out; subst eo10));go_ret2
 exact ⟨zL0, zh HB.out⟩
def lexB : List Int → List Int → Bool
 | [], [] => false
 | [], _ :: _ => true
 | _ :: _, [] => false
 | x :: xs, y :: ys => if x = y then lexB xs ys else decide (x < y)
def cmpL : List Int → List Int → Int
 | [], [] => 0
 | [], _ :: _ => -1
 | _ :: _, [] => 1
 | x :: xs, y :: ys => if x = y then cmpL xs ys else if x < y then -1 else 1
theorem VC : ∀ a b, decide (cmpL a b ≥ 0) = !lexB a b
 | [], [] => rfl
 | [], _ :: _ => rfl
 | _ :: _, [] => rfl
 | x :: xs, y :: ys => by
  unfold cmpL lexB;by_cases h : x = y
  ·rw [if_pos h, if_pos h]; exact VC xs ys
  ·rw [if_neg h, if_neg h];by_cases h2 : x < y
   ·rw [if_pos h2, decide_eq_true h2]; rfl
   ·rw [if_neg h2, decide_eq_false h2]; rfl
theorem Ct (a b : List Int) : lexB [] (b.drop a.length) = decide ((a.length : Int) < (b.length : Int)) := by
 by_cases h : a.length < b.length
 ·rw [List.drop_eq_getElem_cons h, decide_eq_true (by omega)]; rfl
 ·rw [List.drop_of_length_le (by omega), decide_eq_false (by omega)]; rfl
theorem Dt (a b : List Int) (i : Nat) (h : i < a.length) (h2 : ¬ i < b.length) : lexB (a.drop i) (b.drop i) = decide ((a.length : Int) < (b.length : Int)) := by
 have hb : b.drop i = [] := List.drop_of_length_le (by omega);rw [List.drop_eq_getElem_cons h, hb, decide_eq_false (by omega)]; rfl
theorem Li : ∀ a, lexB a a = false
 | [] => rfl
 | x :: xs => by rw [lexB, if_pos rfl]; exact Li xs
theorem Sj : ∀ a b c, lexB a b = true → lexB b c = true → lexB a c = true
 | [], [], _, h, _ => by cases h
 | [], _ :: _, [], _, h => by cases h
 | [], _ :: _, _ :: _, _, _ => rfl
 | _ :: _, [], _, h, _ => by cases h
 | _ :: _, _ :: _, [], _, h => by cases h
 | x :: xs, y :: ys, z :: zs, h1, h2 => by
  rw [lexB] at h1 h2 ⊢;by_cases e1 : x = y
  ·subst e1;rw [if_pos rfl] at h1;by_cases e2 : x = z
   ·subst e2;rw [if_pos rfl] at h2 ⊢;exact Sj xs ys zs h1 h2
   ·rw [if_neg e2] at h2 ⊢; exact h2
  ·rw [if_neg e1, decide_eq_true_eq] at h1;by_cases e2 : y = z
   ·subst e2;rw [if_neg e1, decide_eq_true_eq]; exact h1
   ·rw [if_neg e2, decide_eq_true_eq] at h2;rw [if_neg (by omega), decide_eq_true_eq]; omega
theorem Pj : ∀ a b, lexB a b = false → lexB b a = false → a = b
 | [], [], _, _ => rfl
 | [], _ :: _, h, _ => by cases h
 | _ :: _, [], _, h => by cases h
 | x :: xs, y :: ys, h1, h2 => by
  rw [lexB] at h1 h2;by_cases e : x = y
  ·subst e;rw [if_pos rfl] at h1 h2;rw [Pj xs ys h1 h2]
  ·rw [if_neg e, decide_eq_false_iff_not] at h1;rw [if_neg (fun q => e q.symm), decide_eq_false_iff_not] at h2;omega
theorem Pn {a b : List Int} (h : lexB a b = true) : lexB b a = false := by
 cases h2 : lexB b a
 ·rfl
 ·have := Sj _ _ _ h h2;rw [Li] at this; cases this
theorem Pk (a b c : List Int) (h1 : lexB a b = false) (h2 : lexB b c = false) : lexB a c = false := by
 cases h3 : lexB a c
 ·rfl
 ·cases h4 : lexB b a
  ·have := Pj a b h1 h4;subst this;rw [h2] at h3; cases h3
  ·rw [Sj _ _ _ h4 h3] at h2; cases h2
theorem Qn : ∀ a b, decide (cmpL a b < 0) = lexB a b
 | [], [] => rfl
 | [], _ :: _ => rfl
 | _ :: _, [] => rfl
 | x :: xs, y :: ys => by
  unfold cmpL lexB;by_cases h : x = y
  ·rw [if_pos h, if_pos h]; exact Qn xs ys
  ·rw [if_neg h, if_neg h];by_cases h2 : x < y
   ·rw [if_pos h2, decide_eq_true h2]; rfl
   ·rw [if_neg h2, decide_eq_false h2]; rfl
theorem Xa {α : Type} {c : Prop} [Decidable c] {f g : Nat → Option α} {r : α} (h : c) (k : Ev f r) : Ev (fun n => if c then f n else g n) r := by
 simp only [if_pos h]; exact k
theorem Vb {α : Type} {c : Prop} [Decidable c] {f g : Nat → Option α} {r : α} (h : ¬ c) (k : Ev g r) : Ev (fun n => if c then f n else g n) r := by
 simp only [if_neg h]; exact k
theorem Lg {α β : Type} {x : Option α} {f : Nat → α → Option β} {a : α} {r : β} (h : x = some a) (k : Ev (fun n => f n a) r) : Ev (fun n => x.bind (f n)) r := by
 subst h; exact k
theorem Ba {α : Type} {g : Nat → Option α} {r : α} (k : Ev (fun n => g (n + 1)) r) : Ev g r := Ev.step (fun _ => rfl) k
theorem Rb {α : Type} {f : Nat → Option α} {r q : α} (h : Ev f r) (e : r = q) : Ev f q := e ▸ h
theorem Ie {α : Type} {c : Bool} {f g : Nat → Option α} {r : α} (h1 : c = true → Ev f r) (h2 : c = false → Ev g r) : Ev (fun n => if c = true then f n else g n) r := by
 cases c
 ·simpa using h2 rfl
 ·simpa using h1 rfl
theorem Mi {xs : List Int} {i : Nat} (h : i < xs.length) : rd xs (i : Int) = xs[i] := by
 unfold rd;simp [List.getD_eq_getElem?_getD, List.getElem?_eq_getElem h]
theorem Eb {i : Nat} {n : Nat} (h : i < n) (hn : n ≤ 9223372036854775807) : wrap64 ((i : Int) + 1) = ((i + 1 : Nat) : Int) := by
 unfold wrap64; omega
theorem Yq {i : Nat} {n : Nat} (h : i < n) (hn : n ≤ 9223372036854775807) : wrap64 (((i + 1 : Nat) : Int) - 1) = (i : Int) := by
 unfold wrap64; omega
theorem Jq (n : Int) (h0 : 0 ≤ n) (h1 : n < 2 ^ 62) : IntKind.i64.wrap n = n := by rw [IntKind.wrap_i64]; omega
theorem El (a b : Nat) (ha : a < 2 ^ 62) (hb : b < 2 ^ 62) : Go.bits .and .i64 (a : Int) (b : Int) = ((a &&& b : Nat) : Int) := (Go.bits_nat .i64 62 (by decide) Jq a b ha hb).1
theorem Jv (a b : Nat) (ha : a < 2 ^ 62) (hb : b < 2 ^ 62) : Go.bits .or .i64 (a : Int) (b : Int) = ((a ||| b : Nat) : Int) := (Go.bits_nat .i64 62 (by decide) Jq a b ha hb).2
theorem Vq (a n : Nat) (hn : n ≤ 64) : shr .i64 (a : Int) (n : Int) = ((a >>> n : Nat) : Int) := by
 unfold shr;rw [Int.toNat_natCast, show min n IntKind.i64.bits = n from Nat.min_eq_left hn, Nat.shiftRight_eq_div_pow];simp
theorem Oi (n : Nat) (hn : n ≤ 16) : shl .i64 1 (n : Int) = ((2 ^ n : Nat) : Int) := by
 rw [Ip (n : Int) ⟨by omega, by omega⟩, Int.toNat_natCast]; simp
theorem Wq (a : Nat) (ha : a < 2 ^ 62) : Go.bits .and .i64 (a : Int) 1 = ((a % 2 : Nat) : Int) := by
 have := El a 1 ha (by decide);rw [Nat.and_one_is_mod] at this;exact this
theorem Wy (a : Nat) : Int.tmod (a : Int) 2 = ((a % 2 : Nat) : Int) := by
 rw [Int.tmod_eq_emod_of_nonneg (by omega)]; omega
theorem yH (a i : Nat) (ha : a < 2 ^ 62) : a >>> i < 2 ^ 62 := by
 rw [Nat.shiftRight_eq_div_pow];exact Nat.lt_of_le_of_lt (Nat.div_le_self _ _) ha
def Xq (m : Nat) : Nat → Nat → List Int
 | _, 0 => []
 | i, n + 1 => if m >>> i % 2 = 1 then (i : Int) :: Xq m (i + 1) n else Xq m (i + 1) n
def Xy (m : Nat) : List Int := Xq m 0 16
theorem Dz (m i n : Nat) (h : m >>> i = 0) : Xq m i n = [] := by
 induction n generalizing i with
 | zero => rfl
 | succ n ih =>
  rw [Xq, h, if_neg (by decide)];exact ih (i + 1) (by rw [Nat.shiftRight_succ, h])
theorem Vv (m i n : Nat) : (Xq m i n).length ≤ n := by
 induction n generalizing i with
 | zero => simp [Xq]
 | succ n ih =>
  rw [Xq];split
  ·simp; exact ih _
  ·exact Nat.le_succ_of_le (ih _)
theorem Hm (m : Nat) (hm : m < 65536) : Ev (fun k => Tc.f k (m : Int)) (Xy m) := by
 unfold Tc.f;have key : ∀ (n i : Nat) (acc : List Int), i + n = 16 → acc.length ≤ i → Ev (fun k => Tc.l0 k (m : Int) acc (i : Int)) (acc ++ Xq m i n) := by
  intro n;induction n with
  | zero =>
   intro i acc hi ha;refine Ba ?_;simp only [Tc.l0, Vq m i (by omega)];refine Xa (by omega) (Vb ?_ (Rb (Ev.now acc) (by simp [Xq])));rw [show i = 16 by omega, Nat.shiftRight_eq_div_pow, Nat.div_eq_of_lt hm]; decide
  | succ n ih =>
   intro i acc hi ha;refine Ba ?_;simp only [Tc.l0, Vq m i (by omega), Wq _ (yH m i (by omega))];refine Xa (by omega) ?_;by_cases h0 : m >>> i = 0
   ·exact Vb (by rw [h0]; decide) (Rb (Ev.now acc) (by rw [Dz m i _ h0]; simp))
   ·refine Xa (Int.ofNat_lt.2 (Nat.pos_of_ne_zero h0)) ?_;rw [Eb (n := 16) (by omega) (by decide), Xq];by_cases h1 : m >>> i % 2 = 1
    ·refine Xa (by omega) (Xa (by omega) (Rb (ih (i + 1) (acc ++ [(i : Int)]) (by omega) (by simp; omega)) ?_));rw [if_pos h1]; simp
    ·refine Vb (by omega) (Rb (ih (i + 1) acc (by omega) (by omega)) ?_);rw [if_neg h1]
 exact key 16 0 [] (by omega) (by simp)
theorem Ld {R : Type} (n : Nat) (L : Nat → Nat → Option R) (v : Nat → R) (hend : Ev (fun k => L k n) (v n)) (hstep : ∀ i, i < n → Ev (fun k => L k (i + 1)) (v (i + 1)) → Ev (fun k => L k i) (v i)) :
 ∀ i, i ≤ n → Ev (fun k => L k i) (v i) := by
 have key : ∀ d i, i + d = n → Ev (fun k => L k i) (v i) := by
  intro d;induction d with
  | zero => intro i hi; rw [show i = n by omega]; exact hend
  | succ d ih => intro i hi; exact hstep i (by omega) (ih (i + 1) (by omega))
 exact fun i hi => key (n - i) i (by omega)
theorem Jl {R σ : Type} (n : Nat) (L : Nat → Nat → σ → Option R) (v : Nat → σ → R) (I : Nat → σ → Prop) (hend : ∀ s, I n s → Ev (fun k => L k n s) (v n s))
 (hstep : ∀ i s, i < n → I i s → (∀ s', I (i + 1) s' → Ev (fun k => L k (i + 1) s') (v (i + 1) s')) → Ev (fun k => L k i s) (v i s)) :
 ∀ i s, i ≤ n → I i s → Ev (fun k => L k i s) (v i s) := by
 have key : ∀ d i s, i + d = n → I i s → Ev (fun k => L k i s) (v i s) := by
  intro d;induction d with
  | zero =>
   intro i s hi h;have e : i = n := by omega
   subst e;exact hend s h
  | succ d ih => intro i s hi h; exact hstep i s (by omega) h (fun s' h' => ih (i + 1) s' (by omega) h')
 exact fun i s hi h => key (n - i) i s (by omega) h
theorem Mg {α : Type} {xs : List α} {z : α} {i : Nat} (h : i < xs.length) : xs.getD i z = xs[i] := by
 simp [List.getD_eq_getElem?_getD, List.getElem?_eq_getElem h]
theorem Uy {α : Type} (p : α → Bool) (l : List α) (i : Nat) (h : i < l.length) : (l.drop i).all p = (p l[i] && (l.drop (i + 1)).all p) := by
 rw [List.drop_eq_getElem_cons h, List.all_cons]
theorem Im {α : Type} (l : List α) : l.drop l.length = [] := by simp
theorem Uq {α : Type} (l : List α) (p : α → Bool) : (!l.any fun x => !p x) = l.all p := by
 induction l with
 | nil => rfl
 | cons x l ih => rw [List.any_cons, List.all_cons, ← ih]; cases p x <;> simp
def maskN (m : Nat) : List Int → Nat
 | [] => m
 | x :: l => maskN (m ||| 2 ^ x.toNat) l
theorem Wv (l : List Int) (hl : l.length ≤ 1152921504606) (h : ∀ x ∈ l, 0 ≤ x ∧ x ≤ 15) : Ev (fun k => Gd.f k l) (maskN 0 l : Int) ∧ Ev (fun k => Qd.f k l) (maskN 0 l : Int) := by
 unfold Gd.f Qd.f;have key : ∀ (d i m : Nat), i + d = l.length → m < 65536 → Ev (fun k => Gd.l0 k (m : Int) l (l.length : Int) (i : Int)) (maskN m (l.drop i) : Int) ∧ Ev (fun k => Qd.l0 k (m : Int) l (l.length : Int) (i : Int)) (maskN m (l.drop i) : Int) := by
  intro d;induction d with
  | zero =>
   intro i m hi hm;refine ⟨Ba ?_, Ba ?_⟩;all_goals
    simp only [Gd.l0, Qd.l0];refine Vb (by omega) (Rb (Ev.now _) ?_);rw [List.drop_of_length_le (by omega)]; rfl
  | succ d ih =>
   intro i m hi hm;have h1 : i < l.length := by omega
   have hx := h l[i] (List.getElem_mem h1);obtain ⟨q, hq⟩ := Int.eq_ofNat_of_zero_le hx.1;have hq16 : q ≤ 15 := by omega
   have hp : 2 ^ q < 65536 := Nat.pow_lt_pow_right (n := 16) (by decide) (by omega);have ih' := ih (i + 1) (m ||| 2 ^ q) (by omega) (Nat.or_lt_two_pow (n := 16) hm hp);rw [List.drop_eq_getElem_cons h1, maskN, hq, Int.toNat_natCast];refine ⟨Ba ?_, Ba ?_⟩;all_goals
    simp only [Gd.l0, Qd.l0];refine Xa (by omega) (Xa (by omega) (Xa (by omega) (Xa (by rw [Mi h1]; omega) ?_)));rw [Mi h1, hq, Oi q (by omega), Jv m (2 ^ q) (by omega) (by omega), Eb h1 (by omega)]
   ·exact ih'.1
   ·exact ih'.2
 exact key l.length 0 0 (by omega) (by decide)
def Ch : Option Int → List Int → Bool
 | _, [] => true
 | p, x :: l => (match p with | none => true | some y => decide (y < x)) && Ch (some x) l
def PI (l : List Int) : Bool := Ch none l
def Ji (l : List Int) (n : Int) : Bool := l.all (inB · 0 (n - 1)) && PI l
def prev (l : List Int) : Nat → Option Int
 | 0 => none
 | i + 1 => l[i]?
theorem Gq (l : List Int) (hl : l.length ≤ 9223372036854775807) : Ev (fun k => Bc.f k l) (PI l) := by
 unfold Bc.f;have key : ∀ (d i : Nat), i + d = l.length → Ev (fun k => Bc.l0 k l (l.length : Int) (i : Int)) (Ch (prev l i) (l.drop i)) := by
  intro d;induction d with
  | zero =>
   intro i hi;refine Ba ?_;simp only [Bc.l0];refine Vb (by omega) (Rb (Ev.now _) ?_);rw [List.drop_of_length_le (by omega)]; rfl
  | succ d ih =>
   intro i hi;have h1 : i < l.length := by omega
   have ih' := ih (i + 1) (by omega);have hp : prev l (i + 1) = some l[i] := by rw [prev, List.getElem?_eq_getElem h1]
   rw [hp] at ih';refine Ba ?_;simp only [Bc.l0];refine Xa (by omega) ?_;rw [Eb h1 (by omega), List.drop_eq_getElem_cons h1];cases i with
   | zero => exact Vb (by omega) (Rb ih' (by simp [Ch, prev]))
   | succ i =>
    have h2 : i < l.length := by omega
    rw [Yq h2 (by omega), Mi h1, Mi h2];refine Xa (by omega) (Xa (by omega) (Xa (by omega) (Xa (by omega) (Xa (by omega) ?_))));have e : prev l (i + 1) = some l[i] := by rw [prev, List.getElem?_eq_getElem h2]
    rw [e, Ch];by_cases c : l[i + 1] ≤ l[i]
    ·exact Xa c (Rb (Ev.now _) (by rw [decide_eq_false (by omega)]; rfl))
    ·exact Vb c (Rb ih' (by rw [decide_eq_true (by omega)]; rfl))
 exact key l.length 0 (by omega)
theorem Iw (l : List Int) (lo hi : Int) (hl : l.length ≤ 9223372036854775807) : Ev (fun k => Hd.f k l lo hi) (l.all (inB · lo hi) && PI l) := by
 unfold Hd.f;have key : ∀ (d i : Nat), i + d = l.length → Ev (fun k => Hd.l0 k l lo hi l (l.length : Int) (i : Int)) ((l.drop i).all (inB · lo hi) && Ch (prev l i) (l.drop i)) := by
  intro d;induction d with
  | zero =>
   intro i hi;refine Ba ?_;simp only [Hd.l0];refine Vb (by omega) (Rb (Ev.now _) ?_);rw [List.drop_of_length_le (by omega)]; rfl
  | succ d ih =>
   intro i hi;have h1 : i < l.length := by omega
   have ih' := ih (i + 1) (by omega);have hp : prev l (i + 1) = some l[i] := by rw [prev, List.getElem?_eq_getElem h1]
   rw [hp] at ih';refine Ba ?_;simp only [Hd.l0, yC, Option.bind_some];refine Xa (by omega) (Xa (by omega) (Xa (by omega) ?_));rw [Eb h1 (by omega), List.drop_eq_getElem_cons h1, Mi h1, List.all_cons];refine Ie (fun hb => ?_) (fun hb => Rb (Ev.now _) (by rw [hb]; rfl));rw [hb];cases i with
   | zero => exact Vb (by omega) (Rb ih' (by simp [Ch, prev]))
   | succ i =>
    have h2 : i < l.length := by omega
    rw [Yq h2 (by omega), Mi h2];refine Xa (by omega) (Xa (by omega) (Xa (by omega) ?_));have e : prev l (i + 1) = some l[i] := by rw [prev, List.getElem?_eq_getElem h2]
    rw [e, Ch];by_cases c : l[i] ≥ l[i + 1]
    ·exact Xa c (Rb (Ev.now _) (by rw [decide_eq_false (by omega)]; simp))
    ·exact Vb c (Rb ih' (by rw [decide_eq_true (by omega)]; rfl))
 exact key l.length 0 (by omega)
theorem Gy (l : List Int) (lo hi : Int) : Fg.f l lo hi = some (l.all (inB · lo hi)) := by
 unfold Fg.f;rw [Tp (q := fun x => !inB x lo hi) (fun x _ => by unfold Xi.f; rw [Em]; rfl)];rw [Option.bind_some, Uq]
theorem VF (l : List Int) (n : Int) (hn : -1000000 ≤ n ∧ n ≤ 1000000) (hl : l.length ≤ 9223372036854775807) : Ev (fun k => Mj.f k l n) (Ji l n) := by
 unfold Mj.f Ji;rw [Uf (by omega)];simp only [Gy, Option.bind_some];refine Ie (fun hb => ?_) (fun hb => Rb (Ev.now _) (by rw [hb]; rfl));rw [hb];exact Ev.bind (Gq l hl) (Ev.now _)
theorem WF (l : List Int) (n : Int) (hn : -1000000 ≤ n ∧ n ≤ 1000000) (hl : l.length ≤ 9223372036854775807) : Ev (fun k => Ii.f k n l) (Ji l n) := by
 unfold Ii.f Ji;rw [Uf (by omega)];exact Ev.bind (Iw l 0 (n - 1) hl) (Ev.now _)
theorem Qj {l : List Int} {n : Int} (h : Ji l n = true) : ∀ x ∈ l, 0 ≤ x ∧ x ≤ n - 1 := by
 intro x hx;unfold Ji at h;rw [Bool.and_eq_true, List.all_eq_true] at h;exact Ki.1 (h.1 x hx)
theorem Hl (a b : List Int) (ha : a.length ≤ 1152921504606846976) : Ev (fun k => Ta.f k a b) (lexB a b) := by
 unfold Ta.f;have := Ld a.length (fun k i => Ta.l0 k a b (i : Int)) (fun i => lexB (a.drop i) (b.drop i)) ?_ ?_ 0 (Nat.zero_le _)
 ·simpa using this
 ·refine Ba ?_;simp only [Ta.l0];refine Vb (by omega) (Ba ?_);simp only [Ta.j1];refine Vb (by simp) (Rb (Ev.now _) ?_);rw [Im, Ct]
 ·intro i hi ih;refine Ba ?_;simp only [Ta.l0];refine Xa (by omega) (Ba ?_);simp only [Ta.j1];by_cases h2 : i < b.length
  ·refine Xa (by simp; omega) (Xa (by omega) (Xa (by omega) (Xa (by omega) ?_)));rw [Mi hi, Mi h2, Eb hi (by omega)];show Ev _ (lexB (a.drop i) (b.drop i));rw [List.drop_eq_getElem_cons hi, List.drop_eq_getElem_cons h2];unfold lexB;by_cases e : a[i] = b[i]
   ·rw [if_pos e]; exact Xa e ih
   ·rw [if_neg e]; exact Vb e (Ev.now _)
  ·refine Vb (by simp; omega) (Rb (Ev.now _) ?_);rw [Dt a b i hi h2]
theorem WC (a b : Int) : cmp_Compare_int.f a b = some (if a < b then -1 else if a > b then 1 else 0) := by
 unfold cmp_Compare_int.f cmp_isNaN_int.f;simp;repeat' split
 all_goals rfl
theorem Rn (a b : List Int) (ha : a.length ≤ 1152921504606846976) : Ev (fun k => Xb.f k a b) (cmpL a b) := by
 unfold Xb.f;have := Ld a.length (fun k i => Xb.l0 k a b a (a.length : Int) (i : Int)) (fun i => cmpL (a.drop i) (b.drop i)) ?_ ?_ 0 (Nat.zero_le _)
 ·simpa using this
 ·refine Ba ?_;simp only [Xb.l0];refine Vb (by omega) ?_;rw [Im];by_cases h : a.length < b.length
  ·rw [List.drop_eq_getElem_cons h]; exact Xa (by omega) (Ev.now _)
  ·rw [List.drop_of_length_le (by omega)]; exact Vb (by omega) (Ev.now _)
 ·intro i hi ih;refine Ba ?_;simp only [Xb.l0];refine Xa (by omega) (Xa (by omega) (Xa (by omega) ?_));by_cases h2 : i < b.length
  ·refine Vb (by omega) (Xa (by omega) ?_);simp only [Mi hi, Mi h2, Eb hi (by omega), WC, Option.bind_some];show Ev _ (cmpL (a.drop i) (b.drop i));rw [List.drop_eq_getElem_cons hi, List.drop_eq_getElem_cons h2];unfold cmpL;by_cases e : a[i] = b[i]
   ·rw [if_pos e, if_neg (by omega), if_neg (by omega)]; exact Xa rfl ih
   ·rw [if_neg e];by_cases e2 : a[i] < b[i]
    ·rw [if_pos e2, if_pos e2]; exact Vb (by decide) (Ev.now _)
    ·rw [if_neg e2, if_neg e2, if_pos (by omega)]; exact Vb (by decide) (Ev.now _)
  ·refine Xa (by omega) (Rb (Ev.now _) ?_);show 1 = cmpL (a.drop i) (b.drop i);have hb : b.drop i = [] := List.drop_of_length_le (by omega);rw [List.drop_eq_getElem_cons hi, hb]; rfl
def QI (s : Int) : List Int → Int
 | [] => s
 | y :: ys => QI (wrap64 (s + y)) ys
theorem XF (l : List Int) (hl : l.length ≤ 1152921504606846976) : Ev (fun k => Xf.f k l) (QI 0 l) := by
 unfold Xf.f;have := Jl l.length (fun k i s => Xf.l0 k s l (l.length : Int) (i : Int)) (fun i s => QI s (l.drop i)) (fun _ _ => True) ?_ ?_ 0 (0 : Int) (Nat.zero_le _) trivial
 ·simpa using this
 ·intro s _;refine Ba ?_;simp only [Xf.l0];exact Vb (by omega) (Rb (Ev.now _) (by rw [Im]; rfl))
 ·intro i s hi _ ih;refine Ba ?_;simp only [Xf.l0];refine Xa (by omega) (Xa (by omega) (Xa (by omega) ?_));rw [Mi hi, Eb hi (by omega), List.drop_eq_getElem_cons hi];exact ih _ trivial
def YH (q : Int) (l : List Int) : Bool := decide (1 ≤ l.length ∧ l.length ≤ 9) && (l.all (inB · 0 1000) && inB q 1 (QI 0 l))
theorem Ql (q : Int) (l : List Int) (hl : l.length ≤ 1152921504606846976) : Ev (fun k => Nb.f k q l) (YH q l) := by
 unfold Nb.f YH;by_cases h1 : 1 ≤ l.length
 ·refine Xa (by omega) ?_;by_cases h9 : l.length ≤ 9
  ·refine Xa (by omega) ?_;simp only [decide_eq_true (show 1 ≤ l.length ∧ l.length ≤ 9 from ⟨h1, h9⟩), Gy, Option.bind_some];refine Ie (fun h => ?_) (fun h => ?_)
   ·rw [h];simp only [Em, Option.bind_some];exact Ev.bind (XF l hl) (Ev.now _)
   ·rw [h]; exact Ev.now _
  ·exact Vb (by omega) (Rb (Ev.now _) (by rw [decide_eq_false (fun e => h9 e.2)]; rfl))
 ·exact Vb (by omega) (Rb (Ev.now _) (by rw [decide_eq_false (fun e => h1 e.1)]; rfl))
theorem Ih {xs : List (List Int)} {i : Nat} (h : i < xs.length) : Bd xs (i : Int) = xs[i] := by unfold Bd; rw [Int.toNat_natCast]; exact Mg h
section
variable {α : Type} (lt : α → α → Bool)
def Nw (x : α) : List α → List α
 | [] => [x]
 | y :: ys => if lt y x = true then y :: Nw x ys else x :: y :: ys
def Ci (l : List α) : List α := l.foldl (fun out x => Nw lt x out) []
theorem Km (x : α) : ∀ l, (Nw lt x l).Perm (x :: l)
 | [] => List.Perm.refl _
 | y :: ys => by
  unfold Nw;split
  ·exact ((Km x ys).cons y).trans (List.Perm.swap x y ys)
  ·exact List.Perm.refl _
theorem Lr : ∀ (l out : List α), (l.foldl (fun out x => Nw lt x out) out).Perm (l ++ out)
 | [], out => List.Perm.refl _
 | x :: xs, out => by
  rw [List.foldl_cons];refine (Lr xs _).trans ?_;exact ((Km lt x out).append_left xs).trans (List.perm_middle.trans (List.Perm.refl _))
theorem Hg (l : List α) : (Ci lt l).Perm l := by
 have := Lr lt l [];rwa [List.append_nil] at this
variable (htr : ∀ a b c, lt a b = true → lt b c = true → lt a c = true) (hnt : ∀ a b c, lt a b = false → lt b c = false → lt a c = false) (has : ∀ a b, lt a b = true → lt b a = false)
include hnt has
theorem Nq (x : α) : ∀ l : List α, l.Pairwise (fun a b => lt b a = false) → (Nw lt x l).Pairwise (fun a b => lt b a = false)
 | [], _ => List.pairwise_singleton _ _
 | y :: ys, h => by
  rw [List.pairwise_cons] at h;unfold Nw;split
  ·rename_i hy
   rw [List.pairwise_cons];refine ⟨fun z hz => ?_, Nq x ys h.2⟩;rcases List.mem_cons.1 ((Km lt x ys).mem_iff.1 hz) with rfl | hz
   ·exact has _ _ hy
   ·exact h.1 z hz
  ·rename_i hy
   rw [Bool.not_eq_true] at hy;rw [List.pairwise_cons];refine ⟨fun z hz => ?_, List.pairwise_cons.2 h⟩;rcases List.mem_cons.1 hz with rfl | hz
   ·exact hy
   ·exact hnt _ _ _ (h.1 z hz) hy
theorem Xo : ∀ (l out : List α), out.Pairwise (fun a b => lt b a = false) → (l.foldl (fun out x => Nw lt x out) out).Pairwise (fun a b => lt b a = false)
 | [], _, h => h
 | x :: xs, out, h => Xo xs _ (Nq lt hnt has x out h)
theorem Uo (l : List α) : (Ci lt l).Pairwise (fun a b => lt b a = false) := Xo lt hnt has l [] List.Pairwise.nil
omit hnt has in
theorem Lm (tot : ∀ a b, lt a b = false → lt b a = false → a = b) : ∀ {l1 l2 : List α}, l1.Perm l2 → l1.Pairwise (fun a b => lt b a = false) → l2.Pairwise (fun a b => lt b a = false) → l1 = l2
 | [], l2, hp, _, _ => (List.Perm.nil_eq hp)
 | x :: xs, [], hp, _, _ => by have := hp.length_eq; simp at this
 | x :: xs, y :: ys, hp, h1, h2 => by
  rw [List.pairwise_cons] at h1 h2;have hxy : x = y := by
   rcases List.mem_cons.1 (hp.mem_iff.1 (List.mem_cons_self ..)) with e | hx
   ·exact e
   ·rcases List.mem_cons.1 (hp.mem_iff.2 (List.mem_cons_self ..)) with e | hy
    ·exact e.symm
    ·exact tot _ _ (h2.1 x hx) (h1.1 y hy)
  subst hxy;rw [Lm tot ((List.perm_cons x).1 hp) h1.2 h2.2]
theorem Ko (tot : ∀ a b, lt a b = false → lt b a = false → a = b) {l t : List α} (hp : t.Perm l) (hs : t.Pairwise (fun a b => lt b a = false)) : t = Ci lt l :=
 Lm lt tot (hp.trans (Hg lt l).symm) hs (Uo lt hnt has l)
end
section
def XC : Go.Shelf.Ren := ⟨fun | 6 => 163 | 15 => 155 | 14 => 181 | 28 => 178 | 29 => 179 | 20 => 190 | 21 => 191 | 22 => 192 | 23 => 193 | 24 => 194 | 25 => 195 | 26 => 196 | 27 => 197 | 46 => 199 | 47 => 186 | 48 => 187 | 49 => 200 | 50 => 201 | 57 => 202 | n => n, fun | 22 => 22 | 24 => 35 | 25 => 128 | 3 => 3 | 39 => 158 | 0 => 0 | 53 => 175 | 55 => 177 | 4 => 4 | 46 => 169 | 45 => 168 | 50 => 28 | 5 => 5 | 9 => 9 | 66 => 181 | 70 => 185 | 76 => 192 | 77 => 96 | n => n, fun | n => n⟩
theorem qL : Go.Proofs.SlLaysF.n6 Tryz.prog XC := {
 mixed := by kernel_rfl
 f6 := ⟨Tryz.f163.name, by decide, Tryz.func163.trans (congrArg some (by kernel_rfl))⟩
 f14 := ⟨Tryz.f181.name, by decide, Tryz.func181.trans (congrArg some (by kernel_rfl))⟩
 f15 := Tryz.func155.trans (congrArg some (by kernel_rfl))
 f20 := ⟨Tryz.f190.name, by decide, Tryz.func190.trans (congrArg some (by kernel_rfl))⟩
 f21 := ⟨Tryz.f191.name, by decide, Tryz.func191.trans (congrArg some (by kernel_rfl))⟩
 f22 := ⟨Tryz.f192.name, by decide, Tryz.func192.trans (congrArg some (by kernel_rfl))⟩
 f23 := ⟨Tryz.f193.name, by decide, Tryz.func193.trans (congrArg some (by kernel_rfl))⟩
 f24 := ⟨Tryz.f194.name, by decide, Tryz.func194.trans (congrArg some (by kernel_rfl))⟩
 f25 := ⟨Tryz.f195.name, by decide, Tryz.func195.trans (congrArg some (by kernel_rfl))⟩
 f26 := ⟨Tryz.f196.name, by decide, Tryz.func196.trans (congrArg some (by kernel_rfl))⟩
 f27 := ⟨Tryz.f197.name, by decide, Tryz.func197.trans (congrArg some (by kernel_rfl))⟩
 f28 := Tryz.func178.trans (congrArg some (by kernel_rfl))
 f29 := Tryz.func179.trans (congrArg some (by kernel_rfl))
 f46 := ⟨Tryz.f199.name, by decide, Tryz.func199.trans (congrArg some (by kernel_rfl))⟩
 f47 := Tryz.func186.trans (congrArg some (by kernel_rfl))
 f48 := Tryz.func187.trans (congrArg some (by kernel_rfl))
 f49 := ⟨Tryz.f200.name, by decide, Tryz.func200.trans (congrArg some (by kernel_rfl))⟩
 f50 := ⟨Tryz.f201.name, by decide, Tryz.func201.trans (congrArg some (by kernel_rfl))⟩
 f57 := ⟨Tryz.f202.name, by decide, Tryz.func202.trans (congrArg some (by kernel_rfl))⟩
 t0 := Tryz.underlying0
 a0 := Tryz.isAgg0
 z0 := Tryz.sizeOf0
 v0 := Tryz.zeroValue0
 t3 := Tryz.underlying3
 a3 := Tryz.isAgg3
 z3 := Tryz.sizeOf3
 v3 := Tryz.zeroValue3
 t4 := Tryz.underlying4
 a4 := Tryz.isAgg4
 z4 := Tryz.sizeOf4
 v4 := Tryz.zeroValue4
 t5 := Tryz.underlying5
 a5 := Tryz.isAgg5
 z5 := Tryz.sizeOf5
 v5 := Tryz.zeroValue5
 t9 := Tryz.underlying9
 a9 := Tryz.isAgg9
 z9 := Tryz.sizeOf9
 v9 := Tryz.zeroValue9
 t22 := Tryz.underlying22
 a22 := Tryz.isAgg22
 z22 := Tryz.sizeOf22
 v22 := Tryz.zeroValue22
 a24 := Tryz.isAgg35
 z24 := Tryz.sizeOf35
 t25 := Tryz.underlying128
 a25 := Tryz.isAgg128
 z25 := Tryz.sizeOf128
 v25 := Tryz.zeroValue128
 t39 := Tryz.underlying158
 a39 := Tryz.isAgg158
 z39 := Tryz.sizeOf158
 v39 := Tryz.zeroValue158
 t45 := Tryz.underlying168
 a45 := Tryz.isAgg168
 z45 := Tryz.sizeOf168
 v45 := Tryz.zeroValue168
 t46 := Tryz.underlying169
 a46 := Tryz.isAgg169
 z46 := Tryz.sizeOf169
 v46 := Tryz.zeroValue169
 t50 := Tryz.underlying28
 a50 := Tryz.isAgg28
 z50 := Tryz.sizeOf28
 v50 := Tryz.zeroValue28
 t53 := Tryz.underlying175
 a53 := Tryz.isAgg175
 z53 := Tryz.sizeOf175
 v53 := Tryz.zeroValue175
 t55 := Tryz.underlying177
 a55 := Tryz.isAgg177
 z55 := Tryz.sizeOf177
 v55 := Tryz.zeroValue177
 t66 := Tryz.underlying181
 a66 := Tryz.isAgg181
 z66 := Tryz.sizeOf181
 v66 := Tryz.zeroValue181
 t70 := Tryz.underlying185
 a70 := Tryz.isAgg185
 z70 := Tryz.sizeOf185
 v70 := Tryz.zeroValue185
 t76 := Tryz.underlying192
 a76 := Tryz.isAgg192
 z76 := Tryz.sizeOf192
 v76 := Tryz.zeroValue192
 t77 := Tryz.underlying96
 a77 := Tryz.isAgg96
 z77 := Tryz.sizeOf96
 v77 := Tryz.zeroValue96 }
open Go.Shelf Go.Lib Go.Sort
section
variable {α : Type} [Inhabited α]
theorem holds_of_block (enc : α → Value) {w : World} {g : Nat} {cur : Array Value} {e : TypeId} {ss : List α} (hb : w.heap[g]? = some (.cells cur e (0, 0))) (ht : cur.toList.take ss.length = ss.map enc) : Holds enc w g 0 ss.toArray := by
 intro j hj;have hj' : j < ss.length := by simpa using hj
 refine ⟨?_, by simp [World.frozen?, hb]⟩;have h1 : (cur.toList.take ss.length)[j]? = (ss.map enc)[j]? := by rw [ht]
 rw [List.getElem?_take_of_lt hj'] at h1;simp only [World.cell?, hb, Nat.zero_add];simp only [Option.isSome_none, Bool.false_eq_true, if_false];rw [← Array.getElem?_toList, h1];simp [hj']
theorem heap_sorted (enc : α → Value) {w : World} {g n : Nat} {os : Array Obj} {cur : Array Value} {e : TypeId} {fr : Nat × Nat} (d : Array α) (hb : w.heap[g]? = some (.cells cur e fr)) :
 (sortWorld enc w g 0 n d os).heap[g]? = some (.cells (putCells enc 0 d cur) e fr) := by
 have hg : g < w.heap.size := (Array.getElem?_eq_some_iff.1 hb).1;unfold sortWorld;rw [Go.Sort.heap_grow_old _ _ (by simpa using hg)];simp [putRow, mapBlock, Sort.ahead, Array.getElem?_modify, hb, onCells]
theorem grownBy_sorted (enc : α → Value) {w : World} {g n : Nat} {os : Array Obj} (d : Array α) : w.grownBy (sortWorld enc w g 0 n d os) (some g) := by
 unfold sortWorld;refine ⟨rfl, rfl, rfl, by simp, fun k hk hne => ?_⟩;rw [Go.Sort.heap_grow_old _ _ (by simpa using hk)];have : g ≠ k := fun e => hne (by rw [e]);simp [putRow, mapBlock, Sort.ahead, Array.getElem?_modify, this]
theorem take_putCells (enc : α → Value) (cur : Array Value) (ts : List α) (h : ts.length ≤ cur.size) : (putCells enc 0 ts.toArray cur).toList.take ts.length = ts.map enc := by
 apply List.ext_getElem?;intro j;by_cases hj : j < ts.length
 ·rw [List.getElem?_take_of_lt hj, Array.getElem?_toList];simp [putCells, hj, show j < cur.size by omega]
 ·rw [List.getElem?_take_eq_none (by omega), List.getElem?_eq_none (by simp; omega)]
theorem ownsRow_sorted (enc : α → Value) {w : World} {base g cap n : Nat} {e : TypeId} {os : Array Obj} {cur : Array Value} {ts : List α} (hbase : base ≤ g) (hb : w.heap[g]? = some (.cells cur e (0, 0)))
 (h1 : ts.length ≤ cap) (h2 : cap ≤ maxLen) (h3 : cur.size = cap * 1) :
 (sortWorld enc w g 0 n ts.toArray os).ownsRow base e 1 (.slice (some ⟨g, 0, none⟩) ts.length cap) ts.length (ts.map enc) :=
 ⟨by simp, .inr ⟨g, cap, _, rfl, hbase, heap_sorted enc _ hb, h1, h2, by simp [putCells, h3], by rw [Nat.mul_one]; exact take_putCells enc cur ts (by omega)⟩⟩
theorem Rl {d d' : Array α} (h : PermIn 0 d.size d d') : d'.toList.Perm d.toList := by
 have h1 := h.2.2;have e1 : d.extract 0 d.size = d := by simp
 have e2 : d'.extract 0 d.size = d' := by rw [← h.1]; simp
 rw [e1, e2] at h1;exact h1
theorem Xj {lt : α → α → Bool} {d : Array α} (h : SortedIn lt 0 d.size d) : d.toList.Pairwise (fun a b => lt b a = false) := by
 rw [List.pairwise_iff_getElem];intro i j hi hj hij;have h1 := h i j (Nat.zero_le _) hij (by simpa using hj);rwa [getElem!_pos d j (by simpa using hj), getElem!_pos d i (by simpa using hi)] at h1
end
structure QS (W : World) (okq : Nat → Prop) (f : Nat → Nat) (base : Nat) where
 v : Value
 l : List Int
 j : Nat
 hM : Kd.R (Kd.int .i64) 3 W base (fun k => okq k ∧ f k = j) v l
 hl : l.length ≤ 1152921504606846976
instance {W okq f base} : Inhabited (QS W okq f base) := ⟨⟨.slice none 0 0, [], 0, Kd.R_nil _ _ _ _ _, by simp⟩⟩
def Qk.f (l : List (List Int)) : Option (List (List Int)) := if (decide (l.length < 4611686018427387904) && l.all fun x => decide (x.length ≤ 1152921504606846976)) = true then some (Ci lexB l) else none
theorem UF (W : World) (okq : Nat → Prop) (f : Nat → Nat) (base g n : Nat) (hg : ∀ k, okq k → k ≠ g) :
 CmpLays1 Tryz.prog 104 #[] (fun q : QS W okq f base => q.v) (fun x y => cmpL x.l y.l) g 0 n W := by
 intro m os dk hs x y;have hgr := grownBy_sorted (fun q : QS W okq f base => q.v) (w := W) (g := g) (n := m) (os := os) dk;generalize hw : sortWorld (fun q : QS W okq f base => q.v) W g 0 m dk os = wS at hgr;have hx := Kd.R_grown x.hM hgr (fun k hk e => hg k hk.1 (by injection e));have hy := Kd.R_grown y.hM hgr (fun k hk e => hg k hk.1 (by injection e));obtain ⟨A, c, hxv, hxl, hxC⟩ := Kd.R_reads hx;obtain ⟨B, d, hyv, hyl, hyC⟩ := Kd.R_reads hy;obtain ⟨k, hk⟩ := Rn x.l y.l x.hl;have := Xb.calls k A c x.l B d y.l _ wS hxC hxl hyC hyl (hk k (Nat.le_refl _));show Calls Tryz.prog 104 #[x.v, y.v] wS _;rw [hxv, hyv];refine this.mono ?_;rintro e w' ⟨rfl, ⟨q, rfl⟩⟩;exact ⟨rfl, q, #[], by rw [grow_empty]⟩
theorem RI {W okq f base} : SWO (ltOf (fun x y : QS W okq f base => cmpL x.l y.l)) where
 irrefl x := by unfold ltOf; rw [Qn]; exact Li _
 trans x y z h1 h2 := by unfold ltOf at *; rw [Qn] at *; exact Sj _ _ _ h1 h2
 ntrans x y z h1 h2 := by unfold ltOf at *; rw [Qn] at *; exact Pk _ _ _ h1 h2
theorem Qk.calls (l t : List (List Int)) (A : Option Addr) (c base : Nat) (ok : Nat → Prop) (w : World) (hS : Kd.S (Kd.slice 3 (Kd.int .i64)) 35 w base ok (.slice A l.length c) l) (h : Qk.f l = some t) :
 Calls Tryz.prog 163 #[.slice A l.length c, .func (.func 104) #[] #[]] w fun e w' =>
  e = .returned (.tuple #[]) ∧ Kd.S (Kd.slice 3 (Kd.int .i64)) 35 w' base ok (.slice A l.length c) t ∧ t.length = l.length ∧ w.grownBy w' (Value.slice A l.length c).ownBlock := by
 unfold Qk.f at h;split at h
 ·rename_i hall
  rw [Bool.and_eq_true, decide_eq_true_eq] at hall;obtain ⟨hsz, hall⟩ := hall;injection h with h;subst h;have hlen : (Ci lexB l).length = l.length := (Hg lexB l).length_eq;by_cases h0 : l.length = 0
  ·have hl0 := List.length_eq_zero_iff.1 h0;subst hl0;have hcon := AnyF.slices_SortFunc_none { qL with } A c (.func (.func 104) #[] #[]) w;change Calls Tryz.prog 163 _ _ _ at hcon;refine hcon.mono ?_;rintro e w' ⟨rfl, rfl⟩;exact ⟨rfl, hS, rfl, ⟨rfl, rfl, rfl, Nat.le_refl _, fun _ _ _ => rfl⟩⟩
  ·obtain ⟨f, hok, inner, ho, hr⟩ := hS;rw [List.length_zipIdx] at ho;rcases ho.2 with ⟨hv, hn⟩ | ⟨g, cap, cur, hv, hbase, hb, h1, h2, h3, h4⟩
   ·exact absurd hn h0
   ·injection hv with hA _ hc;subst hA; subst hc;have hil : inner.length = l.length := by
     have := ho.1;change inner.length = l.length * 1 at this;omega
    change cur.size = c * 1 at h3;change cur.toList.take (l.length * 1) = inner at h4;rw [Nat.mul_one] at h4;have key : ∀ j : Nat, ∃ q : QS w (fun k => ok k ∧ k ≠ g) f base, j < l.length → q.l = l.getD j [] ∧ q.j = j ∧ inner[j]? = some q.v := by
     intro j;by_cases hj : j < l.length
     ·have hp := hr.2 j _ (Kd.zip_at (List.getElem?_eq_getElem hj));obtain ⟨v, hv, hR⟩ := hp;refine ⟨⟨v, l[j], j, Kd.R_mono hR (fun k hk => ⟨⟨hk.1.1, fun e => hk.1.2 (by rw [e]; rfl)⟩, hk.2⟩), ?_⟩, fun _ => ⟨?_, rfl, ?_⟩⟩
      ·exact of_decide_eq_true (List.all_eq_true.1 hall _ (List.getElem_mem hj))
      ·rw [List.getD_eq_getElem?_getD, List.getElem?_eq_getElem hj]; rfl
      ·have hx := congrArg (fun z => z[0]?) hv;simpa [show (Kd.tag f (Kd.slice 3 (Kd.int .i64))).sz = 1 from rfl, List.getElem?_take, List.getElem?_drop] using hx
     ·exact ⟨default, fun e => absurd e hj⟩
    obtain ⟨fq, hfq⟩ := Classical.axiomOfChoice key;obtain ⟨ss, hss⟩ : ∃ ss, ss = (List.range l.length).map fq := ⟨_, rfl⟩;have hsl : ss.length = l.length := by rw [hss]; simp
    have hget : ∀ j (hj : j < ss.length), ss[j] = fq j := fun j hj => by simp [hss]
    have hinn : inner = ss.map QS.v := by
     refine List.ext_getElem? fun j => ?_;by_cases hj : j < l.length
     ·rw [(hfq j hj).2.2, List.getElem?_map, List.getElem?_eq_getElem (by omega), hget]; rfl
     ·rw [List.getElem?_eq_none (by omega), List.getElem?_eq_none (by rw [List.length_map]; omega)]
    have hsll : ss.map QS.l = l := by
     refine List.ext_getElem (by rw [List.length_map]; exact hsl) fun j h1 h2 => ?_;rw [List.getElem_map, hget, (hfq j h2).1, List.getD_eq_getElem?_getD, List.getElem?_eq_getElem h2]; rfl
    have hsj : ss.map QS.j = List.range l.length := by
     refine List.ext_getElem (by rw [List.length_map, List.length_range]; exact hsl) fun j h1 h2 => ?_;rw [List.getElem_map, hget, (hfq j (by simpa using h2)).2.1, List.getElem_range]
    have hH : Holds QS.v w g 0 ss.toArray := holds_of_block QS.v hb (by rw [hsl, h4, hinn]);have eg : ∀ args w, (callFunc 104 args).run Tryz.prog w = .ok (.enter 104 args) w := enters_of Tryz.func104 (by kernel_rfl) rfl;have hcon := Any.slices_SortFunc qL QS.v (fun q => (Kd.R_val q.hM).2) (fun x y => cmpL x.l y.l) RI 104 #[] g 0 c ss.toArray w eg (UF w _ f base g _ (fun k hk => hk.2)) hH (Array.getElem?_eq_some_iff.1 hb).1 (by simpa [hsl] using hsz);change Calls Tryz.prog 163 _ _ _ at hcon;rw [List.size_toArray, hsl] at hcon;refine hcon.mono ?_;rintro e w' ⟨rfl, d', n, os, hp, hs, rfl⟩;obtain ⟨ts, rfl⟩ : ∃ ts : List _, d' = ts.toArray := ⟨d'.toList, rfl⟩;have hgr := grownBy_sorted QS.v (w := w) (g := g) (n := n) (os := os) ts.toArray;have hperm : ts.Perm ss := Rl (d := ss.toArray) (by simpa [hsl] using hp);have htl : ts.length = l.length := by rw [hperm.length_eq, hsl]
    have hsort : ts.Pairwise (fun a b => ltOf (fun x y : QS w _ f base => cmpL x.l y.l) b a = false) := Xj (d := ts.toArray) (by simpa [htl] using hs);have ht : ts.map QS.l = Ci lexB l := by
     refine Ko lexB Pk (fun _ _ => Pn) Pj ?_ ?_
     ·rw [← hsll]; exact hperm.map QS.l
     ·rw [List.pairwise_map];refine hsort.imp fun h => ?_;unfold ltOf at h;rwa [Qn] at h
    rw [← ht];have hnd : (ts.map QS.j).Nodup := by
     refine (hperm.map QS.j).nodup_iff.2 ?_;rw [hsj]; exact List.nodup_range
    have hblk : ∀ k, (ok k ∧ k ≠ g) → some k ≠ some g := fun k hk e => hk.2 (by injection e);refine ⟨rfl, ⟨fun k => (ts.map QS.j).idxOf (f k), hok, ts.map QS.v, ?_, ?_, fun j p hj => ?_⟩, by rw [List.length_map]; exact htl, hgr⟩
    ·rw [List.length_zipIdx, List.length_map, htl];have := ownsRow_sorted QS.v (w := w) (base := base) (g := g) (cap := c) (n := n) (e := 35) (os := os) (ts := ts) hbase hb (by omega) h2 h3;rwa [htl] at this
    ·rw [List.length_map, List.length_zipIdx, List.length_map]; exact (Nat.mul_one _).symm
    ·rw [List.getElem?_zipIdx, List.getElem?_map, Nat.zero_add] at hj;obtain ⟨x, hx, rfl⟩ := Option.map_eq_some_iff.1 hj;obtain ⟨q, hq, rfl⟩ := Option.map_eq_some_iff.1 hx;obtain ⟨hjl, hqe⟩ := List.getElem?_eq_some_iff.1 hq;show ∃ v, _ ∧ _;refine ⟨q.v, ?_, ?_⟩
     ·refine List.ext_getElem? fun i => ?_;rw [show (Kd.tag (fun k => (ts.map QS.j).idxOf (f k)) (Kd.slice 3 (Kd.int .i64))).sz = 1 from rfl, Nat.mul_one];cases i with
      | zero => rw [List.getElem?_take_of_lt (by omega), List.getElem?_drop, List.getElem?_map, Nat.add_zero, hq]; rfl
      | succ i => rw [List.getElem?_eq_none (by rw [List.length_take]; omega), List.getElem?_eq_none (by simp)]
     ·refine Kd.R_mono (Kd.R_grown q.hM hgr (fun k hk => hblk k hk.1)) (fun k hk => ⟨⟨hk.1.1, ?_⟩, ?_⟩)
      ·exact fun e => hk.1.2 (by injection e)
      ·show (ts.map QS.j).idxOf (f k) = j;rw [hk.2, ← hqe, show ts[j].j = (ts.map QS.j)[j]'(by rw [List.length_map]; exact hjl) from by rw [List.getElem_map]];exact hnd.idxOf_getElem j _
 ·cases h
end
theorem Mq.pred (mask : Int) (b1 : Nat) (w : World) (h1 : w.cell? ⟨b1, 0, none⟩ = some (.int .i64 mask)) :
 Tw Tryz.prog 108 #[.pointer (some ⟨b1, 0, none⟩)] (Kd.int .i64) (fun c => c.getD 0 undef) w (fun m => some (Go.bits .and .i64 mask m == m)) := by
 intro W x c b hb hK hp;have hK1 : c = [.int .i64 x] := hK;subst hK1;show Calls Tryz.prog 108 #[.int .i64 x, .pointer (some ⟨b1, 0, none⟩)] W _;have q1 := (hb.cell (World.block_lt_of_cell? w _ h1)).trans h1;have hB := qa.mk hb;have hE := qa.mk (Option.some.inj hp);clear h1 hb hK hp;go_enter Tryz.func108, Tryz.ntmps108;go_wp2;go_ret;exact ⟨Bw hE.out, hB.out⟩
theorem Qr.pred (l : List Int) (A : Option Addr) (c b1 : Nat) (w : World) (h1 : w.cell? ⟨b1, 0, none⟩ = some (.slice A l.length c)) (hC : Kd.C (Kd.int .i64) w A l.length l) (hc : l.length ≤ c) :
 Qt Tryz.prog 106 #[] #[.pointer (some ⟨b1, 0, none⟩)] w (fun mask => Ru (fun m => some (Go.bits .and .i64 mask m == m)) l) := by
 intro W x b hb hp;show Calls Tryz.prog 106 #[.int .i64 x, .pointer (some ⟨b1, 0, none⟩)] W _;have eg : ∀ args w, (callFunc 108 args).run Tryz.prog w = .ok (.enter 108 args) w := enters_of Tryz.func108 (by kernel_rfl) rfl;have q1 := (hb.cell (World.block_lt_of_cell? w _ h1)).trans h1;have hR := qa.mk (Kd.C_below hC hb);have hE := qa.mk hp;clear h1 hb hC hp;have q2 : (W.alloc (.cells #[.int .i64 x] 3)).cell? ⟨b1, 0, none⟩ = some (.slice A l.length c) := (Below.cell ((Below.refl _ W).alloc (Nat.le_refl _) _) (World.block_lt_of_cell? W _ q1)).trans q1;go_enter Tryz.func106, Tryz.ntmps106;go_wp2_with fail;refine (Dk (fun m => some (Go.bits .and .i64 x m == m)) 108 #[.pointer (some ⟨W.heap.size, 0, none⟩)] eg A c l b _ ?_ hc ?_ hE.out).mono ?_
 ·exact Kd.C_below hR.out ((Below.refl _ W).alloc (Nat.le_refl _) _)
 ·exact Mq.pred x _ _ (by go_simp)
 ·rintro e w' ⟨rfl, hb⟩;go_wp2;go_ret;exact ⟨rfl, ((Below.refl _ W).alloc (Nat.le_refl _) _).trans (hb.mono (by simp))⟩
def Dh.f (k : Nat) (a0 : Int) (l1 : List Int) : Option (Int × List Bool) := Ka.f k a0 (fun mask => Ru (fun m => some (Go.bits .and .i64 mask m == m)) l1)
theorem Dh.calls (k : Nat) (a0 : Int) (A1 : Option Addr) (c1 : Nat) (l1 : List Int) (r1 : Int) (r2 : List Bool) (w : World) (hr1 : Kd.C (Kd.int .i64) w A1 l1.length l1) (hc1 : l1.length ≤ c1) (gb : Nat) (hcell : w.cell? ⟨gb, 0, none⟩ = some (.slice A1 l1.length c1)) (h : Dh.f k a0 l1 = some (r1, r2)) :
 Calls Tryz.prog 79 #[.int .i64 a0, .func (.func 106) #[] #[.pointer (some ⟨gb, 0, none⟩)]] w fun e w' => ∃ v1_ : Value, e = .returned (.agg #[.int .i64 r1, v1_]) ∧ Kd.R Kd.bool 4 w' w.heap.size (fun _ => True) v1_ r2 ∧ Below w.heap.size w w' :=
 Ka.calls k a0 _ 106 #[] #[.pointer (some ⟨gb, 0, none⟩)] (enters_of Tryz.func106 (by kernel_rfl) rfl) r1 r2 w (Qr.pred l1 A1 c1 gb w hcell hr1 hc1) h
end Go.Proofs.YtodchjdgpnpdcaaGreat.Q
end

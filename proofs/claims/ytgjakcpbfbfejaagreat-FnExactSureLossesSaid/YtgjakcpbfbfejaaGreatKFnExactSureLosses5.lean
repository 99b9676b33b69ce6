/- Part 5 of the proof of FnExactSureLosses: what it leans on (no condition). -/
import Derived.Test.YtgjakcpbfbfejaaGreatKFnExactSureLosses4
import Derived.Shelf.GgClosure.Gives
import Derived.Laws.CopyOwn
import Derived.Laws.Tables
import Derived.Lib.SliceRun
import Derived.Shelf.SlSortCmp.WholeK
section
namespace Go.Proofs.YtgjakcpbfbfejaaGreat.Q
open Go.RowKit Go.Proofs.YtgjakcpbfbfejaaGreatW.PrintWords Go.Proofs.YtgjakcpbfbfejaaGreatW.PrintLast Go.Proofs.YtgjakcpbfbfejaaGreatW.PrintMore
attribute [local go_sem] max2_int min2_int max_two min_two max_three min_three max_four min_four
set_option linter.unusedVariables false
set_option linter.unusedSimpArgs false
def spec_voBits.l0 : Nat → Int → List Int → Int → Int → Option (Int)
 | 0, _, _, _, _ => none
 | k + 1, x3, x6, x7, x8 => if x8 < x7 then (if 0 ≤ x8 then (if x8 < (x6.length : Int) then (if 0 ≤ (rd x6 x8) then (spec_voBits.l0 k (Go.bits .or .i64 x3 (shl .i64 1 (rd x6 x8))) x6 x7 (wrap64 (x8 + 1))) else (none)) else (none)) else (none)) else (some x3)
def spec_voBits.f (k : Nat) (l0 : List Int) : Option (Int) := spec_voBits.l0 k 0 l0 (l0.length : Int) 0
set_option maxHeartbeats 8000000 in
set_option maxRecDepth 100000 in
theorem spec_voBits.calls (k : Nat) (A0 : Option Addr) (c0 : Nat) (l0 : List Int) (r : Int) (w : World) (hr0 : Kd.C (Kd.int .i64) w A0 l0.length l0) (hc0 : l0.length ≤ c0) (h : spec_voBits.f k l0 = some r) :
  Calls Tryz.prog 129 #[.slice A0 l0.length c0] w fun e w' => e = .returned (.int .i64 r) ∧ Drawn0 w w' := by
 have HR0 := Aside0.mk hr0
 have HC0 := Aside0.mk hc0
 clear hr0 hc0
 have H : (spec_voBits.l0 k 0 l0 (l0.length : Int) 0) = some r := h
 clear h
 have H' := Aside0.mk H
 clear H
 go_enter Tryz.func129, Tryz.ntmps129
 go_wp2
 go_loopg [3, 8] k (fun kq v3 v8 w' => ∃ (x3_1 : Int) (x8_1 : Int), v3 = .int .i64 x3_1 ∧ v8 = .int .i64 x8_1 ∧ Aside0 (spec_voBits.l0 kq x3_1 l0 (l0.length : Int) x8_1 = some r) ∧ Aside0 (kq ≤ k) ∧ Drawn0 w w')
 case atStart => exact ⟨(0), (0), (by first | rfl | (simp; done) | (simp [*]; done)), (by first | rfl | (simp; done) | (simp [*]; done)), H', ⟨Nat.le_refl _⟩, by repeat (first | exact Drawn0.refl _ | apply Drawn0.step)⟩
 case round =>
  clear H'
  try clear c1
  obtain ⟨x3_1, x8_1, rfl, rfl, HA, HK1, ⟨m1, rfl⟩⟩ := hrel
  cases gk with
  | zero => exact absurd HA.out (by simp [spec_voBits.l0])
  | succ k1 =>
   have H := HA.out
   clear HA
   simp only [spec_voBits.l0] at H
   by_cases c2 : x8_1 < (l0.length : Int)
   rotate_left
   ·rw [if_neg c2] at H
    have c2b0 : decide (x8_1 < (l0.length : Int)) = false := decide_eq_false c2
    clear c2
    obtain rfl := Option.some.inj H
    go_wp2
    go_ret
    exact ⟨by first | rfl | (simp; done) | (simp [*]; done), by repeat (first | exact Drawn0.refl _ | apply Drawn0.step)⟩
   rw [if_pos c2] at H
   have c2b0 : decide (x8_1 < (l0.length : Int)) = true := decide_eq_true c2
   clear c2
   by_cases c3 : 0 ≤ x8_1
   rotate_left
   ·rw [if_neg c3] at H
    exact absurd H (by simp)
   rw [if_pos c3] at H
   have c3b0 : decide (0 ≤ x8_1) = true := decide_eq_true c3
   clear c3
   by_cases c4 : x8_1 < (l0.length : Int)
   rotate_left
   ·rw [if_neg c4] at H
    exact absurd H (by simp)
   rw [if_pos c4] at H
   have c4b0 : decide (x8_1 < (l0.length : Int)) = true := decide_eq_true c4
   clear c4
   by_cases c5 : 0 ≤ (rd l0 x8_1)
   rotate_left
   ·rw [if_neg c5] at H
    exact absurd H (by simp)
   rw [if_pos c5] at H
   have c5b0 := eq_true c5
   have c5b1 : decide (0 ≤ (rd l0 x8_1)) = true := decide_eq_true c5
   clear c5
   obtain ⟨ji6, hji6⟩ : ∃ j_ : Int, (shl .i64 1 (rd l0 x8_1)) = j_ := ⟨_, rfl⟩
   replace H : (spec_voBits.l0 k1 (Go.bits .or .i64 x3_1 (ji6)) l0 (l0.length : Int) (wrap64 (x8_1 + 1))) = some r := by first | (rw [hji6] at H; exact H) | (simp only [hji6] at H ⊢; exact H)
   have hji6_ : (IntKind.i64.wrap (1 * 2 ^ min (rd l0 x8_1).toNat 64)) = ji6 := hji6
   have hji6z : (rd l0 x8_1) ≤ 64 → (IntKind.i64.wrap (1 * 2 ^ (rd l0 x8_1).toNat)) = ji6 := shl_small hji6
   have hji6u : (IntKind.i64.wrap (2 ^ min (rd l0 x8_1).toNat 64)) = ji6 := by have h_ := hji6_; rw [Int.one_mul] at h_; exact h_
   have hji6v : (rd l0 x8_1) ≤ 64 → (IntKind.i64.wrap (2 ^ (rd l0 x8_1).toNat)) = ji6 := fun hle_ => by have h_ := hji6z hle_; rw [Int.one_mul] at h_; exact h_
   have hji6y : (wrap64 (1 * 2 ^ min (rd l0 x8_1).toNat 64)) = ji6 := (i64_w _).symm.trans hji6_
   have hji6x : (rd l0 x8_1) ≤ 64 → (wrap64 (1 * 2 ^ (rd l0 x8_1).toNat)) = ji6 := fun h_ => (i64_w _).symm.trans (hji6z h_)
   have H' := Aside0.mk H
   clear H
   have p805 : 0 ≤ (x8_1 : Int) := zk
   have q805 : x8_1 < (l0.length : Int) := zk
   obtain ⟨ad805, e805, hx805_0⟩ := Kd.at_int HR0.out x8_1 p805 q805
   cases e805
   replace p805 := eq_true p805
   replace q805 := eq_true q805
   go_wp2
   go_roundg k1
   case measure => have := HK1.out; omega
   case rel => exact ⟨(Go.bits .or .i64 x3_1 (ji6)), (wrap64 (x8_1 + 1)), (by first | rfl | (simp; done) | (simp only [← hji6] <;> (first | rfl | simp)) | (simp [*]; done)), (by first | rfl | (simp; done) | (simp [*]; done)), H', ⟨by have := HK1.out; omega⟩, by repeat (first | exact Drawn0.refl _ | apply Drawn0.step)⟩
mutual
def spec_gmWins.l0 : Nat → List (List Int) → List Bool → Int → Int → Option (List Bool)
 | 0, _, _, _, _ => none
 | k + 1, x1, x5, x15, x16 => if x16 < x15 then (spec_gmWins.l1 k x1 x5 x16 x15 x16 x1 (x1.length : Int) 0) else (some x5)
def spec_gmWins.l1 : Nat → List (List Int) → List Bool → Int → Int → Int → List (List Int) → Int → Int → Option (List Bool)
 | 0, _, _, _, _, _, _, _, _ => none
 | k + 1, x1, x5, x6, x15, x16, x19, x20, x21 => if x21 < x20 then (if 0 ≤ x21 then (if x21 < (x19.length : Int) then ((spec_voBits.f k (rd_L4 x19 x21)).bind fun t811 => (if 0 ≤ x6 then (if x6 < (x5.length : Int) then (if rdOf false x5 x6 = true then (spec_gmWins.l1 k x1 (x5.set (x6 : Int).toNat true) x6 x15 x16 x19 x20 (wrap64 (x21 + 1))) else (spec_gmWins.l1 k x1 (x5.set (x6 : Int).toNat ((Go.bits .and .i64 x6 t811) == t811)) x6 x15 x16 x19 x20 (wrap64 (x21 + 1)))) else (none)) else (none))) else (none)) else (none)) else (spec_gmWins.l0 k x1 x5 x15 (wrap64 (x16 + 1)))
end
def spec_gmWins.f (k : Nat) (a0 : Int) (l1 : List (List Int)) : Option (List Bool) := (spec_voAll.f a0).bind fun t806 => (if 0 ≤ (wrap64 (t806 + 1)) then (if (wrap64 (t806 + 1) : Int).toNat ≤ 281474976710656 then ((some (List.replicate (wrap64 (t806 + 1) : Int).toNat false : List Bool)).bind fun y807 => (spec_gmWins.l0 k l1 y807 (y807.length : Int) 0)) else (none)) else (none))
set_option maxHeartbeats 8000000 in
set_option maxRecDepth 100000 in
theorem spec_gmWins.calls (k : Nat) (a0 : Int) (A1 : Option Addr) (c1 : Nat) (l1 : List (List Int)) (r : List Bool) (w : World) (hr1 : Kd.C (Kd.slice 3 (Kd.int .i64)) w A1 l1.length l1) (hc1 : l1.length ≤ c1) (h : spec_gmWins.f k a0 l1 = some r) :
  Calls Tryz.prog 113 #[.int .i64 a0, .slice A1 l1.length c1] w fun e w' => ∃ v0_ : Value, e = .returned (v0_) ∧ Kd.R Kd.bool 4 w' w.heap.size (fun _ => True) v0_ r ∧ Below w.heap.size w w' := by
 have HR1 := Aside0.mk hr1
 have HC1 := Aside0.mk hc1
 clear hr1 hc1
 have HB := Aside0.mk (Below.refl w.heap.size w)
 have H : ((spec_voAll.f a0).bind fun t806 => (if 0 ≤ (wrap64 (t806 + 1)) then (if (wrap64 (t806 + 1) : Int).toNat ≤ 281474976710656 then ((some (List.replicate (wrap64 (t806 + 1) : Int).toNat false : List Bool)).bind fun y807 => (spec_gmWins.l0 k l1 y807 (y807.length : Int) 0)) else (none)) else (none))) = some r := h
 clear h
 replace H := Option.bind_eq_some_iff.mp H
 obtain ⟨t806, A30, H⟩ := H
 replace H : (if 0 ≤ (wrap64 (t806 + 1)) then (if (wrap64 (t806 + 1) : Int).toNat ≤ 281474976710656 then ((some (List.replicate (wrap64 (t806 + 1) : Int).toNat false : List Bool)).bind fun y807 => (spec_gmWins.l0 k l1 y807 (y807.length : Int) 0)) else (none)) else (none)) = some r := H
 have A3 := Aside0.mk A30
 clear A30
 obtain ⟨ji4, hji4⟩ : ∃ j_ : Int, (wrap64 (t806 + 1)) = j_ := ⟨_, rfl⟩
 replace H : (if 0 ≤ (ji4) then (if (ji4 : Int).toNat ≤ 281474976710656 then ((some (List.replicate (ji4 : Int).toNat false : List Bool)).bind fun y807 => (spec_gmWins.l0 k l1 y807 (y807.length : Int) 0)) else (none)) else (none)) = some r := by first | (rw [hji4] at H; exact H) | (simp only [hji4] at H ⊢; exact H)
 (try rw [hji4] at A3)
 have hji4w : (IntKind.i64.wrap (t806 + 1)) = ji4 := (i64_w _).trans hji4
 by_cases c5 : 0 ≤ (ji4)
 rotate_left
 ·rw [if_neg c5] at H
  exact absurd H (by simp)
 rw [if_pos c5] at H
 have c5b0 := eq_true c5
 have c5b1 : decide (0 ≤ (ji4)) = true := decide_eq_true c5
 clear c5
 by_cases c6 : (ji4 : Int).toNat ≤ 281474976710656
 rotate_left
 ·rw [if_neg c6] at H
  exact absurd H (by simp)
 rw [if_pos c6] at H
 have c6b0 := eq_true c6
 have c6b1 : decide ((ji4 : Int).toNat ≤ 281474976710656) = true := decide_eq_true c6
 clear c6
 obtain ⟨y807, hy807⟩ : ∃ y_ : List Bool, y_ = (List.replicate (ji4 : Int).toNat false) := ⟨_, rfl⟩
 replace H : (spec_gmWins.l0 k l1 y807 (y807.length : Int) 0) = some r := by first | (rw [hy807]; with_reducible exact H) | (have H2_ := (Option.bind_some _ _).symm.trans H; rw [hy807]; with_reducible exact H2_) | (have H2_ := (Option.bind_some _ _).symm.trans H; with_reducible exact H2_) | with_reducible exact H | (rw [hy807]; exact H) | exact H
 have Ny807 := Aside0.mk hy807
 clear hy807
 have H' := Aside0.mk H
 clear H
 go_enter Tryz.func113, Tryz.ntmps113
 go_wp2_with (first | ((with_reducible refine gate_callee (f := 92) rfl ?_); refine zl 11 Tryz.func92 #[.int .i64 a0] ?_; (with_reducible refine (spec_voAll.calls a0 t806 _ A3.out).mono ?_); rintro e w' ⟨rfl, ⟨nd, rfl⟩⟩; refine ⟨_, rfl, ?_⟩) | ((with_reducible refine gate_dst (N := 13) rfl ?_); refine Kd.R_make Kd.bool _ 4 rfl (N := 13) rfl 76 _ _ rfl ji4 rfl rfl Tryz.underlying76 (.bool false) 1 info4 rfl (by decide) (by omega) false (ok := fun _ => True) (okp := fun _ => True) rfl (fun _ hk => hk) trivial (zk) (Nat.le_trans (Nat.mul_le_mul_right _ (zk : ji4.toNat ≤ 281474976710656)) (by omega)) (Below.refl _ _) (Nat.le_refl _) ?_; intro v808 w7 ho8 hb hg_ hnew_; clear hg_ hnew_; (first | rw [← Ny807.out] at ho8 | (simp only [Int.reduceToNat] at ho8; rw [← Ny807.out] at ho8)); have n0_ := Aside0.mk (Kd.R_lower ho8 (below_size (zh HB.out))); have n1_ := Aside0.mk (below_step (zh HB.out) hb); clear HB; have HO809 := n0_; have HB := n1_; clear n0_ n1_; clear hb ho8; obtain ⟨Ao9, co9, eo9⟩ := Kd.R_slice HO809.out; subst eo9))
 go_loopg [16] k (fun kq v16 w' => ∃ (x5_1 : List Bool) (x16_1 : Int), v16 = .int .i64 x16_1 ∧ Aside0 (spec_gmWins.l0 kq l1 x5_1 (y807.length : Int) x16_1 = some r) ∧ Aside0 (kq ≤ k) ∧ Aside0 (Kd.R Kd.bool 4 w' w.heap.size (fun _ => True) (.slice Ao9 y807.length co9) x5_1) ∧ Aside0 (Below w.heap.size w w'))
 case atStart => exact ⟨(y807), (0), (by first | rfl | (simp; done) | (simp [*]; done)), H', ⟨Nat.le_refl _⟩, ⟨zr HO809.out⟩, ⟨zh HB.out⟩⟩
 case round =>
  clear H'
  try clear c1
  try clear p2
  try clear c5
  try clear c5b0
  try clear c5b1
  try clear c6
  try clear c6b0
  try clear c6b1
  try clear p6
  try clear c9
  obtain ⟨x5_1, x16_1, rfl, HA, HK1, HO_5, HB⟩ := hrel
  have hl5_1 := (Kd.R_reads' HO_5.out).1
  rw [hl5_1] at HO_5
  (try simp only [hl5_1])
  cases gk with
  | zero => exact absurd HA.out (by simp [spec_gmWins.l0])
  | succ k1 =>
   have H := HA.out
   clear HA
   simp only [spec_gmWins.l0] at H
   by_cases c10 : x16_1 < (y807.length : Int)
   rotate_left
   ·rw [if_neg c10] at H
    have c10b0 : decide (x16_1 < (y807.length : Int)) = false := decide_eq_false c10
    (try simp only [hl5_2] at c10b0)
    (try simp only [hl5_1] at c10b0)
    clear c10
    obtain rfl := Option.some.inj H
    go_wp2
    go_ret
    exact ⟨_, by first | rfl | (simp [errW_none, errW_some] <;> rfl) | (simp only [← hji4]; first | rfl | (simp [errW_none, errW_some] <;> rfl)) | (simp [*, errW_none, errW_some] <;> rfl), by (with_reducible repeat (first | apply Kd.R_alloc | apply Kd.R_drewN | apply Kd.R_drew)); exact HO_5.out, zh HB.out⟩
   rw [if_pos c10] at H
   have c10b0 : decide (x16_1 < (y807.length : Int)) = true := decide_eq_true c10
   (try simp only [hl5_1] at c10b0)
   clear c10
   have H' := Aside0.mk H
   clear H
   go_wp2
   go_loopg [21] k1 (fun kq v21 w' => ∃ (x5_2 : List Bool) (x21_2 : Int), v21 = .int .i64 x21_2 ∧ Aside0 (spec_gmWins.l1 kq l1 x5_2 x16_1 (y807.length : Int) x16_1 l1 (l1.length : Int) x21_2 = some r) ∧ Aside0 (kq ≤ k1) ∧ Aside0 (Kd.R Kd.bool 4 w' w.heap.size (fun _ => True) (.slice Ao9 x5_1.length co9) x5_2) ∧ Aside0 (Below w.heap.size w w'))
   case atStart => exact ⟨(x5_1), (0), (by first | rfl | (simp; done) | (simp [*]; done)), H', ⟨Nat.le_refl _⟩, ⟨by (try simp only [hl5_1]); (with_reducible repeat (first | apply Kd.R_alloc | apply Kd.R_drewN | apply Kd.R_drew)); exact HO_5.out⟩, ⟨zh HB.out⟩⟩
   case round =>
    clear H'
    try clear c1
    try clear p2
    try clear c5
    try clear c5b0
    try clear c5b1
    try clear c6
    try clear c6b0
    try clear c6b1
    try clear p6
    try clear c9
    try clear c10
    try clear c10b0
    try clear p2
    try clear p6
    obtain ⟨x5_2, x21_2, rfl, HA, HK2, HO_5, HB⟩ := hrel
    have hl5_2 := (Kd.R_reads' HO_5.out).1
    rw [hl5_2] at HO_5
    (try simp only [hl5_2])
    cases gk with
    | zero => exact absurd HA.out (by simp [spec_gmWins.l1])
    | succ k2 =>
     have H := HA.out
     clear HA
     simp only [spec_gmWins.l1] at H
     by_cases c11 : x21_2 < (l1.length : Int)
     rotate_left
     ·rw [if_neg c11] at H
      have c11b0 : decide (x21_2 < (l1.length : Int)) = false := decide_eq_false c11
      clear c11
      have H' := Aside0.mk H
      clear H
      go_wp2
      (try simp only [← hl5_1, ← hl5_2])
      go_roundg k2
      case measure => have := HK1.out; have := HK2.out; omega
      case rel => exact ⟨(x5_2), (wrap64 (x16_1 + 1)), (by first | rfl | (simp; done) | (simp [*]; done)), H', ⟨by have := HK1.out; have := HK2.out; omega⟩, ⟨by (try simp only [hl5_1]); (try simp only [hl5_2]); (with_reducible repeat (first | apply Kd.R_alloc | apply Kd.R_drewN | apply Kd.R_drew)); exact HO_5.out⟩, ⟨zh HB.out⟩⟩
     rw [if_pos c11] at H
     have c11b0 : decide (x21_2 < (l1.length : Int)) = true := decide_eq_true c11
     clear c11
     by_cases c12 : 0 ≤ x21_2
     rotate_left
     ·rw [if_neg c12] at H
      exact absurd H (by simp)
     rw [if_pos c12] at H
     have c12b0 : decide (0 ≤ x21_2) = true := decide_eq_true c12
     clear c12
     by_cases c13 : x21_2 < (l1.length : Int)
     rotate_left
     ·rw [if_neg c13] at H
      exact absurd H (by simp)
     rw [if_pos c13] at H
     have c13b0 : decide (x21_2 < (l1.length : Int)) = true := decide_eq_true c13
     clear c13
     replace H := Option.bind_eq_some_iff.mp H
     obtain ⟨t811, A140, H⟩ := H
     replace H : (if 0 ≤ x16_1 then (if x16_1 < (x5_2.length : Int) then (if rdOf false x5_2 x16_1 = true then (spec_gmWins.l1 k2 l1 (x5_2.set (x16_1 : Int).toNat true) x16_1 (y807.length : Int) x16_1 l1 (l1.length : Int) (wrap64 (x21_2 + 1))) else (spec_gmWins.l1 k2 l1 (x5_2.set (x16_1 : Int).toNat ((Go.bits .and .i64 x16_1 t811) == t811)) x16_1 (y807.length : Int) x16_1 l1 (l1.length : Int) (wrap64 (x21_2 + 1)))) else (none)) else (none)) = some r := H
     have A14 := Aside0.mk A140
     clear A140
     by_cases c15 : 0 ≤ x16_1
     rotate_left
     ·rw [if_neg c15] at H
      exact absurd H (by simp)
     rw [if_pos c15] at H
     have c15b0 : decide (0 ≤ x16_1) = true := decide_eq_true c15
     clear c15
     by_cases c16 : x16_1 < (x5_2.length : Int)
     rotate_left
     ·rw [if_neg c16] at H
      exact absurd H (by simp)
     rw [if_pos c16] at H
     have c16b0 : decide (x16_1 < (x5_2.length : Int)) = true := decide_eq_true c16
     clear c16
     obtain ⟨bq17, hbq17⟩ : ∃ b_ : Bool, b_ = (rdOf false x5_2 x16_1) := ⟨_, rfl⟩
     replace H : (if bq17 = true then (spec_gmWins.l1 k2 l1 (x5_2.set (x16_1 : Int).toNat true) x16_1 (y807.length : Int) x16_1 l1 (l1.length : Int) (wrap64 (x21_2 + 1))) else (spec_gmWins.l1 k2 l1 (x5_2.set (x16_1 : Int).toNat ((Go.bits .and .i64 x16_1 t811) == t811)) x16_1 (y807.length : Int) x16_1 l1 (l1.length : Int) (wrap64 (x21_2 + 1)))) = some r := by rw [← hbq17] at H; exact H
     have Nbq17 := Aside0.mk hbq17
     clear hbq17
     by_cases c18 : bq17 = true
     ·subst c18
      have H1 : (spec_gmWins.l1 k2 l1 (x5_2.set (x16_1 : Int).toNat true) x16_1 (y807.length : Int) x16_1 l1 (l1.length : Int) (wrap64 (x21_2 + 1))) = some r := by rw [if_pos rfl] at H; exact H
      clear H
      have H := H1
      clear H1
      obtain ⟨y813, hy813⟩ : ∃ y_ : List Bool, y_ = (x5_2.set (x16_1 : Int).toNat true) := ⟨_, rfl⟩
      replace H : (spec_gmWins.l1 k2 l1 y813 x16_1 (y807.length : Int) x16_1 l1 (l1.length : Int) (wrap64 (x21_2 + 1))) = some r := by first | (rw [hy813]; with_reducible exact H) | (have H2_ := (Option.bind_some _ _).symm.trans H; rw [hy813]; with_reducible exact H2_) | (have H2_ := (Option.bind_some _ _).symm.trans H; with_reducible exact H2_) | with_reducible exact H | (rw [hy813]; exact H) | exact H
      have Ny813 := Aside0.mk hy813
      clear hy813
      have H' := Aside0.mk H
      clear H
      have p810 : 0 ≤ (x21_2 : Int) := zk
      have q810 : x21_2 < (l1.length : Int) := zk
      obtain ⟨ad810, A810_0, c810_0, e810, hx810_0, hl810_0, hi810_0⟩ := at_L4 HR1.out x21_2 p810 q810
      cases e810
      replace hx810_0 := zx HB.out hx810_0
      have HR810_0 := Aside0.mk hi810_0
      have HC810_0 := Aside0.mk hl810_0
      clear hi810_0 hl810_0
      replace p810 := eq_true p810
      replace q810 := eq_true q810
      go_wp2_with (first | ((with_reducible refine gate_callee (f := 129) rfl ?_); refine zl 26 Tryz.func129 #[.slice A810_0 (rd_L4 l1 x21_2).length c810_0] ?_; (with_reducible refine (spec_voBits.calls k2 _ _ (rd_L4 l1 x21_2) t811 _ ?side1 ?side2 A14.out).mono ?_); (case side1 => repeat (first | exact (Kd.C_below HR810_0.out HB.out) | (with_reducible refine Kd.C_alloc ?_ _) | (with_reducible refine Kd.C_drewN ?_ _) | (with_reducible refine Kd.C_drew ?_))); (case side2 => exact HC810_0.out); rintro e w' ⟨rfl, ⟨nd, rfl⟩⟩; refine ⟨_, rfl, ?_⟩; (try (rw [drewN_self wr]; generalize hq_ : World.drewN wr _ = wr; have n0_ : Aside0 (Kd.R Kd.bool 4 wr w.heap.size (fun _ => True) (.slice Ao9 x5_2.length co9) x5_2) := ⟨by rw [← hq_]; exact (zr HO_5.out)⟩; have n1_ : Aside0 (Below w.heap.size w wr) := ⟨by rw [← hq_]; exact (zh HB.out)⟩; clear HO_5 HB hq_; have HO_5 := n0_; have HB := n1_; clear n0_ n1_)); have p812 : 0 ≤ (x16_1 : Int) := zk; have q812 : x16_1 < (x5_2.length : Int) := zk; obtain ⟨ad812, e812, hx812_0⟩ := Kd.at_bool (Kd.R_reads' HO_5.out).2.2 x16_1 p812 q812; (try rw [← Nbq17.out] at hx812_0); cases e812; replace p812 := eq_true p812; replace q812 := eq_true q812; have p19 : 0 ≤ (x16_1 : Int) := zk; have q19 : (x16_1 : Int) < ((x5_2.length : Int) : Int) := zk; obtain ⟨go19, co19, eo19, gb19, gl19, cl19, HG19⟩ := Kd.R_form HO_5.out (by omega); (first | cases eo19 | (injection eo19 with ea_ en_ ec_; (first | subst ea_ | (injection ea_ with ea_; subst ea_)); subst ec_; clear en_)); have GB19 := Aside0.mk gb19; have GG19 := Aside0.mk HG19; clear gb19 gl19 HG19; (first | simp only [add_plain] at hx812_0 | skip); obtain ⟨hx19_0, hf19_0⟩ := Kd.R_celln false HO_5.out (x16_1 : Int) p19 q19; replace p19 := eq_true p19; replace q19 := eq_true q19; obtain ⟨hy20_, hz20_⟩ := Kd.R_celln false HO_5.out (x16_1 : Int) (zk) (zk); have HP20 := Kd.R_putg HO_5.out (x16_1 : Int) true) | ((with_reducible refine gate_store (t := 4) (p := 40) rfl ?_); refine store_event (t := 4) (p := 40) (v := ?vo_w21) (w1 := (wr.setCell ⟨go19, (x16_1 : Int).toNat, none⟩ (.bool true))) ?hg ?ho ?hn ?hr ?_; (case ho => rfl); (case hg => rfl); (case hn => rfl); (case hr => first | (go_simp; done) | (go_simp; rfl)); intro w21 hw; have hg : wr.grownBy w21 (some go19) := (by rw [hw]; exact HP20.2); have hp_ : Kd.R Kd.bool 4 w21 w.heap.size (fun _ => True) (.slice (some ⟨go19, 0, none⟩) x5_2.length co9) y813 := (by rw [hw, Ny813.out]; exact HP20.1); clear HP20; have n0_ := Aside0.mk (hp_); have n1_ := Aside0.mk ((by rw [hw]; exact below_set (HB.out) GB19.out : Below w.heap.size w w21)); clear HO_5; clear HB; have HO_5 := n0_; have HB := n1_; clear n0_ n1_; clear hg hw hp_))
      (try simp only [← hl5_2])
      go_roundg k2
      case measure => have := HK1.out; have := HK2.out; omega
      case rel => exact ⟨(y813), (wrap64 (x21_2 + 1)), (by first | rfl | (simp; done) | (simp [*]; done)), H', ⟨by have := HK1.out; have := HK2.out; omega⟩, ⟨by (try simp only [hl5_1]); (try simp only [hl5_2]); (with_reducible repeat (first | apply Kd.R_alloc | apply Kd.R_drewN | apply Kd.R_drew)); exact HO_5.out⟩, ⟨zh HB.out⟩⟩
     replace c18 := Bool.eq_false_iff.mpr c18
     subst c18
     have H1 : (spec_gmWins.l1 k2 l1 (x5_2.set (x16_1 : Int).toNat ((Go.bits .and .i64 x16_1 t811) == t811)) x16_1 (y807.length : Int) x16_1 l1 (l1.length : Int) (wrap64 (x21_2 + 1))) = some r := by rw [if_neg (show ¬ (false = true) by decide)] at H; exact H
     clear H
     have H := H1
     clear H1
     obtain ⟨y814, hy814⟩ : ∃ y_ : List Bool, y_ = (x5_2.set (x16_1 : Int).toNat ((Go.bits .and .i64 x16_1 t811) == t811)) := ⟨_, rfl⟩
     replace H : (spec_gmWins.l1 k2 l1 y814 x16_1 (y807.length : Int) x16_1 l1 (l1.length : Int) (wrap64 (x21_2 + 1))) = some r := by first | (rw [hy814]; with_reducible exact H) | (have H2_ := (Option.bind_some _ _).symm.trans H; rw [hy814]; with_reducible exact H2_) | (have H2_ := (Option.bind_some _ _).symm.trans H; with_reducible exact H2_) | with_reducible exact H | (rw [hy814]; exact H) | exact H
     have Ny814 := Aside0.mk hy814
     clear hy814
     have H' := Aside0.mk H
     clear H
     have p810 : 0 ≤ (x21_2 : Int) := zk
     have q810 : x21_2 < (l1.length : Int) := zk
     obtain ⟨ad810, A810_0, c810_0, e810, hx810_0, hl810_0, hi810_0⟩ := at_L4 HR1.out x21_2 p810 q810
     cases e810
     replace hx810_0 := zx HB.out hx810_0
     have HR810_0 := Aside0.mk hi810_0
     have HC810_0 := Aside0.mk hl810_0
     clear hi810_0 hl810_0
     replace p810 := eq_true p810
     replace q810 := eq_true q810
     go_wp2_with (first | ((with_reducible refine gate_callee (f := 129) rfl ?_); refine zl 26 Tryz.func129 #[.slice A810_0 (rd_L4 l1 x21_2).length c810_0] ?_; (with_reducible refine (spec_voBits.calls k2 _ _ (rd_L4 l1 x21_2) t811 _ ?side1 ?side2 A14.out).mono ?_); (case side1 => repeat (first | exact (Kd.C_below HR810_0.out HB.out) | (with_reducible refine Kd.C_alloc ?_ _) | (with_reducible refine Kd.C_drewN ?_ _) | (with_reducible refine Kd.C_drew ?_))); (case side2 => exact HC810_0.out); rintro e w' ⟨rfl, ⟨nd, rfl⟩⟩; refine ⟨_, rfl, ?_⟩; (try (rw [drewN_self wr]; generalize hq_ : World.drewN wr _ = wr; have n0_ : Aside0 (Kd.R Kd.bool 4 wr w.heap.size (fun _ => True) (.slice Ao9 x5_2.length co9) x5_2) := ⟨by rw [← hq_]; exact (zr HO_5.out)⟩; have n1_ : Aside0 (Below w.heap.size w wr) := ⟨by rw [← hq_]; exact (zh HB.out)⟩; clear HO_5 HB hq_; have HO_5 := n0_; have HB := n1_; clear n0_ n1_)); have p812 : 0 ≤ (x16_1 : Int) := zk; have q812 : x16_1 < (x5_2.length : Int) := zk; obtain ⟨ad812, e812, hx812_0⟩ := Kd.at_bool (Kd.R_reads' HO_5.out).2.2 x16_1 p812 q812; (try rw [← Nbq17.out] at hx812_0); cases e812; replace p812 := eq_true p812; replace q812 := eq_true q812; have p22 : 0 ≤ (x16_1 : Int) := zk; have q22 : (x16_1 : Int) < ((x5_2.length : Int) : Int) := zk; obtain ⟨go22, co22, eo22, gb22, gl22, cl22, HG22⟩ := Kd.R_form HO_5.out (by omega); (first | cases eo22 | (injection eo22 with ea_ en_ ec_; (first | subst ea_ | (injection ea_ with ea_; subst ea_)); subst ec_; clear en_)); have GB22 := Aside0.mk gb22; have GG22 := Aside0.mk HG22; clear gb22 gl22 HG22; (first | simp only [add_plain] at hx812_0 | skip); obtain ⟨hx22_0, hf22_0⟩ := Kd.R_celln false HO_5.out (x16_1 : Int) p22 q22; replace p22 := eq_true p22; replace q22 := eq_true q22; obtain ⟨hy23_, hz23_⟩ := Kd.R_celln false HO_5.out (x16_1 : Int) (zk) (zk); have HP23 := Kd.R_putg HO_5.out (x16_1 : Int) ((Go.bits .and .i64 x16_1 t811) == t811)) | ((with_reducible refine gate_store (t := 4) (p := 40) rfl ?_); refine store_event (t := 4) (p := 40) (v := ?vo_w24) (w1 := (wr.setCell ⟨go22, (x16_1 : Int).toNat, none⟩ (.bool ((Go.bits .and .i64 x16_1 t811) == t811)))) ?hg ?ho ?hn ?hr ?_; (case ho => rfl); (case hg => rfl); (case hn => rfl); (case hr => first | (go_simp; done) | (go_simp; rfl)); intro w24 hw; have hg : wr.grownBy w24 (some go22) := (by rw [hw]; exact HP23.2); have hp_ : Kd.R Kd.bool 4 w24 w.heap.size (fun _ => True) (.slice (some ⟨go22, 0, none⟩) x5_2.length co9) y814 := (by rw [hw, Ny814.out]; exact HP23.1); clear HP23; have n0_ := Aside0.mk (hp_); have n1_ := Aside0.mk ((by rw [hw]; exact below_set (HB.out) GB22.out : Below w.heap.size w w24)); clear HO_5; clear HB; have HO_5 := n0_; have HB := n1_; clear n0_ n1_; clear hg hw hp_))
     (try simp only [← hl5_2])
     go_roundg k2
     case measure => have := HK1.out; have := HK2.out; omega
     case rel => exact ⟨(y814), (wrap64 (x21_2 + 1)), (by first | rfl | (simp; done) | (simp [*]; done)), H', ⟨by have := HK1.out; have := HK2.out; omega⟩, ⟨by (try simp only [hl5_1]); (try simp only [hl5_2]); (with_reducible repeat (first | apply Kd.R_alloc | apply Kd.R_drewN | apply Kd.R_drew)); exact HO_5.out⟩, ⟨zh HB.out⟩⟩
def spec_gmAll.f (k : Nat) (a0_0 : Int) (l0_1 : List (List Int)) : Option (List Bool) := (spec_gmWins.f k a0_0 l0_1).bind fun t816 => (some t816)
set_option maxHeartbeats 8000000 in
set_option maxRecDepth 100000 in
theorem spec_gmAll.calls (k : Nat) (a0_0 : Int) (A0_1 : Option Addr) (c0_1 : Nat) (l0_1 : List (List Int)) (r : List Bool) (w : World) (hr0_1 : Kd.C (Kd.slice 3 (Kd.int .i64)) w A0_1 l0_1.length l0_1) (hc0_1 : l0_1.length ≤ c0_1) (h : spec_gmAll.f k a0_0 l0_1 = some r) :
  Calls Tryz.prog 84 #[.agg #[.int .i64 a0_0, .slice A0_1 l0_1.length c0_1]] w fun e w' => ∃ v0_ : Value, e = .returned (v0_) ∧ Kd.R Kd.bool 4 w' w.heap.size (fun _ => True) v0_ r ∧ Below w.heap.size w w' := by
 have hu46 := Tryz.underlying46
 have HR0_1 := Aside0.mk hr0_1
 have HC0_1 := Aside0.mk hc0_1
 clear hr0_1 hc0_1
 have HB := Aside0.mk (Below.refl w.heap.size w)
 have H : ((spec_gmWins.f k a0_0 l0_1).bind fun t816 => (some t816)) = some r := h
 clear h
 replace H := Option.bind_eq_some_iff.mp H
 obtain ⟨t816, A20, H⟩ := H
 replace H : (some t816) = some r := H
 have A2 := Aside0.mk A20
 clear A20
 obtain rfl := Option.some.inj H
 go_enter Tryz.func84, Tryz.ntmps84
 go_wp2_with (first | ((with_reducible refine gate_dst (N := 1) rfl ?_); refine zq 1 #[.int .i64 a0_0, .slice A0_1 l0_1.length c0_1] 46 ?_; intro gb815 hg w3 hbox hb; have n2_ := Aside0.mk ((by rw [hg]; exact (below_size (zh HB.out)) : w.heap.size ≤ gb815)); replace HB := Aside0.mk (below_step (zh HB.out) hb); have BK815 := Aside0.mk hbox; have GW815 := n2_; have GE815 := n2_; clear n2_ hb hbox hg; have hcz4_0 : w3.cell? ⟨gb815, 0, none⟩ = some (.int .i64 a0_0) := (blk_cell BK815.out 0).trans rfl; have hcz4_1 : w3.cell? ⟨gb815, 1, none⟩ = some (.slice A0_1 l0_1.length c0_1) := (blk_cell BK815.out 1).trans rfl; have hfz4_0 := blk_frozen BK815.out 0; have hfz4_1 := blk_frozen BK815.out 1) | ((with_reducible refine gate_callee (f := 113) rfl ?_); refine zl 7 Tryz.func113 #[.int .i64 a0_0, .slice A0_1 l0_1.length c0_1] ?_; (with_reducible refine (spec_gmWins.calls k a0_0 _ _ l0_1 t816 _ ?side1 ?side2 A2.out).mono ?_); (case side1 => repeat (first | exact (Kd.C_below HR0_1.out HB.out) | (with_reducible refine Kd.C_alloc ?_ _) | (with_reducible refine Kd.C_drewN ?_ _) | (with_reducible refine Kd.C_drew ?_))); (case side2 => exact HC0_1.out); rintro e w5 ⟨v817, rfl, ho0, hb⟩; refine ⟨_, rfl, ?_⟩; have n0_ := Aside0.mk (Kd.R_lower ho0 (below_size (zh HB.out))); have n1_ := Aside0.mk (blk_below (g := gb815) (o := .cells #[.int .i64 a0_0, .slice A0_1 l0_1.length c0_1] 46 (0, 0)) (zb BK815.out) hb); have n2_ := Aside0.mk (below_step (zh HB.out) hb); clear BK815; clear HB; have HO818 := n0_; have BK815 := n1_; have HB := n2_; clear n0_ n1_ n2_; (try clear hb); (try clear hb2); (try clear hk); (try clear hi); (try clear ho0)))
 go_ret
 exact ⟨_, by first | rfl | (simp [*, errW_none, errW_some] <;> rfl), by (with_reducible repeat (first | apply Kd.R_alloc | apply Kd.R_drewN | apply Kd.R_drew)); exact HO818.out, zh HB.out⟩
mutual
def spec_pzSure.l0 : Nat → Bool → List (S46) → List Bool → Int → Int → Option ((List (List Int)) × Bool)
 | 0, _, _, _, _, _ => none
 | k + 1, x1, x6, x7, x32, x33 => if x33 < x32 then (if 0 ≤ x33 then (if x33 < (x7.length : Int) then (spec_pzSure.l0 k x1 x6 (x7.set (x33 : Int).toNat true) x32 (wrap64 (x33 + 1))) else (none)) else (none)) else (spec_pzSure.l1 k x1 x7 x6 (x6.length : Int) 0)
def spec_pzSure.l1 : Nat → Bool → List Bool → List (S46) → Int → Int → Option ((List (List Int)) × Bool)
 | 0, _, _, _, _, _ => none
 | k + 1, x1, x7, x40, x41, x42 => if x42 < x41 then (if 0 ≤ x42 then (if x42 < (x40.length : Int) then ((spec_gmAll.f k ((rd_T46 x40 x42).f0) ((rd_T46 x40 x42).f1)).bind fun t830 => (spec_pzSure.l2 k x1 x7 x40 x41 x42 t830 (t830.length : Int) 0)) else (none)) else (none)) else (spec_pzSure.l3 k ([] : List (List Int)) x7 (x7.length : Int) 0)
def spec_pzSure.l2 : Nat → Bool → List Bool → List (S46) → Int → Int → List Bool → Int → Int → Option ((List (List Int)) × Bool)
 | 0, _, _, _, _, _, _, _, _ => none
 | k + 1, x1, x7, x40, x41, x42, x47, x48, x49 => if x49 < x48 then (if 0 ≤ x49 then (if x49 < (x47.length : Int) then (if x49 < (x7.length : Int) then (if rdOf false x7 x49 = true then (spec_pzSure.l2 k x1 (x7.set (x49 : Int).toNat ((rdOf false x47 x49) == x1)) x40 x41 x42 x47 x48 (wrap64 (x49 + 1))) else (spec_pzSure.l2 k x1 (x7.set (x49 : Int).toNat false) x40 x41 x42 x47 x48 (wrap64 (x49 + 1)))) else (none)) else (none)) else (none)) else (spec_pzSure.l1 k x1 x7 x40 x41 (wrap64 (x42 + 1)))
def spec_pzSure.l3 : Nat → List (List Int) → List Bool → Int → Int → Option ((List (List Int)) × Bool)
 | 0, _, _, _, _ => none
 | k + 1, x13, x68, x69, x70 => if x70 < x69 then (if 0 ≤ x70 then (if x70 < (x68.length : Int) then (if rdOf false x68 x70 = true then ((spec_voList.f k x70).bind fun t838 => (if x13.length < 5864062014805 then (spec_pzSure.l3 k (x13 ++ [t838]) x68 x69 (wrap64 (x70 + 1))) else (none))) else (spec_pzSure.l3 k x13 x68 x69 (wrap64 (x70 + 1)))) else (none)) else (none)) else ((spec_voSorted.f k x13).bind fun t844 => (some (t844, true)))
end
def spec_pzSure.f (k : Nat) (a0_0 : Int) (l0_1 : List (S72)) (a1 : Bool) : Option ((List (List Int)) × Bool) := (spec_pzGood.f k a0_0 l0_1).bind fun t820 => (if t820 = true then ((spec_pzAll.f k a0_0 l0_1).bind fun t821 => (if (t821.length : Int) = 0 then (some (([] : List (List Int)), false)) else (if 0 ≤ a0_0 then (if 0 ≤ (shl .i64 1 a0_0) then (if (shl .i64 1 a0_0 : Int).toNat ≤ 281474976710656 then ((some (List.replicate (shl .i64 1 a0_0 : Int).toNat false : List Bool)).bind fun y824 => (spec_pzSure.l0 k a1 t821 y824 (y824.length : Int) 0)) else (none)) else (none)) else (none)))) else (some (([] : List (List Int)), false)))
set_option maxHeartbeats 8000000 in
set_option maxRecDepth 100000 in
theorem spec_pzSure.calls (k : Nat) (a0_0 : Int) (A0_1 : Option Addr) (c0_1 : Nat) (l0_1 : List (S72)) (a1 : Bool) (r1 : List (List Int)) (r2 : Bool) (w : World) (hr0_1 : Kd.C k72 w A0_1 l0_1.length l0_1) (hc0_1 : l0_1.length ≤ c0_1) (h : spec_pzSure.f k a0_0 l0_1 a1 = some (r1, r2)) :
  Calls Tryz.prog 65 #[.agg #[.int .i64 a0_0, .slice A0_1 l0_1.length c0_1], .bool a1] w fun e w' => ∃ v0_ : Value, e = .returned (.tuple #[v0_, .bool r2]) ∧ Kd.V (Kd.slice 3 (Kd.int .i64)) 36 w' w.heap.size (fun k_ => (w.heap.size ≤ k_)) v0_ r1 ∧ Below w.heap.size w w' := by
 have hu30 := Tryz.underlying30
 have hu46 := Tryz.underlying46
 have HR0_1 := Aside0.mk hr0_1
 have HC0_1 := Aside0.mk hc0_1
 clear hr0_1 hc0_1
 have HB := Aside0.mk (Below.refl w.heap.size w)
 have H : ((spec_pzGood.f k a0_0 l0_1).bind fun t820 => (if t820 = true then ((spec_pzAll.f k a0_0 l0_1).bind fun t821 => (if (t821.length : Int) = 0 then (some (([] : List (List Int)), false)) else (if 0 ≤ a0_0 then (if 0 ≤ (shl .i64 1 a0_0) then (if (shl .i64 1 a0_0 : Int).toNat ≤ 281474976710656 then ((some (List.replicate (shl .i64 1 a0_0 : Int).toNat false : List Bool)).bind fun y824 => (spec_pzSure.l0 k a1 t821 y824 (y824.length : Int) 0)) else (none)) else (none)) else (none)))) else (some (([] : List (List Int)), false)))) = some (r1, r2) := h
 clear h
 replace H := Option.bind_eq_some_iff.mp H
 obtain ⟨t820, A30, H⟩ := H
 replace H : (if t820 = true then ((spec_pzAll.f k a0_0 l0_1).bind fun t821 => (if (t821.length : Int) = 0 then (some (([] : List (List Int)), false)) else (if 0 ≤ a0_0 then (if 0 ≤ (shl .i64 1 a0_0) then (if (shl .i64 1 a0_0 : Int).toNat ≤ 281474976710656 then ((some (List.replicate (shl .i64 1 a0_0 : Int).toNat false : List Bool)).bind fun y824 => (spec_pzSure.l0 k a1 t821 y824 (y824.length : Int) 0)) else (none)) else (none)) else (none)))) else (some (([] : List (List Int)), false))) = some (r1, r2) := H
 have A3 := Aside0.mk A30
 clear A30
 by_cases c4 : t820 = true
 rotate_left
 ·replace c4 := Bool.eq_false_iff.mpr c4
  subst c4
  have H1 : (some (([] : List (List Int)), false)) = some (r1, r2) := by rw [if_neg (show ¬ (false = true) by decide)] at H; exact H
  clear H
  have H := H1
  clear H1
  simp only [Option.some.injEq, Prod.mk.injEq] at H
  obtain ⟨rfl, rfl⟩ := H
  go_enter Tryz.func65, Tryz.ntmps65
  go_wp2_with (first | ((with_reducible refine gate_dst (N := 2) rfl ?_); refine zq 2 #[.int .i64 a0_0, .slice A0_1 l0_1.length c0_1] 30 ?_; intro gb819 hg w67 hbox hb; have n2_ := Aside0.mk ((by rw [hg]; exact (below_size (zh HB.out)) : w.heap.size ≤ gb819)); replace HB := Aside0.mk (below_step (zh HB.out) hb); have BK819 := Aside0.mk hbox; have GW819 := n2_; have GE819 := n2_; clear n2_ hb hbox hg; have hcz68_0 : w67.cell? ⟨gb819, 0, none⟩ = some (.int .i64 a0_0) := (blk_cell BK819.out 0).trans rfl; have hcz68_1 : w67.cell? ⟨gb819, 1, none⟩ = some (.slice A0_1 l0_1.length c0_1) := (blk_cell BK819.out 1).trans rfl; have hfz68_0 := blk_frozen BK819.out 0; have hfz68_1 := blk_frozen BK819.out 1) | ((with_reducible refine gate_callee (f := 51) rfl ?_); refine zl 17 Tryz.func51 #[.agg #[.int .i64 a0_0, .slice A0_1 l0_1.length c0_1]] ?_; (with_reducible refine (spec_pzGood.calls k a0_0 _ _ l0_1 false _ ?side1 ?side2 A3.out).mono ?_); (case side1 => repeat (first | exact (Kd.C_below HR0_1.out HB.out) | (with_reducible refine Kd.C_alloc ?_ _) | (with_reducible refine Kd.C_drewN ?_ _) | (with_reducible refine Kd.C_drew ?_))); (case side2 => exact HC0_1.out); rintro e w69 ⟨rfl, hb⟩; refine ⟨_, rfl, ?_⟩; have n0_ := Aside0.mk (blk_below (g := gb819) (o := .cells #[.int .i64 a0_0, .slice A0_1 l0_1.length c0_1] 30 (0, 0)) (zb BK819.out) hb); have n1_ := Aside0.mk (below_step (zh HB.out) hb); clear BK819; clear HB; have BK819 := n0_; have HB := n1_; clear n0_ n1_; (try clear hb); (try clear hb2); (try clear hk); (try clear hi)))
  go_ret2
  exact ⟨_, by first | rfl | (simp [*, errW_none, errW_some] <;> rfl), (Kd.V_nil _ _ _ _ _), zh HB.out⟩
 subst c4
 have H1 : ((spec_pzAll.f k a0_0 l0_1).bind fun t821 => (if (t821.length : Int) = 0 then (some (([] : List (List Int)), false)) else (if 0 ≤ a0_0 then (if 0 ≤ (shl .i64 1 a0_0) then (if (shl .i64 1 a0_0 : Int).toNat ≤ 281474976710656 then ((some (List.replicate (shl .i64 1 a0_0 : Int).toNat false : List Bool)).bind fun y824 => (spec_pzSure.l0 k a1 t821 y824 (y824.length : Int) 0)) else (none)) else (none)) else (none)))) = some (r1, r2) := by rw [if_pos rfl] at H; exact H
 clear H
 have H := H1
 clear H1
 replace H := Option.bind_eq_some_iff.mp H
 obtain ⟨t821, A50, H⟩ := H
 replace H : (if (t821.length : Int) = 0 then (some (([] : List (List Int)), false)) else (if 0 ≤ a0_0 then (if 0 ≤ (shl .i64 1 a0_0) then (if (shl .i64 1 a0_0 : Int).toNat ≤ 281474976710656 then ((some (List.replicate (shl .i64 1 a0_0 : Int).toNat false : List Bool)).bind fun y824 => (spec_pzSure.l0 k a1 t821 y824 (y824.length : Int) 0)) else (none)) else (none)) else (none))) = some (r1, r2) := H
 have A5 := Aside0.mk A50
 clear A50
 by_cases c6 : (t821.length : Int) = 0
 ·rw [if_pos c6] at H
  have c6b0 : ((t821.length : Int) == 0) = true := beq_iff_eq.mpr c6
  have c6b1 : ((t821.length : Int) != 0) = false := bne_eq_false_iff_eq.mpr c6
  clear c6
  simp only [Option.some.injEq, Prod.mk.injEq] at H
  obtain ⟨rfl, rfl⟩ := H
  go_enter Tryz.func65, Tryz.ntmps65
  go_wp2_with (first | ((with_reducible refine gate_dst (N := 2) rfl ?_); refine zq 2 #[.int .i64 a0_0, .slice A0_1 l0_1.length c0_1] 30 ?_; intro gb819 hg w7 hbox hb; have n2_ := Aside0.mk ((by rw [hg]; exact (below_size (zh HB.out)) : w.heap.size ≤ gb819)); replace HB := Aside0.mk (below_step (zh HB.out) hb); have BK819 := Aside0.mk hbox; have GW819 := n2_; have GE819 := n2_; clear n2_ hb hbox hg; have hcz8_0 : w7.cell? ⟨gb819, 0, none⟩ = some (.int .i64 a0_0) := (blk_cell BK819.out 0).trans rfl; have hcz8_1 : w7.cell? ⟨gb819, 1, none⟩ = some (.slice A0_1 l0_1.length c0_1) := (blk_cell BK819.out 1).trans rfl; have hfz8_0 := blk_frozen BK819.out 0; have hfz8_1 := blk_frozen BK819.out 1) | ((with_reducible refine gate_callee (f := 51) rfl ?_); refine zl 17 Tryz.func51 #[.agg #[.int .i64 a0_0, .slice A0_1 l0_1.length c0_1]] ?_; (with_reducible refine (spec_pzGood.calls k a0_0 _ _ l0_1 true _ ?side1 ?side2 A3.out).mono ?_); (case side1 => repeat (first | exact (Kd.C_below HR0_1.out HB.out) | (with_reducible refine Kd.C_alloc ?_ _) | (with_reducible refine Kd.C_drewN ?_ _) | (with_reducible refine Kd.C_drew ?_))); (case side2 => exact HC0_1.out); rintro e w9 ⟨rfl, hb⟩; refine ⟨_, rfl, ?_⟩; have n0_ := Aside0.mk (blk_below (g := gb819) (o := .cells #[.int .i64 a0_0, .slice A0_1 l0_1.length c0_1] 30 (0, 0)) (zb BK819.out) hb); have n1_ := Aside0.mk (below_step (zh HB.out) hb); clear BK819; clear HB; have BK819 := n0_; have HB := n1_; clear n0_ n1_; (try clear hb); (try clear hb2); (try clear hk); (try clear hi); have hcz10_0 : w9.cell? ⟨gb819, 0, none⟩ = some (.int .i64 a0_0) := (blk_cell BK819.out 0).trans rfl; have hcz10_1 : w9.cell? ⟨gb819, 1, none⟩ = some (.slice A0_1 l0_1.length c0_1) := (blk_cell BK819.out 1).trans rfl; have hfz10_0 := blk_frozen BK819.out 0; have hfz10_1 := blk_frozen BK819.out 1) | ((with_reducible refine gate_callee (f := 52) rfl ?_); refine zl 23 Tryz.func52 #[.int .i64 a0_0, .slice A0_1 l0_1.length c0_1] ?_; (with_reducible refine (spec_pzAll.calls k a0_0 _ _ l0_1 t821 _ ?side1 ?side2 A5.out).mono ?_); (case side1 => repeat (first | exact (Kd.C_below HR0_1.out HB.out) | (with_reducible refine Kd.C_alloc ?_ _) | (with_reducible refine Kd.C_drewN ?_ _) | (with_reducible refine Kd.C_drew ?_))); (case side2 => exact HC0_1.out); rintro e w11 ⟨v822, rfl, ho0, hb⟩; refine ⟨_, rfl, ?_⟩; have n0_ := Aside0.mk (Kd.V_lower (Kd.V_mono (ok' := fun k_ => (w.heap.size ≤ k_) ∧ k_ ≠ gb819) ho0 (fun k_ hk_ => ⟨(Nat.le_trans (below_size (zh HB.out)) hk_), (Kd.freshB (g := gb819) (o := .cells #[.int .i64 a0_0, .slice A0_1 l0_1.length c0_1] 30 (0, 0)) (zb BK819.out) k_ hk_)⟩)) (below_size (zh HB.out))); have n1_ := Aside0.mk (blk_below (g := gb819) (o := .cells #[.int .i64 a0_0, .slice A0_1 l0_1.length c0_1] 30 (0, 0)) (zb BK819.out) hb); have n2_ := Aside0.mk (below_step (zh HB.out) hb); clear BK819; clear HB; have HO823 := n0_; have BK819 := n1_; have HB := n2_; clear n0_ n1_ n2_; (try clear hb); (try clear hb2); (try clear hk); (try clear hi); (try clear ho0); obtain ⟨Ao12, co12, eo12⟩ := Kd.V_slice HO823.out; subst eo12))
  go_ret2
  exact ⟨_, by first | rfl | (simp [*, errW_none, errW_some] <;> rfl), (Kd.V_nil _ _ _ _ _), zh HB.out⟩
 rw [if_neg c6] at H
 have c6b0 : ((t821.length : Int) == 0) = false := beq_eq_false_iff_ne.mpr c6
 have c6b1 : ((t821.length : Int) != 0) = true := bne_iff_ne.mpr c6
 have c6b2 : ¬ (t821 = []) := fun h_ => c6 (by rw [h_]; rfl)
 by_cases c13 : 0 ≤ a0_0
 rotate_left
 ·rw [if_neg c13] at H
  exact absurd H (by simp)
 rw [if_pos c13] at H
 have c13b0 := eq_true c13
 have c13b1 : decide (0 ≤ a0_0) = true := decide_eq_true c13
 clear c13
 obtain ⟨ji14, hji14⟩ : ∃ j_ : Int, (shl .i64 1 a0_0) = j_ := ⟨_, rfl⟩
 replace H : (if 0 ≤ (ji14) then (if (ji14 : Int).toNat ≤ 281474976710656 then ((some (List.replicate (ji14 : Int).toNat false : List Bool)).bind fun y824 => (spec_pzSure.l0 k a1 t821 y824 (y824.length : Int) 0)) else (none)) else (none)) = some (r1, r2) := by first | (rw [hji14] at H; exact H) | (simp only [hji14] at H ⊢; exact H)
 (try rw [hji14] at A3)
 (try rw [hji14] at A5)
 have hji14_ : (IntKind.i64.wrap (1 * 2 ^ min a0_0.toNat 64)) = ji14 := hji14
 have hji14z : a0_0 ≤ 64 → (IntKind.i64.wrap (1 * 2 ^ a0_0.toNat)) = ji14 := shl_small hji14
 have hji14u : (IntKind.i64.wrap (2 ^ min a0_0.toNat 64)) = ji14 := by have h_ := hji14_; rw [Int.one_mul] at h_; exact h_
 have hji14v : a0_0 ≤ 64 → (IntKind.i64.wrap (2 ^ a0_0.toNat)) = ji14 := fun hle_ => by have h_ := hji14z hle_; rw [Int.one_mul] at h_; exact h_
 have hji14y : (wrap64 (1 * 2 ^ min a0_0.toNat 64)) = ji14 := (i64_w _).symm.trans hji14_
 have hji14x : a0_0 ≤ 64 → (wrap64 (1 * 2 ^ a0_0.toNat)) = ji14 := fun h_ => (i64_w _).symm.trans (hji14z h_)
 by_cases c15 : 0 ≤ (ji14)
 rotate_left
 ·rw [if_neg c15] at H
  exact absurd H (by simp)
 rw [if_pos c15] at H
 have c15b0 := eq_true c15
 have c15b1 : decide (0 ≤ (ji14)) = true := decide_eq_true c15
 clear c15
 by_cases c16 : (ji14 : Int).toNat ≤ 281474976710656
 rotate_left
 ·rw [if_neg c16] at H
  exact absurd H (by simp)
 rw [if_pos c16] at H
 have c16b0 := eq_true c16
 have c16b1 : decide ((ji14 : Int).toNat ≤ 281474976710656) = true := decide_eq_true c16
 clear c16
 obtain ⟨y824, hy824⟩ : ∃ y_ : List Bool, y_ = (List.replicate (ji14 : Int).toNat false) := ⟨_, rfl⟩
 replace H : (spec_pzSure.l0 k a1 t821 y824 (y824.length : Int) 0) = some (r1, r2) := by first | (rw [hy824]; with_reducible exact H) | (have H2_ := (Option.bind_some _ _).symm.trans H; rw [hy824]; with_reducible exact H2_) | (have H2_ := (Option.bind_some _ _).symm.trans H; with_reducible exact H2_) | with_reducible exact H | (rw [hy824]; exact H) | exact H
 have Ny824 := Aside0.mk hy824
 clear hy824
 have H' := Aside0.mk H
 clear H
 go_enter Tryz.func65, Tryz.ntmps65
 go_wp2_with (first | ((with_reducible refine gate_dst (N := 2) rfl ?_); refine zq 2 #[.int .i64 a0_0, .slice A0_1 l0_1.length c0_1] 30 ?_; intro gb819 hg w17 hbox hb; have n2_ := Aside0.mk ((by rw [hg]; exact (below_size (zh HB.out)) : w.heap.size ≤ gb819)); replace HB := Aside0.mk (below_step (zh HB.out) hb); have BK819 := Aside0.mk hbox; have GW819 := n2_; have GE819 := n2_; clear n2_ hb hbox hg; have hcz18_0 : w17.cell? ⟨gb819, 0, none⟩ = some (.int .i64 a0_0) := (blk_cell BK819.out 0).trans rfl; have hcz18_1 : w17.cell? ⟨gb819, 1, none⟩ = some (.slice A0_1 l0_1.length c0_1) := (blk_cell BK819.out 1).trans rfl; have hfz18_0 := blk_frozen BK819.out 0; have hfz18_1 := blk_frozen BK819.out 1) | ((with_reducible refine gate_callee (f := 51) rfl ?_); refine zl 17 Tryz.func51 #[.agg #[.int .i64 a0_0, .slice A0_1 l0_1.length c0_1]] ?_; (with_reducible refine (spec_pzGood.calls k a0_0 _ _ l0_1 true _ ?side1 ?side2 A3.out).mono ?_); (case side1 => repeat (first | exact (Kd.C_below HR0_1.out HB.out) | (with_reducible refine Kd.C_alloc ?_ _) | (with_reducible refine Kd.C_drewN ?_ _) | (with_reducible refine Kd.C_drew ?_))); (case side2 => exact HC0_1.out); rintro e w19 ⟨rfl, hb⟩; refine ⟨_, rfl, ?_⟩; have n0_ := Aside0.mk (blk_below (g := gb819) (o := .cells #[.int .i64 a0_0, .slice A0_1 l0_1.length c0_1] 30 (0, 0)) (zb BK819.out) hb); have n1_ := Aside0.mk (below_step (zh HB.out) hb); clear BK819; clear HB; have BK819 := n0_; have HB := n1_; clear n0_ n1_; (try clear hb); (try clear hb2); (try clear hk); (try clear hi); have hcz20_0 : w19.cell? ⟨gb819, 0, none⟩ = some (.int .i64 a0_0) := (blk_cell BK819.out 0).trans rfl; have hcz20_1 : w19.cell? ⟨gb819, 1, none⟩ = some (.slice A0_1 l0_1.length c0_1) := (blk_cell BK819.out 1).trans rfl; have hfz20_0 := blk_frozen BK819.out 0; have hfz20_1 := blk_frozen BK819.out 1) | ((with_reducible refine gate_callee (f := 52) rfl ?_); refine zl 23 Tryz.func52 #[.int .i64 a0_0, .slice A0_1 l0_1.length c0_1] ?_; (with_reducible refine (spec_pzAll.calls k a0_0 _ _ l0_1 t821 _ ?side1 ?side2 A5.out).mono ?_); (case side1 => repeat (first | exact (Kd.C_below HR0_1.out HB.out) | (with_reducible refine Kd.C_alloc ?_ _) | (with_reducible refine Kd.C_drewN ?_ _) | (with_reducible refine Kd.C_drew ?_))); (case side2 => exact HC0_1.out); rintro e w21 ⟨v822, rfl, ho0, hb⟩; refine ⟨_, rfl, ?_⟩; have n0_ := Aside0.mk (Kd.V_lower (Kd.V_mono (ok' := fun k_ => (w.heap.size ≤ k_) ∧ k_ ≠ gb819) ho0 (fun k_ hk_ => ⟨(Nat.le_trans (below_size (zh HB.out)) hk_), (Kd.freshB (g := gb819) (o := .cells #[.int .i64 a0_0, .slice A0_1 l0_1.length c0_1] 30 (0, 0)) (zb BK819.out) k_ hk_)⟩)) (below_size (zh HB.out))); have n1_ := Aside0.mk (blk_below (g := gb819) (o := .cells #[.int .i64 a0_0, .slice A0_1 l0_1.length c0_1] 30 (0, 0)) (zb BK819.out) hb); have n2_ := Aside0.mk (below_step (zh HB.out) hb); clear BK819; clear HB; have HO823 := n0_; have BK819 := n1_; have HB := n2_; clear n0_ n1_ n2_; (try clear hb); (try clear hb2); (try clear hk); (try clear hi); (try clear ho0); obtain ⟨Ao22, co22, eo22⟩ := Kd.V_slice HO823.out; subst eo22; have hcz23_0 : w21.cell? ⟨gb819, 0, none⟩ = some (.int .i64 a0_0) := (blk_cell BK819.out 0).trans rfl; have hcz23_1 : w21.cell? ⟨gb819, 1, none⟩ = some (.slice A0_1 l0_1.length c0_1) := (blk_cell BK819.out 1).trans rfl; have hfz23_0 := blk_frozen BK819.out 0; have hfz23_1 := blk_frozen BK819.out 1) | ((with_reducible refine gate_dst (N := 30) rfl ?_); refine Kd.R_make Kd.bool _ 4 rfl (N := 30) rfl 76 _ _ rfl ji14 rfl rfl Tryz.underlying76 (.bool false) 1 info4 rfl (by decide) (by omega) false (ok := fun _ => True) (okp := fun _ => True) rfl (fun _ hk => hk) trivial (zk) (Nat.le_trans (Nat.mul_le_mul_right _ (zk : ji14.toNat ≤ 281474976710656)) (by omega)) (Below.refl _ _) (Nat.le_refl _) ?_; intro v825 w24 ho25 hb hg_ hnew_; clear hg_ hnew_; (first | rw [← Ny824.out] at ho25 | (simp only [Int.reduceToNat] at ho25; rw [← Ny824.out] at ho25)); have n0_ := Aside0.mk (Kd.V_elder' (by (with_reducible repeat (first | apply Kd.V_alloc | apply Kd.V_drewN | apply Kd.V_drew)); exact HO823.out) (Kd.R_base ho25) hb); have n1_ := Aside0.mk (Kd.R_lower (Kd.R_newM (M := fun k_ => (w.heap.size ≤ k_)) ho25 (below_size (zh HB.out)) (fun k_ h_ => h_)) (below_size (zh HB.out))); have n2_ := Aside0.mk (blk_below (g := gb819) (o := .cells #[.int .i64 a0_0, .slice A0_1 l0_1.length c0_1] 30 (0, 0)) (zb BK819.out) hb); have n3_ := Aside0.mk (below_step (zh HB.out) hb); clear HO823; clear BK819; clear HB; have HO823 := n0_; have HO826 := n1_; have BK819 := n2_; have HB := n3_; clear n0_ n1_ n2_ n3_; clear hb ho25; obtain ⟨Ao26, co26, eo26⟩ := Kd.R_slice HO826.out; subst eo26))
 go_loopg [33] k (fun kq v33 w' => ∃ (x7_1 : List Bool) (x33_1 : Int), v33 = .int .i64 x33_1 ∧ Aside0 (spec_pzSure.l0 kq a1 t821 x7_1 (y824.length : Int) x33_1 = some (r1, r2)) ∧ Aside0 (kq ≤ k) ∧ Aside0 (Kd.V k46 46 w' w.heap.size (fun k_ => (w.heap.size ≤ k_) ∧ some k_ ≠ ((.slice Ao26 y824.length co26) : Value).ownBlock ∧ k_ ≠ gb819) (.slice Ao22 t821.length co22) t821) ∧ Aside0 (Kd.R Kd.bool 4 w' w.heap.size (fun k_ => (w.heap.size ≤ k_)) (.slice Ao26 y824.length co26) x7_1) ∧ Aside0 (w'.heap[gb819]? = some (.cells #[.int .i64 a0_0, (.slice A0_1 l0_1.length c0_1)] 30 (0, 0))) ∧ Aside0 (Below w.heap.size w w'))
 case atStart => exact ⟨(y824), (0), (by first | rfl | (simp; done) | (simp [*]; done)), H', ⟨Nat.le_refl _⟩, ⟨by (with_reducible repeat (first | apply Kd.V_alloc | apply Kd.V_drewN | apply Kd.V_drew)); exact Kd.V_mono HO823.out (fun _ hk => ⟨hk.1.1, ⟨hk.2, hk.1.2⟩⟩)⟩, ⟨by (with_reducible repeat (first | apply Kd.R_alloc | apply Kd.R_drewN | apply Kd.R_drew)); exact Kd.R_mono HO826.out (fun _ hk => hk.1)⟩, ⟨zb BK819.out⟩, ⟨zh HB.out⟩⟩
 case round =>
  clear H'
  try clear c1
  try clear p2
  try clear c4
  try clear c5
  try clear c6
  try clear c6b0
  try clear c6b1
  try clear c6b2
  try clear p6
  try clear c13
  try clear c13b0
  try clear c13b1
  try clear c15
  try clear c15b0
  try clear c15b1
  try clear c16
  try clear c16b0
  try clear c16b1
  try clear hcz10_0
  try clear hcz10_1
  try clear hcz18_0
  try clear hcz18_1
  try clear hcz20_0
  try clear hcz20_1
  try clear hcz23_0
  try clear hcz23_1
  try clear hcz8_0
  try clear hcz8_1
  try clear hfz10_0
  try clear hfz10_1
  try clear hfz18_0
  try clear hfz18_1
  try clear hfz20_0
  try clear hfz20_1
  try clear hfz23_0
  try clear hfz23_1
  try clear hfz8_0
  try clear hfz8_1
  obtain ⟨x7_1, x33_1, rfl, HA, HK1, HO_6, HO_7, BK819, HB⟩ := hrel
  have hl7_1 := (Kd.R_reads' HO_7.out).1
  rw [hl7_1] at HO_7
  (try simp only [hl7_1])
  (try simp only [hl7_1] at BK819)
  (try simp only [hl7_1] at HO_6)
  cases gk with
  | zero => exact absurd HA.out (by simp [spec_pzSure.l0])
  | succ k1 =>
   have H := HA.out
   clear HA
   simp only [spec_pzSure.l0] at H
   by_cases c27 : x33_1 < (y824.length : Int)
   ·rw [if_pos c27] at H
    have c27b0 : decide (x33_1 < (y824.length : Int)) = true := decide_eq_true c27
    (try simp only [hl7_1] at c27b0)
    clear c27
    by_cases c28 : 0 ≤ x33_1
    rotate_left
    ·rw [if_neg c28] at H
     exact absurd H (by simp)
    rw [if_pos c28] at H
    have c28b0 : decide (0 ≤ x33_1) = true := decide_eq_true c28
    clear c28
    by_cases c29 : x33_1 < (x7_1.length : Int)
    rotate_left
    ·rw [if_neg c29] at H
     exact absurd H (by simp)
    rw [if_pos c29] at H
    have c29b0 : decide (x33_1 < (x7_1.length : Int)) = true := decide_eq_true c29
    clear c29
    obtain ⟨y827, hy827⟩ : ∃ y_ : List Bool, y_ = (x7_1.set (x33_1 : Int).toNat true) := ⟨_, rfl⟩
    replace H : (spec_pzSure.l0 k1 a1 t821 y827 (y824.length : Int) (wrap64 (x33_1 + 1))) = some (r1, r2) := by first | (rw [hy827]; with_reducible exact H) | (have H2_ := (Option.bind_some _ _).symm.trans H; rw [hy827]; with_reducible exact H2_) | (have H2_ := (Option.bind_some _ _).symm.trans H; with_reducible exact H2_) | with_reducible exact H | (rw [hy827]; exact H) | exact H
    have Ny827 := Aside0.mk hy827
    clear hy827
    have H' := Aside0.mk H
    clear H
    have p30 : 0 ≤ (x33_1 : Int) := zk
    have q30 : (x33_1 : Int) < ((x7_1.length : Int) : Int) := zk
    obtain ⟨go30, co30, eo30, gb30, gl30, cl30, HG30⟩ := Kd.R_form HO_7.out (by omega)
    (first | cases eo30 | (injection eo30 with ea_ en_ ec_; (first | subst ea_ | (injection ea_ with ea_; subst ea_)); subst ec_; clear en_))
    have GB30 := Aside0.mk gb30
    have GG30 := Aside0.mk HG30
    clear gb30 gl30 HG30
    obtain ⟨hx30_0, hf30_0⟩ := Kd.R_celln false HO_7.out (x33_1 : Int) p30 q30
    replace p30 := eq_true p30
    replace q30 := eq_true q30
    have HP31 := Kd.R_putg HO_7.out (x33_1 : Int) true
    go_wp2_with (first | ((with_reducible refine gate_store (t := 4) (p := 38) rfl ?_); refine store_event (t := 4) (p := 38) (v := ?vo_w32) (w1 := (wr.setCell ⟨go30, (x33_1 : Int).toNat, none⟩ (.bool true))) ?hg ?ho ?hn ?hr ?_; (case ho => rfl); (case hg => rfl); (case hn => rfl); (case hr => first | (go_simp; done) | (go_simp; rfl)); intro w32 hw; have hg : wr.grownBy w32 (some go30) := (by rw [hw]; exact HP31.2); have hp_ : Kd.R Kd.bool 4 w32 w.heap.size (fun k_ => (w.heap.size ≤ k_)) (.slice (some ⟨go30, 0, none⟩) x7_1.length co26) y827 := (by rw [hw, Ny827.out]; exact HP31.1); clear HP31; have n0_ := Aside0.mk (Kd.V_afterv (v := (.slice (some ⟨go30, 0, none⟩) x7_1.length co26)) (v1 := (.slice (some ⟨go30, 0, none⟩) x7_1.length co26)) (ok := (fun k_ => (w.heap.size ≤ k_) ∧ k_ ≠ gb819)) (by (with_reducible repeat (first | apply Kd.V_alloc | apply Kd.V_drewN | apply Kd.V_drew)); exact Kd.V_mono HO_6.out (fun _ hk => ⟨⟨hk.1, hk.2.2⟩, hk.2.1⟩)) hg (.inl rfl)); have n1_ := Aside0.mk (hp_); have n2_ := Aside0.mk (blk_grown (g := gb819) (o := .cells #[.int .i64 a0_0, .slice A0_1 l0_1.length c0_1] 30 (0, 0)) (zb BK819.out) hg (Kd.R_ne HO_7.out BK819.out (by decide))); have n3_ := Aside0.mk ((by rw [hw]; exact below_set (HB.out) GB30.out : Below w.heap.size w w32)); clear HO_6; clear HO_7; clear BK819; clear HB; have HO_6 := n0_; have HO_7 := n1_; have BK819 := n2_; have HB := n3_; clear n0_ n1_ n2_ n3_; clear hg hw hp_))
    (try simp only [← hl7_1])
    go_roundg k1
    case measure => have := HK1.out; omega
    case rel => exact ⟨(y827), (wrap64 (x33_1 + 1)), (by first | rfl | (simp; done) | (simp [*]; done)), H', ⟨by have := HK1.out; omega⟩, ⟨by (try simp only [hl7_1]); (with_reducible repeat (first | apply Kd.V_alloc | apply Kd.V_drewN | apply Kd.V_drew)); exact Kd.V_mono HO_6.out (fun _ hk => ⟨hk.1.1, ⟨hk.2, hk.1.2⟩⟩)⟩, ⟨by (try simp only [hl7_1]); (with_reducible repeat (first | apply Kd.R_alloc | apply Kd.R_drewN | apply Kd.R_drew)); exact HO_7.out⟩, ⟨by (try simp only [hl7_1]); (with_reducible repeat (first | refine blk_drewN ?_ _ | refine blk_drew ?_ | refine blk_alloc ?_ _)); exact BK819.out⟩, ⟨zh HB.out⟩⟩
   rw [if_neg c27] at H
   have c27b0 : decide (x33_1 < (y824.length : Int)) = false := decide_eq_false c27
   (try simp only [hl7_1] at c27b0)
   clear c27
   have H' := Aside0.mk H
   clear H
   go_wp2
   go_loopg [42] k1 (fun kq v42 w' => ∃ (x7_2 : List Bool) (x42_2 : Int), v42 = .int .i64 x42_2 ∧ Aside0 (spec_pzSure.l1 kq a1 x7_2 t821 (t821.length : Int) x42_2 = some (r1, r2)) ∧ Aside0 (kq ≤ k1) ∧ Aside0 (Kd.R Kd.bool 4 w' w.heap.size (fun k_ => (w.heap.size ≤ k_)) (.slice Ao26 x7_1.length co26) x7_2) ∧ Aside0 (Kd.V k46 46 w' w.heap.size (fun k_ => (w.heap.size ≤ k_) ∧ some k_ ≠ ((.slice Ao26 x7_1.length co26) : Value).ownBlock ∧ k_ ≠ gb819) (.slice Ao22 t821.length co22) t821) ∧ Aside0 (w'.heap[gb819]? = some (.cells #[.int .i64 a0_0, (.slice A0_1 l0_1.length c0_1)] 30 (0, 0))) ∧ Aside0 (Below w.heap.size w w'))
   case atStart => exact ⟨(x7_1), (0), (by first | rfl | (simp; done) | (simp [*]; done)), H', ⟨Nat.le_refl _⟩, ⟨by (try simp only [hl7_1]); (with_reducible repeat (first | apply Kd.R_alloc | apply Kd.R_drewN | apply Kd.R_drew)); exact HO_7.out⟩, ⟨by (try simp only [hl7_1]); (with_reducible repeat (first | apply Kd.V_alloc | apply Kd.V_drewN | apply Kd.V_drew)); exact HO_6.out⟩, ⟨by (try simp only [hl7_1]); (with_reducible repeat (first | refine blk_drewN ?_ _ | refine blk_drew ?_ | refine blk_alloc ?_ _)); exact BK819.out⟩, ⟨zh HB.out⟩⟩
   case round =>
    clear H'
    try clear c1
    try clear c2
    try clear p2
    try clear p3
    try clear q3
    try clear hx3
    try clear hf3
    try clear c4
    try clear c5
    try clear c6
    try clear c6b0
    try clear c6b1
    try clear c6b2
    try clear p6
    try clear c13
    try clear c13b0
    try clear c13b1
    try clear c15
    try clear c15b0
    try clear c15b1
    try clear c16
    try clear c16b0
    try clear c16b1
    try clear c27
    try clear c27b0
    try clear c28
    try clear c28b0
    try clear c29
    try clear c29b0
    try clear p30
    try clear q30
    try clear hx30
    try clear hf30
    try clear hcz10_0
    try clear hcz10_1
    try clear hcz18_0
    try clear hcz18_1
    try clear hcz20_0
    try clear hcz20_1
    try clear hcz23_0
    try clear hcz23_1
    try clear hcz8_0
    try clear hcz8_1
    try clear hfz10_0
    try clear hfz10_1
    try clear hfz18_0
    try clear hfz18_1
    try clear hfz20_0
    try clear hfz20_1
    try clear hfz23_0
    try clear hfz23_1
    try clear hfz8_0
    try clear hfz8_1
    try clear hx30_0
    try clear p2
    try clear p30
    try clear p6
    try clear q30
    obtain ⟨x7_2, x42_2, rfl, HA, HK2, HO_7, HO_40, BK819, HB⟩ := hrel
    have hl7_2 := (Kd.R_reads' HO_7.out).1
    rw [hl7_2] at HO_7
    (try simp only [hl7_2])
    (try simp only [hl7_2] at BK819)
    (try simp only [hl7_2] at HO_40)
    cases gk with
    | zero => exact absurd HA.out (by simp [spec_pzSure.l1])
    | succ k2 =>
     have H := HA.out
     clear HA
     simp only [spec_pzSure.l1] at H
     by_cases c33 : x42_2 < (t821.length : Int)
     rotate_left
     ·rw [if_neg c33] at H
      have c33b0 : decide (x42_2 < (t821.length : Int)) = false := decide_eq_false c33
      clear c33
      have H' := Aside0.mk H
      clear H
      go_wp2
      go_loopg [13, 70] k2 (fun kq v13 v70 w' => ∃ (x13_3 : List (List Int)) (x70_3 : Int), v70 = .int .i64 x70_3 ∧ Aside0 (spec_pzSure.l3 kq x13_3 x7_2 (x7_2.length : Int) x70_3 = some (r1, r2)) ∧ Aside0 (kq ≤ k2) ∧ Aside0 (Kd.S (Kd.slice 3 (Kd.int .i64)) 36 w' w.heap.size (fun k_ => (w.heap.size ≤ k_)) v13 x13_3) ∧ Aside0 (Kd.R Kd.bool 4 w' w.heap.size (fun k_ => (w.heap.size ≤ k_)) (.slice Ao26 x7_2.length co26) x7_2) ∧ Aside0 (w'.heap[gb819]? = some (.cells #[.int .i64 a0_0, (.slice A0_1 l0_1.length c0_1)] 30 (0, 0))) ∧ Aside0 (Below w.heap.size w w'))
      case atStart => exact ⟨(([] : List (List Int))), (0), (by first | rfl | (simp; done) | (simp [*]; done)), H', ⟨Nat.le_refl _⟩, ⟨by (try simp only [hl7_1]); (try simp only [hl7_2]); first | exact Kd.S_nil _ _ _ _ _ | exact Kd.N_nil _ _ _ _ _ | exact Kd.V_nil _ _ _ _ _ | exact Kd.Q_nil _ _ _ _ _ | exact Kd.R_nil _ _ _ _ _⟩, ⟨by (try simp only [hl7_1]); (try simp only [hl7_2]); (with_reducible repeat (first | apply Kd.R_alloc | apply Kd.R_drewN | apply Kd.R_drew)); exact HO_7.out⟩, ⟨by (try simp only [hl7_1]); (try simp only [hl7_2]); (with_reducible repeat (first | refine blk_drewN ?_ _ | refine blk_drew ?_ | refine blk_alloc ?_ _)); exact BK819.out⟩, ⟨zh HB.out⟩⟩
      case round =>
       clear H'
       try clear c1
       try clear c2
       try clear p2
       try clear c3
       try clear p3
       try clear q3
       try clear hx3
       try clear hf3
       try clear c4
       try clear p4
       try clear q4
       try clear hx4
       try clear hf4
       try clear c5
       try clear p5
       try clear q5
       try clear hx5
       try clear hf5
       try clear c6
       try clear c6b0
       try clear c6b1
       try clear c6b2
       try clear p6
       try clear c8
       try clear p8
       try clear q8
       try clear hx8
       try clear c13
       try clear c13b0
       try clear c13b1
       try clear c15
       try clear c15b0
       try clear c15b1
       try clear c16
       try clear c16b0
       try clear c16b1
       try clear c27
       try clear c27b0
       try clear c28
       try clear c28b0
       try clear c29
       try clear c29b0
       try clear p30
       try clear q30
       try clear hx30
       try clear hf30
       try clear c33
       try clear c33b0
       try clear c34
       try clear c34b0
       try clear c35
       try clear c35b0
       try clear c38
       try clear c42
       try clear c42b0
       try clear c43
       try clear c43b0
       try clear c44
       try clear c44b0
       try clear c45
       try clear c45b0
       try clear q46
       try clear c47
       try clear p48
       try clear q48
       try clear hx48
       try clear hf48
       try clear c51
       try clear p51
       try clear q51
       try clear hx51
       try clear hf51
       try clear c52
       try clear hcz10_0
       try clear hcz10_1
       try clear hcz18_0
       try clear hcz18_1
       try clear hcz20_0
       try clear hcz20_1
       try clear hcz23_0
       try clear hcz23_1
       try clear hcz39_0
       try clear hcz39_1
       try clear hcz8_0
       try clear hcz8_1
       try clear hfz10_0
       try clear hfz10_1
       try clear hfz18_0
       try clear hfz18_1
       try clear hfz20_0
       try clear hfz20_1
       try clear hfz23_0
       try clear hfz23_1
       try clear hfz39_0
       try clear hfz39_1
       try clear hfz8_0
       try clear hfz8_1
       try clear hx30_0
       try clear hx48_0
       try clear hx51_0
       try clear hx828_0
       try clear hx828_1
       try clear hx833_0
       try clear hx834_0
       try clear p2
       try clear p3
       try clear p30
       try clear p48
       try clear p51
       try clear p6
       try clear p8
       try clear p828
       try clear p833
       try clear p834
       try clear q3
       try clear q30
       try clear q48
       try clear q51
       try clear q8
       try clear q828
       try clear q833
       try clear q834
       obtain ⟨x13_3, x70_3, rfl, HA, HK3, HO_13, HO_68, BK819, HB⟩ := hrel
       cases gk with
       | zero => exact absurd HA.out (by simp [spec_pzSure.l3])
       | succ k3 =>
        have H := HA.out
        clear HA
        simp only [spec_pzSure.l3] at H
        by_cases c54 : x70_3 < (x7_2.length : Int)
        rotate_left
        ·rw [if_neg c54] at H
         have c54b0 : decide (x70_3 < (x7_2.length : Int)) = false := decide_eq_false c54
         clear c54
         replace H := Option.bind_eq_some_iff.mp H
         obtain ⟨t844, A640, H⟩ := H
         replace H : (some (t844, true)) = some (r1, r2) := H
         have A64 := Aside0.mk A640
         clear A640
         simp only [Option.some.injEq, Prod.mk.injEq] at H
         obtain ⟨rfl, rfl⟩ := H
         obtain ⟨Ao65, co65, eo65⟩ := Kd.S_slice HO_13.out
         subst eo65
         go_wp2_with (first | ((with_reducible refine gate_callee (f := 86) rfl ?_); refine zl 83 Tryz.func86 #[.slice Ao65 x13_3.length co65] ?_; (with_reducible refine (spec_voSorted.calls k3 (fun k_ => (((w.heap.size ≤ k_) ∧ some k_ ≠ (.slice Ao26 x7_2.length co26 : Value).ownBlock) ∧ k_ ≠ gb819)) _ _ x13_3 t844 _ ?side1 A64.out).mono ?_); (case side1 => exact Kd.S_V (Kd.S_types (Kd.S_apart' (HO_13.out) (Kd.R_typed HO_68.out) (by decide)) BK819.out (by decide))); rintro e w66 ⟨v845, rfl, ho0, hb⟩; refine ⟨_, rfl, ?_⟩; have n0_ := Aside0.mk (Kd.S_below (by (with_reducible repeat (first | apply Kd.S_alloc | apply Kd.S_drewN | apply Kd.S_drew)); exact HO_13.out) hb); have n1_ := Aside0.mk (Kd.R_below (zr HO_68.out) hb); have n2_ := Aside0.mk (Kd.V_lower (Kd.V_mono (ok' := fun k_ => (w.heap.size ≤ k_) ∧ some k_ ≠ (.slice Ao26 x7_2.length co26 : Value).ownBlock ∧ k_ ≠ gb819) ho0 (fun k_ hk_ => ⟨Or.elim hk_ (fun hs_ => hs_.1.1) (fun hn_ => (Nat.le_trans (below_size (zh HB.out)) hn_)), Or.elim hk_ (fun hs_ => hs_.1.2) (fun hn_ => (Kd.fresh' (Kd.R_lt (zr HO_68.out)) k_ hn_)), Or.elim hk_ (fun hs_ => hs_.2) (fun hn_ => (Kd.freshB (g := gb819) (o := .cells #[.int .i64 a0_0, .slice A0_1 l0_1.length c0_1] 30 (0, 0)) (zb BK819.out) k_ hn_))⟩)) (below_size (zh HB.out))); have n3_ := Aside0.mk (blk_below (g := gb819) (o := .cells #[.int .i64 a0_0, .slice A0_1 l0_1.length c0_1] 30 (0, 0)) (zb BK819.out) hb); have n4_ := Aside0.mk (below_step (zh HB.out) hb); clear HO_13; clear HO_68; clear BK819; clear HB; have HO_13 := n0_; have HO_68 := n1_; have HO846 := n2_; have BK819 := n3_; have HB := n4_; clear n0_ n1_ n2_ n3_ n4_; (try clear hb); (try clear hb2); (try clear hk); (try clear hi); (try clear ho0)))
         go_ret2
         exact ⟨_, by first | rfl | (simp [errW_none, errW_some] <;> rfl) | (simp only [← hji14]; first | rfl | (simp [errW_none, errW_some] <;> rfl)) | (simp [*, errW_none, errW_some] <;> rfl), by (with_reducible repeat (first | apply Kd.V_alloc | apply Kd.V_drewN | apply Kd.V_drew)); exact Kd.V_mono HO846.out (fun _ hk => hk.1), zh HB.out⟩
        rw [if_pos c54] at H
        have c54b0 : decide (x70_3 < (x7_2.length : Int)) = true := decide_eq_true c54
        clear c54
        by_cases c55 : 0 ≤ x70_3
        rotate_left
        ·rw [if_neg c55] at H
         exact absurd H (by simp)
        rw [if_pos c55] at H
        have c55b0 : decide (0 ≤ x70_3) = true := decide_eq_true c55
        clear c55
        by_cases c56 : x70_3 < (x7_2.length : Int)
        rotate_left
        ·rw [if_neg c56] at H
         exact absurd H (by simp)
        rw [if_pos c56] at H
        have c56b0 : decide (x70_3 < (x7_2.length : Int)) = true := decide_eq_true c56
        clear c56
        obtain ⟨bq57, hbq57⟩ : ∃ b_ : Bool, b_ = (rdOf false x7_2 x70_3) := ⟨_, rfl⟩
        replace H : (if bq57 = true then ((spec_voList.f k3 x70_3).bind fun t838 => (if x13_3.length < 5864062014805 then (spec_pzSure.l3 k3 (x13_3 ++ [t838]) x7_2 (x7_2.length : Int) (wrap64 (x70_3 + 1))) else (none))) else (spec_pzSure.l3 k3 x13_3 x7_2 (x7_2.length : Int) (wrap64 (x70_3 + 1)))) = some (r1, r2) := by rw [← hbq57] at H; exact H
        have Nbq57 := Aside0.mk hbq57
        clear hbq57
        by_cases c58 : bq57 = true
        rotate_left
        ·replace c58 := Bool.eq_false_iff.mpr c58
         subst c58
         have H1 : (spec_pzSure.l3 k3 x13_3 x7_2 (x7_2.length : Int) (wrap64 (x70_3 + 1))) = some (r1, r2) := by rw [if_neg (show ¬ (false = true) by decide)] at H; exact H
         clear H
         have H := H1
         clear H1
         have H' := Aside0.mk H
         clear H
         have p837 : 0 ≤ (x70_3 : Int) := zk
         have q837 : x70_3 < (x7_2.length : Int) := zk
         obtain ⟨ad837, e837, hx837_0⟩ := Kd.at_bool (Kd.R_reads' HO_68.out).2.2 x70_3 p837 q837
         (try rw [← Nbq57.out] at hx837_0)
         cases e837
         replace p837 := eq_true p837
         replace q837 := eq_true q837
         go_wp2
         go_roundg k3
         case measure => have := HK1.out; have := HK2.out; have := HK3.out; omega
         case rel => exact ⟨(x13_3), (wrap64 (x70_3 + 1)), (by first | rfl | (simp; done) | (simp [*]; done)), H', ⟨by have := HK1.out; have := HK2.out; have := HK3.out; omega⟩, ⟨by (try simp only [hl7_1]); (try simp only [hl7_2]); (with_reducible repeat (first | apply Kd.S_alloc | apply Kd.S_drewN | apply Kd.S_drew)); exact HO_13.out⟩, ⟨by (try simp only [hl7_1]); (try simp only [hl7_2]); (with_reducible repeat (first | apply Kd.R_alloc | apply Kd.R_drewN | apply Kd.R_drew)); exact HO_68.out⟩, ⟨by (try simp only [hl7_1]); (try simp only [hl7_2]); (with_reducible repeat (first | refine blk_drewN ?_ _ | refine blk_drew ?_ | refine blk_alloc ?_ _)); exact BK819.out⟩, ⟨zh HB.out⟩⟩
        subst c58
        have H1 : ((spec_voList.f k3 x70_3).bind fun t838 => (if x13_3.length < 5864062014805 then (spec_pzSure.l3 k3 (x13_3 ++ [t838]) x7_2 (x7_2.length : Int) (wrap64 (x70_3 + 1))) else (none))) = some (r1, r2) := by rw [if_pos rfl] at H; exact H
        clear H
        have H := H1
        clear H1
        replace H := Option.bind_eq_some_iff.mp H
        obtain ⟨t838, A590, H⟩ := H
        replace H : (if x13_3.length < 5864062014805 then (spec_pzSure.l3 k3 (x13_3 ++ [t838]) x7_2 (x7_2.length : Int) (wrap64 (x70_3 + 1))) else (none)) = some (r1, r2) := H
        have A59 := Aside0.mk A590
        clear A590
        by_cases c60 : x13_3.length < 5864062014805
        rotate_left
        ·rw [if_neg c60] at H
         exact absurd H (by simp)
        rw [if_pos c60] at H
        have LMc60 := Aside0.mk c60
        clear c60
        obtain ⟨y841, hy841⟩ : ∃ y_ : List (List Int), y_ = (x13_3 ++ [t838]) := ⟨_, rfl⟩
        replace H : (spec_pzSure.l3 k3 y841 x7_2 (x7_2.length : Int) (wrap64 (x70_3 + 1))) = some (r1, r2) := by first | (rw [hy841]; with_reducible exact H) | (have H2_ := (Option.bind_some _ _).symm.trans H; rw [hy841]; with_reducible exact H2_) | (have H2_ := (Option.bind_some _ _).symm.trans H; with_reducible exact H2_) | with_reducible exact H | (rw [hy841]; exact H) | exact H
        have Ny841 := Aside0.mk hy841
        clear hy841
        have H' := Aside0.mk H
        clear H
        have p837 : 0 ≤ (x70_3 : Int) := zk
        have q837 : x70_3 < (x7_2.length : Int) := zk
        obtain ⟨ad837, e837, hx837_0⟩ := Kd.at_bool (Kd.R_reads' HO_68.out).2.2 x70_3 p837 q837
        (try rw [← Nbq57.out] at hx837_0)
        cases e837
        replace p837 := eq_true p837
        replace q837 := eq_true q837
        go_wp2_with (first | ((with_reducible refine gate_callee (f := 85) rfl ?_); refine zl 78 Tryz.func85 #[.int .i64 x70_3] ?_; (with_reducible refine (spec_voList.calls k3 x70_3 t838 _ A59.out).mono ?_); rintro e w61 ⟨v839, rfl, ho0, hb⟩; refine ⟨_, rfl, ?_⟩; have n0_ := Aside0.mk (Kd.S_elder' (by (with_reducible repeat (first | apply Kd.S_alloc | apply Kd.S_drewN | apply Kd.S_drew)); exact HO_13.out) (Kd.R_base ho0) hb); have n1_ := Aside0.mk (Kd.R_below (zr HO_68.out) hb); have n2_ := Aside0.mk (Kd.R_lower (Kd.R_newM (M := fun k_ => (w.heap.size ≤ k_)) ho0 (below_size (zh HB.out)) (fun k_ h_ => h_)) (below_size (zh HB.out))); have n3_ := Aside0.mk (blk_below (g := gb819) (o := .cells #[.int .i64 a0_0, .slice A0_1 l0_1.length c0_1] 30 (0, 0)) (zb BK819.out) hb); have n4_ := Aside0.mk (below_step (zh HB.out) hb); clear HO_13; clear HO_68; clear BK819; clear HB; have HO_13 := n0_; have HO_68 := n1_; have HO840 := n2_; have BK819 := n3_; have HB := n4_; clear n0_ n1_ n2_ n3_ n4_; (try clear hb); (try clear hb2); (try clear hk); (try clear hi); (try clear ho0); obtain ⟨Ao63, co63, eo63⟩ := Kd.R_slice HO840.out; subst eo63) | ((with_reducible refine gate_builtin (b := .append) (xs := #[.tmp 76, .tmp 79]) rfl ?_); at_builtin; refine Kd.S_append (Kd.slice 3 (Kd.int .i64)) (w0 := w) w.heap.size rfl (.tmp 76) (.tmp 79) 44 36 (.slice none 0 0) 24 rfl Tryz.underlying44 info36 rfl (by decide) (by omega) u13 x13_3 t838 [.slice Ao63 t838.length co63] (fun k_ => (w.heap.size ≤ k_)) (fun k_ => some k_ = (.slice Ao63 t838.length co63 : Value).ownBlock) rfl rfl ?aP (fun k_ hk_ => ((Kd.R_mono (ok' := fun k_ => ((fun k_ => (w.heap.size ≤ k_))) k_ ∧ some k_ ≠ (u13 : Value).ownBlock) (Kd.R_apart' (HO840.out) (Kd.S_typed HO_13.out) (by decide)) (fun k_ hk => ⟨hk.1.1, hk.2⟩))).1 k_ hk_.symm) ?aF ?aO ?aB ?aS ?aL ?_; (case aP => exact Kd.M_row (Kd.R_mono (Kd.R_tight rfl (Kd.R_mono (ok' := fun k_ => ((fun k_ => (w.heap.size ≤ k_))) k_ ∧ some k_ ≠ (u13 : Value).ownBlock) (Kd.R_apart' (HO840.out) (Kd.S_typed HO_13.out) (by decide)) (fun k_ hk => ⟨hk.1.1, hk.2⟩))) (fun _ h_ => h_))); (case aB => exact (zh HB.out)); (case aF => exact (fun k_ hk => (Nat.le_trans (below_size (zh HB.out)) hk))); (case aO => exact (by (with_reducible repeat (first | apply Kd.S_alloc | apply Kd.S_drewN | apply Kd.S_drew)); exact Kd.S_mono HO_13.out (fun k_ hk => ⟨hk.1, fun e_ => hk.2 e_⟩))); (case aS => exact (below_size (zh HB.out))); (case aL => have := LMc60.out; omega); intro v842 w62 ho hb hg hat; rw [← Ny841.out] at ho; have n0_ := Aside0.mk (Kd.R_over' (zr HO_68.out) (Kd.S_typed (by (with_reducible repeat (first | apply Kd.S_alloc | apply Kd.S_drewN | apply Kd.S_drew)); exact HO_13.out)) (by decide) hg); have n1_ := Aside0.mk (blk_grown (g := gb819) (o := .cells #[.int .i64 a0_0, .slice A0_1 l0_1.length c0_1] 30 (0, 0)) (zb BK819.out) hg (Kd.S_ne HO_13.out BK819.out (by decide))); have n2_ := Aside0.mk (hb); have n3_ := Aside0.mk (ho); clear HO_68; clear BK819; clear HB; clear HO_13; clear HO840; have HO_68 := n0_; have BK819 := n1_; have HB := n2_; have HO843 := n3_; clear n0_ n1_ n2_ n3_; clear ho hb hg hat))
        go_roundg k3
        case measure => have := HK1.out; have := HK2.out; have := HK3.out; omega
        case rel => exact ⟨(y841), (wrap64 (x70_3 + 1)), (by first | rfl | (simp; done) | (simp [*]; done)), H', ⟨by have := HK1.out; have := HK2.out; have := HK3.out; omega⟩, ⟨by (try simp only [hl7_1]); (try simp only [hl7_2]); (with_reducible repeat (first | apply Kd.S_alloc | apply Kd.S_drewN | apply Kd.S_drew)); exact HO843.out⟩, ⟨by (try simp only [hl7_1]); (try simp only [hl7_2]); (with_reducible repeat (first | apply Kd.R_alloc | apply Kd.R_drewN | apply Kd.R_drew)); exact HO_68.out⟩, ⟨by (try simp only [hl7_1]); (try simp only [hl7_2]); (with_reducible repeat (first | refine blk_drewN ?_ _ | refine blk_drew ?_ | refine blk_alloc ?_ _)); exact BK819.out⟩, ⟨zh HB.out⟩⟩
     rw [if_pos c33] at H
     have c33b0 : decide (x42_2 < (t821.length : Int)) = true := decide_eq_true c33
     clear c33
     by_cases c34 : 0 ≤ x42_2
     rotate_left
     ·rw [if_neg c34] at H
      exact absurd H (by simp)
     rw [if_pos c34] at H
     have c34b0 : decide (0 ≤ x42_2) = true := decide_eq_true c34
     clear c34
     by_cases c35 : x42_2 < (t821.length : Int)
     rotate_left
     ·rw [if_neg c35] at H
      exact absurd H (by simp)
     rw [if_pos c35] at H
     have c35b0 : decide (x42_2 < (t821.length : Int)) = true := decide_eq_true c35
     clear c35
     replace H := Option.bind_eq_some_iff.mp H
     obtain ⟨t830, A360, H⟩ := H
     replace H : (spec_pzSure.l2 k2 a1 x7_2 t821 (t821.length : Int) x42_2 t830 (t830.length : Int) 0) = some (r1, r2) := H
     have A36 := Aside0.mk A360
     clear A360
     have H' := Aside0.mk H
     clear H
     have p828 : 0 ≤ (x42_2 : Int) := zk
     have q828 : x42_2 < (t821.length : Int) := zk
     obtain ⟨ad828, A828_1, c828_1, e828, hx828_0, hx828_1, hl828_1, hi828_1⟩ := at_T46 (Kd.V_reads' HO_40.out).2.2 x42_2 p828 q828
     cases e828
     obtain ⟨ce828, hce828, hMe828, hcc828⟩ := Kd.V_get HO_40.out z46 x42_2 p828 (by first | exact q828 | exact zk | (have e_ := (Kd.V_reads' HO_40.out).1; omega))
     obtain ⟨ua828_1, uc828_1, rfl, ul828_1, ge828_1⟩ := k46_openF hMe828
     have hv828_1 := hcc828 1 _ rfl
     rw [add_field _ _ 1 (by omega)] at hv828_1
     replace hv828_1 := Option.some.inj (hv828_1.symm.trans hx828_1)
     injection hv828_1 with hva_ hvn_ hvc_
     rw [hva_] at ge828_1
     rw [hvc_] at ul828_1
     have HL828_1 := Aside0.mk (show Kd.V (Kd.slice 3 (Kd.int .i64)) 36 _ w.heap.size _ _ ((rd_T46 t821 x42_2).f1) from Kd.V_mk ul828_1 ge828_1)
     clear hva_ hvn_ hvc_ ge828_1 ul828_1
     clear hcc828 hce828
     have HR828_1 := Aside0.mk hi828_1
     have HC828_1 := Aside0.mk hl828_1
     clear hi828_1 hl828_1
     replace p828 := eq_true p828
     replace q828 := eq_true q828
     go_wp2_with (first | ((with_reducible refine gate_dst (N := 10) rfl ?_); refine zq 10 #[.int .i64 0, .slice none 0 0] 46 ?_; intro gb829 hg w37 hbox hb; have n0_ := Aside0.mk (Kd.R_below (zr HO_7.out) hb); have n1_ := Aside0.mk (Kd.V_below (Kd.V_elderB (by (with_reducible repeat (first | apply Kd.V_alloc | apply Kd.V_drewN | apply Kd.V_drew)); exact HO_40.out) gb829 (Nat.le_of_eq hg.symm)) hb); have n2_ := Aside0.mk (Kd.V_below (Kd.V_elderB (by (with_reducible repeat (first | apply Kd.V_alloc | apply Kd.V_drewN | apply Kd.V_drew)); exact HL828_1.out) gb829 (Nat.le_of_eq hg.symm)) hb); have n3_ := Aside0.mk (blk_below (g := gb819) (o := .cells #[.int .i64 a0_0, .slice A0_1 l0_1.length c0_1] 30 (0, 0)) (zb BK819.out) hb); have n4_ := Aside0.mk (Kd.C_below (by repeat (first | (with_reducible exact HR828_1.out) | (with_reducible refine Kd.C_alloc ?_ _) | (with_reducible refine Kd.C_drewN ?_ _) | (with_reducible refine Kd.C_drew ?_) | exact HR828_1.out)) hb); have n5_ := Aside0.mk (below_step (zh HB.out) hb); have n6_ := Aside0.mk (hbox); have n7_ := Aside0.mk ((by rw [hg]; exact (below_size (zh HB.out)) : w.heap.size ≤ gb829)); have n8_ := Aside0.mk ((by rw [hg]; exact (below_size (zh HB.out)) : w.heap.size ≤ gb829)); have n9_ := Aside0.mk ((by rw [hg]; exact Nat.ne_of_lt (blk_lt (g := gb819) (o := .cells #[.int .i64 a0_0, .slice A0_1 l0_1.length c0_1] 30 (0, 0)) (zb BK819.out)) : gb819 ≠ gb829)); have n10_ := Aside0.mk ((by rw [hg]; exact Nat.ne_of_gt (blk_lt (g := gb819) (o := .cells #[.int .i64 a0_0, .slice A0_1 l0_1.length c0_1] 30 (0, 0)) (zb BK819.out)) : gb829 ≠ gb819)); clear HO_7; clear HO_40; clear HL828_1; clear BK819; clear HR828_1; clear HB; have HO_7 := n0_; have HO_40 := n1_; have HL828_1 := n2_; have BK819 := n3_; have HR828_1 := n4_; have HB := n5_; have BK829 := n6_; have GW829 := n7_; have GE829 := n8_; have NB819_829 := n9_; have NB829_819 := n10_; clear n0_ n1_ n2_ n3_ n4_ n5_ n6_ n7_ n8_ n9_ n10_; clear hb hbox hg; have hnb38 := NB829_819.out; have hnc38 := NB819_829.out; have hcz39_0 : w37.cell? ⟨gb829, 0, none⟩ = some (.int .i64 0) := (blk_cell BK829.out 0).trans rfl; have hcz39_1 : w37.cell? ⟨gb829, 1, none⟩ = some (.slice none 0 0) := (blk_cell BK829.out 1).trans rfl; have hfz39_0 := blk_frozen BK829.out 0; have hfz39_1 := blk_frozen BK829.out 1) | ((with_reducible refine gate_callee (f := 84) rfl ?_); refine zl 47 Tryz.func84 #[.agg #[.int .i64 ((rd_T46 t821 x42_2).f0), .slice A828_1 ((rd_T46 t821 x42_2).f1).length c828_1]] ?_; (with_reducible refine (spec_gmAll.calls k2 ((rd_T46 t821 x42_2).f0) _ _ ((rd_T46 t821 x42_2).f1) t830 _ ?side1 ?side2 A36.out).mono ?_); (case side1 => repeat (first | exact ((Kd.V_reads' (by (with_reducible repeat (first | apply Kd.V_alloc | apply Kd.V_drewN | apply Kd.V_drew)); exact (Kd.V_mono (Kd.V_far (p := ⟨gb829, 1, none⟩) (Kd.V_far (p := ⟨gb829, 0, none⟩) (Kd.V_mono HL828_1.out (fun k_ hk => (⟨hk, hk.2⟩ : _ ∧ k_ ≠ gb829))) (fun _ hk => hk.2) (.int .i64 ((rd_T46 t821 x42_2).f0))) (fun _ hk => hk.2) (.slice A828_1 ((rd_T46 t821 x42_2).f1).length c828_1)) (fun _ h_ => h_.1)))).2.2) | (with_reducible refine Kd.C_alloc ?_ _) | (with_reducible refine Kd.C_drewN ?_ _) | (with_reducible refine Kd.C_drew ?_))); (case side2 => exact HC828_1.out); rintro e w40 ⟨v831, rfl, ho0, hb⟩; refine ⟨_, rfl, ?_⟩; have n0_ := Aside0.mk (Kd.R_elder' (by (with_reducible repeat (first | apply Kd.R_alloc | apply Kd.R_drewN | apply Kd.R_drew)); exact (Kd.R_mono (Kd.R_far (p := ⟨gb829, 1, none⟩) (Kd.R_far (p := ⟨gb829, 0, none⟩) (Kd.R_types HO_7.out BK829.out (by decide)) (fun _ hk => hk.2) (.int .i64 ((rd_T46 t821 x42_2).f0))) (fun _ hk => hk.2) (.slice A828_1 ((rd_T46 t821 x42_2).f1).length c828_1)) (fun _ h_ => h_.1))) (Kd.R_base ho0) hb); have n1_ := Aside0.mk (Kd.V_elder' (by (with_reducible repeat (first | apply Kd.V_alloc | apply Kd.V_drewN | apply Kd.V_drew)); exact (Kd.V_mono (Kd.V_far (p := ⟨gb829, 1, none⟩) (Kd.V_far (p := ⟨gb829, 0, none⟩) (Kd.V_mono HO_40.out (fun k_ hk => (⟨hk, hk.2⟩ : _ ∧ k_ ≠ gb829))) (fun _ hk => hk.2) (.int .i64 ((rd_T46 t821 x42_2).f0))) (fun _ hk => hk.2) (.slice A828_1 ((rd_T46 t821 x42_2).f1).length c828_1)) (fun _ h_ => h_.1))) (Kd.R_base ho0) hb); have n2_ := Aside0.mk (Kd.V_elder' (by (with_reducible repeat (first | apply Kd.V_alloc | apply Kd.V_drewN | apply Kd.V_drew)); exact (Kd.V_mono (Kd.V_far (p := ⟨gb829, 1, none⟩) (Kd.V_far (p := ⟨gb829, 0, none⟩) (Kd.V_mono HL828_1.out (fun k_ hk => (⟨hk, hk.2⟩ : _ ∧ k_ ≠ gb829))) (fun _ hk => hk.2) (.int .i64 ((rd_T46 t821 x42_2).f0))) (fun _ hk => hk.2) (.slice A828_1 ((rd_T46 t821 x42_2).f1).length c828_1)) (fun _ h_ => h_.1))) (Kd.R_base ho0) hb); have n3_ := Aside0.mk (Kd.R_lower (Kd.R_new' (Kd.R_newM (M := fun k_ => (w.heap.size ≤ k_)) ho0 (below_size (zh HB.out)) (fun k_ h_ => h_)) (Kd.R_lt (by (with_reducible repeat (first | apply Kd.R_alloc | apply Kd.R_drewN | apply Kd.R_drew)); exact (Kd.R_mono (Kd.R_far (p := ⟨gb829, 1, none⟩) (Kd.R_far (p := ⟨gb829, 0, none⟩) (Kd.R_types HO_7.out BK829.out (by decide)) (fun _ hk => hk.2) (.int .i64 ((rd_T46 t821 x42_2).f0))) (fun _ hk => hk.2) (.slice A828_1 ((rd_T46 t821 x42_2).f1).length c828_1)) (fun _ h_ => h_.1))))) (below_size (zh HB.out))); have n4_ := Aside0.mk (blk_below (g := gb819) (o := .cells #[.int .i64 a0_0, .slice A0_1 l0_1.length c0_1] 30 (0, 0)) (zf2 BK819.out NB819_829.out NB819_829.out) hb); have n5_ := Aside0.mk (Kd.C_below ((Kd.V_reads' (by (with_reducible repeat (first | apply Kd.V_alloc | apply Kd.V_drewN | apply Kd.V_drew)); exact (Kd.V_mono (Kd.V_far (p := ⟨gb829, 1, none⟩) (Kd.V_far (p := ⟨gb829, 0, none⟩) (Kd.V_mono HL828_1.out (fun k_ hk => (⟨hk, hk.2⟩ : _ ∧ k_ ≠ gb829))) (fun _ hk => hk.2) (.int .i64 ((rd_T46 t821 x42_2).f0))) (fun _ hk => hk.2) (.slice A828_1 ((rd_T46 t821 x42_2).f1).length c828_1)) (fun _ h_ => h_.1)))).2.2) hb); have n6_ := Aside0.mk (blk_below (g := gb829) (o := .cells #[.int .i64 ((rd_T46 t821 x42_2).f0), .slice A828_1 ((rd_T46 t821 x42_2).f1).length c828_1] 46 (0, 0)) (by (with_reducible repeat (first | refine blk_drewN ?_ _ | refine blk_drew ?_ | refine blk_alloc ?_ _)); refine blk_put (cs := #[.int .i64 ((rd_T46 t821 x42_2).f0), .slice none 0 0]) ?_ 1 _ rfl; (with_reducible repeat (first | refine blk_drewN ?_ _ | refine blk_drew ?_ | refine blk_alloc ?_ _)); refine blk_put (cs := #[.int .i64 0, .slice none 0 0]) ?_ 0 _ rfl; (with_reducible repeat (first | refine blk_drewN ?_ _ | refine blk_drew ?_ | refine blk_alloc ?_ _)); exact BK829.out) hb); have n7_ := Aside0.mk (below_step (zh HB.out) hb); clear HO_7; clear HO_40; clear HL828_1; clear BK819; clear HR828_1; clear BK829; clear HB; have HO_7 := n0_; have HO_40 := n1_; have HL828_1 := n2_; have HO832 := n3_; have BK819 := n4_; have HR828_1 := n5_; have BK829 := n6_; have HB := n7_; clear n0_ n1_ n2_ n3_ n4_ n5_ n6_ n7_; (try clear hb); (try clear hb2); (try clear hk); (try clear hi); (try clear ho0); obtain ⟨Ao41, co41, eo41⟩ := Kd.R_slice HO832.out; subst eo41))
     go_loopg [49] k2 (fun kq v49 w' => ∃ (x7_3 : List Bool) (x49_3 : Int), v49 = .int .i64 x49_3 ∧ Aside0 (spec_pzSure.l2 kq a1 x7_3 t821 (t821.length : Int) x42_2 t830 (t830.length : Int) x49_3 = some (r1, r2)) ∧ Aside0 (kq ≤ k2) ∧ Aside0 (Kd.R Kd.bool 4 w' w.heap.size (fun k_ => (w.heap.size ≤ k_) ∧ some k_ ≠ ((.slice Ao41 t830.length co41) : Value).ownBlock) (.slice Ao26 x7_2.length co26) x7_3) ∧ Aside0 (Kd.V k46 46 w' w.heap.size (fun k_ => (w.heap.size ≤ k_) ∧ some k_ ≠ ((.slice Ao26 x7_2.length co26) : Value).ownBlock ∧ some k_ ≠ ((.slice Ao41 t830.length co41) : Value).ownBlock ∧ k_ ≠ gb819 ∧ k_ ≠ gb829) (.slice (some ad828) t821.length co22) t821) ∧ Aside0 (Kd.R Kd.bool 4 w' w.heap.size (fun k_ => (w.heap.size ≤ k_) ∧ some k_ ≠ ((.slice Ao26 x7_2.length co26) : Value).ownBlock) (.slice Ao41 t830.length co41) t830) ∧ Aside0 (w'.heap[gb819]? = some (.cells #[.int .i64 a0_0, (.slice A0_1 l0_1.length c0_1)] 30 (0, 0))) ∧ Aside0 (w'.heap[gb829]? = some (.cells #[.int .i64 ((rd_T46 t821 x42_2).f0), (.slice A828_1 ((rd_T46 t821 x42_2).f1).length c828_1)] 46 (0, 0))) ∧ Aside0 (Below w.heap.size w w'))
     case atStart => exact ⟨(x7_2), (0), (by first | rfl | (simp; done) | (simp [*]; done)), H', ⟨Nat.le_refl _⟩, ⟨by (try simp only [hl7_1]); (try simp only [hl7_2]); (with_reducible repeat (first | apply Kd.R_alloc | apply Kd.R_drewN | apply Kd.R_drew)); exact HO_7.out⟩, ⟨by (try simp only [hl7_1]); (try simp only [hl7_2]); (with_reducible repeat (first | apply Kd.V_alloc | apply Kd.V_drewN | apply Kd.V_drew)); exact Kd.V_mono HO_40.out (fun _ hk => ⟨hk.1.1.1, ⟨hk.1.1.2.1, ⟨hk.2, ⟨hk.1.1.2.2, hk.1.2⟩⟩⟩⟩)⟩, ⟨by (try simp only [hl7_1]); (try simp only [hl7_2]); (with_reducible repeat (first | apply Kd.R_alloc | apply Kd.R_drewN | apply Kd.R_drew)); exact Kd.R_mono HO832.out (fun _ hk => ⟨hk.1.1, hk.2⟩)⟩, ⟨by (try simp only [hl7_1]); (try simp only [hl7_2]); (with_reducible repeat (first | refine blk_drewN ?_ _ | refine blk_drew ?_ | refine blk_alloc ?_ _)); exact BK819.out⟩, ⟨by (try simp only [hl7_1]); (try simp only [hl7_2]); (with_reducible repeat (first | refine blk_drewN ?_ _ | refine blk_drew ?_ | refine blk_alloc ?_ _)); exact BK829.out⟩, ⟨zh HB.out⟩⟩
     case round =>
      clear H'
      try clear c1
      try clear c2
      try clear p2
      try clear c3
      try clear p3
      try clear q3
      try clear hx3
      try clear hf3
      try clear c4
      try clear c5
      try clear c6
      try clear c6b0
      try clear c6b1
      try clear c6b2
      try clear p6
      try clear c8
      try clear p8
      try clear q8
      try clear hx8
      try clear c13
      try clear c13b0
      try clear c13b1
      try clear c15
      try clear c15b0
      try clear c15b1
      try clear c16
      try clear c16b0
      try clear c16b1
      try clear c27
      try clear c27b0
      try clear c28
      try clear c28b0
      try clear c29
      try clear c29b0
      try clear p30
      try clear q30
      try clear hx30
      try clear hf30
      try clear c33
      try clear c33b0
      try clear c34
      try clear c34b0
      try clear c35
      try clear c35b0
      try clear c38
      try clear hcz10_0
      try clear hcz10_1
      try clear hcz18_0
      try clear hcz18_1
      try clear hcz20_0
      try clear hcz20_1
      try clear hcz23_0
      try clear hcz23_1
      try clear hcz39_0
      try clear hcz39_1
      try clear hcz8_0
      try clear hcz8_1
      try clear hfz10_0
      try clear hfz10_1
      try clear hfz18_0
      try clear hfz18_1
      try clear hfz20_0
      try clear hfz20_1
      try clear hfz23_0
      try clear hfz23_1
      try clear hfz39_0
      try clear hfz39_1
      try clear hfz8_0
      try clear hfz8_1
      try clear hx30_0
      try clear hx828_0
      try clear hx828_1
      try clear p2
      try clear p3
      try clear p30
      try clear p6
      try clear p828
      try clear q3
      try clear q30
      try clear q828
      obtain ⟨x7_3, x49_3, rfl, HA, HK3, HO_7, HO_40, HO_47, BK819, BK829, HB⟩ := hrel
      have hl7_3 := (Kd.R_reads' HO_7.out).1
      rw [hl7_3] at HO_7
      (try simp only [hl7_3])
      (try simp only [hl7_3] at BK819)
      (try simp only [hl7_3] at BK829)
      (try simp only [hl7_3] at HO_40)
      (try simp only [hl7_3] at HO_47)
      cases gk with
      | zero => exact absurd HA.out (by simp [spec_pzSure.l2])
      | succ k3 =>
       have H := HA.out
       clear HA
       simp only [spec_pzSure.l2] at H
       by_cases c42 : x49_3 < (t830.length : Int)
       rotate_left
       ·rw [if_neg c42] at H
        have c42b0 : decide (x49_3 < (t830.length : Int)) = false := decide_eq_false c42
        clear c42
        have H' := Aside0.mk H
        clear H
        go_wp2
        (try simp only [← hl7_2, ← hl7_3])
        go_roundg k3
        case measure => have := HK1.out; have := HK2.out; have := HK3.out; omega
        case rel => exact ⟨(x7_3), (wrap64 (x42_2 + 1)), (by first | rfl | (simp; done) | (simp [*]; done)), H', ⟨by have := HK1.out; have := HK2.out; have := HK3.out; omega⟩, ⟨by (try simp only [hl7_1]); (try simp only [hl7_2]); (try simp only [hl7_3]); (with_reducible repeat (first | apply Kd.R_alloc | apply Kd.R_drewN | apply Kd.R_drew)); exact Kd.R_mono HO_7.out (fun _ hk => hk.1)⟩, ⟨by (try simp only [hl7_1]); (try simp only [hl7_2]); (try simp only [hl7_3]); (with_reducible repeat (first | apply Kd.V_alloc | apply Kd.V_drewN | apply Kd.V_drew)); exact Kd.V_mono HO_40.out (fun _ hk => ⟨hk.1, ⟨hk.2.1, hk.2.2.2.1⟩⟩)⟩, ⟨by (try simp only [hl7_1]); (try simp only [hl7_2]); (try simp only [hl7_3]); (with_reducible repeat (first | refine blk_drewN ?_ _ | refine blk_drew ?_ | refine blk_alloc ?_ _)); exact BK819.out⟩, ⟨zh HB.out⟩⟩
       rw [if_pos c42] at H
       have c42b0 : decide (x49_3 < (t830.length : Int)) = true := decide_eq_true c42
       clear c42
       by_cases c43 : 0 ≤ x49_3
       rotate_left
       ·rw [if_neg c43] at H
        exact absurd H (by simp)
       rw [if_pos c43] at H
       have c43b0 : decide (0 ≤ x49_3) = true := decide_eq_true c43
       clear c43
       by_cases c44 : x49_3 < (t830.length : Int)
       rotate_left
       ·rw [if_neg c44] at H
        exact absurd H (by simp)
       rw [if_pos c44] at H
       have c44b0 : decide (x49_3 < (t830.length : Int)) = true := decide_eq_true c44
       clear c44
       by_cases c45 : x49_3 < (x7_3.length : Int)
       rotate_left
       ·rw [if_neg c45] at H
        exact absurd H (by simp)
       rw [if_pos c45] at H
       have c45b0 : decide (x49_3 < (x7_3.length : Int)) = true := decide_eq_true c45
       clear c45
       obtain ⟨bq46, hbq46⟩ : ∃ b_ : Bool, b_ = (rdOf false x7_3 x49_3) := ⟨_, rfl⟩
       replace H : (if bq46 = true then (spec_pzSure.l2 k3 a1 (x7_3.set (x49_3 : Int).toNat ((rdOf false t830 x49_3) == a1)) t821 (t821.length : Int) x42_2 t830 (t830.length : Int) (wrap64 (x49_3 + 1))) else (spec_pzSure.l2 k3 a1 (x7_3.set (x49_3 : Int).toNat false) t821 (t821.length : Int) x42_2 t830 (t830.length : Int) (wrap64 (x49_3 + 1)))) = some (r1, r2) := by rw [← hbq46] at H; exact H
       have Nbq46 := Aside0.mk hbq46
       clear hbq46
       by_cases c47 : bq46 = true
       rotate_left
       ·replace c47 := Bool.eq_false_iff.mpr c47
        subst c47
        have H1 : (spec_pzSure.l2 k3 a1 (x7_3.set (x49_3 : Int).toNat false) t821 (t821.length : Int) x42_2 t830 (t830.length : Int) (wrap64 (x49_3 + 1))) = some (r1, r2) := by rw [if_neg (show ¬ (false = true) by decide)] at H; exact H
        clear H
        have H := H1
        clear H1
        obtain ⟨y836, hy836⟩ : ∃ y_ : List Bool, y_ = (x7_3.set (x49_3 : Int).toNat false) := ⟨_, rfl⟩
        replace H : (spec_pzSure.l2 k3 a1 y836 t821 (t821.length : Int) x42_2 t830 (t830.length : Int) (wrap64 (x49_3 + 1))) = some (r1, r2) := by first | (rw [hy836]; with_reducible exact H) | (have H2_ := (Option.bind_some _ _).symm.trans H; rw [hy836]; with_reducible exact H2_) | (have H2_ := (Option.bind_some _ _).symm.trans H; with_reducible exact H2_) | with_reducible exact H | (rw [hy836]; exact H) | exact H
        have Ny836 := Aside0.mk hy836
        clear hy836
        have H' := Aside0.mk H
        clear H
        have p833 : 0 ≤ (x49_3 : Int) := zk
        have q833 : x49_3 < (t830.length : Int) := zk
        obtain ⟨ad833, e833, hx833_0⟩ := Kd.at_bool (Kd.R_reads' HO_47.out).2.2 x49_3 p833 q833
        (try rw [← Nbq46.out] at hx833_0)
        cases e833
        replace p833 := eq_true p833
        replace q833 := eq_true q833
        have p834 : 0 ≤ (x49_3 : Int) := zk
        have q834 : x49_3 < (x7_3.length : Int) := zk
        obtain ⟨ad834, e834, hx834_0⟩ := Kd.at_bool (Kd.R_reads' HO_7.out).2.2 x49_3 p834 q834
        (try rw [← Nbq46.out] at hx834_0)
        cases e834
        replace p834 := eq_true p834
        replace q834 := eq_true q834
        have p51 : 0 ≤ (x49_3 : Int) := zk
        have q51 : (x49_3 : Int) < ((x7_3.length : Int) : Int) := zk
        obtain ⟨go51, co51, eo51, gb51, gl51, cl51, HG51⟩ := Kd.R_form HO_7.out (by omega)
        (first | cases eo51 | (injection eo51 with ea_ en_ ec_; (first | subst ea_ | (injection ea_ with ea_; subst ea_)); subst ec_; clear en_))
        have GB51 := Aside0.mk gb51
        have GG51 := Aside0.mk HG51
        clear gb51 gl51 HG51
        (first | simp only [add_plain] at hx834_0 | skip)
        obtain ⟨hx51_0, hf51_0⟩ := Kd.R_celln false HO_7.out (x49_3 : Int) p51 q51
        replace p51 := eq_true p51
        replace q51 := eq_true q51
        have HP52 := Kd.R_putg HO_7.out (x49_3 : Int) false
        go_wp2_with (first | ((with_reducible refine gate_store (t := 4) (p := 65) rfl ?_); refine store_event (t := 4) (p := 65) (v := ?vo_w53) (w1 := (wr.setCell ⟨go51, (x49_3 : Int).toNat, none⟩ (.bool false))) ?hg ?ho ?hn ?hr ?_; (case ho => rfl); (case hg => rfl); (case hn => rfl); (case hr => first | (go_simp; done) | (go_simp; rfl)); intro w53 hw; have hg : wr.grownBy w53 (some go51) := (by rw [hw]; exact HP52.2); have hp_ : Kd.R Kd.bool 4 w53 w.heap.size (fun k_ => (w.heap.size ≤ k_) ∧ some k_ ≠ (.slice (some ad833) t830.length co41 : Value).ownBlock) (.slice (some ⟨go51, 0, none⟩) x7_3.length co26) y836 := (by rw [hw, Ny836.out]; exact HP52.1); clear HP52; have n0_ := Aside0.mk (hp_); have n1_ := Aside0.mk (Kd.V_afterv (v := (.slice (some ⟨go51, 0, none⟩) x7_3.length co26)) (v1 := (.slice (some ⟨go51, 0, none⟩) x7_3.length co26)) (ok := (fun k_ => (w.heap.size ≤ k_) ∧ some k_ ≠ (.slice (some ad833) t830.length co41 : Value).ownBlock ∧ k_ ≠ gb819 ∧ k_ ≠ gb829)) (by (with_reducible repeat (first | apply Kd.V_alloc | apply Kd.V_drewN | apply Kd.V_drew)); exact Kd.V_mono HO_40.out (fun _ hk => ⟨⟨hk.1, ⟨hk.2.2.1, ⟨hk.2.2.2.1, hk.2.2.2.2⟩⟩⟩, hk.2.1⟩)) hg (.inl rfl)); have n2_ := Aside0.mk (Kd.R_after (v := (.slice (some ⟨go51, 0, none⟩) x7_3.length co26)) (v1 := (.slice (some ⟨go51, 0, none⟩) x7_3.length co26)) (ok := (fun k_ => (w.heap.size ≤ k_))) (zr HO_47.out) hg (.inl rfl)); have n3_ := Aside0.mk (blk_grown (g := gb819) (o := .cells #[.int .i64 a0_0, .slice A0_1 l0_1.length c0_1] 30 (0, 0)) (zb BK819.out) hg (Kd.R_ne HO_7.out BK819.out (by decide))); have n4_ := Aside0.mk (blk_grown (g := gb829) (o := .cells #[.int .i64 ((rd_T46 t821 x42_2).f0), .slice A828_1 ((rd_T46 t821 x42_2).f1).length c828_1] 46 (0, 0)) (zb BK829.out) hg (Kd.R_ne HO_7.out BK829.out (by decide))); have n5_ := Aside0.mk ((by rw [hw]; exact below_set (HB.out) GB51.out : Below w.heap.size w w53)); clear HO_7; clear HO_40; clear HO_47; clear BK819; clear BK829; clear HB; have HO_7 := n0_; have HO_40 := n1_; have HO_47 := n2_; have BK819 := n3_; have BK829 := n4_; have HB := n5_; clear n0_ n1_ n2_ n3_ n4_ n5_; clear hg hw hp_))
        (try simp only [← hl7_3])
        go_roundg k3
        case measure => have := HK1.out; have := HK2.out; have := HK3.out; omega
        case rel => exact ⟨(y836), (wrap64 (x49_3 + 1)), (by first | rfl | (simp; done) | (simp [*]; done)), H', ⟨by have := HK1.out; have := HK2.out; have := HK3.out; omega⟩, ⟨by (try simp only [hl7_1]); (try simp only [hl7_2]); (try simp only [hl7_3]); (with_reducible repeat (first | apply Kd.R_alloc | apply Kd.R_drewN | apply Kd.R_drew)); exact HO_7.out⟩, ⟨by (try simp only [hl7_1]); (try simp only [hl7_2]); (try simp only [hl7_3]); (with_reducible repeat (first | apply Kd.V_alloc | apply Kd.V_drewN | apply Kd.V_drew)); exact Kd.V_mono HO_40.out (fun _ hk => ⟨hk.1.1, ⟨hk.2, ⟨hk.1.2.1, ⟨hk.1.2.2.1, hk.1.2.2.2⟩⟩⟩⟩)⟩, ⟨by (try simp only [hl7_1]); (try simp only [hl7_2]); (try simp only [hl7_3]); (with_reducible repeat (first | apply Kd.R_alloc | apply Kd.R_drewN | apply Kd.R_drew)); exact HO_47.out⟩, ⟨by (try simp only [hl7_1]); (try simp only [hl7_2]); (try simp only [hl7_3]); (with_reducible repeat (first | refine blk_drewN ?_ _ | refine blk_drew ?_ | refine blk_alloc ?_ _)); exact BK819.out⟩, ⟨by (try simp only [hl7_1]); (try simp only [hl7_2]); (try simp only [hl7_3]); (with_reducible repeat (first | refine blk_drewN ?_ _ | refine blk_drew ?_ | refine blk_alloc ?_ _)); exact BK829.out⟩, ⟨zh HB.out⟩⟩
       subst c47
       have H1 : (spec_pzSure.l2 k3 a1 (x7_3.set (x49_3 : Int).toNat ((rdOf false t830 x49_3) == a1)) t821 (t821.length : Int) x42_2 t830 (t830.length : Int) (wrap64 (x49_3 + 1))) = some (r1, r2) := by rw [if_pos rfl] at H; exact H
       clear H
       have H := H1
       clear H1
       obtain ⟨y835, hy835⟩ : ∃ y_ : List Bool, y_ = (x7_3.set (x49_3 : Int).toNat ((rdOf false t830 x49_3) == a1)) := ⟨_, rfl⟩
       replace H : (spec_pzSure.l2 k3 a1 y835 t821 (t821.length : Int) x42_2 t830 (t830.length : Int) (wrap64 (x49_3 + 1))) = some (r1, r2) := by first | (rw [hy835]; with_reducible exact H) | (have H2_ := (Option.bind_some _ _).symm.trans H; rw [hy835]; with_reducible exact H2_) | (have H2_ := (Option.bind_some _ _).symm.trans H; with_reducible exact H2_) | with_reducible exact H | (rw [hy835]; exact H) | exact H
       have Ny835 := Aside0.mk hy835
       clear hy835
       have H' := Aside0.mk H
       clear H
       have p833 : 0 ≤ (x49_3 : Int) := zk
       have q833 : x49_3 < (t830.length : Int) := zk
       obtain ⟨ad833, e833, hx833_0⟩ := Kd.at_bool (Kd.R_reads' HO_47.out).2.2 x49_3 p833 q833
       (try rw [← Nbq46.out] at hx833_0)
       cases e833
       replace p833 := eq_true p833
       replace q833 := eq_true q833
       have p834 : 0 ≤ (x49_3 : Int) := zk
       have q834 : x49_3 < (x7_3.length : Int) := zk
       obtain ⟨ad834, e834, hx834_0⟩ := Kd.at_bool (Kd.R_reads' HO_7.out).2.2 x49_3 p834 q834
       (try rw [← Nbq46.out] at hx834_0)
       cases e834
       replace p834 := eq_true p834
       replace q834 := eq_true q834
       have p48 : 0 ≤ (x49_3 : Int) := zk
       have q48 : (x49_3 : Int) < ((x7_3.length : Int) : Int) := zk
       obtain ⟨go48, co48, eo48, gb48, gl48, cl48, HG48⟩ := Kd.R_form HO_7.out (by omega)
       (first | cases eo48 | (injection eo48 with ea_ en_ ec_; (first | subst ea_ | (injection ea_ with ea_; subst ea_)); subst ec_; clear en_))
       have GB48 := Aside0.mk gb48
       have GG48 := Aside0.mk HG48
       clear gb48 gl48 HG48
       (first | simp only [add_plain] at hx834_0 | skip)
       obtain ⟨hx48_0, hf48_0⟩ := Kd.R_celln false HO_7.out (x49_3 : Int) p48 q48
       replace p48 := eq_true p48
       replace q48 := eq_true q48
       have HP49 := Kd.R_putg HO_7.out (x49_3 : Int) ((rdOf false t830 x49_3) == a1)
       go_wp2_with (first | ((with_reducible refine gate_store (t := 4) (p := 65) rfl ?_); refine store_event (t := 4) (p := 65) (v := ?vo_w50) (w1 := (wr.setCell ⟨go48, (x49_3 : Int).toNat, none⟩ (.bool ((rdOf false t830 x49_3) == a1)))) ?hg ?ho ?hn ?hr ?_; (case ho => rfl); (case hg => rfl); (case hn => rfl); (case hr => first | (go_simp; done) | (go_simp; rfl)); intro w50 hw; have hg : wr.grownBy w50 (some go48) := (by rw [hw]; exact HP49.2); have hp_ : Kd.R Kd.bool 4 w50 w.heap.size (fun k_ => (w.heap.size ≤ k_) ∧ some k_ ≠ (.slice (some ad833) t830.length co41 : Value).ownBlock) (.slice (some ⟨go48, 0, none⟩) x7_3.length co26) y835 := (by rw [hw, Ny835.out]; exact HP49.1); clear HP49; have n0_ := Aside0.mk (hp_); have n1_ := Aside0.mk (Kd.V_afterv (v := (.slice (some ⟨go48, 0, none⟩) x7_3.length co26)) (v1 := (.slice (some ⟨go48, 0, none⟩) x7_3.length co26)) (ok := (fun k_ => (w.heap.size ≤ k_) ∧ some k_ ≠ (.slice (some ad833) t830.length co41 : Value).ownBlock ∧ k_ ≠ gb819 ∧ k_ ≠ gb829)) (by (with_reducible repeat (first | apply Kd.V_alloc | apply Kd.V_drewN | apply Kd.V_drew)); exact Kd.V_mono HO_40.out (fun _ hk => ⟨⟨hk.1, ⟨hk.2.2.1, ⟨hk.2.2.2.1, hk.2.2.2.2⟩⟩⟩, hk.2.1⟩)) hg (.inl rfl)); have n2_ := Aside0.mk (Kd.R_after (v := (.slice (some ⟨go48, 0, none⟩) x7_3.length co26)) (v1 := (.slice (some ⟨go48, 0, none⟩) x7_3.length co26)) (ok := (fun k_ => (w.heap.size ≤ k_))) (zr HO_47.out) hg (.inl rfl)); have n3_ := Aside0.mk (blk_grown (g := gb819) (o := .cells #[.int .i64 a0_0, .slice A0_1 l0_1.length c0_1] 30 (0, 0)) (zb BK819.out) hg (Kd.R_ne HO_7.out BK819.out (by decide))); have n4_ := Aside0.mk (blk_grown (g := gb829) (o := .cells #[.int .i64 ((rd_T46 t821 x42_2).f0), .slice A828_1 ((rd_T46 t821 x42_2).f1).length c828_1] 46 (0, 0)) (zb BK829.out) hg (Kd.R_ne HO_7.out BK829.out (by decide))); have n5_ := Aside0.mk ((by rw [hw]; exact below_set (HB.out) GB48.out : Below w.heap.size w w50)); clear HO_7; clear HO_40; clear HO_47; clear BK819; clear BK829; clear HB; have HO_7 := n0_; have HO_40 := n1_; have HO_47 := n2_; have BK819 := n3_; have BK829 := n4_; have HB := n5_; clear n0_ n1_ n2_ n3_ n4_ n5_; clear hg hw hp_))
       (try simp only [← hl7_3])
       go_roundg k3
       case measure => have := HK1.out; have := HK2.out; have := HK3.out; omega
       case rel => exact ⟨(y835), (wrap64 (x49_3 + 1)), (by first | rfl | (simp; done) | (simp [*]; done)), H', ⟨by have := HK1.out; have := HK2.out; have := HK3.out; omega⟩, ⟨by (try simp only [hl7_1]); (try simp only [hl7_2]); (try simp only [hl7_3]); (with_reducible repeat (first | apply Kd.R_alloc | apply Kd.R_drewN | apply Kd.R_drew)); exact HO_7.out⟩, ⟨by (try simp only [hl7_1]); (try simp only [hl7_2]); (try simp only [hl7_3]); (with_reducible repeat (first | apply Kd.V_alloc | apply Kd.V_drewN | apply Kd.V_drew)); exact Kd.V_mono HO_40.out (fun _ hk => ⟨hk.1.1, ⟨hk.2, ⟨hk.1.2.1, ⟨hk.1.2.2.1, hk.1.2.2.2⟩⟩⟩⟩)⟩, ⟨by (try simp only [hl7_1]); (try simp only [hl7_2]); (try simp only [hl7_3]); (with_reducible repeat (first | apply Kd.R_alloc | apply Kd.R_drewN | apply Kd.R_drew)); exact HO_47.out⟩, ⟨by (try simp only [hl7_1]); (try simp only [hl7_2]); (try simp only [hl7_3]); (with_reducible repeat (first | refine blk_drewN ?_ _ | refine blk_drew ?_ | refine blk_alloc ?_ _)); exact BK819.out⟩, ⟨by (try simp only [hl7_1]); (try simp only [hl7_2]); (try simp only [hl7_3]); (with_reducible repeat (first | refine blk_drewN ?_ _ | refine blk_drew ?_ | refine blk_alloc ?_ _)); exact BK829.out⟩, ⟨zh HB.out⟩⟩
def spec_SureLosses.f (k : Nat) (a0_0 : Int) (l0_1 : List (S72)) : Option ((List (List Int)) × Bool) := (spec_pzSure.f k a0_0 l0_1 false).bind fun bt848 => (some (bt848.1, bt848.2))
set_option maxHeartbeats 8000000 in
set_option maxRecDepth 100000 in
theorem spec_SureLosses.calls (k : Nat) (a0_0 : Int) (A0_1 : Option Addr) (c0_1 : Nat) (l0_1 : List (S72)) (r1 : List (List Int)) (r2 : Bool) (w : World) (hr0_1 : Kd.C k72 w A0_1 l0_1.length l0_1) (hc0_1 : l0_1.length ≤ c0_1) (h : spec_SureLosses.f k a0_0 l0_1 = some (r1, r2)) :
  Calls Tryz.prog 43 #[.agg #[.int .i64 a0_0, .slice A0_1 l0_1.length c0_1]] w fun e w' => ∃ v0_ : Value, e = .returned (.tuple #[v0_, .bool r2]) ∧ Kd.V (Kd.slice 3 (Kd.int .i64)) 36 w' w.heap.size (fun k_ => (w.heap.size ≤ k_)) v0_ r1 ∧ Below w.heap.size w w' := by
 have hu30 := Tryz.underlying30
 have HR0_1 := Aside0.mk hr0_1
 have HC0_1 := Aside0.mk hc0_1
 clear hr0_1 hc0_1
 have HB := Aside0.mk (Below.refl w.heap.size w)
 have H : ((spec_pzSure.f k a0_0 l0_1 false).bind fun bt848 => (some (bt848.1, bt848.2))) = some (r1, r2) := h
 clear h
 replace H := Option.bind_eq_some_iff.mp H
 obtain ⟨⟨t848, t851⟩, A20, H⟩ := H
 replace H : (some (t848, t851)) = some (r1, r2) := H
 have A2 := Aside0.mk A20
 clear A20
 simp only [Option.some.injEq, Prod.mk.injEq] at H
 obtain ⟨rfl, rfl⟩ := H
 go_enter Tryz.func43, Tryz.ntmps43
 go_wp2_with (first | ((with_reducible refine gate_dst (N := 1) rfl ?_); refine zq 1 #[.int .i64 a0_0, .slice A0_1 l0_1.length c0_1] 30 ?_; intro gb847 hg w3 hbox hb; have n2_ := Aside0.mk ((by rw [hg]; exact (below_size (zh HB.out)) : w.heap.size ≤ gb847)); replace HB := Aside0.mk (below_step (zh HB.out) hb); have BK847 := Aside0.mk hbox; have GW847 := n2_; have GE847 := n2_; clear n2_ hb hbox hg; have hcz4_0 : w3.cell? ⟨gb847, 0, none⟩ = some (.int .i64 a0_0) := (blk_cell BK847.out 0).trans rfl; have hcz4_1 : w3.cell? ⟨gb847, 1, none⟩ = some (.slice A0_1 l0_1.length c0_1) := (blk_cell BK847.out 1).trans rfl; have hfz4_0 := blk_frozen BK847.out 0; have hfz4_1 := blk_frozen BK847.out 1) | ((with_reducible refine gate_callee (f := 65) rfl ?_); refine zl 5 Tryz.func65 #[.agg #[.int .i64 a0_0, .slice A0_1 l0_1.length c0_1], .bool false] ?_; (with_reducible refine (spec_pzSure.calls k a0_0 _ _ l0_1 false t848 t851 _ ?side1 ?side2 A2.out).mono ?_); (case side1 => repeat (first | exact (Kd.C_below HR0_1.out HB.out) | (with_reducible refine Kd.C_alloc ?_ _) | (with_reducible refine Kd.C_drewN ?_ _) | (with_reducible refine Kd.C_drew ?_))); (case side2 => exact HC0_1.out); rintro e w5 ⟨v849, rfl, ho0, hb⟩; refine ⟨_, rfl, ?_⟩; have n0_ := Aside0.mk (Kd.V_lower (Kd.V_mono (ok' := fun k_ => (w.heap.size ≤ k_) ∧ k_ ≠ gb847) ho0 (fun k_ hk_ => ⟨(Nat.le_trans (below_size (zh HB.out)) hk_), (Kd.freshB (g := gb847) (o := .cells #[.int .i64 a0_0, .slice A0_1 l0_1.length c0_1] 30 (0, 0)) (zb BK847.out) k_ hk_)⟩)) (below_size (zh HB.out))); have n1_ := Aside0.mk (blk_below (g := gb847) (o := .cells #[.int .i64 a0_0, .slice A0_1 l0_1.length c0_1] 30 (0, 0)) (zb BK847.out) hb); have n2_ := Aside0.mk (below_step (zh HB.out) hb); clear BK847; clear HB; have HO850 := n0_; have BK847 := n1_; have HB := n2_; clear n0_ n1_ n2_; (try clear hb); (try clear hb2); (try clear hk); (try clear hi); (try clear ho0)))
 go_ret2
 exact ⟨_, by first | rfl | (simp [*, errW_none, errW_some] <;> rfl), by (with_reducible repeat (first | apply Kd.V_alloc | apply Kd.V_drewN | apply Kd.V_drew)); exact Kd.V_mono HO850.out (fun _ hk => hk.1), zh HB.out⟩
end Go.Proofs.YtgjakcpbfbfejaaGreat.Q
end
section
namespace Go.Proofs.YtgjakcpbfbfejaaGreat.Q
open Go.RowKit Go.Proofs.YtgjakcpbfbfejaaGreatW.PrintWords Go.Proofs.YtgjakcpbfbfejaaGreatW.PrintLast Go.Proofs.YtgjakcpbfbfejaaGreatW.PrintMore
set_option linter.unusedVariables false
set_option linter.unusedSimpArgs false
def idxO {α : Type} (p : α → Option Bool) : List α → Nat → Option Int
  | [], _ => some (-1)
  | x :: xs, k => (p x).bind fun b => if b = true then some (k : Int) else idxO p xs (k + 1)
def anyO {α : Type} (p : α → Option Bool) : List α → Option Bool
  | [] => some false
  | x :: xs => (p x).bind fun b => if b = true then some true else anyO p xs
theorem anyO_idxO {α : Type} (p : α → Option Bool) (xs : List α) : ∀ (k : Nat) (r : Bool), anyO p xs = some r → ∃ i, idxO p xs k = some i ∧ r = decide (0 ≤ i) := by
  induction xs with
  | nil => intro k r h; simp only [anyO, Option.some.injEq] at h; exact ⟨-1, rfl, by subst h; rfl⟩
  | cons x xs ih =>
    intro k r h
    simp only [anyO] at h
    obtain ⟨b, hb, h⟩ := Option.bind_eq_some_iff.mp h
    cases b with
    | true => rw [if_pos rfl] at h; exact ⟨k, by simp [idxO, hb], by simp only [Option.some.injEq] at h; subst h; simp⟩
    | false =>
      rw [if_neg (by simp)] at h
      obtain ⟨i, hi, hr⟩ := ih (k + 1) r h
      exact ⟨i, by simp [idxO, hb, hi], hr⟩
theorem idxO_step {α : Type} {p : α → Option Bool} {xs : List α} {k : Nat} {r : Int} {x : α} (h : idxO p (xs.drop k) k = some r) (hx : xs[k]? = some x) :
    ∃ b, p x = some b ∧ (b = true → r = k) ∧ (b = false → idxO p (xs.drop (k + 1)) (k + 1) = some r) := by
  rw [show xs.drop k = x :: xs.drop (k + 1) from by
    obtain ⟨hk, rfl⟩ := List.getElem?_eq_some_iff.1 hx; exact List.drop_eq_getElem_cons hk] at h
  simp only [idxO] at h
  obtain ⟨b, hb, h⟩ := Option.bind_eq_some_iff.mp h
  refine ⟨b, hb, ?_, ?_⟩
  · rintro rfl; rw [if_pos rfl] at h; exact (Option.some.inj h).symm
  · rintro rfl; rw [if_neg (by simp)] at h; exact h
def PredK {α : Type} (P : Program) (g : Nat) (lb : Array Value) (d : Kd α) (mkv : List Value → Value) (w : World) (p : α → Option Bool) : Prop :=
  ∀ (W : World) (x : α) (c : List Value) (b : Bool), Below w.heap.size w W → d.K w x c → p x = some b → Calls P g (#[mkv c] ++ lb) W fun e w' => e = .returned (.bool b) ∧ Below w.heap.size w w'
theorem anyO_some {α : Type} {p : α → Option Bool} {q : α → Bool} {xs : List α} (h : ∀ x ∈ xs, p x = some (q x)) : anyO p xs = some (xs.any q) := by
  induction xs with
  | nil => rfl
  | cons x xs ih =>
    simp only [anyO, h x (List.mem_cons_self ..), Option.bind_some]
    rw [ih (fun y hy => h y (List.mem_cons_of_mem _ hy))]
    rw [List.any_cons]
    cases q x <;> rfl
theorem ret_i {a b : Int} (h : a = b) : Ending.returned (.int .i64 a) = .returned (.int .i64 b) := by rw [h]
theorem ret_b {a b : Bool} (h : a = b) : Ending.returned (.bool a) = .returned (.bool b) := by rw [h]
set_option maxHeartbeats 1000000 in
theorem indexFunc_int (p : Int → Option Bool) (g : Nat) (lb : Array Value) (eg : ∀ args w, (callFunc g args).run Tryz.prog w = .ok (.enter g args) w)
    (A0 : Option Addr) (c0 : Nat) (l0 : List Int) (r : Int) (w : World) (hr0 : Kd.C (Kd.int .i64) w A0 l0.length l0) (hc0 : l0.length ≤ c0)
    (hp : PredK Tryz.prog g lb (Kd.int .i64) (fun c => c.getD 0 undef) w p) (h : idxO p l0 0 = some r) :
    Calls Tryz.prog 145 #[.slice A0 l0.length c0, .func (.func g) #[] lb] w fun e w' => e = .returned (.int .i64 r) ∧ Below w.heap.size w w' := by
  have hlen := hr0.2.1
  have HR0 := Aside0.mk hr0
  clear hr0
  have HP := Aside0.mk hp
  clear hp
  have H0 := Aside0.mk h
  clear h
  go_enter Tryz.func145, Tryz.ntmps145
  go_wp2
  go_loopg [5, 8] l0.length (fun gg _ s8 wr => ∃ kk : Nat, kk ≤ l0.length ∧ l0.length - kk ≤ gg ∧ s8 = .int .i64 kk ∧ Aside0 (Below w.heap.size w wr) ∧ Aside0 (idxO p (l0.drop kk) kk = some r))
  case atStart => exact ⟨0, Nat.zero_le _, by omega, rfl, ⟨Below.refl _ w⟩, H0⟩
  case round =>
    obtain ⟨kk, hkk, hg, rfl, BW, A⟩ := hrel
    by_cases hlt : kk < l0.length
    · have hltz : (kk : Int) < (l0.length : Int) := by omega
      obtain ⟨ad, c, e, _, hK, hcell⟩ := Kd.C_get HR0.out 0 (kk : Int) (by omega) hltz
      subst e
      have hK1 : c = [.int .i64 (l0.getD kk 0)] := hK
      subst hK1
      have l2 := (BW.out.cell (World.block_lt_of_cell? w _ (hcell 0 _ rfl))).trans (hcell 0 _ rfl)
      clear hcell
      obtain ⟨b, hb, h1, h2⟩ := idxO_step A.out (show l0[kk]? = some (l0.getD kk 0) by rw [List.getD_eq_getElem?_getD, List.getElem?_eq_getElem hlt]; rfl)
      have hcall := HP.out wr _ _ b BW.out hK hb
      have l3 : wr.cell? (ad.add kk) = some (.int .i64 (l0.getD kk 0)) := by simpa [show (Kd.int .i64).sz = 1 from rfl] using l2
      clear l2 hK
      generalize l0.getD kk 0 = y at l3 hcall hb
      have B := Aside0.mk hb
      clear hb
      cases b with
      | true =>
        have E := h1 rfl
        clear h1 h2
        have E' := Aside0.mk E
        clear E
        go_wp2_with (go_at_fn g; refine hcall.mono ?_; rintro e w' ⟨rfl, hb'⟩)
        go_ret
        exact ⟨ret_i E'.out.symm, hb'⟩
      | false =>
        have E := Aside0.mk (h2 rfl)
        clear h1 h2
        go_wp2_with (go_at_fn g; refine hcall.mono ?_; rintro e w' ⟨rfl, hb'⟩)
        go_roundg (l0.length - (kk + 1))
        case measure => omega
        case rel => exact ⟨kk + 1, by omega, by omega, by go_num, ⟨hb'⟩, E⟩
    · have hltz : ¬ (kk : Int) < (l0.length : Int) := by omega
      have : kk = l0.length := by omega
      subst this
      go_wp2
      go_ret
      refine ⟨?_, BW.out⟩
      have h3 := A.out
      rw [List.drop_length] at h3
      have h4 : (-1 : Int) = r := by simpa [idxO] using h3
      exact ret_i h4
set_option maxHeartbeats 1000000 in
theorem containsFunc_int (p : Int → Option Bool) (g : Nat) (lb : Array Value) (eg : ∀ args w, (callFunc g args).run Tryz.prog w = .ok (.enter g args) w)
    (A0 : Option Addr) (c0 : Nat) (l0 : List Int) (r : Bool) (w : World) (hr0 : Kd.C (Kd.int .i64) w A0 l0.length l0) (hc0 : l0.length ≤ c0)
    (hp : PredK Tryz.prog g lb (Kd.int .i64) (fun c => c.getD 0 undef) w p) (h : anyO p l0 = some r) :
    Calls Tryz.prog 126 #[.slice A0 l0.length c0, .func (.func g) #[] lb] w fun e w' => e = .returned (.bool r) ∧ Below w.heap.size w w' := by
  obtain ⟨i, hi, rfl⟩ := anyO_idxO p l0 0 r h
  have hcon := indexFunc_int p g lb eg A0 c0 l0 i w hr0 hc0 hp hi
  clear hr0 hp h hi
  go_enter Tryz.func126, Tryz.ntmps126
  go_wp2_with (go_at_call 145; refine hcon.mono ?_; rintro e w' ⟨rfl, hb'⟩)
  go_ret
  exact ⟨rfl, hb'⟩
set_option maxHeartbeats 1000000 in
theorem impl_votesBy_11.pred (mask : Int) (b1 : Nat) (w : World) (h1 : w.cell? ⟨b1, 0, none⟩ = some (.int .i64 mask)) :
    PredK Tryz.prog 127 #[.pointer (some ⟨b1, 0, none⟩)] (Kd.int .i64) (fun c => c.getD 0 undef) w (fun m => some (Go.bits .and .i64 mask m == m)) := by
  intro W x c b hb hK hp
  have hK1 : c = [.int .i64 x] := hK
  subst hK1
  show Calls Tryz.prog 127 #[.int .i64 x, .pointer (some ⟨b1, 0, none⟩)] W _
  have q1 := (hb.cell (World.block_lt_of_cell? w _ h1)).trans h1
  have hB := Aside0.mk hb
  have hE := Aside0.mk (Option.some.inj hp)
  clear h1 hb hK hp
  go_enter Tryz.func127, Tryz.ntmps127
  go_wp2
  go_ret
  exact ⟨ret_b hE.out, hB.out⟩
set_option maxHeartbeats 1000000 in
theorem impl_votesBy_1.pred (l : List Int) (A : Option Addr) (c b1 : Nat) (w : World) (h1 : w.cell? ⟨b1, 0, none⟩ = some (.slice A l.length c)) (hC : Kd.C (Kd.int .i64) w A l.length l) (hc : l.length ≤ c) :
    PredI Tryz.prog 125 #[] #[.pointer (some ⟨b1, 0, none⟩)] w (fun mask => anyO (fun m => some (Go.bits .and .i64 mask m == m)) l) := by
  intro W x b hb hp
  show Calls Tryz.prog 125 #[.int .i64 x, .pointer (some ⟨b1, 0, none⟩)] W _
  have eg : ∀ args w, (callFunc 127 args).run Tryz.prog w = .ok (.enter 127 args) w := enters_of Tryz.func127 (by kernel_rfl) rfl
  have q1 := (hb.cell (World.block_lt_of_cell? w _ h1)).trans h1
  have hR := Aside0.mk (Kd.C_below hC hb)
  have hE := Aside0.mk hp
  clear h1 hb hC hp
  have q2 : (W.alloc (.cells #[.int .i64 x] 3)).cell? ⟨b1, 0, none⟩ = some (.slice A l.length c) := (Below.cell ((Below.refl _ W).alloc (Nat.le_refl _) _) (World.block_lt_of_cell? W _ q1)).trans q1
  go_enter Tryz.func125, Tryz.ntmps125
  go_wp2_with fail
  refine (containsFunc_int (fun m => some (Go.bits .and .i64 x m == m)) 127 #[.pointer (some ⟨W.heap.size, 0, none⟩)] eg A c l b _ ?_ hc ?_ hE.out).mono ?_
  · exact Kd.C_below hR.out ((Below.refl _ W).alloc (Nat.le_refl _) _)
  · exact impl_votesBy_11.pred x _ _ (by go_simp)
  · rintro e w' ⟨rfl, hb⟩
    go_wp2
    go_ret
    exact ⟨rfl, ((Below.refl _ W).alloc (Nat.le_refl _) _).trans (hb.mono (by simp))⟩
def votesOf_votesBy.f (k : Nat) (a0 : Int) (l1 : List Int) : Option (Int × List Bool) := impl_votesOf.f k a0 (fun mask => anyO (fun m => some (Go.bits .and .i64 mask m == m)) l1)
theorem votesOf_votesBy.calls (k : Nat) (a0 : Int) (A1 : Option Addr) (c1 : Nat) (l1 : List Int) (r1 : Int) (r2 : List Bool) (w : World) (hr1 : Kd.C (Kd.int .i64) w A1 l1.length l1) (hc1 : l1.length ≤ c1) (gb : Nat) (hcell : w.cell? ⟨gb, 0, none⟩ = some (.slice A1 l1.length c1)) (h : votesOf_votesBy.f k a0 l1 = some (r1, r2)) :
    Calls Tryz.prog 100 #[.int .i64 a0, .func (.func 125) #[] #[.pointer (some ⟨gb, 0, none⟩)]] w fun e w' => ∃ v1_ : Value, e = .returned (.agg #[.int .i64 r1, v1_]) ∧ Kd.R Kd.bool 4 w' w.heap.size (fun _ => True) v1_ r2 ∧ Below w.heap.size w w' :=
  impl_votesOf.calls k a0 _ 125 #[] #[.pointer (some ⟨gb, 0, none⟩)] (enters_of Tryz.func125 (by kernel_rfl) rfl) r1 r2 w (impl_votesBy_1.pred l1 A1 c1 gb w hcell hr1 hc1) h
end Go.Proofs.YtgjakcpbfbfejaaGreat.Q
end
section
namespace Go.Proofs.YtgjakcpbfbfejaaGreat.Q
open Go.RowKit Go.Proofs.YtgjakcpbfbfejaaGreatW.PrintWords Go.Proofs.YtgjakcpbfbfejaaGreatW.PrintLast Go.Proofs.YtgjakcpbfbfejaaGreatW.PrintMore
attribute [local go_sem] max2_int min2_int max_two min_two max_three min_three max_four min_four
set_option linter.unusedVariables false
set_option linter.unusedSimpArgs false
def impl_votesBy.l0 : Nat → Int → List (List Int) → Int → Int → List Int → Option (Int × List Bool)
 | 0, _, _, _, _, _ => none
 | k + 1, x0, x9, x10, x11, x295000 => if x11 < x10 then (if 0 ≤ x11 then (if x11 < (x9.length : Int) then ((impl_maskOf.f k (rd_L4 x9 x11)).bind fun t296 => (if x295000.length < 17592186044416 then (impl_votesBy.l0 k x0 x9 x10 (wrap64 (x11 + 1)) (x295000 ++ [t296])) else (none))) else (none)) else (none)) else ((votesOf_votesBy.f k x0 x295000).bind fun bt300 => (some (bt300.1, bt300.2)))
def impl_votesBy.f (k : Nat) (a0 : Int) (l1 : List (List Int)) : Option (Int × List Bool) := impl_votesBy.l0 k a0 l1 (l1.length : Int) 0 (([] : List Int))
set_option maxHeartbeats 8000000 in
set_option maxRecDepth 100000 in
theorem impl_votesBy.calls (k : Nat) (a0 : Int) (A1 : Option Addr) (c1 : Nat) (l1 : List (List Int)) (r1 : Int) (r2 : List Bool) (w : World) (hr1 : Kd.C (Kd.slice 3 (Kd.int .i64)) w A1 l1.length l1) (hc1 : l1.length ≤ c1) (h : impl_votesBy.f k a0 l1 = some (r1, r2)) :
  Calls Tryz.prog 107 #[.int .i64 a0, .slice A1 l1.length c1] w fun e w' => ∃ v1_ : Value, e = .returned (.agg #[.int .i64 r1, v1_]) ∧ Kd.R Kd.bool 4 w' w.heap.size (fun _ => True) v1_ r2 ∧ Below w.heap.size w w' := by
 have hu86 := Tryz.underlying86
 have HR1 := Aside0.mk hr1
 have HC1 := Aside0.mk hc1
 clear hr1 hc1
 have HB := Aside0.mk (Below.refl w.heap.size w)
 have H : (impl_votesBy.l0 k a0 l1 (l1.length : Int) 0 (([] : List Int))) = some (r1, r2) := h
 clear h
 obtain ⟨y291, hy291⟩ : ∃ y_ : List Int, y_ = (([] : List Int)) := ⟨_, rfl⟩
 replace H : (impl_votesBy.l0 k a0 l1 (l1.length : Int) 0 y291) = some (r1, r2) := by first | (rw [hy291]; with_reducible exact H) | (have H2_ := (Option.bind_some _ _).symm.trans H; rw [hy291]; with_reducible exact H2_) | (have H2_ := (Option.bind_some _ _).symm.trans H; with_reducible exact H2_) | with_reducible exact H | (rw [hy291]; exact H) | exact H
 have Ny291 := Aside0.mk hy291
 clear hy291
 have H' := Aside0.mk H
 clear H
 go_enter Tryz.func107, Tryz.ntmps107
 go_wp2_with (first | ((with_reducible refine gate_dst (N := 4) rfl ?_); refine zq 4 #[.int .i64 0, .slice none 0 0] 86 ?_; intro gb290 hg w3 hbox hb; have n2_ := Aside0.mk ((by rw [hg]; exact (below_size (zh HB.out)) : w.heap.size ≤ gb290)); replace HB := Aside0.mk (below_step (zh HB.out) hb); have BK290 := Aside0.mk hbox; have GW290 := n2_; have GE290 := n2_; clear n2_ hb hbox hg) | ((with_reducible refine gate_dst (N := 8) rfl ?_); refine Kd.R_lit (Kd.int .i64) _ 3 ?hg (N := 8) ?hd (xs := ([] : List Int)) (inner := []) (ok := fun _ => True) (okp := fun _ => True) ?hr ?hp (fun _ hk => hk) trivial (Below.refl _ _) (Nat.le_refl _) (by simp) ?_; (case hd => rfl); (case hg => rfl); (case hr => first | (go_simp; done) | (go_simp; rfl)); (case hp => exact (Reps.none _ _)); intro v292 w4 ho5 hb hg_ hnew_; clear hg_ hnew_; (first | rw [← Ny291.out] at ho5 | (simp only [Int.reduceToNat] at ho5; rw [← Ny291.out] at ho5)); have n0_ := Aside0.mk (Kd.R_lower ho5 (below_size (zh HB.out))); have n1_ := Aside0.mk (blk_below (g := gb290) (o := .cells #[.int .i64 0, .slice none 0 0] 86 (0, 0)) (zb BK290.out) hb); have n2_ := Aside0.mk (below_step (zh HB.out) hb); clear BK290; clear HB; have HO293 := n0_; have BK290 := n1_; have HB := n2_; clear n0_ n1_ n2_; clear hb ho5) | ((with_reducible refine gate_dst (N := 5) rfl ?_); refine zq 5 #[.slice none 0 0] 36 ?_; intro gb294 hg w6 hbox hb; have n0_ := Aside0.mk (Kd.R_below (zr HO293.out) hb); have n1_ := Aside0.mk (blk_below (g := gb290) (o := .cells #[.int .i64 0, .slice none 0 0] 86 (0, 0)) (zb BK290.out) hb); have n2_ := Aside0.mk (below_step (zh HB.out) hb); have n3_ := Aside0.mk (hbox); have n4_ := Aside0.mk ((by rw [hg]; exact (below_size (zh HB.out)) : w.heap.size ≤ gb294)); have n5_ := Aside0.mk ((by rw [hg]; exact (below_size (zh HB.out)) : w.heap.size ≤ gb294)); have n6_ := Aside0.mk ((by rw [hg]; exact Nat.ne_of_lt (blk_lt (g := gb290) (o := .cells #[.int .i64 0, .slice none 0 0] 86 (0, 0)) (zb BK290.out)) : gb290 ≠ gb294)); have n7_ := Aside0.mk ((by rw [hg]; exact Nat.ne_of_gt (blk_lt (g := gb290) (o := .cells #[.int .i64 0, .slice none 0 0] 86 (0, 0)) (zb BK290.out)) : gb294 ≠ gb290)); clear HO293; clear BK290; clear HB; have HO293 := n0_; have BK290 := n1_; have HB := n2_; have BK294 := n3_; have GW294 := n4_; have GE294 := n5_; have NB290_294 := n6_; have NB294_290 := n7_; clear n0_ n1_ n2_ n3_ n4_ n5_ n6_ n7_; clear hb hbox hg; obtain ⟨Ao7, co7, eo7⟩ := Kd.R_slice HO293.out; subst eo7; have hnb8 := NB294_290.out; have hnc8 := NB290_294.out; have hcz9_0 : w6.cell? ⟨gb294, 0, none⟩ = some (.slice none 0 0) := (blk_cell BK294.out 0).trans rfl; have hfz9_0 := blk_frozen BK294.out 0))
 go_loopg [11] k (fun kq v11 w' => ∃ (x11_1 : Int) (x295000_1 : List Int) (u295000 : Value), v11 = .int .i64 x11_1 ∧ Aside0 (impl_votesBy.l0 kq a0 l1 (l1.length : Int) x11_1 x295000_1 = some (r1, r2)) ∧ Aside0 (kq ≤ k) ∧ Aside0 (Kd.R (Kd.int .i64) 3 w' w.heap.size (fun _ => True) u295000 x295000_1) ∧ Aside0 (w'.heap[gb290]? = some (.cells #[.int .i64 0, (.slice none 0 0)] 86 (0, 0))) ∧ Aside0 (w'.heap[gb294]? = some (.cells #[u295000] 36 (0, 0))) ∧ Aside0 (Below w.heap.size w w'))
 case atStart => exact ⟨(0), (y291), (.slice Ao7 y291.length co7), (by first | rfl | (simp; done) | (simp [*]; done)), H', ⟨Nat.le_refl _⟩, ⟨by (with_reducible repeat (first | apply Kd.R_alloc | apply Kd.R_drewN | apply Kd.R_drew)); exact Kd.R_mono (Kd.R_far (p := ⟨gb294, 0, none⟩) (Kd.R_types HO293.out BK294.out (by decide)) (fun _ hk => hk.2) (.slice Ao7 y291.length co7)) (fun _ hk => trivial)⟩, ⟨zf1 BK290.out NB290_294.out⟩, ⟨by (with_reducible repeat (first | refine blk_drewN ?_ _ | refine blk_drew ?_ | refine blk_alloc ?_ _)); refine blk_put (cs := #[.slice none 0 0]) ?_ 0 _ rfl; (with_reducible repeat (first | refine blk_drewN ?_ _ | refine blk_drew ?_ | refine blk_alloc ?_ _)); exact BK294.out⟩, ⟨zh HB.out⟩⟩
 case round =>
  clear H'
  try clear c1
  try clear p2
  try clear c8
  try clear hcz9_0
  try clear hfz9_0
  obtain ⟨x11_1, x295000_1, u295000, rfl, HA, HK1, HO_295000, BK290, BK294, HB⟩ := hrel
  cases gk with
  | zero => exact absurd HA.out (by simp [impl_votesBy.l0])
  | succ k1 =>
   have H := HA.out
   clear HA
   simp only [impl_votesBy.l0] at H
   by_cases c10 : x11_1 < (l1.length : Int)
   rotate_left
   ·rw [if_neg c10] at H
    have c10b0 : decide (x11_1 < (l1.length : Int)) = false := decide_eq_false c10
    clear c10
    replace H := Option.bind_eq_some_iff.mp H
    obtain ⟨⟨t300, t301⟩, A190, H⟩ := H
    replace H : (some (t300, t301)) = some (r1, r2) := H
    have A19 := Aside0.mk A190
    clear A190
    simp only [Option.some.injEq, Prod.mk.injEq] at H
    obtain ⟨rfl, rfl⟩ := H
    obtain ⟨Ao20, co20, eo20⟩ := Kd.R_slice HO_295000.out
    subst eo20
    go_wp2_with (first | ((with_reducible refine gate_callee (f := 100) rfl ?_); refine zl 23 Tryz.func100 #[.int .i64 a0, .func (.func 125) #[] #[.pointer (some ⟨gb294, 0, none⟩)]] ?_; (with_reducible refine (votesOf_votesBy.calls k1 a0 _ _ x295000_1 t300 t301 _ ?side1 ?side2 gb294 (by first | exact (blk_cell (zb BK294.out) 0).trans rfl | exact (blk_cell (blk_put (zb BK294.out) 0 _ rfl) 0).trans rfl | exact zb BK294.out) A19.out).mono ?_); (case side1 => repeat (first | exact (Kd.R_reads' HO_295000.out).2.2 | (with_reducible refine Kd.C_alloc ?_ _) | (with_reducible refine Kd.C_drewN ?_ _) | (with_reducible refine Kd.C_drew ?_))); (case side2 => exact (Kd.R_reads' HO_295000.out).2.1); rintro e w21 ⟨v302, rfl, ho0, hb⟩; refine ⟨_, rfl, ?_⟩; have n0_ := Aside0.mk (Kd.R_below (zr HO_295000.out) hb); have n1_ := Aside0.mk (Kd.R_lower ho0 (below_size (zh HB.out))); have n2_ := Aside0.mk (blk_below (g := gb290) (o := .cells #[.int .i64 0, .slice none 0 0] 86 (0, 0)) (zb BK290.out) hb); have n3_ := Aside0.mk (blk_below (g := gb294) (o := .cells #[.slice Ao20 x295000_1.length co20] 36 (0, 0)) (zb BK294.out) hb); have n4_ := Aside0.mk (below_step (zh HB.out) hb); clear HO_295000; clear BK290; clear BK294; clear HB; have HO_295000 := n0_; have HO303 := n1_; have BK290 := n2_; have BK294 := n3_; have HB := n4_; clear n0_ n1_ n2_ n3_ n4_; (try clear hb); (try clear hb2); (try clear hk); (try clear hi); (try clear ho0); have hnb22 := NB290_294.out; have hnc22 := NB294_290.out; have hcz23_0 : w21.cell? ⟨gb290, 0, none⟩ = some (.int .i64 0) := (blk_cell BK290.out 0).trans rfl; have hcz23_1 : w21.cell? ⟨gb290, 1, none⟩ = some (.slice none 0 0) := (blk_cell BK290.out 1).trans rfl; have hfz23_0 := blk_frozen BK290.out 0; have hfz23_1 := blk_frozen BK290.out 1; obtain ⟨Ao24, co24, eo24⟩ := Kd.R_slice HO303.out; subst eo24))
    refine bodyPost_ret (results_cell_row rfl _ _ gb290 86 #[.int .i64 t300, .slice Ao24 t301.length co24] (0, 0) _ rfl (by (with_reducible repeat (first | refine blk_drewN ?_ _ | refine blk_drew ?_ | refine blk_alloc ?_ _)); refine blk_put (cs := #[.int .i64 t300, .slice none 0 0]) ?_ 1 _ rfl; (with_reducible repeat (first | refine blk_drewN ?_ _ | refine blk_drew ?_ | refine blk_alloc ?_ _)); refine blk_put (cs := #[.int .i64 0, .slice none 0 0]) ?_ 0 _ rfl; (with_reducible repeat (first | refine blk_drewN ?_ _ | refine blk_drew ?_ | refine blk_alloc ?_ _)); exact BK290.out) Tryz.underlying86 rfl (by kernel_rfl)) rfl ?_
    exact ⟨_, by first | rfl | (simp [*, errW_none, errW_some] <;> rfl), by (with_reducible repeat (first | apply Kd.R_alloc | apply Kd.R_drewN | apply Kd.R_drew)); exact Kd.R_mono (Kd.R_far (p := ⟨gb290, 1, none⟩) (Kd.R_far (p := ⟨gb290, 0, none⟩) (Kd.R_types HO303.out BK290.out (by decide)) (fun _ hk => hk.2) (.int .i64 t300)) (fun _ hk => hk.2) (.slice Ao24 t301.length co24)) (fun _ hk => trivial), zh HB.out⟩
   rw [if_pos c10] at H
   have c10b0 : decide (x11_1 < (l1.length : Int)) = true := decide_eq_true c10
   clear c10
   by_cases c11 : 0 ≤ x11_1
   rotate_left
   ·rw [if_neg c11] at H
    exact absurd H (by simp)
   rw [if_pos c11] at H
   have c11b0 : decide (0 ≤ x11_1) = true := decide_eq_true c11
   clear c11
   by_cases c12 : x11_1 < (l1.length : Int)
   rotate_left
   ·rw [if_neg c12] at H
    exact absurd H (by simp)
   rw [if_pos c12] at H
   have c12b0 : decide (x11_1 < (l1.length : Int)) = true := decide_eq_true c12
   clear c12
   replace H := Option.bind_eq_some_iff.mp H
   obtain ⟨t296, A130, H⟩ := H
   replace H : (if x295000_1.length < 17592186044416 then (impl_votesBy.l0 k1 a0 l1 (l1.length : Int) (wrap64 (x11_1 + 1)) (x295000_1 ++ [t296])) else (none)) = some (r1, r2) := H
   have A13 := Aside0.mk A130
   clear A130
   by_cases c14 : x295000_1.length < 17592186044416
   rotate_left
   ·rw [if_neg c14] at H
    exact absurd H (by simp)
   rw [if_pos c14] at H
   have LMc14 := Aside0.mk c14
   clear c14
   obtain ⟨y297, hy297⟩ : ∃ y_ : List Int, y_ = (x295000_1 ++ [t296]) := ⟨_, rfl⟩
   replace H : (impl_votesBy.l0 k1 a0 l1 (l1.length : Int) (wrap64 (x11_1 + 1)) y297) = some (r1, r2) := by first | (rw [hy297]; with_reducible exact H) | (have H2_ := (Option.bind_some _ _).symm.trans H; rw [hy297]; with_reducible exact H2_) | (have H2_ := (Option.bind_some _ _).symm.trans H; with_reducible exact H2_) | with_reducible exact H | (rw [hy297]; exact H) | exact H
   have Ny297 := Aside0.mk hy297
   clear hy297
   have H' := Aside0.mk H
   clear H
   have p295 : 0 ≤ (x11_1 : Int) := zk
   have q295 : x11_1 < (l1.length : Int) := zk
   obtain ⟨ad295, A295_0, c295_0, e295, hx295_0, hl295_0, hi295_0⟩ := at_L4 HR1.out x11_1 p295 q295
   cases e295
   replace hx295_0 := zx HB.out hx295_0
   have HR295_0 := Aside0.mk hi295_0
   have HC295_0 := Aside0.mk hl295_0
   clear hi295_0 hl295_0
   replace p295 := eq_true p295
   replace q295 := eq_true q295
   try go_wp2
   have n0_ := Aside0.mk (Kd.R_drew HO_295000.out)
   have n1_ := Aside0.mk (blk_drew BK290.out)
   have n2_ := Aside0.mk (blk_drew BK294.out)
   have n3_ := Aside0.mk (below_drew1 HB.out)
   clear HO_295000
   clear BK290
   clear BK294
   clear HB
   have HO_295000 := n0_
   have BK290 := n1_
   have BK294 := n2_
   have HB := n3_
   clear n0_ n1_ n2_ n3_
   refine start_ (n := 6) (S := fun w' => w'.cell? ⟨gb294, 0, none⟩ = some (u295000)) (ds := [5]) (tb 6 0) (by kernel_rfl) rfl rfl ((blk_cell BK294.out 0).trans rfl) (fun hHeld => ?_)
   generalize wr.drew = w15 at HO_295000 BK290 BK294 HB hHeld ⊢
   refine pure_ (i := 1) (N := some 16) (v := ?_) (a' := ?_) (tb 6 2) rfl rfl (by kernel_rfl) (fun _ _ _ h => h) (Or.inl ⟨by rfl, ?_⟩) ?_ ?_
   rotate_left
   ·intro w'
    go_simp
    with_reducible rfl
   rotate_left
   ·simp only [Act.put, List.setIfInBounds_toArray, List.set_cons_zero, List.set_cons_succ, i64_w, i32_w]
    rfl
   refine take_ (i := 0) (N := some 15) (v := ?_) (a' := ?_) (tb 6 3) rfl rfl (by kernel_rfl) (fun _ _ _ h => h) (Or.inl ⟨by rfl, ?_⟩) hHeld ?_ ?_
   rotate_left
   ·intro w' s0
    go_simp
    with_reducible rfl
   rotate_left
   ·simp only [Act.put, List.setIfInBounds_toArray, List.set_cons_zero, List.set_cons_succ, i64_w, i32_w]
    rfl
   refine one_ (i := 2) (N := some 17) (tb 6 7) rfl rfl (by kernel_rfl) (by decide) (fun K hK => ?_)
   refine goes_ Tryz.func124 (by kernel_rfl) rfl #[.slice A295_0 (rd_L4 l1 x11_1).length c295_0] (by rfl) rfl rfl (by (try simp only [List.map_toArray, List.map_cons, List.map_nil]); first | done | rfl | (simp only [List.length_drop, List.length_take]; rfl)) ?_
   with_reducible refine (impl_maskOf.calls k1 _ _ (rd_L4 l1 x11_1) t296 _ ?side1 ?side2 A13.out).mono ?_
   (case side1 => repeat (first | exact (Kd.C_below HR295_0.out HB.out) | (with_reducible refine Kd.C_alloc ?_ _) | (with_reducible refine Kd.C_drewN ?_ _) | (with_reducible refine Kd.C_drew ?_)))
   (case side2 => exact HC295_0.out)
   rintro e w' ⟨rfl, ⟨nd, rfl⟩⟩
   refine ⟨_, rfl, ?_⟩
   refine hK.out _ _ ((blk_cell BK294.out 0).trans rfl) (fun hHeld => ?_)
   clear hK K
   refine norm_ (a' := ?_) ?_ ?_
   rotate_left
   ·show Act.put _ (some 17) _ = _
    simp only [Act.put, List.setIfInBounds_toArray, List.set_cons_zero, List.set_cons_succ, i64_w, i32_w]
    rfl
   refine one_ (i := 3) (N := some 18) (tb 6 15) rfl rfl (by kernel_rfl) (by decide) (fun K hK => ?_)
   refine value_ (w1 := ?_) (v := ?_) (by rfl) rfl ?_ ?_
   rotate_left 2
   ·go_simp
    constructor
    ·rfl
    ·rfl
   refine hK.out _ _ ((blk_cell (blk_alloc BK294.out _) 0).trans rfl) (fun hHeld => ?_)
   clear hK K
   refine norm_ (a' := ?_) ?_ ?_
   rotate_left
   ·show Act.put _ (some 18) _ = _
    simp only [Act.put, List.setIfInBounds_toArray, List.set_cons_zero, List.set_cons_succ, i64_w, i32_w]
    rfl
   refine one_ (i := 4) (N := some 19) (tb 6 31) rfl rfl (by kernel_rfl) (by decide) (fun K hK => ?_)
   refine Kd.R_append_step (Kd.int .i64) (w0 := w) w.heap.size (by rfl) (.tmp 15) (.tmp 18) 36 3 (.int .i64 0) 8 rfl Tryz.underlying36 info3 rfl (by decide) (by omega) u295000 x295000_1 t296 [.int .i64 t296] (fun _ => True) (fun _ => False) rfl rfl ?aP (fun _ hk => hk.elim) ?aF ?aO ?aB ?aS ?aL ?_
   (case aP => exact rfl)
   (case aB => exact (zh HB.out))
   (case aF => exact (fun _ _ => trivial))
   (case aO => exact (zr HO_295000.out))
   (case aS => exact (below_size (zh HB.out)))
   (case aL => have := LMc14.out; omega)
   intro v298 w16 ho hb hg hat
   rw [← Ny297.out] at ho
   have n0_ := Aside0.mk (blk_grown (g := gb290) (o := .cells #[.int .i64 0, .slice none 0 0] 86 (0, 0)) (zb BK290.out) hg (Kd.R_ne HO_295000.out BK290.out (by decide)))
   have n1_ := Aside0.mk (blk_grown (g := gb294) (o := .cells #[u295000] 36 (0, 0)) (zb BK294.out) hg (Kd.R_ne HO_295000.out BK294.out (by decide)))
   have n2_ := Aside0.mk (hb)
   have n3_ := Aside0.mk (ho)
   clear BK290
   clear BK294
   clear HB
   clear HO_295000
   have BK290 := n0_
   have BK294 := n1_
   have HB := n2_
   have HO299 := n3_
   clear n0_ n1_ n2_ n3_
   clear ho hb hg hat
   obtain ⟨Ao17, co17, eo17⟩ := Kd.R_slice HO299.out
   (first | subst eo17 | (injection eo17 with f1_ f2_ f3_; have f4_ := f1_.symm; have f5_ := f3_.symm; clear f1_ f2_ f3_; subst f4_; subst f5_))
   refine hK.out _ _ ((blk_cell BK294.out 0).trans rfl) (fun hHeld => ?_)
   clear hK K
   refine norm_ (a' := ?_) ?_ ?_
   rotate_left
   ·show Act.put _ (some 19) _ = _
    simp only [Act.put, List.setIfInBounds_toArray, List.set_cons_zero, List.set_cons_succ, i64_w, i32_w]
    rfl
   refine last_ (i := 5) (N := none) (tb 6 63) rfl rfl (by kernel_rfl) (by decide) (fun K hK => ?_)
   have hs18 : w16.cell? ⟨gb294, 0, none⟩ = some (u295000) := (blk_cell BK294.out 0).trans rfl
   have hfs18 := blk_frozen BK294.out 0
   have hns18_0 := NB290_294.out
   have hms18_0 := NB294_290.out
   refine skip_ (w1 := ?_) (by rfl) rfl ?_ ?_
   rotate_left
   ·go_simp
    rfl
   refine hK.out _ _ ?_
   clear hK K
   refine done_ (by kernel_rfl) ?_
   try go_wp2
   go_roundg k1
   case measure => have := HK1.out; omega
   case rel => exact ⟨(wrap64 (x11_1 + 1)), (y297), (.slice Ao17 y297.length co17), (by first | rfl | (simp; done) | (simp [*]; done)), H', ⟨by have := HK1.out; omega⟩, ⟨by (with_reducible repeat (first | apply Kd.R_alloc | apply Kd.R_drewN | apply Kd.R_drew)); exact Kd.R_mono (Kd.R_far (p := ⟨gb294, 0, none⟩) (Kd.R_types HO299.out BK294.out (by decide)) (fun _ hk => hk.2) (.slice Ao17 y297.length co17)) (fun _ hk => trivial)⟩, ⟨zf1 BK290.out NB290_294.out⟩, ⟨by (with_reducible repeat (first | refine blk_drewN ?_ _ | refine blk_drew ?_ | refine blk_alloc ?_ _)); refine blk_put (cs := #[u295000]) ?_ 0 _ rfl; (with_reducible repeat (first | refine blk_drewN ?_ _ | refine blk_drew ?_ | refine blk_alloc ?_ _)); exact BK294.out⟩, ⟨zh HB.out⟩⟩
def impl_Game_votes.f (k : Nat) (a0_0 : Int) (l0_1 : List (List Int)) : Option (Int × List Bool) := (impl_votesBy.f k a0_0 l0_1).bind fun bt306 => (some (bt306.1, bt306.2))
set_option maxHeartbeats 8000000 in
set_option maxRecDepth 100000 in
theorem impl_Game_votes.calls (k : Nat) (a0_0 : Int) (A0_1 : Option Addr) (c0_1 : Nat) (l0_1 : List (List Int)) (r1 : Int) (r2 : List Bool) (w : World) (hr0_1 : Kd.C (Kd.slice 3 (Kd.int .i64)) w A0_1 l0_1.length l0_1) (hc0_1 : l0_1.length ≤ c0_1) (h : impl_Game_votes.f k a0_0 l0_1 = some (r1, r2)) :
  Calls Tryz.prog 80 #[.agg #[.int .i64 a0_0, .slice A0_1 l0_1.length c0_1]] w fun e w' => ∃ v1_ : Value, e = .returned (.agg #[.int .i64 r1, v1_]) ∧ Kd.R Kd.bool 4 w' w.heap.size (fun _ => True) v1_ r2 ∧ Below w.heap.size w w' := by
 have hu46 := Tryz.underlying46
 have hu86 := Tryz.underlying86
 have HR0_1 := Aside0.mk hr0_1
 have HC0_1 := Aside0.mk hc0_1
 clear hr0_1 hc0_1
 have HB := Aside0.mk (Below.refl w.heap.size w)
 have H : ((impl_votesBy.f k a0_0 l0_1).bind fun bt306 => (some (bt306.1, bt306.2))) = some (r1, r2) := h
 clear h
 replace H := Option.bind_eq_some_iff.mp H
 obtain ⟨⟨t306, t307⟩, A20, H⟩ := H
 replace H : (some (t306, t307)) = some (r1, r2) := H
 have A2 := Aside0.mk A20
 clear A20
 simp only [Option.some.injEq, Prod.mk.injEq] at H
 obtain ⟨rfl, rfl⟩ := H
 go_enter Tryz.func80, Tryz.ntmps80
 go_wp2_with (first | ((with_reducible refine gate_dst (N := 1) rfl ?_); refine zq 1 #[.int .i64 a0_0, .slice A0_1 l0_1.length c0_1] 46 ?_; intro gb304 hg w3 hbox hb; have n2_ := Aside0.mk ((by rw [hg]; exact (below_size (zh HB.out)) : w.heap.size ≤ gb304)); replace HB := Aside0.mk (below_step (zh HB.out) hb); have BK304 := Aside0.mk hbox; have GW304 := n2_; have GE304 := n2_; clear n2_ hb hbox hg) | ((with_reducible refine gate_dst (N := 2) rfl ?_); refine zq 2 #[.int .i64 0, .slice none 0 0] 86 ?_; intro gb305 hg w4 hbox hb; have n0_ := Aside0.mk (blk_below (g := gb304) (o := .cells #[.int .i64 a0_0, .slice A0_1 l0_1.length c0_1] 46 (0, 0)) (zb BK304.out) hb); have n1_ := Aside0.mk (below_step (zh HB.out) hb); have n2_ := Aside0.mk (hbox); have n3_ := Aside0.mk ((by rw [hg]; exact (below_size (zh HB.out)) : w.heap.size ≤ gb305)); have n4_ := Aside0.mk ((by rw [hg]; exact (below_size (zh HB.out)) : w.heap.size ≤ gb305)); have n5_ := Aside0.mk ((by rw [hg]; exact Nat.ne_of_lt (blk_lt (g := gb304) (o := .cells #[.int .i64 a0_0, .slice A0_1 l0_1.length c0_1] 46 (0, 0)) (zb BK304.out)) : gb304 ≠ gb305)); have n6_ := Aside0.mk ((by rw [hg]; exact Nat.ne_of_gt (blk_lt (g := gb304) (o := .cells #[.int .i64 a0_0, .slice A0_1 l0_1.length c0_1] 46 (0, 0)) (zb BK304.out)) : gb305 ≠ gb304)); clear BK304; clear HB; have BK304 := n0_; have HB := n1_; have BK305 := n2_; have GW305 := n3_; have GE305 := n4_; have NB304_305 := n5_; have NB305_304 := n6_; clear n0_ n1_ n2_ n3_ n4_ n5_ n6_; clear hb hbox hg; have hnb5 := NB304_305.out; have hnc5 := NB305_304.out; have hcz6_0 : w4.cell? ⟨gb304, 0, none⟩ = some (.int .i64 a0_0) := (blk_cell BK304.out 0).trans rfl; have hcz6_1 : w4.cell? ⟨gb304, 1, none⟩ = some (.slice A0_1 l0_1.length c0_1) := (blk_cell BK304.out 1).trans rfl; have hfz6_0 := blk_frozen BK304.out 0; have hfz6_1 := blk_frozen BK304.out 1) | ((with_reducible refine gate_callee (f := 107) rfl ?_); refine zl 7 Tryz.func107 #[.int .i64 a0_0, .slice A0_1 l0_1.length c0_1] ?_; (with_reducible refine (impl_votesBy.calls k a0_0 _ _ l0_1 t306 t307 _ ?side1 ?side2 A2.out).mono ?_); (case side1 => repeat (first | exact (Kd.C_below HR0_1.out HB.out) | (with_reducible refine Kd.C_alloc ?_ _) | (with_reducible refine Kd.C_drewN ?_ _) | (with_reducible refine Kd.C_drew ?_))); (case side2 => exact HC0_1.out); rintro e w7 ⟨v308, rfl, ho0, hb⟩; refine ⟨_, rfl, ?_⟩; have n0_ := Aside0.mk (Kd.R_lower ho0 (below_size (zh HB.out))); have n1_ := Aside0.mk (blk_below (g := gb304) (o := .cells #[.int .i64 a0_0, .slice A0_1 l0_1.length c0_1] 46 (0, 0)) (zb BK304.out) hb); have n2_ := Aside0.mk (blk_below (g := gb305) (o := .cells #[.int .i64 0, .slice none 0 0] 86 (0, 0)) (zb BK305.out) hb); have n3_ := Aside0.mk (below_step (zh HB.out) hb); clear BK304; clear BK305; clear HB; have HO309 := n0_; have BK304 := n1_; have BK305 := n2_; have HB := n3_; clear n0_ n1_ n2_ n3_; (try clear hb); (try clear hb2); (try clear hk); (try clear hi); (try clear ho0); have hcz8_0 : w7.cell? ⟨gb305, 0, none⟩ = some (.int .i64 0) := (blk_cell BK305.out 0).trans rfl; have hcz8_1 : w7.cell? ⟨gb305, 1, none⟩ = some (.slice none 0 0) := (blk_cell BK305.out 1).trans rfl; have hfz8_0 := blk_frozen BK305.out 0; have hfz8_1 := blk_frozen BK305.out 1; obtain ⟨Ao9, co9, eo9⟩ := Kd.R_slice HO309.out; subst eo9))
 refine bodyPost_ret (results_cell_row rfl _ _ gb305 86 #[.int .i64 t306, .slice Ao9 t307.length co9] (0, 0) _ rfl (by (with_reducible repeat (first | refine blk_drewN ?_ _ | refine blk_drew ?_ | refine blk_alloc ?_ _)); refine blk_put (cs := #[.int .i64 t306, .slice none 0 0]) ?_ 1 _ rfl; (with_reducible repeat (first | refine blk_drewN ?_ _ | refine blk_drew ?_ | refine blk_alloc ?_ _)); refine blk_put (cs := #[.int .i64 0, .slice none 0 0]) ?_ 0 _ rfl; (with_reducible repeat (first | refine blk_drewN ?_ _ | refine blk_drew ?_ | refine blk_alloc ?_ _)); exact BK305.out) Tryz.underlying86 rfl (by kernel_rfl)) rfl ?_
 exact ⟨_, by first | rfl | (simp [*, errW_none, errW_some] <;> rfl), by (with_reducible repeat (first | apply Kd.R_alloc | apply Kd.R_drewN | apply Kd.R_drew)); exact Kd.R_mono (Kd.R_far (p := ⟨gb305, 1, none⟩) (Kd.R_far (p := ⟨gb305, 0, none⟩) (Kd.R_types HO309.out BK305.out (by decide)) (fun _ hk => hk.2) (.int .i64 t306)) (fun _ hk => hk.2) (.slice Ao9 t307.length co9)) (fun _ hk => trivial), zh HB.out⟩
end Go.Proofs.YtgjakcpbfbfejaaGreat.Q
end
section
namespace Go.Proofs.YtgjakcpbfbfejaaGreat.Q
open Go.RowKit Go.Proofs.YtgjakcpbfbfejaaGreatW.PrintWords Go.Proofs.YtgjakcpbfbfejaaGreatW.PrintLast Go.Proofs.YtgjakcpbfbfejaaGreatW.PrintMore
set_option linter.unusedVariables false
set_option linter.unusedSimpArgs false
set_option maxHeartbeats 2000000 in
theorem indexFunc_clue (p : S72 → Option Bool) (g : Nat) (lb : Array Value) (eg : ∀ args w, (callFunc g args).run Tryz.prog w = .ok (.enter g args) w)
    (A0 : Option Addr) (c0 : Nat) (l0 : List S72) (r : Int) (w : World) (hr0 : Kd.C k72 w A0 l0.length l0) (hc0 : l0.length ≤ c0)
    (hp : PredK Tryz.prog g lb k72 (fun c => .agg c.toArray) w p) (h : idxO p l0 0 = some r) :
    Calls Tryz.prog 97 #[.slice A0 l0.length c0, .func (.func g) #[] lb] w fun e w' => e = .returned (.int .i64 r) ∧ Below w.heap.size w w' := by
  have hlen := hr0.2.1
  have HR0 := Aside0.mk hr0
  clear hr0
  have HP := Aside0.mk hp
  clear hp
  have H0 := Aside0.mk h
  clear h
  go_enter Tryz.func97, Tryz.ntmps97
  go_wp2
  go_loopg [5, 8] l0.length (fun gg _ s8 wr => ∃ kk : Nat, kk ≤ l0.length ∧ l0.length - kk ≤ gg ∧ s8 = .int .i64 kk ∧ Aside0 (Below w.heap.size w wr) ∧ Aside0 (idxO p (l0.drop kk) kk = some r))
  case atStart => exact ⟨0, Nat.zero_le _, by omega, rfl, ⟨Below.refl _ w⟩, H0⟩
  case round =>
    obtain ⟨kk, hkk, hg, rfl, BW, A⟩ := hrel
    by_cases hlt : kk < l0.length
    · have hltz : (kk : Int) < (l0.length : Int) := by omega
      obtain ⟨ad, e, x0, x1, x2⟩ := at_T72 HR0.out (kk : Int) (by omega) hltz
      subst e
      replace x0 := (BW.out.cell (World.block_lt_of_cell? w _ x0)).trans x0
      replace x1 := (BW.out.cell (World.block_lt_of_cell? w _ x1)).trans x1
      replace x2 := (BW.out.cell (World.block_lt_of_cell? w _ x2)).trans x2
      rw [Int.toNat_natCast] at x0 x1 x2
      obtain ⟨b, hb, h1, h2⟩ := idxO_step A.out (show l0[kk]? = some (rd_T72 l0 (kk : Int)) by unfold rd_T72; rw [Int.toNat_natCast, List.getD_eq_getElem?_getD, List.getElem?_eq_getElem hlt]; rfl)
      have hcall := HP.out wr _ _ b BW.out (k72_mk w _) hb
      generalize rd_T72 l0 (kk : Int) = y at x0 x1 x2 hcall hb
      have B := Aside0.mk hb
      clear hb
      cases b with
      | true =>
        have E := Aside0.mk (h1 rfl)
        clear h1 h2
        go_wp2_with (go_at_fn g; refine hcall.mono ?_; rintro e w' ⟨rfl, hb'⟩)
        go_ret
        exact ⟨ret_i E.out.symm, hb'⟩
      | false =>
        have E := Aside0.mk (h2 rfl)
        clear h1 h2
        go_wp2_with (go_at_fn g; refine hcall.mono ?_; rintro e w' ⟨rfl, hb'⟩)
        go_roundg (l0.length - (kk + 1))
        case measure => omega
        case rel => exact ⟨kk + 1, by omega, by omega, by go_num, ⟨hb'⟩, E⟩
    · have hltz : ¬ (kk : Int) < (l0.length : Int) := by omega
      have : kk = l0.length := by omega
      subst this
      go_wp2
      go_ret
      refine ⟨?_, BW.out⟩
      have h3 := A.out
      rw [List.drop_length] at h3
      have h4 : (-1 : Int) = r := by simpa [idxO] using h3
      exact ret_i h4
set_option maxHeartbeats 1000000 in
theorem containsFunc_clue (p : S72 → Option Bool) (g : Nat) (lb : Array Value) (eg : ∀ args w, (callFunc g args).run Tryz.prog w = .ok (.enter g args) w)
    (A0 : Option Addr) (c0 : Nat) (l0 : List S72) (r : Bool) (w : World) (hr0 : Kd.C k72 w A0 l0.length l0) (hc0 : l0.length ≤ c0)
    (hp : PredK Tryz.prog g lb k72 (fun c => .agg c.toArray) w p) (h : anyO p l0 = some r) :
    Calls Tryz.prog 74 #[.slice A0 l0.length c0, .func (.func g) #[] lb] w fun e w' => e = .returned (.bool r) ∧ Below w.heap.size w w' := by
  obtain ⟨i, hi, rfl⟩ := anyO_idxO p l0 0 r h
  have hcon := indexFunc_clue p g lb eg A0 c0 l0 i w hr0 hc0 hp hi
  clear hr0 hp h hi
  go_enter Tryz.func74, Tryz.ntmps74
  go_wp2_with (go_at_call 97; refine hcon.mono ?_; rintro e w' ⟨rfl, hb'⟩)
  go_ret
  exact ⟨rfl, hb'⟩
def impl_IsPuzzle_1.f (m : Int) (x : S72) : Option Bool := (impl_IsClue.f m x.f0 x.f1 x.f2).bind fun b => some (!b)
set_option maxHeartbeats 1000000 in
theorem impl_IsPuzzle_1.pred (m : Int) (v : Value) (b1 : Nat) (w : World) (h1 : w.cell? ⟨b1, 0, none⟩ = some (.int .i64 m)) :
    PredK Tryz.prog 75 #[.pointer (some ⟨b1, 0, none⟩)] k72 (fun c => .agg c.toArray) w (impl_IsPuzzle_1.f m) := by
  intro W x c b hb hK hp
  obtain rfl := k72_open hK
  show Calls Tryz.prog 75 #[.agg #[.int .i64 x.f0, .int .i64 x.f1, .int .i64 x.f2], .pointer (some ⟨b1, 0, none⟩)] W _
  have q1 := (hb.cell (World.block_lt_of_cell? w _ h1)).trans h1
  have q2 := Nat.lt_of_lt_of_le (World.block_lt_of_cell? w _ h1) hb.size
  obtain ⟨t, ht, hr⟩ := Option.bind_eq_some_iff.mp hp
  have hr' : (!t) = b := Option.some.inj hr
  have hB := Aside0.mk hb
  have hT := Aside0.mk ht
  have hE := Aside0.mk hr'
  have q3 : W.heap.size ≠ b1 := by have : b1 < W.heap.size := q2; omega
  have q4 : b1 ≠ W.heap.size := fun h => q3 h.symm
  clear h1 hb hK hp hr hr' ht
  go_enter Tryz.func75, Tryz.ntmps75
  go_wp2_with (go_at_call 76; refine (impl_IsClue.calls _ _ _ _ _ _ hT.out).mono ?_; rintro e w' ⟨rfl, hb'⟩)
  go_ret
  exact ⟨ret_b hE.out, hB.out.trans (((Below.refl W.heap.size W).alloc (Nat.le_refl _) _).trans (hb'.mono (by simp)) |>.mono hB.out.size)⟩
def impl_IsPuzzle.f (a0_0 : Int) (l0_1 : List S72) : Option Bool :=
  (impl_isHidden.f a0_0).bind fun t => if t = true then (if (l0_1.length : Int) ≤ 8 then (anyO (impl_IsPuzzle_1.f a0_0) l0_1).bind fun b => some (!b) else some false) else some false
set_option maxHeartbeats 2000000 in
theorem impl_IsPuzzle.calls (a0_0 : Int) (A0_1 : Option Addr) (c0_1 : Nat) (l0_1 : List S72) (r : Bool) (w : World) (hr0_1 : Kd.C k72 w A0_1 l0_1.length l0_1) (hc0_1 : l0_1.length ≤ c0_1) (h : impl_IsPuzzle.f a0_0 l0_1 = some r) :
    Calls Tryz.prog 56 #[.agg #[.int .i64 a0_0, .slice A0_1 l0_1.length c0_1]] w fun e w' => e = .returned (.bool r) ∧ Below w.heap.size w w' := by
  have eg : ∀ args w, (callFunc 75 args).run Tryz.prog w = .ok (.enter 75 args) w := enters_of Tryz.func75 (by kernel_rfl) rfl
  obtain ⟨t, ht, h⟩ := Option.bind_eq_some_iff.mp h
  have hT := Aside0.mk ht
  have HR := Aside0.mk hr0_1
  clear ht hr0_1
  cases t with
  | false =>
    rw [if_neg (by simp)] at h
    obtain rfl := Option.some.inj h
    go_enter Tryz.func56, Tryz.ntmps56
    go_wp2_with (go_at_call 73; refine (impl_isHidden.calls _ _ _ hT.out).mono ?_; rintro e w' ⟨rfl, nd, rfl⟩)
    go_ret
    exact ⟨rfl, pw_below_drewN ((Below.refl _ w).alloc (Nat.le_refl _) _) _⟩
  | true =>
    rw [if_pos rfl] at h
    by_cases hl : l0_1.length ≤ 8
    · rw [if_pos (by omega)] at h
      obtain ⟨b, hb, h⟩ := Option.bind_eq_some_iff.mp h
      obtain rfl := Option.some.inj h
      have hBB := Aside0.mk hb
      clear hb h
      have hl2 : (l0_1.length : Int) ≤ 8 := by omega
      go_enter Tryz.func56, Tryz.ntmps56
      go_wp2_with (go_at_call 73; refine (impl_isHidden.calls _ _ _ hT.out).mono ?_; rintro e w' ⟨rfl, nd, rfl⟩)
      refine (containsFunc_clue (impl_IsPuzzle_1.f a0_0) 75 #[.pointer (some ⟨w.heap.size, 0, none⟩)] eg A0_1 c0_1 l0_1 b _ ?_ hc0_1 ?_ hBB.out).mono ?_
      · exact Kd.C_below HR.out (pw_below_drewN ((Below.refl _ w).alloc (Nat.le_refl _) _) _)
      · exact impl_IsPuzzle_1.pred a0_0 undef _ _ (by go_simp)
      · rintro e w' ⟨rfl, hb⟩
        go_wp2
        go_ret
        exact ⟨rfl, (pw_below_drewN ((Below.refl _ w).alloc (Nat.le_refl _) _) nd).trans (hb.mono (by simp))⟩
    · rw [if_neg (by omega)] at h
      obtain rfl := Option.some.inj h
      have hl2 : ¬ (l0_1.length : Int) ≤ 8 := by omega
      go_enter Tryz.func56, Tryz.ntmps56
      go_wp2_with (go_at_call 73; refine (impl_isHidden.calls _ _ _ hT.out).mono ?_; rintro e w' ⟨rfl, nd, rfl⟩)
      go_ret
      exact ⟨rfl, pw_below_drewN ((Below.refl _ w).alloc (Nat.le_refl _) _) _⟩
@[reducible] def PredG (P : Program) (g : Nat) (lb : Array Value) (wb : World) (p : S46 → Option Bool) : Prop :=
  ∀ (W : World) (x : S46) (A : Option Addr) (c : Nat) (b : Bool), Below wb.heap.size wb W → x.f1.length ≤ c → Kd.C (Kd.slice 3 (Kd.int .i64)) W A x.f1.length x.f1 → p x = some b → Calls P g (#[.agg #[.int .i64 x.f0, .slice A x.f1.length c]] ++ lb) W fun e w' => e = .returned (.bool b) ∧ Below W.heap.size W w'
def filO {α : Type} (p : α → Option Bool) : List α → Option (List α)
  | [] => some []
  | x :: xs => (p x).bind fun b => (filO p xs).bind fun r => some (if b = true then r else x :: r)
theorem filO_idx {α : Type} (p : α → Option Bool) : ∀ (l : List α) (k : Nat) (r : List α), filO p l = some r → ∃ i, idxO p l k = some i ∧ ((i = -1 ∧ r = l) ∨ ∃ n : Nat, i = ((k + n : Nat) : Int) ∧ n < l.length ∧ ∃ rest, filO p (l.drop (n + 1)) = some rest ∧ r = l.take n ++ rest)
  | [], k, r, h => ⟨-1, rfl, .inl ⟨rfl, (Option.some.inj h).symm⟩⟩
  | x :: xs, k, r, h => by
    obtain ⟨b, hb, h⟩ := Option.bind_eq_some_iff.mp h
    obtain ⟨r1, h1, h⟩ := Option.bind_eq_some_iff.mp h
    have hr := Option.some.inj h
    cases b with
    | true => exact ⟨k, by simp [idxO, hb], .inr ⟨0, by simp, by simp, r1, by simpa using h1, by simpa using hr.symm⟩⟩
    | false =>
      obtain ⟨i, hi, hc⟩ := filO_idx p xs (k + 1) r1 h1
      refine ⟨i, by simp [idxO, hb, hi], ?_⟩
      rcases hc with ⟨e1, e2⟩ | ⟨n, e1, e2, rest, e3, e4⟩
      · exact .inl ⟨e1, by rw [← hr, e2]; simp⟩
      · exact .inr ⟨n + 1, by rw [e1]; congr 1; omega, by simp; omega, rest, by simpa using e3, by rw [← hr, e4]; simp⟩
set_option maxHeartbeats 2000000 in
theorem indexFunc_game (p : S46 → Option Bool) (g : Nat) (lb : Array Value) (eg : ∀ args w, (callFunc g args).run Tryz.prog w = .ok (.enter g args) w) (wb : World)
    (A0 : Option Addr) (c0 : Nat) (l0 : List S46) (r : Int) (w : World) (hB : Below wb.heap.size wb w) (hr0 : Kd.C k46 w A0 l0.length l0) (hc0 : l0.length ≤ c0)
    (hp : PredG Tryz.prog g lb wb p) (h : idxO p l0 0 = some r) :
    Calls Tryz.prog 98 #[.slice A0 l0.length c0, .func (.func g) #[] lb] w fun e w' => e = .returned (.int .i64 r) ∧ Below w.heap.size w w' := by
  have hlen := hr0.2.1
  have HR0 := Aside0.mk hr0
  have HWB := Aside0.mk hB
  clear hr0 hB
  have HP := Aside0.mk hp
  clear hp
  have H0 := Aside0.mk h
  clear h
  go_enter Tryz.func98, Tryz.ntmps98
  go_wp2
  go_loopg [5, 8] l0.length (fun gg _ s8 wr => ∃ kk : Nat, kk ≤ l0.length ∧ l0.length - kk ≤ gg ∧ s8 = .int .i64 kk ∧ Aside0 (Below w.heap.size w wr) ∧ Aside0 (idxO p (l0.drop kk) kk = some r))
  case atStart => exact ⟨0, Nat.zero_le _, by omega, rfl, ⟨Below.refl _ w⟩, H0⟩
  case round =>
    obtain ⟨kk, hkk, hg, rfl, BW, A⟩ := hrel
    by_cases hlt : kk < l0.length
    · have hltz : (kk : Int) < (l0.length : Int) := by omega
      obtain ⟨ad, A1, c1, e, x0, x1, l1, g1⟩ := at_T46 (Kd.C_below HR0.out BW.out) (kk : Int) (by omega) hltz
      subst e
      rw [Int.toNat_natCast] at x0 x1
      obtain ⟨b, hb, h1, h2⟩ := idxO_step A.out (show l0[kk]? = some (rd_T46 l0 (kk : Int)) by unfold rd_T46; rw [Int.toNat_natCast, List.getD_eq_getElem?_getD, List.getElem?_eq_getElem hlt]; rfl)
      have hcall := HP.out wr _ A1 c1 b (HWB.out.trans (BW.out.mono HWB.out.size)) l1 g1 hb
      generalize rd_T46 l0 (kk : Int) = y at x0 x1 hcall hb l1 g1
      clear g1 hb
      cases b with
      | true =>
        have E := Aside0.mk (h1 rfl)
        clear h1 h2
        go_wp2_with (go_at_fn g; refine hcall.mono ?_; rintro e w' ⟨rfl, hb'⟩)
        go_ret
        exact ⟨ret_i E.out.symm, BW.out.trans (hb'.mono BW.out.size)⟩
      | false =>
        have E := Aside0.mk (h2 rfl)
        clear h1 h2
        go_wp2_with (go_at_fn g; refine hcall.mono ?_; rintro e w' ⟨rfl, hb'⟩)
        go_roundg (l0.length - (kk + 1))
        case measure => omega
        case rel => exact ⟨kk + 1, by omega, by omega, by go_num, ⟨BW.out.trans (hb'.mono BW.out.size)⟩, E⟩
    · have hltz : ¬ (kk : Int) < (l0.length : Int) := by omega
      have : kk = l0.length := by omega
      subst this
      go_wp2
      go_ret
      refine ⟨?_, BW.out⟩
      have h3 := A.out
      rw [List.drop_length] at h3
      have h4 : (-1 : Int) = r := by simpa [idxO] using h3
      exact ret_i h4
theorem run_clear_n {P : Program} (w : World) (t e ty : TypeId) (m : Nat) (z : Value) (zs : List Value) (ht : P.underlying t = some (.slice e)) (hv : ∀ w, (zeroValue e).run P w = .ok z w) (hz : (Builtin.zeroCells z.cells (m + 1)).toList = zs) (h1 : ∀ u ∈ zs, u.oneCell' = true) (b o c : Nat) (cur : Array Value) (hb : w.heap[b]? = some (.cells cur e (0, 0))) (hfit : o + zs.length ≤ cur.size) :
    (Builtin.clear_ #[t] ty #[.slice (some ⟨b, o, none⟩) (m + 1) c]).run P w = .ok (.tuple #[]) (w.setRow b (cur.toList.take o ++ zs ++ cur.toList.drop (o + zs.length)).toArray) := by
  have hst := run_storeCells_at (P := P) b o e zs 0 cur w hb (by simpa using hfit) h1
  simp only [Nat.add_zero] at hst
  simp [Builtin.clear_, run_underlying ht, hv, hz, hst]
theorem zeroG (w : World) : (zeroValue 46).run Tryz.prog w = .ok (.agg #[(.int .i64 0), (.slice none 0 0)]) w := by kernel_rfl
theorem zero_cells2 (a b : Value) (m : Nat) : (Builtin.zeroCells #[a, b] m).toList.length = m * 2 ∧ ∀ u ∈ (Builtin.zeroCells #[a, b] m).toList, u = a ∨ u = b := by
  unfold Builtin.zeroCells
  refine ⟨by simp, fun u hu => ?_⟩
  simp only [Array.toList_map, Array.toList_range, List.mem_map, List.mem_range, List.size_toArray, List.length_cons, List.length_nil] at hu
  obtain ⟨i, _, rfl⟩ := hu
  rcases Nat.mod_two_eq_zero_or_one i with h | h
  · left; simp [h]
  · right; simp [h]
theorem N_tail {α : Type} {d : Kd α} {e base i c g : Nat} {ok : Nat → Prop} {W : World} {xs : List α} {cur cur' : Array Value} (h : Kd.N d e W base ok (.slice (some ⟨g, 0, none⟩) i c) xs) (hb : W.heap[g]? = some (.cells cur e (0, 0))) (hs : cur'.size = cur.size) (ht : cur'.toList.take (i * d.sz) = cur.toList.take (i * d.sz)) :
    Kd.N d e (W.setRow g cur') base ok (.slice (some ⟨g, 0, none⟩) i c) xs := by
  obtain ⟨h0, rows, hl, ⟨hok, inner, ho, hr⟩, hf⟩ := h
  refine ⟨h0, rows, hl, ⟨hok, inner, ⟨ho.1, ?_⟩, ?_⟩, fun j x c hx hc => ?_⟩
  · rcases ho.2 with ⟨hv, _⟩ | ⟨g', cap, cur0, hv, hbase, hb0, h1, h2, h3, h4⟩
    · cases hv
    · injection hv with hA hn hc
      injection hA with hA
      injection hA with hA
      subst hA; subst hc
      rw [hb] at hb0
      injection hb0 with hb0
      injection hb0 with hb0
      subst hb0
      refine .inr ⟨g, c, cur', by rw [← hn], hbase, setRow_heap _ _ _ _ _ _ hb, h1, h2, hs.trans h3, ?_⟩
      rw [← h4, ← hn]; exact ht
  · exact hr.imp_ fun _ _ hp => hp
  · exact Kd.FK_step (hf j x c hx hc) (fun k hk _ => setRow_other _ _ _ _ (fun e => hk.2 (by rw [e]; rfl)))
theorem take_set_same {α : Type} (l : List α) (i : Nat) (x : α) (h : i < l.length) : (l.set i x).take (i + 1) = l.take i ++ [x] := by
  rw [List.take_succ_eq_append_getElem (by rw [List.length_set]; exact h), List.getElem_set_self, List.take_set_of_le (Nat.le_refl _)]
theorem drop_set_lt {α : Type} (l : List α) (i j : Nat) (x : α) (h : i < j) : (l.set i x).drop j = l.drop j := List.drop_set_of_lt h
theorem om7 {i j : Nat} (h : i < j) : i + 1 < j + 1 := by omega
theorem om8 {i j : Nat} (h : i < j) : i < j + 1 := by omega
theorem om9 {i n : Nat} (h : i < n) : ∃ m, n - i = m + 1 := ⟨n - i - 1, by omega⟩
theorem two_seg {W : World} {ok : Nat → Prop} {x : S46} {a b : Value} {ci : List Value} (h : ci.length = 2) (hF : Kd.FK k46 W ok x [a, b]) : Kd.FK k46 W ok x (ci.take 0 ++ [a, b] ++ ci.drop (0 + [a, b].length)) := by
  match ci, h with
  | [_, _], _ => exact hF
set_option maxHeartbeats 8000000 in
set_option maxRecDepth 100000 in
theorem deleteFunc_games (p : S46 → Option Bool) (g : Nat) (lb : Array Value) (eg : ∀ args w, (callFunc g args).run Tryz.prog w = .ok (.enter g args) w) (wb w : World) (A : Option Addr) (c : Nat) (l r : List S46)
    (hp : PredG Tryz.prog g lb wb p) (hB : Below wb.heap.size wb w) (hN : Kd.N k46 46 w wb.heap.size (fun z => wb.heap.size ≤ z) (.slice A l.length c) l) (hl : l.length ≤ 1000000) (h : filO p l = some r) :
    Calls Tryz.prog 77 #[.slice A l.length c, .func (.func g) #[] lb] w fun e w' => ∃ A' c', e = .returned (.slice A' r.length c') ∧ Kd.N k46 46 w' wb.heap.size (fun z => wb.heap.size ≤ z) (.slice A' r.length c') r ∧ Below wb.heap.size wb w' := by
  obtain ⟨i, hi, hcase⟩ := filO_idx p l 0 r h
  have hrd := Kd.N_reads' hN
  have HI := Aside0.mk (indexFunc_game p g lb eg wb A c l i w hB hrd.2.2 hrd.2.1 hp hi)
  have HN := Aside0.mk hN
  have HB := Aside0.mk hB
  have HP := Aside0.mk hp
  have hlc := hrd.2.1
  clear hN hB hp hi hrd h
  rcases hcase with ⟨rfl, rfl⟩ | ⟨n0, rfl, hn0, rest0, hrest0, hr0⟩
  · go_enter Tryz.func77, Tryz.ntmps77
    go_wp2_with (go_at_call 98; refine HI.out.mono ?_; rintro e w1 ⟨rfl, hb1⟩; have HB1 := Aside0.mk hb1; clear hb1)
    go_ret
    exact ⟨A, c, rfl, Kd.N_below HN.out HB1.out, HB.out.trans (HB1.out.mono HB.out.size)⟩
  · rw [Nat.zero_add] at HI
    obtain ⟨g0, cap, hv, hg0, hglt, cells, hcells⟩ := Kd.N_form HN.out (Nat.lt_of_le_of_lt (Nat.zero_le _) hn0)
    injection hv with hA _ hc
    subst hA; subst hc
    obtain ⟨inf, hinf, _, hinf2, _⟩ := info_parts info46
    have hm1 : ((n0 : Int) == -1) = false := by rw [beq_eq_false_iff_ne]; omega
    have hm2 : ¬ ((n0 : Int) = -1) := by omega
    have hw1 : wrap64 ((n0 : Int) + 1) = ((n0 + 1 : Nat) : Int) := om3 hn0 (Nat.le_trans hl (by decide))
    have HR0 := Aside0.mk hr0
    have HRS := Aside0.mk hrest0
    clear hr0 hrest0 hcells
    go_enter Tryz.func77, Tryz.ntmps77
    go_wp2_with (go_at_call 98; refine HI.out.mono ?_; rintro e w1 ⟨rfl, hb1⟩; have HN1 := Aside0.mk (Kd.N_below HN.out hb1); have HB1 := Aside0.mk (HB.out.trans (hb1.mono HB.out.size)); clear hb1 HN HI)
    go_loopg [5, 6] l.length (fun gg v5 v6 wr => ∃ (i j : Nat) (cur : List S46), i < j ∧ j ≤ l.length ∧ l.length - j ≤ gg ∧ v5 = .int .i64 i ∧ v6 = .int .i64 j ∧ Aside0 (cur.length = l.length) ∧ Aside0 (cur.drop j = l.drop j) ∧ Aside0 (∃ rest, filO p (l.drop j) = some rest ∧ r = cur.take i ++ rest) ∧ Aside0 (Kd.N k46 46 wr wb.heap.size (fun z => wb.heap.size ≤ z) (.slice (some ⟨g0, 0, none⟩) l.length c) cur) ∧ Aside0 (Below wb.heap.size wb wr))
    case atStart => exact ⟨n0, n0 + 1, l, Nat.lt_succ_self _, hn0, Nat.sub_le _ _, rfl, by first | rfl | (congr 1; omega), ⟨rfl⟩, ⟨rfl⟩, ⟨⟨rest0, HRS.out, HR0.out⟩⟩, HN1, HB1⟩
    case round =>
      clear HN1 HB1 HR0 HRS hw1 hm1 hm2
      obtain ⟨i, j, cur, hij, hj, hg, rfl, rfl, HL, HD, HR, HN, HB⟩ := hrel
      by_cases hlt : j < l.length
      · have hltz : (j : Int) < (l.length : Int) := Int.ofNat_lt.2 hlt
        have hdec : decide ((j : Int) < (l.length : Int)) = true := decide_eq_true hltz
        have hil : i < l.length := Nat.lt_trans hij hlt
        have hilz : (i : Int) < (l.length : Int) := Int.ofNat_lt.2 hil
        have hjc : j < cur.length := by rw [HL.out]; exact hlt
        obtain ⟨cj, hcl, hFK, hcc, hfr⟩ := Kd.N_elem HN.out z46 (j : Int) (Int.natCast_nonneg _) hltz
        rw [Int.toNat_natCast] at hFK hcc
        have hDj : l.drop j = cur.getD j z46 :: l.drop (j + 1) := by
          have h1 := HD.out
          rw [List.drop_eq_getElem_cons hjc, List.drop_eq_getElem_cons hlt] at h1
          rw [List.drop_eq_getElem_cons hlt, List.getD_eq_getElem?_getD, List.getElem?_eq_getElem hjc]
          exact congrArg (· :: l.drop (j + 1)) (List.cons.inj h1).1.symm
        have hDn : cur.drop (j + 1) = l.drop (j + 1) := by
          have h1 := HD.out
          rw [List.drop_eq_getElem_cons hjc, List.drop_eq_getElem_cons hlt] at h1
          exact (List.cons.inj h1).2
        obtain ⟨rest, hrest, hr⟩ := HR.out
        rw [hDj] at hrest
        clear hDj
        generalize cur.getD j z46 = x at hFK hrest
        obtain ⟨b, hpb, hrest⟩ := Option.bind_eq_some_iff.mp hrest
        obtain ⟨r1, hr1, hrest⟩ := Option.bind_eq_some_iff.mp hrest
        have hrst := Option.some.inj hrest
        obtain ⟨Ax, cx, rfl, hxl, hxF⟩ := k46_openF hFK
        have x0 : wr.cell? ⟨g0, j * 2, none⟩ = some (.int .i64 x.f0) := hcc 0 _ rfl
        have x1 : wr.cell? ⟨g0, j * 2 + 1, none⟩ = some (.slice Ax x.f1.length cx) := hcc 1 _ rfl
        have HFK := Aside0.mk hFK
        have HCL := Aside0.mk (fun (W : World) (hb : Below wr.heap.size wr W) => HP.out W x Ax cx b (HB.out.trans (hb.mono HB.out.size)) hxl (Kd.C_below (Kd.F_now hxF) hb) hpb)
        have HR1 := Aside0.mk hr1
        have HRR := Aside0.mk hr
        have HDN := Aside0.mk hDn
        have HST := Aside0.mk hrst
        clear hFK hcc hfr hxF hpb hr1 hr hDn hrst hrest HR HD hcl
        cases b
        case true =>
          have hs := HST.out
          rw [if_pos rfl] at hs
          subst hs
          clear HST
          go_wp2_with (go_at_fn g; refine (HCL.out _ ((Below.refl _ wr).alloc (Nat.le_refl _) _)).mono ?_; rintro e w2 ⟨rfl, hb2⟩; have HB2 := Aside0.mk (((Below.refl _ wr).alloc (Nat.le_refl _) _).trans (hb2.mono (by simp))); clear hb2)
          go_roundg (l.length - (j + 1))
          case measure => exact om2 hlt hg
          case rel => exact ⟨i, j + 1, cur, om8 hij, hlt, Nat.le_refl _, rfl, by congr 1; (try exact om3 hlt (Nat.le_trans hl (by decide))), HL, HDN, ⟨⟨r1, HR1.out, HRR.out⟩⟩, ⟨Kd.N_below HN.out HB2.out⟩, ⟨HB.out.trans (HB2.out.mono HB.out.size)⟩⟩
        case false =>
          have hs := HST.out
          rw [if_neg (by decide)] at hs
          subst hs
          clear HST
          have hso : i * 2 = (i : Int).toNat * Kd.sz k46 + 0 := by rw [Int.toNat_natCast]; rfl
          have hsst : (Tryz.prog.info? 46).map (·.size) = some ([.int .i64 x.f0, .slice Ax x.f1.length cx] : List Value).length := by rw [hinf]; exact congrArg some hinf2
          have hs1 : ∀ q ∈ ([.int .i64 x.f0, .slice Ax x.f1.length cx] : List Value), q.oneCell' = true := fun q hq => by
            simp only [List.mem_cons, List.not_mem_nil, or_false] at hq
            rcases hq with rfl | rfl <;> rfl
          have HSO := Aside0.mk hso
          have HSS := Aside0.mk hsst
          have HS1 := Aside0.mk hs1
          clear hso hsst hs1
          go_wp2_with (first | (go_at_fn g; refine (HCL.out _ ((Below.refl _ wr).alloc (Nat.le_refl _) _)).mono ?_; rintro e w2 ⟨rfl, hb2⟩; have hbx := blk_below (blk_new wr (.cells #[.int .i64 x.f0, .slice Ax x.f1.length cx] 46 (0, 0))) hb2; have y0 := (blk_cell hbx 0).trans rfl; have y1 := (blk_cell hbx 1).trans rfl; have HB2 := Aside0.mk (((Below.refl _ wr).alloc (Nat.le_refl _) _).trans (hb2.mono (by simp))); clear hb2 hbx) | ((with_reducible refine gate_store (t := 46) (p := 33) rfl ?_); obtain ⟨ci, hcil, _, hcic, _⟩ := Kd.N_elem (Kd.N_below HN.out HB2.out) z46 (i : Int) (Int.natCast_nonneg _) hilz; refine Kd.N_store k46 (w0 := wb) wb.heap.size rfl rfl 46 (.tmp 33) (.tmp 32) rfl 46 (i : Int) 0 cur x (.agg #[.int .i64 x.f0, .slice Ax x.f1.length cx]) [.int .i64 x.f0, .slice Ax x.f1.length cx] ci (fun z => wb.heap.size ≤ z) (fun z => wb.heap.size ≤ z ∧ z ≠ g0) rfl HSO.out rfl rfl HSS.out HS1.out (Kd.N_below HN.out HB2.out) (Int.natCast_nonneg _) hilz hcil hcic (Nat.le_refl 2) (two_seg hcil (Kd.FK_below HFK.out HB2.out)) (fun _ hz => hz) (HB.out.trans (HB2.out.mono HB.out.size)) ?_; intro w3 hn3 hb3 hg3; have HN3 := Aside0.mk hn3; have HB3 := Aside0.mk hb3; clear hn3 hb3 hg3))
          go_roundg (l.length - (j + 1))
          case measure => exact om2 hlt hg
          case rel => exact ⟨i + 1, j + 1, cur.set i x, om7 hij, hlt, Nat.le_refl _, by congr 1; (try exact om3 hil (Nat.le_trans hl (by decide))), by congr 1; (try exact om3 hlt (Nat.le_trans hl (by decide))), ⟨by rw [List.length_set]; exact HL.out⟩, ⟨by rw [drop_set_lt _ _ _ _ (om8 hij)]; exact HDN.out⟩, ⟨⟨r1, HR1.out, by rw [take_set_same _ _ _ (by rw [HL.out]; exact hil), List.append_assoc]; exact HRR.out⟩⟩, ⟨by have := HN3.out; rwa [Int.toNat_natCast] at this⟩, HB3⟩
      · have hjl : j = l.length := Nat.le_antisymm hj (Nat.le_of_not_lt hlt)
        have hltz : ¬ (j : Int) < (l.length : Int) := fun e => hlt (Int.ofNat_lt.1 e)
        obtain ⟨rest, hrest, hr⟩ := HR.out
        rw [hjl, List.drop_length] at hrest
        obtain rfl := Option.some.inj hrest
        rw [List.append_nil] at hr
        have hil : i < l.length := by omega
        have hrl : r.length = i := by rw [hr, List.length_take, HL.out]; exact Nat.min_eq_left (Nat.le_of_lt hil)
        have HRr := Aside0.mk hr
        have HRl := Aside0.mk hrl
        clear hr hrl HR HD hrest hjl
        have hiz : (i : Int) ≤ (l.length : Int) := Int.ofNat_le.2 (Nat.le_of_lt hil)
        have hcut1 := cut_from (P := Tryz.prog) 51 46 .i64 Tryz.underlying51 hinf 2 hinf2 (some ⟨g0, 0, none⟩) l.length c (i : Int) (Int.natCast_nonneg _) hiz
        simp only [Int.toNat_natCast, if_neg (show ¬ c = i by omega), Option.map_some, add_at, Nat.zero_add] at hcut1
        have hcut2 := cut_to (P := Tryz.prog) 51 46 .i64 Tryz.underlying51 hinf (some ⟨g0, 0, none⟩) l.length c (i : Int) (Int.natCast_nonneg _) hiz hlc
        simp only [Int.toNat_natCast] at hcut2
        obtain ⟨m, hm⟩ := om9 hil
        rw [hm] at hcut1
        have hNi := Kd.N_take HN.out (show i ≤ cur.length by rw [HL.out]; exact Nat.le_of_lt hil)
        rw [← HRr.out] at hNi
        obtain ⟨curA, hcurA, hsz, hst⟩ : ∃ curA, wr.heap[g0]? = some (.cells curA 46 (0, 0)) ∧ curA.size = c * 2 ∧ l.length ≤ c := by
          obtain ⟨_, rows, hrl2, ⟨_, inner, ho, _⟩, _⟩ := HN.out
          rcases ho.2 with ⟨hv, _⟩ | ⟨g', cap', cur0, hv, hbase, hb0, h1, h2, h3, h4⟩
          · cases hv
          · injection hv with hA hn hc
            injection hA with hA
            injection hA with hA
            subst hA; subst hc
            exact ⟨cur0, hb0, h3, hlc⟩
        have hz2 := zero_cells2 (.int .i64 0) (.slice none 0 0) (m + 1)
        have hclr : ∀ ty cc, (Builtin.clear_ #[51] ty #[.slice (some ⟨g0, i * 2, none⟩) (m + 1) cc]).run Tryz.prog wr = .ok (.tuple #[]) (wr.setRow g0 (curA.toList.take (i * 2) ++ (Builtin.zeroCells #[.int .i64 0, .slice none 0 0] (m + 1)).toList ++ curA.toList.drop (i * 2 + (Builtin.zeroCells #[.int .i64 0, .slice none 0 0] (m + 1)).toList.length)).toArray) := by
          intro ty cc
          exact run_clear_n wr _ 46 ty m _ _ Tryz.underlying51 zeroG rfl (by intro u hu; rcases hz2.2 u hu with rfl | rfl <;> rfl) g0 _ _ _ hcurA (by show i * 2 + (Builtin.zeroCells #[.int .i64 0, .slice none 0 0] (m + 1)).toList.length ≤ _; rw [hz2.1, hsz]; omega)
        have hNt := N_tail hNi hcurA (cur' := (curA.toList.take (i * 2) ++ (Builtin.zeroCells #[.int .i64 0, .slice none 0 0] (m + 1)).toList ++ curA.toList.drop (i * 2 + (Builtin.zeroCells #[.int .i64 0, .slice none 0 0] (m + 1)).toList.length)).toArray) (by rw [hz2.1]; simp [hsz, hz2.1]; omega) (by
          show List.take (i * 2) _ = List.take (i * 2) _
          rw [List.toList_toArray, List.append_assoc, List.take_append_of_le_length (by simp [hsz]; omega), List.take_take, Nat.min_self])
        have HNT := Aside0.mk hNt
        have HBT := Aside0.mk (below_setRow HB.out hg0 (curA.toList.take (i * 2) ++ (Builtin.zeroCells #[.int .i64 0, .slice none 0 0] (m + 1)).toList ++ curA.toList.drop (i * 2 + (Builtin.zeroCells #[.int .i64 0, .slice none 0 0] (m + 1)).toList.length)).toArray)
        generalize (curA.toList.take (i * 2) ++ (Builtin.zeroCells #[.int .i64 0, .slice none 0 0] (m + 1)).toList ++ curA.toList.drop (i * 2 + (Builtin.zeroCells #[.int .i64 0, .slice none 0 0] (m + 1)).toList.length)).toArray = rowz at hclr HNT HBT
        clear hNt hNi hcurA hsz hst hz2 hm
        go_wp2
        go_ret
        exact ⟨_, _, by rw [HRl.out]; rfl, by rw [HRl.out]; exact HNT.out, HBT.out⟩
set_option maxHeartbeats 1000000 in
theorem impl_allGames_1.pred (t : Int) (b1 : Nat) (w : World) (h1 : w.cell? ⟨b1, 0, none⟩ = some (.int .i64 t)) : PredI Tryz.prog 101 #[] #[.pointer (some ⟨b1, 0, none⟩)] w (fun mask => impl_has.f t mask) := by
  intro W x b hb hp
  show Calls Tryz.prog 101 #[.int .i64 x, .pointer (some ⟨b1, 0, none⟩)] W _
  have q1 := (hb.cell (World.block_lt_of_cell? w _ h1)).trans h1
  have hE := Aside0.mk hp
  clear h1 hb hp
  go_enter Tryz.func101, Tryz.ntmps101
  go_wp2_with (go_at_call 102; refine (impl_has.calls t x b _ hE.out).mono ?_; rintro e w' ⟨rfl, hq⟩; have HQ := Aside0.mk hq; clear hq)
  go_ret
  exact ⟨rfl, HQ.out.below⟩
def votesOf_allGames.f (k : Nat) (a0 t : Int) : Option (Int × List Bool) := impl_votesOf.f k a0 (fun mask => impl_has.f t mask)
theorem votesOf_allGames.mono : ∀ a0 t k, LeO (votesOf_allGames.f k a0 t) (votesOf_allGames.f (k + 1) a0 t) := fun a0 t k => impl_votesOf.mono a0 _ k
theorem votesOf_allGames.calls (k : Nat) (a0 t : Int) (r1 : Int) (r2 : List Bool) (w : World) (gb : Nat) (hcell : w.cell? ⟨gb, 0, none⟩ = some (.int .i64 t)) (h : votesOf_allGames.f k a0 t = some (r1, r2)) :
    Calls Tryz.prog 100 #[.int .i64 a0, .func (.func 101) #[] #[.pointer (some ⟨gb, 0, none⟩)]] w fun e w' => ∃ v1_ : Value, e = .returned (.agg #[.int .i64 r1, v1_]) ∧ Kd.R Kd.bool 4 w' w.heap.size (fun _ => True) v1_ r2 ∧ Below w.heap.size w w' :=
  impl_votesOf.calls k a0 _ 101 #[] #[.pointer (some ⟨gb, 0, none⟩)] (enters_of Tryz.func101 (by kernel_rfl) rfl) r1 r2 w (impl_allGames_1.pred t gb w hcell) h
theorem isLeast.predL (k : Nat) (n : Int) (A : Option Addr) (c : Nat) (l : List Bool) (w : World) (hC : Kd.C Kd.bool w A l.length l) (hc : l.length ≤ c) : PredI Tryz.prog 134 #[.agg #[.int .i64 n, .slice A l.length c]] #[] w (impl_votes_isLeast.f k n l) :=
  fun W x b hb hp => impl_votes_isLeast.calls k n A c l x b W (Kd.C_below hC hb) hc hp
def impl_votes_least.f (k : Nat) (n : Int) (l : List Bool) : Option (List (List Int)) := impl_votes_sets.f k n l (impl_votes_isLeast.f k n l)
theorem sets_pmono {p q : Int → Option Bool} (h : ∀ x, LeO (p x) (q x)) : ∀ k x5 x10 x11, LeO (impl_votes_sets.l0 p k x5 x10 x11) (impl_votes_sets.l0 q k x5 x10 x11)
  | 0, _, _, _ => fun r h => by simp [impl_votes_sets.l0] at h
  | k + 1, x5, x10, x11 => by
    unfold impl_votes_sets.l0
    refine LeO.ite (LeO.bind (h _) fun _ => LeO.ite (LeO.bind (LeO.refl _) fun _ => LeO.ite (sets_pmono h k _ _ _) (LeO.refl _)) (sets_pmono h k _ _ _)) (LeO.refl _)
theorem impl_votes_least.mono : ∀ n l k, LeO (impl_votes_least.f k n l) (impl_votes_least.f (k + 1) n l) := by
  intro n l k r hr
  have h1 := impl_votes_sets.mono n l (impl_votes_isLeast.f k n l) k r hr
  unfold impl_votes_least.f impl_votes_sets.f at *
  exact sets_pmono (fun x => impl_votes_isLeast.mono n l x k) _ _ _ _ _ h1
set_option maxHeartbeats 1000000 in
theorem impl_votes_least.calls (k : Nat) (n : Int) (A : Option Addr) (c : Nat) (l : List Bool) (r : List (List Int)) (w : World) (hC : Kd.C Kd.bool w A l.length l) (hc : l.length ≤ c) (h : impl_votes_least.f k n l = some r) :
    Calls Tryz.prog 120 #[.agg #[.int .i64 n, .slice A l.length c]] w fun e w' => ∃ v0_ : Value, e = .returned v0_ ∧ Kd.S (Kd.slice 3 (Kd.int .i64)) 36 w' w.heap.size (fun _ => True) v0_ r ∧ Below w.heap.size w w' := by
  have HC := Aside0.mk hC
  have HH := Aside0.mk h
  have u1 := Tryz.underlying86
  clear hC h
  go_enter Tryz.func120, Tryz.ntmps120
  go_wp2_with fail
  have hb : ∀ o : Obj, Below w.heap.size w (w.alloc o) := fun _ => (Below.refl _ w).alloc (Nat.le_refl _) _
  refine (impl_votes_sets.calls k n A c l _ 134 #[.agg #[.int .i64 n, .slice A l.length c]] #[] (enters_of Tryz.func134 (by kernel_rfl) rfl) r _ (isLeast.predL k n A c l _ (Kd.C_alloc HC.out _) hc) (Kd.C_alloc HC.out _) hc HH.out).mono ?_
  rintro e w1 ⟨v0, rfl, hS, hb1⟩
  have HS := Aside0.mk hS
  have HB := Aside0.mk hb1
  clear hS hb1
  go_wp2
  go_ret
  exact ⟨v0, rfl, Kd.S_lower HS.out (hb _).size, (hb _).trans (HB.out.mono (hb _).size)⟩
end Go.Proofs.YtgjakcpbfbfejaaGreat.Q
end
section
namespace Go.Proofs.YtgjakcpbfbfejaaGreat.Q
open Go.RowKit Go.Proofs.YtgjakcpbfbfejaaGreatW.PrintWords Go.Proofs.YtgjakcpbfbfejaaGreatW.PrintLast Go.Proofs.YtgjakcpbfbfejaaGreatW.PrintMore
attribute [local go_sem] max2_int min2_int max_two min_two max_three min_three max_four min_four
set_option linter.unusedVariables false
set_option linter.unusedSimpArgs false
def impl_votes_game.f (k : Nat) (a0_0 : Int) (l0_1 : List Bool) : Option (Int × (List (List Int))) := (impl_votes_least.f k a0_0 l0_1).bind fun t263 => (some (a0_0, t263))
theorem impl_votes_game.mono : ∀ a0 a1 k, LeO (impl_votes_game.f k a0 a1) (impl_votes_game.f (k + 1) a0 a1) := by
 intro a0 a1 k
 unfold impl_votes_game.f
 repeat' first
   | (with_reducible exact impl_votes_least.mono _ _ _)
   | (with_reducible exact LeO.refl _)
   | (with_reducible exact LeO.none _)
   | (with_reducible refine LeO.ite ?_ ?_)
   | (with_reducible refine LeO.bind ?_ (fun _ => ?_))
   | exact impl_votes_least.mono _ _ _
   | exact LeO.none _
   | refine LeO.ite ?_ ?_
   | refine LeO.bind ?_ (fun _ => ?_)
set_option maxHeartbeats 8000000 in
set_option maxRecDepth 100000 in
theorem impl_votes_game.calls (k : Nat) (a0_0 : Int) (A0_1 : Option Addr) (c0_1 : Nat) (l0_1 : List Bool) (r1 : Int) (r2 : List (List Int)) (w : World) (hr0_1 : Kd.C Kd.bool w A0_1 l0_1.length l0_1) (hc0_1 : l0_1.length ≤ c0_1) (h : impl_votes_game.f k a0_0 l0_1 = some (r1, r2)) :
  Calls Tryz.prog 104 #[.agg #[.int .i64 a0_0, .slice A0_1 l0_1.length c0_1]] w fun e w' => ∃ v1_ : Value, e = .returned (.agg #[.int .i64 r1, v1_]) ∧ Kd.S (Kd.slice 3 (Kd.int .i64)) 36 w' w.heap.size (fun _ => True) v1_ r2 ∧ Below w.heap.size w w' := by
 have hu86 := Tryz.underlying86
 have hu46 := Tryz.underlying46
 have HR0_1 := Aside0.mk hr0_1
 have HC0_1 := Aside0.mk hc0_1
 clear hr0_1 hc0_1
 have HB := Aside0.mk (Below.refl w.heap.size w)
 have H : ((impl_votes_least.f k a0_0 l0_1).bind fun t263 => (some (a0_0, t263))) = some (r1, r2) := h
 clear h
 replace H := Option.bind_eq_some_iff.mp H
 obtain ⟨t263, A20, H⟩ := H
 replace H : (some (a0_0, t263)) = some (r1, r2) := H
 have A2 := Aside0.mk A20
 clear A20
 simp only [Option.some.injEq, Prod.mk.injEq] at H
 obtain ⟨rfl, rfl⟩ := H
 go_enter Tryz.func104, Tryz.ntmps104
 try go_wp2_with (first | ((with_reducible refine gate_dst (N := 1) rfl ?_); refine zq 1 #[.int .i64 a0_0, .slice A0_1 l0_1.length c0_1] 86 ?_; intro gb261 hg w3 hbox hb; have n2_ := Aside0.mk ((by rw [hg]; exact (below_size (zh HB.out)) : w.heap.size ≤ gb261)); replace HB := Aside0.mk (below_step (zh HB.out) hb); have BK261 := Aside0.mk hbox; have GW261 := n2_; have GE261 := n2_; clear n2_ hb hbox hg) | ((with_reducible refine gate_dst (N := 2) rfl ?_); refine zq 2 #[.int .i64 0, .slice none 0 0] 46 ?_; intro gb262 hg w4 hbox hb; have n0_ := Aside0.mk (blk_below (g := gb261) (o := .cells #[.int .i64 a0_0, .slice A0_1 l0_1.length c0_1] 86 (0, 0)) (zb BK261.out) hb); have n1_ := Aside0.mk (below_step (zh HB.out) hb); have n2_ := Aside0.mk (hbox); have n3_ := Aside0.mk ((by rw [hg]; exact (below_size (zh HB.out)) : w.heap.size ≤ gb262)); have n4_ := Aside0.mk ((by rw [hg]; exact (below_size (zh HB.out)) : w.heap.size ≤ gb262)); have n5_ := Aside0.mk ((by rw [hg]; exact Nat.ne_of_lt (blk_lt (g := gb261) (o := .cells #[.int .i64 a0_0, .slice A0_1 l0_1.length c0_1] 86 (0, 0)) (zb BK261.out)) : gb261 ≠ gb262)); have n6_ := Aside0.mk ((by rw [hg]; exact Nat.ne_of_gt (blk_lt (g := gb261) (o := .cells #[.int .i64 a0_0, .slice A0_1 l0_1.length c0_1] 86 (0, 0)) (zb BK261.out)) : gb262 ≠ gb261)); clear BK261; clear HB; have BK261 := n0_; have HB := n1_; have BK262 := n2_; have GW262 := n3_; have GE262 := n4_; have NB261_262 := n5_; have NB262_261 := n6_; clear n0_ n1_ n2_ n3_ n4_ n5_ n6_; clear hb hbox hg))
 have n0_ := Aside0.mk (blk_drew BK261.out)
 have n1_ := Aside0.mk (blk_drew BK262.out)
 have n2_ := Aside0.mk (below_drew1 HB.out)
 clear BK261
 clear BK262
 clear HB
 have BK261 := n0_
 have BK262 := n1_
 have HB := n2_
 clear n0_ n1_ n2_
 refine start_ (n := 6) (S := fun w' => w'.cell? ⟨gb261, 0, none⟩ = some (.int .i64 a0_0) ∧ w'.cell? ⟨gb261, 1, none⟩ = some (.slice A0_1 l0_1.length c0_1)) (ds := []) (tb 6 0) (by kernel_rfl) rfl rfl ⟨(blk_cell BK261.out 0).trans rfl, (blk_cell BK261.out 1).trans rfl⟩ (fun hHeld => ?_)
 generalize w4.drew = w5 at BK261 BK262 HB hHeld ⊢
 refine pure_ (i := 0) (N := some 3) (v := ?_) (a' := ?_) (tb 6 1) rfl rfl (by kernel_rfl) (fun _ _ _ h => h) (Or.inl ⟨by rfl, ?_⟩) ?_ ?_
 rotate_left
 ·intro w'
  go_simp
  with_reducible rfl
 rotate_left
 ·simp only [Act.put, List.setIfInBounds_toArray, List.set_cons_zero, List.set_cons_succ, i64_w, i32_w]
  rfl
 refine zt (i := 1) (N := some 4) (tb 6 3) rfl rfl (by kernel_rfl) hHeld ?_
 refine zt (i := 2) (N := some 5) (tb 6 7) rfl rfl (by kernel_rfl) hHeld ?_
 refine one_ (i := 3) (N := some 6) (tb 6 15) rfl rfl (by kernel_rfl) (by decide) (fun K hK => ?_)
 refine goes_ Tryz.func120 (by kernel_rfl) rfl #[.agg #[.int .i64 a0_0, .slice A0_1 l0_1.length c0_1]] (by rfl) rfl rfl (by (try simp only [List.map_toArray, List.map_cons, List.map_nil]); first | done | rfl | (simp only [List.length_drop, List.length_take]; rfl)) ?_
 with_reducible refine (impl_votes_least.calls k a0_0 _ _ l0_1 t263 _ ?side1 ?side2 A2.out).mono ?_
 (case side1 => repeat (first | exact (Kd.C_below HR0_1.out HB.out) | (with_reducible refine Kd.C_alloc ?_ _) | (with_reducible refine Kd.C_drewN ?_ _) | (with_reducible refine Kd.C_drew ?_)))
 (case side2 => exact HC0_1.out)
 rintro e w6 ⟨v264, rfl, ho0, hb⟩
 refine ⟨_, rfl, ?_⟩
 have n0_ := Aside0.mk (Kd.S_lower ho0 (below_size (zh HB.out)))
 have n1_ := Aside0.mk (blk_below (g := gb261) (o := .cells #[.int .i64 a0_0, .slice A0_1 l0_1.length c0_1] 86 (0, 0)) (zb BK261.out) hb)
 have n2_ := Aside0.mk (blk_below (g := gb262) (o := .cells #[.int .i64 0, .slice none 0 0] 46 (0, 0)) (zb BK262.out) hb)
 have n3_ := Aside0.mk (below_step (zh HB.out) hb)
 clear BK261
 clear BK262
 clear HB
 have HO265 := n0_
 have BK261 := n1_
 have BK262 := n2_
 have HB := n3_
 clear n0_ n1_ n2_ n3_
 (try clear hb)
 (try clear hb2)
 (try clear hk)
 (try clear hi)
 (try clear ho0)
 obtain ⟨Ao7, co7, eo7⟩ := Kd.S_slice HO265.out
 (first | subst eo7 | (injection eo7 with f1_ f2_ f3_; have f4_ := f1_.symm; have f5_ := f3_.symm; clear f1_ f2_ f3_; subst f4_; subst f5_))
 refine hK.out _ _ ⟨(blk_cell BK261.out 0).trans rfl, (blk_cell BK261.out 1).trans rfl⟩ (fun hHeld => ?_)
 clear hK K
 refine norm_ (a' := ?_) ?_ ?_
 rotate_left
 ·show Act.put _ (some 6) _ = _
  simp only [Act.put, List.setIfInBounds_toArray, List.set_cons_zero, List.set_cons_succ, i64_w, i32_w]
  rfl
 refine pure_ (i := 4) (N := some 7) (v := ?_) (a' := ?_) (tb 6 31) rfl rfl (by kernel_rfl) (fun _ _ _ h => h) (Or.inl ⟨by rfl, ?_⟩) ?_ ?_
 rotate_left
 ·intro w'
  go_simp
  with_reducible rfl
 rotate_left
 ·simp only [Act.put, List.setIfInBounds_toArray, List.set_cons_zero, List.set_cons_succ, i64_w, i32_w]
  rfl
 refine one_ (i := 5) (N := none) (tb 6 63) rfl rfl (by kernel_rfl) (by decide) (fun K hK => ?_)
 have hs8 : w6.cell? ⟨gb262, 0, none⟩ = some (.int .i64 0) := (blk_cell BK262.out 0).trans rfl
 have hfs8 := blk_frozen BK262.out 0
 have hns8_0 := NB261_262.out
 have hms8_0 := NB262_261.out
 have hs9 : w6.cell? ⟨gb262, 1, none⟩ = some (.slice none 0 0) := (blk_cell BK262.out 1).trans rfl
 have hfs9 := blk_frozen BK262.out 1
 have hns9_0 := NB261_262.out
 have hms9_0 := NB262_261.out
 refine skip_ (w1 := ?_) (by rfl) rfl ?_ ?_
 rotate_left
 ·go_simp
  rfl
 refine hK.out _ _ ⟨((cell_far (p := ⟨gb262, _, none⟩) NB261_262.out _).trans (((cell_far (p := ⟨gb262, _, none⟩) NB261_262.out _).trans (hHeld.1)))), ((cell_far (p := ⟨gb262, _, none⟩) NB261_262.out _).trans (((cell_far (p := ⟨gb262, _, none⟩) NB261_262.out _).trans (hHeld.2))))⟩ (fun hHeld => ?_)
 clear hK K
 refine done_ (by kernel_rfl) ?_
 try go_wp2
 refine bodyPost_ret (results_cell_row rfl _ _ gb262 46 #[.int .i64 a0_0, .slice Ao7 t263.length co7] (0, 0) _ rfl (by (with_reducible repeat (first | refine blk_drewN ?_ _ | refine blk_drew ?_ | refine blk_alloc ?_ _)); refine blk_put (cs := #[.int .i64 a0_0, .slice none 0 0]) ?_ 1 _ rfl; (with_reducible repeat (first | refine blk_drewN ?_ _ | refine blk_drew ?_ | refine blk_alloc ?_ _)); refine blk_put (cs := #[.int .i64 0, .slice none 0 0]) ?_ 0 _ rfl; (with_reducible repeat (first | refine blk_drewN ?_ _ | refine blk_drew ?_ | refine blk_alloc ?_ _)); exact BK262.out) Tryz.underlying46 rfl (by kernel_rfl)) rfl ?_
 exact ⟨_, by first | rfl | (simp [*, errW_none, errW_some] <;> rfl), by (with_reducible repeat (first | apply Kd.S_alloc | apply Kd.S_drewN | apply Kd.S_drew)); exact Kd.S_mono (Kd.S_far (p := ⟨gb262, 1, none⟩) (Kd.S_far (p := ⟨gb262, 0, none⟩) (Kd.S_types HO265.out BK262.out (by decide)) (fun _ hk => hk.2) (.int .i64 a0_0)) (fun _ hk => hk.2) (.slice Ao7 t263.length co7)) (fun _ hk => trivial), zh HB.out⟩
end Go.Proofs.YtgjakcpbfbfejaaGreat.Q
end
section
namespace Go.Proofs.YtgjakcpbfbfejaaGreat.Q
open Go.RowKit Go.Proofs.YtgjakcpbfbfejaaGreatW.PrintWords Go.Proofs.YtgjakcpbfbfejaaGreatW.PrintLast Go.Proofs.YtgjakcpbfbfejaaGreatW.PrintMore
set_option linter.unusedVariables false
set_option linter.unusedSimpArgs false
def lexG : List (List Int) → List (List Int) → Bool
  | [], [] => false
  | [], _ :: _ => true
  | _ :: _, [] => false
  | x :: xs, y :: ys => if x = y then lexG xs ys else lexB x y
def cmpG : List (List Int) → List (List Int) → Int
  | [], [] => 0
  | [], _ :: _ => -1
  | _ :: _, [] => 1
  | x :: xs, y :: ys => if x = y then cmpG xs ys else cmpL x y
theorem cmpG_lt : ∀ a b, decide (cmpG a b < 0) = lexG a b
  | [], [] => rfl
  | [], _ :: _ => rfl
  | _ :: _, [] => rfl
  | x :: xs, y :: ys => by
    unfold cmpG lexG
    by_cases h : x = y
    · rw [if_pos h, if_pos h]; exact cmpG_lt xs ys
    · rw [if_neg h, if_neg h]; exact cmpL_lt x y
theorem cmpL_zero : ∀ a b, cmpL a b = 0 ↔ a = b
  | [], [] => by simp [cmpL]
  | [], _ :: _ => by simp [cmpL]
  | _ :: _, [] => by simp [cmpL]
  | x :: xs, y :: ys => by
    unfold cmpL
    by_cases h : x = y
    · subst h; rw [if_pos rfl, cmpL_zero xs ys]; simp
    · rw [if_neg h]
      by_cases h2 : x < y
      · rw [if_pos h2]; simp [h]
      · rw [if_neg h2]; simp [h]
theorem lexG_irrefl : ∀ a, lexG a a = false
  | [] => rfl
  | x :: xs => by rw [lexG, if_pos rfl]; exact lexG_irrefl xs
theorem lexG_trans : ∀ a b c, lexG a b = true → lexG b c = true → lexG a c = true
  | [], [], _, h, _ => by cases h
  | [], _ :: _, [], _, h => by cases h
  | [], _ :: _, _ :: _, _, _ => rfl
  | _ :: _, [], _, h, _ => by cases h
  | _ :: _, _ :: _, [], _, h => by cases h
  | x :: xs, y :: ys, z :: zs, h1, h2 => by
    rw [lexG] at h1 h2 ⊢
    by_cases e1 : x = y
    · subst e1
      rw [if_pos rfl] at h1
      by_cases e2 : x = z
      · subst e2
        rw [if_pos rfl] at h2 ⊢
        exact lexG_trans xs ys zs h1 h2
      · rw [if_neg e2] at h2 ⊢; exact h2
    · rw [if_neg e1] at h1
      by_cases e2 : y = z
      · subst e2
        rw [if_neg e1]; exact h1
      · rw [if_neg e2] at h2
        have h3 := lexB_trans _ _ _ h1 h2
        rw [if_neg (fun e => by subst e; rw [lexB_irrefl] at h3; cases h3)]
        exact h3
theorem lexG_total : ∀ a b, lexG a b = false → lexG b a = false → a = b
  | [], [], _, _ => rfl
  | [], _ :: _, h, _ => by cases h
  | _ :: _, [], _, h => by cases h
  | x :: xs, y :: ys, h1, h2 => by
    rw [lexG] at h1 h2
    by_cases e : x = y
    · subst e
      rw [if_pos rfl] at h1 h2
      rw [lexG_total xs ys h1 h2]
    · rw [if_neg e] at h1
      rw [if_neg (fun q => e q.symm)] at h2
      exact absurd (lexB_total _ _ h1 h2) e
theorem lexG_asymm {a b : List (List Int)} (h : lexG a b = true) : lexG b a = false := by
  cases h2 : lexG b a
  · rfl
  · have := lexG_trans _ _ _ h h2
    rw [lexG_irrefl] at this; cases this
theorem lexG_ntrans (a b c : List (List Int)) (h1 : lexG a b = false) (h2 : lexG b c = false) : lexG a c = false := by
  cases h3 : lexG a c
  · rfl
  · cases h4 : lexG b a
    · have := lexG_total a b h1 h4
      subst this
      rw [h2] at h3; cases h3
    · rw [lexG_trans _ _ _ h4 h3] at h2; cases h2
theorem sort_filter {α : Type} (lt : α → α → Bool) (hnt : ∀ a b c, lt a b = false → lt b c = false → lt a c = false) (has : ∀ a b, lt a b = true → lt b a = false) (tot : ∀ a b, lt a b = false → lt b a = false → a = b) (p : α → Bool) (l : List α) :
    sortL lt (l.filter p) = (sortL lt l).filter p := by
  symm
  exact sortL_eq lt hnt has tot ((sortL_perm lt l).filter p) ((sortL_sorted lt hnt has l).filter p)
theorem cmpG_drop {a b : List (List Int)} {i : Nat} (h : i < a.length) : cmpG (a.drop i) (b.drop i) = if h2 : i < b.length then (if a[i] = b[i] then cmpG (a.drop (i + 1)) (b.drop (i + 1)) else cmpL a[i] b[i]) else 1 := by
  rw [List.drop_eq_getElem_cons h]
  by_cases h2 : i < b.length
  · rw [dif_pos h2, List.drop_eq_getElem_cons h2, cmpG]
  · have hb : b.drop i = [] := List.drop_of_length_le (by omega)
    rw [dif_neg h2, hb]; rfl
theorem drewN_drewN (w : World) (a b : Nat) : (w.drewN a).drewN b = w.drewN (a + b) := by
  induction b with
  | zero => rfl
  | succ b ih => exact congrArg World.drew ih
set_option maxHeartbeats 2000000 in
set_option maxRecDepth 100000 in
theorem compareFunc.calls (A B : Option Addr) (c d : Nat) (a b : List (List Int)) (w : World) (hA : Kd.C (Kd.slice 3 (Kd.int .i64)) w A a.length a) (hc : a.length ≤ c) (hB : Kd.C (Kd.slice 3 (Kd.int .i64)) w B b.length b) (hd : b.length ≤ d) (hx : ∀ x ∈ a, x.length ≤ 1152921504606846976) :
    Calls Tryz.prog 123 #[.slice A a.length c, .slice B b.length d, .func (.func 116) #[] #[]] w fun e w' => e = .returned (.int .i64 (cmpG a b)) ∧ ∃ q, w' = w.drewN q := by
  have hlm := Kd.C_max hA
  have eg : ∀ args w, (callFunc 116 args).run Tryz.prog w = .ok (.enter 116 args) w := enters_of Tryz.func116 (by kernel_rfl) rfl
  have HA := Aside0.mk hA
  have HB := Aside0.mk hB
  have HX := Aside0.mk hx
  clear hA hB hx
  generalize hr : cmpG a b = r
  have HR := Aside0.mk hr
  clear hr
  go_enter Tryz.func123, Tryz.ntmps123
  go_wp2
  go_loopg [13] a.length (fun gg v13 wr => ∃ kk : Nat, kk ≤ a.length ∧ a.length - kk ≤ gg ∧ v13 = .int .i64 kk ∧ Aside0 (∃ q, wr = w.drewN q) ∧ Aside0 (cmpG (a.drop kk) (b.drop kk) = r))
  case atStart => exact ⟨0, Nat.zero_le _, Nat.le_refl _, rfl, ⟨⟨0, rfl⟩⟩, HR⟩
  case round =>
    clear HR
    obtain ⟨kk, hkk, hg, rfl, HQ, HR⟩ := hrel
    have hAr : Kd.C (Kd.slice 3 (Kd.int .i64)) wr A a.length a := by obtain ⟨q, hq⟩ := HQ.out; rw [hq]; exact Kd.C_drewN HA.out q
    have hBr : Kd.C (Kd.slice 3 (Kd.int .i64)) wr B b.length b := by obtain ⟨q, hq⟩ := HQ.out; rw [hq]; exact Kd.C_drewN HB.out q
    have HAr := Aside0.mk hAr
    have HBr := Aside0.mk hBr
    clear hAr hBr
    by_cases hlt : kk < a.length
    · have hltz : (kk : Int) < (a.length : Int) := Int.ofNat_lt.2 hlt
      have hR := HR.out
      rw [cmpG_drop hlt] at hR
      have hxa := HX.out _ (List.getElem_mem hlt)
      obtain ⟨ad, A1, c1, e, x0, hl1, hC1⟩ := at_L4 HAr.out (kk : Int) (Int.natCast_nonneg _) hltz
      subst e
      have ea : rd_L4 a (kk : Int) = a[kk] := by unfold rd_L4; rw [Int.toNat_natCast, List.getD_eq_getElem?_getD, List.getElem?_eq_getElem hlt]; rfl
      rw [ea] at x0 hl1 hC1
      rw [Int.toNat_natCast] at x0
      generalize a[kk] = x at hR hxa x0 hl1 hC1
      clear ea
      by_cases h2 : kk < b.length
      · have h2z : (kk : Int) < (b.length : Int) := Int.ofNat_lt.2 h2
        have h2b : decide ((kk : Int) ≥ (b.length : Int)) = false := decide_eq_false (Int.not_le.2 h2z)
        rw [dif_pos h2] at hR
        obtain ⟨bd, B1, d1, e, y0, hl2, hC2⟩ := at_L4 HBr.out (kk : Int) (Int.natCast_nonneg _) h2z
        subst e
        have eb : rd_L4 b (kk : Int) = b[kk] := by unfold rd_L4; rw [Int.toNat_natCast, List.getD_eq_getElem?_getD, List.getElem?_eq_getElem h2]; rfl
        rw [eb] at y0 hl2 hC2
        rw [Int.toNat_natCast] at y0
        generalize b[kk] = y at hR y0 hl2 hC2
        clear eb
        obtain ⟨K, hK⟩ := Compare_ev x y hxa
        have hk : slices_Compare_int_int.f K x y = some (cmpL x y) := hK K (Nat.le_refl _)
        have HCL := Aside0.mk (slices_Compare_int_int.calls K A1 c1 x B1 d1 y (cmpL x y) wr hC1 hl1 hC2 hl2 hk)
        have HR2 := Aside0.mk hR
        have hcz := cmpL_zero x y
        clear hk hC1 hC2 hK hxa HR hR
        generalize cmpL x y = cv at HCL HR2 hcz
        by_cases hxy : x = y
        · have c0 := hcz.2 hxy
          subst c0
          have hR := HR2.out
          rw [if_pos hxy] at hR
          have HR3 := Aside0.mk hR
          clear hR HR2 hxy hcz
          go_wp2_with (go_at_fn 116; refine HCL.out.mono ?_; rintro e w' ⟨rfl, ⟨m, rfl⟩⟩)
          go_roundg (a.length - (kk + 1))
          case measure => omega
          case rel => exact ⟨kk + 1, by omega, by omega, by congr 1; (try (unfold wrap64; omega)), ⟨by obtain ⟨q, hq⟩ := HQ.out; exact ⟨_, by rw [hq]; exact drewN_drewN _ _ _⟩⟩, HR3⟩
        · have c0 : ¬ cv = 0 := fun e => hxy (hcz.1 e)
          have c0b : (cv == 0) = false := by rw [beq_eq_false_iff_ne]; exact c0
          have c0d : decide (cv = 0) = false := decide_eq_false c0
          have hR := HR2.out
          rw [if_neg hxy] at hR
          subst hR
          clear HR2 hxy hcz
          go_wp2_with (go_at_fn 116; refine HCL.out.mono ?_; rintro e w' ⟨rfl, ⟨m, rfl⟩⟩)
          go_ret
          exact ⟨rfl, by obtain ⟨q, hq⟩ := HQ.out; exact ⟨_, by rw [hq]; exact drewN_drewN _ _ _⟩⟩
      · have h2b : decide ((kk : Int) ≥ (b.length : Int)) = true := decide_eq_true (by omega)
        have h2z : ¬ (kk : Int) < (b.length : Int) := by omega
        rw [dif_neg h2] at hR
        have HR2 := Aside0.mk hR
        clear hR HR hC1
        go_wp2
        go_ret
        exact ⟨by rw [← HR2.out]; rfl, HQ.out⟩
    · have hkl : kk = a.length := by omega
      have hltz : ¬ (kk : Int) < (a.length : Int) := by omega
      subst hkl
      have hR := HR.out
      rw [List.drop_length] at hR
      by_cases h2 : a.length < b.length
      · have h2b : decide ((a.length : Int) < (b.length : Int)) = true := decide_eq_true (by omega)
        have hR2 : r = -1 := by rw [← hR, List.drop_eq_getElem_cons h2]; rfl
        have HR2 := Aside0.mk hR2
        clear hR hR2 HR
        go_wp2
        go_ret
        exact ⟨by rw [HR2.out]; rfl, HQ.out⟩
      · have h2b : decide ((a.length : Int) < (b.length : Int)) = false := decide_eq_false (by omega)
        have hR2 : r = 0 := by rw [← hR, List.drop_of_length_le (by omega)]; rfl
        have HR2 := Aside0.mk hR2
        clear hR hR2 HR
        go_wp2
        go_ret
        exact ⟨by rw [HR2.out]; rfl, HQ.out⟩
set_option maxHeartbeats 2000000 in
set_option maxRecDepth 100000 in
theorem compareGames.lays (m n : Int) (A B : Option Addr) (c d : Nat) (a b : List (List Int)) (w : World) (hA : Kd.C (Kd.slice 3 (Kd.int .i64)) w A a.length a) (hc : a.length ≤ c) (hB : Kd.C (Kd.slice 3 (Kd.int .i64)) w B b.length b) (hd : b.length ≤ d) (hx : ∀ x ∈ a, x.length ≤ 1152921504606846976) :
    Calls Tryz.prog 106 #[.agg #[.int .i64 m, .slice A a.length c], .agg #[.int .i64 n, .slice B b.length d]] w fun e w' => e = .returned (.int .i64 (cmpG a b)) ∧ ∃ q os, w' = Go.Sort.grow (w.drewN q) os := by
  have hcall := fun W (hb : Below w.heap.size w W) => compareFunc.calls A B c d a b W (Kd.C_below hA hb) hc (Kd.C_below hB hb) hd hx
  have HCL := Aside0.mk hcall
  have u1 := Tryz.underlying46
  clear hA hB hx hcall
  go_enter Tryz.func106, Tryz.ntmps106
  have hh := HCL.out ((w.alloc (.cells #[.int .i64 m, .slice A a.length c] 46)).alloc (.cells #[.int .i64 n, .slice B b.length d] 46)) (((Below.refl _ w).alloc (Nat.le_refl _) _).alloc (by simp) _)
  have HH := Aside0.mk hh
  clear hh HCL
  go_wp2_with (go_at_call 123; refine HH.out.mono ?_; rintro e w' ⟨rfl, ⟨q, rfl⟩⟩)
  go_ret
  refine ⟨rfl, q, #[.cells #[.int .i64 m, .slice A a.length c] 46 (0, 0), .cells #[.int .i64 n, .slice B b.length d] 46 (0, 0)], ?_⟩
  rw [Go.Sort.alloc_eq_grow, Go.Sort.alloc_eq_grow, Go.Sort.grow_grow]
  rfl
end Go.Proofs.YtgjakcpbfbfejaaGreat.Q
end
section
namespace Go.Proofs.YtgjakcpbfbfejaaGreat.Q
open Go.RowKit Go.Proofs.YtgjakcpbfbfejaaGreatW.PrintWords Go.Proofs.YtgjakcpbfbfejaaGreatW.PrintLast Go.Proofs.YtgjakcpbfbfejaaGreatW.PrintMore
set_option linter.unusedVariables false
set_option linter.unusedSimpArgs false
def ly105_ren : Go.Shelf.Ren := ⟨fun | 6 => 105 | 15 => 122 | 14 => 121 | 28 => 143 | 29 => 144 | 20 => 135 | 21 => 136 | 22 => 137 | 23 => 138 | 24 => 139 | 25 => 140 | 26 => 141 | 27 => 142 | 46 => 155 | 47 => 156 | 48 => 157 | 49 => 158 | 50 => 159 | 57 => 163 | n => n, fun | 22 => 51 | 24 => 46 | 25 => 109 | 3 => 3 | 39 => 120 | 0 => 0 | 53 => 138 | 55 => 140 | 4 => 4 | 46 => 132 | 45 => 131 | 50 => 26 | 5 => 5 | 9 => 9 | 66 => 147 | 70 => 151 | 76 => 155 | 77 => 156 | n => n, fun | n => n⟩
theorem ly105 : Go.Proofs.SlLaysF0.n6 Tryz.prog ly105_ren := {
  mixed := by kernel_rfl
  f6 := ⟨Tryz.f105.name, by decide, Tryz.func105.trans (congrArg some (by kernel_rfl))⟩
  f14 := ⟨Tryz.f121.name, by decide, Tryz.func121.trans (congrArg some (by kernel_rfl))⟩
  f15 := Tryz.func122.trans (congrArg some (by kernel_rfl))
  f20 := ⟨Tryz.f135.name, by decide, Tryz.func135.trans (congrArg some (by kernel_rfl))⟩
  f21 := ⟨Tryz.f136.name, by decide, Tryz.func136.trans (congrArg some (by kernel_rfl))⟩
  f22 := ⟨Tryz.f137.name, by decide, Tryz.func137.trans (congrArg some (by kernel_rfl))⟩
  f23 := ⟨Tryz.f138.name, by decide, Tryz.func138.trans (congrArg some (by kernel_rfl))⟩
  f24 := ⟨Tryz.f139.name, by decide, Tryz.func139.trans (congrArg some (by kernel_rfl))⟩
  f25 := ⟨Tryz.f140.name, by decide, Tryz.func140.trans (congrArg some (by kernel_rfl))⟩
  f26 := ⟨Tryz.f141.name, by decide, Tryz.func141.trans (congrArg some (by kernel_rfl))⟩
  f27 := ⟨Tryz.f142.name, by decide, Tryz.func142.trans (congrArg some (by kernel_rfl))⟩
  f28 := Tryz.func143.trans (congrArg some (by kernel_rfl))
  f29 := Tryz.func144.trans (congrArg some (by kernel_rfl))
  f46 := ⟨Tryz.f155.name, by decide, Tryz.func155.trans (congrArg some (by kernel_rfl))⟩
  f47 := Tryz.func156.trans (congrArg some (by kernel_rfl))
  f48 := Tryz.func157.trans (congrArg some (by kernel_rfl))
  f49 := ⟨Tryz.f158.name, by decide, Tryz.func158.trans (congrArg some (by kernel_rfl))⟩
  f50 := ⟨Tryz.f159.name, by decide, Tryz.func159.trans (congrArg some (by kernel_rfl))⟩
  f57 := ⟨Tryz.f163.name, by decide, Tryz.func163.trans (congrArg some (by kernel_rfl))⟩
  t0 := Tryz.underlying0
  a0 := Tryz.isAgg0
  z0 := Tryz.sizeOf0
  v0 := Tryz.zeroValue0
  t3 := Tryz.underlying3
  a3 := Tryz.isAgg3
  z3 := Tryz.sizeOf3
  v3 := Tryz.zeroValue3
  t4 := Tryz.underlying4
  a4 := Tryz.isAgg4
  z4 := Tryz.sizeOf4
  v4 := Tryz.zeroValue4
  t5 := Tryz.underlying5
  a5 := Tryz.isAgg5
  z5 := Tryz.sizeOf5
  v5 := Tryz.zeroValue5
  t9 := Tryz.underlying9
  a9 := Tryz.isAgg9
  z9 := Tryz.sizeOf9
  v9 := Tryz.zeroValue9
  t22 := Tryz.underlying51
  a22 := Tryz.isAgg51
  z22 := Tryz.sizeOf51
  v22 := Tryz.zeroValue51
  t25 := Tryz.underlying109
  a25 := Tryz.isAgg109
  z25 := Tryz.sizeOf109
  v25 := Tryz.zeroValue109
  t39 := Tryz.underlying120
  a39 := Tryz.isAgg120
  z39 := Tryz.sizeOf120
  v39 := Tryz.zeroValue120
  t45 := Tryz.underlying131
  a45 := Tryz.isAgg131
  z45 := Tryz.sizeOf131
  v45 := Tryz.zeroValue131
  t46 := Tryz.underlying132
  a46 := Tryz.isAgg132
  z46 := Tryz.sizeOf132
  v46 := Tryz.zeroValue132
  t50 := Tryz.underlying26
  a50 := Tryz.isAgg26
  z50 := Tryz.sizeOf26
  v50 := Tryz.zeroValue26
  t53 := Tryz.underlying138
  a53 := Tryz.isAgg138
  z53 := Tryz.sizeOf138
  v53 := Tryz.zeroValue138
  t55 := Tryz.underlying140
  a55 := Tryz.isAgg140
  z55 := Tryz.sizeOf140
  v55 := Tryz.zeroValue140
  t66 := Tryz.underlying147
  a66 := Tryz.isAgg147
  z66 := Tryz.sizeOf147
  v66 := Tryz.zeroValue147
  t70 := Tryz.underlying151
  a70 := Tryz.isAgg151
  z70 := Tryz.sizeOf151
  v70 := Tryz.zeroValue151
  t76 := Tryz.underlying155
  a76 := Tryz.isAgg155
  z76 := Tryz.sizeOf155
  v76 := Tryz.zeroValue155
  t77 := Tryz.underlying156
  a77 := Tryz.isAgg156
  z77 := Tryz.sizeOf156
  v77 := Tryz.zeroValue156 }
open Go.Shelf Go.Lib Go.Sort
structure QG (W : World) (okq : Nat → Prop) (base : Nat) where
  v : Value
  x : S46
  hM : Kd.R (Kd.slice 3 (Kd.int .i64)) 36 W base okq v x.f1
  hl : ∀ s ∈ x.f1, s.length ≤ 1152921504606846976
def QG.enc {W okq base} (q : QG W okq base) : List Value := [.int .i64 q.x.f0, q.v]
instance {W okq base} : Inhabited (QG W okq base) := ⟨⟨.slice none 0 0, ⟨0, []⟩, Kd.R_nil _ _ _ _ _, by simp⟩⟩
def sortGames.f (l : List S46) : Option (List S46) := if (decide (l.length < 1000000) && l.all (fun x => decide (x.f0 = (l.headD z46).f0) && x.f1.all fun s => decide (s.length ≤ 1152921504606846976))) = true then some ((sortL lexG (l.map fun x => x.f1)).map fun s => ⟨(l.headD z46).f0, s⟩) else none
theorem cmp_laysG (W : World) (okq : Nat → Prop) (base g n : Nat) (hg : ∀ k, okq k → k ≠ g) :
    CmpLays Tryz.prog 106 #[] (fun q : QG W okq base => q.enc) 2 (fun x y => cmpG x.x.f1 y.x.f1) g 0 n W := by
  intro m os dk hs x y
  have hgr := grownBy_sorted (fun v : Value => v) (w := W) (g := g) (n := m) (os := os) (flatK (fun q : QG W okq base => q.enc) 2 dk)
  have hx := Kd.R_grown x.hM hgr (fun k hk e => hg k hk (by injection e))
  have hy := Kd.R_grown y.hM hgr (fun k hk e => hg k hk (by injection e))
  change Kd.R _ _ (sortWorldK (fun q : QG W okq base => q.enc) 2 W g 0 m dk os) _ _ _ _ at hx
  change Kd.R _ _ (sortWorldK (fun q : QG W okq base => q.enc) 2 W g 0 m dk os) _ _ _ _ at hy
  generalize sortWorldK (fun q : QG W okq base => q.enc) 2 W g 0 m dk os = wS at hx hy
  obtain ⟨A, c, hxv, hxl, hxC⟩ := Kd.R_reads hx
  obtain ⟨B, d, hyv, hyl, hyC⟩ := Kd.R_reads hy
  have := compareGames.lays x.x.f0 y.x.f0 A B c d x.x.f1 y.x.f1 wS hxC hxl hyC hyl x.hl
  show Calls Tryz.prog 106 #[.agg #[.int .i64 x.x.f0, x.v], .agg #[.int .i64 y.x.f0, y.v]] wS _
  rw [hxv, hyv]
  exact this
theorem swo_lexG {W okq base} : SWO (ltOf (fun x y : QG W okq base => cmpG x.x.f1 y.x.f1)) where
  irrefl x := by unfold ltOf; rw [cmpG_lt]; exact lexG_irrefl _
  trans x y z h1 h2 := by unfold ltOf at *; rw [cmpG_lt] at *; exact lexG_trans _ _ _ h1 h2
  ntrans x y z h1 h2 := by unfold ltOf at *; rw [cmpG_lt] at *; exact lexG_ntrans _ _ _ h1 h2
theorem flat_inner {W okq base} {ss : List (QG W okq base)} {inner : List Value} (hl : inner.length = ss.length * 2) (h : ∀ j (hj : j < ss.length), (inner.drop (j * 2)).take 2 = ss[j].enc) : inner = (flatK (fun q : QG W okq base => q.enc) 2 ss.toArray).toList := by
  have hfs : (flatK (fun q : QG W okq base => q.enc) 2 ss.toArray).size = ss.length * 2 := by rw [size_flatK, List.size_toArray]
  refine List.ext_getElem (hl.trans (hfs.symm.trans Array.length_toList.symm)) fun t h1 h2 => ?_
  have ht : t < ss.length * 2 := by omega
  have hj : t / 2 < ss.length := by omega
  have hm : t % 2 < 2 := Nat.mod_lt _ (by decide)
  have e : ((inner.drop (t / 2 * 2)).take 2)[t % 2]? = (ss[t / 2].enc)[t % 2]? := congrArg (fun z => z[t % 2]?) (h (t / 2) hj)
  rw [List.getElem?_take_of_lt hm, List.getElem?_drop, show t / 2 * 2 + t % 2 = t by omega, List.getElem?_eq_getElem h1] at e
  have g := get_flatK (fun q : QG W okq base => q.enc) 2 ss.toArray t (by rw [List.size_toArray]; exact ht)
  rw [getElem!_pos _ t (by rw [size_flatK, List.size_toArray]; exact ht)] at g
  refine Eq.trans ?_ (Eq.trans g.symm (Array.getElem_toList ..).symm)
  have e2 : ss.toArray[t / 2]! = ss[t / 2] := by rw [getElem!_pos _ _ (by rw [List.size_toArray]; exact hj), List.getElem_toArray]
  rw [e2]
  have hel : (ss[t / 2]).enc.length = 2 := rfl
  rw [List.getElem?_eq_getElem (by rw [hel]; exact hm)] at e
  rw [getElem!_pos (ss[t / 2].enc) (t % 2) (by rw [hel]; exact hm)]
  exact Option.some.inj e
theorem flat_seg {W okq base} (ss : List (QG W okq base)) (j : Nat) (hj : j < ss.length) : (((flatK (fun q : QG W okq base => q.enc) 2 ss.toArray).toList).drop (j * 2)).take 2 = ss[j].enc := by
  have hel : (ss[j]).enc.length = 2 := rfl
  refine List.ext_getElem (by rw [List.length_take, List.length_drop, Array.length_toList, size_flatK, List.size_toArray, hel]; omega) fun t h1 h2 => ?_
  have ht : t < 2 := by rw [hel] at h2; exact h2
  rw [List.getElem_take, List.getElem_drop, Array.getElem_toList]
  have g := get_flatK (fun q : QG W okq base => q.enc) 2 ss.toArray (j * 2 + t) (by rw [List.size_toArray]; omega)
  rw [getElem!_pos _ _ (by rw [size_flatK, List.size_toArray]; omega)] at g
  rw [g, show (j * 2 + t) / 2 = j by omega, show (j * 2 + t) % 2 = t by omega]
  have e2 : ss.toArray[j]! = ss[j] := by rw [getElem!_pos _ _ (by rw [List.size_toArray]; exact hj), List.getElem_toArray]
  rw [e2, getElem!_pos (ss[j].enc) t h2]
theorem isAggG (w : World) : (isAgg 46).run Tryz.prog w = .ok true w := by kernel_rfl
theorem sizeOfG (w : World) : (Go.sizeOf 46).run Tryz.prog w = .ok 2 w := by kernel_rfl
theorem sortGames.calls (l t : List S46) (A : Option Addr) (c base : Nat) (ok : Nat → Prop) (w : World) (hR : Kd.R k46 46 w base ok (.slice A l.length c) l) (h : sortGames.f l = some t) :
    Calls Tryz.prog 105 #[.slice A l.length c, .func (.func 106) #[] #[]] w fun e w' =>
      e = .returned (.tuple #[]) ∧ Kd.R k46 46 w' base ok (.slice A l.length c) t ∧ t.length = l.length ∧ w.grownBy w' (Value.slice A l.length c).ownBlock := by
  unfold sortGames.f at h
  split at h
  case isFalse => cases h
  rename_i hall
  rw [Bool.and_eq_true, decide_eq_true_eq] at hall
  obtain ⟨hsz, hall⟩ := hall
  obtain rfl := Option.some.inj h
  generalize (l.headD z46).f0 = m at hall
  have hall0 : ∀ x ∈ l, x.f0 = m ∧ ∀ s ∈ x.f1, s.length ≤ 1152921504606846976 := fun x hx => by
    have := List.all_eq_true.1 hall x hx
    rw [Bool.and_eq_true, decide_eq_true_eq] at this
    exact ⟨this.1, fun s hs => of_decide_eq_true (List.all_eq_true.1 this.2 s hs)⟩
  have htl0 : ((sortL lexG (l.map fun x => x.f1)).map fun s => (⟨m, s⟩ : S46)).length = l.length := by rw [List.length_map, (sortL_perm lexG _).length_eq, List.length_map]
  by_cases h0 : l.length = 0
  · have hl0 := List.length_eq_zero_iff.1 h0
    subst hl0
    have hcon := AnyF.slices_SortFunc_none { ly105 with } A c (.func (.func 106) #[] #[]) w
    change Calls Tryz.prog 105 _ _ _ at hcon
    refine hcon.mono ?_
    rintro e w' ⟨rfl, rfl⟩
    exact ⟨rfl, hR, rfl, ⟨rfl, rfl, rfl, Nat.le_refl _, fun _ _ _ => rfl⟩⟩
  obtain ⟨hok, inner, ho, hr⟩ := hR
  rcases ho.2 with ⟨hv, hn⟩ | ⟨g, cap, cur, hv, hbase, hb, h1, h2, h3, h4⟩
  · exact absurd hn h0
  injection hv with hA _ hc
  subst hA; subst hc
  have hil : inner.length = l.length * 2 := ho.1
  change cur.size = c * 2 at h3
  change cur.toList.take (l.length * 2) = inner at h4
  have key : ∀ j : Nat, ∃ q : QG w (fun k => ok k ∧ k ≠ g) base, j < l.length → q.x = l.getD j z46 ∧ (inner.drop (j * 2)).take 2 = q.enc := by
    intro j
    by_cases hj : j < l.length
    · have hp := hr.2 j _ (List.getElem?_eq_getElem hj)
      obtain ⟨v, hv, hR1⟩ := k46_openM hp
      refine ⟨⟨v, l[j], Kd.R_mono hR1 (fun k hk => ⟨hk.1, fun e => hk.2 (by rw [e]; rfl)⟩), (hall0 _ (List.getElem_mem hj)).2⟩, fun _ => ⟨?_, hv⟩⟩
      rw [List.getD_eq_getElem?_getD, List.getElem?_eq_getElem hj]; rfl
    · exact ⟨default, fun e => absurd e hj⟩
  obtain ⟨fq, hfq⟩ := Classical.axiomOfChoice key
  obtain ⟨ss, hss⟩ : ∃ ss, ss = (List.range l.length).map fq := ⟨_, rfl⟩
  have hsl : ss.length = l.length := by rw [hss]; simp
  have hget : ∀ j (hj : j < ss.length), ss[j] = fq j := fun j hj => by simp [hss]
  have hinn : inner = (flatK (fun q : QG w (fun k => ok k ∧ k ≠ g) base => q.enc) 2 ss.toArray).toList := flat_inner (by rw [hil, hsl]) fun j hj => by rw [hget j hj]; exact (hfq j (by omega)).2
  have hsll : ss.map QG.x = l := by
    refine List.ext_getElem (by rw [List.length_map]; exact hsl) fun j h1 h2 => ?_
    rw [List.getElem_map, hget, (hfq j h2).1, List.getD_eq_getElem?_getD, List.getElem?_eq_getElem h2]; rfl
  have hH : HoldsK (fun q : QG w (fun k => ok k ∧ k ≠ g) base => q.enc) 2 w g 0 ss.toArray := by
    have := holds_of_block (fun v : Value => v) (ss := (flatK (fun q : QG w (fun k => ok k ∧ k ≠ g) base => q.enc) 2 ss.toArray).toList) hb (by rw [← hinn, hil, h4, List.map_id'])
    rwa [Array.toArray_toList] at this
  have eg : ∀ args w, (callFunc 106 args).run Tryz.prog w = .ok (.enter 106 args) w := enters_of Tryz.func106 (by kernel_rfl) rfl
  have hcon := AnyQ.slices_SortFunc ly105 2 isAggG sizeOfG (fun q : QG w (fun k => ok k ∧ k ≠ g) base => q.enc) (fun _ => rfl) (fun q v hv => by simp [QG.enc] at hv; rcases hv with rfl | rfl; exact rfl; exact (Kd.R_val q.hM).2) (fun x y => cmpG x.x.f1 y.x.f1) swo_lexG 106 #[] g 0 c ss.toArray w eg (cmp_laysG w _ base g _ (fun k hk => hk.2)) hH (Array.getElem?_eq_some_iff.1 hb).1 (by rw [List.size_toArray, hsl]; omega)
  change Calls Tryz.prog 105 _ _ _ at hcon
  rw [List.size_toArray, hsl] at hcon
  refine hcon.mono ?_
  rintro e w' ⟨rfl, d', n, os, hp, hs, rfl⟩
  obtain ⟨ts, rfl⟩ : ∃ ts : List _, d' = ts.toArray := ⟨d'.toList, rfl⟩
  obtain ⟨fl, hfl⟩ : ∃ fl, fl = flatK (fun q : QG w (fun k => ok k ∧ k ≠ g) base => q.enc) 2 ts.toArray := ⟨_, rfl⟩
  have hgr := grownBy_sorted (fun v : Value => v) (w := w) (g := g) (n := n) (os := os) fl
  have hhp := heap_sorted (fun v : Value => v) (w := w) (g := g) (n := n) (os := os) fl hb
  have hws : sortWorldK (fun q : QG w (fun k => ok k ∧ k ≠ g) base => q.enc) 2 w g 0 n ts.toArray os = sortWorld (fun v : Value => v) w g 0 n fl os := by rw [hfl]; rfl
  rw [hws]
  have hperm : ts.Perm ss := perm_of_PermIn (d := ss.toArray) (by simpa [hsl] using hp)
  have htl : ts.length = l.length := by rw [hperm.length_eq, hsl]
  have hsort : ts.Pairwise (fun a b => ltOf (fun x y : QG w (fun k => ok k ∧ k ≠ g) base => cmpG x.x.f1 y.x.f1) b a = false) := pairwise_of_SortedIn (d := ts.toArray) (by simpa [htl] using hs)
  have ht1 : ts.map (fun q => q.x.f1) = sortL lexG (l.map fun x => x.f1) := by
    refine sortL_eq lexG lexG_ntrans (fun _ _ => lexG_asymm) lexG_total ?_ ?_
    · rw [← hsll, List.map_map]; exact hperm.map _
    · rw [List.pairwise_map]
      refine hsort.imp fun h => ?_
      unfold ltOf at h
      rwa [cmpG_lt] at h
  have ht : ts.map QG.x = (sortL lexG (l.map fun x => x.f1)).map fun s => (⟨m, s⟩ : S46) := by
    rw [← ht1, List.map_map]
    refine List.map_congr_left fun q hq => ?_
    have hm : q.x ∈ l := by rw [← hsll]; exact List.mem_map_of_mem (hperm.mem_iff.1 hq)
    have := (hall0 _ hm).1
    show q.x = ⟨m, q.x.f1⟩
    rw [← this]
  have hfsz : fl.size = l.length * 2 := by rw [hfl, size_flatK, List.size_toArray, htl]
  have htk : (putCells (fun v : Value => v) 0 fl cur).toList.take (l.length * 2) = fl.toList := by
    have := take_putCells (fun v : Value => v) cur fl.toList (by rw [Array.length_toList, hfsz, h3]; omega)
    rw [Array.toArray_toList, Array.length_toList, hfsz, List.map_id'] at this
    exact this
  rw [← ht]
  refine ⟨rfl, ⟨hok, fl.toList, ⟨by rw [Array.length_toList, List.length_map, htl]; exact hfsz, .inr ⟨g, c, _, by rw [List.length_map, htl], hbase, hhp, by rw [List.length_map, htl]; exact h1, h2, by simp [putCells]; exact h3, by rw [List.length_map, htl]; exact htk⟩⟩, ⟨by rw [Array.length_toList, List.length_map, htl]; exact hfsz, fun j p hj => ?_⟩⟩, by rw [List.length_map]; exact htl, hgr⟩
  rw [List.getElem?_map] at hj
  obtain ⟨q, hq, rfl⟩ := Option.map_eq_some_iff.1 hj
  obtain ⟨hjl, hqe⟩ := List.getElem?_eq_some_iff.1 hq
  have hseg := flat_seg ts j hjl
  rw [← hfl, hqe] at hseg
  show k46.M _ _ _ _ ((fl.toList.drop (j * 2)).take 2)
  rw [hseg]
  refine k46_mkM _ _ _ q.x (Kd.R_mono (Kd.R_grown q.hM hgr (fun k hk e => hk.2 (by injection e))) (fun k hk => ⟨hk.1, fun e => hk.2 (by injection e)⟩))
end Go.Proofs.YtgjakcpbfbfejaaGreat.Q
end
section
namespace Go.Proofs.YtgjakcpbfbfejaaGreat.Q
open Go.RowKit Go.Proofs.YtgjakcpbfbfejaaGreatW.PrintWords Go.Proofs.YtgjakcpbfbfejaaGreatW.PrintLast Go.Proofs.YtgjakcpbfbfejaaGreatW.PrintMore
attribute [local go_sem] max2_int min2_int max_two min_two max_three min_three max_four min_four
set_option linter.unusedVariables false
set_option linter.unusedSimpArgs false
def impl_allGames.l0 : Nat → Int → List (S46) → List Int → Int → Int → Option ((List (S46)))
 | 0, _, _, _, _, _ => none
 | k + 1, x0, x3, x9, x10, x11 => if x11 < x10 then (if 0 ≤ x11 then (if x11 < (x9.length : Int) then ((votesOf_allGames.f k x0 (rd x9 x11)).bind fun bt274 => (if 0 < (bt274.2.length : Int) then (if rdOf false bt274.2 0 = true then (impl_allGames.l0 k x0 x3 x9 x10 (wrap64 (x11 + 1))) else ((impl_votes_all.f bt274.1 bt274.2).bind fun t280 => (if 0 ≤ t280 then (if t280 < (bt274.2.length : Int) then (if rdOf false bt274.2 t280 = true then ((impl_votes_game.f k bt274.1 bt274.2).bind fun bt282 => (if x3.length < 4398046511104 then (impl_allGames.l0 k x0 (x3 ++ [(⟨bt282.1, bt282.2⟩ : S46)]) x9 x10 (wrap64 (x11 + 1))) else (none))) else (impl_allGames.l0 k x0 x3 x9 x10 (wrap64 (x11 + 1)))) else (none)) else (none)))) else (none))) else (none)) else (none)) else ((sortGames.f x3).bind fun t_ => (some t_))
def impl_allGames.f (k : Nat) (a0 : Int) : Option ((List (S46))) := (impl_tables.f k a0).bind fun t269 => (impl_allGames.l0 k a0 (([] : List (S46))) t269 (t269.length : Int) 0)
theorem impl_allGames.mono_l : ∀ k, (∀ y0 y1 y2 y3 y4, LeO (impl_allGames.l0 k y0 y1 y2 y3 y4) (impl_allGames.l0 (k + 1) y0 y1 y2 y3 y4))
 | 0 => fun _ _ _ _ _ r h => by simp [impl_allGames.l0] at h
 | k + 1 => by
  have ih0 := impl_allGames.mono_l k
  ·intro y0 y1 y2 y3 y4
   unfold impl_allGames.l0
   repeat' first
   | (with_reducible exact ih0 _ _ _ _ _)
   | (with_reducible exact impl_tables.mono _ _)
   | (with_reducible exact impl_votes_game.mono _ _ _)
   | (with_reducible exact votesOf_allGames.mono _ _ _)
   | (with_reducible exact LeO.refl _)
   | (with_reducible exact LeO.none _)
   | (with_reducible refine LeO.ite ?_ ?_)
   | (with_reducible refine LeO.bind ?_ (fun _ => ?_))
   | exact ih0 _ _ _ _ _
   | exact impl_tables.mono _ _
   | exact impl_votes_game.mono _ _ _
   | exact votesOf_allGames.mono _ _ _
   | exact LeO.none _
   | refine LeO.ite ?_ ?_
   | refine LeO.bind ?_ (fun _ => ?_)
theorem impl_allGames.mono : ∀ a0 k, LeO (impl_allGames.f k a0) (impl_allGames.f (k + 1) a0) := by
 intro a0 k
 have ih0 := impl_allGames.mono_l k
 unfold impl_allGames.f
 repeat' first
   | (with_reducible exact ih0 _ _ _ _ _)
   | (with_reducible exact impl_tables.mono _ _)
   | (with_reducible exact impl_votes_game.mono _ _ _)
   | (with_reducible exact votesOf_allGames.mono _ _ _)
   | (with_reducible exact LeO.refl _)
   | (with_reducible exact LeO.none _)
   | (with_reducible refine LeO.ite ?_ ?_)
   | (with_reducible refine LeO.bind ?_ (fun _ => ?_))
   | exact ih0 _ _ _ _ _
   | exact impl_tables.mono _ _
   | exact impl_votes_game.mono _ _ _
   | exact votesOf_allGames.mono _ _ _
   | exact LeO.none _
   | refine LeO.ite ?_ ?_
   | refine LeO.bind ?_ (fun _ => ?_)
def impl_allGames.T6 : Bool × List (List Nat × List Nat) := (true, [([], []), ([0], [0]), ([1], [1]), ([2], [2]), ([3], [3]), ([4], [4]), ([5], [5]), ([6, 5], [5, 6]), ([5], [5]), ([8, 5, 5], [5, 8]), ([7, 9, 5], [5, 7, 9]), ([10, 5], [5, 10]), ([5, 11], [5, 11])])
def impl_allGames.B6 : List Nat := [0, 1, 3, 7, 15, 31, 63, 127, 63, 319, 1023, 2047, 4095]
theorem impl_allGames.tab6 : rtab .any (opsOf Tryz.f78 6) = impl_allGames.T6 := by kernel_rfl
theorem impl_allGames.bits6 : waitsOk impl_allGames.T6.2 impl_allGames.B6 = true := by kernel_rfl
set_option maxHeartbeats 8000000 in
set_option maxRecDepth 100000 in
theorem impl_allGames.calls (k : Nat) (a0 : Int) (r : List (S46)) (w : World) (h : impl_allGames.f k a0 = some r) :
  Calls Tryz.prog 78 #[.int .i64 a0] w fun e w' => ∃ v0_ : Value, e = .returned (v0_) ∧ Kd.R k46 46 w' w.heap.size (fun _ => True) v0_ r ∧ Below w.heap.size w w' := by
 have hu86 := Tryz.underlying86
 have HB := Aside0.mk (Below.refl w.heap.size w)
 have H : ((impl_tables.f k a0).bind fun t269 => (impl_allGames.l0 k a0 (([] : List (S46))) t269 (t269.length : Int) 0)) = some r := h
 clear h
 obtain ⟨y266, hy266⟩ : ∃ y_ : List (S46), y_ = (([] : List (S46))) := ⟨_, rfl⟩
 replace H : ((impl_tables.f k a0).bind fun t269 => (impl_allGames.l0 k a0 y266 t269 (t269.length : Int) 0)) = some r := by first | (rw [hy266]; with_reducible exact H) | (have H2_ := (Option.bind_some _ _).symm.trans H; rw [hy266]; with_reducible exact H2_) | (have H2_ := (Option.bind_some _ _).symm.trans H; with_reducible exact H2_) | with_reducible exact H | (rw [hy266]; exact H) | exact H
 have Ny266 := Aside0.mk hy266
 clear hy266
 replace H := Option.bind_eq_some_iff.mp H
 obtain ⟨t269, A20, H⟩ := H
 replace H : (impl_allGames.l0 k a0 y266 t269 (t269.length : Int) 0) = some r := H
 have A2 := Aside0.mk A20
 clear A20
 have H' := Aside0.mk H
 clear H
 go_enter Tryz.func78, Tryz.ntmps78
 go_wp2_with (first | ((with_reducible refine gate_dst (N := 7) rfl ?_); refine Kd.R_lit k46 _ 46 ?hg (N := 7) ?hd (xs := ([] : List (S46))) (inner := []) (ok := fun _ => True) (okp := fun _ => True) ?hr ?hp (fun _ hk => hk) trivial (Below.refl _ _) (Nat.le_refl _) (by simp) ?_; (case hd => rfl); (case hg => rfl); (case hr => first | (go_simp; done) | (go_simp; rfl)); (case hp => exact (Reps.none _ _)); intro v267 w3 ho4 hb hg_ hnew_; clear hg_ hnew_; (first | rw [← Ny266.out] at ho4 | (simp only [Int.reduceToNat] at ho4; rw [← Ny266.out] at ho4)); have n0_ := Aside0.mk (Kd.R_lower ho4 (below_size (zh HB.out))); have n1_ := Aside0.mk (below_step (zh HB.out) hb); clear HB; have HO268 := n0_; have HB := n1_; clear n0_ n1_; clear hb ho4) | ((with_reducible refine gate_callee (f := 99) rfl ?_); refine zl 9 Tryz.func99 #[.int .i64 a0] ?_; (with_reducible refine (impl_tables.calls k a0 t269 _ A2.out).mono ?_); rintro e w5 ⟨v270, rfl, ho0, hb⟩; refine ⟨_, rfl, ?_⟩; have n0_ := Aside0.mk (Kd.R_elder' (zr HO268.out) (Kd.R_base ho0) hb); have n1_ := Aside0.mk (Kd.R_lower ho0 (below_size (zh HB.out))); have n2_ := Aside0.mk (below_step (zh HB.out) hb); clear HO268; clear HB; have HO268 := n0_; have HO271 := n1_; have HB := n2_; clear n0_ n1_ n2_; (try clear hb); (try clear hb2); (try clear hk); (try clear hi); (try clear ho0); obtain ⟨Ao6, co6, eo6⟩ := Kd.R_slice HO271.out; subst eo6))
 go_loopg [3, 11] k (fun kq v3 v11 w' => ∃ (x3_1 : List (S46)) (x11_1 : Int), v11 = .int .i64 x11_1 ∧ Aside0 (impl_allGames.l0 kq a0 x3_1 t269 (t269.length : Int) x11_1 = some r) ∧ Aside0 (kq ≤ k) ∧ Aside0 (Kd.R k46 46 w' w.heap.size (fun k_ => some k_ ≠ ((.slice Ao6 t269.length co6) : Value).ownBlock) v3 x3_1) ∧ Aside0 (Kd.R (Kd.int .i64) 3 w' w.heap.size (fun _ => True) (.slice Ao6 t269.length co6) t269) ∧ Aside0 (Below w.heap.size w w'))
 case atStart => exact ⟨(y266), (0), (by first | rfl | (simp; done) | (simp [*]; done)), H', ⟨Nat.le_refl _⟩, ⟨by (with_reducible repeat (first | apply Kd.R_alloc | apply Kd.R_drewN | apply Kd.R_drew)); exact Kd.R_mono HO268.out (fun _ hk => hk.2)⟩, ⟨zr HO271.out⟩, ⟨zh HB.out⟩⟩
 case round =>
  clear H'
  try clear p2
  obtain ⟨x3_1, x11_1, rfl, HA, HK1, HO_3, HO_9, HB⟩ := hrel
  cases gk with
  | zero => exact absurd HA.out (by simp [impl_allGames.l0])
  | succ k1 =>
   have H := HA.out
   clear HA
   simp only [impl_allGames.l0] at H
   by_cases c7 : x11_1 < (t269.length : Int)
   rotate_left
   ·rw [if_neg c7] at H
    have c7b0 : decide (x11_1 < (t269.length : Int)) = false := decide_eq_false c7
    clear c7
    replace H := Option.bind_eq_some_iff.mp H
    obtain ⟨t_, A540, H⟩ := H
    replace H : (some t_) = some r := H
    have A54 := Aside0.mk A540
    clear A540
    obtain rfl := Option.some.inj H
    obtain ⟨Ao55, co55, eo55⟩ := Kd.R_slice HO_3.out
    subst eo55
    go_wp2_with (first | ((with_reducible refine gate_callee (f := 105) rfl ?_); refine zl 38 Tryz.func105 #[.slice Ao55 x3_1.length co55, .func (.func 106) #[] #[]] ?_; refine (sortGames.calls x3_1 t_ _ _ w.heap.size (fun _ => True) _ ?side1 A54.out).mono ?_; (case side1 => exact Kd.R_mono (zr HO_3.out) (fun _ _ => trivial)); rintro e w' ⟨rfl, hs_, hl_, hg_⟩; refine ⟨_, rfl, ?_⟩; have n0_ := Aside0.mk hs_; have hB_ := ((zh HB.out) : Below w.heap.size w _); have n2_ := Aside0.mk (Below.grown hB_ hg_ (below_size hB_) (Kd.R_base HO_3.out)); (try clear HO_9); clear HO_3; clear HB; have HO_3 := n0_; have HB := n2_; clear n0_ n2_ hs_ hl_ hg_ hB_))
    go_ret
    exact ⟨_, by first | rfl | (simp [*, errW_none, errW_some] <;> rfl), by (with_reducible repeat (first | apply Kd.R_alloc | apply Kd.R_drewN | apply Kd.R_drew)); exact Kd.R_mono HO_3.out (fun _ hk => trivial), zh HB.out⟩
   rw [if_pos c7] at H
   have c7b0 : decide (x11_1 < (t269.length : Int)) = true := decide_eq_true c7
   clear c7
   by_cases c8 : 0 ≤ x11_1
   rotate_left
   ·rw [if_neg c8] at H
    exact absurd H (by simp)
   rw [if_pos c8] at H
   have c8b0 : decide (0 ≤ x11_1) = true := decide_eq_true c8
   clear c8
   by_cases c9 : x11_1 < (t269.length : Int)
   rotate_left
   ·rw [if_neg c9] at H
    exact absurd H (by simp)
   rw [if_pos c9] at H
   have c9b0 : decide (x11_1 < (t269.length : Int)) = true := decide_eq_true c9
   clear c9
   replace H := Option.bind_eq_some_iff.mp H
   obtain ⟨⟨t274, t275⟩, A100, H⟩ := H
   replace H : (if 0 < (t275.length : Int) then (if rdOf false t275 0 = true then (impl_allGames.l0 k1 a0 x3_1 t269 (t269.length : Int) (wrap64 (x11_1 + 1))) else ((impl_votes_all.f t274 t275).bind fun t280 => (if 0 ≤ t280 then (if t280 < (t275.length : Int) then (if rdOf false t275 t280 = true then ((impl_votes_game.f k1 t274 t275).bind fun bt282 => (if x3_1.length < 4398046511104 then (impl_allGames.l0 k1 a0 (x3_1 ++ [(⟨bt282.1, bt282.2⟩ : S46)]) t269 (t269.length : Int) (wrap64 (x11_1 + 1))) else (none))) else (impl_allGames.l0 k1 a0 x3_1 t269 (t269.length : Int) (wrap64 (x11_1 + 1)))) else (none)) else (none)))) else (none)) = some r := H
   have A10 := Aside0.mk A100
   clear A100
   by_cases c11 : 0 < (t275.length : Int)
   rotate_left
   ·rw [if_neg c11] at H
    exact absurd H (by simp)
   rw [if_pos c11] at H
   have c11b0 : decide (0 < (t275.length : Int)) = true := decide_eq_true c11
   have c11b1 : decide (0 < t275.length) = true := decide_eq_true (by omega)
   clear c11
   obtain ⟨bq12, hbq12⟩ : ∃ b_ : Bool, b_ = (rdOf false t275 0) := ⟨_, rfl⟩
   replace H : (if bq12 = true then (impl_allGames.l0 k1 a0 x3_1 t269 (t269.length : Int) (wrap64 (x11_1 + 1))) else ((impl_votes_all.f t274 t275).bind fun t280 => (if 0 ≤ t280 then (if t280 < (t275.length : Int) then (if rdOf false t275 t280 = true then ((impl_votes_game.f k1 t274 t275).bind fun bt282 => (if x3_1.length < 4398046511104 then (impl_allGames.l0 k1 a0 (x3_1 ++ [(⟨bt282.1, bt282.2⟩ : S46)]) t269 (t269.length : Int) (wrap64 (x11_1 + 1))) else (none))) else (impl_allGames.l0 k1 a0 x3_1 t269 (t269.length : Int) (wrap64 (x11_1 + 1)))) else (none)) else (none)))) = some r := by rw [← hbq12] at H; exact H
   have Nbq12 := Aside0.mk hbq12
   clear hbq12
   by_cases c13 : bq12 = true
   ·subst c13
    have H1 : (impl_allGames.l0 k1 a0 x3_1 t269 (t269.length : Int) (wrap64 (x11_1 + 1))) = some r := by rw [if_pos rfl] at H; exact H
    clear H
    have H := H1
    clear H1
    have H' := Aside0.mk H
    clear H
    have p272 : 0 ≤ (x11_1 : Int) := zk
    have q272 : x11_1 < (t269.length : Int) := zk
    obtain ⟨ad272, e272, hx272_0⟩ := Kd.at_int (Kd.R_reads' HO_9.out).2.2 x11_1 p272 q272
    cases e272
    replace p272 := eq_true p272
    replace q272 := eq_true q272
    try go_wp2_with (first | ((with_reducible refine gate_dst (N := 5) rfl ?_); refine zq 5 #[.int .i64 0] 3 ?_; intro gb273 hg w14 hbox hb; have n0_ := Aside0.mk (Kd.R_below (Kd.R_elderB (zr HO_3.out) gb273 (Nat.le_of_eq hg.symm)) hb); have n1_ := Aside0.mk (Kd.R_below (Kd.R_elderB (zr HO_9.out) gb273 (Nat.le_of_eq hg.symm)) hb); have n2_ := Aside0.mk (below_step (zh HB.out) hb); have n3_ := Aside0.mk (hbox); have n4_ := Aside0.mk ((by rw [hg]; exact (below_size (zh HB.out)) : w.heap.size ≤ gb273)); have n5_ := Aside0.mk ((by rw [hg]; exact (below_size (zh HB.out)) : w.heap.size ≤ gb273)); clear HO_3; clear HO_9; clear HB; have HO_3 := n0_; have HO_9 := n1_; have HB := n2_; have BK273 := n3_; have GW273 := n4_; have GE273 := n5_; clear n0_ n1_ n2_ n3_ n4_ n5_; clear hb hbox hg; have hcz15_0 : w14.cell? ⟨gb273, 0, none⟩ = some (.int .i64 0) := (blk_cell BK273.out 0).trans rfl; have hfz15_0 := blk_frozen BK273.out 0) | ((with_reducible refine gate_callee (f := 100) rfl ?_); refine zl 17 Tryz.func100 #[.int .i64 a0, .func (.func 101) #[] #[.pointer (some ⟨gb273, 0, none⟩)]] ?_; (with_reducible refine (votesOf_allGames.calls k1 a0 (rd t269 x11_1) t274 t275 _ gb273 (by first | exact (blk_cell (zb BK273.out) 0).trans rfl | exact (blk_cell (blk_put (zb BK273.out) 0 _ rfl) 0).trans rfl | exact zb BK273.out) A10.out).mono ?_); rintro e w16 ⟨v276, rfl, ho0, hb⟩; refine ⟨_, rfl, ?_⟩; have n0_ := Aside0.mk (Kd.R_below (by (with_reducible repeat (first | apply Kd.R_alloc | apply Kd.R_drewN | apply Kd.R_drew)); exact (Kd.R_mono (Kd.R_far (p := ⟨gb273, 0, none⟩) (Kd.R_mono HO_3.out (fun k_ hk => (⟨hk, hk.2⟩ : _ ∧ k_ ≠ gb273))) (fun _ hk => hk.2) (.int .i64 (rd t269 x11_1))) (fun _ h_ => h_.1))) hb); have n1_ := Aside0.mk (Kd.R_below (by (with_reducible repeat (first | apply Kd.R_alloc | apply Kd.R_drewN | apply Kd.R_drew)); exact (Kd.R_mono (Kd.R_far (p := ⟨gb273, 0, none⟩) (Kd.R_mono HO_9.out (fun k_ hk => (⟨hk, hk.2⟩ : _ ∧ k_ ≠ gb273))) (fun _ hk => hk.2) (.int .i64 (rd t269 x11_1))) (fun _ h_ => h_.1))) hb); have n2_ := Aside0.mk (Kd.R_lower ho0 (below_size (zh HB.out))); have n3_ := Aside0.mk (blk_below (g := gb273) (o := .cells #[.int .i64 (rd t269 x11_1)] 3 (0, 0)) (by (with_reducible repeat (first | refine blk_drewN ?_ _ | refine blk_drew ?_ | refine blk_alloc ?_ _)); refine blk_put (cs := #[.int .i64 0]) ?_ 0 _ rfl; (with_reducible repeat (first | refine blk_drewN ?_ _ | refine blk_drew ?_ | refine blk_alloc ?_ _)); exact BK273.out) hb); have n4_ := Aside0.mk (below_step (zh HB.out) hb); clear HO_3; clear HO_9; clear BK273; clear HB; have HO_3 := n0_; have HO_9 := n1_; have HO277 := n2_; have BK273 := n3_; have HB := n4_; clear n0_ n1_ n2_ n3_ n4_; (try clear hb); (try clear hb2); (try clear hk); (try clear hi); (try clear ho0)) | ((with_reducible refine gate_dst (N := 6) rfl ?_); refine zq 6 #[.int .i64 0, .slice none 0 0] 86 ?_; intro gb278 hg w17 hbox hb; have n0_ := Aside0.mk (Kd.R_below (zr HO_3.out) hb); have n1_ := Aside0.mk (Kd.R_below (zr HO_9.out) hb); have n2_ := Aside0.mk (Kd.R_below (zr HO277.out) hb); have n3_ := Aside0.mk (blk_below (g := gb273) (o := .cells #[.int .i64 (rd t269 x11_1)] 3 (0, 0)) (zb BK273.out) hb); have n4_ := Aside0.mk (below_step (zh HB.out) hb); have n5_ := Aside0.mk (hbox); have n6_ := Aside0.mk ((by rw [hg]; exact (below_size (zh HB.out)) : w.heap.size ≤ gb278)); have n7_ := Aside0.mk ((by rw [hg]; exact (below_size (zh HB.out)) : w.heap.size ≤ gb278)); have n8_ := Aside0.mk ((by rw [hg]; exact Nat.ne_of_lt (blk_lt (g := gb273) (o := .cells #[.int .i64 (rd t269 x11_1)] 3 (0, 0)) (zb BK273.out)) : gb273 ≠ gb278)); have n9_ := Aside0.mk ((by rw [hg]; exact Nat.ne_of_gt (blk_lt (g := gb273) (o := .cells #[.int .i64 (rd t269 x11_1)] 3 (0, 0)) (zb BK273.out)) : gb278 ≠ gb273)); clear HO_3; clear HO_9; clear HO277; clear BK273; clear HB; have HO_3 := n0_; have HO_9 := n1_; have HO277 := n2_; have BK273 := n3_; have HB := n4_; have BK278 := n5_; have GW278 := n6_; have GE278 := n7_; have NB273_278 := n8_; have NB278_273 := n9_; clear n0_ n1_ n2_ n3_ n4_ n5_ n6_ n7_ n8_ n9_; clear hb hbox hg; have hnb18 := NB278_273.out; have hnc18 := NB273_278.out; have hcz19_0 : w17.cell? ⟨gb278, 0, none⟩ = some (.int .i64 0) := (blk_cell BK278.out 0).trans rfl; have hcz19_1 : w17.cell? ⟨gb278, 1, none⟩ = some (.slice none 0 0) := (blk_cell BK278.out 1).trans rfl; have hfz19_0 := blk_frozen BK278.out 0; have hfz19_1 := blk_frozen BK278.out 1; obtain ⟨Ao20, co20, eo20⟩ := Kd.R_slice HO277.out; subst eo20))
    have n0_ : Aside0 (Kd.R k46 46 ((w17.setCell ⟨gb278, 0, none⟩ (.int .i64 t274)).setCell ⟨gb278, 1, none⟩ (.slice Ao20 t275.length co20)) w.heap.size (fun k_ => some k_ ≠ (.slice (some ad272) t269.length co6 : Value).ownBlock ∧ k_ ≠ gb273) u3 x3_1) := ⟨by (with_reducible repeat (first | apply Kd.R_alloc | apply Kd.R_drewN | apply Kd.R_drew)); exact Kd.R_mono (Kd.R_far (p := ⟨gb278, 1, none⟩) (Kd.R_far (p := ⟨gb278, 0, none⟩) (Kd.R_types HO_3.out BK278.out (by decide)) (fun _ hk => hk.2) (.int .i64 t274)) (fun _ hk => hk.2) (.slice Ao20 t275.length co20)) (fun _ hk => ⟨hk.1.1, hk.1.2⟩)⟩
    have n1_ : Aside0 (Kd.R (Kd.int .i64) 3 ((w17.setCell ⟨gb278, 0, none⟩ (.int .i64 t274)).setCell ⟨gb278, 1, none⟩ (.slice Ao20 t275.length co20)) w.heap.size (fun k_ => k_ ≠ gb273) (.slice (some ad272) t269.length co6) t269) := ⟨by (with_reducible repeat (first | apply Kd.R_alloc | apply Kd.R_drewN | apply Kd.R_drew)); exact Kd.R_mono (Kd.R_far (p := ⟨gb278, 1, none⟩) (Kd.R_far (p := ⟨gb278, 0, none⟩) (Kd.R_types HO_9.out BK278.out (by decide)) (fun _ hk => hk.2) (.int .i64 t274)) (fun _ hk => hk.2) (.slice Ao20 t275.length co20)) (fun _ hk => hk.1.2)⟩
    have n2_ : Aside0 (Kd.R Kd.bool 4 ((w17.setCell ⟨gb278, 0, none⟩ (.int .i64 t274)).setCell ⟨gb278, 1, none⟩ (.slice Ao20 t275.length co20)) w.heap.size (fun _ => True) (.slice Ao20 t275.length co20) t275) := ⟨by (with_reducible repeat (first | apply Kd.R_alloc | apply Kd.R_drewN | apply Kd.R_drew)); exact Kd.R_mono (Kd.R_far (p := ⟨gb278, 1, none⟩) (Kd.R_far (p := ⟨gb278, 0, none⟩) (Kd.R_types HO277.out BK278.out (by decide)) (fun _ hk => hk.2) (.int .i64 t274)) (fun _ hk => hk.2) (.slice Ao20 t275.length co20)) (fun _ hk => trivial)⟩
    have n3_ : Aside0 (((w17.setCell ⟨gb278, 0, none⟩ (.int .i64 t274)).setCell ⟨gb278, 1, none⟩ (.slice Ao20 t275.length co20)).heap[gb273]? = some (.cells #[.int .i64 (rd t269 x11_1)] 3 (0, 0))) := ⟨zf2 BK273.out NB273_278.out NB273_278.out⟩
    have n4_ : Aside0 (((w17.setCell ⟨gb278, 0, none⟩ (.int .i64 t274)).setCell ⟨gb278, 1, none⟩ (.slice Ao20 t275.length co20)).heap[gb278]? = some (.cells #[.int .i64 t274, .slice Ao20 t275.length co20] 86 (0, 0))) := ⟨by (with_reducible repeat (first | refine blk_drewN ?_ _ | refine blk_drew ?_ | refine blk_alloc ?_ _)); refine blk_put (cs := #[.int .i64 t274, .slice none 0 0]) ?_ 1 _ rfl; (with_reducible repeat (first | refine blk_drewN ?_ _ | refine blk_drew ?_ | refine blk_alloc ?_ _)); refine blk_put (cs := #[.int .i64 0, .slice none 0 0]) ?_ 0 _ rfl; (with_reducible repeat (first | refine blk_drewN ?_ _ | refine blk_drew ?_ | refine blk_alloc ?_ _)); exact BK278.out⟩
    have n5_ : Aside0 (Below w.heap.size w ((w17.setCell ⟨gb278, 0, none⟩ (.int .i64 t274)).setCell ⟨gb278, 1, none⟩ (.slice Ao20 t275.length co20))) := ⟨zh HB.out⟩
    (try clear HO_3)
    (try clear HO_9)
    (try clear HO277)
    (try clear BK273)
    (try clear BK278)
    (try clear HB)
    generalize ((w17.setCell ⟨gb278, 0, none⟩ (.int .i64 t274)).setCell ⟨gb278, 1, none⟩ (.slice Ao20 t275.length co20)) = w21 at n0_ n1_ n2_ n3_ n4_ n5_ ⊢
    have HO_3 := n0_
    have HO_9 := n1_
    have HO277 := n2_
    have BK273 := n3_
    have BK278 := n4_
    have HB := n5_
    clear n0_ n1_ n2_ n3_ n4_ n5_
    have n0_ := Aside0.mk (Kd.R_drew HO_3.out)
    have n1_ := Aside0.mk (Kd.R_drew HO_9.out)
    have n2_ := Aside0.mk (Kd.R_drew HO277.out)
    have n3_ := Aside0.mk (blk_drew BK273.out)
    have n4_ := Aside0.mk (blk_drew BK278.out)
    have n5_ := Aside0.mk (below_drew1 HB.out)
    clear HO_3
    clear HO_9
    clear HO277
    clear BK273
    clear BK278
    clear HB
    have HO_3 := n0_
    have HO_9 := n1_
    have HO277 := n2_
    have BK273 := n3_
    have BK278 := n4_
    have HB := n5_
    clear n0_ n1_ n2_ n3_ n4_ n5_
    have p279 : 0 ≤ (0 : Int) := (by omega)
    have q279 : 0 < (t275.length : Int) := zk
    obtain ⟨ad279, e279, hx279_0⟩ := Kd.at_bool (Kd.R_reads' HO277.out).2.2 0 p279 q279
    (try rw [← Nbq12.out] at hx279_0)
    cases e279
    have qi279 : (0 < t275.length) = True := eq_true (by omega)
    (try rw [show ((0 : Int)).toNat = 0 from rfl] at hx279_0)
    (try rw [Addr.add_zero'] at hx279_0)
    replace p279 := eq_true p279
    replace q279 := eq_true q279
    refine start_ (n := 13) (S := fun w' => w'.cell? ⟨gb278, 0, none⟩ = some (.int .i64 t274) ∧ w'.cell? ⟨gb278, 1, none⟩ = some (.slice (some ad279) t275.length co20) ∧ w'.cell? ad279 = some (.bool true)) (ds := []) (tb 13 0) (by kernel_rfl) rfl rfl ⟨(blk_cell BK278.out 0).trans rfl, (blk_cell BK278.out 1).trans rfl, hx279_0⟩ (fun hHeld => ?_); refine with_tabW impl_allGames.tab6 impl_allGames.bits6 (fun HT_ HW_ => ?_)
    generalize w21.drew = w22 at HO_3 HO_9 HO277 BK273 BK278 HB hx279_0 hHeld ⊢
    refine zu (i := 0) (N := some 18) (tb 13 1) rfl rfl HT_ ?_
    refine zt (i := 1) (N := some 19) (tb 13 3) rfl rfl (take_ofW HT_.out HW_.out (by kernel_rfl)) hHeld ?_
    refine zu (i := 2) (N := some 20) (tb 13 7) rfl rfl HT_ ?_
    refine zt (i := 3) (N := some 21) (tb 13 15) rfl rfl (take_ofW HT_.out HW_.out (by kernel_rfl)) hHeld ?_
    refine zu (i := 4) (N := some 22) (tb 13 31) rfl rfl HT_ ?_
    refine zu (i := 5) (N := some 23) (tb 13 63) rfl rfl HT_ ?_
    refine zv (i := 6) (N := some 24) (tb 13 127) rfl rfl HT_ ?_
    refine zv (i := 7) (N := some 25) (tb 13 255) rfl rfl HT_ ?_
    refine zv (i := 8) (N := some 26) (tb 13 511) rfl rfl HT_ ?_
    refine zv (i := 9) (N := some 27) (tb 13 1023) rfl rfl HT_ ?_
    refine zv (i := 10) (N := some 28) (tb 13 2047) rfl rfl HT_ ?_
    refine zv (i := 11) (N := some 29) (tb 13 4095) rfl rfl HT_ ?_
    refine zu (i := 12) (N := some 30) (tb 13 8191) rfl rfl HT_ ?_
    refine done_ (done_of HT_.out (by kernel_rfl)) ?_
    try go_wp2
    go_roundg k1
    case measure => have := HK1.out; omega
    case rel => exact ⟨(x3_1), (wrap64 (x11_1 + 1)), (by first | rfl | (simp; done) | (simp [*]; done)), H', ⟨by have := HK1.out; omega⟩, ⟨by (with_reducible repeat (first | apply Kd.R_alloc | apply Kd.R_drewN | apply Kd.R_drew)); exact Kd.R_mono HO_3.out (fun _ hk => hk.1)⟩, ⟨by (with_reducible repeat (first | apply Kd.R_alloc | apply Kd.R_drewN | apply Kd.R_drew)); exact Kd.R_mono HO_9.out (fun _ hk => trivial)⟩, ⟨zh HB.out⟩⟩
   replace c13 := Bool.eq_false_iff.mpr c13
   subst c13
   have H1 : ((impl_votes_all.f t274 t275).bind fun t280 => (if 0 ≤ t280 then (if t280 < (t275.length : Int) then (if rdOf false t275 t280 = true then ((impl_votes_game.f k1 t274 t275).bind fun bt282 => (if x3_1.length < 4398046511104 then (impl_allGames.l0 k1 a0 (x3_1 ++ [(⟨bt282.1, bt282.2⟩ : S46)]) t269 (t269.length : Int) (wrap64 (x11_1 + 1))) else (none))) else (impl_allGames.l0 k1 a0 x3_1 t269 (t269.length : Int) (wrap64 (x11_1 + 1)))) else (none)) else (none))) = some r := by rw [if_neg (show ¬ (false = true) by decide)] at H; exact H
   clear H
   have H := H1
   clear H1
   replace H := Option.bind_eq_some_iff.mp H
   obtain ⟨t280, A230, H⟩ := H
   replace H : (if 0 ≤ t280 then (if t280 < (t275.length : Int) then (if rdOf false t275 t280 = true then ((impl_votes_game.f k1 t274 t275).bind fun bt282 => (if x3_1.length < 4398046511104 then (impl_allGames.l0 k1 a0 (x3_1 ++ [(⟨bt282.1, bt282.2⟩ : S46)]) t269 (t269.length : Int) (wrap64 (x11_1 + 1))) else (none))) else (impl_allGames.l0 k1 a0 x3_1 t269 (t269.length : Int) (wrap64 (x11_1 + 1)))) else (none)) else (none)) = some r := H
   have A23 := Aside0.mk A230
   clear A230
   by_cases c24 : 0 ≤ t280
   rotate_left
   ·rw [if_neg c24] at H
    exact absurd H (by simp)
   rw [if_pos c24] at H
   have c24b0 : decide (0 ≤ t280) = true := decide_eq_true c24
   clear c24
   by_cases c25 : t280 < (t275.length : Int)
   rotate_left
   ·rw [if_neg c25] at H
    exact absurd H (by simp)
   rw [if_pos c25] at H
   have c25b0 : decide (t280 < (t275.length : Int)) = true := decide_eq_true c25
   clear c25
   obtain ⟨bq26, hbq26⟩ : ∃ b_ : Bool, b_ = (rdOf false t275 t280) := ⟨_, rfl⟩
   replace H : (if bq26 = true then ((impl_votes_game.f k1 t274 t275).bind fun bt282 => (if x3_1.length < 4398046511104 then (impl_allGames.l0 k1 a0 (x3_1 ++ [(⟨bt282.1, bt282.2⟩ : S46)]) t269 (t269.length : Int) (wrap64 (x11_1 + 1))) else (none))) else (impl_allGames.l0 k1 a0 x3_1 t269 (t269.length : Int) (wrap64 (x11_1 + 1)))) = some r := by rw [← hbq26] at H; exact H
   have Nbq26 := Aside0.mk hbq26
   clear hbq26
   by_cases c27 : bq26 = true
   rotate_left
   ·replace c27 := Bool.eq_false_iff.mpr c27
    subst c27
    have H1 : (impl_allGames.l0 k1 a0 x3_1 t269 (t269.length : Int) (wrap64 (x11_1 + 1))) = some r := by rw [if_neg (show ¬ (false = true) by decide)] at H; exact H
    clear H
    have H := H1
    clear H1
    have H' := Aside0.mk H
    clear H
    have p272 : 0 ≤ (x11_1 : Int) := zk
    have q272 : x11_1 < (t269.length : Int) := zk
    obtain ⟨ad272, e272, hx272_0⟩ := Kd.at_int (Kd.R_reads' HO_9.out).2.2 x11_1 p272 q272
    cases e272
    replace p272 := eq_true p272
    replace q272 := eq_true q272
    try go_wp2_with (first | ((with_reducible refine gate_dst (N := 5) rfl ?_); refine zq 5 #[.int .i64 0] 3 ?_; intro gb273 hg w44 hbox hb; have n0_ := Aside0.mk (Kd.R_below (Kd.R_elderB (zr HO_3.out) gb273 (Nat.le_of_eq hg.symm)) hb); have n1_ := Aside0.mk (Kd.R_below (Kd.R_elderB (zr HO_9.out) gb273 (Nat.le_of_eq hg.symm)) hb); have n2_ := Aside0.mk (below_step (zh HB.out) hb); have n3_ := Aside0.mk (hbox); have n4_ := Aside0.mk ((by rw [hg]; exact (below_size (zh HB.out)) : w.heap.size ≤ gb273)); have n5_ := Aside0.mk ((by rw [hg]; exact (below_size (zh HB.out)) : w.heap.size ≤ gb273)); clear HO_3; clear HO_9; clear HB; have HO_3 := n0_; have HO_9 := n1_; have HB := n2_; have BK273 := n3_; have GW273 := n4_; have GE273 := n5_; clear n0_ n1_ n2_ n3_ n4_ n5_; clear hb hbox hg; have hcz45_0 : w44.cell? ⟨gb273, 0, none⟩ = some (.int .i64 0) := (blk_cell BK273.out 0).trans rfl; have hfz45_0 := blk_frozen BK273.out 0) | ((with_reducible refine gate_callee (f := 100) rfl ?_); refine zl 17 Tryz.func100 #[.int .i64 a0, .func (.func 101) #[] #[.pointer (some ⟨gb273, 0, none⟩)]] ?_; (with_reducible refine (votesOf_allGames.calls k1 a0 (rd t269 x11_1) t274 t275 _ gb273 (by first | exact (blk_cell (zb BK273.out) 0).trans rfl | exact (blk_cell (blk_put (zb BK273.out) 0 _ rfl) 0).trans rfl | exact zb BK273.out) A10.out).mono ?_); rintro e w46 ⟨v276, rfl, ho0, hb⟩; refine ⟨_, rfl, ?_⟩; have n0_ := Aside0.mk (Kd.R_below (by (with_reducible repeat (first | apply Kd.R_alloc | apply Kd.R_drewN | apply Kd.R_drew)); exact (Kd.R_mono (Kd.R_far (p := ⟨gb273, 0, none⟩) (Kd.R_mono HO_3.out (fun k_ hk => (⟨hk, hk.2⟩ : _ ∧ k_ ≠ gb273))) (fun _ hk => hk.2) (.int .i64 (rd t269 x11_1))) (fun _ h_ => h_.1))) hb); have n1_ := Aside0.mk (Kd.R_below (by (with_reducible repeat (first | apply Kd.R_alloc | apply Kd.R_drewN | apply Kd.R_drew)); exact (Kd.R_mono (Kd.R_far (p := ⟨gb273, 0, none⟩) (Kd.R_mono HO_9.out (fun k_ hk => (⟨hk, hk.2⟩ : _ ∧ k_ ≠ gb273))) (fun _ hk => hk.2) (.int .i64 (rd t269 x11_1))) (fun _ h_ => h_.1))) hb); have n2_ := Aside0.mk (Kd.R_lower ho0 (below_size (zh HB.out))); have n3_ := Aside0.mk (blk_below (g := gb273) (o := .cells #[.int .i64 (rd t269 x11_1)] 3 (0, 0)) (by (with_reducible repeat (first | refine blk_drewN ?_ _ | refine blk_drew ?_ | refine blk_alloc ?_ _)); refine blk_put (cs := #[.int .i64 0]) ?_ 0 _ rfl; (with_reducible repeat (first | refine blk_drewN ?_ _ | refine blk_drew ?_ | refine blk_alloc ?_ _)); exact BK273.out) hb); have n4_ := Aside0.mk (below_step (zh HB.out) hb); clear HO_3; clear HO_9; clear BK273; clear HB; have HO_3 := n0_; have HO_9 := n1_; have HO277 := n2_; have BK273 := n3_; have HB := n4_; clear n0_ n1_ n2_ n3_ n4_; (try clear hb); (try clear hb2); (try clear hk); (try clear hi); (try clear ho0)) | ((with_reducible refine gate_dst (N := 6) rfl ?_); refine zq 6 #[.int .i64 0, .slice none 0 0] 86 ?_; intro gb278 hg w47 hbox hb; have n0_ := Aside0.mk (Kd.R_below (zr HO_3.out) hb); have n1_ := Aside0.mk (Kd.R_below (zr HO_9.out) hb); have n2_ := Aside0.mk (Kd.R_below (zr HO277.out) hb); have n3_ := Aside0.mk (blk_below (g := gb273) (o := .cells #[.int .i64 (rd t269 x11_1)] 3 (0, 0)) (zb BK273.out) hb); have n4_ := Aside0.mk (below_step (zh HB.out) hb); have n5_ := Aside0.mk (hbox); have n6_ := Aside0.mk ((by rw [hg]; exact (below_size (zh HB.out)) : w.heap.size ≤ gb278)); have n7_ := Aside0.mk ((by rw [hg]; exact (below_size (zh HB.out)) : w.heap.size ≤ gb278)); have n8_ := Aside0.mk ((by rw [hg]; exact Nat.ne_of_lt (blk_lt (g := gb273) (o := .cells #[.int .i64 (rd t269 x11_1)] 3 (0, 0)) (zb BK273.out)) : gb273 ≠ gb278)); have n9_ := Aside0.mk ((by rw [hg]; exact Nat.ne_of_gt (blk_lt (g := gb273) (o := .cells #[.int .i64 (rd t269 x11_1)] 3 (0, 0)) (zb BK273.out)) : gb278 ≠ gb273)); clear HO_3; clear HO_9; clear HO277; clear BK273; clear HB; have HO_3 := n0_; have HO_9 := n1_; have HO277 := n2_; have BK273 := n3_; have HB := n4_; have BK278 := n5_; have GW278 := n6_; have GE278 := n7_; have NB273_278 := n8_; have NB278_273 := n9_; clear n0_ n1_ n2_ n3_ n4_ n5_ n6_ n7_ n8_ n9_; clear hb hbox hg; have hnb48 := NB278_273.out; have hnc48 := NB273_278.out; have hcz49_0 : w47.cell? ⟨gb278, 0, none⟩ = some (.int .i64 0) := (blk_cell BK278.out 0).trans rfl; have hcz49_1 : w47.cell? ⟨gb278, 1, none⟩ = some (.slice none 0 0) := (blk_cell BK278.out 1).trans rfl; have hfz49_0 := blk_frozen BK278.out 0; have hfz49_1 := blk_frozen BK278.out 1; obtain ⟨Ao50, co50, eo50⟩ := Kd.R_slice HO277.out; subst eo50))
    have n0_ : Aside0 (Kd.R k46 46 ((w47.setCell ⟨gb278, 0, none⟩ (.int .i64 t274)).setCell ⟨gb278, 1, none⟩ (.slice Ao50 t275.length co50)) w.heap.size (fun k_ => some k_ ≠ (.slice (some ad272) t269.length co6 : Value).ownBlock ∧ k_ ≠ gb273) u3 x3_1) := ⟨by (with_reducible repeat (first | apply Kd.R_alloc | apply Kd.R_drewN | apply Kd.R_drew)); exact Kd.R_mono (Kd.R_far (p := ⟨gb278, 1, none⟩) (Kd.R_far (p := ⟨gb278, 0, none⟩) (Kd.R_types HO_3.out BK278.out (by decide)) (fun _ hk => hk.2) (.int .i64 t274)) (fun _ hk => hk.2) (.slice Ao50 t275.length co50)) (fun _ hk => ⟨hk.1.1, hk.1.2⟩)⟩
    have n1_ : Aside0 (Kd.R (Kd.int .i64) 3 ((w47.setCell ⟨gb278, 0, none⟩ (.int .i64 t274)).setCell ⟨gb278, 1, none⟩ (.slice Ao50 t275.length co50)) w.heap.size (fun k_ => k_ ≠ gb273) (.slice (some ad272) t269.length co6) t269) := ⟨by (with_reducible repeat (first | apply Kd.R_alloc | apply Kd.R_drewN | apply Kd.R_drew)); exact Kd.R_mono (Kd.R_far (p := ⟨gb278, 1, none⟩) (Kd.R_far (p := ⟨gb278, 0, none⟩) (Kd.R_types HO_9.out BK278.out (by decide)) (fun _ hk => hk.2) (.int .i64 t274)) (fun _ hk => hk.2) (.slice Ao50 t275.length co50)) (fun _ hk => hk.1.2)⟩
    have n2_ : Aside0 (Kd.R Kd.bool 4 ((w47.setCell ⟨gb278, 0, none⟩ (.int .i64 t274)).setCell ⟨gb278, 1, none⟩ (.slice Ao50 t275.length co50)) w.heap.size (fun _ => True) (.slice Ao50 t275.length co50) t275) := ⟨by (with_reducible repeat (first | apply Kd.R_alloc | apply Kd.R_drewN | apply Kd.R_drew)); exact Kd.R_mono (Kd.R_far (p := ⟨gb278, 1, none⟩) (Kd.R_far (p := ⟨gb278, 0, none⟩) (Kd.R_types HO277.out BK278.out (by decide)) (fun _ hk => hk.2) (.int .i64 t274)) (fun _ hk => hk.2) (.slice Ao50 t275.length co50)) (fun _ hk => trivial)⟩
    have n3_ : Aside0 (((w47.setCell ⟨gb278, 0, none⟩ (.int .i64 t274)).setCell ⟨gb278, 1, none⟩ (.slice Ao50 t275.length co50)).heap[gb273]? = some (.cells #[.int .i64 (rd t269 x11_1)] 3 (0, 0))) := ⟨zf2 BK273.out NB273_278.out NB273_278.out⟩
    have n4_ : Aside0 (((w47.setCell ⟨gb278, 0, none⟩ (.int .i64 t274)).setCell ⟨gb278, 1, none⟩ (.slice Ao50 t275.length co50)).heap[gb278]? = some (.cells #[.int .i64 t274, .slice Ao50 t275.length co50] 86 (0, 0))) := ⟨by (with_reducible repeat (first | refine blk_drewN ?_ _ | refine blk_drew ?_ | refine blk_alloc ?_ _)); refine blk_put (cs := #[.int .i64 t274, .slice none 0 0]) ?_ 1 _ rfl; (with_reducible repeat (first | refine blk_drewN ?_ _ | refine blk_drew ?_ | refine blk_alloc ?_ _)); refine blk_put (cs := #[.int .i64 0, .slice none 0 0]) ?_ 0 _ rfl; (with_reducible repeat (first | refine blk_drewN ?_ _ | refine blk_drew ?_ | refine blk_alloc ?_ _)); exact BK278.out⟩
    have n5_ : Aside0 (Below w.heap.size w ((w47.setCell ⟨gb278, 0, none⟩ (.int .i64 t274)).setCell ⟨gb278, 1, none⟩ (.slice Ao50 t275.length co50))) := ⟨zh HB.out⟩
    (try clear HO_3)
    (try clear HO_9)
    (try clear HO277)
    (try clear BK273)
    (try clear BK278)
    (try clear HB)
    generalize ((w47.setCell ⟨gb278, 0, none⟩ (.int .i64 t274)).setCell ⟨gb278, 1, none⟩ (.slice Ao50 t275.length co50)) = w51 at n0_ n1_ n2_ n3_ n4_ n5_ ⊢
    have HO_3 := n0_
    have HO_9 := n1_
    have HO277 := n2_
    have BK273 := n3_
    have BK278 := n4_
    have HB := n5_
    clear n0_ n1_ n2_ n3_ n4_ n5_
    have n0_ := Aside0.mk (Kd.R_drew HO_3.out)
    have n1_ := Aside0.mk (Kd.R_drew HO_9.out)
    have n2_ := Aside0.mk (Kd.R_drew HO277.out)
    have n3_ := Aside0.mk (blk_drew BK273.out)
    have n4_ := Aside0.mk (blk_drew BK278.out)
    have n5_ := Aside0.mk (below_drew1 HB.out)
    clear HO_3
    clear HO_9
    clear HO277
    clear BK273
    clear BK278
    clear HB
    have HO_3 := n0_
    have HO_9 := n1_
    have HO277 := n2_
    have BK273 := n3_
    have BK278 := n4_
    have HB := n5_
    clear n0_ n1_ n2_ n3_ n4_ n5_
    have p279 : 0 ≤ (0 : Int) := (by omega)
    have q279 : 0 < (t275.length : Int) := zk
    obtain ⟨ad279, e279, hx279_0⟩ := Kd.at_bool (Kd.R_reads' HO277.out).2.2 0 p279 q279
    (try rw [← Nbq12.out] at hx279_0)
    (try rw [← Nbq26.out] at hx279_0)
    cases e279
    have qi279 : (0 < t275.length) = True := eq_true (by omega)
    (try rw [show ((0 : Int)).toNat = 0 from rfl] at hx279_0)
    (try rw [Addr.add_zero'] at hx279_0)
    replace p279 := eq_true p279
    replace q279 := eq_true q279
    have p281 : 0 ≤ (t280 : Int) := zk
    have q281 : t280 < (t275.length : Int) := zk
    obtain ⟨ad281, e281, hx281_0⟩ := Kd.at_bool (Kd.R_reads' HO277.out).2.2 t280 p281 q281
    (try rw [← Nbq12.out] at hx281_0)
    (try rw [← Nbq26.out] at hx281_0)
    obtain rfl : ad279 = ad281 := (by injection e281)
    replace p281 := eq_true p281
    replace q281 := eq_true q281
    refine start_ (n := 13) (S := fun w' => w'.cell? ⟨gb278, 0, none⟩ = some (.int .i64 t274) ∧ w'.cell? ⟨gb278, 1, none⟩ = some (.slice (some ad279) t275.length co50) ∧ w'.cell? ad279 = some (.bool false) ∧ w'.cell? (ad279.add (t280).toNat) = some (.bool false)) (ds := []) (tb 13 0) (by kernel_rfl) rfl rfl ⟨(blk_cell BK278.out 0).trans rfl, (blk_cell BK278.out 1).trans rfl, hx279_0, hx281_0⟩ (fun hHeld => ?_); refine with_tabW impl_allGames.tab6 impl_allGames.bits6 (fun HT_ HW_ => ?_)
    generalize w51.drew = w52 at HO_3 HO_9 HO277 BK273 BK278 HB hx279_0 hx281_0 hHeld ⊢
    refine zu (i := 0) (N := some 18) (tb 13 1) rfl rfl HT_ ?_
    refine zt (i := 1) (N := some 19) (tb 13 3) rfl rfl (take_ofW HT_.out HW_.out (by kernel_rfl)) hHeld ?_
    refine zu (i := 2) (N := some 20) (tb 13 7) rfl rfl HT_ ?_
    refine zt (i := 3) (N := some 21) (tb 13 15) rfl rfl (take_ofW HT_.out HW_.out (by kernel_rfl)) hHeld ?_
    refine zu (i := 4) (N := some 22) (tb 13 31) rfl rfl HT_ ?_
    refine zu (i := 5) (N := some 23) (tb 13 63) rfl rfl HT_ ?_
    refine zu (i := 6) (N := some 24) (tb 13 127) rfl rfl HT_ ?_
    refine zt (i := 7) (N := some 25) (tb 13 255) rfl rfl (take_ofW HT_.out HW_.out (by kernel_rfl)) hHeld ?_
    refine zt (i := 8) (N := some 26) (tb 13 511) rfl rfl (take_ofW HT_.out HW_.out (by kernel_rfl)) hHeld ?_
    refine one_ (i := 9) (N := some 27) (tb 13 1023) rfl rfl (one_of HT_.out (by kernel_rfl)) (by decide) (fun K hK => ?_)
    refine goes_ Tryz.func103 (by kernel_rfl) rfl #[.agg #[.int .i64 t274, .slice (some ad279) t275.length co50]] (by rfl) rfl rfl (by (try simp only [List.map_toArray, List.map_cons, List.map_nil]); first | done | rfl | (simp only [List.length_drop, List.length_take]; rfl)) ?_
    with_reducible refine (impl_votes_all.calls t274 _ _ t275 t280 _ ?side1 ?side2 A23.out).mono ?_
    (case side1 => repeat (first | exact (Kd.R_reads' HO277.out).2.2 | (with_reducible refine Kd.C_alloc ?_ _) | (with_reducible refine Kd.C_drewN ?_ _) | (with_reducible refine Kd.C_drew ?_)))
    (case side2 => exact (Kd.R_reads' HO277.out).2.1)
    rintro e w53 ⟨rfl, hb⟩
    have HS2_ := (hb.cell (World.block_lt_of_cell? _ _ (hHeld.2.2.1))).trans (hHeld.2.2.1)
    have HS3_ := (hb.cell (World.block_lt_of_cell? _ _ (hHeld.2.2.2))).trans (hHeld.2.2.2)
    refine ⟨_, rfl, ?_⟩
    have n0_ := Aside0.mk (Kd.R_below (zr HO_3.out) hb)
    have n1_ := Aside0.mk (Kd.R_below (zr HO_9.out) hb)
    have n2_ := Aside0.mk (Kd.R_below (zr HO277.out) hb)
    have n3_ := Aside0.mk (blk_below (g := gb273) (o := .cells #[.int .i64 (rd t269 x11_1)] 3 (0, 0)) (zb BK273.out) hb)
    have n4_ := Aside0.mk (blk_below (g := gb278) (o := .cells #[.int .i64 t274, .slice (some ad279) t275.length co50] 86 (0, 0)) (zb BK278.out) hb)
    have n5_ := Aside0.mk (below_step (zh HB.out) hb)
    clear HO_3
    clear HO_9
    clear HO277
    clear BK273
    clear BK278
    clear HB
    have HO_3 := n0_
    have HO_9 := n1_
    have HO277 := n2_
    have BK273 := n3_
    have BK278 := n4_
    have HB := n5_
    clear n0_ n1_ n2_ n3_ n4_ n5_
    (try clear hb)
    (try clear hb2)
    (try clear hk)
    (try clear hi)
    refine hK.out _ _ ⟨(blk_cell BK278.out 0).trans rfl, (blk_cell BK278.out 1).trans rfl, HS2_, HS3_⟩ (fun hHeld => ?_)
    clear hK K
    refine norm_ (a' := ?_) ?_ ?_
    rotate_left
    ·show Act.put _ (some 27) _ = _
     simp only [Act.put, List.setIfInBounds_toArray, List.set_cons_zero, List.set_cons_succ, i64_w, i32_w]
     rfl
    refine zu (i := 10) (N := some 28) (tb 13 2047) rfl rfl HT_ ?_
    refine zt (i := 11) (N := some 29) (tb 13 4095) rfl rfl (take_ofW HT_.out HW_.out (by kernel_rfl)) hHeld ?_
    refine zu (i := 12) (N := some 30) (tb 13 8191) rfl rfl HT_ ?_
    refine done_ (done_of HT_.out (by kernel_rfl)) ?_
    try go_wp2
    go_roundg k1
    case measure => have := HK1.out; omega
    case rel => exact ⟨(x3_1), (wrap64 (x11_1 + 1)), (by first | rfl | (simp; done) | (simp [*]; done)), H', ⟨by have := HK1.out; omega⟩, ⟨by (with_reducible repeat (first | apply Kd.R_alloc | apply Kd.R_drewN | apply Kd.R_drew)); exact Kd.R_mono HO_3.out (fun _ hk => hk.1)⟩, ⟨by (with_reducible repeat (first | apply Kd.R_alloc | apply Kd.R_drewN | apply Kd.R_drew)); exact Kd.R_mono HO_9.out (fun _ hk => trivial)⟩, ⟨zh HB.out⟩⟩
   subst c27
   have H1 : ((impl_votes_game.f k1 t274 t275).bind fun bt282 => (if x3_1.length < 4398046511104 then (impl_allGames.l0 k1 a0 (x3_1 ++ [(⟨bt282.1, bt282.2⟩ : S46)]) t269 (t269.length : Int) (wrap64 (x11_1 + 1))) else (none))) = some r := by rw [if_pos rfl] at H; exact H
   clear H
   have H := H1
   clear H1
   replace H := Option.bind_eq_some_iff.mp H
   obtain ⟨⟨t282, t283⟩, A280, H⟩ := H
   replace H : (if x3_1.length < 4398046511104 then (impl_allGames.l0 k1 a0 (x3_1 ++ [(⟨t282, t283⟩ : S46)]) t269 (t269.length : Int) (wrap64 (x11_1 + 1))) else (none)) = some r := H
   have A28 := Aside0.mk A280
   clear A280
   by_cases c29 : x3_1.length < 4398046511104
   rotate_left
   ·rw [if_neg c29] at H
    exact absurd H (by simp)
   rw [if_pos c29] at H
   have LMc29 := Aside0.mk c29
   clear c29
   obtain ⟨y286, hy286⟩ : ∃ y_ : List (S46), y_ = (x3_1 ++ [(⟨t282, t283⟩ : S46)]) := ⟨_, rfl⟩
   replace H : (impl_allGames.l0 k1 a0 y286 t269 (t269.length : Int) (wrap64 (x11_1 + 1))) = some r := by first | (rw [hy286]; with_reducible exact H) | (have H2_ := (Option.bind_some _ _).symm.trans H; rw [hy286]; with_reducible exact H2_) | (have H2_ := (Option.bind_some _ _).symm.trans H; with_reducible exact H2_) | with_reducible exact H | (rw [hy286]; exact H) | exact H
   have Ny286 := Aside0.mk hy286
   clear hy286
   have H' := Aside0.mk H
   clear H
   have p272 : 0 ≤ (x11_1 : Int) := zk
   have q272 : x11_1 < (t269.length : Int) := zk
   obtain ⟨ad272, e272, hx272_0⟩ := Kd.at_int (Kd.R_reads' HO_9.out).2.2 x11_1 p272 q272
   cases e272
   replace p272 := eq_true p272
   replace q272 := eq_true q272
   try go_wp2_with (first | ((with_reducible refine gate_dst (N := 5) rfl ?_); refine zq 5 #[.int .i64 0] 3 ?_; intro gb273 hg w30 hbox hb; have n0_ := Aside0.mk (Kd.R_below (Kd.R_elderB (zr HO_3.out) gb273 (Nat.le_of_eq hg.symm)) hb); have n1_ := Aside0.mk (Kd.R_below (Kd.R_elderB (zr HO_9.out) gb273 (Nat.le_of_eq hg.symm)) hb); have n2_ := Aside0.mk (below_step (zh HB.out) hb); have n3_ := Aside0.mk (hbox); have n4_ := Aside0.mk ((by rw [hg]; exact (below_size (zh HB.out)) : w.heap.size ≤ gb273)); have n5_ := Aside0.mk ((by rw [hg]; exact (below_size (zh HB.out)) : w.heap.size ≤ gb273)); clear HO_3; clear HO_9; clear HB; have HO_3 := n0_; have HO_9 := n1_; have HB := n2_; have BK273 := n3_; have GW273 := n4_; have GE273 := n5_; clear n0_ n1_ n2_ n3_ n4_ n5_; clear hb hbox hg; have hcz31_0 : w30.cell? ⟨gb273, 0, none⟩ = some (.int .i64 0) := (blk_cell BK273.out 0).trans rfl; have hfz31_0 := blk_frozen BK273.out 0) | ((with_reducible refine gate_callee (f := 100) rfl ?_); refine zl 17 Tryz.func100 #[.int .i64 a0, .func (.func 101) #[] #[.pointer (some ⟨gb273, 0, none⟩)]] ?_; (with_reducible refine (votesOf_allGames.calls k1 a0 (rd t269 x11_1) t274 t275 _ gb273 (by first | exact (blk_cell (zb BK273.out) 0).trans rfl | exact (blk_cell (blk_put (zb BK273.out) 0 _ rfl) 0).trans rfl | exact zb BK273.out) A10.out).mono ?_); rintro e w32 ⟨v276, rfl, ho0, hb⟩; refine ⟨_, rfl, ?_⟩; have n0_ := Aside0.mk (Kd.R_below (by (with_reducible repeat (first | apply Kd.R_alloc | apply Kd.R_drewN | apply Kd.R_drew)); exact (Kd.R_mono (Kd.R_far (p := ⟨gb273, 0, none⟩) (Kd.R_mono HO_3.out (fun k_ hk => (⟨hk, hk.2⟩ : _ ∧ k_ ≠ gb273))) (fun _ hk => hk.2) (.int .i64 (rd t269 x11_1))) (fun _ h_ => h_.1))) hb); have n1_ := Aside0.mk (Kd.R_below (by (with_reducible repeat (first | apply Kd.R_alloc | apply Kd.R_drewN | apply Kd.R_drew)); exact (Kd.R_mono (Kd.R_far (p := ⟨gb273, 0, none⟩) (Kd.R_mono HO_9.out (fun k_ hk => (⟨hk, hk.2⟩ : _ ∧ k_ ≠ gb273))) (fun _ hk => hk.2) (.int .i64 (rd t269 x11_1))) (fun _ h_ => h_.1))) hb); have n2_ := Aside0.mk (Kd.R_lower ho0 (below_size (zh HB.out))); have n3_ := Aside0.mk (blk_below (g := gb273) (o := .cells #[.int .i64 (rd t269 x11_1)] 3 (0, 0)) (by (with_reducible repeat (first | refine blk_drewN ?_ _ | refine blk_drew ?_ | refine blk_alloc ?_ _)); refine blk_put (cs := #[.int .i64 0]) ?_ 0 _ rfl; (with_reducible repeat (first | refine blk_drewN ?_ _ | refine blk_drew ?_ | refine blk_alloc ?_ _)); exact BK273.out) hb); have n4_ := Aside0.mk (below_step (zh HB.out) hb); clear HO_3; clear HO_9; clear BK273; clear HB; have HO_3 := n0_; have HO_9 := n1_; have HO277 := n2_; have BK273 := n3_; have HB := n4_; clear n0_ n1_ n2_ n3_ n4_; (try clear hb); (try clear hb2); (try clear hk); (try clear hi); (try clear ho0)) | ((with_reducible refine gate_dst (N := 6) rfl ?_); refine zq 6 #[.int .i64 0, .slice none 0 0] 86 ?_; intro gb278 hg w33 hbox hb; have n0_ := Aside0.mk (Kd.R_below (zr HO_3.out) hb); have n1_ := Aside0.mk (Kd.R_below (zr HO_9.out) hb); have n2_ := Aside0.mk (Kd.R_below (zr HO277.out) hb); have n3_ := Aside0.mk (blk_below (g := gb273) (o := .cells #[.int .i64 (rd t269 x11_1)] 3 (0, 0)) (zb BK273.out) hb); have n4_ := Aside0.mk (below_step (zh HB.out) hb); have n5_ := Aside0.mk (hbox); have n6_ := Aside0.mk ((by rw [hg]; exact (below_size (zh HB.out)) : w.heap.size ≤ gb278)); have n7_ := Aside0.mk ((by rw [hg]; exact (below_size (zh HB.out)) : w.heap.size ≤ gb278)); have n8_ := Aside0.mk ((by rw [hg]; exact Nat.ne_of_lt (blk_lt (g := gb273) (o := .cells #[.int .i64 (rd t269 x11_1)] 3 (0, 0)) (zb BK273.out)) : gb273 ≠ gb278)); have n9_ := Aside0.mk ((by rw [hg]; exact Nat.ne_of_gt (blk_lt (g := gb273) (o := .cells #[.int .i64 (rd t269 x11_1)] 3 (0, 0)) (zb BK273.out)) : gb278 ≠ gb273)); clear HO_3; clear HO_9; clear HO277; clear BK273; clear HB; have HO_3 := n0_; have HO_9 := n1_; have HO277 := n2_; have BK273 := n3_; have HB := n4_; have BK278 := n5_; have GW278 := n6_; have GE278 := n7_; have NB273_278 := n8_; have NB278_273 := n9_; clear n0_ n1_ n2_ n3_ n4_ n5_ n6_ n7_ n8_ n9_; clear hb hbox hg; have hnb34 := NB278_273.out; have hnc34 := NB273_278.out; have hcz35_0 : w33.cell? ⟨gb278, 0, none⟩ = some (.int .i64 0) := (blk_cell BK278.out 0).trans rfl; have hcz35_1 : w33.cell? ⟨gb278, 1, none⟩ = some (.slice none 0 0) := (blk_cell BK278.out 1).trans rfl; have hfz35_0 := blk_frozen BK278.out 0; have hfz35_1 := blk_frozen BK278.out 1; obtain ⟨Ao36, co36, eo36⟩ := Kd.R_slice HO277.out; subst eo36))
   have n0_ : Aside0 (Kd.R k46 46 ((w33.setCell ⟨gb278, 0, none⟩ (.int .i64 t274)).setCell ⟨gb278, 1, none⟩ (.slice Ao36 t275.length co36)) w.heap.size (fun k_ => some k_ ≠ (.slice (some ad272) t269.length co6 : Value).ownBlock ∧ k_ ≠ gb273) u3 x3_1) := ⟨by (with_reducible repeat (first | apply Kd.R_alloc | apply Kd.R_drewN | apply Kd.R_drew)); exact Kd.R_mono (Kd.R_far (p := ⟨gb278, 1, none⟩) (Kd.R_far (p := ⟨gb278, 0, none⟩) (Kd.R_types HO_3.out BK278.out (by decide)) (fun _ hk => hk.2) (.int .i64 t274)) (fun _ hk => hk.2) (.slice Ao36 t275.length co36)) (fun _ hk => ⟨hk.1.1, hk.1.2⟩)⟩
   have n1_ : Aside0 (Kd.R (Kd.int .i64) 3 ((w33.setCell ⟨gb278, 0, none⟩ (.int .i64 t274)).setCell ⟨gb278, 1, none⟩ (.slice Ao36 t275.length co36)) w.heap.size (fun k_ => k_ ≠ gb273) (.slice (some ad272) t269.length co6) t269) := ⟨by (with_reducible repeat (first | apply Kd.R_alloc | apply Kd.R_drewN | apply Kd.R_drew)); exact Kd.R_mono (Kd.R_far (p := ⟨gb278, 1, none⟩) (Kd.R_far (p := ⟨gb278, 0, none⟩) (Kd.R_types HO_9.out BK278.out (by decide)) (fun _ hk => hk.2) (.int .i64 t274)) (fun _ hk => hk.2) (.slice Ao36 t275.length co36)) (fun _ hk => hk.1.2)⟩
   have n2_ : Aside0 (Kd.R Kd.bool 4 ((w33.setCell ⟨gb278, 0, none⟩ (.int .i64 t274)).setCell ⟨gb278, 1, none⟩ (.slice Ao36 t275.length co36)) w.heap.size (fun _ => True) (.slice Ao36 t275.length co36) t275) := ⟨by (with_reducible repeat (first | apply Kd.R_alloc | apply Kd.R_drewN | apply Kd.R_drew)); exact Kd.R_mono (Kd.R_far (p := ⟨gb278, 1, none⟩) (Kd.R_far (p := ⟨gb278, 0, none⟩) (Kd.R_types HO277.out BK278.out (by decide)) (fun _ hk => hk.2) (.int .i64 t274)) (fun _ hk => hk.2) (.slice Ao36 t275.length co36)) (fun _ hk => trivial)⟩
   have n3_ : Aside0 (((w33.setCell ⟨gb278, 0, none⟩ (.int .i64 t274)).setCell ⟨gb278, 1, none⟩ (.slice Ao36 t275.length co36)).heap[gb273]? = some (.cells #[.int .i64 (rd t269 x11_1)] 3 (0, 0))) := ⟨zf2 BK273.out NB273_278.out NB273_278.out⟩
   have n4_ : Aside0 (((w33.setCell ⟨gb278, 0, none⟩ (.int .i64 t274)).setCell ⟨gb278, 1, none⟩ (.slice Ao36 t275.length co36)).heap[gb278]? = some (.cells #[.int .i64 t274, .slice Ao36 t275.length co36] 86 (0, 0))) := ⟨by (with_reducible repeat (first | refine blk_drewN ?_ _ | refine blk_drew ?_ | refine blk_alloc ?_ _)); refine blk_put (cs := #[.int .i64 t274, .slice none 0 0]) ?_ 1 _ rfl; (with_reducible repeat (first | refine blk_drewN ?_ _ | refine blk_drew ?_ | refine blk_alloc ?_ _)); refine blk_put (cs := #[.int .i64 0, .slice none 0 0]) ?_ 0 _ rfl; (with_reducible repeat (first | refine blk_drewN ?_ _ | refine blk_drew ?_ | refine blk_alloc ?_ _)); exact BK278.out⟩
   have n5_ : Aside0 (Below w.heap.size w ((w33.setCell ⟨gb278, 0, none⟩ (.int .i64 t274)).setCell ⟨gb278, 1, none⟩ (.slice Ao36 t275.length co36))) := ⟨zh HB.out⟩
   (try clear HO_3)
   (try clear HO_9)
   (try clear HO277)
   (try clear BK273)
   (try clear BK278)
   (try clear HB)
   generalize ((w33.setCell ⟨gb278, 0, none⟩ (.int .i64 t274)).setCell ⟨gb278, 1, none⟩ (.slice Ao36 t275.length co36)) = w37 at n0_ n1_ n2_ n3_ n4_ n5_ ⊢
   have HO_3 := n0_
   have HO_9 := n1_
   have HO277 := n2_
   have BK273 := n3_
   have BK278 := n4_
   have HB := n5_
   clear n0_ n1_ n2_ n3_ n4_ n5_
   have n0_ := Aside0.mk (Kd.R_drew HO_3.out)
   have n1_ := Aside0.mk (Kd.R_drew HO_9.out)
   have n2_ := Aside0.mk (Kd.R_drew HO277.out)
   have n3_ := Aside0.mk (blk_drew BK273.out)
   have n4_ := Aside0.mk (blk_drew BK278.out)
   have n5_ := Aside0.mk (below_drew1 HB.out)
   clear HO_3
   clear HO_9
   clear HO277
   clear BK273
   clear BK278
   clear HB
   have HO_3 := n0_
   have HO_9 := n1_
   have HO277 := n2_
   have BK273 := n3_
   have BK278 := n4_
   have HB := n5_
   clear n0_ n1_ n2_ n3_ n4_ n5_
   have p279 : 0 ≤ (0 : Int) := (by omega)
   have q279 : 0 < (t275.length : Int) := zk
   obtain ⟨ad279, e279, hx279_0⟩ := Kd.at_bool (Kd.R_reads' HO277.out).2.2 0 p279 q279
   (try rw [← Nbq12.out] at hx279_0)
   (try rw [← Nbq26.out] at hx279_0)
   cases e279
   have qi279 : (0 < t275.length) = True := eq_true (by omega)
   (try rw [show ((0 : Int)).toNat = 0 from rfl] at hx279_0)
   (try rw [Addr.add_zero'] at hx279_0)
   replace p279 := eq_true p279
   replace q279 := eq_true q279
   have p281 : 0 ≤ (t280 : Int) := zk
   have q281 : t280 < (t275.length : Int) := zk
   obtain ⟨ad281, e281, hx281_0⟩ := Kd.at_bool (Kd.R_reads' HO277.out).2.2 t280 p281 q281
   (try rw [← Nbq12.out] at hx281_0)
   (try rw [← Nbq26.out] at hx281_0)
   obtain rfl : ad279 = ad281 := (by injection e281)
   replace p281 := eq_true p281
   replace q281 := eq_true q281
   refine start_ (n := 13) (S := fun w' => w'.cell? ⟨gb278, 0, none⟩ = some (.int .i64 t274) ∧ w'.cell? ⟨gb278, 1, none⟩ = some (.slice (some ad279) t275.length co36) ∧ w'.cell? ad279 = some (.bool false) ∧ w'.cell? (ad279.add (t280).toNat) = some (.bool true)) (ds := []) (tb 13 0) (by kernel_rfl) rfl rfl ⟨(blk_cell BK278.out 0).trans rfl, (blk_cell BK278.out 1).trans rfl, hx279_0, hx281_0⟩ (fun hHeld => ?_); refine with_tabW impl_allGames.tab6 impl_allGames.bits6 (fun HT_ HW_ => ?_)
   generalize w37.drew = w38 at HO_3 HO_9 HO277 BK273 BK278 HB hx279_0 hx281_0 hHeld ⊢
   refine zu (i := 0) (N := some 18) (tb 13 1) rfl rfl HT_ ?_
   refine zt (i := 1) (N := some 19) (tb 13 3) rfl rfl (take_ofW HT_.out HW_.out (by kernel_rfl)) hHeld ?_
   refine zu (i := 2) (N := some 20) (tb 13 7) rfl rfl HT_ ?_
   refine zt (i := 3) (N := some 21) (tb 13 15) rfl rfl (take_ofW HT_.out HW_.out (by kernel_rfl)) hHeld ?_
   refine zu (i := 4) (N := some 22) (tb 13 31) rfl rfl HT_ ?_
   refine zu (i := 5) (N := some 23) (tb 13 63) rfl rfl HT_ ?_
   refine zu (i := 6) (N := some 24) (tb 13 127) rfl rfl HT_ ?_
   refine zt (i := 7) (N := some 25) (tb 13 255) rfl rfl (take_ofW HT_.out HW_.out (by kernel_rfl)) hHeld ?_
   refine zt (i := 8) (N := some 26) (tb 13 511) rfl rfl (take_ofW HT_.out HW_.out (by kernel_rfl)) hHeld ?_
   refine one_ (i := 9) (N := some 27) (tb 13 1023) rfl rfl (one_of HT_.out (by kernel_rfl)) (by decide) (fun K hK => ?_)
   refine goes_ Tryz.func103 (by kernel_rfl) rfl #[.agg #[.int .i64 t274, .slice (some ad279) t275.length co36]] (by rfl) rfl rfl (by (try simp only [List.map_toArray, List.map_cons, List.map_nil]); first | done | rfl | (simp only [List.length_drop, List.length_take]; rfl)) ?_
   with_reducible refine (impl_votes_all.calls t274 _ _ t275 t280 _ ?side1 ?side2 A23.out).mono ?_
   (case side1 => repeat (first | exact (Kd.R_reads' HO277.out).2.2 | (with_reducible refine Kd.C_alloc ?_ _) | (with_reducible refine Kd.C_drewN ?_ _) | (with_reducible refine Kd.C_drew ?_)))
   (case side2 => exact (Kd.R_reads' HO277.out).2.1)
   rintro e w39 ⟨rfl, hb⟩
   have HS2_ := (hb.cell (World.block_lt_of_cell? _ _ (hHeld.2.2.1))).trans (hHeld.2.2.1)
   have HS3_ := (hb.cell (World.block_lt_of_cell? _ _ (hHeld.2.2.2))).trans (hHeld.2.2.2)
   refine ⟨_, rfl, ?_⟩
   have n0_ := Aside0.mk (Kd.R_below (zr HO_3.out) hb)
   have n1_ := Aside0.mk (Kd.R_below (zr HO_9.out) hb)
   have n2_ := Aside0.mk (Kd.R_below (zr HO277.out) hb)
   have n3_ := Aside0.mk (blk_below (g := gb273) (o := .cells #[.int .i64 (rd t269 x11_1)] 3 (0, 0)) (zb BK273.out) hb)
   have n4_ := Aside0.mk (blk_below (g := gb278) (o := .cells #[.int .i64 t274, .slice (some ad279) t275.length co36] 86 (0, 0)) (zb BK278.out) hb)
   have n5_ := Aside0.mk (below_step (zh HB.out) hb)
   clear HO_3
   clear HO_9
   clear HO277
   clear BK273
   clear BK278
   clear HB
   have HO_3 := n0_
   have HO_9 := n1_
   have HO277 := n2_
   have BK273 := n3_
   have BK278 := n4_
   have HB := n5_
   clear n0_ n1_ n2_ n3_ n4_ n5_
   (try clear hb)
   (try clear hb2)
   (try clear hk)
   (try clear hi)
   refine hK.out _ _ ⟨(blk_cell BK278.out 0).trans rfl, (blk_cell BK278.out 1).trans rfl, HS2_, HS3_⟩ (fun hHeld => ?_)
   clear hK K
   refine norm_ (a' := ?_) ?_ ?_
   rotate_left
   ·show Act.put _ (some 27) _ = _
    simp only [Act.put, List.setIfInBounds_toArray, List.set_cons_zero, List.set_cons_succ, i64_w, i32_w]
    rfl
   refine zu (i := 10) (N := some 28) (tb 13 2047) rfl rfl HT_ ?_
   refine zt (i := 11) (N := some 29) (tb 13 4095) rfl rfl (take_ofW HT_.out HW_.out (by kernel_rfl)) hHeld ?_
   refine zu (i := 12) (N := some 30) (tb 13 8191) rfl rfl HT_ ?_
   refine done_ (done_of HT_.out (by kernel_rfl)) ?_
   have hcz40_0 : w39.cell? ⟨gb278, 0, none⟩ = some (.int .i64 t274) := (blk_cell BK278.out 0).trans rfl
   have hcz40_1 : w39.cell? ⟨gb278, 1, none⟩ = some (.slice (some ad279) t275.length co36) := (blk_cell BK278.out 1).trans rfl
   have hfz40_0 := blk_frozen BK278.out 0
   have hfz40_1 := blk_frozen BK278.out 1
   try go_wp2_with (first | ((with_reducible refine gate_callee (f := 104) rfl ?_); refine zl 33 Tryz.func104 #[.agg #[.int .i64 t274, .slice (some ad279) t275.length co36]] ?_; (with_reducible refine (impl_votes_game.calls k1 t274 _ _ t275 t282 t283 _ ?side1 ?side2 A28.out).mono ?_); (case side1 => repeat (first | exact (Kd.R_reads' HO277.out).2.2 | (with_reducible refine Kd.C_alloc ?_ _) | (with_reducible refine Kd.C_drewN ?_ _) | (with_reducible refine Kd.C_drew ?_))); (case side2 => exact (Kd.R_reads' HO277.out).2.1); rintro e w41 ⟨v284, rfl, ho0, hb⟩; refine ⟨_, rfl, ?_⟩; have n0_ := Aside0.mk (Kd.R_elder' (zr HO_3.out) (Kd.S_base ho0) hb); have n1_ := Aside0.mk (Kd.R_below (zr HO_9.out) hb); have n2_ := Aside0.mk (Kd.R_below (zr HO277.out) hb); have n3_ := Aside0.mk (Kd.S_lower (Kd.S_newB (Kd.S_new' ho0 (Kd.R_lt (zr HO_9.out))) (g := gb273) (o := .cells #[.int .i64 (rd t269 x11_1)] 3 (0, 0)) (zb BK273.out)) (below_size (zh HB.out))); have n4_ := Aside0.mk (blk_below (g := gb273) (o := .cells #[.int .i64 (rd t269 x11_1)] 3 (0, 0)) (zb BK273.out) hb); have n5_ := Aside0.mk (blk_below (g := gb278) (o := .cells #[.int .i64 t274, .slice (some ad279) t275.length co36] 86 (0, 0)) (zb BK278.out) hb); have n6_ := Aside0.mk (below_step (zh HB.out) hb); clear HO_3; clear HO_9; clear HO277; clear BK273; clear BK278; clear HB; have HO_3 := n0_; have HO_9 := n1_; have HO277 := n2_; have HO285 := n3_; have BK273 := n4_; have BK278 := n5_; have HB := n6_; clear n0_ n1_ n2_ n3_ n4_ n5_ n6_; (try clear hb); (try clear hb2); (try clear hk); (try clear hi); (try clear ho0); obtain ⟨Ao43, co43, eo43⟩ := Kd.S_slice HO285.out; subst eo43) | ((with_reducible refine gate_builtin (b := .append) (xs := #[.tmp 31, .tmp 34]) rfl ?_); at_builtin; refine Kd.R_append k46 (w0 := w) w.heap.size rfl (.tmp 31) (.tmp 34) 51 46 (.agg #[(.int .i64 0), (.slice none 0 0)]) 32 rfl Tryz.underlying51 info46 rfl (by decide) (by omega) u3 x3_1 (⟨t282, t283⟩ : S46) [.int .i64 t282, .slice Ao43 t283.length co43] (fun k_ => some k_ ≠ (.slice (some ad272) t269.length co6 : Value).ownBlock ∧ k_ ≠ gb273) (fun k_ => ((fun k_ => some k_ ≠ (.slice (some ad272) t269.length co6 : Value).ownBlock ∧ k_ ≠ gb273)) k_ ∧ some k_ ≠ (u3 : Value).ownBlock) rfl rfl ?aP (fun _ hk => hk) ?aF ?aO ?aB ?aS ?aL ?_; (case aP => exact k46_mkM _ _ _ (⟨t282, t283⟩ : S46) (Kd.R_mono (Kd.R_apart' ((Kd.S_R HO285.out)) (Kd.R_typed HO_3.out) (by decide)) (fun k_ hk => ⟨⟨hk.1.1.2, hk.1.2⟩, hk.2⟩))); (case aB => exact (zh HB.out)); (case aF => exact (fun k_ hk => ⟨Kd.fresh' (Kd.R_lt (zr HO_9.out)) k_ hk, Kd.freshB (g := gb273) (o := .cells #[.int .i64 (rd t269 x11_1)] 3 (0, 0)) (zb BK273.out) k_ hk⟩)); (case aO => exact (by (with_reducible repeat (first | apply Kd.R_alloc | apply Kd.R_drewN | apply Kd.R_drew)); exact Kd.R_mono HO_3.out (fun _ hk => ⟨hk.1.1, hk.1.2⟩))); (case aS => exact (below_size (zh HB.out))); (case aL => have := LMc29.out; omega); intro v287 w42 ho hb hg hat; rw [← Ny286.out] at ho; have n0_ := Aside0.mk (Kd.R_over' (zr HO_9.out) (Kd.R_typed (zr HO_3.out)) (by decide) hg); have n1_ := Aside0.mk (blk_grown (g := gb273) (o := .cells #[.int .i64 (rd t269 x11_1)] 3 (0, 0)) (zb BK273.out) hg (Kd.R_ne HO_3.out BK273.out (by decide))); have n2_ := Aside0.mk (Kd.R_over' (zr HO277.out) (Kd.R_typed (zr HO_3.out)) (by decide) hg); have n3_ := Aside0.mk (blk_grown (g := gb278) (o := .cells #[.int .i64 t274, .slice (some ad279) t275.length co36] 86 (0, 0)) (zb BK278.out) hg (Kd.R_ne HO_3.out BK278.out (by decide))); have n4_ := Aside0.mk (hb); have n5_ := Aside0.mk (ho); clear HO_9; clear BK273; clear HO277; clear BK278; clear HB; clear HO_3; clear HO285; have HO_9 := n0_; have BK273 := n1_; have HO277 := n2_; have BK278 := n3_; have HB := n4_; have HO288 := n5_; clear n0_ n1_ n2_ n3_ n4_ n5_; clear ho hb hg hat))
   go_roundg k1
   case measure => have := HK1.out; omega
   case rel => exact ⟨(y286), (wrap64 (x11_1 + 1)), (by first | rfl | (simp; done) | (simp [*]; done)), H', ⟨by have := HK1.out; omega⟩, ⟨by (with_reducible repeat (first | apply Kd.R_alloc | apply Kd.R_drewN | apply Kd.R_drew)); exact Kd.R_mono HO288.out (fun _ hk => hk.1)⟩, ⟨by (with_reducible repeat (first | apply Kd.R_alloc | apply Kd.R_drewN | apply Kd.R_drew)); exact Kd.R_mono HO_9.out (fun _ hk => trivial)⟩, ⟨zh HB.out⟩⟩
end Go.Proofs.YtgjakcpbfbfejaaGreat.Q
end

/- Part 4 of the proof of FnExactSureLosses: what it leans on (no condition). -/
import Derived.Test.YtgjakcpbfbfejaaGreatKFnExactSureLosses3
import Derived.Shelf.SlSortCmp.NoneTotal
section
namespace Go.Proofs.YtgjakcpbfbfejaaGreat.Q
open Go.RowKit Go.Proofs.YtgjakcpbfbfejaaGreatW.PrintWords Go.Proofs.YtgjakcpbfbfejaaGreatW.PrintLast Go.Proofs.YtgjakcpbfbfejaaGreatW.PrintMore
set_option linter.unusedVariables false
set_option linter.unusedSimpArgs false
theorem ev_range {R : Type} (n : Nat) (L : Nat → Nat → Option R) (v : Nat → R) (hend : Ev (fun k => L k n) (v n)) (hstep : ∀ i, i < n → Ev (fun k => L k (i + 1)) (v (i + 1)) → Ev (fun k => L k i) (v i)) :
    ∀ i, i ≤ n → Ev (fun k => L k i) (v i) := by
  have key : ∀ d i, i + d = n → Ev (fun k => L k i) (v i) := by
    intro d
    induction d with
    | zero => intro i hi; rw [show i = n by omega]; exact hend
    | succ d ih => intro i hi; exact hstep i (by omega) (ih (i + 1) (by omega))
  exact fun i hi => key (n - i) i (by omega)
theorem ev_rangeS {R σ : Type} (n : Nat) (L : Nat → Nat → σ → Option R) (v : Nat → σ → R) (I : Nat → σ → Prop) (hend : ∀ s, I n s → Ev (fun k => L k n s) (v n s))
    (hstep : ∀ i s, i < n → I i s → (∀ s', I (i + 1) s' → Ev (fun k => L k (i + 1) s') (v (i + 1) s')) → Ev (fun k => L k i s) (v i s)) :
    ∀ i s, i ≤ n → I i s → Ev (fun k => L k i s) (v i s) := by
  have key : ∀ d i s, i + d = n → I i s → Ev (fun k => L k i s) (v i s) := by
    intro d
    induction d with
    | zero =>
      intro i s hi h
      have e : i = n := by omega
      subst e
      exact hend s h
    | succ d ih => intro i s hi h; exact hstep i s (by omega) h (fun s' h' => ih (i + 1) s' (by omega) h')
  exact fun i s hi h => key (n - i) i s (by omega) h
theorem set_copy {α β : Type} (g : α → β) (z : β) (l : List α) (i : Nat) (h : i < l.length) :
    ((l.take i).map g ++ List.replicate (l.length - i) z).set i (g l[i]) = (l.take (i + 1)).map g ++ List.replicate (l.length - (i + 1)) z := by
  rw [List.set_append_right _ _ (by rw [List.length_map, List.length_take]; omega), List.length_map, List.length_take, Nat.min_eq_left (by omega), Nat.sub_self, show l.length - i = (l.length - (i + 1)) + 1 by omega, List.replicate_succ, List.set_cons_zero, List.take_succ_eq_append_getElem h, List.map_append, List.append_assoc]
  rfl
theorem copy_len {α β : Type} (g : α → β) (z : β) (l : List α) (i : Nat) (h : i ≤ l.length) : ((l.take i).map g ++ List.replicate (l.length - i) z).length = l.length := by
  rw [List.length_append, List.length_map, List.length_take, List.length_replicate]; omega
theorem getD_get {α : Type} {xs : List α} {z : α} {i : Nat} (h : i < xs.length) : xs.getD i z = xs[i] := by
  simp [List.getD_eq_getElem?_getD, List.getElem?_eq_getElem h]
theorem all_drop {α : Type} (p : α → Bool) (l : List α) (i : Nat) (h : i < l.length) : (l.drop i).all p = (p l[i] && (l.drop (i + 1)).all p) := by
  rw [List.drop_eq_getElem_cons h, List.all_cons]
theorem drop_end {α : Type} (l : List α) : l.drop l.length = [] := by simp
theorem eq_drop {α : Type} [DecidableEq α] (a b : List α) (i : Nat) (h1 : i < a.length) (h2 : i < b.length) : decide (a.drop i = b.drop i) = (decide (a[i] = b[i]) && decide (a.drop (i + 1) = b.drop (i + 1))) := by
  rw [List.drop_eq_getElem_cons h1, List.drop_eq_getElem_cons h2]
  by_cases e : a[i] = b[i]
  · by_cases e2 : a.drop (i + 1) = b.drop (i + 1)
    · rw [decide_eq_true e, decide_eq_true e2, decide_eq_true (by rw [e, e2])]; rfl
    · rw [decide_eq_false e2, decide_eq_false (fun h => e2 (List.cons.inj h).2)]; simp
  · rw [decide_eq_false e, decide_eq_false (fun h => e (List.cons.inj h).1)]; rfl
def tab {α : Type} (g : Nat → α) (n : Nat) : List α := (List.range n).map g
theorem tab_len {α : Type} (g : Nat → α) (n : Nat) : (tab g n).length = n := by simp [tab]
theorem tab_get {α : Type} (g : Nat → α) (n i : Nat) (h : i < (tab g n).length) : (tab g n)[i] = g i := by simp [tab]
theorem tab_succ {α : Type} (g : Nat → α) (n : Nat) : tab g (n + 1) = tab g n ++ [g n] := by simp [tab, List.range_succ]
theorem set_tab {α : Type} (g : Nat → α) (l : List α) (i : Nat) (h : i < l.length) : (tab g i ++ l.drop i).set i (g i) = tab g (i + 1) ++ l.drop (i + 1) := by
  rw [List.set_append_right _ _ (by rw [tab_len]; omega), tab_len, Nat.sub_self, List.drop_eq_getElem_cons h, List.set_cons_zero, tab_succ, List.append_assoc]; rfl
theorem tab_drop_len {α : Type} (g : Nat → α) (l : List α) (i : Nat) (h : i ≤ l.length) : (tab g i ++ l.drop i).length = l.length := by
  rw [List.length_append, tab_len, List.length_drop]; omega
end Go.Proofs.YtgjakcpbfbfejaaGreat.Q
end
section
namespace Go.Proofs.YtgjakcpbfbfejaaGreat.Q
open Go.RowKit Go.Proofs.YtgjakcpbfbfejaaGreatW.PrintWords Go.Proofs.YtgjakcpbfbfejaaGreatW.PrintLast Go.Proofs.YtgjakcpbfbfejaaGreatW.PrintMore
attribute [local go_sem] max2_int min2_int max_two min_two max_three min_three max_four min_four
set_option linter.unusedVariables false
set_option linter.unusedSimpArgs false
def cmp_isNaN_int.f (a0 : Int) : Option (Bool) := some (a0 != a0)
set_option maxHeartbeats 8000000 in
set_option maxRecDepth 100000 in
theorem cmp_isNaN_int.calls (a0 : Int) (r : Bool) (w : World) (h : cmp_isNaN_int.f a0 = some r) :
  Calls Tryz.prog 154 #[.int .i64 a0] w fun e w' => e = .returned (.bool r) ∧ Drawn0 w w' := by
 have H : (some (a0 != a0)) = some r := h
 clear h
 obtain rfl := Option.some.inj H
 go_enter Tryz.func154, Tryz.ntmps154
 go_wp2
 go_ret
 exact ⟨by first | rfl | (simp; done) | (simp [*]; done), by repeat (first | exact Drawn0.refl _ | apply Drawn0.step)⟩
def cmp_Compare_int.f (a0 : Int) (a1 : Int) : Option (Int) := (cmp_isNaN_int.f a0).bind fun t241 => ((cmp_isNaN_int.f a1).bind fun t242 => (if t241 = true then (if t242 = true then (some 0) else (some (-1))) else (if t242 = true then (some 1) else (if a0 < a1 then (some (-1)) else (if a0 > a1 then (some 1) else (some 0))))))
set_option maxHeartbeats 8000000 in
set_option maxRecDepth 100000 in
theorem cmp_Compare_int.calls (a0 : Int) (a1 : Int) (r : Int) (w : World) (h : cmp_Compare_int.f a0 a1 = some r) :
  Calls Tryz.prog 131 #[.int .i64 a0, .int .i64 a1] w fun e w' => e = .returned (.int .i64 r) ∧ Drawn0 w w' := by
 have H : ((cmp_isNaN_int.f a0).bind fun t241 => ((cmp_isNaN_int.f a1).bind fun t242 => (if t241 = true then (if t242 = true then (some 0) else (some (-1))) else (if t242 = true then (some 1) else (if a0 < a1 then (some (-1)) else (if a0 > a1 then (some 1) else (some 0))))))) = some r := h
 clear h
 replace H := Option.bind_eq_some_iff.mp H
 obtain ⟨t241, A30, H⟩ := H
 replace H : ((cmp_isNaN_int.f a1).bind fun t242 => (if t241 = true then (if t242 = true then (some 0) else (some (-1))) else (if t242 = true then (some 1) else (if a0 < a1 then (some (-1)) else (if a0 > a1 then (some 1) else (some 0)))))) = some r := H
 have A3 := Aside0.mk A30
 clear A30
 replace H := Option.bind_eq_some_iff.mp H
 obtain ⟨t242, A40, H⟩ := H
 replace H : (if t241 = true then (if t242 = true then (some 0) else (some (-1))) else (if t242 = true then (some 1) else (if a0 < a1 then (some (-1)) else (if a0 > a1 then (some 1) else (some 0))))) = some r := H
 have A4 := Aside0.mk A40
 clear A40
 by_cases c5 : t241 = true
 ·subst c5
  have H1 : (if t242 = true then (some 0) else (some (-1))) = some r := by rw [if_pos rfl] at H; exact H
  clear H
  have H := H1
  clear H1
  by_cases c6 : t242 = true
  ·subst c6
   have H1 : (some 0) = some r := by rw [if_pos rfl] at H; exact H
   clear H
   have H := H1
   clear H1
   obtain rfl := Option.some.inj H
   go_enter Tryz.func131, Tryz.ntmps131
   go_wp2_with (first | ((with_reducible refine gate_callee (f := 154) rfl ?_); refine zl 8 Tryz.func154 #[.int .i64 a0] ?_; (with_reducible refine (cmp_isNaN_int.calls a0 true _ A3.out).mono ?_); rintro e w' ⟨rfl, ⟨nd, rfl⟩⟩; refine ⟨_, rfl, ?_⟩) | ((with_reducible refine gate_callee (f := 154) rfl ?_); refine zl 10 Tryz.func154 #[.int .i64 a1] ?_; (with_reducible refine (cmp_isNaN_int.calls a1 true _ A4.out).mono ?_); rintro e w' ⟨rfl, ⟨nd, rfl⟩⟩; refine ⟨_, rfl, ?_⟩))
   go_ret
   exact ⟨by first | rfl | (simp; done) | (simp [*]; done), by repeat (first | exact Drawn0.refl _ | apply Drawn0.step)⟩
  replace c6 := Bool.eq_false_iff.mpr c6
  subst c6
  have H1 : (some (-1)) = some r := by rw [if_neg (show ¬ (false = true) by decide)] at H; exact H
  clear H
  have H := H1
  clear H1
  obtain rfl := Option.some.inj H
  go_enter Tryz.func131, Tryz.ntmps131
  go_wp2_with (first | ((with_reducible refine gate_callee (f := 154) rfl ?_); refine zl 8 Tryz.func154 #[.int .i64 a0] ?_; (with_reducible refine (cmp_isNaN_int.calls a0 true _ A3.out).mono ?_); rintro e w' ⟨rfl, ⟨nd, rfl⟩⟩; refine ⟨_, rfl, ?_⟩) | ((with_reducible refine gate_callee (f := 154) rfl ?_); refine zl 10 Tryz.func154 #[.int .i64 a1] ?_; (with_reducible refine (cmp_isNaN_int.calls a1 false _ A4.out).mono ?_); rintro e w' ⟨rfl, ⟨nd, rfl⟩⟩; refine ⟨_, rfl, ?_⟩))
  go_ret
  exact ⟨by first | rfl | (simp; done) | (simp [*]; done), by repeat (first | exact Drawn0.refl _ | apply Drawn0.step)⟩
 replace c5 := Bool.eq_false_iff.mpr c5
 subst c5
 have H1 : (if t242 = true then (some 1) else (if a0 < a1 then (some (-1)) else (if a0 > a1 then (some 1) else (some 0)))) = some r := by rw [if_neg (show ¬ (false = true) by decide)] at H; exact H
 clear H
 have H := H1
 clear H1
 by_cases c7 : t242 = true
 ·subst c7
  have H1 : (some 1) = some r := by rw [if_pos rfl] at H; exact H
  clear H
  have H := H1
  clear H1
  obtain rfl := Option.some.inj H
  go_enter Tryz.func131, Tryz.ntmps131
  go_wp2_with (first | ((with_reducible refine gate_callee (f := 154) rfl ?_); refine zl 8 Tryz.func154 #[.int .i64 a0] ?_; (with_reducible refine (cmp_isNaN_int.calls a0 false _ A3.out).mono ?_); rintro e w' ⟨rfl, ⟨nd, rfl⟩⟩; refine ⟨_, rfl, ?_⟩) | ((with_reducible refine gate_callee (f := 154) rfl ?_); refine zl 10 Tryz.func154 #[.int .i64 a1] ?_; (with_reducible refine (cmp_isNaN_int.calls a1 true _ A4.out).mono ?_); rintro e w' ⟨rfl, ⟨nd, rfl⟩⟩; refine ⟨_, rfl, ?_⟩))
  go_ret
  exact ⟨by first | rfl | (simp; done) | (simp [*]; done), by repeat (first | exact Drawn0.refl _ | apply Drawn0.step)⟩
 replace c7 := Bool.eq_false_iff.mpr c7
 subst c7
 have H1 : (if a0 < a1 then (some (-1)) else (if a0 > a1 then (some 1) else (some 0))) = some r := by rw [if_neg (show ¬ (false = true) by decide)] at H; exact H
 clear H
 have H := H1
 clear H1
 by_cases c8 : a0 < a1
 ·rw [if_pos c8] at H
  have c8b0 : decide (a0 < a1) = true := decide_eq_true c8
  clear c8
  obtain rfl := Option.some.inj H
  go_enter Tryz.func131, Tryz.ntmps131
  go_wp2_with (first | ((with_reducible refine gate_callee (f := 154) rfl ?_); refine zl 8 Tryz.func154 #[.int .i64 a0] ?_; (with_reducible refine (cmp_isNaN_int.calls a0 false _ A3.out).mono ?_); rintro e w' ⟨rfl, ⟨nd, rfl⟩⟩; refine ⟨_, rfl, ?_⟩) | ((with_reducible refine gate_callee (f := 154) rfl ?_); refine zl 10 Tryz.func154 #[.int .i64 a1] ?_; (with_reducible refine (cmp_isNaN_int.calls a1 false _ A4.out).mono ?_); rintro e w' ⟨rfl, ⟨nd, rfl⟩⟩; refine ⟨_, rfl, ?_⟩))
  go_ret
  exact ⟨by first | rfl | (simp; done) | (simp [*]; done), by repeat (first | exact Drawn0.refl _ | apply Drawn0.step)⟩
 rw [if_neg c8] at H
 have c8b0 : decide (a0 < a1) = false := decide_eq_false c8
 clear c8
 by_cases c9 : a0 > a1
 ·rw [if_pos c9] at H
  have c9b0 : decide (a1 < a0) = true := decide_eq_true c9
  clear c9
  obtain rfl := Option.some.inj H
  go_enter Tryz.func131, Tryz.ntmps131
  go_wp2_with (first | ((with_reducible refine gate_callee (f := 154) rfl ?_); refine zl 8 Tryz.func154 #[.int .i64 a0] ?_; (with_reducible refine (cmp_isNaN_int.calls a0 false _ A3.out).mono ?_); rintro e w' ⟨rfl, ⟨nd, rfl⟩⟩; refine ⟨_, rfl, ?_⟩) | ((with_reducible refine gate_callee (f := 154) rfl ?_); refine zl 10 Tryz.func154 #[.int .i64 a1] ?_; (with_reducible refine (cmp_isNaN_int.calls a1 false _ A4.out).mono ?_); rintro e w' ⟨rfl, ⟨nd, rfl⟩⟩; refine ⟨_, rfl, ?_⟩))
  go_ret
  exact ⟨by first | rfl | (simp; done) | (simp [*]; done), by repeat (first | exact Drawn0.refl _ | apply Drawn0.step)⟩
 rw [if_neg c9] at H
 have c9b0 : decide (a1 < a0) = false := decide_eq_false c9
 clear c9
 obtain rfl := Option.some.inj H
 go_enter Tryz.func131, Tryz.ntmps131
 go_wp2_with (first | ((with_reducible refine gate_callee (f := 154) rfl ?_); refine zl 8 Tryz.func154 #[.int .i64 a0] ?_; (with_reducible refine (cmp_isNaN_int.calls a0 false _ A3.out).mono ?_); rintro e w' ⟨rfl, ⟨nd, rfl⟩⟩; refine ⟨_, rfl, ?_⟩) | ((with_reducible refine gate_callee (f := 154) rfl ?_); refine zl 10 Tryz.func154 #[.int .i64 a1] ?_; (with_reducible refine (cmp_isNaN_int.calls a1 false _ A4.out).mono ?_); rintro e w' ⟨rfl, ⟨nd, rfl⟩⟩; refine ⟨_, rfl, ?_⟩))
 go_ret
 exact ⟨by first | rfl | (simp; done) | (simp [*]; done), by repeat (first | exact Drawn0.refl _ | apply Drawn0.step)⟩
def slices_Compare_int_int.l0 : Nat → List Int → List Int → List Int → Int → Int → Option (Int)
 | 0, _, _, _, _, _ => none
 | k + 1, x0, x1, x9, x10, x11 => if x11 < x10 then (if 0 ≤ x11 then (if x11 < (x9.length : Int) then (if x11 ≥ (x1.length : Int) then (some 1) else (if x11 < (x1.length : Int) then ((cmp_Compare_int.f (rd x9 x11) (rd x1 x11)).bind fun t245 => (if t245 = 0 then (slices_Compare_int_int.l0 k x0 x1 x9 x10 (wrap64 (x11 + 1))) else (some t245))) else (none))) else (none)) else (none)) else (if (x0.length : Int) < (x1.length : Int) then (some (-1)) else (some 0))
def slices_Compare_int_int.f (k : Nat) (l0 : List Int) (l1 : List Int) : Option (Int) := slices_Compare_int_int.l0 k l0 l1 l0 (l0.length : Int) 0
set_option maxHeartbeats 8000000 in
set_option maxRecDepth 100000 in
theorem slices_Compare_int_int.calls (k : Nat) (A0 : Option Addr) (c0 : Nat) (l0 : List Int) (A1 : Option Addr) (c1 : Nat) (l1 : List Int) (r : Int) (w : World) (hr0 : Kd.C (Kd.int .i64) w A0 l0.length l0) (hc0 : l0.length ≤ c0) (hr1 : Kd.C (Kd.int .i64) w A1 l1.length l1) (hc1 : l1.length ≤ c1) (h : slices_Compare_int_int.f k l0 l1 = some r) :
  Calls Tryz.prog 116 #[.slice A0 l0.length c0, .slice A1 l1.length c1] w fun e w' => e = .returned (.int .i64 r) ∧ Drawn0 w w' := by
 have HR0 := Aside0.mk hr0
 have HC0 := Aside0.mk hc0
 clear hr0 hc0
 have HR1 := Aside0.mk hr1
 have HC1 := Aside0.mk hc1
 clear hr1 hc1
 have H : (slices_Compare_int_int.l0 k l0 l1 l0 (l0.length : Int) 0) = some r := h
 clear h
 have H' := Aside0.mk H
 clear H
 go_enter Tryz.func116, Tryz.ntmps116
 go_wp2
 go_loopg [11] k (fun kq v11 w' => ∃ (x11_1 : Int), v11 = .int .i64 x11_1 ∧ Aside0 (slices_Compare_int_int.l0 kq l0 l1 l0 (l0.length : Int) x11_1 = some r) ∧ Aside0 (kq ≤ k) ∧ Drawn0 w w')
 case atStart => exact ⟨(0), (by first | rfl | (simp; done) | (simp [*]; done)), H', ⟨Nat.le_refl _⟩, by repeat (first | exact Drawn0.refl _ | apply Drawn0.step)⟩
 case round =>
  clear H'
  try clear c1
  try clear p2
  obtain ⟨x11_1, rfl, HA, HK1, ⟨m1, rfl⟩⟩ := hrel
  cases gk with
  | zero => exact absurd HA.out (by simp [slices_Compare_int_int.l0])
  | succ k1 =>
   have H := HA.out
   clear HA
   simp only [slices_Compare_int_int.l0] at H
   by_cases c3 : x11_1 < (l0.length : Int)
   rotate_left
   ·rw [if_neg c3] at H
    have c3b0 : decide (x11_1 < (l0.length : Int)) = false := decide_eq_false c3
    clear c3
    by_cases c10 : (l0.length : Int) < (l1.length : Int)
    ·rw [if_pos c10] at H
     have c10b0 : decide ((l0.length : Int) < (l1.length : Int)) = true := decide_eq_true c10
     have c10b1 : decide (l0.length < l1.length) = true := decide_eq_true (Int.ofNat_lt.mp c10)
     clear c10
     obtain rfl := Option.some.inj H
     go_wp2
     go_ret
     exact ⟨by first | rfl | (simp; done) | (simp [*]; done), by repeat (first | exact Drawn0.refl _ | apply Drawn0.step)⟩
    rw [if_neg c10] at H
    have c10b0 : decide ((l0.length : Int) < (l1.length : Int)) = false := decide_eq_false c10
    have c10b1 : decide (l0.length < l1.length) = false := decide_eq_false (fun h => c10 (Int.ofNat_lt.mpr h))
    clear c10
    obtain rfl := Option.some.inj H
    go_wp2
    go_ret
    exact ⟨by first | rfl | (simp; done) | (simp [*]; done), by repeat (first | exact Drawn0.refl _ | apply Drawn0.step)⟩
   rw [if_pos c3] at H
   have c3b0 : decide (x11_1 < (l0.length : Int)) = true := decide_eq_true c3
   clear c3
   by_cases c4 : 0 ≤ x11_1
   rotate_left
   ·rw [if_neg c4] at H
    exact absurd H (by simp)
   rw [if_pos c4] at H
   have c4b0 : decide (0 ≤ x11_1) = true := decide_eq_true c4
   clear c4
   by_cases c5 : x11_1 < (l0.length : Int)
   rotate_left
   ·rw [if_neg c5] at H
    exact absurd H (by simp)
   rw [if_pos c5] at H
   have c5b0 : decide (x11_1 < (l0.length : Int)) = true := decide_eq_true c5
   clear c5
   by_cases c6 : x11_1 ≥ (l1.length : Int)
   ·rw [if_pos c6] at H
    have c6b0 : decide ((l1.length : Int) ≤ x11_1) = true := decide_eq_true c6
    clear c6
    obtain rfl := Option.some.inj H
    have p243 : 0 ≤ (x11_1 : Int) := zk
    have q243 : x11_1 < (l0.length : Int) := zk
    obtain ⟨ad243, e243, hx243_0⟩ := Kd.at_int HR0.out x11_1 p243 q243
    cases e243
    replace p243 := eq_true p243
    replace q243 := eq_true q243
    go_wp2
    go_ret
    exact ⟨by first | rfl | (simp; done) | (simp [*]; done), by repeat (first | exact Drawn0.refl _ | apply Drawn0.step)⟩
   rw [if_neg c6] at H
   have c6b0 : decide ((l1.length : Int) ≤ x11_1) = false := decide_eq_false c6
   clear c6
   by_cases c7 : x11_1 < (l1.length : Int)
   rotate_left
   ·rw [if_neg c7] at H
    exact absurd H (by simp)
   rw [if_pos c7] at H
   have c7b0 : decide (x11_1 < (l1.length : Int)) = true := decide_eq_true c7
   clear c7
   replace H := Option.bind_eq_some_iff.mp H
   obtain ⟨t245, A80, H⟩ := H
   replace H : (if t245 = 0 then (slices_Compare_int_int.l0 k1 l0 l1 l0 (l0.length : Int) (wrap64 (x11_1 + 1))) else (some t245)) = some r := H
   have A8 := Aside0.mk A80
   clear A80
   by_cases c9 : t245 = 0
   rotate_left
   ·rw [if_neg c9] at H
    have c9b0 : (t245 == 0) = false := beq_eq_false_iff_ne.mpr c9
    have c9b1 : (t245 != 0) = true := bne_iff_ne.mpr c9
    obtain rfl := Option.some.inj H
    have p243 : 0 ≤ (x11_1 : Int) := zk
    have q243 : x11_1 < (l0.length : Int) := zk
    obtain ⟨ad243, e243, hx243_0⟩ := Kd.at_int HR0.out x11_1 p243 q243
    cases e243
    replace p243 := eq_true p243
    replace q243 := eq_true q243
    have p244 : 0 ≤ (x11_1 : Int) := zk
    have q244 : x11_1 < (l1.length : Int) := zk
    obtain ⟨ad244, e244, hx244_0⟩ := Kd.at_int HR1.out x11_1 p244 q244
    cases e244
    replace p244 := eq_true p244
    replace q244 := eq_true q244
    go_wp2_with (first | ((with_reducible refine gate_callee (f := 131) rfl ?_); refine zl 26 Tryz.func131 #[.int .i64 (rd l0 x11_1), .int .i64 (rd l1 x11_1)] ?_; (with_reducible refine (cmp_Compare_int.calls (rd l0 x11_1) (rd l1 x11_1) t245 _ A8.out).mono ?_); rintro e w' ⟨rfl, ⟨nd, rfl⟩⟩; refine ⟨_, rfl, ?_⟩))
    go_ret
    exact ⟨by first | rfl | (simp; done) | (simp [*]; done), by repeat (first | exact Drawn0.refl _ | apply Drawn0.step)⟩
   rw [if_pos c9] at H
   have c9b0 : (t245 == 0) = true := beq_iff_eq.mpr c9
   have c9b1 : (t245 != 0) = false := bne_eq_false_iff_eq.mpr c9
   clear c9
   have H' := Aside0.mk H
   clear H
   have p243 : 0 ≤ (x11_1 : Int) := zk
   have q243 : x11_1 < (l0.length : Int) := zk
   obtain ⟨ad243, e243, hx243_0⟩ := Kd.at_int HR0.out x11_1 p243 q243
   cases e243
   replace p243 := eq_true p243
   replace q243 := eq_true q243
   have p244 : 0 ≤ (x11_1 : Int) := zk
   have q244 : x11_1 < (l1.length : Int) := zk
   obtain ⟨ad244, e244, hx244_0⟩ := Kd.at_int HR1.out x11_1 p244 q244
   cases e244
   replace p244 := eq_true p244
   replace q244 := eq_true q244
   go_wp2_with (first | ((with_reducible refine gate_callee (f := 131) rfl ?_); refine zl 26 Tryz.func131 #[.int .i64 (rd l0 x11_1), .int .i64 (rd l1 x11_1)] ?_; (with_reducible refine (cmp_Compare_int.calls (rd l0 x11_1) (rd l1 x11_1) t245 _ A8.out).mono ?_); rintro e w' ⟨rfl, ⟨nd, rfl⟩⟩; refine ⟨_, rfl, ?_⟩))
   go_roundg k1
   case measure => have := HK1.out; omega
   case rel => exact ⟨(wrap64 (x11_1 + 1)), (by first | rfl | (simp; done) | (simp [*]; done)), H', ⟨by have := HK1.out; omega⟩, by repeat (first | exact Drawn0.refl _ | apply Drawn0.step)⟩
def impl_votes_isLeast.l0 : Nat → Int → Int → Int → Int → List Bool → Option (Bool)
 | 0, _, _, _, _, _ => none
 | k + 1, x1, x13, x14, x258000, x258001 => if x14 < x13 then ((impl_has.f x1 x14).bind fun t259 => (if t259 = true then (if 0 ≤ x14 then (if 0 ≤ (Go.bits .andNot .i64 x1 (shl .i64 1 x14)) then (if (Go.bits .andNot .i64 x1 (shl .i64 1 x14)) < (x258001.length : Int) then (if rdOf false x258001 (Go.bits .andNot .i64 x1 (shl .i64 1 x14)) = true then (some false) else (impl_votes_isLeast.l0 k x1 x13 (wrap64 (x14 + 1)) x258000 x258001)) else (none)) else (none)) else (none)) else (impl_votes_isLeast.l0 k x1 x13 (wrap64 (x14 + 1)) x258000 x258001))) else (some true)
def impl_votes_isLeast.f (k : Nat) (a0_0 : Int) (l0_1 : List Bool) (a1 : Int) : Option (Bool) := if 0 ≤ a1 then (if a1 < (l0_1.length : Int) then (if rdOf false l0_1 a1 = true then (impl_votes_isLeast.l0 k a1 a0_0 0 a0_0 l0_1) else (some false)) else (none)) else (none)
theorem impl_votes_isLeast.mono_l : ∀ k, (∀ y0 y1 y2 y3 y4, LeO (impl_votes_isLeast.l0 k y0 y1 y2 y3 y4) (impl_votes_isLeast.l0 (k + 1) y0 y1 y2 y3 y4))
 | 0 => fun _ _ _ _ _ r h => by simp [impl_votes_isLeast.l0] at h
 | k + 1 => by
  have ih0 := impl_votes_isLeast.mono_l k
  ·intro y0 y1 y2 y3 y4
   unfold impl_votes_isLeast.l0
   repeat' first
   | (with_reducible exact ih0 _ _ _ _ _)
   | (with_reducible exact LeO.refl _)
   | (with_reducible exact LeO.none _)
   | (with_reducible refine LeO.ite ?_ ?_)
   | (with_reducible refine LeO.bind ?_ (fun _ => ?_))
   | exact ih0 _ _ _ _ _
   | exact LeO.none _
   | refine LeO.ite ?_ ?_
   | refine LeO.bind ?_ (fun _ => ?_)
theorem impl_votes_isLeast.mono : ∀ a0 a1 a2 k, LeO (impl_votes_isLeast.f k a0 a1 a2) (impl_votes_isLeast.f (k + 1) a0 a1 a2) := by
 intro a0 a1 a2 k
 have ih0 := impl_votes_isLeast.mono_l k
 unfold impl_votes_isLeast.f
 repeat' first
   | (with_reducible exact ih0 _ _ _ _ _)
   | (with_reducible exact LeO.refl _)
   | (with_reducible exact LeO.none _)
   | (with_reducible refine LeO.ite ?_ ?_)
   | (with_reducible refine LeO.bind ?_ (fun _ => ?_))
   | exact ih0 _ _ _ _ _
   | exact LeO.none _
   | refine LeO.ite ?_ ?_
   | refine LeO.bind ?_ (fun _ => ?_)
set_option maxHeartbeats 8000000 in
set_option maxRecDepth 100000 in
theorem impl_votes_isLeast.calls (k : Nat) (a0_0 : Int) (A0_1 : Option Addr) (c0_1 : Nat) (l0_1 : List Bool) (a1 : Int) (r : Bool) (w : World) (hr0_1 : Kd.C Kd.bool w A0_1 l0_1.length l0_1) (hc0_1 : l0_1.length ≤ c0_1) (h : impl_votes_isLeast.f k a0_0 l0_1 a1 = some r) :
  Calls Tryz.prog 134 #[.agg #[.int .i64 a0_0, .slice A0_1 l0_1.length c0_1], .int .i64 a1] w fun e w' => e = .returned (.bool r) ∧ Below w.heap.size w w' := by
 have hu86 := Tryz.underlying86
 have HR0_1 := Aside0.mk hr0_1
 have HC0_1 := Aside0.mk hc0_1
 clear hr0_1 hc0_1
 have HB := Aside0.mk (Below.refl w.heap.size w)
 have H : (if 0 ≤ a1 then (if a1 < (l0_1.length : Int) then (if rdOf false l0_1 a1 = true then (impl_votes_isLeast.l0 k a1 a0_0 0 a0_0 l0_1) else (some false)) else (none)) else (none)) = some r := h
 clear h
 by_cases c3 : 0 ≤ a1
 rotate_left
 ·rw [if_neg c3] at H
  exact absurd H (by simp)
 rw [if_pos c3] at H
 have c3b0 : decide (0 ≤ a1) = true := decide_eq_true c3
 clear c3
 by_cases c4 : a1 < (l0_1.length : Int)
 rotate_left
 ·rw [if_neg c4] at H
  exact absurd H (by simp)
 rw [if_pos c4] at H
 have c4b0 : decide (a1 < (l0_1.length : Int)) = true := decide_eq_true c4
 clear c4
 obtain ⟨bq5, hbq5⟩ : ∃ b_ : Bool, b_ = (rdOf false l0_1 a1) := ⟨_, rfl⟩
 replace H : (if bq5 = true then (impl_votes_isLeast.l0 k a1 a0_0 0 a0_0 l0_1) else (some false)) = some r := by rw [← hbq5] at H; exact H
 have Nbq5 := Aside0.mk hbq5
 clear hbq5
 by_cases c6 : bq5 = true
 rotate_left
 ·replace c6 := Bool.eq_false_iff.mpr c6
  subst c6
  have H1 : (some false) = some r := by rw [if_neg (show ¬ (false = true) by decide)] at H; exact H
  clear H
  have H := H1
  clear H1
  obtain rfl := Option.some.inj H
  go_enter Tryz.func134, Tryz.ntmps134
  go_wp2_with (first | ((with_reducible refine gate_dst (N := 2) rfl ?_); refine zq 2 #[.int .i64 a0_0, .slice A0_1 l0_1.length c0_1] 86 ?_; intro gb257 hg w20 hbox hb; have n2_ := Aside0.mk ((by rw [hg]; exact (below_size (zh HB.out)) : w.heap.size ≤ gb257)); replace HB := Aside0.mk (below_step (zh HB.out) hb); have BK257 := Aside0.mk hbox; have GW257 := n2_; have GE257 := n2_; clear n2_ hb hbox hg; have hcz21_0 : w20.cell? ⟨gb257, 0, none⟩ = some (.int .i64 a0_0) := (blk_cell BK257.out 0).trans rfl; have hcz21_1 : w20.cell? ⟨gb257, 1, none⟩ = some (.slice A0_1 l0_1.length c0_1) := (blk_cell BK257.out 1).trans rfl; have hfz21_0 := blk_frozen BK257.out 0; have hfz21_1 := blk_frozen BK257.out 1; have p258 : 0 ≤ (a1 : Int) := zk; have q258 : a1 < (l0_1.length : Int) := zk; obtain ⟨ad258, e258, hx258_0⟩ := Kd.at_bool HR0_1.out a1 p258 q258; (try rw [← Nbq5.out] at hx258_0); cases e258; replace hx258_0 := zx HB.out hx258_0; replace p258 := eq_true p258; replace q258 := eq_true q258))
  repeat (go_quiet (first | ((with_reducible refine gate_dst (N := 2) rfl ?_); refine zq 2 #[.int .i64 a0_0, .slice A0_1 l0_1.length c0_1] 86 ?_; intro gb257 hg w20 hbox hb; have n2_ := Aside0.mk ((by rw [hg]; exact (below_size (zh HB.out)) : w.heap.size ≤ gb257)); replace HB := Aside0.mk (below_step (zh HB.out) hb); have BK257 := Aside0.mk hbox; have GW257 := n2_; have GE257 := n2_; clear n2_ hb hbox hg; have hcz21_0 : w20.cell? ⟨gb257, 0, none⟩ = some (.int .i64 a0_0) := (blk_cell BK257.out 0).trans rfl; have hcz21_1 : w20.cell? ⟨gb257, 1, none⟩ = some (.slice A0_1 l0_1.length c0_1) := (blk_cell BK257.out 1).trans rfl; have hfz21_0 := blk_frozen BK257.out 0; have hfz21_1 := blk_frozen BK257.out 1; have p258 : 0 ≤ (a1 : Int) := zk; have q258 : a1 < (l0_1.length : Int) := zk; obtain ⟨ad258, e258, hx258_0⟩ := Kd.at_bool HR0_1.out a1 p258 q258; (try rw [← Nbq5.out] at hx258_0); cases e258; replace hx258_0 := zx HB.out hx258_0; replace p258 := eq_true p258; replace q258 := eq_true q258)); try go_wp2_with (first | ((with_reducible refine gate_dst (N := 2) rfl ?_); refine zq 2 #[.int .i64 a0_0, .slice A0_1 l0_1.length c0_1] 86 ?_; intro gb257 hg w20 hbox hb; have n2_ := Aside0.mk ((by rw [hg]; exact (below_size (zh HB.out)) : w.heap.size ≤ gb257)); replace HB := Aside0.mk (below_step (zh HB.out) hb); have BK257 := Aside0.mk hbox; have GW257 := n2_; have GE257 := n2_; clear n2_ hb hbox hg; have hcz21_0 : w20.cell? ⟨gb257, 0, none⟩ = some (.int .i64 a0_0) := (blk_cell BK257.out 0).trans rfl; have hcz21_1 : w20.cell? ⟨gb257, 1, none⟩ = some (.slice A0_1 l0_1.length c0_1) := (blk_cell BK257.out 1).trans rfl; have hfz21_0 := blk_frozen BK257.out 0; have hfz21_1 := blk_frozen BK257.out 1; have p258 : 0 ≤ (a1 : Int) := zk; have q258 : a1 < (l0_1.length : Int) := zk; obtain ⟨ad258, e258, hx258_0⟩ := Kd.at_bool HR0_1.out a1 p258 q258; (try rw [← Nbq5.out] at hx258_0); cases e258; replace hx258_0 := zx HB.out hx258_0; replace p258 := eq_true p258; replace q258 := eq_true q258)))
  go_ret
  exact ⟨by first | rfl | (simp [*, errW_none, errW_some] <;> rfl), zh HB.out⟩
 subst c6
 have H1 : (impl_votes_isLeast.l0 k a1 a0_0 0 a0_0 l0_1) = some r := by rw [if_pos rfl] at H; exact H
 clear H
 have H := H1
 clear H1
 have H' := Aside0.mk H
 clear H
 go_enter Tryz.func134, Tryz.ntmps134
 go_wp2_with (first | ((with_reducible refine gate_dst (N := 2) rfl ?_); refine zq 2 #[.int .i64 a0_0, .slice A0_1 l0_1.length c0_1] 86 ?_; intro gb257 hg w7 hbox hb; have n2_ := Aside0.mk ((by rw [hg]; exact (below_size (zh HB.out)) : w.heap.size ≤ gb257)); replace HB := Aside0.mk (below_step (zh HB.out) hb); have BK257 := Aside0.mk hbox; have GW257 := n2_; have GE257 := n2_; clear n2_ hb hbox hg; have hcz8_0 : w7.cell? ⟨gb257, 0, none⟩ = some (.int .i64 a0_0) := (blk_cell BK257.out 0).trans rfl; have hcz8_1 : w7.cell? ⟨gb257, 1, none⟩ = some (.slice A0_1 l0_1.length c0_1) := (blk_cell BK257.out 1).trans rfl; have hfz8_0 := blk_frozen BK257.out 0; have hfz8_1 := blk_frozen BK257.out 1; have p258 : 0 ≤ (a1 : Int) := zk; have q258 : a1 < (l0_1.length : Int) := zk; obtain ⟨ad258, e258, hx258_0⟩ := Kd.at_bool HR0_1.out a1 p258 q258; (try rw [← Nbq5.out] at hx258_0); cases e258; replace hx258_0 := zx HB.out hx258_0; replace p258 := eq_true p258; replace q258 := eq_true q258))
 repeat (go_quiet (first | ((with_reducible refine gate_dst (N := 2) rfl ?_); refine zq 2 #[.int .i64 a0_0, .slice A0_1 l0_1.length c0_1] 86 ?_; intro gb257 hg w7 hbox hb; have n2_ := Aside0.mk ((by rw [hg]; exact (below_size (zh HB.out)) : w.heap.size ≤ gb257)); replace HB := Aside0.mk (below_step (zh HB.out) hb); have BK257 := Aside0.mk hbox; have GW257 := n2_; have GE257 := n2_; clear n2_ hb hbox hg; have hcz8_0 : w7.cell? ⟨gb257, 0, none⟩ = some (.int .i64 a0_0) := (blk_cell BK257.out 0).trans rfl; have hcz8_1 : w7.cell? ⟨gb257, 1, none⟩ = some (.slice A0_1 l0_1.length c0_1) := (blk_cell BK257.out 1).trans rfl; have hfz8_0 := blk_frozen BK257.out 0; have hfz8_1 := blk_frozen BK257.out 1; have p258 : 0 ≤ (a1 : Int) := zk; have q258 : a1 < (l0_1.length : Int) := zk; obtain ⟨ad258, e258, hx258_0⟩ := Kd.at_bool HR0_1.out a1 p258 q258; (try rw [← Nbq5.out] at hx258_0); cases e258; replace hx258_0 := zx HB.out hx258_0; replace p258 := eq_true p258; replace q258 := eq_true q258)); try go_wp2_with (first | ((with_reducible refine gate_dst (N := 2) rfl ?_); refine zq 2 #[.int .i64 a0_0, .slice A0_1 l0_1.length c0_1] 86 ?_; intro gb257 hg w7 hbox hb; have n2_ := Aside0.mk ((by rw [hg]; exact (below_size (zh HB.out)) : w.heap.size ≤ gb257)); replace HB := Aside0.mk (below_step (zh HB.out) hb); have BK257 := Aside0.mk hbox; have GW257 := n2_; have GE257 := n2_; clear n2_ hb hbox hg; have hcz8_0 : w7.cell? ⟨gb257, 0, none⟩ = some (.int .i64 a0_0) := (blk_cell BK257.out 0).trans rfl; have hcz8_1 : w7.cell? ⟨gb257, 1, none⟩ = some (.slice A0_1 l0_1.length c0_1) := (blk_cell BK257.out 1).trans rfl; have hfz8_0 := blk_frozen BK257.out 0; have hfz8_1 := blk_frozen BK257.out 1; have p258 : 0 ≤ (a1 : Int) := zk; have q258 : a1 < (l0_1.length : Int) := zk; obtain ⟨ad258, e258, hx258_0⟩ := Kd.at_bool HR0_1.out a1 p258 q258; (try rw [← Nbq5.out] at hx258_0); cases e258; replace hx258_0 := zx HB.out hx258_0; replace p258 := eq_true p258; replace q258 := eq_true q258)))
 go_loopg [14] k (fun kq v14 w' => ∃ (x14_1 : Int), v14 = .int .i64 x14_1 ∧ Aside0 (impl_votes_isLeast.l0 kq a1 a0_0 x14_1 a0_0 l0_1 = some r) ∧ Aside0 (kq ≤ k) ∧ Aside0 (w'.heap[gb257]? = some (.cells #[.int .i64 a0_0, (.slice (some ad258) l0_1.length c0_1)] 86 (0, 0))) ∧ Aside0 (Below w.heap.size w w'))
 case atStart => exact ⟨(0), (by first | rfl | (simp; done) | (simp [*]; done)), H', ⟨Nat.le_refl _⟩, ⟨zb BK257.out⟩, ⟨zh HB.out⟩⟩
 case round =>
  clear H'
  try clear c1
  try clear p2
  try clear q2
  try clear hx2
  try clear c3
  try clear c3b0
  try clear c4
  try clear c4b0
  try clear q5
  try clear c6
  try clear hcz8_0
  try clear hcz8_1
  try clear hfz8_0
  try clear hfz8_1
  try clear hx258_0
  try clear p258
  try clear q258
  obtain ⟨x14_1, rfl, HA, HK1, BK257, HB⟩ := hrel
  cases gk with
  | zero => exact absurd HA.out (by simp [impl_votes_isLeast.l0])
  | succ k1 =>
   have H := HA.out
   clear HA
   simp only [impl_votes_isLeast.l0] at H
   by_cases c9 : x14_1 < a0_0
   rotate_left
   ·rw [if_neg c9] at H
    have c9b0 : decide (x14_1 < a0_0) = false := decide_eq_false c9
    clear c9
    obtain rfl := Option.some.inj H
    go_wp2
    repeat (go_quiet (fail); try go_wp2)
    go_ret
    exact ⟨by first | rfl | (simp [*, errW_none, errW_some] <;> rfl), zh HB.out⟩
   rw [if_pos c9] at H
   have c9b0 : decide (x14_1 < a0_0) = true := decide_eq_true c9
   clear c9
   replace H := Option.bind_eq_some_iff.mp H
   obtain ⟨t259, A100, H⟩ := H
   replace H : (if t259 = true then (if 0 ≤ x14_1 then (if 0 ≤ (Go.bits .andNot .i64 a1 (shl .i64 1 x14_1)) then (if (Go.bits .andNot .i64 a1 (shl .i64 1 x14_1)) < (l0_1.length : Int) then (if rdOf false l0_1 (Go.bits .andNot .i64 a1 (shl .i64 1 x14_1)) = true then (some false) else (impl_votes_isLeast.l0 k1 a1 a0_0 (wrap64 (x14_1 + 1)) a0_0 l0_1)) else (none)) else (none)) else (none)) else (impl_votes_isLeast.l0 k1 a1 a0_0 (wrap64 (x14_1 + 1)) a0_0 l0_1)) = some r := H
   have A10 := Aside0.mk A100
   clear A100
   by_cases c11 : t259 = true
   rotate_left
   ·replace c11 := Bool.eq_false_iff.mpr c11
    subst c11
    have H1 : (impl_votes_isLeast.l0 k1 a1 a0_0 (wrap64 (x14_1 + 1)) a0_0 l0_1) = some r := by rw [if_neg (show ¬ (false = true) by decide)] at H; exact H
    clear H
    have H := H1
    clear H1
    have H' := Aside0.mk H
    clear H
    go_wp2_with (first | (go_at_call 102; (with_reducible refine (impl_has.calls a1 x14_1 false _ A10.out).mono ?_); rintro e w' ⟨rfl, ⟨nd, rfl⟩⟩; (try first | exact ⟨rfl, _, zd⟩ | exact ⟨rfl, _, ze⟩)))
    repeat (go_quiet (first | (go_at_call 102; (with_reducible refine (impl_has.calls a1 x14_1 false _ A10.out).mono ?_); rintro e w' ⟨rfl, ⟨nd, rfl⟩⟩; (try first | exact ⟨rfl, _, zd⟩ | exact ⟨rfl, _, ze⟩))); try go_wp2_with (first | (go_at_call 102; (with_reducible refine (impl_has.calls a1 x14_1 false _ A10.out).mono ?_); rintro e w' ⟨rfl, ⟨nd, rfl⟩⟩; (try first | exact ⟨rfl, _, zd⟩ | exact ⟨rfl, _, ze⟩))))
    go_roundg k1
    case measure => have := HK1.out; omega
    case rel => exact ⟨(wrap64 (x14_1 + 1)), (by first | rfl | (simp; done) | (simp [*]; done)), H', ⟨by have := HK1.out; omega⟩, ⟨zb BK257.out⟩, ⟨zh HB.out⟩⟩
   subst c11
   have H1 : (if 0 ≤ x14_1 then (if 0 ≤ (Go.bits .andNot .i64 a1 (shl .i64 1 x14_1)) then (if (Go.bits .andNot .i64 a1 (shl .i64 1 x14_1)) < (l0_1.length : Int) then (if rdOf false l0_1 (Go.bits .andNot .i64 a1 (shl .i64 1 x14_1)) = true then (some false) else (impl_votes_isLeast.l0 k1 a1 a0_0 (wrap64 (x14_1 + 1)) a0_0 l0_1)) else (none)) else (none)) else (none)) = some r := by rw [if_pos rfl] at H; exact H
   clear H
   have H := H1
   clear H1
   by_cases c12 : 0 ≤ x14_1
   rotate_left
   ·rw [if_neg c12] at H
    exact absurd H (by simp)
   rw [if_pos c12] at H
   have c12b0 := eq_true c12
   have c12b1 : decide (0 ≤ x14_1) = true := decide_eq_true c12
   clear c12
   obtain ⟨ji13, hji13⟩ : ∃ j_ : Int, (shl .i64 1 x14_1) = j_ := ⟨_, rfl⟩
   replace H : (if 0 ≤ (Go.bits .andNot .i64 a1 (ji13)) then (if (Go.bits .andNot .i64 a1 (ji13)) < (l0_1.length : Int) then (if rdOf false l0_1 (Go.bits .andNot .i64 a1 (ji13)) = true then (some false) else (impl_votes_isLeast.l0 k1 a1 a0_0 (wrap64 (x14_1 + 1)) a0_0 l0_1)) else (none)) else (none)) = some r := by first | (rw [hji13] at H; exact H) | (simp only [hji13] at H ⊢; exact H)
   (try rw [hji13] at A10)
   have hji13_ : (IntKind.i64.wrap (1 * 2 ^ min x14_1.toNat 64)) = ji13 := hji13
   have hji13z : x14_1 ≤ 64 → (IntKind.i64.wrap (1 * 2 ^ x14_1.toNat)) = ji13 := shl_small hji13
   have hji13u : (IntKind.i64.wrap (2 ^ min x14_1.toNat 64)) = ji13 := by have h_ := hji13_; rw [Int.one_mul] at h_; exact h_
   have hji13v : x14_1 ≤ 64 → (IntKind.i64.wrap (2 ^ x14_1.toNat)) = ji13 := fun hle_ => by have h_ := hji13z hle_; rw [Int.one_mul] at h_; exact h_
   have hji13y : (wrap64 (1 * 2 ^ min x14_1.toNat 64)) = ji13 := (i64_w _).symm.trans hji13_
   have hji13x : x14_1 ≤ 64 → (wrap64 (1 * 2 ^ x14_1.toNat)) = ji13 := fun h_ => (i64_w _).symm.trans (hji13z h_)
   by_cases c14 : 0 ≤ (Go.bits .andNot .i64 a1 (ji13))
   rotate_left
   ·rw [if_neg c14] at H
    exact absurd H (by simp)
   rw [if_pos c14] at H
   have c14b0 : decide (0 ≤ (Go.bits .andNot .i64 a1 (ji13))) = true := decide_eq_true c14
   clear c14
   by_cases c15 : (Go.bits .andNot .i64 a1 (ji13)) < (l0_1.length : Int)
   rotate_left
   ·rw [if_neg c15] at H
    exact absurd H (by simp)
   rw [if_pos c15] at H
   have c15b0 : decide ((Go.bits .andNot .i64 a1 (ji13)) < (l0_1.length : Int)) = true := decide_eq_true c15
   clear c15
   obtain ⟨bq16, hbq16⟩ : ∃ b_ : Bool, b_ = (rdOf false l0_1 (Go.bits .andNot .i64 a1 (ji13))) := ⟨_, rfl⟩
   replace H : (if bq16 = true then (some false) else (impl_votes_isLeast.l0 k1 a1 a0_0 (wrap64 (x14_1 + 1)) a0_0 l0_1)) = some r := by rw [← hbq16] at H; exact H
   have Nbq16 := Aside0.mk hbq16
   clear hbq16
   by_cases c17 : bq16 = true
   ·subst c17
    have H1 : (some false) = some r := by rw [if_pos rfl] at H; exact H
    clear H
    have H := H1
    clear H1
    obtain rfl := Option.some.inj H
    go_wp2_with (first | (go_at_call 102; (with_reducible refine (impl_has.calls a1 x14_1 true _ A10.out).mono ?_); rintro e w' ⟨rfl, ⟨nd, rfl⟩⟩; (try first | exact ⟨rfl, _, zd⟩ | exact ⟨rfl, _, ze⟩); have hcz18_0 : wr.cell? ⟨gb257, 0, none⟩ = some (.int .i64 a0_0) := (blk_cell BK257.out 0).trans rfl; have hcz18_1 : wr.cell? ⟨gb257, 1, none⟩ = some (.slice (some ad258) l0_1.length c0_1) := (blk_cell BK257.out 1).trans rfl; have hfz18_0 := blk_frozen BK257.out 0; have hfz18_1 := blk_frozen BK257.out 1; have p260 : 0 ≤ ((Go.bits .andNot .i64 a1 (ji13)) : Int) := zk; have q260 : (Go.bits .andNot .i64 a1 (ji13)) < (l0_1.length : Int) := zk; obtain ⟨ad260, e260, hx260_0⟩ := Kd.at_bool HR0_1.out (Go.bits .andNot .i64 a1 (ji13)) p260 q260; (try rw [← Nbq5.out] at hx260_0); (try rw [← Nbq16.out] at hx260_0); obtain rfl : ad258 = ad260 := (by injection e260); replace hx260_0 := zx HB.out hx260_0; replace p260 := eq_true p260; replace q260 := eq_true q260))
    repeat (go_quiet (first | (go_at_call 102; (with_reducible refine (impl_has.calls a1 x14_1 true _ A10.out).mono ?_); rintro e w' ⟨rfl, ⟨nd, rfl⟩⟩; (try first | exact ⟨rfl, _, zd⟩ | exact ⟨rfl, _, ze⟩); have hcz18_0 : wr.cell? ⟨gb257, 0, none⟩ = some (.int .i64 a0_0) := (blk_cell BK257.out 0).trans rfl; have hcz18_1 : wr.cell? ⟨gb257, 1, none⟩ = some (.slice (some ad258) l0_1.length c0_1) := (blk_cell BK257.out 1).trans rfl; have hfz18_0 := blk_frozen BK257.out 0; have hfz18_1 := blk_frozen BK257.out 1; have p260 : 0 ≤ ((Go.bits .andNot .i64 a1 (ji13)) : Int) := zk; have q260 : (Go.bits .andNot .i64 a1 (ji13)) < (l0_1.length : Int) := zk; obtain ⟨ad260, e260, hx260_0⟩ := Kd.at_bool HR0_1.out (Go.bits .andNot .i64 a1 (ji13)) p260 q260; (try rw [← Nbq5.out] at hx260_0); (try rw [← Nbq16.out] at hx260_0); obtain rfl : ad258 = ad260 := (by injection e260); replace hx260_0 := zx HB.out hx260_0; replace p260 := eq_true p260; replace q260 := eq_true q260)); try go_wp2_with (first | (go_at_call 102; (with_reducible refine (impl_has.calls a1 x14_1 true _ A10.out).mono ?_); rintro e w' ⟨rfl, ⟨nd, rfl⟩⟩; (try first | exact ⟨rfl, _, zd⟩ | exact ⟨rfl, _, ze⟩); have hcz18_0 : wr.cell? ⟨gb257, 0, none⟩ = some (.int .i64 a0_0) := (blk_cell BK257.out 0).trans rfl; have hcz18_1 : wr.cell? ⟨gb257, 1, none⟩ = some (.slice (some ad258) l0_1.length c0_1) := (blk_cell BK257.out 1).trans rfl; have hfz18_0 := blk_frozen BK257.out 0; have hfz18_1 := blk_frozen BK257.out 1; have p260 : 0 ≤ ((Go.bits .andNot .i64 a1 (ji13)) : Int) := zk; have q260 : (Go.bits .andNot .i64 a1 (ji13)) < (l0_1.length : Int) := zk; obtain ⟨ad260, e260, hx260_0⟩ := Kd.at_bool HR0_1.out (Go.bits .andNot .i64 a1 (ji13)) p260 q260; (try rw [← Nbq5.out] at hx260_0); (try rw [← Nbq16.out] at hx260_0); obtain rfl : ad258 = ad260 := (by injection e260); replace hx260_0 := zx HB.out hx260_0; replace p260 := eq_true p260; replace q260 := eq_true q260)))
    go_ret
    exact ⟨by first | rfl | (simp [errW_none, errW_some] <;> rfl) | (simp only [← hji13]; first | rfl | (simp [errW_none, errW_some] <;> rfl)) | (simp [*, errW_none, errW_some] <;> rfl), zh HB.out⟩
   replace c17 := Bool.eq_false_iff.mpr c17
   subst c17
   have H1 : (impl_votes_isLeast.l0 k1 a1 a0_0 (wrap64 (x14_1 + 1)) a0_0 l0_1) = some r := by rw [if_neg (show ¬ (false = true) by decide)] at H; exact H
   clear H
   have H := H1
   clear H1
   have H' := Aside0.mk H
   clear H
   go_wp2_with (first | (go_at_call 102; (with_reducible refine (impl_has.calls a1 x14_1 true _ A10.out).mono ?_); rintro e w' ⟨rfl, ⟨nd, rfl⟩⟩; (try first | exact ⟨rfl, _, zd⟩ | exact ⟨rfl, _, ze⟩); have hcz19_0 : wr.cell? ⟨gb257, 0, none⟩ = some (.int .i64 a0_0) := (blk_cell BK257.out 0).trans rfl; have hcz19_1 : wr.cell? ⟨gb257, 1, none⟩ = some (.slice (some ad258) l0_1.length c0_1) := (blk_cell BK257.out 1).trans rfl; have hfz19_0 := blk_frozen BK257.out 0; have hfz19_1 := blk_frozen BK257.out 1; have p260 : 0 ≤ ((Go.bits .andNot .i64 a1 (ji13)) : Int) := zk; have q260 : (Go.bits .andNot .i64 a1 (ji13)) < (l0_1.length : Int) := zk; obtain ⟨ad260, e260, hx260_0⟩ := Kd.at_bool HR0_1.out (Go.bits .andNot .i64 a1 (ji13)) p260 q260; (try rw [← Nbq5.out] at hx260_0); (try rw [← Nbq16.out] at hx260_0); obtain rfl : ad258 = ad260 := (by injection e260); replace hx260_0 := zx HB.out hx260_0; replace p260 := eq_true p260; replace q260 := eq_true q260))
   repeat (go_quiet (first | (go_at_call 102; (with_reducible refine (impl_has.calls a1 x14_1 true _ A10.out).mono ?_); rintro e w' ⟨rfl, ⟨nd, rfl⟩⟩; (try first | exact ⟨rfl, _, zd⟩ | exact ⟨rfl, _, ze⟩); have hcz19_0 : wr.cell? ⟨gb257, 0, none⟩ = some (.int .i64 a0_0) := (blk_cell BK257.out 0).trans rfl; have hcz19_1 : wr.cell? ⟨gb257, 1, none⟩ = some (.slice (some ad258) l0_1.length c0_1) := (blk_cell BK257.out 1).trans rfl; have hfz19_0 := blk_frozen BK257.out 0; have hfz19_1 := blk_frozen BK257.out 1; have p260 : 0 ≤ ((Go.bits .andNot .i64 a1 (ji13)) : Int) := zk; have q260 : (Go.bits .andNot .i64 a1 (ji13)) < (l0_1.length : Int) := zk; obtain ⟨ad260, e260, hx260_0⟩ := Kd.at_bool HR0_1.out (Go.bits .andNot .i64 a1 (ji13)) p260 q260; (try rw [← Nbq5.out] at hx260_0); (try rw [← Nbq16.out] at hx260_0); obtain rfl : ad258 = ad260 := (by injection e260); replace hx260_0 := zx HB.out hx260_0; replace p260 := eq_true p260; replace q260 := eq_true q260)); try go_wp2_with (first | (go_at_call 102; (with_reducible refine (impl_has.calls a1 x14_1 true _ A10.out).mono ?_); rintro e w' ⟨rfl, ⟨nd, rfl⟩⟩; (try first | exact ⟨rfl, _, zd⟩ | exact ⟨rfl, _, ze⟩); have hcz19_0 : wr.cell? ⟨gb257, 0, none⟩ = some (.int .i64 a0_0) := (blk_cell BK257.out 0).trans rfl; have hcz19_1 : wr.cell? ⟨gb257, 1, none⟩ = some (.slice (some ad258) l0_1.length c0_1) := (blk_cell BK257.out 1).trans rfl; have hfz19_0 := blk_frozen BK257.out 0; have hfz19_1 := blk_frozen BK257.out 1; have p260 : 0 ≤ ((Go.bits .andNot .i64 a1 (ji13)) : Int) := zk; have q260 : (Go.bits .andNot .i64 a1 (ji13)) < (l0_1.length : Int) := zk; obtain ⟨ad260, e260, hx260_0⟩ := Kd.at_bool HR0_1.out (Go.bits .andNot .i64 a1 (ji13)) p260 q260; (try rw [← Nbq5.out] at hx260_0); (try rw [← Nbq16.out] at hx260_0); obtain rfl : ad258 = ad260 := (by injection e260); replace hx260_0 := zx HB.out hx260_0; replace p260 := eq_true p260; replace q260 := eq_true q260)))
   go_roundg k1
   case measure => have := HK1.out; omega
   case rel => exact ⟨(wrap64 (x14_1 + 1)), (by first | rfl | (simp; done) | (simp [*]; done)), H', ⟨by have := HK1.out; omega⟩, ⟨zb BK257.out⟩, ⟨zh HB.out⟩⟩
end Go.Proofs.YtgjakcpbfbfejaaGreat.Q
end
section
namespace Go.Proofs.YtgjakcpbfbfejaaGreat.Q
open Go.RowKit Go.Proofs.YtgjakcpbfbfejaaGreatW.PrintWords Go.Proofs.YtgjakcpbfbfejaaGreatW.PrintLast Go.Proofs.YtgjakcpbfbfejaaGreatW.PrintMore
set_option linter.unusedVariables false
set_option linter.unusedSimpArgs false
theorem voBefore_ev (a b : List Int) (ha : a.length ≤ 1152921504606846976) : Ev (fun k => spec_voBefore.f k a b) (lexB a b) := by
  unfold spec_voBefore.f
  have := ev_range a.length (fun k i => spec_voBefore.l0 k a b (i : Int)) (fun i => lexB (a.drop i) (b.drop i)) ?_ ?_ 0 (Nat.zero_le _)
  · simpa using this
  · refine ev_succ ?_
    simp only [spec_voBefore.l0]
    refine ev_neg (by omega) (ev_succ ?_)
    simp only [spec_voBefore.j1]
    refine ev_neg (by simp) (ev_eqv (Ev.now _) ?_)
    rw [drop_end, lexB_drop_nil]
  · intro i hi ih
    refine ev_succ ?_
    simp only [spec_voBefore.l0]
    refine ev_pos (by omega) (ev_succ ?_)
    simp only [spec_voBefore.j1]
    by_cases h2 : i < b.length
    · refine ev_pos (by simp; omega) (ev_pos (by omega) (ev_pos (by omega) (ev_pos (by omega) ?_)))
      rw [rd_get hi, rd_get h2, wrap_succ hi ha]
      show Ev _ (lexB (a.drop i) (b.drop i))
      rw [List.drop_eq_getElem_cons hi, List.drop_eq_getElem_cons h2]
      unfold lexB
      by_cases e : a[i] = b[i]
      · rw [if_pos e]; exact ev_pos e ih
      · rw [if_neg e]; exact ev_neg e (Ev.now _)
    · refine ev_neg (by simp; omega) (ev_eqv (Ev.now _) ?_)
      rw [lexB_cons_nil a b i hi h2]
theorem cmpInt_eq (a b : Int) : cmp_Compare_int.f a b = some (if a < b then -1 else if a > b then 1 else 0) := by
  unfold cmp_Compare_int.f cmp_isNaN_int.f
  simp
  repeat' split
  all_goals rfl
theorem Compare_ev (a b : List Int) (ha : a.length ≤ 1152921504606846976) : Ev (fun k => slices_Compare_int_int.f k a b) (cmpL a b) := by
  unfold slices_Compare_int_int.f
  have := ev_range a.length (fun k i => slices_Compare_int_int.l0 k a b a (a.length : Int) (i : Int)) (fun i => cmpL (a.drop i) (b.drop i)) ?_ ?_ 0 (Nat.zero_le _)
  · simpa using this
  · refine ev_succ ?_
    simp only [slices_Compare_int_int.l0]
    refine ev_neg (by omega) ?_
    rw [drop_end]
    by_cases h : a.length < b.length
    · rw [List.drop_eq_getElem_cons h]; exact ev_pos (by omega) (Ev.now _)
    · rw [List.drop_of_length_le (by omega)]; exact ev_neg (by omega) (Ev.now _)
  · intro i hi ih
    refine ev_succ ?_
    simp only [slices_Compare_int_int.l0]
    refine ev_pos (by omega) (ev_pos (by omega) (ev_pos (by omega) ?_))
    by_cases h2 : i < b.length
    · refine ev_neg (by omega) (ev_pos (by omega) ?_)
      simp only [rd_get hi, rd_get h2, wrap_succ hi ha, cmpInt_eq, Option.bind_some]
      show Ev _ (cmpL (a.drop i) (b.drop i))
      rw [List.drop_eq_getElem_cons hi, List.drop_eq_getElem_cons h2]
      unfold cmpL
      by_cases e : a[i] = b[i]
      · rw [if_pos e, if_neg (by omega), if_neg (by omega)]; exact ev_pos rfl ih
      · rw [if_neg e]
        by_cases e2 : a[i] < b[i]
        · rw [if_pos e2, if_pos e2]; exact ev_neg (by decide) (Ev.now _)
        · rw [if_neg e2, if_neg e2, if_pos (by omega)]; exact ev_neg (by decide) (Ev.now _)
    · refine ev_pos (by omega) (ev_eqv (Ev.now _) ?_)
      show 1 = cmpL (a.drop i) (b.drop i)
      have hb : b.drop i = [] := List.drop_of_length_le (by omega)
      rw [List.drop_eq_getElem_cons hi, hb]; rfl
theorem rdL1_get {xs : List (List Int)} {i : Nat} (h : i < xs.length) : rd_L4 xs (i : Int) = xs[i] := by unfold rd_L4; rw [Int.toNat_natCast]; exact getD_get h
section
variable {α : Type} (lt : α → α → Bool)
def insL (x : α) : List α → List α
  | [] => [x]
  | y :: ys => if lt y x = true then y :: insL x ys else x :: y :: ys
def sortL (l : List α) : List α := l.foldl (fun out x => insL lt x out) []
theorem insL_perm (x : α) : ∀ l, (insL lt x l).Perm (x :: l)
  | [] => List.Perm.refl _
  | y :: ys => by
    unfold insL
    split
    · exact ((insL_perm x ys).cons y).trans (List.Perm.swap x y ys)
    · exact List.Perm.refl _
theorem foldl_perm : ∀ (l out : List α), (l.foldl (fun out x => insL lt x out) out).Perm (l ++ out)
  | [], out => List.Perm.refl _
  | x :: xs, out => by
    rw [List.foldl_cons]
    refine (foldl_perm xs _).trans ?_
    exact ((insL_perm lt x out).append_left xs).trans (List.perm_middle.trans (List.Perm.refl _))
theorem sortL_perm (l : List α) : (sortL lt l).Perm l := by
  have := foldl_perm lt l []
  rwa [List.append_nil] at this
variable (htr : ∀ a b c, lt a b = true → lt b c = true → lt a c = true) (hnt : ∀ a b c, lt a b = false → lt b c = false → lt a c = false) (has : ∀ a b, lt a b = true → lt b a = false)
include hnt has
theorem insL_sorted (x : α) : ∀ l : List α, l.Pairwise (fun a b => lt b a = false) → (insL lt x l).Pairwise (fun a b => lt b a = false)
  | [], _ => List.pairwise_singleton _ _
  | y :: ys, h => by
    rw [List.pairwise_cons] at h
    unfold insL
    split
    · rename_i hy
      rw [List.pairwise_cons]
      refine ⟨fun z hz => ?_, insL_sorted x ys h.2⟩
      rcases List.mem_cons.1 ((insL_perm lt x ys).mem_iff.1 hz) with rfl | hz
      · exact has _ _ hy
      · exact h.1 z hz
    · rename_i hy
      rw [Bool.not_eq_true] at hy
      rw [List.pairwise_cons]
      refine ⟨fun z hz => ?_, List.pairwise_cons.2 h⟩
      rcases List.mem_cons.1 hz with rfl | hz
      · exact hy
      · exact hnt _ _ _ (h.1 z hz) hy
theorem foldl_sorted : ∀ (l out : List α), out.Pairwise (fun a b => lt b a = false) → (l.foldl (fun out x => insL lt x out) out).Pairwise (fun a b => lt b a = false)
  | [], _, h => h
  | x :: xs, out, h => foldl_sorted xs _ (insL_sorted lt hnt has x out h)
theorem sortL_sorted (l : List α) : (sortL lt l).Pairwise (fun a b => lt b a = false) := foldl_sorted lt hnt has l [] List.Pairwise.nil
omit hnt has in
theorem sorted_unique (tot : ∀ a b, lt a b = false → lt b a = false → a = b) : ∀ {l1 l2 : List α}, l1.Perm l2 → l1.Pairwise (fun a b => lt b a = false) → l2.Pairwise (fun a b => lt b a = false) → l1 = l2
  | [], l2, hp, _, _ => (List.Perm.nil_eq hp)
  | x :: xs, [], hp, _, _ => by have := hp.length_eq; simp at this
  | x :: xs, y :: ys, hp, h1, h2 => by
    rw [List.pairwise_cons] at h1 h2
    have hxy : x = y := by
      rcases List.mem_cons.1 (hp.mem_iff.1 (List.mem_cons_self ..)) with e | hx
      · exact e
      · rcases List.mem_cons.1 (hp.mem_iff.2 (List.mem_cons_self ..)) with e | hy
        · exact e.symm
        · exact tot _ _ (h2.1 x hx) (h1.1 y hy)
    subst hxy
    rw [sorted_unique tot ((List.perm_cons x).1 hp) h1.2 h2.2]
theorem sortL_eq (tot : ∀ a b, lt a b = false → lt b a = false → a = b) {l t : List α} (hp : t.Perm l) (hs : t.Pairwise (fun a b => lt b a = false)) : t = sortL lt l :=
  sorted_unique lt tot (hp.trans (sortL_perm lt l).symm) hs (sortL_sorted lt hnt has l)
end
end Go.Proofs.YtgjakcpbfbfejaaGreat.Q
end
section
namespace Go.Proofs.YtgjakcpbfbfejaaGreat.Q
open Go.RowKit Go.Proofs.YtgjakcpbfbfejaaGreatW.PrintWords Go.Proofs.YtgjakcpbfbfejaaGreatW.PrintLast Go.Proofs.YtgjakcpbfbfejaaGreatW.PrintMore
set_option linter.unusedVariables false
set_option linter.unusedSimpArgs false
def ly115_ren : Go.Shelf.Ren := ⟨fun | 6 => 115 | 15 => 122 | 14 => 130 | 28 => 143 | 29 => 144 | 20 => 146 | 21 => 147 | 22 => 148 | 23 => 149 | 24 => 150 | 25 => 151 | 26 => 152 | 27 => 153 | 46 => 160 | 47 => 156 | 48 => 157 | 49 => 161 | 50 => 162 | 57 => 164 | n => n, fun | 22 => 44 | 24 => 36 | 25 => 116 | 3 => 3 | 39 => 120 | 0 => 0 | 53 => 138 | 55 => 140 | 4 => 4 | 46 => 132 | 45 => 131 | 50 => 26 | 5 => 5 | 9 => 9 | 66 => 147 | 70 => 151 | 76 => 155 | 77 => 156 | n => n, fun | n => n⟩
theorem ly115 : Go.Proofs.SlLaysF.n6 Tryz.prog ly115_ren := {
  mixed := by kernel_rfl
  f6 := ⟨Tryz.f115.name, by decide, Tryz.func115.trans (congrArg some (by kernel_rfl))⟩
  f14 := ⟨Tryz.f130.name, by decide, Tryz.func130.trans (congrArg some (by kernel_rfl))⟩
  f15 := Tryz.func122.trans (congrArg some (by kernel_rfl))
  f20 := ⟨Tryz.f146.name, by decide, Tryz.func146.trans (congrArg some (by kernel_rfl))⟩
  f21 := ⟨Tryz.f147.name, by decide, Tryz.func147.trans (congrArg some (by kernel_rfl))⟩
  f22 := ⟨Tryz.f148.name, by decide, Tryz.func148.trans (congrArg some (by kernel_rfl))⟩
  f23 := ⟨Tryz.f149.name, by decide, Tryz.func149.trans (congrArg some (by kernel_rfl))⟩
  f24 := ⟨Tryz.f150.name, by decide, Tryz.func150.trans (congrArg some (by kernel_rfl))⟩
  f25 := ⟨Tryz.f151.name, by decide, Tryz.func151.trans (congrArg some (by kernel_rfl))⟩
  f26 := ⟨Tryz.f152.name, by decide, Tryz.func152.trans (congrArg some (by kernel_rfl))⟩
  f27 := ⟨Tryz.f153.name, by decide, Tryz.func153.trans (congrArg some (by kernel_rfl))⟩
  f28 := Tryz.func143.trans (congrArg some (by kernel_rfl))
  f29 := Tryz.func144.trans (congrArg some (by kernel_rfl))
  f46 := ⟨Tryz.f160.name, by decide, Tryz.func160.trans (congrArg some (by kernel_rfl))⟩
  f47 := Tryz.func156.trans (congrArg some (by kernel_rfl))
  f48 := Tryz.func157.trans (congrArg some (by kernel_rfl))
  f49 := ⟨Tryz.f161.name, by decide, Tryz.func161.trans (congrArg some (by kernel_rfl))⟩
  f50 := ⟨Tryz.f162.name, by decide, Tryz.func162.trans (congrArg some (by kernel_rfl))⟩
  f57 := ⟨Tryz.f164.name, by decide, Tryz.func164.trans (congrArg some (by kernel_rfl))⟩
  t0 := Tryz.underlying0
  a0 := Tryz.isAgg0
  z0 := Tryz.sizeOf0
  v0 := Tryz.zeroValue0
  t3 := Tryz.underlying3
  a3 := Tryz.isAgg3
  z3 := Tryz.sizeOf3
  v3 := Tryz.zeroValue3
  t4 := Tryz.underlying4
  a4 := Tryz.isAgg4
  z4 := Tryz.sizeOf4
  v4 := Tryz.zeroValue4
  t5 := Tryz.underlying5
  a5 := Tryz.isAgg5
  z5 := Tryz.sizeOf5
  v5 := Tryz.zeroValue5
  t9 := Tryz.underlying9
  a9 := Tryz.isAgg9
  z9 := Tryz.sizeOf9
  v9 := Tryz.zeroValue9
  t22 := Tryz.underlying44
  a22 := Tryz.isAgg44
  z22 := Tryz.sizeOf44
  v22 := Tryz.zeroValue44
  a24 := Tryz.isAgg36
  z24 := Tryz.sizeOf36
  t25 := Tryz.underlying116
  a25 := Tryz.isAgg116
  z25 := Tryz.sizeOf116
  v25 := Tryz.zeroValue116
  t39 := Tryz.underlying120
  a39 := Tryz.isAgg120
  z39 := Tryz.sizeOf120
  v39 := Tryz.zeroValue120
  t45 := Tryz.underlying131
  a45 := Tryz.isAgg131
  z45 := Tryz.sizeOf131
  v45 := Tryz.zeroValue131
  t46 := Tryz.underlying132
  a46 := Tryz.isAgg132
  z46 := Tryz.sizeOf132
  v46 := Tryz.zeroValue132
  t50 := Tryz.underlying26
  a50 := Tryz.isAgg26
  z50 := Tryz.sizeOf26
  v50 := Tryz.zeroValue26
  t53 := Tryz.underlying138
  a53 := Tryz.isAgg138
  z53 := Tryz.sizeOf138
  v53 := Tryz.zeroValue138
  t55 := Tryz.underlying140
  a55 := Tryz.isAgg140
  z55 := Tryz.sizeOf140
  v55 := Tryz.zeroValue140
  t66 := Tryz.underlying147
  a66 := Tryz.isAgg147
  z66 := Tryz.sizeOf147
  v66 := Tryz.zeroValue147
  t70 := Tryz.underlying151
  a70 := Tryz.isAgg151
  z70 := Tryz.sizeOf151
  v70 := Tryz.zeroValue151
  t76 := Tryz.underlying155
  a76 := Tryz.isAgg155
  z76 := Tryz.sizeOf155
  v76 := Tryz.zeroValue155
  t77 := Tryz.underlying156
  a77 := Tryz.isAgg156
  z77 := Tryz.sizeOf156
  v77 := Tryz.zeroValue156 }
open Go.Shelf Go.Lib Go.Sort
section
variable {α : Type} [Inhabited α]
theorem holds_of_block (enc : α → Value) {w : World} {g : Nat} {cur : Array Value} {e : TypeId} {ss : List α} (hb : w.heap[g]? = some (.cells cur e (0, 0))) (ht : cur.toList.take ss.length = ss.map enc) : Holds enc w g 0 ss.toArray := by
  intro j hj
  have hj' : j < ss.length := by simpa using hj
  refine ⟨?_, by simp [World.frozen?, hb]⟩
  have h1 : (cur.toList.take ss.length)[j]? = (ss.map enc)[j]? := by rw [ht]
  rw [List.getElem?_take_of_lt hj'] at h1
  simp only [World.cell?, hb, Nat.zero_add]
  simp only [Option.isSome_none, Bool.false_eq_true, if_false]
  rw [← Array.getElem?_toList, h1]
  simp [hj']
theorem heap_sorted (enc : α → Value) {w : World} {g n : Nat} {os : Array Obj} {cur : Array Value} {e : TypeId} {fr : Nat × Nat} (d : Array α) (hb : w.heap[g]? = some (.cells cur e fr)) :
    (sortWorld enc w g 0 n d os).heap[g]? = some (.cells (putCells enc 0 d cur) e fr) := by
  have hg : g < w.heap.size := (Array.getElem?_eq_some_iff.1 hb).1
  unfold sortWorld
  rw [Go.Sort.heap_grow_old _ _ (by simpa using hg)]
  simp [putRow, mapBlock, Sort.ahead, Array.getElem?_modify, hb, onCells]
theorem grownBy_sorted (enc : α → Value) {w : World} {g n : Nat} {os : Array Obj} (d : Array α) : w.grownBy (sortWorld enc w g 0 n d os) (some g) := by
  unfold sortWorld
  refine ⟨rfl, rfl, rfl, by simp, fun k hk hne => ?_⟩
  rw [Go.Sort.heap_grow_old _ _ (by simpa using hk)]
  have : g ≠ k := fun e => hne (by rw [e])
  simp [putRow, mapBlock, Sort.ahead, Array.getElem?_modify, this]
theorem take_putCells (enc : α → Value) (cur : Array Value) (ts : List α) (h : ts.length ≤ cur.size) : (putCells enc 0 ts.toArray cur).toList.take ts.length = ts.map enc := by
  apply List.ext_getElem?
  intro j
  by_cases hj : j < ts.length
  · rw [List.getElem?_take_of_lt hj, Array.getElem?_toList]
    simp [putCells, hj, show j < cur.size by omega]
  · rw [List.getElem?_take_eq_none (by omega), List.getElem?_eq_none (by simp; omega)]
theorem ownsRow_sorted (enc : α → Value) {w : World} {base g cap n : Nat} {e : TypeId} {os : Array Obj} {cur : Array Value} {ts : List α} (hbase : base ≤ g) (hb : w.heap[g]? = some (.cells cur e (0, 0)))
    (h1 : ts.length ≤ cap) (h2 : cap ≤ maxLen) (h3 : cur.size = cap * 1) :
    (sortWorld enc w g 0 n ts.toArray os).ownsRow base e 1 (.slice (some ⟨g, 0, none⟩) ts.length cap) ts.length (ts.map enc) :=
  ⟨by simp, .inr ⟨g, cap, _, rfl, hbase, heap_sorted enc _ hb, h1, h2, by simp [putCells, h3], by rw [Nat.mul_one]; exact take_putCells enc cur ts (by omega)⟩⟩
theorem perm_of_PermIn {d d' : Array α} (h : PermIn 0 d.size d d') : d'.toList.Perm d.toList := by
  have h1 := h.2.2
  have e1 : d.extract 0 d.size = d := by simp
  have e2 : d'.extract 0 d.size = d' := by rw [← h.1]; simp
  rw [e1, e2] at h1
  exact h1
theorem pairwise_of_SortedIn {lt : α → α → Bool} {d : Array α} (h : SortedIn lt 0 d.size d) : d.toList.Pairwise (fun a b => lt b a = false) := by
  rw [List.pairwise_iff_getElem]
  intro i j hi hj hij
  have h1 := h i j (Nat.zero_le _) hij (by simpa using hj)
  rwa [getElem!_pos d j (by simpa using hj), getElem!_pos d i (by simpa using hi)] at h1
end
structure QS (W : World) (okq : Nat → Prop) (f : Nat → Nat) (base : Nat) where
  v : Value
  l : List Int
  j : Nat
  hM : Kd.R (Kd.int .i64) 3 W base (fun k => okq k ∧ f k = j) v l
  hl : l.length ≤ 1152921504606846976
instance {W okq f base} : Inhabited (QS W okq f base) := ⟨⟨.slice none 0 0, [], 0, Kd.R_nil _ _ _ _ _, by simp⟩⟩
def sortSets.f (l : List (List Int)) : Option (List (List Int)) := if (decide (l.length < 4611686018427387904) && l.all fun x => decide (x.length ≤ 1152921504606846976)) = true then some (sortL lexB l) else none
theorem cmp_lays (W : World) (okq : Nat → Prop) (f : Nat → Nat) (base g n : Nat) (hg : ∀ k, okq k → k ≠ g) :
    CmpLays1 Tryz.prog 116 #[] (fun q : QS W okq f base => q.v) (fun x y => cmpL x.l y.l) g 0 n W := by
  intro m os dk hs x y
  have hgr := grownBy_sorted (fun q : QS W okq f base => q.v) (w := W) (g := g) (n := m) (os := os) dk
  generalize hw : sortWorld (fun q : QS W okq f base => q.v) W g 0 m dk os = wS at hgr
  have hx := Kd.R_grown x.hM hgr (fun k hk e => hg k hk.1 (by injection e))
  have hy := Kd.R_grown y.hM hgr (fun k hk e => hg k hk.1 (by injection e))
  obtain ⟨A, c, hxv, hxl, hxC⟩ := Kd.R_reads hx
  obtain ⟨B, d, hyv, hyl, hyC⟩ := Kd.R_reads hy
  obtain ⟨k, hk⟩ := Compare_ev x.l y.l x.hl
  have := slices_Compare_int_int.calls k A c x.l B d y.l _ wS hxC hxl hyC hyl (hk k (Nat.le_refl _))
  show Calls Tryz.prog 116 #[x.v, y.v] wS _
  rw [hxv, hyv]
  refine this.mono ?_
  rintro e w' ⟨rfl, ⟨q, rfl⟩⟩
  exact ⟨rfl, q, #[], by rw [grow_empty]⟩
theorem swo_lex {W okq f base} : SWO (ltOf (fun x y : QS W okq f base => cmpL x.l y.l)) where
  irrefl x := by unfold ltOf; rw [cmpL_lt]; exact lexB_irrefl _
  trans x y z h1 h2 := by unfold ltOf at *; rw [cmpL_lt] at *; exact lexB_trans _ _ _ h1 h2
  ntrans x y z h1 h2 := by unfold ltOf at *; rw [cmpL_lt] at *; exact lexB_ntrans _ _ _ h1 h2
theorem sortSets.calls (l t : List (List Int)) (A : Option Addr) (c base : Nat) (ok : Nat → Prop) (w : World) (hS : Kd.S (Kd.slice 3 (Kd.int .i64)) 36 w base ok (.slice A l.length c) l) (h : sortSets.f l = some t) :
    Calls Tryz.prog 115 #[.slice A l.length c, .func (.func 116) #[] #[]] w fun e w' =>
      e = .returned (.tuple #[]) ∧ Kd.S (Kd.slice 3 (Kd.int .i64)) 36 w' base ok (.slice A l.length c) t ∧ t.length = l.length ∧ w.grownBy w' (Value.slice A l.length c).ownBlock := by
  unfold sortSets.f at h
  split at h
  · rename_i hall
    rw [Bool.and_eq_true, decide_eq_true_eq] at hall
    obtain ⟨hsz, hall⟩ := hall
    injection h with h
    subst h
    have hlen : (sortL lexB l).length = l.length := (sortL_perm lexB l).length_eq
    by_cases h0 : l.length = 0
    · have hl0 := List.length_eq_zero_iff.1 h0
      subst hl0
      have hcon := AnyF.slices_SortFunc_none { ly115 with } A c (.func (.func 116) #[] #[]) w
      change Calls Tryz.prog 115 _ _ _ at hcon
      refine hcon.mono ?_
      rintro e w' ⟨rfl, rfl⟩
      exact ⟨rfl, hS, rfl, ⟨rfl, rfl, rfl, Nat.le_refl _, fun _ _ _ => rfl⟩⟩
    · obtain ⟨f, hok, inner, ho, hr⟩ := hS
      rw [List.length_zipIdx] at ho
      rcases ho.2 with ⟨hv, hn⟩ | ⟨g, cap, cur, hv, hbase, hb, h1, h2, h3, h4⟩
      · exact absurd hn h0
      · injection hv with hA _ hc
        subst hA; subst hc
        have hil : inner.length = l.length := by
          have := ho.1
          change inner.length = l.length * 1 at this
          omega
        change cur.size = c * 1 at h3
        change cur.toList.take (l.length * 1) = inner at h4
        rw [Nat.mul_one] at h4
        have key : ∀ j : Nat, ∃ q : QS w (fun k => ok k ∧ k ≠ g) f base, j < l.length → q.l = l.getD j [] ∧ q.j = j ∧ inner[j]? = some q.v := by
          intro j
          by_cases hj : j < l.length
          · have hp := hr.2 j _ (Kd.zip_at (List.getElem?_eq_getElem hj))
            obtain ⟨v, hv, hR⟩ := hp
            refine ⟨⟨v, l[j], j, Kd.R_mono hR (fun k hk => ⟨⟨hk.1.1, fun e => hk.1.2 (by rw [e]; rfl)⟩, hk.2⟩), ?_⟩, fun _ => ⟨?_, rfl, ?_⟩⟩
            · exact of_decide_eq_true (List.all_eq_true.1 hall _ (List.getElem_mem hj))
            · rw [List.getD_eq_getElem?_getD, List.getElem?_eq_getElem hj]; rfl
            · have hx := congrArg (fun z => z[0]?) hv
              simpa [show (Kd.tag f (Kd.slice 3 (Kd.int .i64))).sz = 1 from rfl, List.getElem?_take, List.getElem?_drop] using hx
          · exact ⟨default, fun e => absurd e hj⟩
        obtain ⟨fq, hfq⟩ := Classical.axiomOfChoice key
        obtain ⟨ss, hss⟩ : ∃ ss, ss = (List.range l.length).map fq := ⟨_, rfl⟩
        have hsl : ss.length = l.length := by rw [hss]; simp
        have hget : ∀ j (hj : j < ss.length), ss[j] = fq j := fun j hj => by simp [hss]
        have hinn : inner = ss.map QS.v := by
          refine List.ext_getElem? fun j => ?_
          by_cases hj : j < l.length
          · rw [(hfq j hj).2.2, List.getElem?_map, List.getElem?_eq_getElem (by omega), hget]; rfl
          · rw [List.getElem?_eq_none (by omega), List.getElem?_eq_none (by rw [List.length_map]; omega)]
        have hsll : ss.map QS.l = l := by
          refine List.ext_getElem (by rw [List.length_map]; exact hsl) fun j h1 h2 => ?_
          rw [List.getElem_map, hget, (hfq j h2).1, List.getD_eq_getElem?_getD, List.getElem?_eq_getElem h2]; rfl
        have hsj : ss.map QS.j = List.range l.length := by
          refine List.ext_getElem (by rw [List.length_map, List.length_range]; exact hsl) fun j h1 h2 => ?_
          rw [List.getElem_map, hget, (hfq j (by simpa using h2)).2.1, List.getElem_range]
        have hH : Holds QS.v w g 0 ss.toArray := holds_of_block QS.v hb (by rw [hsl, h4, hinn])
        have eg : ∀ args w, (callFunc 116 args).run Tryz.prog w = .ok (.enter 116 args) w := enters_of Tryz.func116 (by kernel_rfl) rfl
        have hcon := Any.slices_SortFunc ly115 QS.v (fun q => (Kd.R_val q.hM).2) (fun x y => cmpL x.l y.l) swo_lex 116 #[] g 0 c ss.toArray w eg (cmp_lays w _ f base g _ (fun k hk => hk.2)) hH (Array.getElem?_eq_some_iff.1 hb).1 (by simpa [hsl] using hsz)
        change Calls Tryz.prog 115 _ _ _ at hcon
        rw [List.size_toArray, hsl] at hcon
        refine hcon.mono ?_
        rintro e w' ⟨rfl, d', n, os, hp, hs, rfl⟩
        obtain ⟨ts, rfl⟩ : ∃ ts : List _, d' = ts.toArray := ⟨d'.toList, rfl⟩
        have hgr := grownBy_sorted QS.v (w := w) (g := g) (n := n) (os := os) ts.toArray
        have hperm : ts.Perm ss := perm_of_PermIn (d := ss.toArray) (by simpa [hsl] using hp)
        have htl : ts.length = l.length := by rw [hperm.length_eq, hsl]
        have hsort : ts.Pairwise (fun a b => ltOf (fun x y : QS w _ f base => cmpL x.l y.l) b a = false) := pairwise_of_SortedIn (d := ts.toArray) (by simpa [htl] using hs)
        have ht : ts.map QS.l = sortL lexB l := by
          refine sortL_eq lexB lexB_ntrans (fun _ _ => lexB_asymm) lexB_total ?_ ?_
          · rw [← hsll]; exact hperm.map QS.l
          · rw [List.pairwise_map]
            refine hsort.imp fun h => ?_
            unfold ltOf at h
            rwa [cmpL_lt] at h
        rw [← ht]
        have hnd : (ts.map QS.j).Nodup := by
          refine (hperm.map QS.j).nodup_iff.2 ?_
          rw [hsj]; exact List.nodup_range
        have hblk : ∀ k, (ok k ∧ k ≠ g) → some k ≠ some g := fun k hk e => hk.2 (by injection e)
        refine ⟨rfl, ⟨fun k => (ts.map QS.j).idxOf (f k), hok, ts.map QS.v, ?_, ?_, fun j p hj => ?_⟩, by rw [List.length_map]; exact htl, hgr⟩
        · rw [List.length_zipIdx, List.length_map, htl]
          have := ownsRow_sorted QS.v (w := w) (base := base) (g := g) (cap := c) (n := n) (e := 36) (os := os) (ts := ts) hbase hb (by omega) h2 h3
          rwa [htl] at this
        · rw [List.length_map, List.length_zipIdx, List.length_map]; exact (Nat.mul_one _).symm
        · rw [List.getElem?_zipIdx, List.getElem?_map, Nat.zero_add] at hj
          obtain ⟨x, hx, rfl⟩ := Option.map_eq_some_iff.1 hj
          obtain ⟨q, hq, rfl⟩ := Option.map_eq_some_iff.1 hx
          obtain ⟨hjl, hqe⟩ := List.getElem?_eq_some_iff.1 hq
          show ∃ v, _ ∧ _
          refine ⟨q.v, ?_, ?_⟩
          · refine List.ext_getElem? fun i => ?_
            rw [show (Kd.tag (fun k => (ts.map QS.j).idxOf (f k)) (Kd.slice 3 (Kd.int .i64))).sz = 1 from rfl, Nat.mul_one]
            cases i with
            | zero => rw [List.getElem?_take_of_lt (by omega), List.getElem?_drop, List.getElem?_map, Nat.add_zero, hq]; rfl
            | succ i => rw [List.getElem?_eq_none (by rw [List.length_take]; omega), List.getElem?_eq_none (by simp)]
          · refine Kd.R_mono (Kd.R_grown q.hM hgr (fun k hk => hblk k hk.1)) (fun k hk => ⟨⟨hk.1.1, ?_⟩, ?_⟩)
            · exact fun e => hk.1.2 (by injection e)
            · show (ts.map QS.j).idxOf (f k) = j
              rw [hk.2, ← hqe, show ts[j].j = (ts.map QS.j)[j]'(by rw [List.length_map]; exact hjl) from by rw [List.getElem_map]]
              exact hnd.idxOf_getElem j _
  · cases h
end Go.Proofs.YtgjakcpbfbfejaaGreat.Q
end
section
namespace Go.Proofs.YtgjakcpbfbfejaaGreat.Q
open Go.RowKit Go.Proofs.YtgjakcpbfbfejaaGreatW.PrintWords Go.Proofs.YtgjakcpbfbfejaaGreatW.PrintLast Go.Proofs.YtgjakcpbfbfejaaGreatW.PrintMore
set_option linter.unusedVariables false
set_option linter.unusedSimpArgs false
structure Q_ (W : World) (ok : Nat → Prop) where
  A : Option Addr
  c : Nat
  l : List Int
  hl : l.length ≤ c
  hF : Kd.F (Kd.int .i64) W ok A l.length l
section
variable {W w : World} {ok ok' : Nat → Prop}
@[reducible] def Q_.val (x : Q_ W ok) : Value := .slice x.A x.l.length x.c
def Q_.nil : Q_ W ok := ⟨none, 0, [], Nat.le_refl _, Kd.F_nil _ _ _⟩
def KQ_ (W : World) (ok : Nat → Prop) : Kd (Q_ W ok) := Kd.scalar Q_.val (fun _ => rfl)
theorem at_Q_ {A : Option Addr} {n : Nat} {xs : List (Q_ W ok)} (h : (KQ_ W ok).C w A n xs) (i : Int) (h0 : 0 ≤ i) (h1 : i < n) : ∃ ad, A = some ad ∧ w.cell? (ad.add i.toNat) = some (Q_.val (rdOf Q_.nil xs i)) :=
  ReadsOf.at_ (Kd.reads_of_C (enc := Q_.val) (d := Q_.nil) (h1 := fun _ => rfl) h) i h0 h1
theorem Q_of_F {A : Option Addr} {n : Nat} {xs : List (List Int)} (h : Kd.F (Kd.slice 3 (Kd.int .i64)) W ok A n xs) : ∃ qs : List (Q_ W ok), qs.map Q_.l = xs ∧ Kd.C (KQ_ W ok) W A n qs := by
  have hC := Kd.F_now h
  have hn : xs.length = n := hC.1
  have key : ∀ i : Nat, ∃ q : Q_ W ok, i < n → q.l = xs.getD i [] ∧ ∀ ad, A = some ad → W.cell? (ad.add i) = some q.val := by
    intro i
    by_cases hi : i < n
    · obtain ⟨ad, c, rfl, _, hK, hcc, _⟩ := Kd.F_get h [] (i : Int) (by omega) (by omega)
      obtain ⟨A', c', rfl, hl, hF⟩ := Kd.FK_slice_open hK
      rw [Int.toNat_natCast] at hl hF hcc
      refine ⟨⟨A', c', _, hl, hF⟩, fun _ => ⟨rfl, fun ad' e => ?_⟩⟩
      injection e with e
      subst e
      have := hcc 0 _ rfl
      rwa [show i * (Kd.slice 3 (Kd.int .i64)).sz + 0 = i from by show i * 1 + 0 = i; omega] at this
    · exact ⟨Q_.nil, fun e => absurd e hi⟩
  obtain ⟨f, hf⟩ := Classical.axiomOfChoice key
  refine ⟨(List.range n).map f, ?_, ?_, hC.2.1, fun h0 => ?_⟩
  · refine List.ext_getElem (by simp [hn]) fun i h1 h2 => ?_
    have hi : i < n := by omega
    rw [List.getElem_map, List.getElem_map, List.getElem_range, (hf i hi).1, List.getD_eq_getElem?_getD, List.getElem?_eq_getElem h2]; rfl
  · simp
  · obtain ⟨ad, rfl, _⟩ := hC.2.2 h0
    refine ⟨ad, rfl, fun j p hj => ?_⟩
    rw [List.getElem?_map] at hj
    obtain ⟨j', hj', rfl⟩ := Option.map_eq_some_iff.1 hj
    obtain ⟨hlt, e⟩ := List.getElem?_eq_some_iff.1 hj'
    rw [List.getElem_range] at e
    subst e
    refine ⟨[(f j).val], rfl, rfl, fun i u hu => ?_⟩
    cases i with
    | zero =>
      injection hu with hu
      subst hu
      rw [show j * (KQ_ W ok).sz + 0 = j from by show j * 1 + 0 = j; omega]
      exact (hf j (by simpa using hlt)).2 ad rfl
    | succ i => simp at hu
theorem F_of_Q {A : Option Addr} {n : Nat} {qs : List (Q_ W ok)} (hb : Below W.heap.size W w) (h : Kd.F (KQ_ W ok) w ok' A n qs) (hok : ∀ k, ok k → ok' k) : Kd.F (Kd.slice 3 (Kd.int .i64)) w ok' A n (qs.map Q_.l) := by
  intro W' hW
  obtain ⟨h1, h2, h3⟩ := h W' hW
  refine ⟨by rw [List.length_map]; exact h1, h2, fun h0 => ?_⟩
  obtain ⟨ad, e, hc⟩ := h3 h0
  refine ⟨ad, e, fun j p hj => ?_⟩
  rw [List.getElem?_map] at hj
  obtain ⟨q, hq, rfl⟩ := Option.map_eq_some_iff.1 hj
  obtain ⟨c, hcl, hK, hcc⟩ := hc j q hq
  have hK1 : c = [q.val] := hK
  subst hK1
  exact ⟨_, rfl, ⟨q.A, q.c, rfl, q.hl, (Kd.F_mono (Kd.F_below q.hF hb) hok) W' hW⟩, hcc⟩
end
section
variable {W_ : World} {ok_ : Nat → Prop}
def spec_voBefore_q.f (k : Nat) (x y : Q_ W_ ok_) : Option Bool := spec_voBefore.f k x.l y.l
theorem spec_voBefore_q.calls (k : Nat) (x y : Q_ W_ ok_) (r : Bool) (w : World) (h : spec_voBefore_q.f k x y = some r) (hB : Below W_.heap.size W_ w := by repeat (first | (with_reducible first | exact Aside0.out (by with_reducible assumption) | apply below_alloc | apply pw_below_drewN | apply below_drew1) | exact Aside0.out (by with_reducible assumption))) :
    Calls Tryz.prog 95 #[Q_.val x, Q_.val y] w fun e w' => e = .returned (.bool r) ∧ Below w.heap.size w w' :=
  (spec_voBefore.calls k x.A x.c x.l y.A y.c y.l r w (Kd.F_now (Kd.F_below x.hF hB)) x.hl (Kd.F_now (Kd.F_below y.hF hB)) y.hl h).mono fun _ _ ⟨he, hd⟩ => ⟨he, hd.below⟩
mutual
def spec_voSorted_q.l0 : Nat → List (Q_ W_ ok_) → List (Q_ W_ ok_) → Int → Int → Option (List (Q_ W_ ok_))
 | 0, _, _, _, _ => none
 | k + 1, x3, x8, x9, x10 => if x10 < x9 then (if 0 ≤ x10 then (if x10 < (x8.length : Int) then (spec_voSorted_q.l1 k x3 (rdOf Q_.nil x8 x10) 0 x8 x9 x10) else (none)) else (none)) else (some x3)
def spec_voSorted_q.l1 : Nat → List (Q_ W_ ok_) → (Q_ W_ ok_) → Int → List (Q_ W_ ok_) → Int → Int → Option (List (Q_ W_ ok_))
 | 0, _, _, _, _, _, _ => none
 | k + 1, x3, x5, x6, x8, x9, x10 => if x6 < (x3.length : Int) then (if 0 ≤ x6 then ((spec_voBefore_q.f k (rdOf Q_.nil x3 x6) x5).bind fun t103 => (if t103 = true then (spec_voSorted_q.l1 k x3 x5 (wrap64 (x6 + 1)) x8 x9 x10) else ((some (([] : List (Q_ W_ ok_)) : List (Q_ W_ ok_))).bind fun y104 => (if x6 ≤ (x3.length : Int) then ((some (x3.take (x6 : Int).toNat : List (Q_ W_ ok_))).bind fun y107 => (if y104.length + y107.length < 5864062014805 then ((some (y104 ++ y107 : List (Q_ W_ ok_))).bind fun y111 => (if y111.length < 5864062014805 then ((some (y111 ++ [x5] : List (Q_ W_ ok_))).bind fun y114 => ((some (x3.drop (x6 : Int).toNat : List (Q_ W_ ok_))).bind fun y117 => (if y114.length + y117.length < 5864062014805 then (spec_voSorted_q.l0 k (y114 ++ y117) x8 x9 (wrap64 (x10 + 1))) else (none)))) else (none))) else (none))) else (none))))) else (none)) else ((some (([] : List (Q_ W_ ok_)) : List (Q_ W_ ok_))).bind fun y124 => (if 0 ≤ x6 then (if x6 ≤ (x3.length : Int) then ((some (x3.take (x6 : Int).toNat : List (Q_ W_ ok_))).bind fun y127 => (if y124.length + y127.length < 5864062014805 then ((some (y124 ++ y127 : List (Q_ W_ ok_))).bind fun y131 => (if y131.length < 5864062014805 then ((some (y131 ++ [x5] : List (Q_ W_ ok_))).bind fun y134 => ((some (x3.drop (x6 : Int).toNat : List (Q_ W_ ok_))).bind fun y137 => (if y134.length + y137.length < 5864062014805 then (spec_voSorted_q.l0 k (y134 ++ y137) x8 x9 (wrap64 (x10 + 1))) else (none)))) else (none))) else (none))) else (none)) else (none)))
end
def spec_voSorted_q.f (k : Nat) (l0 : List (Q_ W_ ok_)) : Option (List (Q_ W_ ok_)) := spec_voSorted_q.l0 k ([] : List (Q_ W_ ok_)) l0 (l0.length : Int) 0
set_option maxHeartbeats 8000000 in
set_option maxRecDepth 100000 in
theorem spec_voSorted_q.calls (w : World) (ok_ : Nat → Prop) (k : Nat) (A0 : Option Addr) (c0 : Nat) (l0 : List (Q_ w ok_)) (r : List (Q_ w ok_)) (hr0 : Kd.C (KQ_ w ok_) w A0 l0.length l0) (hc0 : l0.length ≤ c0) (h : spec_voSorted_q.f k l0 = some r) :
  Calls Tryz.prog 86 #[.slice A0 l0.length c0] w fun e w' => ∃ v0_ : Value, e = .returned (v0_) ∧ Kd.R (KQ_ w ok_) 36 w' w.heap.size (fun _ => True) v0_ r ∧ Below w.heap.size w w' := by
 have HR0 := Aside0.mk hr0
 have HC0 := Aside0.mk hc0
 clear hr0 hc0
 have HB := Aside0.mk (Below.refl w.heap.size w)
 have H : (spec_voSorted_q.l0 k ([] : List (Q_ w ok_)) l0 (l0.length : Int) 0) = some r := h
 clear h
 have H' := Aside0.mk H
 clear H
 go_enter Tryz.func86, Tryz.ntmps86
 go_wp2
 go_loopg [3, 10] k (fun kq v3 v10 w' => ∃ (x3_1 : List (Q_ w ok_)) (x10_1 : Int), v10 = .int .i64 x10_1 ∧ Aside0 (spec_voSorted_q.l0 kq x3_1 l0 (l0.length : Int) x10_1 = some r) ∧ Aside0 (kq ≤ k) ∧ Aside0 (Kd.R (KQ_ w ok_) 36 w' w.heap.size (fun _ => True) v3 x3_1) ∧ Aside0 (Below w.heap.size w w'))
 case atStart => exact ⟨(([] : List (Q_ w ok_))), (0), (by first | rfl | (simp; done) | (simp [*]; done)), H', ⟨Nat.le_refl _⟩, ⟨by first | exact Kd.R_nil _ _ _ _ _ | exact Kd.N_nil _ _ _ _ _ | exact Kd.V_nil _ _ _ _ _ | exact Kd.Q_nil _ _ _ _ _ | exact Kd.S_nil _ _ _ _ _⟩, ⟨zh HB.out⟩⟩
 case round =>
  clear H'
  obtain ⟨x3_1, x10_1, rfl, HA, HK1, HO_3, HB⟩ := hrel
  cases gk with
  | zero => exact absurd HA.out (by simp [spec_voSorted_q.l0])
  | succ k1 =>
   have H := HA.out
   clear HA
   simp only [spec_voSorted_q.l0] at H
   by_cases c2 : x10_1 < (l0.length : Int)
   rotate_left
   ·rw [if_neg c2] at H
    have c2b0 : decide (x10_1 < (l0.length : Int)) = false := decide_eq_false c2
    clear c2
    obtain rfl := Option.some.inj H
    go_wp2
    go_ret
    exact ⟨_, by first | rfl | (simp [errW_none, errW_some] <;> rfl) | (simp [*, errW_none, errW_some] <;> rfl), by (with_reducible repeat (first | apply Kd.R_alloc | apply Kd.R_drewN | apply Kd.R_drew)); exact HO_3.out, zh HB.out⟩
   rw [if_pos c2] at H
   have c2b0 : decide (x10_1 < (l0.length : Int)) = true := decide_eq_true c2
   clear c2
   by_cases c3 : 0 ≤ x10_1
   rotate_left
   ·rw [if_neg c3] at H
    exact absurd H (by simp)
   rw [if_pos c3] at H
   have c3b0 : decide (0 ≤ x10_1) = true := decide_eq_true c3
   clear c3
   by_cases c4 : x10_1 < (l0.length : Int)
   rotate_left
   ·rw [if_neg c4] at H
    exact absurd H (by simp)
   rw [if_pos c4] at H
   have c4b0 : decide (x10_1 < (l0.length : Int)) = true := decide_eq_true c4
   clear c4
   have H' := Aside0.mk H
   clear H
   have p101 : 0 ≤ (x10_1 : Int) := zk
   have q101 : x10_1 < (l0.length : Int) := zk
   obtain ⟨ad101, e101, hx101_0⟩ := at_Q_ HR0.out x10_1 p101 q101
   cases e101
   replace hx101_0 := zx HB.out hx101_0
   replace p101 := eq_true p101
   replace q101 := eq_true q101
   go_wp2
   go_loopg [6] k1 (fun kq v6 w' => ∃ (x6_2 : Int), v6 = .int .i64 x6_2 ∧ Aside0 (spec_voSorted_q.l1 kq x3_1 (rdOf Q_.nil l0 x10_1) x6_2 l0 (l0.length : Int) x10_1 = some r) ∧ Aside0 (kq ≤ k1) ∧ Aside0 (Kd.R (KQ_ w ok_) 36 w' w.heap.size (fun _ => True) u3 x3_1) ∧ Aside0 (Below w.heap.size w w'))
   case atStart => exact ⟨(0), (by first | rfl | (simp; done) | (simp [*]; done)), H', ⟨Nat.le_refl _⟩, ⟨zr HO_3.out⟩, ⟨zh HB.out⟩⟩
   case round =>
    clear H'
    try clear p1
    try clear q1
    try clear hx1
    try clear c2
    try clear c2b0
    try clear p2
    try clear c3
    try clear c3b0
    try clear c4
    try clear c4b0
    try clear hx101_0
    try clear p101
    try clear q101
    obtain ⟨x6_2, rfl, HA, HK2, HO_3, HB⟩ := hrel
    cases gk with
    | zero => exact absurd HA.out (by simp [spec_voSorted_q.l1])
    | succ k2 =>
     have H := HA.out
     clear HA
     simp only [spec_voSorted_q.l1] at H
     by_cases c5 : x6_2 < (x3_1.length : Int)
     rotate_left
     ·rw [if_neg c5] at H
      have c5b0 : decide (x6_2 < (x3_1.length : Int)) = false := decide_eq_false c5
      clear c5
      obtain ⟨y124, hy124⟩ : ∃ y_ : List (Q_ w ok_), y_ = (([] : List (Q_ w ok_))) := ⟨_, rfl⟩
      replace H : (if 0 ≤ x6_2 then (if x6_2 ≤ (x3_1.length : Int) then ((some (x3_1.take (x6_2 : Int).toNat : List (Q_ w ok_))).bind fun y127 => (if y124.length + y127.length < 5864062014805 then ((some (y124 ++ y127 : List (Q_ w ok_))).bind fun y131 => (if y131.length < 5864062014805 then ((some (y131 ++ [(rdOf Q_.nil l0 x10_1)] : List (Q_ w ok_))).bind fun y134 => ((some (x3_1.drop (x6_2 : Int).toNat : List (Q_ w ok_))).bind fun y137 => (if y134.length + y137.length < 5864062014805 then (spec_voSorted_q.l0 k2 (y134 ++ y137) l0 (l0.length : Int) (wrap64 (x10_1 + 1))) else (none)))) else (none))) else (none))) else (none)) else (none)) = some r := by first | (rw [hy124]; with_reducible exact H) | (have H2_ := (Option.bind_some _ _).symm.trans H; rw [hy124]; with_reducible exact H2_) | (have H2_ := (Option.bind_some _ _).symm.trans H; with_reducible exact H2_) | with_reducible exact H | (rw [hy124]; exact H) | exact H
      have Ny124 := Aside0.mk hy124
      clear hy124
      by_cases c27 : 0 ≤ x6_2
      rotate_left
      ·rw [if_neg c27] at H
       exact absurd H (by simp)
      rw [if_pos c27] at H
      have c27b0 := eq_true c27
      have c27b1 : decide (0 ≤ x6_2) = true := decide_eq_true c27
      clear c27
      by_cases c28 : x6_2 ≤ (x3_1.length : Int)
      rotate_left
      ·rw [if_neg c28] at H
       exact absurd H (by simp)
      rw [if_pos c28] at H
      have c28b0 := eq_true c28
      have c28b1 : decide (x6_2 ≤ (x3_1.length : Int)) = true := decide_eq_true c28
      clear c28
      obtain ⟨y127, hy127⟩ : ∃ y_ : List (Q_ w ok_), y_ = (x3_1.take (x6_2 : Int).toNat) := ⟨_, rfl⟩
      replace H : (if y124.length + y127.length < 5864062014805 then ((some (y124 ++ y127 : List (Q_ w ok_))).bind fun y131 => (if y131.length < 5864062014805 then ((some (y131 ++ [(rdOf Q_.nil l0 x10_1)] : List (Q_ w ok_))).bind fun y134 => ((some (x3_1.drop (x6_2 : Int).toNat : List (Q_ w ok_))).bind fun y137 => (if y134.length + y137.length < 5864062014805 then (spec_voSorted_q.l0 k2 (y134 ++ y137) l0 (l0.length : Int) (wrap64 (x10_1 + 1))) else (none)))) else (none))) else (none)) = some r := by first | (rw [hy127]; with_reducible exact H) | (have H2_ := (Option.bind_some _ _).symm.trans H; rw [hy127]; with_reducible exact H2_) | (have H2_ := (Option.bind_some _ _).symm.trans H; with_reducible exact H2_) | with_reducible exact H | (rw [hy127]; exact H) | exact H
      have Ny127 := Aside0.mk hy127
      clear hy127
      by_cases c29 : y124.length + y127.length < 5864062014805
      rotate_left
      ·rw [if_neg c29] at H
       exact absurd H (by simp)
      rw [if_pos c29] at H
      have LMc29 := Aside0.mk c29
      clear c29
      obtain ⟨y131, hy131⟩ : ∃ y_ : List (Q_ w ok_), y_ = (y124 ++ y127) := ⟨_, rfl⟩
      replace H : (if y131.length < 5864062014805 then ((some (y131 ++ [(rdOf Q_.nil l0 x10_1)] : List (Q_ w ok_))).bind fun y134 => ((some (x3_1.drop (x6_2 : Int).toNat : List (Q_ w ok_))).bind fun y137 => (if y134.length + y137.length < 5864062014805 then (spec_voSorted_q.l0 k2 (y134 ++ y137) l0 (l0.length : Int) (wrap64 (x10_1 + 1))) else (none)))) else (none)) = some r := by first | (rw [hy131]; with_reducible exact H) | (have H2_ := (Option.bind_some _ _).symm.trans H; rw [hy131]; with_reducible exact H2_) | (have H2_ := (Option.bind_some _ _).symm.trans H; with_reducible exact H2_) | with_reducible exact H | (rw [hy131]; exact H) | exact H
      have Ny131 := Aside0.mk hy131
      clear hy131
      by_cases c30 : y131.length < 5864062014805
      rotate_left
      ·rw [if_neg c30] at H
       exact absurd H (by simp)
      rw [if_pos c30] at H
      have LMc30 := Aside0.mk c30
      clear c30
      obtain ⟨y134, hy134⟩ : ∃ y_ : List (Q_ w ok_), y_ = (y131 ++ [(rdOf Q_.nil l0 x10_1)]) := ⟨_, rfl⟩
      replace H : ((some (x3_1.drop (x6_2 : Int).toNat : List (Q_ w ok_))).bind fun y137 => (if y134.length + y137.length < 5864062014805 then (spec_voSorted_q.l0 k2 (y134 ++ y137) l0 (l0.length : Int) (wrap64 (x10_1 + 1))) else (none))) = some r := by first | (rw [hy134]; with_reducible exact H) | (have H2_ := (Option.bind_some _ _).symm.trans H; rw [hy134]; with_reducible exact H2_) | (have H2_ := (Option.bind_some _ _).symm.trans H; with_reducible exact H2_) | with_reducible exact H | (rw [hy134]; exact H) | exact H
      have Ny134 := Aside0.mk hy134
      clear hy134
      have c31b0 := eq_true (zk : 0 ≤ x6_2)
      have c32b0 := eq_true (zk : x6_2 ≤ (x3_1.length : Int))
      obtain ⟨y137, hy137⟩ : ∃ y_ : List (Q_ w ok_), y_ = (x3_1.drop (x6_2 : Int).toNat) := ⟨_, rfl⟩
      replace H : (if y134.length + y137.length < 5864062014805 then (spec_voSorted_q.l0 k2 (y134 ++ y137) l0 (l0.length : Int) (wrap64 (x10_1 + 1))) else (none)) = some r := by first | (rw [hy137]; with_reducible exact H) | (have H2_ := (Option.bind_some _ _).symm.trans H; rw [hy137]; with_reducible exact H2_) | (have H2_ := (Option.bind_some _ _).symm.trans H; with_reducible exact H2_) | with_reducible exact H | (rw [hy137]; exact H) | exact H
      have Ny137 := Aside0.mk hy137
      clear hy137
      by_cases c33 : y134.length + y137.length < 5864062014805
      rotate_left
      ·rw [if_neg c33] at H
       exact absurd H (by simp)
      rw [if_pos c33] at H
      have LMc33 := Aside0.mk c33
      clear c33
      obtain ⟨y141, hy141⟩ : ∃ y_ : List (Q_ w ok_), y_ = (y134 ++ y137) := ⟨_, rfl⟩
      replace H : (spec_voSorted_q.l0 k2 y141 l0 (l0.length : Int) (wrap64 (x10_1 + 1))) = some r := by first | (rw [hy141]; with_reducible exact H) | (have H2_ := (Option.bind_some _ _).symm.trans H; rw [hy141]; with_reducible exact H2_) | (have H2_ := (Option.bind_some _ _).symm.trans H; with_reducible exact H2_) | with_reducible exact H | (rw [hy141]; exact H) | exact H
      have Ny141 := Aside0.mk hy141
      clear hy141
      have H' := Aside0.mk H
      clear H
      obtain ⟨Ao34, co34, eo34⟩ := Kd.R_slice HO_3.out
      subst eo34
      go_wp2_with (first | ((with_reducible refine gate_dst (N := 28) rfl ?_); refine Kd.R_lit (KQ_ w ok_) _ 36 ?hg (N := 28) ?hd (xs := ([] : List (Q_ w ok_))) (inner := []) (ok := fun _ => True) (okp := fun _ => True) ?hr ?hp (fun _ hk => hk) trivial (Below.refl _ _) (Nat.le_refl _) (by simp) ?_; (case hd => rfl); (case hg => rfl); (case hr => first | (go_simp; done) | (go_simp; rfl)); (case hp => exact (Reps.none _ _)); intro v125 w35 ho36 hb hg_ hnew_; clear hg_ hnew_; (first | rw [← Ny124.out] at ho36 | (simp only [Int.reduceToNat] at ho36; rw [← Ny124.out] at ho36)); have n0_ := Aside0.mk (Kd.R_elder' (zr HO_3.out) (Kd.R_base ho36) hb); have n1_ := Aside0.mk (Kd.R_lower (Kd.R_new' ho36 (Kd.R_lt (zr HO_3.out))) (below_size (zh HB.out))); have n2_ := Aside0.mk (below_step (zh HB.out) hb); clear HO_3; clear HB; have HO_3 := n0_; have HO126 := n1_; have HB := n2_; clear n0_ n1_ n2_; clear hb ho36; have q37 : (x6_2 : Int) ≤ ((x3_1.length : Int) : Int) := zk; obtain ⟨i037, hi037, _, hsz37, _⟩ := info_parts info36; have hroom37 : x3_1.length ≤ co34 := (Kd.R_reads' HO_3.out).2.1; have hC37 : Kd.C (KQ_ w ok_) _ Ao34 x3_1.length x3_1 := (Kd.R_reads' HO_3.out).2.2; have hcut37 := cut_to (P := Tryz.prog) 44 36 .i64 Tryz.underlying44 hi037 Ao34 x3_1.length co34 x6_2 (zk) q37 hroom37; have hr37 := Kd.C_take (m := (x6_2 : Int).toNat) hC37 (by omega); have hy37 : y127.length = (x6_2 : Int).toNat := (by rw [Ny127.out, List.length_take]; omega); rw [← Ny127.out] at hr37; rw [← hy37] at hcut37; have HR130 := Aside0.mk hr37; have HC130 := Aside0.mk (show y127.length ≤ co34 from by omega); clear hr37 hC37 hroom37 hi037 hsz37; have KY37 := Aside0.mk hy37; clear hy37; have KL37 := Aside0.mk (show (x6_2 : Int).toNat ≤ x3_1.length from by omega); replace q37 := eq_true q37) | ((with_reducible refine gate_builtin (b := .append) (xs := #[.tmp 28, .tmp 31]) rfl ?_); at_builtin; refine Kd.R_append_rows (KQ_ w ok_) (w0 := w) w.heap.size rfl (.tmp 28) (.tmp 31) 44 36 (.slice none 0 0) 24 rfl Tryz.underlying44 info36 rfl (by first | decide | exact Nat.zero_lt_one) (by omega) v125 y124 y127 _ _ _ (fun k_ => some k_ ≠ (.slice Ao34 x3_1.length co34 : Value).ownBlock) (fun _ => False) rfl rfl ?aO ?aR (fun _ _ h => h) (fun _ h => h.elim) ?aF ?aB ?aS ?aL ?_; (case aR => repeat (first | exact (by repeat (first | (with_reducible exact HR130.out) | (with_reducible refine Kd.C_alloc ?_ _) | (with_reducible refine Kd.C_drewN ?_ _) | (with_reducible refine Kd.C_drew ?_) | exact HR130.out)) | (with_reducible refine Kd.C_alloc ?_ _) | (with_reducible refine Kd.C_drewN ?_ _) | (with_reducible refine Kd.C_drew ?_))); (case aB => exact (zh HB.out)); (case aF => exact (fun k_ hk => Kd.fresh' (Kd.R_lt (zr HO_3.out)) k_ hk)); (case aO => exact (zr (Kd.R_mono HO126.out (fun _ hk => hk.2)))); (case aS => exact (below_size (zh HB.out))); (case aL => have := LMc29.out; omega); intro v132 w38 ho hb hg hat; rw [← Ny131.out] at ho; have n0_ := Aside0.mk (Kd.R_after (ok := (fun _ => True)) (zr HO_3.out) hg hat); have n1_ := Aside0.mk (hb); have n2_ := Aside0.mk ((show Kd.C (KQ_ w ok_) w38 Ao34 y127.length y127 from by rw [Ny127.out]; exact Kd.C_take (m := (x6_2 : Int).toNat) ((Kd.R_reads' (Kd.R_after (ok := (fun _ => True)) (zr HO_3.out) hg hat)).2.2) KL37.out)); have n3_ := Aside0.mk (ho); clear HO_3; clear HB; clear HR130; clear HO126; have HO_3 := n0_; have HB := n1_; have HR130 := n2_; have HO133 := n3_; clear n0_ n1_ n2_ n3_; clear ho hb hg hat) | ((with_reducible refine gate_builtin (b := .append) (xs := #[.tmp 32, .tmp 34]) rfl ?_); at_builtin; refine Kd.R_append (KQ_ w ok_) (w0 := w) w.heap.size rfl (.tmp 32) (.tmp 34) 44 36 (.slice none 0 0) 24 rfl Tryz.underlying44 info36 rfl (by first | decide | exact Nat.zero_lt_one) (by omega) v132 y131 (rdOf Q_.nil l0 x10_1) [Q_.val (rdOf Q_.nil l0 x10_1)] (fun k_ => some k_ ≠ (.slice Ao34 x3_1.length co34 : Value).ownBlock) (fun _ => False) rfl rfl ?aP (fun _ hk => hk.elim) ?aF ?aO ?aB ?aS ?aL ?_; (case aP => exact rfl); (case aB => exact (zh HB.out)); (case aF => exact (fun k_ hk => Kd.fresh' (Kd.R_lt (zr HO_3.out)) k_ hk)); (case aO => exact (zr HO133.out)); (case aS => exact (below_size (zh HB.out))); (case aL => have := LMc30.out; omega); intro v135 w39 ho hb hg hat; rw [← Ny134.out] at ho; have n0_ := Aside0.mk (Kd.R_after (ok := (fun _ => True)) (zr HO_3.out) hg hat); have n1_ := Aside0.mk (hb); have n2_ := Aside0.mk ((show Kd.C (KQ_ w ok_) w39 Ao34 y127.length y127 from by rw [Ny127.out]; exact Kd.C_take (m := (x6_2 : Int).toNat) ((Kd.R_reads' (Kd.R_after (ok := (fun _ => True)) (zr HO_3.out) hg hat)).2.2) KL37.out)); have n3_ := Aside0.mk (ho); clear HO_3; clear HB; clear HR130; clear HO133; have HO_3 := n0_; have HB := n1_; have HR130 := n2_; have HO136 := n3_; clear n0_ n1_ n2_ n3_; clear ho hb hg hat; have q40 : (x6_2 : Int) ≤ ((x3_1.length : Int) : Int) := zk; obtain ⟨i040, hi040, _, hsz40, _⟩ := info_parts info36; have hroom40 : x3_1.length ≤ co34 := (Kd.R_reads' HO_3.out).2.1; have hC40 : Kd.C (KQ_ w ok_) _ Ao34 x3_1.length x3_1 := (Kd.R_reads' HO_3.out).2.2; have q040 : (0 : Int) ≤ (x6_2 : Int) := zk; have hcut40 := cut_from (P := Tryz.prog) 44 36 .i64 Tryz.underlying44 hi040 1 hsz40 Ao34 x3_1.length co34 x6_2 q040 q40; have hr40 := Kd.C_drop (m := (x6_2 : Int).toNat) (c := co34) hC40 (by omega) hroom40; obtain ⟨A40, hA40⟩ : ∃ A1, A1 = (if co34 = (x6_2 : Int).toNat then Ao34 else (Ao34 : Option Addr).map (·.add ((x6_2 : Int).toNat * 1))) := ⟨_, rfl⟩; obtain ⟨c40, hc40⟩ : ∃ c1, c1 = co34 - (x6_2 : Int).toNat := ⟨_, rfl⟩; have hy40 : y137.length = x3_1.length - (x6_2 : Int).toNat := (by rw [Ny137.out, List.length_drop] <;> omega); rw [show (x3_1).drop (x6_2 : Int).toNat = y137 from Ny137.out.symm] at hr40; replace hr40 : Kd.C (KQ_ w ok_) _ A40 y137.length y137 := (by rw [hA40]; exact hr40); rw [← hy40, ← hA40, ← hc40] at hcut40; have HR140 := Aside0.mk hr40; have HC140 := Aside0.mk (show y137.length ≤ c40 from by rw [hy40, hc40]; exact Nat.sub_le_sub_right hroom40 _); clear hr40 hC40 hroom40 hi040 hsz40 hc40; have KY40 := Aside0.mk hy40; have KA40 := Aside0.mk hA40; clear hy40 hA40; have KL40 := Aside0.mk (show (x6_2 : Int).toNat ≤ x3_1.length from by omega); replace q40 := eq_true q40) | ((with_reducible refine gate_builtin (b := .append) (xs := #[.tmp 36, .tmp 39]) rfl ?_); at_builtin; refine Kd.R_append_rows (KQ_ w ok_) (w0 := w) w.heap.size rfl (.tmp 36) (.tmp 39) 44 36 (.slice none 0 0) 24 rfl Tryz.underlying44 info36 rfl (by first | decide | exact Nat.zero_lt_one) (by omega) v135 y134 y137 _ _ _ (fun k_ => some k_ ≠ (.slice Ao34 x3_1.length co34 : Value).ownBlock) (fun _ => False) rfl rfl ?aO ?aR (fun _ _ h => h) (fun _ h => h.elim) ?aF ?aB ?aS ?aL ?_; (case aR => repeat (first | exact (by repeat (first | (with_reducible exact HR140.out) | (with_reducible refine Kd.C_alloc ?_ _) | (with_reducible refine Kd.C_drewN ?_ _) | (with_reducible refine Kd.C_drew ?_) | exact HR140.out)) | (with_reducible refine Kd.C_alloc ?_ _) | (with_reducible refine Kd.C_drewN ?_ _) | (with_reducible refine Kd.C_drew ?_))); (case aB => exact (zh HB.out)); (case aF => exact (fun k_ hk => Kd.fresh' (Kd.R_lt (zr HO_3.out)) k_ hk)); (case aO => exact (zr HO136.out)); (case aS => exact (below_size (zh HB.out))); (case aL => have := LMc33.out; omega); intro v142 w41 ho hb hg hat; rw [← Ny141.out] at ho; have n0_ := Aside0.mk (Kd.R_after (ok := (fun _ => True)) (zr HO_3.out) hg hat); have n1_ := Aside0.mk (hb); have n2_ := Aside0.mk ((show Kd.C (KQ_ w ok_) w41 Ao34 y127.length y127 from by rw [Ny127.out]; exact Kd.C_take (m := (x6_2 : Int).toNat) ((Kd.R_reads' (Kd.R_after (ok := (fun _ => True)) (zr HO_3.out) hg hat)).2.2) KL37.out)); have n3_ := Aside0.mk ((show Kd.C (KQ_ w ok_) w41 A40 y137.length y137 from by rw [Ny137.out, KA40.out]; exact Kd.C_drop (m := (x6_2 : Int).toNat) (c := co34) ((Kd.R_reads' (Kd.R_after (ok := (fun _ => True)) (zr HO_3.out) hg hat)).2.2) KL40.out ((Kd.R_reads' (Kd.R_after (ok := (fun _ => True)) (zr HO_3.out) hg hat)).2.1))); have n4_ := Aside0.mk (ho); clear HO_3; clear HB; clear HR130; clear HR140; clear HO136; have HO_3 := n0_; have HB := n1_; have HR130 := n2_; have HR140 := n3_; have HO143 := n4_; clear n0_ n1_ n2_ n3_ n4_; clear ho hb hg hat))
      go_roundg k2
      case measure => have := HK1.out; have := HK2.out; omega
      case rel => exact ⟨(y141), (wrap64 (x10_1 + 1)), (by first | rfl | (simp; done) | (simp [*]; done)), H', ⟨by have := HK1.out; have := HK2.out; omega⟩, ⟨by (with_reducible repeat (first | apply Kd.R_alloc | apply Kd.R_drewN | apply Kd.R_drew)); exact Kd.R_mono HO143.out (fun _ hk => trivial)⟩, ⟨zh HB.out⟩⟩
     rw [if_pos c5] at H
     have c5b0 : decide (x6_2 < (x3_1.length : Int)) = true := decide_eq_true c5
     clear c5
     by_cases c6 : 0 ≤ x6_2
     rotate_left
     ·rw [if_neg c6] at H
      exact absurd H (by simp)
     rw [if_pos c6] at H
     have c6b0 : decide (0 ≤ x6_2) = true := decide_eq_true c6
     clear c6
     replace H := Option.bind_eq_some_iff.mp H
     obtain ⟨t103, A70, H⟩ := H
     replace H : (if t103 = true then (spec_voSorted_q.l1 k2 x3_1 (rdOf Q_.nil l0 x10_1) (wrap64 (x6_2 + 1)) l0 (l0.length : Int) x10_1) else ((some (([] : List (Q_ w ok_)) : List (Q_ w ok_))).bind fun y104 => (if x6_2 ≤ (x3_1.length : Int) then ((some (x3_1.take (x6_2 : Int).toNat : List (Q_ w ok_))).bind fun y107 => (if y104.length + y107.length < 5864062014805 then ((some (y104 ++ y107 : List (Q_ w ok_))).bind fun y111 => (if y111.length < 5864062014805 then ((some (y111 ++ [(rdOf Q_.nil l0 x10_1)] : List (Q_ w ok_))).bind fun y114 => ((some (x3_1.drop (x6_2 : Int).toNat : List (Q_ w ok_))).bind fun y117 => (if y114.length + y117.length < 5864062014805 then (spec_voSorted_q.l0 k2 (y114 ++ y117) l0 (l0.length : Int) (wrap64 (x10_1 + 1))) else (none)))) else (none))) else (none))) else (none)))) = some r := H
     have A7 := Aside0.mk A70
     clear A70
     by_cases c8 : t103 = true
     ·subst c8
      have H1 : (spec_voSorted_q.l1 k2 x3_1 (rdOf Q_.nil l0 x10_1) (wrap64 (x6_2 + 1)) l0 (l0.length : Int) x10_1) = some r := by rw [if_pos rfl] at H; exact H
      clear H
      have H := H1
      clear H1
      have H' := Aside0.mk H
      clear H
      obtain ⟨Ao9, co9, eo9⟩ := Kd.R_slice HO_3.out
      subst eo9
      have p102 : 0 ≤ (x6_2 : Int) := zk
      have q102 : x6_2 < (x3_1.length : Int) := zk
      obtain ⟨ad102, e102, hx102_0⟩ := at_Q_ (Kd.R_reads' HO_3.out).2.2 x6_2 p102 q102
      cases e102
      replace p102 := eq_true p102
      replace q102 := eq_true q102
      go_wp2_with (first | (go_at_call 95; (with_reducible refine (spec_voBefore_q.calls k2 (rdOf Q_.nil x3_1 x6_2) (rdOf Q_.nil l0 x10_1) true _ A7.out).mono ?_); rintro e w10 ⟨rfl, hb⟩; have n0_ := Aside0.mk (Kd.R_below (zr HO_3.out) hb); have n1_ := Aside0.mk (below_step (zh HB.out) hb); clear HO_3; clear HB; have HO_3 := n0_; have HB := n1_; clear n0_ n1_; (try clear hb); (try clear hb2); (try clear hk); (try clear hi)))
      go_roundg k2
      case measure => have := HK1.out; have := HK2.out; omega
      case rel => exact ⟨(wrap64 (x6_2 + 1)), (by first | rfl | (simp; done) | (simp [*]; done)), H', ⟨by have := HK1.out; have := HK2.out; omega⟩, ⟨zr HO_3.out⟩, ⟨zh HB.out⟩⟩
     replace c8 := Bool.eq_false_iff.mpr c8
     subst c8
     have H1 : ((some (([] : List (Q_ w ok_)) : List (Q_ w ok_))).bind fun y104 => (if x6_2 ≤ (x3_1.length : Int) then ((some (x3_1.take (x6_2 : Int).toNat : List (Q_ w ok_))).bind fun y107 => (if y104.length + y107.length < 5864062014805 then ((some (y104 ++ y107 : List (Q_ w ok_))).bind fun y111 => (if y111.length < 5864062014805 then ((some (y111 ++ [(rdOf Q_.nil l0 x10_1)] : List (Q_ w ok_))).bind fun y114 => ((some (x3_1.drop (x6_2 : Int).toNat : List (Q_ w ok_))).bind fun y117 => (if y114.length + y117.length < 5864062014805 then (spec_voSorted_q.l0 k2 (y114 ++ y117) l0 (l0.length : Int) (wrap64 (x10_1 + 1))) else (none)))) else (none))) else (none))) else (none))) = some r := by rw [if_neg (show ¬ (false = true) by decide)] at H; exact H
     clear H
     have H := H1
     clear H1
     obtain ⟨y104, hy104⟩ : ∃ y_ : List (Q_ w ok_), y_ = (([] : List (Q_ w ok_))) := ⟨_, rfl⟩
     replace H : (if x6_2 ≤ (x3_1.length : Int) then ((some (x3_1.take (x6_2 : Int).toNat : List (Q_ w ok_))).bind fun y107 => (if y104.length + y107.length < 5864062014805 then ((some (y104 ++ y107 : List (Q_ w ok_))).bind fun y111 => (if y111.length < 5864062014805 then ((some (y111 ++ [(rdOf Q_.nil l0 x10_1)] : List (Q_ w ok_))).bind fun y114 => ((some (x3_1.drop (x6_2 : Int).toNat : List (Q_ w ok_))).bind fun y117 => (if y114.length + y117.length < 5864062014805 then (spec_voSorted_q.l0 k2 (y114 ++ y117) l0 (l0.length : Int) (wrap64 (x10_1 + 1))) else (none)))) else (none))) else (none))) else (none)) = some r := by first | (rw [hy104]; with_reducible exact H) | (have H2_ := (Option.bind_some _ _).symm.trans H; rw [hy104]; with_reducible exact H2_) | (have H2_ := (Option.bind_some _ _).symm.trans H; with_reducible exact H2_) | with_reducible exact H | (rw [hy104]; exact H) | exact H
     have Ny104 := Aside0.mk hy104
     clear hy104
     have c11b0 := eq_true (zk : 0 ≤ x6_2)
     by_cases c12 : x6_2 ≤ (x3_1.length : Int)
     rotate_left
     ·rw [if_neg c12] at H
      exact absurd H (by simp)
     rw [if_pos c12] at H
     have c12b0 := eq_true c12
     have c12b1 : decide (x6_2 ≤ (x3_1.length : Int)) = true := decide_eq_true c12
     clear c12
     obtain ⟨y107, hy107⟩ : ∃ y_ : List (Q_ w ok_), y_ = (x3_1.take (x6_2 : Int).toNat) := ⟨_, rfl⟩
     replace H : (if y104.length + y107.length < 5864062014805 then ((some (y104 ++ y107 : List (Q_ w ok_))).bind fun y111 => (if y111.length < 5864062014805 then ((some (y111 ++ [(rdOf Q_.nil l0 x10_1)] : List (Q_ w ok_))).bind fun y114 => ((some (x3_1.drop (x6_2 : Int).toNat : List (Q_ w ok_))).bind fun y117 => (if y114.length + y117.length < 5864062014805 then (spec_voSorted_q.l0 k2 (y114 ++ y117) l0 (l0.length : Int) (wrap64 (x10_1 + 1))) else (none)))) else (none))) else (none)) = some r := by first | (rw [hy107]; with_reducible exact H) | (have H2_ := (Option.bind_some _ _).symm.trans H; rw [hy107]; with_reducible exact H2_) | (have H2_ := (Option.bind_some _ _).symm.trans H; with_reducible exact H2_) | with_reducible exact H | (rw [hy107]; exact H) | exact H
     have Ny107 := Aside0.mk hy107
     clear hy107
     by_cases c13 : y104.length + y107.length < 5864062014805
     rotate_left
     ·rw [if_neg c13] at H
      exact absurd H (by simp)
     rw [if_pos c13] at H
     have LMc13 := Aside0.mk c13
     clear c13
     obtain ⟨y111, hy111⟩ : ∃ y_ : List (Q_ w ok_), y_ = (y104 ++ y107) := ⟨_, rfl⟩
     replace H : (if y111.length < 5864062014805 then ((some (y111 ++ [(rdOf Q_.nil l0 x10_1)] : List (Q_ w ok_))).bind fun y114 => ((some (x3_1.drop (x6_2 : Int).toNat : List (Q_ w ok_))).bind fun y117 => (if y114.length + y117.length < 5864062014805 then (spec_voSorted_q.l0 k2 (y114 ++ y117) l0 (l0.length : Int) (wrap64 (x10_1 + 1))) else (none)))) else (none)) = some r := by first | (rw [hy111]; with_reducible exact H) | (have H2_ := (Option.bind_some _ _).symm.trans H; rw [hy111]; with_reducible exact H2_) | (have H2_ := (Option.bind_some _ _).symm.trans H; with_reducible exact H2_) | with_reducible exact H | (rw [hy111]; exact H) | exact H
     have Ny111 := Aside0.mk hy111
     clear hy111
     by_cases c14 : y111.length < 5864062014805
     rotate_left
     ·rw [if_neg c14] at H
      exact absurd H (by simp)
     rw [if_pos c14] at H
     have LMc14 := Aside0.mk c14
     clear c14
     obtain ⟨y114, hy114⟩ : ∃ y_ : List (Q_ w ok_), y_ = (y111 ++ [(rdOf Q_.nil l0 x10_1)]) := ⟨_, rfl⟩
     replace H : ((some (x3_1.drop (x6_2 : Int).toNat : List (Q_ w ok_))).bind fun y117 => (if y114.length + y117.length < 5864062014805 then (spec_voSorted_q.l0 k2 (y114 ++ y117) l0 (l0.length : Int) (wrap64 (x10_1 + 1))) else (none))) = some r := by first | (rw [hy114]; with_reducible exact H) | (have H2_ := (Option.bind_some _ _).symm.trans H; rw [hy114]; with_reducible exact H2_) | (have H2_ := (Option.bind_some _ _).symm.trans H; with_reducible exact H2_) | with_reducible exact H | (rw [hy114]; exact H) | exact H
     have Ny114 := Aside0.mk hy114
     clear hy114
     have c15b0 := eq_true (zk : 0 ≤ x6_2)
     have c16b0 := eq_true (zk : x6_2 ≤ (x3_1.length : Int))
     obtain ⟨y117, hy117⟩ : ∃ y_ : List (Q_ w ok_), y_ = (x3_1.drop (x6_2 : Int).toNat) := ⟨_, rfl⟩
     replace H : (if y114.length + y117.length < 5864062014805 then (spec_voSorted_q.l0 k2 (y114 ++ y117) l0 (l0.length : Int) (wrap64 (x10_1 + 1))) else (none)) = some r := by first | (rw [hy117]; with_reducible exact H) | (have H2_ := (Option.bind_some _ _).symm.trans H; rw [hy117]; with_reducible exact H2_) | (have H2_ := (Option.bind_some _ _).symm.trans H; with_reducible exact H2_) | with_reducible exact H | (rw [hy117]; exact H) | exact H
     have Ny117 := Aside0.mk hy117
     clear hy117
     by_cases c17 : y114.length + y117.length < 5864062014805
     rotate_left
     ·rw [if_neg c17] at H
      exact absurd H (by simp)
     rw [if_pos c17] at H
     have LMc17 := Aside0.mk c17
     clear c17
     obtain ⟨y121, hy121⟩ : ∃ y_ : List (Q_ w ok_), y_ = (y114 ++ y117) := ⟨_, rfl⟩
     replace H : (spec_voSorted_q.l0 k2 y121 l0 (l0.length : Int) (wrap64 (x10_1 + 1))) = some r := by first | (rw [hy121]; with_reducible exact H) | (have H2_ := (Option.bind_some _ _).symm.trans H; rw [hy121]; with_reducible exact H2_) | (have H2_ := (Option.bind_some _ _).symm.trans H; with_reducible exact H2_) | with_reducible exact H | (rw [hy121]; exact H) | exact H
     have Ny121 := Aside0.mk hy121
     clear hy121
     have H' := Aside0.mk H
     clear H
     obtain ⟨Ao18, co18, eo18⟩ := Kd.R_slice HO_3.out
     subst eo18
     have p102 : 0 ≤ (x6_2 : Int) := zk
     have q102 : x6_2 < (x3_1.length : Int) := zk
     obtain ⟨ad102, e102, hx102_0⟩ := at_Q_ (Kd.R_reads' HO_3.out).2.2 x6_2 p102 q102
     cases e102
     replace p102 := eq_true p102
     replace q102 := eq_true q102
     go_wp2_with (first | (go_at_call 95; (with_reducible refine (spec_voBefore_q.calls k2 (rdOf Q_.nil x3_1 x6_2) (rdOf Q_.nil l0 x10_1) false _ A7.out).mono ?_); rintro e w19 ⟨rfl, hb⟩; have n0_ := Aside0.mk (Kd.R_below (zr HO_3.out) hb); have n1_ := Aside0.mk (below_step (zh HB.out) hb); clear HO_3; clear HB; have HO_3 := n0_; have HB := n1_; clear n0_ n1_; (try clear hb); (try clear hb2); (try clear hk); (try clear hi)) | ((with_reducible refine gate_dst (N := 28) rfl ?_); refine Kd.R_lit (KQ_ w ok_) _ 36 ?hg (N := 28) ?hd (xs := ([] : List (Q_ w ok_))) (inner := []) (ok := fun _ => True) (okp := fun _ => True) ?hr ?hp (fun _ hk => hk) trivial (Below.refl _ _) (Nat.le_refl _) (by simp) ?_; (case hd => rfl); (case hg => rfl); (case hr => first | (go_simp; done) | (go_simp; rfl)); (case hp => exact (Reps.none _ _)); intro v105 w20 ho21 hb hg_ hnew_; clear hg_ hnew_; (first | rw [← Ny104.out] at ho21 | (simp only [Int.reduceToNat] at ho21; rw [← Ny104.out] at ho21)); have n0_ := Aside0.mk (Kd.R_elder' (zr HO_3.out) (Kd.R_base ho21) hb); have n1_ := Aside0.mk (Kd.R_lower (Kd.R_new' ho21 (Kd.R_lt (zr HO_3.out))) (below_size (zh HB.out))); have n2_ := Aside0.mk (below_step (zh HB.out) hb); clear HO_3; clear HB; have HO_3 := n0_; have HO106 := n1_; have HB := n2_; clear n0_ n1_ n2_; clear hb ho21; have q22 : (x6_2 : Int) ≤ ((x3_1.length : Int) : Int) := zk; obtain ⟨i022, hi022, _, hsz22, _⟩ := info_parts info36; have hroom22 : x3_1.length ≤ co18 := (Kd.R_reads' HO_3.out).2.1; have hC22 : Kd.C (KQ_ w ok_) _ (some ad102) x3_1.length x3_1 := (Kd.R_reads' HO_3.out).2.2; have hcut22 := cut_to (P := Tryz.prog) 44 36 .i64 Tryz.underlying44 hi022 (some ad102) x3_1.length co18 x6_2 (zk) q22 hroom22; have hr22 := Kd.C_take (m := (x6_2 : Int).toNat) hC22 (by omega); have hy22 : y107.length = (x6_2 : Int).toNat := (by rw [Ny107.out, List.length_take]; omega); rw [← Ny107.out] at hr22; rw [← hy22] at hcut22; have HR110 := Aside0.mk hr22; have HC110 := Aside0.mk (show y107.length ≤ co18 from by omega); clear hr22 hC22 hroom22 hi022 hsz22; have KY22 := Aside0.mk hy22; clear hy22; have KL22 := Aside0.mk (show (x6_2 : Int).toNat ≤ x3_1.length from by omega); replace q22 := eq_true q22) | ((with_reducible refine gate_builtin (b := .append) (xs := #[.tmp 28, .tmp 31]) rfl ?_); at_builtin; refine Kd.R_append_rows (KQ_ w ok_) (w0 := w) w.heap.size rfl (.tmp 28) (.tmp 31) 44 36 (.slice none 0 0) 24 rfl Tryz.underlying44 info36 rfl (by first | decide | exact Nat.zero_lt_one) (by omega) v105 y104 y107 _ _ _ (fun k_ => some k_ ≠ (.slice (some ad102) x3_1.length co18 : Value).ownBlock) (fun _ => False) rfl rfl ?aO ?aR (fun _ _ h => h) (fun _ h => h.elim) ?aF ?aB ?aS ?aL ?_; (case aR => repeat (first | exact (by repeat (first | (with_reducible exact HR110.out) | (with_reducible refine Kd.C_alloc ?_ _) | (with_reducible refine Kd.C_drewN ?_ _) | (with_reducible refine Kd.C_drew ?_) | exact HR110.out)) | (with_reducible refine Kd.C_alloc ?_ _) | (with_reducible refine Kd.C_drewN ?_ _) | (with_reducible refine Kd.C_drew ?_))); (case aB => exact (zh HB.out)); (case aF => exact (fun k_ hk => Kd.fresh' (Kd.R_lt (zr HO_3.out)) k_ hk)); (case aO => exact (zr (Kd.R_mono HO106.out (fun _ hk => hk.2)))); (case aS => exact (below_size (zh HB.out))); (case aL => have := LMc13.out; omega); intro v112 w23 ho hb hg hat; rw [← Ny111.out] at ho; have n0_ := Aside0.mk (Kd.R_after (ok := (fun _ => True)) (zr HO_3.out) hg hat); have n1_ := Aside0.mk (hb); have n2_ := Aside0.mk ((show Kd.C (KQ_ w ok_) w23 (some ad102) y107.length y107 from by rw [Ny107.out]; exact Kd.C_take (m := (x6_2 : Int).toNat) ((Kd.R_reads' (Kd.R_after (ok := (fun _ => True)) (zr HO_3.out) hg hat)).2.2) KL22.out)); have n3_ := Aside0.mk (ho); clear HO_3; clear HB; clear HR110; clear HO106; have HO_3 := n0_; have HB := n1_; have HR110 := n2_; have HO113 := n3_; clear n0_ n1_ n2_ n3_; clear ho hb hg hat) | ((with_reducible refine gate_builtin (b := .append) (xs := #[.tmp 32, .tmp 34]) rfl ?_); at_builtin; refine Kd.R_append (KQ_ w ok_) (w0 := w) w.heap.size rfl (.tmp 32) (.tmp 34) 44 36 (.slice none 0 0) 24 rfl Tryz.underlying44 info36 rfl (by first | decide | exact Nat.zero_lt_one) (by omega) v112 y111 (rdOf Q_.nil l0 x10_1) [Q_.val (rdOf Q_.nil l0 x10_1)] (fun k_ => some k_ ≠ (.slice (some ad102) x3_1.length co18 : Value).ownBlock) (fun _ => False) rfl rfl ?aP (fun _ hk => hk.elim) ?aF ?aO ?aB ?aS ?aL ?_; (case aP => exact rfl); (case aB => exact (zh HB.out)); (case aF => exact (fun k_ hk => Kd.fresh' (Kd.R_lt (zr HO_3.out)) k_ hk)); (case aO => exact (zr HO113.out)); (case aS => exact (below_size (zh HB.out))); (case aL => have := LMc14.out; omega); intro v115 w24 ho hb hg hat; rw [← Ny114.out] at ho; have n0_ := Aside0.mk (Kd.R_after (ok := (fun _ => True)) (zr HO_3.out) hg hat); have n1_ := Aside0.mk (hb); have n2_ := Aside0.mk ((show Kd.C (KQ_ w ok_) w24 (some ad102) y107.length y107 from by rw [Ny107.out]; exact Kd.C_take (m := (x6_2 : Int).toNat) ((Kd.R_reads' (Kd.R_after (ok := (fun _ => True)) (zr HO_3.out) hg hat)).2.2) KL22.out)); have n3_ := Aside0.mk (ho); clear HO_3; clear HB; clear HR110; clear HO113; have HO_3 := n0_; have HB := n1_; have HR110 := n2_; have HO116 := n3_; clear n0_ n1_ n2_ n3_; clear ho hb hg hat; have q25 : (x6_2 : Int) ≤ ((x3_1.length : Int) : Int) := zk; obtain ⟨i025, hi025, _, hsz25, _⟩ := info_parts info36; have hroom25 : x3_1.length ≤ co18 := (Kd.R_reads' HO_3.out).2.1; have hC25 : Kd.C (KQ_ w ok_) _ (some ad102) x3_1.length x3_1 := (Kd.R_reads' HO_3.out).2.2; have q025 : (0 : Int) ≤ (x6_2 : Int) := zk; have hcut25 := cut_from (P := Tryz.prog) 44 36 .i64 Tryz.underlying44 hi025 1 hsz25 (some ad102) x3_1.length co18 x6_2 q025 q25; have hr25 := Kd.C_drop (m := (x6_2 : Int).toNat) (c := co18) hC25 (by omega) hroom25; obtain ⟨A25, hA25⟩ : ∃ A1, A1 = (if co18 = (x6_2 : Int).toNat then (some ad102) else ((some ad102) : Option Addr).map (·.add ((x6_2 : Int).toNat * 1))) := ⟨_, rfl⟩; obtain ⟨c25, hc25⟩ : ∃ c1, c1 = co18 - (x6_2 : Int).toNat := ⟨_, rfl⟩; have hy25 : y117.length = x3_1.length - (x6_2 : Int).toNat := (by rw [Ny117.out, List.length_drop] <;> omega); rw [show (x3_1).drop (x6_2 : Int).toNat = y117 from Ny117.out.symm] at hr25; replace hr25 : Kd.C (KQ_ w ok_) _ A25 y117.length y117 := (by rw [hA25]; exact hr25); rw [← hy25, ← hA25, ← hc25] at hcut25; have HR120 := Aside0.mk hr25; have HC120 := Aside0.mk (show y117.length ≤ c25 from by rw [hy25, hc25]; exact Nat.sub_le_sub_right hroom25 _); clear hr25 hC25 hroom25 hi025 hsz25 hc25; have KY25 := Aside0.mk hy25; have KA25 := Aside0.mk hA25; clear hy25 hA25; have KL25 := Aside0.mk (show (x6_2 : Int).toNat ≤ x3_1.length from by omega); replace q25 := eq_true q25) | ((with_reducible refine gate_builtin (b := .append) (xs := #[.tmp 36, .tmp 39]) rfl ?_); at_builtin; refine Kd.R_append_rows (KQ_ w ok_) (w0 := w) w.heap.size rfl (.tmp 36) (.tmp 39) 44 36 (.slice none 0 0) 24 rfl Tryz.underlying44 info36 rfl (by first | decide | exact Nat.zero_lt_one) (by omega) v115 y114 y117 _ _ _ (fun k_ => some k_ ≠ (.slice (some ad102) x3_1.length co18 : Value).ownBlock) (fun _ => False) rfl rfl ?aO ?aR (fun _ _ h => h) (fun _ h => h.elim) ?aF ?aB ?aS ?aL ?_; (case aR => repeat (first | exact (by repeat (first | (with_reducible exact HR120.out) | (with_reducible refine Kd.C_alloc ?_ _) | (with_reducible refine Kd.C_drewN ?_ _) | (with_reducible refine Kd.C_drew ?_) | exact HR120.out)) | (with_reducible refine Kd.C_alloc ?_ _) | (with_reducible refine Kd.C_drewN ?_ _) | (with_reducible refine Kd.C_drew ?_))); (case aB => exact (zh HB.out)); (case aF => exact (fun k_ hk => Kd.fresh' (Kd.R_lt (zr HO_3.out)) k_ hk)); (case aO => exact (zr HO116.out)); (case aS => exact (below_size (zh HB.out))); (case aL => have := LMc17.out; omega); intro v122 w26 ho hb hg hat; rw [← Ny121.out] at ho; have n0_ := Aside0.mk (Kd.R_after (ok := (fun _ => True)) (zr HO_3.out) hg hat); have n1_ := Aside0.mk (hb); have n2_ := Aside0.mk ((show Kd.C (KQ_ w ok_) w26 (some ad102) y107.length y107 from by rw [Ny107.out]; exact Kd.C_take (m := (x6_2 : Int).toNat) ((Kd.R_reads' (Kd.R_after (ok := (fun _ => True)) (zr HO_3.out) hg hat)).2.2) KL22.out)); have n3_ := Aside0.mk ((show Kd.C (KQ_ w ok_) w26 A25 y117.length y117 from by rw [Ny117.out, KA25.out]; exact Kd.C_drop (m := (x6_2 : Int).toNat) (c := co18) ((Kd.R_reads' (Kd.R_after (ok := (fun _ => True)) (zr HO_3.out) hg hat)).2.2) KL25.out ((Kd.R_reads' (Kd.R_after (ok := (fun _ => True)) (zr HO_3.out) hg hat)).2.1))); have n4_ := Aside0.mk (ho); clear HO_3; clear HB; clear HR110; clear HR120; clear HO116; have HO_3 := n0_; have HB := n1_; have HR110 := n2_; have HR120 := n3_; have HO123 := n4_; clear n0_ n1_ n2_ n3_ n4_; clear ho hb hg hat))
     go_roundg k2
     case measure => have := HK1.out; have := HK2.out; omega
     case rel => exact ⟨(y121), (wrap64 (x10_1 + 1)), (by first | rfl | (simp; done) | (simp [*]; done)), H', ⟨by have := HK1.out; have := HK2.out; omega⟩, ⟨by (with_reducible repeat (first | apply Kd.R_alloc | apply Kd.R_drewN | apply Kd.R_drew)); exact Kd.R_mono HO123.out (fun _ hk => trivial)⟩, ⟨zh HB.out⟩⟩
end
mutual
def spec_voSorted.l0 : Nat → List (List Int) → List (List Int) → Int → Int → Option (List (List Int))
 | 0, _, _, _, _ => none
 | k + 1, x3, x8, x9, x10 => if x10 < x9 then (if 0 ≤ x10 then (if x10 < (x8.length : Int) then (spec_voSorted.l1 k x3 (rdOf [] x8 x10) 0 x8 x9 x10) else (none)) else (none)) else (some x3)
def spec_voSorted.l1 : Nat → List (List Int) → (List Int) → Int → List (List Int) → Int → Int → Option (List (List Int))
 | 0, _, _, _, _, _, _ => none
 | k + 1, x3, x5, x6, x8, x9, x10 => if x6 < (x3.length : Int) then (if 0 ≤ x6 then ((spec_voBefore.f k (rdOf [] x3 x6) x5).bind fun t103 => (if t103 = true then (spec_voSorted.l1 k x3 x5 (wrap64 (x6 + 1)) x8 x9 x10) else ((some (([] : List (List Int)) : List (List Int))).bind fun y104 => (if x6 ≤ (x3.length : Int) then ((some (x3.take (x6 : Int).toNat : List (List Int))).bind fun y107 => (if y104.length + y107.length < 5864062014805 then ((some (y104 ++ y107 : List (List Int))).bind fun y111 => (if y111.length < 5864062014805 then ((some (y111 ++ [x5] : List (List Int))).bind fun y114 => ((some (x3.drop (x6 : Int).toNat : List (List Int))).bind fun y117 => (if y114.length + y117.length < 5864062014805 then (spec_voSorted.l0 k (y114 ++ y117) x8 x9 (wrap64 (x10 + 1))) else (none)))) else (none))) else (none))) else (none))))) else (none)) else ((some (([] : List (List Int)) : List (List Int))).bind fun y124 => (if 0 ≤ x6 then (if x6 ≤ (x3.length : Int) then ((some (x3.take (x6 : Int).toNat : List (List Int))).bind fun y127 => (if y124.length + y127.length < 5864062014805 then ((some (y124 ++ y127 : List (List Int))).bind fun y131 => (if y131.length < 5864062014805 then ((some (y131 ++ [x5] : List (List Int))).bind fun y134 => ((some (x3.drop (x6 : Int).toNat : List (List Int))).bind fun y137 => (if y134.length + y137.length < 5864062014805 then (spec_voSorted.l0 k (y134 ++ y137) x8 x9 (wrap64 (x10 + 1))) else (none)))) else (none))) else (none))) else (none)) else (none)))
end
def spec_voSorted.f (k : Nat) (l0 : List (List Int)) : Option (List (List Int)) := spec_voSorted.l0 k ([] : List (List Int)) l0 (l0.length : Int) 0
theorem spec_voSorted.mono_l : ∀ k, (∀ y0 y1 y2 y3, LeO (spec_voSorted.l0 k y0 y1 y2 y3) (spec_voSorted.l0 (k + 1) y0 y1 y2 y3)) ∧ (∀ y0 y1 y2 y3 y4 y5, LeO (spec_voSorted.l1 k y0 y1 y2 y3 y4 y5) (spec_voSorted.l1 (k + 1) y0 y1 y2 y3 y4 y5))
 | 0 => ⟨fun _ _ _ _ r h => by simp [spec_voSorted.l0] at h, fun _ _ _ _ _ _ r h => by simp [spec_voSorted.l1] at h⟩
 | k + 1 => by
  obtain ⟨ih0, ih1⟩ := spec_voSorted.mono_l k
  refine ⟨?_, ?_⟩
  ·intro y0 y1 y2 y3
   unfold spec_voSorted.l0
   repeat' first
   | (with_reducible exact ih0 _ _ _ _)
   | (with_reducible exact ih1 _ _ _ _ _ _)
   | (with_reducible exact spec_voBefore.mono _ _ _)
   | (with_reducible exact LeO.refl _)
   | (with_reducible exact LeO.none _)
   | (with_reducible refine LeO.ite ?_ ?_)
   | (with_reducible refine LeO.bind ?_ (fun _ => ?_))
   | exact ih0 _ _ _ _
   | exact ih1 _ _ _ _ _ _
   | exact spec_voBefore.mono _ _ _
   | exact LeO.none _
   | refine LeO.ite ?_ ?_
   | refine LeO.bind ?_ (fun _ => ?_)
  ·intro y0 y1 y2 y3 y4 y5
   unfold spec_voSorted.l1
   repeat' first
   | (with_reducible exact ih0 _ _ _ _)
   | (with_reducible exact ih1 _ _ _ _ _ _)
   | (with_reducible exact spec_voBefore.mono _ _ _)
   | (with_reducible exact LeO.refl _)
   | (with_reducible exact LeO.none _)
   | (with_reducible refine LeO.ite ?_ ?_)
   | (with_reducible refine LeO.bind ?_ (fun _ => ?_))
   | exact ih0 _ _ _ _
   | exact ih1 _ _ _ _ _ _
   | exact spec_voBefore.mono _ _ _
   | exact LeO.none _
   | refine LeO.ite ?_ ?_
   | refine LeO.bind ?_ (fun _ => ?_)
theorem spec_voSorted.mono : ∀ a0 k, LeO (spec_voSorted.f k a0) (spec_voSorted.f (k + 1) a0) := by
 intro a0 k
 obtain ⟨ih0, ih1⟩ := spec_voSorted.mono_l k
 unfold spec_voSorted.f
 repeat' first
   | (with_reducible exact ih0 _ _ _ _)
   | (with_reducible exact ih1 _ _ _ _ _ _)
   | (with_reducible exact spec_voBefore.mono _ _ _)
   | (with_reducible exact LeO.refl _)
   | (with_reducible exact LeO.none _)
   | (with_reducible refine LeO.ite ?_ ?_)
   | (with_reducible refine LeO.bind ?_ (fun _ => ?_))
   | exact ih0 _ _ _ _
   | exact ih1 _ _ _ _ _ _
   | exact spec_voBefore.mono _ _ _
   | exact LeO.none _
   | refine LeO.ite ?_ ?_
   | refine LeO.bind ?_ (fun _ => ?_)
section
variable {W_ : World} {ok_ : Nat → Prop}
theorem rdQ (xs : List (Q_ W_ ok_)) (i : Int) : (rdOf Q_.nil xs i).l = rdOf [] (xs.map Q_.l) i := by
  unfold rdOf
  rw [List.getD_eq_getElem?_getD, List.getD_eq_getElem?_getD, List.getElem?_map]
  cases xs[i.toNat]? <;> rfl
theorem map_ite {α β : Type} {c : Prop} [Decidable c] {x y : Option α} {x' y' : Option β} {g : α → β} (h1 : c → x.map g = x') (h2 : ¬ c → y.map g = y') : (if c then x else y).map g = if c then x' else y' := by
  by_cases h : c
  · rw [if_pos h, if_pos h]; exact h1 h
  · rw [if_neg h, if_neg h]; exact h2 h
theorem map_bind1 {α β δ : Type} {x : Option α} {f : α → Option β} {f' : α → Option δ} {g : β → δ} (h : ∀ t, (f t).map g = f' t) : (x.bind f).map g = x.bind f' := by
  cases x with
  | none => rfl
  | some t => exact h t
theorem voSorted_map : ∀ k, (∀ (x3 x8 : List (Q_ W_ ok_)) x9 x10, (spec_voSorted_q.l0 k x3 x8 x9 x10).map (List.map Q_.l) = spec_voSorted.l0 k (x3.map Q_.l) (x8.map Q_.l) x9 x10) ∧
    (∀ (x3 : List (Q_ W_ ok_)) (x5 : Q_ W_ ok_) x6 x8 x9 x10, (spec_voSorted_q.l1 k x3 x5 x6 x8 x9 x10).map (List.map Q_.l) = spec_voSorted.l1 k (x3.map Q_.l) x5.l x6 (x8.map Q_.l) x9 x10)
  | 0 => ⟨fun _ _ _ _ => by simp [spec_voSorted_q.l0, spec_voSorted.l0], fun _ _ _ _ _ _ => by simp [spec_voSorted_q.l1, spec_voSorted.l1]⟩
  | k + 1 => by
    obtain ⟨ih0, ih1⟩ := voSorted_map k
    refine ⟨fun x3 x8 x9 x10 => ?_, fun x3 x5 x6 x8 x9 x10 => ?_⟩
    · simp only [spec_voSorted_q.l0, spec_voSorted.l0]
      refine map_ite (fun _ => map_ite (fun _ => ?_) (fun _ => rfl)) (fun _ => rfl)
      rw [List.length_map]
      refine map_ite (fun _ => ?_) (fun _ => rfl)
      rw [ih1, rdQ]
    · simp only [spec_voSorted_q.l1, spec_voSorted.l1, Option.bind_some, ← List.map_take, ← List.map_drop, List.nil_append, List.length_append, List.length_cons, List.length_nil, List.length_map]
      refine map_ite (fun _ => map_ite (fun _ => ?_) (fun _ => rfl)) (fun _ => ?_)
      · refine (map_bind1 fun t => ?_).trans (congrArg (fun z => Option.bind z _) (show spec_voBefore_q.f k _ _ = spec_voBefore.f k _ _ from by rw [← rdQ]; rfl))
        refine map_ite (fun _ => ih1 _ _ _ _ _ _) (fun _ => map_ite (fun _ => map_ite (fun _ => map_ite (fun _ => map_ite (fun _ => ?_) (fun _ => rfl)) (fun _ => rfl)) (fun _ => rfl)) (fun _ => rfl))
        rw [ih0]; simp
      · refine map_ite (fun _ => map_ite (fun _ => map_ite (fun _ => map_ite (fun _ => map_ite (fun _ => ?_) (fun _ => rfl)) (fun _ => rfl)) (fun _ => rfl)) (fun _ => rfl)) (fun _ => rfl)
        rw [ih0]; simp
theorem voSorted_f (k : Nat) (l : List (Q_ W_ ok_)) : (spec_voSorted_q.f k l).map (List.map Q_.l) = spec_voSorted.f k (l.map Q_.l) := by
  unfold spec_voSorted_q.f spec_voSorted.f
  rw [(voSorted_map k).1, List.length_map]; rfl
end
theorem spec_voSorted.calls (k : Nat) (P0_ : Nat → Prop) (A0 : Option Addr) (c0 : Nat) (l0 r : List (List Int)) (w : World) (hV : Kd.V (Kd.slice 3 (Kd.int .i64)) 36 w 0 P0_ (.slice A0 l0.length c0) l0) (h : spec_voSorted.f k l0 = some r) :
    Calls Tryz.prog 86 #[.slice A0 l0.length c0] w fun e w' => ∃ v0_ : Value, e = .returned v0_ ∧ Kd.V (Kd.slice 3 (Kd.int .i64)) 36 w' w.heap.size (fun k_ => P0_ k_ ∨ w.heap.size ≤ k_) v0_ r ∧ Below w.heap.size w w' := by
  obtain ⟨A, c, hv, hl, hF⟩ := hV
  injection hv with hv1 _ hv2
  subst hv1; subst hv2
  obtain ⟨qs, rfl, hC⟩ := Q_of_F hF
  rw [← voSorted_f] at h
  obtain ⟨rq, hq, rfl⟩ := Option.map_eq_some_iff.1 h
  rw [List.length_map] at hC hl ⊢
  refine (spec_voSorted_q.calls w P0_ k A0 c0 qs rq hC hl hq).mono ?_
  rintro e w' ⟨v, rfl, hR, hb⟩
  have hR2 := Kd.R_bound hR
  obtain ⟨A', c', rfl⟩ := Kd.R_slice hR
  refine ⟨_, rfl, ⟨A', c', by rw [List.length_map], by rw [List.length_map]; exact (Kd.R_reads' hR).2.1, ?_⟩, hb⟩
  rw [List.length_map]
  exact F_of_Q hb (Kd.F_mono (Kd.R_F hR2) (fun k hk => .inr hk.2.1)) (fun k hk => .inl hk)
end Go.Proofs.YtgjakcpbfbfejaaGreat.Q
end
section
namespace Go.Proofs.YtgjakcpbfbfejaaGreat.Q
open Go.RowKit Go.Proofs.YtgjakcpbfbfejaaGreatW.PrintWords Go.Proofs.YtgjakcpbfbfejaaGreatW.PrintLast Go.Proofs.YtgjakcpbfbfejaaGreatW.PrintMore
attribute [local go_sem] max2_int min2_int max_two min_two max_three min_three max_four min_four
set_option linter.unusedVariables false
set_option linter.unusedSimpArgs false
mutual
def spec_voLeast.l0 : Nat → List Bool → List (List Int) → List Bool → Int → Int → Option ((List (List Int)))
 | 0, _, _, _, _, _ => none
 | k + 1, x0, x3, x9, x10, x11 => if x11 < x10 then (if 0 ≤ x11 then (if x11 < (x9.length : Int) then (if rdOf false x9 x11 = true then ((spec_voList.f k x11).bind fun t155 => (spec_voLeast.l1 k x0 x3 x11 true x9 x10 x11 t155 (t155.length : Int) 0)) else (spec_voLeast.l0 k x0 x3 x9 x10 (wrap64 (x11 + 1)))) else (none)) else (none)) else ((spec_voSorted.f k x3).bind fun t151 => (some t151))
def spec_voLeast.l1 : Nat → List Bool → List (List Int) → Int → Bool → List Bool → Int → Int → List Int → Int → Int → Option ((List (List Int)))
 | 0, _, _, _, _, _, _, _, _, _, _ => none
 | k + 1, x0, x3, x4, x6, x9, x10, x11, x19, x20, x21 => if x21 < x20 then (if 0 ≤ x21 then (if x21 < (x19.length : Int) then (if x6 = true then (if 0 ≤ (rd x19 x21) then (if 0 ≤ (wrap64 (x4 - (shl .i64 1 (rd x19 x21)))) then (if (wrap64 (x4 - (shl .i64 1 (rd x19 x21)))) < (x0.length : Int) then (spec_voLeast.l1 k x0 x3 x4 (!(rdOf false x0 (wrap64 (x4 - (shl .i64 1 (rd x19 x21)))))) x9 x10 x11 x19 x20 (wrap64 (x21 + 1))) else (none)) else (none)) else (none)) else (spec_voLeast.l1 k x0 x3 x4 false x9 x10 x11 x19 x20 (wrap64 (x21 + 1)))) else (none)) else (none)) else (if x6 = true then ((spec_voList.f k x4).bind fun t160 => (if x3.length < 5864062014805 then (spec_voLeast.l0 k x0 (x3 ++ [t160]) x9 x10 (wrap64 (x11 + 1))) else (none))) else (spec_voLeast.l0 k x0 x3 x9 x10 (wrap64 (x11 + 1))))
end
def spec_voLeast.f (k : Nat) (l0 : List Bool) : Option ((List (List Int))) := spec_voLeast.l0 k l0 ([] : List (List Int)) l0 (l0.length : Int) 0
theorem spec_voLeast.mono_l : ∀ k, (∀ y0 y1 y2 y3 y4, LeO (spec_voLeast.l0 k y0 y1 y2 y3 y4) (spec_voLeast.l0 (k + 1) y0 y1 y2 y3 y4)) ∧ (∀ y0 y1 y2 y3 y4 y5 y6 y7 y8 y9, LeO (spec_voLeast.l1 k y0 y1 y2 y3 y4 y5 y6 y7 y8 y9) (spec_voLeast.l1 (k + 1) y0 y1 y2 y3 y4 y5 y6 y7 y8 y9))
 | 0 => ⟨fun _ _ _ _ _ r h => by simp [spec_voLeast.l0] at h, fun _ _ _ _ _ _ _ _ _ _ r h => by simp [spec_voLeast.l1] at h⟩
 | k + 1 => by
  obtain ⟨ih0, ih1⟩ := spec_voLeast.mono_l k
  refine ⟨?_, ?_⟩
  ·intro y0 y1 y2 y3 y4
   unfold spec_voLeast.l0
   repeat' first
   | (with_reducible exact ih0 _ _ _ _ _)
   | (with_reducible exact ih1 _ _ _ _ _ _ _ _ _ _)
   | (with_reducible exact spec_voList.mono _ _)
   | (with_reducible exact spec_voSorted.mono _ _)
   | (with_reducible exact LeO.refl _)
   | (with_reducible exact LeO.none _)
   | (with_reducible refine LeO.ite ?_ ?_)
   | (with_reducible refine LeO.bind ?_ (fun _ => ?_))
   | exact ih0 _ _ _ _ _
   | exact ih1 _ _ _ _ _ _ _ _ _ _
   | exact spec_voList.mono _ _
   | exact spec_voSorted.mono _ _
   | exact LeO.none _
   | refine LeO.ite ?_ ?_
   | refine LeO.bind ?_ (fun _ => ?_)
  ·intro y0 y1 y2 y3 y4 y5 y6 y7 y8 y9
   unfold spec_voLeast.l1
   repeat' first
   | (with_reducible exact ih0 _ _ _ _ _)
   | (with_reducible exact ih1 _ _ _ _ _ _ _ _ _ _)
   | (with_reducible exact spec_voList.mono _ _)
   | (with_reducible exact spec_voSorted.mono _ _)
   | (with_reducible exact LeO.refl _)
   | (with_reducible exact LeO.none _)
   | (with_reducible refine LeO.ite ?_ ?_)
   | (with_reducible refine LeO.bind ?_ (fun _ => ?_))
   | exact ih0 _ _ _ _ _
   | exact ih1 _ _ _ _ _ _ _ _ _ _
   | exact spec_voList.mono _ _
   | exact spec_voSorted.mono _ _
   | exact LeO.none _
   | refine LeO.ite ?_ ?_
   | refine LeO.bind ?_ (fun _ => ?_)
theorem spec_voLeast.mono : ∀ a0 k, LeO (spec_voLeast.f k a0) (spec_voLeast.f (k + 1) a0) := by
 intro a0 k
 obtain ⟨ih0, ih1⟩ := spec_voLeast.mono_l k
 unfold spec_voLeast.f
 repeat' first
   | (with_reducible exact ih0 _ _ _ _ _)
   | (with_reducible exact ih1 _ _ _ _ _ _ _ _ _ _)
   | (with_reducible exact spec_voList.mono _ _)
   | (with_reducible exact spec_voSorted.mono _ _)
   | (with_reducible exact LeO.refl _)
   | (with_reducible exact LeO.none _)
   | (with_reducible refine LeO.ite ?_ ?_)
   | (with_reducible refine LeO.bind ?_ (fun _ => ?_))
   | exact ih0 _ _ _ _ _
   | exact ih1 _ _ _ _ _ _ _ _ _ _
   | exact spec_voList.mono _ _
   | exact spec_voSorted.mono _ _
   | exact LeO.none _
   | refine LeO.ite ?_ ?_
   | refine LeO.bind ?_ (fun _ => ?_)
set_option maxHeartbeats 8000000 in
set_option maxRecDepth 100000 in
theorem spec_voLeast.calls (k : Nat) (A0 : Option Addr) (c0 : Nat) (l0 : List Bool) (r : List (List Int)) (w : World) (hr0 : Kd.C Kd.bool w A0 l0.length l0) (hc0 : l0.length ≤ c0) (h : spec_voLeast.f k l0 = some r) :
  Calls Tryz.prog 119 #[.slice A0 l0.length c0] w fun e w' => ∃ v0_ : Value, e = .returned (v0_) ∧ Kd.V (Kd.slice 3 (Kd.int .i64)) 36 w' w.heap.size (fun k_ => (w.heap.size ≤ k_)) v0_ r ∧ Below w.heap.size w w' := by
 have HR0 := Aside0.mk hr0
 have HC0 := Aside0.mk hc0
 clear hr0 hc0
 have HB := Aside0.mk (Below.refl w.heap.size w)
 have H : (spec_voLeast.l0 k l0 ([] : List (List Int)) l0 (l0.length : Int) 0) = some r := h
 clear h
 have H' := Aside0.mk H
 clear H
 go_enter Tryz.func119, Tryz.ntmps119
 go_wp2
 go_loopg [3, 11] k (fun kq v3 v11 w' => ∃ (x3_1 : List (List Int)) (x11_1 : Int), v11 = .int .i64 x11_1 ∧ Aside0 (spec_voLeast.l0 kq l0 x3_1 l0 (l0.length : Int) x11_1 = some r) ∧ Aside0 (kq ≤ k) ∧ Aside0 (Kd.S (Kd.slice 3 (Kd.int .i64)) 36 w' w.heap.size (fun k_ => (w.heap.size ≤ k_)) v3 x3_1) ∧ Aside0 (Below w.heap.size w w'))
 case atStart => exact ⟨(([] : List (List Int))), (0), (by first | rfl | (simp; done) | (simp [*]; done)), H', ⟨Nat.le_refl _⟩, ⟨by first | exact Kd.S_nil _ _ _ _ _ | exact Kd.N_nil _ _ _ _ _ | exact Kd.V_nil _ _ _ _ _ | exact Kd.Q_nil _ _ _ _ _ | exact Kd.R_nil _ _ _ _ _⟩, ⟨zh HB.out⟩⟩
 case round =>
  clear H'
  try clear c1
  obtain ⟨x3_1, x11_1, rfl, HA, HK1, HO_3, HB⟩ := hrel
  cases gk with
  | zero => exact absurd HA.out (by simp [spec_voLeast.l0])
  | succ k1 =>
   have H := HA.out
   clear HA
   simp only [spec_voLeast.l0] at H
   by_cases c2 : x11_1 < (l0.length : Int)
   rotate_left
   ·rw [if_neg c2] at H
    have c2b0 : decide (x11_1 < (l0.length : Int)) = false := decide_eq_false c2
    clear c2
    replace H := Option.bind_eq_some_iff.mp H
    obtain ⟨t151, A250, H⟩ := H
    replace H : (some t151) = some r := H
    have A25 := Aside0.mk A250
    clear A250
    obtain rfl := Option.some.inj H
    obtain ⟨Ao26, co26, eo26⟩ := Kd.S_slice HO_3.out
    subst eo26
    go_wp2_with (first | ((with_reducible refine gate_callee (f := 86) rfl ?_); refine zl 45 Tryz.func86 #[.slice Ao26 x3_1.length co26] ?_; (with_reducible refine (spec_voSorted.calls k1 (fun k_ => (w.heap.size ≤ k_)) _ _ x3_1 t151 _ ?side1 A25.out).mono ?_); (case side1 => exact Kd.S_V (HO_3.out)); rintro e w27 ⟨v152, rfl, ho0, hb⟩; refine ⟨_, rfl, ?_⟩; have n0_ := Aside0.mk (Kd.S_below (by (with_reducible repeat (first | apply Kd.S_alloc | apply Kd.S_drewN | apply Kd.S_drew)); exact HO_3.out) hb); have n1_ := Aside0.mk (Kd.V_lower (Kd.V_mono (ok' := fun k_ => (w.heap.size ≤ k_)) ho0 (fun k_ hk_ => Or.elim hk_ (fun hs_ => hs_) (fun hn_ => (Nat.le_trans (below_size (zh HB.out)) hn_)))) (below_size (zh HB.out))); have n2_ := Aside0.mk (below_step (zh HB.out) hb); clear HO_3; clear HB; have HO_3 := n0_; have HO153 := n1_; have HB := n2_; clear n0_ n1_ n2_; (try clear hb); (try clear hb2); (try clear hk); (try clear hi); (try clear ho0)))
    go_ret
    exact ⟨_, by first | rfl | (simp [*, errW_none, errW_some] <;> rfl), by (with_reducible repeat (first | apply Kd.V_alloc | apply Kd.V_drewN | apply Kd.V_drew)); exact HO153.out, zh HB.out⟩
   rw [if_pos c2] at H
   have c2b0 : decide (x11_1 < (l0.length : Int)) = true := decide_eq_true c2
   clear c2
   by_cases c3 : 0 ≤ x11_1
   rotate_left
   ·rw [if_neg c3] at H
    exact absurd H (by simp)
   rw [if_pos c3] at H
   have c3b0 : decide (0 ≤ x11_1) = true := decide_eq_true c3
   clear c3
   by_cases c4 : x11_1 < (l0.length : Int)
   rotate_left
   ·rw [if_neg c4] at H
    exact absurd H (by simp)
   rw [if_pos c4] at H
   have c4b0 : decide (x11_1 < (l0.length : Int)) = true := decide_eq_true c4
   clear c4
   obtain ⟨bq5, hbq5⟩ : ∃ b_ : Bool, b_ = (rdOf false l0 x11_1) := ⟨_, rfl⟩
   replace H : (if bq5 = true then ((spec_voList.f k1 x11_1).bind fun t155 => (spec_voLeast.l1 k1 l0 x3_1 x11_1 true l0 (l0.length : Int) x11_1 t155 (t155.length : Int) 0)) else (spec_voLeast.l0 k1 l0 x3_1 l0 (l0.length : Int) (wrap64 (x11_1 + 1)))) = some r := by rw [← hbq5] at H; exact H
   have Nbq5 := Aside0.mk hbq5
   clear hbq5
   by_cases c6 : bq5 = true
   rotate_left
   ·replace c6 := Bool.eq_false_iff.mpr c6
    subst c6
    have H1 : (spec_voLeast.l0 k1 l0 x3_1 l0 (l0.length : Int) (wrap64 (x11_1 + 1))) = some r := by rw [if_neg (show ¬ (false = true) by decide)] at H; exact H
    clear H
    have H := H1
    clear H1
    have H' := Aside0.mk H
    clear H
    have p154 : 0 ≤ (x11_1 : Int) := zk
    have q154 : x11_1 < (l0.length : Int) := zk
    obtain ⟨ad154, e154, hx154_0⟩ := Kd.at_bool HR0.out x11_1 p154 q154
    (try rw [← Nbq5.out] at hx154_0)
    cases e154
    replace hx154_0 := zx HB.out hx154_0
    replace p154 := eq_true p154
    replace q154 := eq_true q154
    go_wp2
    go_roundg k1
    case measure => have := HK1.out; omega
    case rel => exact ⟨(x3_1), (wrap64 (x11_1 + 1)), (by first | rfl | (simp; done) | (simp [*]; done)), H', ⟨by have := HK1.out; omega⟩, ⟨by (with_reducible repeat (first | apply Kd.S_alloc | apply Kd.S_drewN | apply Kd.S_drew)); exact HO_3.out⟩, ⟨zh HB.out⟩⟩
   subst c6
   have H1 : ((spec_voList.f k1 x11_1).bind fun t155 => (spec_voLeast.l1 k1 l0 x3_1 x11_1 true l0 (l0.length : Int) x11_1 t155 (t155.length : Int) 0)) = some r := by rw [if_pos rfl] at H; exact H
   clear H
   have H := H1
   clear H1
   replace H := Option.bind_eq_some_iff.mp H
   obtain ⟨t155, A70, H⟩ := H
   replace H : (spec_voLeast.l1 k1 l0 x3_1 x11_1 true l0 (l0.length : Int) x11_1 t155 (t155.length : Int) 0) = some r := H
   have A7 := Aside0.mk A70
   clear A70
   have H' := Aside0.mk H
   clear H
   have p154 : 0 ≤ (x11_1 : Int) := zk
   have q154 : x11_1 < (l0.length : Int) := zk
   obtain ⟨ad154, e154, hx154_0⟩ := Kd.at_bool HR0.out x11_1 p154 q154
   (try rw [← Nbq5.out] at hx154_0)
   cases e154
   replace hx154_0 := zx HB.out hx154_0
   replace p154 := eq_true p154
   replace q154 := eq_true q154
   go_wp2_with (first | ((with_reducible refine gate_callee (f := 85) rfl ?_); refine zl 19 Tryz.func85 #[.int .i64 x11_1] ?_; (with_reducible refine (spec_voList.calls k1 x11_1 t155 _ A7.out).mono ?_); rintro e w8 ⟨v156, rfl, ho0, hb⟩; refine ⟨_, rfl, ?_⟩; have n0_ := Aside0.mk (Kd.S_elder' (by (with_reducible repeat (first | apply Kd.S_alloc | apply Kd.S_drewN | apply Kd.S_drew)); exact HO_3.out) (Kd.R_base ho0) hb); have n1_ := Aside0.mk (Kd.R_lower (Kd.R_newM (M := fun k_ => (w.heap.size ≤ k_)) ho0 (below_size (zh HB.out)) (fun k_ h_ => h_)) (below_size (zh HB.out))); have n2_ := Aside0.mk (below_step (zh HB.out) hb); clear HO_3; clear HB; have HO_3 := n0_; have HO157 := n1_; have HB := n2_; clear n0_ n1_ n2_; (try clear hb); (try clear hb2); (try clear hk); (try clear hi); (try clear ho0); obtain ⟨Ao9, co9, eo9⟩ := Kd.R_slice HO157.out; subst eo9))
   go_loopg [6, 21] k1 (fun kq v6 v21 w' => ∃ (x6_2 : Bool) (x21_2 : Int), v6 = .bool x6_2 ∧ v21 = .int .i64 x21_2 ∧ Aside0 (spec_voLeast.l1 kq l0 x3_1 x11_1 x6_2 l0 (l0.length : Int) x11_1 t155 (t155.length : Int) x21_2 = some r) ∧ Aside0 (kq ≤ k1) ∧ Aside0 (Kd.S (Kd.slice 3 (Kd.int .i64)) 36 w' w.heap.size (fun k_ => (w.heap.size ≤ k_) ∧ some k_ ≠ ((.slice Ao9 t155.length co9) : Value).ownBlock) u3 x3_1) ∧ Aside0 (Kd.R (Kd.int .i64) 3 w' w.heap.size (fun k_ => (w.heap.size ≤ k_)) (.slice Ao9 t155.length co9) t155) ∧ Aside0 (Below w.heap.size w w'))
   case atStart => exact ⟨(true), (0), (by first | rfl | (simp; done) | (simp [*]; done)), (by first | rfl | (simp; done) | (simp [*]; done)), H', ⟨Nat.le_refl _⟩, ⟨by (with_reducible repeat (first | apply Kd.S_alloc | apply Kd.S_drewN | apply Kd.S_drew)); exact HO_3.out⟩, ⟨by (with_reducible repeat (first | apply Kd.R_alloc | apply Kd.R_drewN | apply Kd.R_drew)); exact Kd.R_mono HO157.out (fun _ hk => hk.1)⟩, ⟨zh HB.out⟩⟩
   case round =>
    clear H'
    try clear c1
    try clear p1
    try clear q1
    try clear hx1
    try clear c2
    try clear c2b0
    try clear p2
    try clear c3
    try clear c3b0
    try clear c4
    try clear c4b0
    try clear q5
    try clear c6
    try clear p6
    try clear c8
    try clear hx154_0
    try clear p154
    try clear q154
    obtain ⟨x6_2, x21_2, rfl, rfl, HA, HK2, HO_3, HO_19, HB⟩ := hrel
    cases gk with
    | zero => exact absurd HA.out (by simp [spec_voLeast.l1])
    | succ k2 =>
     have H := HA.out
     clear HA
     simp only [spec_voLeast.l1] at H
     by_cases c10 : x21_2 < (t155.length : Int)
     rotate_left
     ·rw [if_neg c10] at H
      have c10b0 : decide (x21_2 < (t155.length : Int)) = false := decide_eq_false c10
      clear c10
      by_cases c19 : x6_2 = true
      rotate_left
      ·replace c19 := Bool.eq_false_iff.mpr c19
       subst c19
       have H1 : (spec_voLeast.l0 k2 l0 x3_1 l0 (l0.length : Int) (wrap64 (x11_1 + 1))) = some r := by rw [if_neg (show ¬ (false = true) by decide)] at H; exact H
       clear H
       have H := H1
       clear H1
       have H' := Aside0.mk H
       clear H
       go_wp2
       go_roundg k2
       case measure => have := HK1.out; have := HK2.out; omega
       case rel => exact ⟨(x3_1), (wrap64 (x11_1 + 1)), (by first | rfl | (simp; done) | (simp [*]; done)), H', ⟨by have := HK1.out; have := HK2.out; omega⟩, ⟨by (with_reducible repeat (first | apply Kd.S_alloc | apply Kd.S_drewN | apply Kd.S_drew)); exact Kd.S_mono HO_3.out (fun _ hk => hk.1)⟩, ⟨zh HB.out⟩⟩
      subst c19
      have H1 : ((spec_voList.f k2 x11_1).bind fun t160 => (if x3_1.length < 5864062014805 then (spec_voLeast.l0 k2 l0 (x3_1 ++ [t160]) l0 (l0.length : Int) (wrap64 (x11_1 + 1))) else (none))) = some r := by rw [if_pos rfl] at H; exact H
      clear H
      have H := H1
      clear H1
      replace H := Option.bind_eq_some_iff.mp H
      obtain ⟨t160, A200, H⟩ := H
      replace H : (if x3_1.length < 5864062014805 then (spec_voLeast.l0 k2 l0 (x3_1 ++ [t160]) l0 (l0.length : Int) (wrap64 (x11_1 + 1))) else (none)) = some r := H
      have A20 := Aside0.mk A200
      clear A200
      by_cases c21 : x3_1.length < 5864062014805
      rotate_left
      ·rw [if_neg c21] at H
       exact absurd H (by simp)
      rw [if_pos c21] at H
      have LMc21 := Aside0.mk c21
      clear c21
      obtain ⟨y163, hy163⟩ : ∃ y_ : List (List Int), y_ = (x3_1 ++ [t160]) := ⟨_, rfl⟩
      replace H : (spec_voLeast.l0 k2 l0 y163 l0 (l0.length : Int) (wrap64 (x11_1 + 1))) = some r := by first | (rw [hy163]; with_reducible exact H) | (have H2_ := (Option.bind_some _ _).symm.trans H; rw [hy163]; with_reducible exact H2_) | (have H2_ := (Option.bind_some _ _).symm.trans H; with_reducible exact H2_) | with_reducible exact H | (rw [hy163]; exact H) | exact H
      have Ny163 := Aside0.mk hy163
      clear hy163
      have H' := Aside0.mk H
      clear H
      go_wp2_with (first | ((with_reducible refine gate_callee (f := 85) rfl ?_); refine zl 40 Tryz.func85 #[.int .i64 x11_1] ?_; (with_reducible refine (spec_voList.calls k2 x11_1 t160 _ A20.out).mono ?_); rintro e w22 ⟨v161, rfl, ho0, hb⟩; refine ⟨_, rfl, ?_⟩; have n0_ := Aside0.mk (Kd.S_elder' (by (with_reducible repeat (first | apply Kd.S_alloc | apply Kd.S_drewN | apply Kd.S_drew)); exact HO_3.out) (Kd.R_base ho0) hb); have n1_ := Aside0.mk (Kd.R_elder' (zr HO_19.out) (Kd.R_base ho0) hb); have n2_ := Aside0.mk (Kd.R_lower (Kd.R_new' (Kd.R_newM (M := fun k_ => (w.heap.size ≤ k_)) ho0 (below_size (zh HB.out)) (fun k_ h_ => h_)) (Kd.R_lt (zr HO_19.out))) (below_size (zh HB.out))); have n3_ := Aside0.mk (below_step (zh HB.out) hb); clear HO_3; clear HO_19; clear HB; have HO_3 := n0_; have HO_19 := n1_; have HO162 := n2_; have HB := n3_; clear n0_ n1_ n2_ n3_; (try clear hb); (try clear hb2); (try clear hk); (try clear hi); (try clear ho0); obtain ⟨Ao24, co24, eo24⟩ := Kd.R_slice HO162.out; subst eo24) | ((with_reducible refine gate_builtin (b := .append) (xs := #[.tmp 38, .tmp 41]) rfl ?_); at_builtin; refine Kd.S_append (Kd.slice 3 (Kd.int .i64)) (w0 := w) w.heap.size rfl (.tmp 38) (.tmp 41) 44 36 (.slice none 0 0) 24 rfl Tryz.underlying44 info36 rfl (by decide) (by omega) u3 x3_1 t160 [.slice Ao24 t160.length co24] (fun k_ => (w.heap.size ≤ k_) ∧ some k_ ≠ (.slice Ao9 t155.length co9 : Value).ownBlock) (fun k_ => some k_ = (.slice Ao24 t160.length co24 : Value).ownBlock) rfl rfl ?aP (fun k_ hk_ => ((Kd.R_mono (ok' := fun k_ => ((fun k_ => (w.heap.size ≤ k_) ∧ some k_ ≠ (.slice Ao9 t155.length co9 : Value).ownBlock)) k_ ∧ some k_ ≠ (u3 : Value).ownBlock) (Kd.R_apart' (HO162.out) (Kd.S_typed HO_3.out) (by decide)) (fun k_ hk => ⟨⟨hk.1.1.1, hk.1.2⟩, hk.2⟩))).1 k_ hk_.symm) ?aF ?aO ?aB ?aS ?aL ?_; (case aP => exact Kd.M_row (Kd.R_mono (Kd.R_tight rfl (Kd.R_mono (ok' := fun k_ => ((fun k_ => (w.heap.size ≤ k_) ∧ some k_ ≠ (.slice Ao9 t155.length co9 : Value).ownBlock)) k_ ∧ some k_ ≠ (u3 : Value).ownBlock) (Kd.R_apart' (HO162.out) (Kd.S_typed HO_3.out) (by decide)) (fun k_ hk => ⟨⟨hk.1.1.1, hk.1.2⟩, hk.2⟩))) (fun _ h_ => h_))); (case aB => exact (zh HB.out)); (case aF => exact (fun k_ hk => ⟨(Nat.le_trans (below_size (zh HB.out)) hk), Kd.fresh' (Kd.R_lt (zr HO_19.out)) k_ hk⟩)); (case aO => exact (by (with_reducible repeat (first | apply Kd.S_alloc | apply Kd.S_drewN | apply Kd.S_drew)); exact Kd.S_mono HO_3.out (fun k_ hk => ⟨⟨hk.1.1, hk.1.2⟩, fun e_ => hk.2 e_⟩))); (case aS => exact (below_size (zh HB.out))); (case aL => have := LMc21.out; omega); intro v164 w23 ho hb hg hat; rw [← Ny163.out] at ho; have n0_ := Aside0.mk (Kd.R_over' (zr HO_19.out) (Kd.S_typed (by (with_reducible repeat (first | apply Kd.S_alloc | apply Kd.S_drewN | apply Kd.S_drew)); exact HO_3.out)) (by decide) hg); have n1_ := Aside0.mk (hb); have n2_ := Aside0.mk (ho); clear HO_19; clear HB; clear HO_3; clear HO162; have HO_19 := n0_; have HB := n1_; have HO165 := n2_; clear n0_ n1_ n2_; clear ho hb hg hat))
      go_roundg k2
      case measure => have := HK1.out; have := HK2.out; omega
      case rel => exact ⟨(y163), (wrap64 (x11_1 + 1)), (by first | rfl | (simp; done) | (simp [*]; done)), H', ⟨by have := HK1.out; have := HK2.out; omega⟩, ⟨by (with_reducible repeat (first | apply Kd.S_alloc | apply Kd.S_drewN | apply Kd.S_drew)); exact Kd.S_mono HO165.out (fun _ hk => hk.1)⟩, ⟨zh HB.out⟩⟩
     rw [if_pos c10] at H
     have c10b0 : decide (x21_2 < (t155.length : Int)) = true := decide_eq_true c10
     clear c10
     by_cases c11 : 0 ≤ x21_2
     rotate_left
     ·rw [if_neg c11] at H
      exact absurd H (by simp)
     rw [if_pos c11] at H
     have c11b0 : decide (0 ≤ x21_2) = true := decide_eq_true c11
     clear c11
     by_cases c12 : x21_2 < (t155.length : Int)
     rotate_left
     ·rw [if_neg c12] at H
      exact absurd H (by simp)
     rw [if_pos c12] at H
     have c12b0 : decide (x21_2 < (t155.length : Int)) = true := decide_eq_true c12
     clear c12
     by_cases c13 : x6_2 = true
     rotate_left
     ·replace c13 := Bool.eq_false_iff.mpr c13
      subst c13
      have H1 : (spec_voLeast.l1 k2 l0 x3_1 x11_1 false l0 (l0.length : Int) x11_1 t155 (t155.length : Int) (wrap64 (x21_2 + 1))) = some r := by rw [if_neg (show ¬ (false = true) by decide)] at H; exact H
      clear H
      have H := H1
      clear H1
      have H' := Aside0.mk H
      clear H
      have p158 : 0 ≤ (x21_2 : Int) := zk
      have q158 : x21_2 < (t155.length : Int) := zk
      obtain ⟨ad158, e158, hx158_0⟩ := Kd.at_int (Kd.R_reads' HO_19.out).2.2 x21_2 p158 q158
      cases e158
      replace p158 := eq_true p158
      replace q158 := eq_true q158
      go_wp2
      go_roundg k2
      case measure => have := HK1.out; have := HK2.out; omega
      case rel => exact ⟨(false), (wrap64 (x21_2 + 1)), (by first | rfl | (simp; done) | (simp [*]; done)), (by first | rfl | (simp; done) | (simp [*]; done)), H', ⟨by have := HK1.out; have := HK2.out; omega⟩, ⟨by (with_reducible repeat (first | apply Kd.S_alloc | apply Kd.S_drewN | apply Kd.S_drew)); exact HO_3.out⟩, ⟨zr HO_19.out⟩, ⟨zh HB.out⟩⟩
     subst c13
     have H1 : (if 0 ≤ (rd t155 x21_2) then (if 0 ≤ (wrap64 (x11_1 - (shl .i64 1 (rd t155 x21_2)))) then (if (wrap64 (x11_1 - (shl .i64 1 (rd t155 x21_2)))) < (l0.length : Int) then (spec_voLeast.l1 k2 l0 x3_1 x11_1 (!(rdOf false l0 (wrap64 (x11_1 - (shl .i64 1 (rd t155 x21_2)))))) l0 (l0.length : Int) x11_1 t155 (t155.length : Int) (wrap64 (x21_2 + 1))) else (none)) else (none)) else (none)) = some r := by rw [if_pos rfl] at H; exact H
     clear H
     have H := H1
     clear H1
     by_cases c14 : 0 ≤ (rd t155 x21_2)
     rotate_left
     ·rw [if_neg c14] at H
      exact absurd H (by simp)
     rw [if_pos c14] at H
     have c14b0 := eq_true c14
     have c14b1 : decide (0 ≤ (rd t155 x21_2)) = true := decide_eq_true c14
     clear c14
     obtain ⟨ji15, hji15⟩ : ∃ j_ : Int, (shl .i64 1 (rd t155 x21_2)) = j_ := ⟨_, rfl⟩
     replace H : (if 0 ≤ (wrap64 (x11_1 - (ji15))) then (if (wrap64 (x11_1 - (ji15))) < (l0.length : Int) then (spec_voLeast.l1 k2 l0 x3_1 x11_1 (!(rdOf false l0 (wrap64 (x11_1 - (ji15))))) l0 (l0.length : Int) x11_1 t155 (t155.length : Int) (wrap64 (x21_2 + 1))) else (none)) else (none)) = some r := by first | (rw [hji15] at H; exact H) | (simp only [hji15] at H ⊢; exact H)
     have hji15_ : (IntKind.i64.wrap (1 * 2 ^ min (rd t155 x21_2).toNat 64)) = ji15 := hji15
     have hji15z : (rd t155 x21_2) ≤ 64 → (IntKind.i64.wrap (1 * 2 ^ (rd t155 x21_2).toNat)) = ji15 := shl_small hji15
     have hji15u : (IntKind.i64.wrap (2 ^ min (rd t155 x21_2).toNat 64)) = ji15 := by have h_ := hji15_; rw [Int.one_mul] at h_; exact h_
     have hji15v : (rd t155 x21_2) ≤ 64 → (IntKind.i64.wrap (2 ^ (rd t155 x21_2).toNat)) = ji15 := fun hle_ => by have h_ := hji15z hle_; rw [Int.one_mul] at h_; exact h_
     have hji15y : (wrap64 (1 * 2 ^ min (rd t155 x21_2).toNat 64)) = ji15 := (i64_w _).symm.trans hji15_
     have hji15x : (rd t155 x21_2) ≤ 64 → (wrap64 (1 * 2 ^ (rd t155 x21_2).toNat)) = ji15 := fun h_ => (i64_w _).symm.trans (hji15z h_)
     obtain ⟨ji16, hji16⟩ : ∃ j_ : Int, (wrap64 (x11_1 - (ji15))) = j_ := ⟨_, rfl⟩
     replace H : (if 0 ≤ (ji16) then (if (ji16) < (l0.length : Int) then (spec_voLeast.l1 k2 l0 x3_1 x11_1 (!(rdOf false l0 (ji16))) l0 (l0.length : Int) x11_1 t155 (t155.length : Int) (wrap64 (x21_2 + 1))) else (none)) else (none)) = some r := by first | (rw [hji16] at H; exact H) | (simp only [hji16] at H ⊢; exact H)
     have hji16w : (IntKind.i64.wrap (x11_1 - (ji15))) = ji16 := (i64_w _).trans hji16
     by_cases c17 : 0 ≤ (ji16)
     rotate_left
     ·rw [if_neg c17] at H
      exact absurd H (by simp)
     rw [if_pos c17] at H
     have c17b0 : decide (0 ≤ (ji16)) = true := decide_eq_true c17
     clear c17
     by_cases c18 : (ji16) < (l0.length : Int)
     rotate_left
     ·rw [if_neg c18] at H
      exact absurd H (by simp)
     rw [if_pos c18] at H
     have c18b0 : decide ((ji16) < (l0.length : Int)) = true := decide_eq_true c18
     clear c18
     have H' := Aside0.mk H
     clear H
     have p158 : 0 ≤ (x21_2 : Int) := zk
     have q158 : x21_2 < (t155.length : Int) := zk
     obtain ⟨ad158, e158, hx158_0⟩ := Kd.at_int (Kd.R_reads' HO_19.out).2.2 x21_2 p158 q158
     cases e158
     replace p158 := eq_true p158
     replace q158 := eq_true q158
     have p159 : 0 ≤ ((ji16) : Int) := zk
     have q159 : (ji16) < (l0.length : Int) := zk
     obtain ⟨ad159, e159, hx159_0⟩ := Kd.at_bool HR0.out (ji16) p159 q159
     (try rw [← Nbq5.out] at hx159_0)
     obtain rfl : ad154 = ad159 := (by injection e159)
     replace hx159_0 := zx HB.out hx159_0
     replace p159 := eq_true p159
     replace q159 := eq_true q159
     go_wp2
     go_roundg k2
     case measure => have := HK1.out; have := HK2.out; omega
     case rel => exact ⟨(!(rdOf false l0 (ji16))), (wrap64 (x21_2 + 1)), (by first | rfl | (simp; done) | (simp only [← hji16] <;> (first | rfl | simp)) | (simp [*]; done)), (by first | rfl | (simp; done) | (simp [*]; done)), H', ⟨by have := HK1.out; have := HK2.out; omega⟩, ⟨by (with_reducible repeat (first | apply Kd.S_alloc | apply Kd.S_drewN | apply Kd.S_drew)); exact HO_3.out⟩, ⟨zr HO_19.out⟩, ⟨zh HB.out⟩⟩
def spec_gmOf.f (k : Nat) (a0 : Int) (l1 : List Bool) : Option (Int × (List (List Int))) := (spec_voLeast.f k l1).bind fun t167 => (some (a0, t167))
theorem spec_gmOf.mono : ∀ a0 a1 k, LeO (spec_gmOf.f k a0 a1) (spec_gmOf.f (k + 1) a0 a1) := by
 intro a0 a1 k
 unfold spec_gmOf.f
 repeat' first
   | (with_reducible exact spec_voLeast.mono _ _)
   | (with_reducible exact LeO.refl _)
   | (with_reducible exact LeO.none _)
   | (with_reducible refine LeO.ite ?_ ?_)
   | (with_reducible refine LeO.bind ?_ (fun _ => ?_))
   | exact spec_voLeast.mono _ _
   | exact LeO.none _
   | refine LeO.ite ?_ ?_
   | refine LeO.bind ?_ (fun _ => ?_)
set_option maxHeartbeats 8000000 in
set_option maxRecDepth 100000 in
theorem spec_gmOf.calls (k : Nat) (a0 : Int) (A1 : Option Addr) (c1 : Nat) (l1 : List Bool) (r1 : Int) (r2 : List (List Int)) (w : World) (hr1 : Kd.C Kd.bool w A1 l1.length l1) (hc1 : l1.length ≤ c1) (h : spec_gmOf.f k a0 l1 = some (r1, r2)) :
  Calls Tryz.prog 94 #[.int .i64 a0, .slice A1 l1.length c1] w fun e w' => ∃ v1_ : Value, e = .returned (.agg #[.int .i64 r1, v1_]) ∧ Kd.V (Kd.slice 3 (Kd.int .i64)) 36 w' w.heap.size (fun k_ => (w.heap.size ≤ k_)) v1_ r2 ∧ Below w.heap.size w w' := by
 have hu46 := Tryz.underlying46
 have HR1 := Aside0.mk hr1
 have HC1 := Aside0.mk hc1
 clear hr1 hc1
 have HB := Aside0.mk (Below.refl w.heap.size w)
 have H : ((spec_voLeast.f k l1).bind fun t167 => (some (a0, t167))) = some (r1, r2) := h
 clear h
 replace H := Option.bind_eq_some_iff.mp H
 obtain ⟨t167, A30, H⟩ := H
 replace H : (some (a0, t167)) = some (r1, r2) := H
 have A3 := Aside0.mk A30
 clear A30
 simp only [Option.some.injEq, Prod.mk.injEq] at H
 obtain ⟨rfl, rfl⟩ := H
 go_enter Tryz.func94, Tryz.ntmps94
 go_wp2_with (first | ((with_reducible refine gate_dst (N := 4) rfl ?_); refine zq 4 #[.int .i64 0, .slice none 0 0] 46 ?_; intro gb166 hg w4 hbox hb; have n2_ := Aside0.mk ((by rw [hg]; exact (below_size (zh HB.out)) : w.heap.size ≤ gb166)); replace HB := Aside0.mk (below_step (zh HB.out) hb); have BK166 := Aside0.mk hbox; have GW166 := n2_; have GE166 := n2_; clear n2_ hb hbox hg) | ((with_reducible refine gate_callee (f := 119) rfl ?_); refine zl 7 Tryz.func119 #[.slice A1 l1.length c1] ?_; (with_reducible refine (spec_voLeast.calls k _ _ l1 t167 _ ?side1 ?side2 A3.out).mono ?_); (case side1 => repeat (first | exact (Kd.C_below HR1.out HB.out) | (with_reducible refine Kd.C_alloc ?_ _) | (with_reducible refine Kd.C_drewN ?_ _) | (with_reducible refine Kd.C_drew ?_))); (case side2 => exact HC1.out); rintro e w5 ⟨v168, rfl, ho0, hb⟩; refine ⟨_, rfl, ?_⟩; have n0_ := Aside0.mk (Kd.V_lower (Kd.V_mono (ok' := fun k_ => (w.heap.size ≤ k_) ∧ k_ ≠ gb166) ho0 (fun k_ hk_ => ⟨(Nat.le_trans (below_size (zh HB.out)) hk_), (Kd.freshB (g := gb166) (o := .cells #[.int .i64 0, .slice none 0 0] 46 (0, 0)) (zb BK166.out) k_ hk_)⟩)) (below_size (zh HB.out))); have n1_ := Aside0.mk (blk_below (g := gb166) (o := .cells #[.int .i64 0, .slice none 0 0] 46 (0, 0)) (zb BK166.out) hb); have n2_ := Aside0.mk (below_step (zh HB.out) hb); clear BK166; clear HB; have HO169 := n0_; have BK166 := n1_; have HB := n2_; clear n0_ n1_ n2_; (try clear hb); (try clear hb2); (try clear hk); (try clear hi); (try clear ho0); obtain ⟨Ao6, co6, eo6⟩ := Kd.V_slice HO169.out; subst eo6; have hcz7_0 : w5.cell? ⟨gb166, 0, none⟩ = some (.int .i64 0) := (blk_cell BK166.out 0).trans rfl; have hcz7_1 : w5.cell? ⟨gb166, 1, none⟩ = some (.slice none 0 0) := (blk_cell BK166.out 1).trans rfl; have hfz7_0 := blk_frozen BK166.out 0; have hfz7_1 := blk_frozen BK166.out 1))
 refine bodyPost_ret (results_cell_row rfl _ _ gb166 46 #[.int .i64 a0, .slice Ao6 t167.length co6] (0, 0) _ rfl (by (with_reducible repeat (first | refine blk_drewN ?_ _ | refine blk_drew ?_ | refine blk_alloc ?_ _)); refine blk_put (cs := #[.int .i64 a0, .slice none 0 0]) ?_ 1 _ rfl; (with_reducible repeat (first | refine blk_drewN ?_ _ | refine blk_drew ?_ | refine blk_alloc ?_ _)); refine blk_put (cs := #[.int .i64 0, .slice none 0 0]) ?_ 0 _ rfl; (with_reducible repeat (first | refine blk_drewN ?_ _ | refine blk_drew ?_ | refine blk_alloc ?_ _)); exact BK166.out) Tryz.underlying46 rfl (by kernel_rfl)) rfl ?_
 exact ⟨_, by first | rfl | (simp [*, errW_none, errW_some] <;> rfl), by (with_reducible repeat (first | apply Kd.V_alloc | apply Kd.V_drewN | apply Kd.V_drew)); exact Kd.V_mono (Kd.V_far (p := ⟨gb166, 1, none⟩) (Kd.V_far (p := ⟨gb166, 0, none⟩) (Kd.V_mono HO169.out (fun k_ hk => (⟨hk, hk.2⟩ : _ ∧ k_ ≠ gb166))) (fun _ hk => hk.2) (.int .i64 a0)) (fun _ hk => hk.2) (.slice Ao6 t167.length co6)) (fun _ hk => hk.1.1), zh HB.out⟩
section
variable (a1 : Int → Option Bool)
def impl_votes_sets.l0 : Nat → List (List Int) → Int → Int → Option ((List (List Int)))
 | 0, _, _, _ => none
 | k + 1, x5, x10, x11 => if x11 < x10 then ((a1 x11).bind fun t250 => (if t250 = true then ((impl_setOf.f k x11).bind fun t251 => (if x5.length < 5864062014805 then (impl_votes_sets.l0 k (x5 ++ [t251]) x10 (wrap64 (x11 + 1))) else (none))) else (impl_votes_sets.l0 k x5 x10 (wrap64 (x11 + 1))))) else ((sortSets.f x5).bind fun t_ => (some t_))
def impl_votes_sets.f (k : Nat) (a0_0 : Int) (l0_1 : List Bool) (a1 : Int → Option Bool) : Option ((List (List Int))) := impl_votes_sets.l0 a1 k (([] : List (List Int))) (l0_1.length : Int) 0
theorem impl_votes_sets.mono_l : ∀ k, (∀ y0 y1 y2, LeO (impl_votes_sets.l0 a1 k y0 y1 y2) (impl_votes_sets.l0 a1 (k + 1) y0 y1 y2))
 | 0 => fun _ _ _ r h => by simp [impl_votes_sets.l0] at h
 | k + 1 => by
  have ih0 := impl_votes_sets.mono_l k
  ·intro y0 y1 y2
   unfold impl_votes_sets.l0
   repeat' first
   | (with_reducible exact ih0 _ _ _)
   | (with_reducible exact impl_setOf.mono _ _)
   | (with_reducible exact LeO.refl _)
   | (with_reducible exact LeO.none _)
   | (with_reducible refine LeO.ite ?_ ?_)
   | (with_reducible refine LeO.bind ?_ (fun _ => ?_))
   | exact ih0 _ _ _
   | exact impl_setOf.mono _ _
   | exact LeO.none _
   | refine LeO.ite ?_ ?_
   | refine LeO.bind ?_ (fun _ => ?_)
theorem impl_votes_sets.mono : ∀ a0 a1 a2 k, LeO (impl_votes_sets.f k a0 a1 a2) (impl_votes_sets.f (k + 1) a0 a1 a2) := by
 intro a0 a1 a2 k
 have ih0 := impl_votes_sets.mono_l a2 k
 unfold impl_votes_sets.f
 repeat' first
   | (with_reducible exact ih0 _ _ _)
   | (with_reducible exact impl_setOf.mono _ _)
   | (with_reducible exact LeO.refl _)
   | (with_reducible exact LeO.none _)
   | (with_reducible refine LeO.ite ?_ ?_)
   | (with_reducible refine LeO.bind ?_ (fun _ => ?_))
   | exact ih0 _ _ _
   | exact impl_setOf.mono _ _
   | exact LeO.none _
   | refine LeO.ite ?_ ?_
   | refine LeO.bind ?_ (fun _ => ?_)
set_option maxHeartbeats 8000000 in
set_option maxRecDepth 100000 in
theorem impl_votes_sets.calls (k : Nat) (a0_0 : Int) (A0_1 : Option Addr) (c0_1 : Nat) (l0_1 : List Bool) (a1 : Int → Option Bool) (g_ : Nat) (fa_ lb_ : Array Value) (eg_ : ∀ args w, (callFunc g_ args).run Tryz.prog w = .ok (.enter g_ args) w) (r : List (List Int)) (w : World) (hp0_ : PredI Tryz.prog g_ fa_ lb_ w a1) (hr0_1 : Kd.C Kd.bool w A0_1 l0_1.length l0_1) (hc0_1 : l0_1.length ≤ c0_1) (h : impl_votes_sets.f k a0_0 l0_1 a1 = some r) :
  Calls Tryz.prog 87 #[.agg #[.int .i64 a0_0, .slice A0_1 l0_1.length c0_1], .func (.func g_) fa_ lb_] w fun e w' => ∃ v0_ : Value, e = .returned (v0_) ∧ Kd.S (Kd.slice 3 (Kd.int .i64)) 36 w' w.heap.size (fun _ => True) v0_ r ∧ Below w.heap.size w w' := by
 have hp_ := Aside0.mk hp0_
 clear hp0_
 have hu86 := Tryz.underlying86
 have HR0_1 := Aside0.mk hr0_1
 have HC0_1 := Aside0.mk hc0_1
 clear hr0_1 hc0_1
 have HB := Aside0.mk (Below.refl w.heap.size w)
 have H : (impl_votes_sets.l0 a1 k (([] : List (List Int))) (l0_1.length : Int) 0) = some r := h
 clear h
 obtain ⟨y247, hy247⟩ : ∃ y_ : List (List Int), y_ = (([] : List (List Int))) := ⟨_, rfl⟩
 replace H : (impl_votes_sets.l0 a1 k y247 (l0_1.length : Int) 0) = some r := by first | (rw [hy247]; with_reducible exact H) | (have H2_ := (Option.bind_some _ _).symm.trans H; rw [hy247]; with_reducible exact H2_) | (have H2_ := (Option.bind_some _ _).symm.trans H; with_reducible exact H2_) | with_reducible exact H | (rw [hy247]; exact H) | exact H
 have Ny247 := Aside0.mk hy247
 clear hy247
 have H' := Aside0.mk H
 clear H
 go_enter Tryz.func87, Tryz.ntmps87
 go_wp2_with (first | ((with_reducible refine gate_dst (N := 2) rfl ?_); refine zq 2 #[.int .i64 a0_0, .slice A0_1 l0_1.length c0_1] 86 ?_; intro gb246 hg w3 hbox hb; have n2_ := Aside0.mk ((by rw [hg]; exact (below_size (zh HB.out)) : w.heap.size ≤ gb246)); replace HB := Aside0.mk (below_step (zh HB.out) hb); have BK246 := Aside0.mk hbox; have GW246 := n2_; have GE246 := n2_; clear n2_ hb hbox hg) | ((with_reducible refine gate_dst (N := 7) rfl ?_); refine Kd.S_lit (Kd.slice 3 (Kd.int .i64)) _ 36 ?hg (N := 7) ?hd (xs := ([] : List (List Int))) (inner := []) (ok := fun _ => True) (okp := fun _ => True) ?hr ?hp (fun _ hk => hk) trivial (Below.refl _ _) (Nat.le_refl _) (by simp) ?_; (case hd => rfl); (case hg => rfl); (case hr => first | (go_simp; done) | (go_simp; rfl)); (case hp => exact (Reps.none _ _)); intro v248 w4 ho5 hb hg_ hnew_; clear hg_ hnew_; (first | rw [← Ny247.out] at ho5 | (simp only [Int.reduceToNat] at ho5; rw [← Ny247.out] at ho5)); have n0_ := Aside0.mk (Kd.S_lower ho5 (below_size (zh HB.out))); have n1_ := Aside0.mk (blk_below (g := gb246) (o := .cells #[.int .i64 a0_0, .slice A0_1 l0_1.length c0_1] 86 (0, 0)) (zb BK246.out) hb); have n2_ := Aside0.mk (below_step (zh HB.out) hb); clear BK246; clear HB; have HO249 := n0_; have BK246 := n1_; have HB := n2_; clear n0_ n1_ n2_; clear hb ho5; have hcz6_0 : w4.cell? ⟨gb246, 0, none⟩ = some (.int .i64 a0_0) := (blk_cell BK246.out 0).trans rfl; have hcz6_1 : w4.cell? ⟨gb246, 1, none⟩ = some (.slice A0_1 l0_1.length c0_1) := (blk_cell BK246.out 1).trans rfl; have hfz6_0 := blk_frozen BK246.out 0; have hfz6_1 := blk_frozen BK246.out 1))
 go_loopg [5, 11] k (fun kq v5 v11 w' => ∃ (x5_1 : List (List Int)) (x11_1 : Int), v11 = .int .i64 x11_1 ∧ Aside0 (impl_votes_sets.l0 a1 kq x5_1 (l0_1.length : Int) x11_1 = some r) ∧ Aside0 (kq ≤ k) ∧ Aside0 (Kd.S (Kd.slice 3 (Kd.int .i64)) 36 w' w.heap.size (fun _ => True) v5 x5_1) ∧ Aside0 (w'.heap[gb246]? = some (.cells #[.int .i64 a0_0, (.slice A0_1 l0_1.length c0_1)] 86 (0, 0))) ∧ Aside0 (Below w.heap.size w w'))
 case atStart => exact ⟨(y247), (0), (by first | rfl | (simp; done) | (simp [*]; done)), H', ⟨Nat.le_refl _⟩, ⟨by (with_reducible repeat (first | apply Kd.S_alloc | apply Kd.S_drewN | apply Kd.S_drew)); exact HO249.out⟩, ⟨zb BK246.out⟩, ⟨zh HB.out⟩⟩
 case round =>
  clear H'
  try clear p2
  try clear hcz6_0
  try clear hcz6_1
  try clear hfz6_0
  try clear hfz6_1
  obtain ⟨x5_1, x11_1, rfl, HA, HK1, HO_5, BK246, HB⟩ := hrel
  cases gk with
  | zero => exact absurd HA.out (by simp [impl_votes_sets.l0])
  | succ k1 =>
   have H := HA.out
   clear HA
   simp only [impl_votes_sets.l0] at H
   by_cases c7 : x11_1 < (l0_1.length : Int)
   ·rw [if_pos c7] at H
    have c7b0 : decide (x11_1 < (l0_1.length : Int)) = true := decide_eq_true c7
    clear c7
    replace H := Option.bind_eq_some_iff.mp H
    obtain ⟨t250, A80, H⟩ := H
    replace H : (if t250 = true then ((impl_setOf.f k1 x11_1).bind fun t251 => (if x5_1.length < 5864062014805 then (impl_votes_sets.l0 a1 k1 (x5_1 ++ [t251]) (l0_1.length : Int) (wrap64 (x11_1 + 1))) else (none))) else (impl_votes_sets.l0 a1 k1 x5_1 (l0_1.length : Int) (wrap64 (x11_1 + 1)))) = some r := H
    have A8 := Aside0.mk A80
    clear A80
    by_cases c9 : t250 = true
    ·subst c9
     have H1 : ((impl_setOf.f k1 x11_1).bind fun t251 => (if x5_1.length < 5864062014805 then (impl_votes_sets.l0 a1 k1 (x5_1 ++ [t251]) (l0_1.length : Int) (wrap64 (x11_1 + 1))) else (none))) = some r := by rw [if_pos rfl] at H; exact H
     clear H
     have H := H1
     clear H1
     replace H := Option.bind_eq_some_iff.mp H
     obtain ⟨t251, A100, H⟩ := H
     replace H : (if x5_1.length < 5864062014805 then (impl_votes_sets.l0 a1 k1 (x5_1 ++ [t251]) (l0_1.length : Int) (wrap64 (x11_1 + 1))) else (none)) = some r := H
     have A10 := Aside0.mk A100
     clear A100
     by_cases c11 : x5_1.length < 5864062014805
     ·rw [if_pos c11] at H
      have LMc11 := Aside0.mk c11
      clear c11
      obtain ⟨y254, hy254⟩ : ∃ y_ : List (List Int), y_ = (x5_1 ++ [t251]) := ⟨_, rfl⟩
      replace H : (impl_votes_sets.l0 a1 k1 y254 (l0_1.length : Int) (wrap64 (x11_1 + 1))) = some r := by first | (rw [hy254]; with_reducible exact H) | (have H2_ := (Option.bind_some _ _).symm.trans H; rw [hy254]; with_reducible exact H2_) | (have H2_ := (Option.bind_some _ _).symm.trans H; with_reducible exact H2_) | with_reducible exact H | (rw [hy254]; exact H) | exact H
      have Ny254 := Aside0.mk hy254
      clear hy254
      have H' := Aside0.mk H
      clear H
      go_wp2_with (first | ((with_reducible refine gate_dst (N := 16) rfl ?_); refine goesLF_ (some 16) rfl rfl eg_ (by rfl) #[.int .i64 x11_1] rfl (by (try simp only [List.map_toArray, List.map_cons, List.map_nil]); first | done | rfl | (simp only [List.length_drop, List.length_take]; rfl)) ?_; (with_reducible refine (hp_.out _ x11_1 true (zh HB.out) A8.out).mono ?_); rintro e w12 ⟨rfl, hb⟩; refine ⟨_, rfl, ?_⟩; have n0_ := Aside0.mk (Kd.S_below (by (with_reducible repeat (first | apply Kd.S_alloc | apply Kd.S_drewN | apply Kd.S_drew)); exact HO_5.out) hb); have n1_ := Aside0.mk (blk_below (g := gb246) (o := .cells #[.int .i64 a0_0, .slice A0_1 l0_1.length c0_1] 86 (0, 0)) (zb BK246.out) hb); have n2_ := Aside0.mk (below_step (zh HB.out) hb); clear HO_5; clear BK246; clear HB; have HO_5 := n0_; have BK246 := n1_; have HB := n2_; clear n0_ n1_ n2_; (try clear hb); (try clear hb2); (try clear hk); (try clear hi)) | ((with_reducible refine gate_callee (f := 114) rfl ?_); refine zl 19 Tryz.func114 #[.int .i64 x11_1] ?_; (with_reducible refine (impl_setOf.calls k1 x11_1 t251 _ A10.out).mono ?_); rintro e w13 ⟨v252, rfl, ho0, hb⟩; refine ⟨_, rfl, ?_⟩; have n0_ := Aside0.mk (Kd.S_elder' (by (with_reducible repeat (first | apply Kd.S_alloc | apply Kd.S_drewN | apply Kd.S_drew)); exact HO_5.out) (Kd.R_base ho0) hb); have n1_ := Aside0.mk (Kd.R_lower ho0 (below_size (zh HB.out))); have n2_ := Aside0.mk (blk_below (g := gb246) (o := .cells #[.int .i64 a0_0, .slice A0_1 l0_1.length c0_1] 86 (0, 0)) (zb BK246.out) hb); have n3_ := Aside0.mk (below_step (zh HB.out) hb); clear HO_5; clear BK246; clear HB; have HO_5 := n0_; have HO253 := n1_; have BK246 := n2_; have HB := n3_; clear n0_ n1_ n2_ n3_; (try clear hb); (try clear hb2); (try clear hk); (try clear hi); (try clear ho0); obtain ⟨Ao15, co15, eo15⟩ := Kd.R_slice HO253.out; subst eo15) | ((with_reducible refine gate_builtin (b := .append) (xs := #[.tmp 17, .tmp 20]) rfl ?_); at_builtin; refine Kd.S_append (Kd.slice 3 (Kd.int .i64)) (w0 := w) w.heap.size rfl (.tmp 17) (.tmp 20) 44 36 (.slice none 0 0) 24 rfl Tryz.underlying44 info36 rfl (by decide) (by omega) u5 x5_1 t251 [.slice Ao15 t251.length co15] (fun _ => True) (fun k_ => some k_ = (.slice Ao15 t251.length co15 : Value).ownBlock) rfl rfl ?aP (fun k_ hk_ => ((Kd.R_mono (ok' := fun k_ => ((fun _ => True)) k_ ∧ some k_ ≠ (u5 : Value).ownBlock) (Kd.R_apart' (HO253.out) (Kd.S_typed HO_5.out) (by decide)) (fun k_ hk => ⟨trivial, hk.2⟩))).1 k_ hk_.symm) ?aF ?aO ?aB ?aS ?aL ?_; (case aP => exact Kd.M_row (Kd.R_mono (Kd.R_tight rfl (Kd.R_mono (ok' := fun k_ => ((fun _ => True)) k_ ∧ some k_ ≠ (u5 : Value).ownBlock) (Kd.R_apart' (HO253.out) (Kd.S_typed HO_5.out) (by decide)) (fun k_ hk => ⟨trivial, hk.2⟩))) (fun _ h_ => h_))); (case aB => exact (zh HB.out)); (case aF => exact (fun _ _ => trivial)); (case aO => exact (by (with_reducible repeat (first | apply Kd.S_alloc | apply Kd.S_drewN | apply Kd.S_drew)); exact Kd.S_mono HO_5.out (fun k_ hk => ⟨trivial, fun e_ => hk.2 e_⟩))); (case aS => exact (below_size (zh HB.out))); (case aL => have := LMc11.out; omega); intro v255 w14 ho hb hg hat; rw [← Ny254.out] at ho; have n0_ := Aside0.mk (blk_grown (g := gb246) (o := .cells #[.int .i64 a0_0, .slice A0_1 l0_1.length c0_1] 86 (0, 0)) (zb BK246.out) hg (Kd.S_ne HO_5.out BK246.out (by decide))); have n1_ := Aside0.mk (hb); have n2_ := Aside0.mk (ho); clear BK246; clear HB; clear HO_5; clear HO253; have BK246 := n0_; have HB := n1_; have HO256 := n2_; clear n0_ n1_ n2_; clear ho hb hg hat))
      go_roundg k1
      case measure => have := HK1.out; omega
      case rel => exact ⟨(y254), (wrap64 (x11_1 + 1)), (by first | rfl | (simp; done) | (simp [*]; done)), H', ⟨by have := HK1.out; omega⟩, ⟨by (with_reducible repeat (first | apply Kd.S_alloc | apply Kd.S_drewN | apply Kd.S_drew)); exact HO256.out⟩, ⟨zb BK246.out⟩, ⟨zh HB.out⟩⟩
     ·rw [if_neg c11] at H
      exact absurd H (by simp)
    ·replace c9 := Bool.eq_false_iff.mpr c9
     subst c9
     have H1 : (impl_votes_sets.l0 a1 k1 x5_1 (l0_1.length : Int) (wrap64 (x11_1 + 1))) = some r := by rw [if_neg (show ¬ (false = true) by decide)] at H; exact H
     clear H
     have H := H1
     clear H1
     have H' := Aside0.mk H
     clear H
     go_wp2_with (first | ((with_reducible refine gate_dst (N := 16) rfl ?_); refine goesLF_ (some 16) rfl rfl eg_ (by rfl) #[.int .i64 x11_1] rfl (by (try simp only [List.map_toArray, List.map_cons, List.map_nil]); first | done | rfl | (simp only [List.length_drop, List.length_take]; rfl)) ?_; (with_reducible refine (hp_.out _ x11_1 false (zh HB.out) A8.out).mono ?_); rintro e w16 ⟨rfl, hb⟩; refine ⟨_, rfl, ?_⟩; have n0_ := Aside0.mk (Kd.S_below (by (with_reducible repeat (first | apply Kd.S_alloc | apply Kd.S_drewN | apply Kd.S_drew)); exact HO_5.out) hb); have n1_ := Aside0.mk (blk_below (g := gb246) (o := .cells #[.int .i64 a0_0, .slice A0_1 l0_1.length c0_1] 86 (0, 0)) (zb BK246.out) hb); have n2_ := Aside0.mk (below_step (zh HB.out) hb); clear HO_5; clear BK246; clear HB; have HO_5 := n0_; have BK246 := n1_; have HB := n2_; clear n0_ n1_ n2_; (try clear hb); (try clear hb2); (try clear hk); (try clear hi)))
     go_roundg k1
     case measure => have := HK1.out; omega
     case rel => exact ⟨(x5_1), (wrap64 (x11_1 + 1)), (by first | rfl | (simp; done) | (simp [*]; done)), H', ⟨by have := HK1.out; omega⟩, ⟨by (with_reducible repeat (first | apply Kd.S_alloc | apply Kd.S_drewN | apply Kd.S_drew)); exact HO_5.out⟩, ⟨zb BK246.out⟩, ⟨zh HB.out⟩⟩
   ·rw [if_neg c7] at H
    have c7b0 : decide (x11_1 < (l0_1.length : Int)) = false := decide_eq_false c7
    clear c7
    replace H := Option.bind_eq_some_iff.mp H
    obtain ⟨t_, A170, H⟩ := H
    replace H : (some t_) = some r := H
    have A17 := Aside0.mk A170
    clear A170
    obtain rfl := Option.some.inj H
    obtain ⟨Ao18, co18, eo18⟩ := Kd.S_slice HO_5.out
    subst eo18
    go_wp2_with (first | ((with_reducible refine gate_callee (f := 115) rfl ?_); refine zl 24 Tryz.func115 #[.slice Ao18 x5_1.length co18, .func (.func 116) #[] #[]] ?_; refine (sortSets.calls x5_1 t_ _ _ w.heap.size (fun _ => True) _ ?side1 A17.out).mono ?_; (case side1 => exact (by (with_reducible repeat (first | apply Kd.S_alloc | apply Kd.S_drewN | apply Kd.S_drew)); exact HO_5.out)); rintro e w' ⟨rfl, hs_, hl_, hg_⟩; refine ⟨_, rfl, ?_⟩; have n0_ := Aside0.mk hs_; have hB_ := ((zh HB.out) : Below w.heap.size w _); have n2_ := Aside0.mk (Below.grown hB_ hg_ (below_size hB_) (Kd.S_base HO_5.out)); clear HO_5; clear HB; have HO_5 := n0_; have HB := n2_; clear n0_ n2_ hs_ hl_ hg_ hB_))
    go_ret
    exact ⟨_, by first | rfl | (simp [*, errW_none, errW_some] <;> rfl), by (with_reducible repeat (first | apply Kd.S_alloc | apply Kd.S_drewN | apply Kd.S_drew)); exact HO_5.out, zh HB.out⟩
end
end Go.Proofs.YtgjakcpbfbfejaaGreat.Q
end
section
namespace Go.Proofs.YtgjakcpbfbfejaaGreat.Q
open Go.RowKit Go.Proofs.YtgjakcpbfbfejaaGreatW.PrintWords Go.Proofs.YtgjakcpbfbfejaaGreatW.PrintLast Go.Proofs.YtgjakcpbfbfejaaGreatW.PrintMore
set_option linter.unusedVariables false
set_option linter.unusedSimpArgs false
def fitsO (k : Nat) (t : List Bool) : List S72 → Option Bool
  | [] => some true
  | x :: xs => (spec_pzFits.f k x.f0 x.f1 x.f2 t).bind fun b => if b = true then fitsO k t xs else some false
def mustO (p : List Bool) : List Int → Bool → Option Bool
  | [], m => some m
  | i :: s, m => if m = true then mustO p s true else if 0 ≤ i then (if 0 ≤ wrap64 ((p.length : Int) - shl .i64 1 i) ∧ wrap64 ((p.length : Int) - shl .i64 1 i) < (p.length : Int) then mustO p s (rdOf false p (wrap64 ((p.length : Int) - shl .i64 1 i))) else none) else none
def spec_pzLook.f (k : Nat) (n : Int) (l : List S72) : Nat → List Bool → Option (List S46)
  | 0, p => if rdOf false p ((p.length - 1 : Nat) : Int) = false then some [] else if rdOf false p 0 = true then some [] else (fitsO k p l).bind fun b => if b = true then (spec_gmOf.f k n p).bind fun g => some [⟨g.1, g.2⟩] else some []
  | d + 1, p => (spec_voList.f k (p.length : Int)).bind fun s => (mustO p s false).bind fun m => (spec_pzLook.f k n l d (p ++ [true])).bind fun l1 => if m = true then some l1 else (spec_pzLook.f k n l d (p ++ [false])).bind fun l2 => some (l1 ++ l2)
theorem rdN {xs : List Bool} {i : Nat} (h : i < xs.length) : rdOf false xs (i : Int) = xs[i] := by
  unfold rdOf
  rw [Int.toNat_natCast, List.getD_eq_getElem?_getD, List.getElem?_eq_getElem h]; rfl
theorem C_bools {w : World} {g e : Nat} {ws : List Bool} (hb : w.heap[g]? = some (.cells (ws.map Value.bool).toArray e (0, 0))) (hm : ws.length ≤ 65536) : Kd.C Kd.bool w (some ⟨g, 0, none⟩) ws.length ws := by
  refine ⟨rfl, Nat.le_trans hm (by decide), fun _ => ⟨_, rfl, fun j p hj => ⟨[.bool p], rfl, rfl, fun i u hu => ?_⟩⟩⟩
  cases i with
  | zero =>
    have : Value.bool p = u := by simpa using hu
    subst this
    rw [add_at, show (0 : Nat) + (j * Kd.bool.sz + 0) = j from by show 0 + (j * 1 + 0) = j; omega, blk_cell hb, List.getElem?_toArray, List.getElem?_map, hj]; rfl
  | succ i => simp at hu
structure LookSt (gw go : Nat) (w0 w : World) (ws : List Bool) (v : Value) (gs : List S46) : Prop where
  N : Kd.N k46 46 w w0.heap.size (fun z => w0.heap.size ≤ z ∧ z ≠ gw ∧ z ≠ go) v gs
  O : w.heap[go]? = some (.cells #[v] 51 (0, 0))
  W : w.heap[gw]? = some (.cells (ws.map Value.bool).toArray 4 (0, 0))
  B : Below w0.heap.size w0 w
section
variable {gw go : Nat} {w0 w w1 : World} {ws : List Bool} {v : Value} {gs : List S46}
theorem LookSt.below (h : LookSt gw go w0 w ws v gs) (hb : Below w.heap.size w w1) : LookSt gw go w0 w1 ws v gs :=
  ⟨Kd.N_below h.N hb, blk_below h.O hb, blk_below h.W hb, h.B.trans (hb.mono h.B.size)⟩
theorem LookSt.alloc (h : LookSt gw go w0 w ws v gs) (o : Obj) : LookSt gw go w0 (w.alloc o) ws v gs := h.below ((Below.refl _ _).alloc (Nat.le_refl _) o)
theorem LookSt.put (h : LookSt gw go w0 w ws v gs) (hne : gw ≠ go) (hbw : w0.heap.size ≤ gw) (i : Nat) (b : Bool) : LookSt gw go w0 (w.setCell ⟨gw, i, none⟩ (.bool b)) (ws.set i b) v gs :=
  ⟨Kd.N_far h.N (fun _ hk => hk.2.1) _, blk_far h.O (Ne.symm hne) _, blk_put h.W i _ (by simp), below_set h.B hbw⟩
end
theorem fitsO_drop {k : Nat} {p : List Bool} {l : List S72} {i : Nat} (h : i < l.length) : fitsO k p (l.drop i) = (spec_pzFits.f k (rd_T72 l (i : Int)).f0 (rd_T72 l (i : Int)).f1 (rd_T72 l (i : Int)).f2 p).bind fun b => if b = true then fitsO k p (l.drop (i + 1)) else some false := by
  rw [List.drop_eq_getElem_cons h]
  have : rd_T72 l (i : Int) = l[i] := by unfold rd_T72; rw [Int.toNat_natCast, List.getD_eq_getElem?_getD, List.getElem?_eq_getElem h]; rfl
  rw [this]; rfl
set_option maxHeartbeats 4000000 in
set_option maxRecDepth 100000 in
theorem pzLook_end (k : Nat) (n : Int) (A : Option Addr) (c : Nat) (l : List S72) (gw go : Nat) (w0 : World) (hC : Kd.C k72 w0 A l.length l) (hc : l.length ≤ c) (hne : gw ≠ go) (hbw : w0.heap.size ≤ gw) (hbo : w0.heap.size ≤ go)
    (p : List Bool) (N q : Nat) (hp : p.length = N) (hq : N = q + 1) (hN : N ≤ 65536) (gs r : List S46) (v : Value) (w : World) (hr : gs.length + r.length ≤ 1000000) (h : spec_pzLook.f k n l 0 p = some r) (hS : LookSt gw go w0 w p v gs) :
    Calls Tryz.prog 69 #[.slice (some ⟨gw, 0, none⟩) N N, .int .i64 N, .int .i64 n, .slice A l.length c, .pointer (some ⟨go, 0, none⟩)] w fun e w' => e = .returned (.tuple #[]) ∧ ∃ v', LookSt gw go w0 w' p v' (gs ++ r) := by
  have hlm := Kd.C_max hC
  have h1 : wrap64 ((N : Int) - 1) = (q : Int) := by unfold wrap64; omega
  have hqN : (q : Int) < (N : Int) := by omega
  have h0N : (0 : Int) < (N : Int) := by omega
  have hql : q < p.length := by omega
  have h0l : 0 < p.length := by omega
  have hxq : w.cell? ⟨gw, N - 1, none⟩ = some (.bool p[q]) := by rw [show N - 1 = q by omega, blk_cell hS.W, List.getElem?_toArray, List.getElem?_map, List.getElem?_eq_getElem hql]; rfl
  have hx0 : w.cell? ⟨gw, 0, none⟩ = some (.bool p[0]) := by rw [blk_cell hS.W, List.getElem?_toArray, List.getElem?_map, List.getElem?_eq_getElem h0l]; rfl
  unfold spec_pzLook.f at h
  rw [hp, show N - 1 = q by omega, rdN hql, show (0 : Int) = ((0 : Nat) : Int) from rfl, rdN h0l] at h
  generalize p[q] = b1 at h hxq
  generalize p[0] = b0 at h hx0
  have HS := Aside0.mk hS
  have HH := Aside0.mk h
  have HC := Aside0.mk hC
  have HP := Aside0.mk hp
  clear hS h hC hq hql h0l hp
  cases b1
  case false =>
    have := HH.out
    rw [if_pos rfl] at this
    obtain rfl := Option.some.inj this
    clear this
    go_enter Tryz.func69, Tryz.ntmps69
    go_wp2
    (try simp only [Exit.inBlock, Exit.then]); refine bodyPost_ret (results_none rfl _ _ _) rfl ?_
    exact ⟨rfl, v, by first | exact HS.out | (rw [List.append_nil]; exact HS.out)⟩
  cases b0
  case true =>
    have := HH.out
    rw [if_neg (by decide), if_pos rfl] at this
    obtain rfl := Option.some.inj this
    clear this
    go_enter Tryz.func69, Tryz.ntmps69
    go_wp2
    (try simp only [Exit.inBlock, Exit.then]); refine bodyPost_ret (results_none rfl _ _ _) rfl ?_
    exact ⟨rfl, v, by first | exact HS.out | (rw [List.append_nil]; exact HS.out)⟩
  have h := HH.out
  clear HH
  rw [if_neg (by decide), if_neg (by decide)] at h
  obtain ⟨t, ht, h⟩ := Option.bind_eq_some_iff.mp h
  have HT := Aside0.mk ht
  have HH := Aside0.mk h
  clear h ht
  go_enter Tryz.func69, Tryz.ntmps69
  go_wp2
  go_loopg [32] l.length (fun gg v32 wr => ∃ kk : Nat, kk ≤ l.length ∧ l.length - kk ≤ gg ∧ v32 = .int .i64 kk ∧ Aside0 (LookSt gw go w0 wr p v gs) ∧ Aside0 (fitsO k p (l.drop kk) = some t))
  case atStart => exact ⟨0, Nat.zero_le _, by omega, rfl, HS, HT⟩
  case round =>
    clear hxq hx0 HS HT
    obtain ⟨kk, hkk, hg, rfl, HS, HT⟩ := hrel
    by_cases hlt : kk < l.length
    · have hltz : (kk : Int) < (l.length : Int) := by omega
      obtain ⟨ad, e, x0, x1, x2⟩ := at_T72 (Kd.C_below HC.out HS.out.B) (kk : Int) (by omega) hltz
      subst e
      have hT := HT.out
      rw [fitsO_drop hlt] at hT
      obtain ⟨b, hb, hT⟩ := Option.bind_eq_some_iff.mp hT
      clear HT
      generalize rd_T72 l (kk : Int) = x at hb x0 x1 x2
      rw [Int.toNat_natCast] at x0 x1 x2
      have HB := Aside0.mk hb
      have HX := Aside0.mk hT
      clear hT hb
      have hCb := fun (W : World) (hW : LookSt gw go w0 W p v gs) => C_bools hW.W (by rw [HP.out]; exact hN)
      rw [HP.out] at hCb
      have HCB := Aside0.mk hCb
      clear hCb
      cases b
      case false =>
        have hT := HX.out
        rw [if_neg (by decide)] at hT
        obtain rfl := Option.some.inj hT
        have hr0 := HH.out
        rw [if_neg (by decide)] at hr0
        obtain rfl := Option.some.inj hr0
        clear hT hr0 HX HH
        go_wp2_with (go_at_call 93; have hh := spec_pzFits.calls k x.f0 x.f1 x.f2 (some ⟨gw, 0, none⟩) N p false; rw [HP.out] at hh; refine (hh _ (HCB.out _ (HS.out.alloc _)) (Nat.le_refl _) HB.out).mono ?_; clear hh; rintro e w' ⟨rfl, hb'⟩)
        (try simp only [Exit.inBlock, Exit.then]); refine bodyPost_ret (results_none rfl _ _ _) rfl ?_
        exact ⟨rfl, v, by first | exact (HS.out.alloc _).below hb' | (rw [List.append_nil]; exact (HS.out.alloc _).below hb')⟩
      case true =>
        have hT := HX.out
        rw [if_pos rfl] at hT
        have HX2 := Aside0.mk hT
        clear hT HX
        go_wp2_with (go_at_call 93; have hh := spec_pzFits.calls k x.f0 x.f1 x.f2 (some ⟨gw, 0, none⟩) N p true; rw [HP.out] at hh; refine (hh _ (HCB.out _ (HS.out.alloc _)) (Nat.le_refl _) HB.out).mono ?_; clear hh; rintro e w' ⟨rfl, hb'⟩)
        go_roundg (l.length - (kk + 1))
        case measure => omega
        case rel => exact ⟨kk + 1, by omega, by omega, by congr 1; (try (unfold wrap64; omega)), ⟨(HS.out.alloc _).below hb'⟩, HX2⟩
    · have hltz : ¬ (kk : Int) < (l.length : Int) := by omega
      have hkl : kk = l.length := by omega
      subst hkl
      have hT := HT.out
      rw [List.drop_length] at hT
      obtain rfl := Option.some.inj hT
      clear hT HT
      have h := HH.out
      rw [if_pos rfl] at h
      obtain ⟨⟨g1, g2⟩, hg, h⟩ := Option.bind_eq_some_iff.mp h
      obtain rfl := Option.some.inj h
      have HG := Aside0.mk hg
      clear h hg HH
      have hO := HS.out.O
      have ho0 := (blk_cell hO 0).trans rfl
      have hof := blk_frozen hO 0
      clear hO
      have hCb := fun (W : World) (hW : LookSt gw go w0 W p v gs) => C_bools hW.W (by rw [HP.out]; exact hN)
      rw [HP.out] at hCb
      have HCB := Aside0.mk hCb
      clear hCb
      go_wp2_with fail
      refine start_ (n := 11) (S := fun w' => w'.cell? ⟨go, 0, none⟩ = some v) (ds := [10]) #[false, false, false, false, false, false, false, false, false, false, false] (by kernel_rfl) rfl rfl ((blk_cell HS.out.O 0).trans rfl) (fun hHeld => ?_)
      have HS1 := Aside0.mk (HS.out.below (below_drew (Below.refl _ _)))
      clear HS
      have HS := HS1
      clear HS1
      generalize wr.drew = w1 at HS hHeld ⊢
      refine pure_ (i := 0) (N := some 41) (v := ?_) (a' := ?_) #[true, false, false, false, false, false, false, false, false, false, false] rfl rfl (by kernel_rfl) (fun _ _ _ h => h) (Or.inl ⟨by rfl, ?_⟩) ?_ ?_
      rotate_left
      · intro w'
        go_simp
        with_reducible rfl
      rotate_left
      · simp only [Act.put, List.setIfInBounds_toArray, List.set_cons_zero, List.set_cons_succ, i64_w, i32_w]
        rfl
      refine pure_ (i := 1) (N := some 42) (v := ?_) (a' := ?_) #[true, true, false, false, false, false, false, false, false, false, false] rfl rfl (by kernel_rfl) (fun _ _ _ h => h) (Or.inl ⟨by rfl, ?_⟩) ?_ ?_
      rotate_left
      · intro w'
        go_simp
        with_reducible rfl
      rotate_left
      · simp only [Act.put, List.setIfInBounds_toArray, List.set_cons_zero, List.set_cons_succ, i64_w, i32_w]
        rfl
      refine pure_ (i := 2) (N := some 43) (v := ?_) (a' := ?_) #[true, true, true, false, false, false, false, false, false, false, false] rfl rfl (by kernel_rfl) (fun _ _ _ h => h) (Or.inl ⟨by rfl, ?_⟩) ?_ ?_
      rotate_left
      · intro w'
        go_simp
        with_reducible rfl
      rotate_left
      · simp only [Act.put, List.setIfInBounds_toArray, List.set_cons_zero, List.set_cons_succ, i64_w, i32_w]
        rfl
      refine pure_ (i := 4) (N := some 45) (v := ?_) (a' := ?_) #[true, true, true, false, true, false, false, false, false, false, false] rfl rfl (by kernel_rfl) (fun _ _ _ h => h) (Or.inl ⟨by rfl, ?_⟩) ?_ ?_
      rotate_left
      · intro w'
        go_simp
        with_reducible rfl
      rotate_left
      · simp only [Act.put, List.setIfInBounds_toArray, List.set_cons_zero, List.set_cons_succ, i64_w, i32_w]
        rfl
      refine pure_ (i := 5) (N := some 46) (v := ?_) (a' := ?_) #[true, true, true, false, true, true, false, false, false, false, false] rfl rfl (by kernel_rfl) (fun _ _ _ h => h) (Or.inl ⟨by rfl, ?_⟩) ?_ ?_
      rotate_left
      · intro w'
        go_simp
        with_reducible rfl
      rotate_left
      · simp only [Act.put, List.setIfInBounds_toArray, List.set_cons_zero, List.set_cons_succ, i64_w, i32_w]
        rfl
      refine take_ (i := 3) (N := some 44) (v := ?_) (a' := ?_) #[true, true, true, true, true, true, false, false, false, false, false] rfl rfl (by kernel_rfl) (fun _ _ _ h => h) (Or.inl ⟨by rfl, ?_⟩) hHeld ?_ ?_
      rotate_left
      · intro w' s0
        go_simp
        with_reducible rfl
      rotate_left
      · simp only [Act.put, List.setIfInBounds_toArray, List.set_cons_zero, List.set_cons_succ, i64_w, i32_w]
        rfl
      refine one_ (i := 6) (N := some 47) #[true, true, true, true, true, true, true, false, false, false, false] rfl rfl (by kernel_rfl) (by decide) (fun K hK => ?_)
      refine goes_ Tryz.func94 (by kernel_rfl) rfl #[.int .i64 n, .slice (some ⟨gw, 0, none⟩) N N] (by rfl) rfl rfl (by (try simp only [List.map_toArray, List.map_cons, List.map_nil]); first | done | rfl) ?_
      have hh := spec_gmOf.calls k n (some ⟨gw, 0, none⟩) N p g1 g2
      rw [HP.out] at hh
      refine (hh _ (HCB.out _ HS.out) (Nat.le_refl _) HG.out).mono ?_
      clear hh
      rintro e w2 ⟨v1, rfl, hV, hb'⟩
      refine ⟨_, rfl, ?_⟩
      have HS1 := Aside0.mk (HS.out.below hb')
      have hgw := blk_lt HS.out.W
      have hgo := blk_lt HS.out.O
      obtain ⟨A1, c1, rfl⟩ := Kd.V_slice hV
      have HV := Aside0.mk (Kd.V_at hV)
      have HK := Aside0.mk (Kd.FK_mono (k46_mkF w2 _ (⟨g1, g2⟩ : S46) HV.out.2.1 HV.out.2.2) (fun z (hz : w1.heap.size ≤ z) => (⟨⟨Nat.le_trans HS.out.B.size hz, by omega, by omega⟩, fun he => by have := Kd.N_lt HS.out.N z he.symm; omega⟩ : (w0.heap.size ≤ z ∧ z ≠ gw ∧ z ≠ go) ∧ some z ≠ v.ownBlock)))
      clear HS hb' hV
      have HS := HS1
      clear HS1 hHeld
      refine hK.out _ _ ((blk_cell HS.out.O 0).trans rfl) (fun hHeld => ?_)
      clear hK K
      refine norm_ (a' := ?_) ?_ ?_
      rotate_left
      · show Act.put _ (some 47) _ = _
        simp only [Act.put, List.setIfInBounds_toArray, List.set_cons_zero, List.set_cons_succ, i64_w, i32_w]
        rfl
      refine one_ (i := 7) (N := some 48) #[true, true, true, true, true, true, true, true, false, false, false] rfl rfl (by kernel_rfl) (by decide) (fun K hK => ?_)
      refine value_ (w1 := ?_) (v := ?_) (by rfl) rfl ?_ ?_
      rotate_left 2
      · go_simp
        constructor
        · rfl
        · rfl
      refine hK.out _ _ ((blk_cell (HS.out.alloc _).O 0).trans rfl) (fun hHeld => ?_)
      clear hK K
      refine norm_ (a' := ?_) ?_ ?_
      rotate_left
      · show Act.put _ (some 48) _ = _
        simp only [Act.put, List.setIfInBounds_toArray, List.set_cons_zero, List.set_cons_succ, i64_w, i32_w]
        rfl
      refine one_ (i := 8) (N := some 49) #[true, true, true, true, true, true, true, true, true, false, false] rfl rfl (by kernel_rfl) (by decide) (fun K hK => ?_)
      refine Kd.N_append_step k46 (w0 := w0) w0.heap.size (by rfl) (.tmp 44) (.tmp 48) 51 46 (.agg #[(.int .i64 0), (.slice none 0 0)]) 32 rfl Tryz.underlying51 info46 rfl (by decide) (by omega) v gs ⟨g1, g2⟩ [.int .i64 g1, .slice A1 g2.length c1] (fun z => w0.heap.size ≤ z ∧ z ≠ gw ∧ z ≠ go) _ rfl rfl HK.out (fun _ hz => hz) (fun z hz => ⟨Nat.le_trans HS.out.B.size hz, by have := blk_lt HS.out.W; omega, by have := blk_lt HS.out.O; omega⟩) HS.out.N HS.out.B HS.out.B.size (by simp at hr; omega) ?_
      intro v2 w3 hN2 hB2 hg2 _
      obtain ⟨A2, c2, rfl⟩ := Kd.N_slice hN2
      have HO3 := Aside0.mk (blk_grown HS.out.O hg2 (Kd.N_ne HS.out.N HS.out.O (by decide)))
      have HW3 := Aside0.mk (blk_grown HS.out.W hg2 (Kd.N_ne HS.out.N HS.out.W (by decide)))
      have HN3 := Aside0.mk hN2
      have HB3 := Aside0.mk hB2
      clear hN2 hB2 hg2 HS hHeld HK HV
      refine hK.out _ _ ((blk_cell HO3.out 0).trans rfl) (fun hHeld => ?_)
      clear hK K
      refine norm_ (a' := ?_) ?_ ?_
      rotate_left
      · show Act.put _ (some 49) _ = _
        simp only [Act.put, List.setIfInBounds_toArray, List.set_cons_zero, List.set_cons_succ, i64_w, i32_w]
        rfl
      refine pure_ (i := 9) (N := some 50) (v := ?_) (a' := ?_) #[true, true, true, true, true, true, true, true, true, true, false] rfl rfl (by kernel_rfl) (fun _ _ _ h => h) (Or.inl ⟨by rfl, ?_⟩) ?_ ?_
      rotate_left
      · intro w'
        go_simp
        with_reducible rfl
      rotate_left
      · simp only [Act.put, List.setIfInBounds_toArray, List.set_cons_zero, List.set_cons_succ, i64_w, i32_w]
        rfl
      refine last_ (i := 10) (N := none) #[true, true, true, true, true, true, true, true, true, true, true] rfl rfl (by kernel_rfl) (by decide) (fun K hK => ?_)
      have hs := (blk_cell HO3.out 0).trans rfl
      have hfs := blk_frozen HO3.out 0
      refine skip_ (w1 := ?_) (by rfl) rfl ?_ ?_
      rotate_left
      · go_simp
        rfl
      refine hK.out _ _ ?_
      clear hK K
      refine done_ (by kernel_rfl) ?_
      go_wp2
      (try simp only [Exit.inBlock, Exit.then]); refine bodyPost_ret (results_none rfl _ _ _) rfl ?_
      exact ⟨rfl, _, Kd.N_far HN3.out (fun _ hk => hk.2.2) _, blk_put HO3.out 0 _ (by simp), blk_far HW3.out hne _, below_set HB3.out hbo⟩
theorem om1 {m d N : Nat} (h : m + (d + 1) = N) : m + 1 + d = N := by omega
theorem om2 {k n g : Nat} (h : k < n) (hg : n - k ≤ g) : n - (k + 1) < g := by omega
theorem om3 {k n : Nat} (h : k < n) (hn : n ≤ 9223372036854775807) : wrap64 ((k : Int) + 1) = ((k + 1 : Nat) : Int) := by unfold wrap64; omega
theorem om4 {a b c d : Nat} (h : a + (b + c) ≤ d) : a + b ≤ d := by omega
theorem om5 {a b c d : Nat} (h : a + (b + c) ≤ d) : a + b + c ≤ d := by omega
theorem mustO_drop {p : List Bool} {s : List Int} {i : Nat} {m : Bool} (h : i < s.length) : mustO p (s.drop i) m = if m = true then mustO p (s.drop (i + 1)) true else if 0 ≤ rd s (i : Int) then (if 0 ≤ wrap64 ((p.length : Int) - shl .i64 1 (rd s (i : Int))) ∧ wrap64 ((p.length : Int) - shl .i64 1 (rd s (i : Int))) < (p.length : Int) then mustO p (s.drop (i + 1)) (rdOf false p (wrap64 ((p.length : Int) - shl .i64 1 (rd s (i : Int))))) else none) else none := by
  have e : rd s (i : Int) = s[i] := by unfold rd; rw [Int.toNat_natCast, List.getD_eq_getElem?_getD, List.getElem?_eq_getElem h]; rfl
  rw [e, List.drop_eq_getElem_cons h, mustO]
theorem take_rdOf {p ws : List Bool} (h : ws.take p.length = p) {j : Int} (h0 : 0 ≤ j) (h1 : j < (p.length : Int)) : ∃ hj : j.toNat < ws.length, ws[j.toNat] = rdOf false p j := by
  have hl : p.length ≤ ws.length := by have := congrArg List.length h; rw [List.length_take] at this; omega
  refine ⟨by omega, ?_⟩
  unfold rdOf
  have : p.getD j.toNat false = (ws.take p.length).getD j.toNat false := by rw [h]
  rw [this, List.getD_eq_getElem?_getD, List.getElem?_take_of_lt (by omega), List.getElem?_eq_getElem (by omega)]; rfl
theorem take_set_snoc {p ws : List Bool} (h : ws.take p.length = p) (hl : p.length < ws.length) (b : Bool) : (ws.set p.length b).take (p ++ [b]).length = p ++ [b] := by
  rw [List.length_append, List.length_singleton, List.take_succ_eq_append_getElem (by rw [List.length_set]; exact hl), List.getElem_set_self, List.take_set_of_le (Nat.le_refl _), h]
theorem take_less {p ws : List Bool} {b : Bool} (h : ws.take (p ++ [b]).length = p ++ [b]) : ws.take p.length = p := by
  have := congrArg (List.take p.length) h
  rw [List.length_append, List.length_singleton, List.take_take, Nat.min_eq_left (by omega), List.take_left'] at this
  · exact this
  · rfl
set_option maxHeartbeats 8000000 in
set_option maxRecDepth 100000 in
theorem spec_pzLook.calls (k : Nat) (n : Int) (A : Option Addr) (c : Nat) (l : List S72) (gw go : Nat) (w0 : World) (hC : Kd.C k72 w0 A l.length l) (hc : l.length ≤ c) (hne : gw ≠ go) (hbw : w0.heap.size ≤ gw) (hbo : w0.heap.size ≤ go) (N : Nat) (hN : N ≤ 65536) (hN1 : 1 ≤ N) :
    ∀ (d : Nat) (p ws : List Bool) (m : Nat) (gs r : List S46) (v : Value) (w : World), p.length = m → m + d = N → ws.length = N → ws.take p.length = p → gs.length + r.length ≤ 1000000 → spec_pzLook.f k n l d p = some r → LookSt gw go w0 w ws v gs →
    Calls Tryz.prog 69 #[.slice (some ⟨gw, 0, none⟩) N N, .int .i64 m, .int .i64 n, .slice A l.length c, .pointer (some ⟨go, 0, none⟩)] w fun e w' => e = .returned (.tuple #[]) ∧ ∃ v' ws', LookSt gw go w0 w' ws' v' (gs ++ r) ∧ ws'.length = N ∧ ws'.take p.length = p := by
  intro d
  induction d with
  | zero =>
    intro p ws m gs r v w hp hd hwl hwt hr h hS
    obtain rfl : m = N := hd
    have : ws = p := by rw [← hwt, hp, ← hwl, List.take_length]
    subst this
    obtain ⟨q, rfl⟩ : ∃ q, m = q + 1 := ⟨m - 1, by omega⟩
    refine (pzLook_end k n A c l gw go w0 hC hc hne hbw hbo ws (q + 1) q hp rfl hN gs r v w hr h hS).mono ?_
    rintro e w' ⟨rfl, v', hS'⟩
    exact ⟨rfl, v', ws, hS', hp, by rw [hp, ← hp, List.take_length]⟩
  | succ d ih =>
    intro p ws m gs r v w hp hd hwl hwt hr h hS
    unfold spec_pzLook.f at h
    obtain ⟨s, hs, h⟩ := Option.bind_eq_some_iff.mp h
    obtain ⟨mm, hm, h⟩ := Option.bind_eq_some_iff.mp h
    obtain ⟨l1, h1, h⟩ := Option.bind_eq_some_iff.mp h
    rw [hp] at hs
    have hpl : p.length < ws.length := by omega
    have hmN : (m : Int) < (N : Int) := by omega
    have hne1 : ((m : Int) == (N : Int)) = false := by rw [beq_eq_false_iff_ne]; omega
    have hne2 : ¬ m = N := by omega
    have hw1 : wrap64 ((m : Int) + 1) = ((m + 1 : Nat) : Int) := by unfold wrap64; omega
    have HS := Aside0.mk hS
    have HV := Aside0.mk hs
    have HM := Aside0.mk hm
    have H1 := Aside0.mk h1
    have HH := Aside0.mk h
    have HWL := Aside0.mk hwl
    have HWT := Aside0.mk hwt
    have HP := Aside0.mk hp
    have HD := Aside0.mk hd
    have IH := Aside0.mk ih
    clear hS hs hm h1 h hwl hwt ih hp hd
    go_enter Tryz.func69, Tryz.ntmps69
    go_wp2_with (go_at_call 85; refine (spec_voList.calls k (m : Int) s _ HV.out).mono ?_; rintro e w1 ⟨vs, rfl, hR, hb⟩; obtain ⟨As, cs, rfl⟩ := Kd.R_slice hR; have HR := Aside0.mk (Kd.R_reads' hR).2.2; have HS1 := Aside0.mk (HS.out.below hb); clear HS hR hb; have HS := HS1; clear HS1)
    go_loopg [12, 54] s.length (fun gg v12 v54 wr => ∃ (kk : Nat) (b : Bool), kk ≤ s.length ∧ s.length - kk ≤ gg ∧ v12 = .bool b ∧ v54 = .int .i64 kk ∧ Aside0 (LookSt gw go w0 wr ws v gs) ∧ Aside0 (Kd.C (Kd.int .i64) wr As s.length s) ∧ Aside0 (mustO p (s.drop kk) b = some mm))
    case atStart => exact ⟨0, false, Nat.zero_le _, by omega, rfl, rfl, HS, HR, HM⟩
    case round =>
      clear HS HM
      have hls := Kd.C_max HR.out
      clear HR
      obtain ⟨kk, b, hkk, hg, rfl, rfl, HS, HR, HM⟩ := hrel
      by_cases hlt : kk < s.length
      · have hltz : (kk : Int) < (s.length : Int) := Int.ofNat_lt.2 hlt
        have hdec : decide ((kk : Int) < (s.length : Int)) = true := decide_eq_true hltz
        obtain ⟨ad, e, x0⟩ := Kd.at_int HR.out (kk : Int) (Int.natCast_nonneg _) hltz
        subst e
        have hM := HM.out
        rw [mustO_drop hlt, HP.out] at hM
        rw [Int.toNat_natCast] at x0
        generalize rd s (kk : Int) = x at hM x0
        cases b
        case true =>
          rw [if_pos rfl] at hM
          have HM2 := Aside0.mk hM
          clear hM HM
          go_wp2
          go_roundg (s.length - (kk + 1))
          case measure => exact om2 hlt hg
          case rel => exact ⟨kk + 1, true, hlt, Nat.le_refl _, rfl, by congr 1; (try exact om3 hlt hls), HS, HR, HM2⟩
        case false =>
          rw [if_neg (by decide)] at hM
          by_cases c0 : 0 ≤ x
          case neg => rw [if_neg c0] at hM; cases hM
          rw [if_pos c0] at hM
          obtain ⟨ji, hji⟩ : ∃ j_ : Int, shl .i64 1 x = j_ := ⟨_, rfl⟩
          rw [hji] at hM
          have hji_ : (IntKind.i64.wrap (1 * 2 ^ min x.toNat 64)) = ji := hji
          have hjiz : x ≤ 64 → (IntKind.i64.wrap (1 * 2 ^ x.toNat)) = ji := shl_small hji
          have hjiu : (IntKind.i64.wrap (2 ^ min x.toNat 64)) = ji := by have h_ := hji_; rw [Int.one_mul] at h_; exact h_
          have hjiv : x ≤ 64 → (IntKind.i64.wrap (2 ^ x.toNat)) = ji := fun hle_ => by have h_ := hjiz hle_; rw [Int.one_mul] at h_; exact h_
          have hjiy : (wrap64 (1 * 2 ^ min x.toNat 64)) = ji := (i64_w _).symm.trans hji_
          have hjix : x ≤ 64 → (wrap64 (1 * 2 ^ x.toNat)) = ji := fun h_ => (i64_w _).symm.trans (hjiz h_)
          obtain ⟨jk, hjk⟩ : ∃ j_ : Int, wrap64 ((m : Int) - ji) = j_ := ⟨_, rfl⟩
          rw [hjk] at hM
          have hjkw : (IntKind.i64.wrap ((m : Int) - ji)) = jk := (i64_w _).trans hjk
          by_cases c1 : 0 ≤ jk ∧ jk < (m : Int)
          case neg => rw [if_neg c1] at hM; cases hM
          rw [if_pos c1] at hM
          have c0b : decide (0 ≤ x) = true := decide_eq_true c0
          have c10 := c1.1
          have c11 : jk < (N : Int) := Int.lt_trans c1.2 hmN
          have c10b : decide (0 ≤ jk) = true := decide_eq_true c10
          have c11b : decide (jk < (N : Int)) = true := decide_eq_true c11
          obtain ⟨hjl, hje⟩ := take_rdOf HWT.out c10 (by rw [HP.out]; exact c1.2)
          have hx : wr.cell? ⟨gw, jk.toNat, none⟩ = some (.bool (rdOf false p jk)) := by rw [blk_cell HS.out.W, List.getElem?_toArray, List.getElem?_map, List.getElem?_eq_getElem hjl, hje]; rfl
          generalize rdOf false p jk = b at hx hM
          have HM2 := Aside0.mk hM
          clear hM HM hjl hje c1
          go_wp2
          clear hji_ hjiz hjiu hjiv hjiy hjix hjkw hji hjk c0b c10b c11b c10 c11 c0 hx
          go_roundg (s.length - (kk + 1))
          case measure => exact om2 hlt hg
          case rel => exact ⟨kk + 1, b, hlt, Nat.le_refl _, rfl, by congr 1; (try exact om3 hlt hls), HS, HR, HM2⟩
      · have hltz : ¬ (kk : Int) < (s.length : Int) := fun e => hlt (Int.ofNat_lt.1 e)
        have hkl : kk = s.length := Nat.le_antisymm hkk (Nat.le_of_not_lt hlt)
        subst hkl
        have hM := HM.out
        rw [List.drop_length] at hM
        obtain rfl := Option.some.inj hM
        clear hM HM HR
        have hpl2 : m < ws.length := by rw [HWL.out]; exact Int.ofNat_lt.1 hmN
        have hx : wr.cell? ⟨gw, m, none⟩ = some (.bool ws[m]) := by rw [blk_cell HS.out.W, List.getElem?_toArray, List.getElem?_map, List.getElem?_eq_getElem hpl2]; rfl
        have hf := blk_frozen HS.out.W m
        have hT1 := take_set_snoc HWT.out (by rw [HP.out]; exact hpl2) true
        rw [HP.out] at hT1
        have HT1 := Aside0.mk hT1
        have HSP := Aside0.mk (HS.out.put hne hbw m true)
        generalize ws[m] = bm at hx
        clear HS hT1
        have hm1 : m + 1 + d = N := om1 HD.out
        have hr1 : gs.length + l1.length ≤ 1000000 := by
          have h := HH.out
          cases b
          · rw [if_neg (by decide)] at h
            obtain ⟨l2, _, h⟩ := Option.bind_eq_some_iff.mp h
            obtain rfl := Option.some.inj h
            rw [List.length_append] at hr
            exact om4 hr
          · rw [if_pos rfl] at h
            obtain rfl := Option.some.inj h
            exact hr
        have IH1 := Aside0.mk (IH.out (p ++ [true]) (ws.set m true) (m + 1) gs l1 v _ (by rw [List.length_append, HP.out]; rfl) hm1 (by rw [List.length_set]; exact HWL.out) HT1.out hr1 H1.out HSP.out)
        clear HSP HT1 hltz
        go_wp2_with fail
        refine IH1.out.mono ?_
        clear IH1
        rintro e w2 ⟨rfl, v2, ws2, hS2, hl2, ht2⟩
        have hpl3 : m < ws2.length := by rw [hl2]; exact Int.ofNat_lt.1 hmN
        have ht3 := take_less ht2
        clear hx hf
        have hx : w2.cell? ⟨gw, m, none⟩ = some (.bool ws2[m]) := by rw [blk_cell hS2.W, List.getElem?_toArray, List.getElem?_map, List.getElem?_eq_getElem hpl3]; rfl
        have hf := blk_frozen hS2.W m
        generalize ws2[m] = bm2 at hx
        have HS2 := Aside0.mk hS2
        have HL2 := Aside0.mk hl2
        have HT2 := Aside0.mk ht3
        clear hS2 hl2 ht2 ht3
        have h := HH.out
        cases b
        case true =>
          rw [if_pos rfl] at h
          obtain rfl := Option.some.inj h
          clear h HH
          go_wp2
          go_end0
          exact ⟨rfl, v2, ws2, HS2.out, HL2.out, HT2.out⟩
        case false =>
          rw [if_neg (by decide)] at h
          obtain ⟨l2, h2, h⟩ := Option.bind_eq_some_iff.mp h
          obtain rfl := Option.some.inj h
          rw [List.length_append] at hr
          have hT3 := take_set_snoc HT2.out (by rw [HP.out]; exact hpl3) false
          rw [HP.out] at hT3
          have IH2 := Aside0.mk (IH.out (p ++ [false]) (ws2.set m false) (m + 1) (gs ++ l1) l2 v2 _ (by rw [List.length_append, HP.out]; rfl) hm1 (by rw [List.length_set]; exact HL2.out) hT3 (by rw [List.length_append]; exact om5 hr) h2 (HS2.out.put hne hbw m false))
          clear h HH h2 hT3 HS2 HL2 HT2
          go_wp2_with fail
          refine IH2.out.mono ?_
          clear IH2
          rintro e w3 ⟨rfl, v3, ws3, hS3, hl3, ht3⟩
          have HS3 := Aside0.mk hS3
          have HL3 := Aside0.mk hl3
          have HT3 := Aside0.mk (take_less ht3)
          clear hS3 hl3 ht3
          go_wp2
          go_end0
          exact ⟨rfl, v3, ws3, by first | exact HS3.out | (rw [← List.append_assoc]; exact HS3.out), HL3.out, HT3.out⟩
def pzPos (k : Nat) (g : S46) : List S46 → Nat → Option Nat
  | [], i => some i
  | x :: xs, i => (spec_gmBefore.f k x.f0 x.f1 g.f0 g.f1).bind fun b => if b = true then pzPos k g xs (i + 1) else some i
def pzIns (k : Nat) (g : S46) (outs : List S46) : Option (List S46) := (pzPos k g outs 0).bind fun i => some (outs.take i ++ [g] ++ outs.drop i)
def pzSort (k : Nat) : List S46 → List S46 → Option (List S46)
  | [], outs => some outs
  | g :: gs, outs => (pzIns k g outs).bind fun o => pzSort k gs o
def spec_pzAll.f (k : Nat) (n : Int) (l : List S72) : Option (List S46) := if 0 ≤ n ∧ n ≤ 16 then (spec_pzLook.f k n l (2 ^ n.toNat) []).bind fun gs => if gs.length ≤ 1000000 then pzSort k gs [] else none else none
theorem om6 {i n : Nat} (h : i ≤ n) : i + 1 + (n - i) = n + 1 := by omega
theorem made_falses (N : Nat) : madeCells (Value.bool false).cells N = ((List.replicate N false).map Value.bool).toArray := by
  refine Array.ext ?_ fun j h1 h2 => ?_
  · rw [size_madeCells, List.size_toArray, List.length_map, List.length_replicate]
  · simp [madeCells, Value.cells, Nat.mod_one]
theorem run_falses (N : Nat) (hN : N ≤ 65536) (W : World) : (Instr.makeSlice 76 (.int .i64 (N : Int)) (.int .i64 (N : Int))).run Tryz.prog W = .ok (.slice (some ⟨W.heap.size, 0, none⟩) N N) (W.alloc (.cells ((List.replicate N false).map Value.bool).toArray 4 (0, 0))) := by
  obtain ⟨i, hi, hz⟩ := Option.map_eq_some_iff.1 info4
  simp only [Prod.mk.injEq] at hz
  obtain ⟨h0, h1, h2⟩ := hz
  have := run_make (P := Tryz.prog) W 76 4 i (.bool false) Tryz.underlying76 hi h0 .i64 .i64 (N : Int) (N : Int) (Int.natCast_nonneg _) (Int.le_refl _) (by rw [h2]; omega) (by omega)
  rw [this, Int.toNat_natCast, h1, Nat.mul_one, made_falses]
section
variable {e base : Nat} {W : World} {v : Value} {lo : Nat}
theorem N_own {α : Type} {d : Kd α} (h : Kd.N d e W base (fun _ => True) v []) (hb : lo ≤ base) : Kd.N d e W base (fun z => lo ≤ z) v [] := by
  have hbb := Kd.N_base h
  obtain ⟨_, rows, hl, hR, _⟩ := h
  exact ⟨fun k hk => Nat.le_trans hb (hbb k hk), rows, hl, hR, fun j x c hx => by simp at hx⟩
end
theorem rr_one {W : World} {b cg : Nat} {Ag : Option Addr} {g : S46} {ok : Nat → Prop} (hb : W.heap[b]? = some (.cells #[.int .i64 g.f0, .slice Ag g.f1.length cg] 46 (0, 0))) (hF : Kd.FK k46 W ok g [.int .i64 g.f0, .slice Ag g.f1.length cg]) :
    ReadsRow (fun x c => Kd.FK k46 W ok x c) (Kd.sz k46) W (some ⟨b, 0, none⟩) 1 [g] := by
  refine ⟨rfl, by decide, fun _ => ⟨_, rfl, fun j p hj => ?_⟩⟩
  cases j with
  | succ j => simp at hj
  | zero =>
    obtain rfl : g = p := by simpa using hj
    refine ⟨_, rfl, hF, fun i u hu => ?_⟩
    rw [add_at, Nat.zero_mul, Nat.zero_add, Nat.zero_add, blk_cell hb]
    simpa using hu
section
variable {P : Program} {ops : Array Oper} {o : Oper} {a : Act} {Q : Exit → Act → World → Prop} {Kc : Act → World → Prop} {α : Type}
theorem N_append_rr_step (d : Kd α) {w0 W : World} (base : Nat) (hw : Region.wanted o (yielded ops a.tmps) = true) (s x : Operand) (t e : TypeId) (z : Value) (bytes : Nat)
    (ho : o.op = .call { callee := .builtin .append, args := #[s, x], argTypes := #[t, t] })
    (ht : P.underlying t = some (.slice e)) (hinfo : (P.info? e).map (fun i => (i.zero, i.size, i.bytes)) = some (some z, d.sz, bytes)) (hz : z.cells.size = d.sz) (hs0 : 0 < d.sz) (hb0 : 0 < bytes)
    (v : Value) (xs ys : List α) (A : Option Addr) (m c : Nat) (ok okp : Nat → Prop) (hs : a.eval s = v) (hx : a.eval x = .slice A m c)
    (HO : Kd.N d e W base ok v xs) (HR : ReadsRow (fun x c => Kd.FK d W okp x c) d.sz W A m ys) (hokp : ∀ k, okp k → ok k ∧ some k ≠ v.ownBlock) (hfresh : ∀ k, W.heap.size ≤ k → ok k)
    (HB : Below base w0 W) (hbase : base ≤ W.heap.size) (hl : (xs.length + m) * bytes ≤ 140737488355328)
    (h : ∀ v1 w1, Kd.N d e w1 base ok v1 (xs ++ ys) → Below base w0 w1 → W.grownBy w1 v.ownBlock → (v1.ownBlock = v.ownBlock ∨ ∃ b, v1.ownBlock = some b ∧ W.heap.size ≤ b) → Kc (a.put o.dst v1) w1) :
    if Region.wanted o (yielded ops a.tmps) = true then Oper.wp P o a W Kc Q else Kc (a.put o.dst undef) W := by
  obtain ⟨h0, rows, hlr, hR, hf⟩ := HO
  obtain ⟨news, hnl, hnr, hnf⟩ := Kd.reads_raw HR (fun y c hk => ⟨d.K_len (Kd.FK_now hk), d.K_one (Kd.FK_now hk)⟩)
  refine Kd.R_append_rows_step (Kd.raw d.sz) base hw s x t e z bytes ho ht hinfo hz hs0 hb0 v rows news A m c (fun _ => True) (fun _ => False) hs hx (Kd.raw_any hR) hnr (fun _ _ hk => hk) (fun _ hk => hk.elim) (fun _ _ => trivial) HB hbase (by rw [hlr]; exact hl) ?_
  intro v1 w1 hr hb hg hat
  exact h v1 w1 (Kd.N_appended h0 hlr hf hnl hnf hokp hfresh hr hg hat) hb hg hat
end
theorem pzSort_drop {k : Nat} {gs outs : List S46} {i : Nat} (h : i < gs.length) : pzSort k (gs.drop i) outs = (pzIns k (gs.getD i z46) outs).bind fun o => pzSort k (gs.drop (i + 1)) o := by
  rw [List.drop_eq_getElem_cons h, List.getD_eq_getElem?_getD, List.getElem?_eq_getElem h]; rfl
theorem pzPos_drop {k : Nat} {g : S46} {outs : List S46} {i : Nat} (h : i < outs.length) : pzPos k g (outs.drop i) i = (spec_gmBefore.f k (outs.getD i z46).f0 (outs.getD i z46).f1 g.f0 g.f1).bind fun b => if b = true then pzPos k g (outs.drop (i + 1)) (i + 1) else some i := by
  rw [List.drop_eq_getElem_cons h, List.getD_eq_getElem?_getD, List.getElem?_eq_getElem h]; rfl
set_option maxHeartbeats 8000000 in
set_option maxRecDepth 100000 in
theorem spec_pzAll.calls (k : Nat) (n : Int) (A : Option Addr) (c : Nat) (l : List S72) (r : List S46) (w : World) (hC : Kd.C k72 w A l.length l) (hc : l.length ≤ c) (h : spec_pzAll.f k n l = some r) :
    Calls Tryz.prog 52 #[.int .i64 n, .slice A l.length c] w fun e w' => ∃ v0_ : Value, e = .returned v0_ ∧ Kd.V k46 46 w' w.heap.size (fun k_ => w.heap.size ≤ k_) v0_ r ∧ Below w.heap.size w w' := by
  unfold spec_pzAll.f at h
  by_cases c0 : 0 ≤ n ∧ n ≤ 16
  case neg => rw [if_neg c0] at h; cases h
  rw [if_pos c0] at h
  obtain ⟨gs, hg, h⟩ := Option.bind_eq_some_iff.mp h
  by_cases c1 : gs.length ≤ 1000000
  case neg => rw [if_neg c1] at h; cases h
  rw [if_pos c1] at h
  have hp16 : 2 ^ n.toNat ≤ 65536 := Nat.pow_le_pow_right (n := 2) (by decide) (show n.toNat ≤ 16 by omega)
  have hp1 : 1 ≤ 2 ^ n.toNat := Nat.one_le_two_pow
  have hji : shl .i64 1 n = ((2 ^ n.toNat : Nat) : Int) := by rw [shl_one n c0]; simp
  generalize 2 ^ n.toNat = N at hji hg hp16 hp1
  have hji_ : (IntKind.i64.wrap (1 * 2 ^ min n.toNat 64)) = (N : Int) := hji
  have hjiz : n ≤ 64 → (IntKind.i64.wrap (1 * 2 ^ n.toNat)) = (N : Int) := shl_small hji
  have hjiu : (IntKind.i64.wrap (2 ^ min n.toNat 64)) = (N : Int) := by have h_ := hji_; rw [Int.one_mul] at h_; exact h_
  have hjiv : n ≤ 64 → (IntKind.i64.wrap (2 ^ n.toNat)) = (N : Int) := fun hle_ => by have h_ := hjiz hle_; rw [Int.one_mul] at h_; exact h_
  have hjiy : (wrap64 (1 * 2 ^ min n.toNat 64)) = (N : Int) := (i64_w _).symm.trans hji_
  have hjix : n ≤ 64 → (wrap64 (1 * 2 ^ n.toNat)) = (N : Int) := fun h_ => (i64_w _).symm.trans (hjiz h_)
  have hjie := (i64_w _).symm.trans (hjiv (by omega))
  have hmk := run_falses N hp16
  have c00 := c0.1
  have c00b : decide (0 ≤ n) = true := decide_eq_true c00
  have hNb : decide (0 ≤ (N : Int)) = true := decide_eq_true (Int.natCast_nonneg _)
  have HG := Aside0.mk hg
  have HH := Aside0.mk h
  have HC := Aside0.mk hC
  clear hg h hC
  go_enter Tryz.func52, Tryz.ntmps52
  go_wp2_with fail
  have hS : LookSt (w.heap.size + 1) w.heap.size w ((w.alloc (.cells #[.slice none 0 0] 51)).alloc (.cells (Array.replicate N (.bool false)) 4)) (List.replicate N false) (.slice none 0 0) [] := by
    refine ⟨Kd.N_nil _ _ _ _ _, blk_alloc (blk_new w _) _, ?_, ((Below.refl _ w).alloc (Nat.le_refl _) _).alloc (by simp) _⟩
    have h1 := blk_new (w.alloc (.cells #[.slice none 0 0] 51)) (.cells (Array.replicate N (.bool false)) 4)
    have h2 : (w.alloc (.cells #[.slice none 0 0] 51)).heap.size = w.heap.size + 1 := by simp
    rw [h2] at h1
    rw [h1, List.map_replicate, List.toArray_replicate]
  have hcl := spec_pzLook.calls k n A c l (w.heap.size + 1) w.heap.size w HC.out hc (by omega) (by omega) (Nat.le_refl _) N hp16 hp1 N [] (List.replicate N false) 0 [] gs (.slice none 0 0) _ rfl (by omega) (by simp) (by simp) (by simpa using c1) HG.out hS
  refine hcl.mono ?_
  clear hcl hS
  rintro e w1 ⟨rfl, v1, ws', hS1, -, -⟩
  rw [List.nil_append] at hS1
  obtain ⟨A1, cA, rfl⟩ := Kd.N_slice hS1.N
  have hx0 := (blk_cell hS1.O 0).trans rfl
  have HA := Aside0.mk (Kd.F_mono (Kd.F_bound (Kd.N_F hS1.N)) (ok' := fun z => w.heap.size ≤ z ∧ z < w1.heap.size) (fun z hz => ⟨hz.1.1, hz.2⟩))
  have HB := Aside0.mk hS1.B
  clear hS1 hmk hji hji_ hjiz hjiu hjiv hjiy hjix hjie hNb c00b HG
  obtain ⟨inf, hinf, _, hinf2, _⟩ := info_parts info46
  go_wp2_with fail
  go_loopg [6, 19] gs.length (fun gg v6 v19 wr => ∃ (kk : Nat) (Ao : Option Addr) (co : Nat) (outs : List S46), kk ≤ gs.length ∧ gs.length - kk ≤ gg ∧ v6 = .slice Ao outs.length co ∧ v19 = .int .i64 kk ∧ Aside0 (outs.length = kk) ∧ outs.length ≤ co ∧ Aside0 (pzSort k (gs.drop kk) outs = some r) ∧ Aside0 (Kd.F k46 wr (fun z => w.heap.size ≤ z ∧ z < wr.heap.size) Ao outs.length outs) ∧ Aside0 (Below w1.heap.size w1 wr))
  case atStart => exact ⟨0, none, 0, [], Nat.zero_le _, Nat.le_refl _, rfl, rfl, ⟨rfl⟩, Nat.le_refl _, HH, ⟨Kd.F_nil _ _ _⟩, ⟨Below.refl _ _⟩⟩
  case round =>
    clear HH hx0
    obtain ⟨kk, Ao, co, outs, hkk, hg, rfl, rfl, HOL, hoc, HT, HO, HB1⟩ := hrel
    by_cases hlt : kk < gs.length
    · obtain ⟨wo, rfl⟩ : ∃ wo, wo = wr := ⟨wr, rfl⟩
      have hltz : (kk : Int) < (gs.length : Int) := Int.ofNat_lt.2 hlt
      have hol : outs.length < 1000000 := by have := HOL.out; omega
      obtain ⟨ad, cc, e, _, hK, hcc, _⟩ := Kd.F_get (Kd.F_below HA.out HB1.out) z46 (kk : Int) (Int.natCast_nonneg _) hltz
      subst e
      rw [Int.toNat_natCast] at hK hcc
      have hT := HT.out
      rw [pzSort_drop hlt] at hT
      generalize gs.getD kk z46 = g at hK hT
      obtain ⟨o2, ho2, hT⟩ := Option.bind_eq_some_iff.mp hT
      obtain ⟨pos, hpos, ho2⟩ := Option.bind_eq_some_iff.mp ho2
      obtain rfl := Option.some.inj ho2
      obtain ⟨Ag, cg, rfl, hgl, hgF⟩ := k46_openF hK
      have x0 : wo.cell? (ad.add (kk * 2)) = some (.int .i64 g.f0) := hcc 0 _ rfl
      have x1 : wo.cell? ⟨(ad.add (kk * 2)).block, (ad.add (kk * 2)).off + 1, none⟩ = some (.slice Ag g.f1.length cg) := by rw [← add_field _ _ 1 (by omega)]; exact hcc 1 _ rfl
      have HPOS := Aside0.mk hpos
      have HT2a := Aside0.mk hT
      have HGF := Aside0.mk (Kd.FK_mono hK (ok' := fun z => w.heap.size ≤ z ∧ z < wo.heap.size) (fun z hz => ⟨hz.1, Nat.lt_of_lt_of_le hz.2 HB1.out.size⟩))
      have HGC := Aside0.mk (Kd.F_now hgF)
      clear hK hcc hT hpos ho2 HT hgF
      go_wp2_with fail
      go_loopg [9] outs.length (fun gg v9 wr => ∃ i : Nat, i ≤ outs.length ∧ outs.length - i ≤ gg ∧ v9 = .int .i64 i ∧ Aside0 (pzPos k g (outs.drop i) i = some pos) ∧ Aside0 (Below wo.heap.size wo wr) ∧ Aside0 (wr.heap[wo.heap.size]? = some (.cells #[.int .i64 g.f0, .slice Ag g.f1.length cg] 46 (0, 0))))
      case atStart => exact ⟨0, Nat.zero_le _, Nat.le_refl _, rfl, HPOS, ⟨(Below.refl _ wo).alloc (Nat.le_refl _) _⟩, ⟨blk_new wo _⟩⟩
      case round =>
        clear HPOS x0 x1
        obtain ⟨i, hi, hgi, rfl, HPOS, HQ, HGB⟩ := hrel
        have HOQ := Aside0.mk (Kd.F_mono (Kd.F_below HO.out HQ.out) (ok' := fun z => w.heap.size ≤ z ∧ z < wr.heap.size) (fun z hz => ⟨hz.1, Nat.lt_of_lt_of_le hz.2 HQ.out.size⟩))
        have HGFQ := Aside0.mk (Kd.FK_mono (Kd.FK_below HGF.out HQ.out) (ok' := fun z => w.heap.size ≤ z ∧ z < wr.heap.size) (fun z hz => ⟨hz.1, Nat.lt_of_lt_of_le hz.2 HQ.out.size⟩))
        have HA1 := Aside0.mk (HB1.out.trans (HQ.out.mono HB1.out.size))
        have HBQ := Aside0.mk (HB.out.trans (HA1.out.mono HB.out.size))
        by_cases hil : i < outs.length
        · have hiz : (i : Int) < (outs.length : Int) := Int.ofNat_lt.2 hil
          have hizb : decide ((i : Int) < (outs.length : Int)) = true := decide_eq_true hiz
          obtain ⟨bd, cc2, e2, _, hK2, hcc2, _⟩ := Kd.F_get HOQ.out z46 (i : Int) (Int.natCast_nonneg _) hiz
          subst e2
          rw [Int.toNat_natCast] at hK2 hcc2
          have hP := HPOS.out
          rw [pzPos_drop hil] at hP
          generalize outs.getD i z46 = x at hK2 hP
          obtain ⟨bb, hbb, hP⟩ := Option.bind_eq_some_iff.mp hP
          obtain ⟨Ax, cx, rfl, hxl, hxF⟩ := k46_openF hK2
          have y0 : wr.cell? (bd.add (i * 2)) = some (.int .i64 x.f0) := hcc2 0 _ rfl
          have y1 : wr.cell? ⟨(bd.add (i * 2)).block, (bd.add (i * 2)).off + 1, none⟩ = some (.slice Ax x.f1.length cx) := by rw [← add_field _ _ 1 (by omega)]; exact hcc2 1 _ rfl
          have HXC := Aside0.mk (Kd.F_now hxF)
          have HGC2 := Aside0.mk (Kd.C_below HGC.out HQ.out)
          have HBB := Aside0.mk hbb
          have HP2 := Aside0.mk hP
          have hci : (0 : Int) ≤ (i : Int) := Int.natCast_nonneg _
          have hcib : decide ((0 : Int) ≤ (i : Int)) = true := decide_eq_true hci
          clear hK2 hcc2 hP hbb hxF HPOS
          go_wp2_with fail
          refine start_ (n := 12) (S := fun w' => w'.cell? ⟨wo.heap.size, 0, none⟩ = some (.int .i64 g.f0) ∧ w'.cell? ⟨wo.heap.size, 1, none⟩ = some (.slice Ag g.f1.length cg) ∧ w'.cell? (bd.add (i * 2)) = some (.int .i64 x.f0) ∧ w'.cell? ⟨(bd.add (i * 2)).block, (bd.add (i * 2)).off + 1, none⟩ = some (.slice Ax x.f1.length cx)) (ds := []) #[false, false, false, false, false, false, false, false, false, false, false, false] (by kernel_rfl) rfl rfl (⟨(blk_cell (blk_drew HGB.out) 0).trans rfl, (blk_cell (blk_drew HGB.out) 1).trans rfl, y0, y1⟩) (fun hHeld => ?_)
          have HDR := Aside0.mk (below_drew (Below.refl wr.heap.size wr))
          generalize hwd : wr.drew = wd0 at *
          refine pure_ (i := 0) (N := some 23) (v := ?_) (a' := ?_) #[true, false, false, false, false, false, false, false, false, false, false, false] rfl rfl (by kernel_rfl) (fun _ _ _ h => h) (Or.inl ⟨by rfl, ?_⟩) ?_ ?_
          rotate_left
          · intro w'
            go_simp
            with_reducible rfl
          rotate_left
          · simp only [Act.put, List.setIfInBounds_toArray, List.set_cons_zero, List.set_cons_succ, i64_w, i32_w]
            rfl
          refine pure_ (i := 1) (N := some 24) (v := ?_) (a' := ?_) #[true, true, false, false, false, false, false, false, false, false, false, false] rfl rfl (by kernel_rfl) (fun _ _ _ h => h) (Or.inl ⟨by rfl, ?_⟩) ?_ ?_
          rotate_left
          · intro w'
            go_simp
            with_reducible rfl
          rotate_left
          · simp only [Act.put, List.setIfInBounds_toArray, List.set_cons_zero, List.set_cons_succ, i64_w, i32_w]
            rfl
          refine pure_ (i := 2) (N := some 25) (v := ?_) (a' := ?_) #[true, true, true, false, false, false, false, false, false, false, false, false] rfl rfl (by kernel_rfl) (fun _ _ _ h => h) (Or.inl ⟨by rfl, ?_⟩) ?_ ?_
          rotate_left
          · intro w'
            go_simp
            with_reducible rfl
          rotate_left
          · simp only [Act.put, List.setIfInBounds_toArray, List.set_cons_zero, List.set_cons_succ, i64_w, i32_w]
            rfl
          refine pure_ (i := 3) (N := some 26) (v := ?_) (a' := ?_) #[true, true, true, true, false, false, false, false, false, false, false, false] rfl rfl (by kernel_rfl) (fun _ _ _ h => h) (Or.inl ⟨by rfl, ?_⟩) ?_ ?_
          rotate_left
          · intro w'
            go_simp
            with_reducible rfl
          rotate_left
          · simp only [Act.put, List.setIfInBounds_toArray, List.set_cons_zero, List.set_cons_succ, i64_w, i32_w]
            rfl
          refine pure_ (i := 4) (N := some 27) (v := ?_) (a' := ?_) #[true, true, true, true, true, false, false, false, false, false, false, false] rfl rfl (by kernel_rfl) (fun _ _ _ h => h) (Or.inl ⟨by rfl, ?_⟩) ?_ ?_
          rotate_left
          · intro w'
            go_simp
            with_reducible rfl
          rotate_left
          · simp only [Act.put, List.setIfInBounds_toArray, List.set_cons_zero, List.set_cons_succ, i64_w, i32_w]
            rfl
          refine pure_ (i := 5) (N := some 28) (v := ?_) (a' := ?_) #[true, true, true, true, true, true, false, false, false, false, false, false] rfl rfl (by kernel_rfl) (fun _ _ _ h => h) (Or.inl ⟨by rfl, ?_⟩) ?_ ?_
          rotate_left
          · intro w'
            go_simp
            with_reducible rfl
          rotate_left
          · simp only [Act.put, List.setIfInBounds_toArray, List.set_cons_zero, List.set_cons_succ, i64_w, i32_w]
            rfl
          refine pure_ (i := 6) (N := some 29) (v := ?_) (a' := ?_) #[true, true, true, true, true, true, true, false, false, false, false, false] rfl rfl (by kernel_rfl) (fun _ _ _ h => h) (Or.inl ⟨by rfl, ?_⟩) ?_ ?_
          rotate_left
          · intro w'
            go_simp
            with_reducible rfl
          rotate_left
          · simp only [Act.put, List.setIfInBounds_toArray, List.set_cons_zero, List.set_cons_succ, i64_w, i32_w]
            rfl
          refine pure_ (i := 7) (N := some 30) (v := ?_) (a' := ?_) #[true, true, true, true, true, true, true, true, false, false, false, false] rfl rfl (by kernel_rfl) (fun _ _ _ h => h) (Or.inl ⟨by rfl, ?_⟩) ?_ ?_
          rotate_left
          · intro w'
            go_simp
            with_reducible rfl
          rotate_left
          · simp only [Act.put, List.setIfInBounds_toArray, List.set_cons_zero, List.set_cons_succ, i64_w, i32_w]
            rfl
          refine take_ (i := 8) (N := some 31) (v := ?_) (a' := ?_) #[true, true, true, true, true, true, true, true, true, false, false, false] rfl rfl (by kernel_rfl) (fun _ _ _ h => h) (Or.inl ⟨by rfl, ?_⟩) hHeld ?_ ?_
          rotate_left
          · rintro w' ⟨s0, s1, s2, s3⟩
            go_simp
            with_reducible rfl
          rotate_left
          · simp only [Act.put, List.setIfInBounds_toArray, List.set_cons_zero, List.set_cons_succ, i64_w, i32_w]
            rfl
          refine take_ (i := 9) (N := some 32) (v := ?_) (a' := ?_) #[true, true, true, true, true, true, true, true, true, true, false, false] rfl rfl (by kernel_rfl) (fun _ _ _ h => h) (Or.inl ⟨by rfl, ?_⟩) hHeld ?_ ?_
          rotate_left
          · rintro w' ⟨s0, s1, s2, s3⟩
            go_simp
            with_reducible rfl
          rotate_left
          · simp only [Act.put, List.setIfInBounds_toArray, List.set_cons_zero, List.set_cons_succ, i64_w, i32_w]
            rfl
          refine one_ (i := 10) (N := some 33) #[true, true, true, true, true, true, true, true, true, true, true, false] rfl rfl (by kernel_rfl) (by decide) (fun K hK => ?_)
          refine goes_ Tryz.func70 (by kernel_rfl) rfl #[.agg #[.int .i64 x.f0, .slice Ax x.f1.length cx], .agg #[.int .i64 g.f0, .slice Ag g.f1.length cg]] (by rfl) rfl rfl (by (try simp only [List.map_toArray, List.map_cons, List.map_nil]); first | done | rfl) ?_
          refine (spec_gmBefore.calls k x.f0 Ax cx x.f1 g.f0 Ag cg g.f1 bb _ (Kd.C_below HXC.out HDR.out) hxl (Kd.C_below HGC2.out HDR.out) hgl HBB.out).mono ?_
          rintro e wz ⟨rfl, hbz⟩
          refine ⟨_, rfl, ?_⟩
          have HZ := Aside0.mk (HDR.out.trans (hbz.mono HDR.out.size))
          refine hK.out _ _ (⟨(blk_cell (blk_below HGB.out HZ.out) 0).trans rfl, (blk_cell (blk_below HGB.out HZ.out) 1).trans rfl, (HZ.out.cell (World.block_lt_of_cell? wr _ y0)).trans y0, (HZ.out.cell (World.block_lt_of_cell? wr _ y1)).trans y1⟩) (fun hHeld => ?_)
          clear hK K
          refine norm_ (a' := ?_) ?_ ?_
          rotate_left
          · show Act.put _ (some 33) _ = _
            simp only [Act.put, List.setIfInBounds_toArray, List.set_cons_zero, List.set_cons_succ, i64_w, i32_w]
            rfl
          clear hbz y0 y1
          refine pure_ (i := 11) (N := some 34) (v := ?_) (a' := ?_) #[true, true, true, true, true, true, true, true, true, true, true, true] rfl rfl (by kernel_rfl) (fun _ _ _ h => h) (Or.inl ⟨by rfl, ?_⟩) ?_ ?_
          rotate_left
          · intro w'
            go_simp
            with_reducible rfl
          rotate_left
          · simp only [Act.put, List.setIfInBounds_toArray, List.set_cons_zero, List.set_cons_succ, i64_w, i32_w]
            rfl
          refine done_ (by kernel_rfl) ?_
          cases bb
          case true =>
            have hP := HP2.out
            rw [if_pos rfl] at hP
            have HP3 := Aside0.mk hP
            clear hP HP2
            go_wp2
            go_roundg (outs.length - (i + 1))
            case measure => exact om2 hil hgi
            case rel => exact ⟨i + 1, hil, Nat.le_refl _, by congr 1; (try exact om3 hil (Nat.le_trans (Nat.le_of_lt hol) (by decide))), HP3, ⟨HQ.out.trans (HZ.out.mono HQ.out.size)⟩, ⟨blk_below HGB.out HZ.out⟩⟩
          case false =>
            have hP := HP2.out
            rw [if_neg (by decide)] at hP
            obtain rfl := Option.some.inj hP
            have HT2 := HT2a
            clear hP HP2
            have HGBz := Aside0.mk (blk_below HGB.out HZ.out)
            have HOQz := Aside0.mk (Kd.F_mono (Kd.F_below HOQ.out HZ.out) (ok' := fun z => w.heap.size ≤ z ∧ z < wz.heap.size) (fun z hz => ⟨hz.1, Nat.lt_of_lt_of_le hz.2 HZ.out.size⟩))
            have HGFQz := Aside0.mk (Kd.FK_mono (Kd.FK_below HGFQ.out HZ.out) (ok' := fun z => w.heap.size ≤ z ∧ z < wz.heap.size) (fun z hz => ⟨hz.1, Nat.lt_of_lt_of_le hz.2 HZ.out.size⟩))
            have HA1z := Aside0.mk (HA1.out.trans (HZ.out.mono HA1.out.size))
            have HBQz := Aside0.mk (HBQ.out.trans (HZ.out.mono HBQ.out.size))
            clear HGB HOQ HGFQ HA1 HBQ HGC HGC2 HXC HBB HT2a HGF HQ
            have HGB := HGBz
            have HOQ := HOQz
            have HGFQ := HGFQz
            have HA1 := HA1z
            have HBQ := HBQz
            clear HGBz HOQz HGFQz HA1z HBQz HZ
            have hcut1 := cut_to (P := Tryz.prog) 51 46 .i64 Tryz.underlying51 hinf (some bd) outs.length co (i : Int) (Int.natCast_nonneg _) (Int.ofNat_le.2 hi) hoc
            simp only [Int.toNat_natCast] at hcut1
            have hcut2 := cut_from (P := Tryz.prog) 51 46 .i64 Tryz.underlying51 hinf 2 hinf2 (some bd) outs.length co (i : Int) (Int.natCast_nonneg _) (Int.ofNat_le.2 hi)
            simp only [Int.toNat_natCast] at hcut2
            obtain ⟨A2c, hA2c⟩ : ∃ A2c : Option Addr, A2c = (if co = i then (some bd) else ((some bd) : Option Addr).map (·.add (i * 2))) := ⟨_, rfl⟩
            obtain ⟨c2c, hc2c⟩ : ∃ c2c : Nat, c2c = co - i := ⟨_, rfl⟩
            obtain ⟨n2c, hn2c⟩ : ∃ n2c : Nat, n2c = outs.length - i := ⟨_, rfl⟩
            rw [← hA2c, ← hc2c, ← hn2c] at hcut2
            have hib : decide (0 ≤ (i : Int)) = true := decide_eq_true (Int.natCast_nonneg _)
            have hlt1 : (outs.take i).length = i := by rw [List.length_take]; exact Nat.min_eq_left hi
            have hld1 : (outs.drop i).length = outs.length - i := List.length_drop
            have HF1 := Aside0.mk (show Kd.F k46 wz (fun z => w.heap.size ≤ z ∧ z < wz.heap.size) (some bd) i (outs.take i) from by have := Kd.F_take HOQ.out hi; rwa [hlt1] at this)
            have HF2 := Aside0.mk (show Kd.F k46 wz (fun z => w.heap.size ≤ z ∧ z < wz.heap.size) A2c n2c (outs.drop i) from by have := Kd.F_cut HOQ.out hi hoc; rw [hld1] at this; rw [hA2c, hn2c]; exact this)
            have HN2c := Aside0.mk hn2c
            clear hA2c hc2c hn2c
            go_wp2_with fail
            refine start_ (n := 9) (S := fun w' => w'.cell? ⟨wo.heap.size, 0, none⟩ = some (.int .i64 g.f0) ∧ w'.cell? ⟨wo.heap.size, 1, none⟩ = some (.slice Ag g.f1.length cg)) (ds := []) #[false, false, false, false, false, false, false, false, false] (by kernel_rfl) rfl rfl (⟨(blk_cell (blk_drew HGB.out) 0).trans rfl, (blk_cell (blk_drew HGB.out) 1).trans rfl⟩) (fun hHeld => ?_)
            have HBD := Aside0.mk (HBQ.out.trans ((below_drew (Below.refl _ _)).mono HBQ.out.size))
            have HAD := Aside0.mk (Below.trans HA1.out ((below_drew (Below.refl _ _)).mono HA1.out.size))
            have HF1d := Aside0.mk (Kd.F_drew HF1.out)
            have HF2d := Aside0.mk (Kd.F_drew HF2.out)
            have HGd := Aside0.mk (blk_drew HGB.out)
            have HGFd := Aside0.mk (Kd.FK_below HGFQ.out (below_drew (Below.refl _ _)))
            have hsz : wz.drew.heap.size = wz.heap.size := rfl
            clear HF1 HF2 HGB HGFQ HOQ HBQ HA1
            rw [← hsz] at HF1d HF2d HGFd
            clear hsz
            generalize wz.drew = wd at *
            refine pure_ (i := 1) (N := some 38) (v := ?_) (a' := ?_) #[false, true, false, false, false, false, false, false, false] rfl rfl (by kernel_rfl) (fun _ _ _ h => h) (Or.inl ⟨by rfl, ?_⟩) ?_ ?_
            rotate_left
            · intro w'
              go_simp
              with_reducible rfl
            rotate_left
            · simp only [Act.put, List.setIfInBounds_toArray, List.set_cons_zero, List.set_cons_succ, i64_w, i32_w]
              rfl
            refine pure_ (i := 2) (N := some 39) (v := ?_) (a' := ?_) #[false, true, true, false, false, false, false, false, false] rfl rfl (by kernel_rfl) (fun _ _ _ h => h) (Or.inl ⟨by rfl, ?_⟩) ?_ ?_
            rotate_left
            · intro w'
              go_simp
              with_reducible rfl
            rotate_left
            · simp only [Act.put, List.setIfInBounds_toArray, List.set_cons_zero, List.set_cons_succ, i64_w, i32_w]
              rfl
            refine pure_ (i := 3) (N := some 40) (v := ?_) (a' := ?_) #[false, true, true, true, false, false, false, false, false] rfl rfl (by kernel_rfl) (fun _ _ _ h => h) (Or.inl ⟨by rfl, ?_⟩) ?_ ?_
            rotate_left
            · intro w'
              go_simp
              with_reducible rfl
            rotate_left
            · simp only [Act.put, List.setIfInBounds_toArray, List.set_cons_zero, List.set_cons_succ, i64_w, i32_w]
              rfl
            refine take_ (i := 5) (N := some 42) (v := ?_) (a' := ?_) #[false, true, true, true, false, true, false, false, false] rfl rfl (by kernel_rfl) (fun _ _ _ h => h) (Or.inl ⟨by rfl, ?_⟩) hHeld ?_ ?_
            rotate_left
            · rintro w' ⟨s0, s1⟩
              go_simp
              with_reducible rfl
            rotate_left
            · simp only [Act.put, List.setIfInBounds_toArray, List.set_cons_zero, List.set_cons_succ, i64_w, i32_w]
              rfl
            refine join_ (σ := Value × Value × Value) 2 #[true, true, true, true, true, true, true, false, false] (fun s_ => [(37, s_.1), (41, s_.2.1), (43, s_.2.2)]) (fun s_ w' => Kd.N k46 46 w' wd.heap.size (fun z => w.heap.size ≤ z) s_.2.1 (outs.take i) ∧ (∃ b, s_.2.2 = .slice (some ⟨b, 0, none⟩) 1 1 ∧ w'.heap[b]? = some (.cells #[.int .i64 g.f0, .slice Ag g.f1.length cg] 46 (0, 0)) ∧ some b ≠ s_.2.1.ownBlock) ∧ Below wd.heap.size wd w') ?_ ?_
            rotate_left
            · intro hCont
              refine two_ (i := 0) (j := 6) (Ni := some 37) (Nj := some 43) #[true, true, true, true, false, true, false, false, false] #[false, true, true, true, false, true, true, false, false] rfl rfl rfl rfl (by kernel_rfl) (by decide) (by decide) (fun K hK => ?_) (fun K hK => ?_)
              · refine Kd.N_lit_step k46 _ 46 ?hg (N' := 37) ?hd (xs := ([] : List S46)) (inner := []) (ok := fun _ => True) (okp := fun _ => False) ?hr ?hp (fun _ hk => hk.elim) trivial (Below.refl _ _) (Nat.le_refl _) (by simp) ?_
                case hd => rfl
                case hg => rfl
                case hr => first | (go_simp; done) | (go_simp; rfl)
                case hp => exact Reps.none _ _
                intro v37 wa hn37 hba _ hnew
                have HN37 := Aside0.mk (Kd.N_mono (Kd.N_lower hn37 (Nat.le_refl wd.heap.size)) (ok' := fun z => w.heap.size ≤ z ∨ True) (fun _ _ => .inr trivial))
                have hN37 : Kd.N k46 46 wa wd.heap.size (fun z => w.heap.size ≤ z) v37 [] := N_own hn37 (Nat.le_trans HBD.out.size (Nat.le_refl _))
                have HN37 := Aside0.mk hN37
                have HBa := Aside0.mk hba
                clear hn37 hba hN37 hnew
                refine hK.out _ _ ⟨(blk_cell (blk_below HGd.out HBa.out) 0).trans rfl, (blk_cell (blk_below HGd.out HBa.out) 1).trans rfl⟩ (fun hHeld => ?_)
                clear hK K
                refine norm_ (a' := ?_) ?_ ?_
                rotate_left
                · show Act.put _ (some 37) _ = _
                  simp only [Act.put, List.setIfInBounds_toArray, List.set_cons_zero, List.set_cons_succ, i64_w, i32_w]
                  rfl
                refine two_ (i := 4) (j := 6) (Ni := some 41) (Nj := some 43) #[true, true, true, true, true, true, false, false, false] #[true, true, true, true, false, true, true, false, false] rfl rfl rfl rfl (by kernel_rfl) (by decide) (by decide) (fun K hK => ?_) (fun K hK => ?_)
                · refine Kd.N_append_rows_step k46 (w0 := wd) wd.heap.size (by rfl) (.tmp 37) (.tmp 40) 51 46 (.agg #[(.int .i64 0), (.slice none 0 0)]) 32 rfl Tryz.underlying51 info46 rfl (by decide) (by omega) v37 [] (outs.take i) (some bd) i co (fun z => w.heap.size ≤ z) (fun z => w.heap.size ≤ z ∧ z < wd.heap.size) rfl rfl HN37.out (Kd.F_below HF1d.out HBa.out) (fun z hz => ⟨hz.1, fun he => by have := Kd.N_base HN37.out z he.symm; exact absurd hz.2 (Nat.not_lt.2 this)⟩) (fun z hz => Nat.le_trans HBD.out.size (Nat.le_trans (Below.size HBa.out) hz)) HBa.out (Below.size HBa.out) (by have := hol; simp; omega) ?_
                  intro v41 wb hn41 hbb hgb hat
                  rw [List.nil_append] at hn41
                  have HN41 := Aside0.mk hn41
                  have HBb := Aside0.mk hbb
                  clear hn41 hbb hgb hat HN37 HBa
                  refine hK.out _ _ ⟨(blk_cell (blk_below HGd.out HBb.out) 0).trans rfl, (blk_cell (blk_below HGd.out HBb.out) 1).trans rfl⟩ (fun hHeld => ?_)
                  clear hK K
                  refine norm_ (a' := ?_) ?_ ?_
                  rotate_left
                  · show Act.put _ (some 41) _ = _
                    simp only [Act.put, List.setIfInBounds_toArray, List.set_cons_zero, List.set_cons_succ, i64_w, i32_w]
                    rfl
                  refine one_ (i := 6) (N := some 43) #[true, true, true, true, true, true, true, false, false] rfl rfl (by kernel_rfl) (by decide) (fun K hK => ?_)
                  refine value_ (w1 := ?_) (v := ?_) (by rfl) rfl ?_ ?_
                  rotate_left 2
                  · go_simp
                    constructor
                    · rfl
                    · rfl
                  refine hK.out _ _ ⟨(blk_cell (blk_alloc (blk_below HGd.out HBb.out) _) 0).trans rfl, (blk_cell (blk_alloc (blk_below HGd.out HBb.out) _) 1).trans rfl⟩ (fun hHeld => ?_)
                  clear hK K
                  refine norm_ (a' := ?_) ?_ ?_
                  rotate_left
                  · show Act.put _ (some 43) _ = _
                    simp only [Act.put, List.setIfInBounds_toArray, List.set_cons_zero, List.set_cons_succ, i64_w, i32_w]
                    rfl
                  exact norm_ (by simp only [putAll, Act.put, List.setIfInBounds_toArray, List.set_cons_zero, List.set_cons_succ]) (hCont (v37, v41, .slice (some ⟨wb.heap.size, 0, none⟩) 1 1) _ ⟨Kd.N_alloc HN41.out _, ⟨_, rfl, blk_new wb _, fun he => Nat.lt_irrefl _ (Kd.N_lt HN41.out _ he.symm)⟩, HBb.out.alloc HBb.out.size _⟩)
                · refine value_ (w1 := ?_) (v := ?_) (by rfl) rfl ?_ ?_
                  rotate_left 2
                  · go_simp
                    constructor
                    · rfl
                    · rfl
                  refine hK.out _ _ ⟨(blk_cell (blk_alloc (blk_below HGd.out HBa.out) _) 0).trans rfl, (blk_cell (blk_alloc (blk_below HGd.out HBa.out) _) 1).trans rfl⟩ (fun hHeld => ?_)
                  clear hK K
                  refine norm_ (a' := ?_) ?_ ?_
                  rotate_left
                  · show Act.put _ (some 43) _ = _
                    simp only [Act.put, List.setIfInBounds_toArray, List.set_cons_zero, List.set_cons_succ, i64_w, i32_w]
                    rfl
                  have hb43 := blk_new wa (.cells #[.int .i64 g.f0, .slice Ag g.f1.length cg] 46 (0, 0))
                  have hne43 : some wa.heap.size ≠ v37.ownBlock := fun he => Nat.lt_irrefl _ (Kd.N_lt HN37.out _ he.symm)
                  have HN37b := Aside0.mk (Kd.N_alloc HN37.out (.cells #[.int .i64 g.f0, .slice Ag g.f1.length cg] 46 (0, 0)))
                  have HBab := Aside0.mk (HBa.out.alloc HBa.out.size (.cells #[.int .i64 g.f0, .slice Ag g.f1.length cg] 46 (0, 0)))
                  refine one_ (i := 4) (N := some 41) #[true, true, true, true, true, true, true, false, false] rfl rfl (by kernel_rfl) (by decide) (fun K hK => ?_)
                  refine Kd.N_append_rows_step k46 (w0 := wd) wd.heap.size (by rfl) (.tmp 37) (.tmp 40) 51 46 (.agg #[(.int .i64 0), (.slice none 0 0)]) 32 rfl Tryz.underlying51 info46 rfl (by decide) (by omega) v37 [] (outs.take i) (some bd) i co (fun z => w.heap.size ≤ z) (fun z => w.heap.size ≤ z ∧ z < wd.heap.size) rfl rfl HN37b.out (Kd.F_below HF1d.out HBab.out) (fun z hz => ⟨hz.1, fun he => by have := Kd.N_base HN37b.out z he.symm; exact absurd hz.2 (Nat.not_lt.2 this)⟩) (fun z hz => Nat.le_trans HBD.out.size (Nat.le_trans (Below.size HBab.out) hz)) HBab.out (Below.size HBab.out) (by have := hol; simp; omega) ?_
                  intro v41 wb hn41 hbb hgb hat
                  rw [List.nil_append] at hn41
                  have hb43' := blk_grown hb43 hgb hne43
                  have hne41 : some wa.heap.size ≠ v41.ownBlock := by
                    rcases hat with hat | ⟨bb, hbb', hle⟩
                    · rw [hat]; exact hne43
                    · rw [hbb']; intro he; injection he with he; have := blk_lt hb43; omega
                  refine hK.out _ _ ⟨(blk_cell (blk_below HGd.out hbb) 0).trans rfl, (blk_cell (blk_below HGd.out hbb) 1).trans rfl⟩ (fun hHeld => ?_)
                  clear hK K
                  refine norm_ (a' := ?_) ?_ ?_
                  rotate_left
                  · show Act.put _ (some 41) _ = _
                    simp only [Act.put, List.setIfInBounds_toArray, List.set_cons_zero, List.set_cons_succ, i64_w, i32_w]
                    rfl
                  exact norm_ (by simp only [putAll, Act.put, List.setIfInBounds_toArray, List.set_cons_zero, List.set_cons_succ]) (hCont (v37, v41, .slice (some ⟨wa.heap.size, 0, none⟩) 1 1) _ ⟨hn41, ⟨_, rfl, hb43', hne41⟩, hbb⟩)
              · refine value_ (w1 := ?_) (v := ?_) (by rfl) rfl ?_ ?_
                rotate_left 2
                · go_simp
                  constructor
                  · rfl
                  · rfl
                refine hK.out _ _ ⟨(blk_cell (blk_alloc HGd.out _) 0).trans rfl, (blk_cell (blk_alloc HGd.out _) 1).trans rfl⟩ (fun hHeld => ?_)
                clear hK K
                refine norm_ (a' := ?_) ?_ ?_
                rotate_left
                · show Act.put _ (some 43) _ = _
                  simp only [Act.put, List.setIfInBounds_toArray, List.set_cons_zero, List.set_cons_succ, i64_w, i32_w]
                  rfl
                have hb430 := blk_new wd (.cells #[.int .i64 g.f0, .slice Ag g.f1.length cg] 46 (0, 0))
                have HBe := Aside0.mk ((Below.refl _ wd).alloc (Nat.le_refl _) (.cells #[.int .i64 g.f0, .slice Ag g.f1.length cg] 46 (0, 0)))
                refine one_ (i := 0) (N := some 37) #[true, true, true, true, false, true, true, false, false] rfl rfl (by kernel_rfl) (by decide) (fun K hK => ?_)
                refine Kd.N_lit_step k46 _ 46 ?hg (N' := 37) ?hd (xs := ([] : List S46)) (inner := []) (ok := fun _ => True) (okp := fun _ => False) ?hr ?hp (fun _ hk => hk.elim) trivial (Below.refl _ _) (Nat.le_refl _) (by simp) ?_
                case hd => rfl
                case hg => rfl
                case hr => first | (go_simp; done) | (go_simp; rfl)
                case hp => exact Reps.none _ _
                intro v37 wa hn37 hba _ hnew
                have hN37 : Kd.N k46 46 wa wd.heap.size (fun z => w.heap.size ≤ z) v37 [] := Kd.N_lower (N_own hn37 (Nat.le_trans HBD.out.size HBe.out.size)) HBe.out.size
                have hb43 := blk_below hb430 hba
                have hne43 : some wd.heap.size ≠ v37.ownBlock := fun he => by have h1 := Kd.N_base hn37 _ he.symm; have h2 := blk_lt hb430; omega
                have HBab := Aside0.mk (HBe.out.trans (hba.mono HBe.out.size))
                have HN37b := Aside0.mk hN37
                clear hn37 hba hN37 hnew
                refine hK.out _ _ ⟨(blk_cell (blk_below HGd.out HBab.out) 0).trans rfl, (blk_cell (blk_below HGd.out HBab.out) 1).trans rfl⟩ (fun hHeld => ?_)
                clear hK K
                refine norm_ (a' := ?_) ?_ ?_
                rotate_left
                · show Act.put _ (some 37) _ = _
                  simp only [Act.put, List.setIfInBounds_toArray, List.set_cons_zero, List.set_cons_succ, i64_w, i32_w]
                  rfl
                refine one_ (i := 4) (N := some 41) #[true, true, true, true, true, true, true, false, false] rfl rfl (by kernel_rfl) (by decide) (fun K hK => ?_)
                refine Kd.N_append_rows_step k46 (w0 := wd) wd.heap.size (by rfl) (.tmp 37) (.tmp 40) 51 46 (.agg #[(.int .i64 0), (.slice none 0 0)]) 32 rfl Tryz.underlying51 info46 rfl (by decide) (by omega) v37 [] (outs.take i) (some bd) i co (fun z => w.heap.size ≤ z) (fun z => w.heap.size ≤ z ∧ z < wd.heap.size) rfl rfl HN37b.out (Kd.F_below HF1d.out HBab.out) (fun z hz => ⟨hz.1, fun he => by have := Kd.N_base HN37b.out z he.symm; exact absurd hz.2 (Nat.not_lt.2 this)⟩) (fun z hz => Nat.le_trans HBD.out.size (Nat.le_trans (Below.size HBab.out) hz)) HBab.out (Below.size HBab.out) (by have := hol; simp; omega) ?_
                intro v41 wb hn41 hbb hgb hat
                rw [List.nil_append] at hn41
                have hb43' := blk_grown hb43 hgb hne43
                have hne41 : some wd.heap.size ≠ v41.ownBlock := by
                  rcases hat with hat | ⟨bb, hbb', hle⟩
                  · rw [hat]; exact hne43
                  · rw [hbb']; intro he; injection he with he; have := blk_lt hb43; omega
                refine hK.out _ _ ⟨(blk_cell (blk_below HGd.out hbb) 0).trans rfl, (blk_cell (blk_below HGd.out hbb) 1).trans rfl⟩ (fun hHeld => ?_)
                clear hK K
                refine norm_ (a' := ?_) ?_ ?_
                rotate_left
                · show Act.put _ (some 41) _ = _
                  simp only [Act.put, List.setIfInBounds_toArray, List.set_cons_zero, List.set_cons_succ, i64_w, i32_w]
                  rfl
                exact norm_ (by simp only [putAll, Act.put, List.setIfInBounds_toArray, List.set_cons_zero, List.set_cons_succ]) (hCont (v37, v41, .slice (some ⟨wd.heap.size, 0, none⟩) 1 1) _ ⟨hn41, ⟨_, rfl, hb43', hne41⟩, hbb⟩)
            rintro ⟨v37, v41, v43⟩ w' ⟨hn41, ⟨b, hb43e, hb43, hne41⟩, hbw⟩
            dsimp only at hn41 hb43e hne41
            subst hb43e
            have HN41 := Aside0.mk hn41
            have HBW := Aside0.mk hbw
            have HB43 := Aside0.mk hb43
            have HNE := Aside0.mk hne41
            clear hn41 hbw hb43 hne41
            refine norm_ (a' := ?_) ?_ ?_
            rotate_left
            · simp only [putAll, Act.put, List.setIfInBounds_toArray, List.set_cons_zero, List.set_cons_succ]
              rfl
            refine one_ (i := 7) (N := some 44) #[true, true, true, true, true, true, true, true, false] rfl rfl (by kernel_rfl) (by decide) (fun K hK => ?_)
            refine N_append_rr_step k46 (w0 := wd) wd.heap.size (by rfl) (.tmp 41) (.tmp 43) 51 46 (.agg #[(.int .i64 0), (.slice none 0 0)]) 32 rfl Tryz.underlying51 info46 rfl (by decide) (by omega) v41 (outs.take i) [g] (some ⟨b, 0, none⟩) 1 1 (fun z => w.heap.size ≤ z) (fun z => w.heap.size ≤ z ∧ z < wd.heap.size) rfl rfl HN41.out (rr_one HB43.out (Kd.FK_below HGFd.out HBW.out)) (fun z hz => ⟨hz.1, fun he => by have := Kd.N_base HN41.out z he.symm; exact absurd hz.2 (Nat.not_lt.2 this)⟩) (fun z hz => Nat.le_trans HBD.out.size (Nat.le_trans HBW.out.size hz)) HBW.out HBW.out.size (by rw [hlt1]; have := hol; omega) ?_
            intro v44 wc hn44 hbc _ _
            obtain ⟨A44, c44, rfl⟩ := Kd.N_slice hn44
            have HN44 := Aside0.mk hn44
            have HBC := Aside0.mk hbc
            clear hn44 hbc HN41 HBW HB43 HNE
            refine hK.out _ _ ⟨(blk_cell (blk_below HGd.out HBC.out) 0).trans rfl, (blk_cell (blk_below HGd.out HBC.out) 1).trans rfl⟩ (fun hHeld => ?_)
            clear hK K
            refine norm_ (a' := ?_) ?_ ?_
            rotate_left
            · show Act.put _ (some 44) _ = _
              simp only [Act.put, List.setIfInBounds_toArray, List.set_cons_zero, List.set_cons_succ, i64_w, i32_w]
              rfl
            refine pure_ (i := 8) (N := some 10) (v := ?_) (a' := ?_) #[true, true, true, true, true, true, true, true, true] rfl rfl (by kernel_rfl) (fun _ _ _ h => h) (Or.inl ⟨by rfl, ?_⟩) ?_ ?_
            rotate_left
            · intro w'
              go_simp
              with_reducible rfl
            rotate_left
            · simp only [Act.put, List.setIfInBounds_toArray, List.set_cons_zero, List.set_cons_succ, i64_w, i32_w]
              rfl
            refine done_ (by kernel_rfl) ?_
            have hl44 : (outs.take i ++ [g]).length = i + 1 := by rw [List.length_append, hlt1]; rfl
            have hn44 := HN44.out
            rw [hl44] at hn44
            have HN45 := Aside0.mk hn44
            clear hn44 HN44
            go_wp2_with ((with_reducible refine gate_builtin (b := .append) (xs := #[.tmp 45, .tmp 48]) rfl ?_); at_builtin; refine Kd.N_append_rows k46 (w0 := wd) wd.heap.size rfl (.tmp 45) (.tmp 48) 51 46 (.agg #[(.int .i64 0), (.slice none 0 0)]) 32 rfl Tryz.underlying51 info46 rfl (by decide) (by omega) (.slice A44 (i + 1) c44) (outs.take i ++ [g]) (outs.drop i) A2c n2c c2c (fun z => w.heap.size ≤ z) (fun z => w.heap.size ≤ z ∧ z < wd.heap.size) rfl rfl HN45.out (Kd.F_below HF2d.out HBC.out) (fun z hz => ⟨hz.1, fun he => by have := Kd.N_base HN45.out z he.symm; exact absurd hz.2 (Nat.not_lt.2 this)⟩) (fun z hz => Nat.le_trans HBD.out.size (Nat.le_trans HBC.out.size hz)) HBC.out HBC.out.size (by rw [hl44, HN2c.out]; have := hol; omega) ?_; intro v49 we hn49 hbe _ _; obtain ⟨A49, c49, rfl⟩ := Kd.N_slice hn49; have HN49 := Aside0.mk hn49; have HBE := Aside0.mk hbe; clear hn49 hbe)
            have hl3 : (outs.take i ++ [g] ++ outs.drop i).length = outs.length + 1 := by rw [List.length_append, hl44, hld1]; exact om6 hi
            go_roundg (gs.length - (kk + 1))
            case measure => exact om2 hlt hg
            case rel => exact ⟨kk + 1, A49, c49, outs.take i ++ [g] ++ outs.drop i, hlt, Nat.le_refl _, by first | rfl | (simp; done) | (congr 1; simp; omega), by congr 1; (try exact om3 hlt (Nat.le_trans c1 (by decide))), ⟨by rw [hl3, HOL.out]⟩, (Kd.N_reads' HN49.out).2.1, HT2, ⟨Kd.F_bound (Kd.N_F HN49.out)⟩, ⟨HAD.out.trans (HBE.out.mono HAD.out.size)⟩⟩
        · have hiz : ¬ (i : Int) < (outs.length : Int) := fun e => hil (Int.ofNat_lt.1 e)
          have hizb : decide ((i : Int) < (outs.length : Int)) = false := decide_eq_false hiz
          have hie : i = outs.length := Nat.le_antisymm hi (Nat.le_of_not_lt hil)
          have hP := HPOS.out
          rw [List.drop_of_length_le (Nat.le_of_eq hie.symm)] at hP
          obtain rfl := Option.some.inj hP
          have HT2 := HT2a
          clear hP HPOS hie
          clear HGC HT2a HGF HQ
          go_wp2_with fail
          refine start_ (n := 12) (S := fun w' => w'.cell? ⟨wo.heap.size, 0, none⟩ = some (.int .i64 g.f0) ∧ w'.cell? ⟨wo.heap.size, 1, none⟩ = some (.slice Ag g.f1.length cg)) (ds := []) #[false, false, false, false, false, false, false, false, false, false, false, false] (by kernel_rfl) rfl rfl (⟨(blk_cell (blk_drew HGB.out) 0).trans rfl, (blk_cell (blk_drew HGB.out) 1).trans rfl⟩) (fun hHeld => ?_)
          have HDR := Aside0.mk (below_drew (Below.refl wr.heap.size wr))
          generalize hwd : wr.drew = wd0 at *
          refine pure_ (i := 0) (N := some 23) (v := ?_) (a' := ?_) #[true, false, false, false, false, false, false, false, false, false, false, false] rfl rfl (by kernel_rfl) (fun _ _ _ h => h) (Or.inl ⟨by rfl, ?_⟩) ?_ ?_
          rotate_left
          · intro w'
            go_simp
            with_reducible rfl
          rotate_left
          · simp only [Act.put, List.setIfInBounds_toArray, List.set_cons_zero, List.set_cons_succ, i64_w, i32_w]
            rfl
          refine pure_ (i := 1) (N := some 24) (v := ?_) (a' := ?_) #[true, true, false, false, false, false, false, false, false, false, false, false] rfl rfl (by kernel_rfl) (fun _ _ _ h => h) (Or.inl ⟨by rfl, ?_⟩) ?_ ?_
          rotate_left
          · intro w'
            go_simp
            with_reducible rfl
          rotate_left
          · simp only [Act.put, List.setIfInBounds_toArray, List.set_cons_zero, List.set_cons_succ, i64_w, i32_w]
            rfl
          refine pure_ (i := 2) (N := some 25) (v := ?_) (a' := ?_) #[true, true, true, false, false, false, false, false, false, false, false, false] rfl rfl (by kernel_rfl) (fun _ _ _ h => h) (Or.inl ⟨by rfl, ?_⟩) ?_ ?_
          rotate_left
          · intro w'
            go_simp
            with_reducible rfl
          rotate_left
          · simp only [Act.put, List.setIfInBounds_toArray, List.set_cons_zero, List.set_cons_succ, i64_w, i32_w]
            rfl
          refine pure_ (i := 3) (N := some 26) (v := ?_) (a' := ?_) #[true, true, true, true, false, false, false, false, false, false, false, false] rfl rfl (by kernel_rfl) (fun _ _ _ h => h) (Or.inl ⟨by rfl, ?_⟩) ?_ ?_
          rotate_left
          · intro w'
            go_simp
            with_reducible rfl
          rotate_left
          · simp only [Act.put, List.setIfInBounds_toArray, List.set_cons_zero, List.set_cons_succ, i64_w, i32_w]
            rfl
          refine pure_ (i := 4) (N := some 27) (v := ?_) (a' := ?_) #[true, true, true, true, true, false, false, false, false, false, false, false] rfl rfl (by kernel_rfl) (fun _ _ _ h => h) (Or.inl ⟨by rfl, ?_⟩) ?_ ?_
          rotate_left
          · intro w'
            go_simp
            with_reducible rfl
          rotate_left
          · simp only [Act.put, List.setIfInBounds_toArray, List.set_cons_zero, List.set_cons_succ, i64_w, i32_w]
            rfl
          refine pure_ (i := 5) (N := some 28) (v := undef) (a' := ?_) #[true, true, true, true, true, true, false, false, false, false, false, false] rfl rfl (by kernel_rfl) (fun _ _ _ h => h) (Or.inr ⟨by rfl, rfl⟩) ?_ ?_
          rotate_left
          · simp only [Act.put, List.setIfInBounds_toArray, List.set_cons_zero, List.set_cons_succ, i64_w, i32_w]
            rfl
          refine pure_ (i := 6) (N := some 29) (v := undef) (a' := ?_) #[true, true, true, true, true, true, true, false, false, false, false, false] rfl rfl (by kernel_rfl) (fun _ _ _ h => h) (Or.inr ⟨by rfl, rfl⟩) ?_ ?_
          rotate_left
          · simp only [Act.put, List.setIfInBounds_toArray, List.set_cons_zero, List.set_cons_succ, i64_w, i32_w]
            rfl
          refine pure_ (i := 7) (N := some 30) (v := undef) (a' := ?_) #[true, true, true, true, true, true, true, true, false, false, false, false] rfl rfl (by kernel_rfl) (fun _ _ _ h => h) (Or.inr ⟨by rfl, rfl⟩) ?_ ?_
          rotate_left
          · simp only [Act.put, List.setIfInBounds_toArray, List.set_cons_zero, List.set_cons_succ, i64_w, i32_w]
            rfl
          refine pure_ (i := 8) (N := some 31) (v := undef) (a' := ?_) #[true, true, true, true, true, true, true, true, true, false, false, false] rfl rfl (by kernel_rfl) (fun _ _ _ h => h) (Or.inr ⟨by rfl, rfl⟩) ?_ ?_
          rotate_left
          · simp only [Act.put, List.setIfInBounds_toArray, List.set_cons_zero, List.set_cons_succ, i64_w, i32_w]
            rfl
          refine pure_ (i := 9) (N := some 32) (v := undef) (a' := ?_) #[true, true, true, true, true, true, true, true, true, true, false, false] rfl rfl (by kernel_rfl) (fun _ _ _ h => h) (Or.inr ⟨by rfl, rfl⟩) ?_ ?_
          rotate_left
          · simp only [Act.put, List.setIfInBounds_toArray, List.set_cons_zero, List.set_cons_succ, i64_w, i32_w]
            rfl
          refine pure_ (i := 10) (N := some 33) (v := undef) (a' := ?_) #[true, true, true, true, true, true, true, true, true, true, true, false] rfl rfl (by kernel_rfl) (fun _ _ _ h => h) (Or.inr ⟨by rfl, rfl⟩) ?_ ?_
          rotate_left
          · simp only [Act.put, List.setIfInBounds_toArray, List.set_cons_zero, List.set_cons_succ, i64_w, i32_w]
            rfl
          refine pure_ (i := 11) (N := some 34) (v := ?_) (a' := ?_) #[true, true, true, true, true, true, true, true, true, true, true, true] rfl rfl (by kernel_rfl) (fun _ _ _ h => h) (Or.inl ⟨by rfl, ?_⟩) ?_ ?_
          rotate_left
          · intro w'
            go_simp
            with_reducible rfl
          rotate_left
          · simp only [Act.put, List.setIfInBounds_toArray, List.set_cons_zero, List.set_cons_succ, i64_w, i32_w]
            rfl
          refine done_ (by kernel_rfl) ?_
          have HGBd := Aside0.mk (blk_below HGB.out HDR.out)
          have HOQd := Aside0.mk (Kd.F_mono (Kd.F_below HOQ.out HDR.out) (ok' := fun z => w.heap.size ≤ z ∧ z < wd0.heap.size) (fun z hz => ⟨hz.1, Nat.lt_of_lt_of_le hz.2 HDR.out.size⟩))
          have HGFQd := Aside0.mk (Kd.FK_mono (Kd.FK_below HGFQ.out HDR.out) (ok' := fun z => w.heap.size ≤ z ∧ z < wd0.heap.size) (fun z hz => ⟨hz.1, Nat.lt_of_lt_of_le hz.2 HDR.out.size⟩))
          have HA1d := Aside0.mk (HA1.out.trans (HDR.out.mono HA1.out.size))
          have HBQd := Aside0.mk (HBQ.out.trans (HDR.out.mono HBQ.out.size))
          clear HGB HOQ HGFQ HA1 HBQ hHeld
          have HGB := HGBd
          have HOQ := HOQd
          have HGFQ := HGFQd
          have HA1 := HA1d
          have HBQ := HBQd
          clear HGBd HOQd HGFQd HA1d HBQd HDR
          go_wp2_with fail
          have hcut1 := cut_to (P := Tryz.prog) 51 46 .i64 Tryz.underlying51 hinf Ao outs.length co (i : Int) (Int.natCast_nonneg _) (Int.ofNat_le.2 hi) hoc
          simp only [Int.toNat_natCast] at hcut1
          have hcut2 := cut_from (P := Tryz.prog) 51 46 .i64 Tryz.underlying51 hinf 2 hinf2 Ao outs.length co (i : Int) (Int.natCast_nonneg _) (Int.ofNat_le.2 hi)
          simp only [Int.toNat_natCast] at hcut2
          obtain ⟨A2c, hA2c⟩ : ∃ A2c : Option Addr, A2c = (if co = i then Ao else (Ao : Option Addr).map (·.add (i * 2))) := ⟨_, rfl⟩
          obtain ⟨c2c, hc2c⟩ : ∃ c2c : Nat, c2c = co - i := ⟨_, rfl⟩
          obtain ⟨n2c, hn2c⟩ : ∃ n2c : Nat, n2c = outs.length - i := ⟨_, rfl⟩
          rw [← hA2c, ← hc2c, ← hn2c] at hcut2
          have hib : decide (0 ≤ (i : Int)) = true := decide_eq_true (Int.natCast_nonneg _)
          have hlt1 : (outs.take i).length = i := by rw [List.length_take]; exact Nat.min_eq_left hi
          have hld1 : (outs.drop i).length = outs.length - i := List.length_drop
          have HF1 := Aside0.mk (show Kd.F k46 wd0 (fun z => w.heap.size ≤ z ∧ z < wd0.heap.size) Ao i (outs.take i) from by have := Kd.F_take HOQ.out hi; rwa [hlt1] at this)
          have HF2 := Aside0.mk (show Kd.F k46 wd0 (fun z => w.heap.size ≤ z ∧ z < wd0.heap.size) A2c n2c (outs.drop i) from by have := Kd.F_cut HOQ.out hi hoc; rw [hld1] at this; rw [hA2c, hn2c]; exact this)
          have HN2c := Aside0.mk hn2c
          clear hA2c hc2c hn2c
          go_wp2_with fail
          refine start_ (n := 9) (S := fun w' => w'.cell? ⟨wo.heap.size, 0, none⟩ = some (.int .i64 g.f0) ∧ w'.cell? ⟨wo.heap.size, 1, none⟩ = some (.slice Ag g.f1.length cg)) (ds := []) #[false, false, false, false, false, false, false, false, false] (by kernel_rfl) rfl rfl (⟨(blk_cell (blk_drew HGB.out) 0).trans rfl, (blk_cell (blk_drew HGB.out) 1).trans rfl⟩) (fun hHeld => ?_)
          have HBD := Aside0.mk (HBQ.out.trans ((below_drew (Below.refl _ _)).mono HBQ.out.size))
          have HAD := Aside0.mk (Below.trans HA1.out ((below_drew (Below.refl _ _)).mono HA1.out.size))
          have HF1d := Aside0.mk (Kd.F_drew HF1.out)
          have HF2d := Aside0.mk (Kd.F_drew HF2.out)
          have HGd := Aside0.mk (blk_drew HGB.out)
          have HGFd := Aside0.mk (Kd.FK_below HGFQ.out (below_drew (Below.refl _ _)))
          have hsz : wd0.drew.heap.size = wd0.heap.size := rfl
          clear HF1 HF2 HGB HGFQ HOQ HBQ HA1
          rw [← hsz] at HF1d HF2d HGFd
          clear hsz
          generalize wd0.drew = wd at *
          refine pure_ (i := 1) (N := some 38) (v := ?_) (a' := ?_) #[false, true, false, false, false, false, false, false, false] rfl rfl (by kernel_rfl) (fun _ _ _ h => h) (Or.inl ⟨by rfl, ?_⟩) ?_ ?_
          rotate_left
          · intro w'
            go_simp
            with_reducible rfl
          rotate_left
          · simp only [Act.put, List.setIfInBounds_toArray, List.set_cons_zero, List.set_cons_succ, i64_w, i32_w]
            rfl
          refine pure_ (i := 2) (N := some 39) (v := ?_) (a' := ?_) #[false, true, true, false, false, false, false, false, false] rfl rfl (by kernel_rfl) (fun _ _ _ h => h) (Or.inl ⟨by rfl, ?_⟩) ?_ ?_
          rotate_left
          · intro w'
            go_simp
            with_reducible rfl
          rotate_left
          · simp only [Act.put, List.setIfInBounds_toArray, List.set_cons_zero, List.set_cons_succ, i64_w, i32_w]
            rfl
          refine pure_ (i := 3) (N := some 40) (v := ?_) (a' := ?_) #[false, true, true, true, false, false, false, false, false] rfl rfl (by kernel_rfl) (fun _ _ _ h => h) (Or.inl ⟨by rfl, ?_⟩) ?_ ?_
          rotate_left
          · intro w'
            go_simp
            with_reducible rfl
          rotate_left
          · simp only [Act.put, List.setIfInBounds_toArray, List.set_cons_zero, List.set_cons_succ, i64_w, i32_w]
            rfl
          refine take_ (i := 5) (N := some 42) (v := ?_) (a' := ?_) #[false, true, true, true, false, true, false, false, false] rfl rfl (by kernel_rfl) (fun _ _ _ h => h) (Or.inl ⟨by rfl, ?_⟩) hHeld ?_ ?_
          rotate_left
          · rintro w' ⟨s0, s1⟩
            go_simp
            with_reducible rfl
          rotate_left
          · simp only [Act.put, List.setIfInBounds_toArray, List.set_cons_zero, List.set_cons_succ, i64_w, i32_w]
            rfl
          refine join_ (σ := Value × Value × Value) 2 #[true, true, true, true, true, true, true, false, false] (fun s_ => [(37, s_.1), (41, s_.2.1), (43, s_.2.2)]) (fun s_ w' => Kd.N k46 46 w' wd.heap.size (fun z => w.heap.size ≤ z) s_.2.1 (outs.take i) ∧ (∃ b, s_.2.2 = .slice (some ⟨b, 0, none⟩) 1 1 ∧ w'.heap[b]? = some (.cells #[.int .i64 g.f0, .slice Ag g.f1.length cg] 46 (0, 0)) ∧ some b ≠ s_.2.1.ownBlock) ∧ Below wd.heap.size wd w') ?_ ?_
          rotate_left
          · intro hCont
            refine two_ (i := 0) (j := 6) (Ni := some 37) (Nj := some 43) #[true, true, true, true, false, true, false, false, false] #[false, true, true, true, false, true, true, false, false] rfl rfl rfl rfl (by kernel_rfl) (by decide) (by decide) (fun K hK => ?_) (fun K hK => ?_)
            · refine Kd.N_lit_step k46 _ 46 ?hg (N' := 37) ?hd (xs := ([] : List S46)) (inner := []) (ok := fun _ => True) (okp := fun _ => False) ?hr ?hp (fun _ hk => hk.elim) trivial (Below.refl _ _) (Nat.le_refl _) (by simp) ?_
              case hd => rfl
              case hg => rfl
              case hr => first | (go_simp; done) | (go_simp; rfl)
              case hp => exact Reps.none _ _
              intro v37 wa hn37 hba _ hnew
              have HN37 := Aside0.mk (Kd.N_mono (Kd.N_lower hn37 (Nat.le_refl wd.heap.size)) (ok' := fun z => w.heap.size ≤ z ∨ True) (fun _ _ => .inr trivial))
              have hN37 : Kd.N k46 46 wa wd.heap.size (fun z => w.heap.size ≤ z) v37 [] := N_own hn37 (Nat.le_trans HBD.out.size (Nat.le_refl _))
              have HN37 := Aside0.mk hN37
              have HBa := Aside0.mk hba
              clear hn37 hba hN37 hnew
              refine hK.out _ _ ⟨(blk_cell (blk_below HGd.out HBa.out) 0).trans rfl, (blk_cell (blk_below HGd.out HBa.out) 1).trans rfl⟩ (fun hHeld => ?_)
              clear hK K
              refine norm_ (a' := ?_) ?_ ?_
              rotate_left
              · show Act.put _ (some 37) _ = _
                simp only [Act.put, List.setIfInBounds_toArray, List.set_cons_zero, List.set_cons_succ, i64_w, i32_w]
                rfl
              refine two_ (i := 4) (j := 6) (Ni := some 41) (Nj := some 43) #[true, true, true, true, true, true, false, false, false] #[true, true, true, true, false, true, true, false, false] rfl rfl rfl rfl (by kernel_rfl) (by decide) (by decide) (fun K hK => ?_) (fun K hK => ?_)
              · refine Kd.N_append_rows_step k46 (w0 := wd) wd.heap.size (by rfl) (.tmp 37) (.tmp 40) 51 46 (.agg #[(.int .i64 0), (.slice none 0 0)]) 32 rfl Tryz.underlying51 info46 rfl (by decide) (by omega) v37 [] (outs.take i) Ao i co (fun z => w.heap.size ≤ z) (fun z => w.heap.size ≤ z ∧ z < wd.heap.size) rfl rfl HN37.out (Kd.F_below HF1d.out HBa.out) (fun z hz => ⟨hz.1, fun he => by have := Kd.N_base HN37.out z he.symm; exact absurd hz.2 (Nat.not_lt.2 this)⟩) (fun z hz => Nat.le_trans HBD.out.size (Nat.le_trans (Below.size HBa.out) hz)) HBa.out (Below.size HBa.out) (by have := hol; simp; omega) ?_
                intro v41 wb hn41 hbb hgb hat
                rw [List.nil_append] at hn41
                have HN41 := Aside0.mk hn41
                have HBb := Aside0.mk hbb
                clear hn41 hbb hgb hat HN37 HBa
                refine hK.out _ _ ⟨(blk_cell (blk_below HGd.out HBb.out) 0).trans rfl, (blk_cell (blk_below HGd.out HBb.out) 1).trans rfl⟩ (fun hHeld => ?_)
                clear hK K
                refine norm_ (a' := ?_) ?_ ?_
                rotate_left
                · show Act.put _ (some 41) _ = _
                  simp only [Act.put, List.setIfInBounds_toArray, List.set_cons_zero, List.set_cons_succ, i64_w, i32_w]
                  rfl
                refine one_ (i := 6) (N := some 43) #[true, true, true, true, true, true, true, false, false] rfl rfl (by kernel_rfl) (by decide) (fun K hK => ?_)
                refine value_ (w1 := ?_) (v := ?_) (by rfl) rfl ?_ ?_
                rotate_left 2
                · go_simp
                  constructor
                  · rfl
                  · rfl
                refine hK.out _ _ ⟨(blk_cell (blk_alloc (blk_below HGd.out HBb.out) _) 0).trans rfl, (blk_cell (blk_alloc (blk_below HGd.out HBb.out) _) 1).trans rfl⟩ (fun hHeld => ?_)
                clear hK K
                refine norm_ (a' := ?_) ?_ ?_
                rotate_left
                · show Act.put _ (some 43) _ = _
                  simp only [Act.put, List.setIfInBounds_toArray, List.set_cons_zero, List.set_cons_succ, i64_w, i32_w]
                  rfl
                exact norm_ (by simp only [putAll, Act.put, List.setIfInBounds_toArray, List.set_cons_zero, List.set_cons_succ]) (hCont (v37, v41, .slice (some ⟨wb.heap.size, 0, none⟩) 1 1) _ ⟨Kd.N_alloc HN41.out _, ⟨_, rfl, blk_new wb _, fun he => Nat.lt_irrefl _ (Kd.N_lt HN41.out _ he.symm)⟩, HBb.out.alloc HBb.out.size _⟩)
              · refine value_ (w1 := ?_) (v := ?_) (by rfl) rfl ?_ ?_
                rotate_left 2
                · go_simp
                  constructor
                  · rfl
                  · rfl
                refine hK.out _ _ ⟨(blk_cell (blk_alloc (blk_below HGd.out HBa.out) _) 0).trans rfl, (blk_cell (blk_alloc (blk_below HGd.out HBa.out) _) 1).trans rfl⟩ (fun hHeld => ?_)
                clear hK K
                refine norm_ (a' := ?_) ?_ ?_
                rotate_left
                · show Act.put _ (some 43) _ = _
                  simp only [Act.put, List.setIfInBounds_toArray, List.set_cons_zero, List.set_cons_succ, i64_w, i32_w]
                  rfl
                have hb43 := blk_new wa (.cells #[.int .i64 g.f0, .slice Ag g.f1.length cg] 46 (0, 0))
                have hne43 : some wa.heap.size ≠ v37.ownBlock := fun he => Nat.lt_irrefl _ (Kd.N_lt HN37.out _ he.symm)
                have HN37b := Aside0.mk (Kd.N_alloc HN37.out (.cells #[.int .i64 g.f0, .slice Ag g.f1.length cg] 46 (0, 0)))
                have HBab := Aside0.mk (HBa.out.alloc HBa.out.size (.cells #[.int .i64 g.f0, .slice Ag g.f1.length cg] 46 (0, 0)))
                refine one_ (i := 4) (N := some 41) #[true, true, true, true, true, true, true, false, false] rfl rfl (by kernel_rfl) (by decide) (fun K hK => ?_)
                refine Kd.N_append_rows_step k46 (w0 := wd) wd.heap.size (by rfl) (.tmp 37) (.tmp 40) 51 46 (.agg #[(.int .i64 0), (.slice none 0 0)]) 32 rfl Tryz.underlying51 info46 rfl (by decide) (by omega) v37 [] (outs.take i) Ao i co (fun z => w.heap.size ≤ z) (fun z => w.heap.size ≤ z ∧ z < wd.heap.size) rfl rfl HN37b.out (Kd.F_below HF1d.out HBab.out) (fun z hz => ⟨hz.1, fun he => by have := Kd.N_base HN37b.out z he.symm; exact absurd hz.2 (Nat.not_lt.2 this)⟩) (fun z hz => Nat.le_trans HBD.out.size (Nat.le_trans (Below.size HBab.out) hz)) HBab.out (Below.size HBab.out) (by have := hol; simp; omega) ?_
                intro v41 wb hn41 hbb hgb hat
                rw [List.nil_append] at hn41
                have hb43' := blk_grown hb43 hgb hne43
                have hne41 : some wa.heap.size ≠ v41.ownBlock := by
                  rcases hat with hat | ⟨bb, hbb', hle⟩
                  · rw [hat]; exact hne43
                  · rw [hbb']; intro he; injection he with he; have := blk_lt hb43; omega
                refine hK.out _ _ ⟨(blk_cell (blk_below HGd.out hbb) 0).trans rfl, (blk_cell (blk_below HGd.out hbb) 1).trans rfl⟩ (fun hHeld => ?_)
                clear hK K
                refine norm_ (a' := ?_) ?_ ?_
                rotate_left
                · show Act.put _ (some 41) _ = _
                  simp only [Act.put, List.setIfInBounds_toArray, List.set_cons_zero, List.set_cons_succ, i64_w, i32_w]
                  rfl
                exact norm_ (by simp only [putAll, Act.put, List.setIfInBounds_toArray, List.set_cons_zero, List.set_cons_succ]) (hCont (v37, v41, .slice (some ⟨wa.heap.size, 0, none⟩) 1 1) _ ⟨hn41, ⟨_, rfl, hb43', hne41⟩, hbb⟩)
            · refine value_ (w1 := ?_) (v := ?_) (by rfl) rfl ?_ ?_
              rotate_left 2
              · go_simp
                constructor
                · rfl
                · rfl
              refine hK.out _ _ ⟨(blk_cell (blk_alloc HGd.out _) 0).trans rfl, (blk_cell (blk_alloc HGd.out _) 1).trans rfl⟩ (fun hHeld => ?_)
              clear hK K
              refine norm_ (a' := ?_) ?_ ?_
              rotate_left
              · show Act.put _ (some 43) _ = _
                simp only [Act.put, List.setIfInBounds_toArray, List.set_cons_zero, List.set_cons_succ, i64_w, i32_w]
                rfl
              have hb430 := blk_new wd (.cells #[.int .i64 g.f0, .slice Ag g.f1.length cg] 46 (0, 0))
              have HBe := Aside0.mk ((Below.refl _ wd).alloc (Nat.le_refl _) (.cells #[.int .i64 g.f0, .slice Ag g.f1.length cg] 46 (0, 0)))
              refine one_ (i := 0) (N := some 37) #[true, true, true, true, false, true, true, false, false] rfl rfl (by kernel_rfl) (by decide) (fun K hK => ?_)
              refine Kd.N_lit_step k46 _ 46 ?hg (N' := 37) ?hd (xs := ([] : List S46)) (inner := []) (ok := fun _ => True) (okp := fun _ => False) ?hr ?hp (fun _ hk => hk.elim) trivial (Below.refl _ _) (Nat.le_refl _) (by simp) ?_
              case hd => rfl
              case hg => rfl
              case hr => first | (go_simp; done) | (go_simp; rfl)
              case hp => exact Reps.none _ _
              intro v37 wa hn37 hba _ hnew
              have hN37 : Kd.N k46 46 wa wd.heap.size (fun z => w.heap.size ≤ z) v37 [] := Kd.N_lower (N_own hn37 (Nat.le_trans HBD.out.size HBe.out.size)) HBe.out.size
              have hb43 := blk_below hb430 hba
              have hne43 : some wd.heap.size ≠ v37.ownBlock := fun he => by have h1 := Kd.N_base hn37 _ he.symm; have h2 := blk_lt hb430; omega
              have HBab := Aside0.mk (HBe.out.trans (hba.mono HBe.out.size))
              have HN37b := Aside0.mk hN37
              clear hn37 hba hN37 hnew
              refine hK.out _ _ ⟨(blk_cell (blk_below HGd.out HBab.out) 0).trans rfl, (blk_cell (blk_below HGd.out HBab.out) 1).trans rfl⟩ (fun hHeld => ?_)
              clear hK K
              refine norm_ (a' := ?_) ?_ ?_
              rotate_left
              · show Act.put _ (some 37) _ = _
                simp only [Act.put, List.setIfInBounds_toArray, List.set_cons_zero, List.set_cons_succ, i64_w, i32_w]
                rfl
              refine one_ (i := 4) (N := some 41) #[true, true, true, true, true, true, true, false, false] rfl rfl (by kernel_rfl) (by decide) (fun K hK => ?_)
              refine Kd.N_append_rows_step k46 (w0 := wd) wd.heap.size (by rfl) (.tmp 37) (.tmp 40) 51 46 (.agg #[(.int .i64 0), (.slice none 0 0)]) 32 rfl Tryz.underlying51 info46 rfl (by decide) (by omega) v37 [] (outs.take i) Ao i co (fun z => w.heap.size ≤ z) (fun z => w.heap.size ≤ z ∧ z < wd.heap.size) rfl rfl HN37b.out (Kd.F_below HF1d.out HBab.out) (fun z hz => ⟨hz.1, fun he => by have := Kd.N_base HN37b.out z he.symm; exact absurd hz.2 (Nat.not_lt.2 this)⟩) (fun z hz => Nat.le_trans HBD.out.size (Nat.le_trans (Below.size HBab.out) hz)) HBab.out (Below.size HBab.out) (by have := hol; simp; omega) ?_
              intro v41 wb hn41 hbb hgb hat
              rw [List.nil_append] at hn41
              have hb43' := blk_grown hb43 hgb hne43
              have hne41 : some wd.heap.size ≠ v41.ownBlock := by
                rcases hat with hat | ⟨bb, hbb', hle⟩
                · rw [hat]; exact hne43
                · rw [hbb']; intro he; injection he with he; have := blk_lt hb43; omega
              refine hK.out _ _ ⟨(blk_cell (blk_below HGd.out hbb) 0).trans rfl, (blk_cell (blk_below HGd.out hbb) 1).trans rfl⟩ (fun hHeld => ?_)
              clear hK K
              refine norm_ (a' := ?_) ?_ ?_
              rotate_left
              · show Act.put _ (some 41) _ = _
                simp only [Act.put, List.setIfInBounds_toArray, List.set_cons_zero, List.set_cons_succ, i64_w, i32_w]
                rfl
              exact norm_ (by simp only [putAll, Act.put, List.setIfInBounds_toArray, List.set_cons_zero, List.set_cons_succ]) (hCont (v37, v41, .slice (some ⟨wd.heap.size, 0, none⟩) 1 1) _ ⟨hn41, ⟨_, rfl, hb43', hne41⟩, hbb⟩)
          rintro ⟨v37, v41, v43⟩ w' ⟨hn41, ⟨b, hb43e, hb43, hne41⟩, hbw⟩
          dsimp only at hn41 hb43e hne41
          subst hb43e
          have HN41 := Aside0.mk hn41
          have HBW := Aside0.mk hbw
          have HB43 := Aside0.mk hb43
          have HNE := Aside0.mk hne41
          clear hn41 hbw hb43 hne41
          refine norm_ (a' := ?_) ?_ ?_
          rotate_left
          · simp only [putAll, Act.put, List.setIfInBounds_toArray, List.set_cons_zero, List.set_cons_succ]
            rfl
          refine one_ (i := 7) (N := some 44) #[true, true, true, true, true, true, true, true, false] rfl rfl (by kernel_rfl) (by decide) (fun K hK => ?_)
          refine N_append_rr_step k46 (w0 := wd) wd.heap.size (by rfl) (.tmp 41) (.tmp 43) 51 46 (.agg #[(.int .i64 0), (.slice none 0 0)]) 32 rfl Tryz.underlying51 info46 rfl (by decide) (by omega) v41 (outs.take i) [g] (some ⟨b, 0, none⟩) 1 1 (fun z => w.heap.size ≤ z) (fun z => w.heap.size ≤ z ∧ z < wd.heap.size) rfl rfl HN41.out (rr_one HB43.out (Kd.FK_below HGFd.out HBW.out)) (fun z hz => ⟨hz.1, fun he => by have := Kd.N_base HN41.out z he.symm; exact absurd hz.2 (Nat.not_lt.2 this)⟩) (fun z hz => Nat.le_trans HBD.out.size (Nat.le_trans HBW.out.size hz)) HBW.out HBW.out.size (by rw [hlt1]; have := hol; omega) ?_
          intro v44 wc hn44 hbc _ _
          obtain ⟨A44, c44, rfl⟩ := Kd.N_slice hn44
          have HN44 := Aside0.mk hn44
          have HBC := Aside0.mk hbc
          clear hn44 hbc HN41 HBW HB43 HNE
          refine hK.out _ _ ⟨(blk_cell (blk_below HGd.out HBC.out) 0).trans rfl, (blk_cell (blk_below HGd.out HBC.out) 1).trans rfl⟩ (fun hHeld => ?_)
          clear hK K
          refine norm_ (a' := ?_) ?_ ?_
          rotate_left
          · show Act.put _ (some 44) _ = _
            simp only [Act.put, List.setIfInBounds_toArray, List.set_cons_zero, List.set_cons_succ, i64_w, i32_w]
            rfl
          refine pure_ (i := 8) (N := some 10) (v := ?_) (a' := ?_) #[true, true, true, true, true, true, true, true, true] rfl rfl (by kernel_rfl) (fun _ _ _ h => h) (Or.inl ⟨by rfl, ?_⟩) ?_ ?_
          rotate_left
          · intro w'
            go_simp
            with_reducible rfl
          rotate_left
          · simp only [Act.put, List.setIfInBounds_toArray, List.set_cons_zero, List.set_cons_succ, i64_w, i32_w]
            rfl
          refine done_ (by kernel_rfl) ?_
          have hl44 : (outs.take i ++ [g]).length = i + 1 := by rw [List.length_append, hlt1]; rfl
          have hn44 := HN44.out
          rw [hl44] at hn44
          have HN45 := Aside0.mk hn44
          clear hn44 HN44
          go_wp2_with ((with_reducible refine gate_builtin (b := .append) (xs := #[.tmp 45, .tmp 48]) rfl ?_); at_builtin; refine Kd.N_append_rows k46 (w0 := wd) wd.heap.size rfl (.tmp 45) (.tmp 48) 51 46 (.agg #[(.int .i64 0), (.slice none 0 0)]) 32 rfl Tryz.underlying51 info46 rfl (by decide) (by omega) (.slice A44 (i + 1) c44) (outs.take i ++ [g]) (outs.drop i) A2c n2c c2c (fun z => w.heap.size ≤ z) (fun z => w.heap.size ≤ z ∧ z < wd.heap.size) rfl rfl HN45.out (Kd.F_below HF2d.out HBC.out) (fun z hz => ⟨hz.1, fun he => by have := Kd.N_base HN45.out z he.symm; exact absurd hz.2 (Nat.not_lt.2 this)⟩) (fun z hz => Nat.le_trans HBD.out.size (Nat.le_trans HBC.out.size hz)) HBC.out HBC.out.size (by rw [hl44, HN2c.out]; have := hol; omega) ?_; intro v49 we hn49 hbe _ _; obtain ⟨A49, c49, rfl⟩ := Kd.N_slice hn49; have HN49 := Aside0.mk hn49; have HBE := Aside0.mk hbe; clear hn49 hbe)
          have hl3 : (outs.take i ++ [g] ++ outs.drop i).length = outs.length + 1 := by rw [List.length_append, hl44, hld1]; exact om6 hi
          go_roundg (gs.length - (kk + 1))
          case measure => exact om2 hlt hg
          case rel => exact ⟨kk + 1, A49, c49, outs.take i ++ [g] ++ outs.drop i, hlt, Nat.le_refl _, by first | rfl | (simp; done) | (congr 1; simp; omega), by congr 1; (try exact om3 hlt (Nat.le_trans c1 (by decide))), ⟨by rw [hl3, HOL.out]⟩, (Kd.N_reads' HN49.out).2.1, HT2, ⟨Kd.F_bound (Kd.N_F HN49.out)⟩, ⟨HAD.out.trans (HBE.out.mono HAD.out.size)⟩⟩
    · have hkl : kk = gs.length := Nat.le_antisymm hkk (Nat.le_of_not_lt hlt)
      have hltz : ¬ (kk : Int) < (gs.length : Int) := fun e => hlt (Int.ofNat_lt.1 e)
      subst hkl
      have hT := HT.out
      rw [List.drop_length] at hT
      obtain rfl := Option.some.inj hT
      go_wp2
      go_ret
      exact ⟨_, rfl, ⟨Ao, co, rfl, hoc, Kd.F_mono HO.out (fun z hz => hz.1)⟩, HB.out.trans (HB1.out.mono HB.out.size)⟩
end Go.Proofs.YtgjakcpbfbfejaaGreat.Q
end

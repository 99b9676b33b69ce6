/- Part 7 of the proof of FnChambersNeededOfAll: what it leans on (no condition). -/
import Derived.Test.YtodchjdgpnpdcaaGreatKFnChambersNeededOfAll6
section
namespace Go.Proofs.YtodchjdgpnpdcaaGreat.Q
open Go.RowKit Go.Proofs.YtodchjdgpnpdcaaGreatW.PrintWords Go.Proofs.YtodchjdgpnpdcaaGreatW.PrintLast Go.Proofs.YtodchjdgpnpdcaaGreatW.PrintMore
set_option linter.unusedVariables false
set_option linter.unusedSimpArgs false
set_option maxHeartbeats 8000000
set_option maxRecDepth 100000
theorem FL : ∀ k, k < 4 → RL k = true := by decide +kernel
def Io (a : Nat) : Bool := (Oh 4).all fun b => !(a &&& b == a) || PM 5 (a + b * 2 ^ 2 ^ 4)
theorem YO : (((Oh 4).drop 0).take 14).all Io = true := by decide +kernel
theorem JO : (((Oh 4).drop 14).take 14).all Io = true := by decide +kernel
theorem VO : (((Oh 4).drop 28).take 14).all Io = true := by decide +kernel
theorem WO : (((Oh 4).drop 42).take 14).all Io = true := by decide +kernel
theorem XO : (((Oh 4).drop 56).take 14).all Io = true := by decide +kernel
theorem UO : (((Oh 4).drop 70).take 14).all Io = true := by decide +kernel
theorem MO : (((Oh 4).drop 84).take 14).all Io = true := by decide +kernel
theorem PO : (((Oh 4).drop 98).take 14).all Io = true := by decide +kernel
theorem QO : (((Oh 4).drop 112).take 14).all Io = true := by decide +kernel
theorem RO : (((Oh 4).drop 126).take 14).all Io = true := by decide +kernel
theorem qN : (((Oh 4).drop 140).take 14).all Io = true := by decide +kernel
theorem yN : (((Oh 4).drop 154).take 14).all Io = true := by decide +kernel
theorem Wj {α : Type} (p : α → Bool) (l : List α) (n m : Nat) (h1 : ((l.drop n).take m).all p = true) (h2 : (l.drop (n + m)).all p = true) : (l.drop n).all p = true := by
 rw [← List.take_append_drop m (l.drop n), List.all_append, h1, List.drop_drop, h2]; rfl
theorem IL : RL 4 = true := by
 have h12 : ((Oh 4).drop 168).all Io = true := by decide +kernel
 have h11 := Wj Io (Oh 4) 154 14 yN h12;have h10 := Wj Io (Oh 4) 140 14 qN h11;have h9 := Wj Io (Oh 4) 126 14 RO h10;have h8 := Wj Io (Oh 4) 112 14 QO h9;have h7 := Wj Io (Oh 4) 98 14 PO h8;have h6 := Wj Io (Oh 4) 84 14 MO h7;have h5 := Wj Io (Oh 4) 70 14 UO h6;have h4 := Wj Io (Oh 4) 56 14 XO h5;have h3 := Wj Io (Oh 4) 42 14 WO h4;have h2 := Wj Io (Oh 4) 28 14 VO h3;have h1 := Wj Io (Oh 4) 14 14 JO h2;have h0 := Wj Io (Oh 4) 0 14 YO h1;exact h0
theorem VJ : ∀ k, k < 5 → RL k = true := fun k hk => by
 by_cases h : k < 4
 ·exact FL k h
 ·obtain rfl : k = 4 := by omega
  exact IL
theorem Iy : ∀ (l : List Int) (m : Nat), m ≤ maskN m l
 | [], _ => Nat.le_refl _
 | x :: l, m => Nat.le_trans Nat.left_le_or (Iy l _)
theorem Ju (l : List (List Int)) (N : Nat) : JG (Vg l) N := fun m m' _ _ e h => by
 unfold Vg at *
 rw [List.any_eq_true] at *
 obtain ⟨s, hs, h⟩ := h;refine ⟨s, hs, ?_⟩;rw [beq_iff_eq] at *
 rw [← h, ← Nat.and_assoc, e]
theorem yn (l : List (List Int)) (h : ∀ s ∈ l, s ≠ []) : Vg l 0 = false := by
 unfold Vg;rw [List.any_eq_false];intro s hs e;rw [beq_iff_eq, Nat.zero_and] at e;match s, h s hs with
 | x :: s, _ =>
  have h1 := Iy s (0 ||| 2 ^ x.toNat);have h2 := Nat.two_pow_pos x.toNat
  rw [Nat.zero_or] at h1;rw [maskN, Nat.zero_or] at e;omega
theorem Yp (l : List (List Int)) (n : Nat) (hl : l ≠ []) (h : ∀ s ∈ l, maskN 0 s < 2 ^ n) : Vg l (2 ^ n - 1) = true := by
 unfold Vg;rw [List.any_eq_true];obtain ⟨s, hs⟩ := List.exists_mem_of_ne_nil l hl;refine ⟨s, hs, ?_⟩;rw [beq_iff_eq, Nat.and_comm, Nat.and_two_pow_sub_one_eq_mod];exact Nat.mod_eq_of_lt (h s hs)
def JA (g : Nat → Bool) (n i j : Nat) : Bool := Xn (wsB g i j) (2 ^ n) 0 || Xn (wsB g j i) (2 ^ n) 0
theorem Gx (g : Nat → Bool) (n i j : Nat) (hn : n ≤ 9) (hi : i < n) (hj : j < n) : Ev (fun k => Ng.f k (Vf g (2 ^ n)) (i : Int) (j : Int)) (!JA g n i j) := by
 unfold Ng.f JA;refine Ev.bind (Vk g n i j hn hi hj) (Ie (fun h => Rb (Ev.now _) (by rw [h]; rfl)) (fun h => ?_));exact Ev.bind (Vk g n j i hn hj hi) (Rb (Ev.now _) (by rw [h, Bool.false_or]))
def WJ (g : Nat → Bool) (n i : Nat) : Bool := (List.range i).all fun j => JA g n i j
def Vu (g : Nat → Bool) (n : Nat) : Bool := (List.range n).all fun i => WJ g n i
theorem Yn (g : Nat → Bool) (n : Nat) (hn : n ≤ 9) : Ev (fun k => Ia.f k (Vf g (2 ^ n)) (n : Int)) (Vu g n) := by
 unfold Ia.f;have := Ld n (fun k i => Ia.l0 k (Vf g (2 ^ n)) (n : Int) (i : Int)) (fun i => ((List.range n).drop i).all fun i => WJ g n i) ?_ ?_ 0 (Nat.zero_le _)
 ·exact this
 ·refine Ba ?_;simp only [Ia.l0];exact Vb (Int.lt_irrefl _) (Rb (Ev.now _) (by rw [List.drop_eq_nil_of_le (by simp)]; rfl))
 ·intro i hi ih;refine Ba ?_;simp only [Ia.l0];refine Xa (by omega) ?_;have := Ld i (fun k j => Ia.l1 k (Vf g (2 ^ n)) (n : Int) (i : Int) (j : Int)) (fun j => ((List.range i).drop j).all (fun j => JA g n i j) && ((List.range n).drop (i + 1)).all fun i => WJ g n i) ?_ ?_ 0 (Nat.zero_le _)
  ·rw [Pi n i hi, List.all_cons];exact this
  ·refine Ba ?_;simp only [Ia.l1];refine Vb (Int.lt_irrefl _) ?_;rw [Eb hi (by omega)];exact Rb ih (by rw [show (List.range i).drop i = [] from List.drop_eq_nil_of_le (by simp)]; rfl)
  ·intro j hj ih2;refine Ba ?_;simp only [Ia.l1];refine Xa (by omega) (Ev.bind (Gx g n i j hn hi (by omega)) ?_);rw [Eb hj (by omega), Pi i j hj, List.all_cons];cases h : JA g n i j with
   | true => exact Vb (by decide) (Rb ih2 (by rw [Bool.true_and]))
   | false => exact Xa (by decide) (Rb (Ev.now _) rfl)
theorem Wu (n : Nat) (l : List (List Int)) (hl : l.length ≤ 1048576) (hs : Jg (n : Int) l) (hn : 1 ≤ n ∧ n ≤ 5) (hne : l ≠ []) (hs0 : ∀ s ∈ l, s ≠ []) :
 (Vu (Vg l) n = true → ∃ p : Int × List Int, (p.2.length ≤ 9 ∧ ∀ w ∈ p.2, 0 ≤ w ∧ w ≤ 5000) ∧ Ev (fun k => Md.f k (n : Int) l) (p.1, p.2, true) ∧ Ev (fun k => Yd.f k (n : Int) (Vf (Vg l) (2 ^ n))) (p.1, p.2, true) ∧ Ev (fun k => Bb.f k (n : Int) (Vf (Vg l) (2 ^ n))) ([], [], false) ∧ ((p.2.length = n ∧ ∀ w ∈ p.2, w ≤ 60) ∧ ∃ W q, W.length = n ∧ (∀ m, m < 2 ^ n → Vg l m = gW W q m) ∧ Ho (gW W q) (2 ^ n) p.2 = some p.1)) ∧
 (Vu (Vg l) n = false → ∃ a b, Ev (fun k => Md.f k (n : Int) l) (0, [], false) ∧ Ev (fun k => Yd.f k (n : Int) (Vf (Vg l) (2 ^ n))) (0, [], false) ∧ Ev (fun k => Bb.f k (n : Int) (Vf (Vg l) (2 ^ n))) (a, b, true)) := by
 have hgm : Ev (fun k => Be.f k (n : Int) l) (Vf (Vg l) (2 ^ n)) := by
  unfold Be.f;exact Ev.bind (Bq (n : Int) l hl hs) (Rb (Ev.now _) (by unfold Tu; rw [Int.toNat_natCast]))
 have h2 := Vs (fun _ _ _ _ => some true) (fun _ _ _ _ => true) (fun _ _ _ _ _ => rfl) (Vg l) n (by omega);have hcm := Yn (Vg l) n (by omega);refine ⟨fun hcom => ?_, fun hcom => ?_⟩
 ·have hpair : ∀ i j, i < n → j < i → JA (Vg l) n i j = true := fun i j hi hj => by
   have := List.all_eq_true.1 hcom i (List.mem_range.2 hi);exact List.all_eq_true.1 this j (List.mem_range.2 hj)
  obtain ⟨W, q, hW, hlen, hq1, hq2, hq3, hg⟩ := yO VJ (Vg l) n hn (Ju l _) (yn l hs0) (Yp l n hne (fun s hs' => Jk n s 0 (Nat.two_pow_pos _) (fun x hx => by
   have h1 := (hs.2 s hs').1;have := Qj h1 x hx;omega)))
   (fun i j hi hj => by
    rcases Nat.lt_trichotomy i j with h | h | h
    ·have := hpair j i hj h;unfold JA at this;rw [Bool.or_eq_true] at this;exact this.symm
    ·subst h;refine .inl ?_;unfold Xn wsB;rw [List.all_eq_true];intro x _;cases Vg l (0 + x + 2 ^ i) <;> simp
    ·have := hpair i j hi h;unfold JA at this;rwa [Bool.or_eq_true] at this)
  subst hlen;have htab : Vf (Vg l) (2 ^ W.length) = Vf (gW W q) (2 ^ W.length) := Sn hg;have h2 := Vs (fun _ _ _ _ => some true) (fun _ _ _ _ => true) (fun _ _ _ _ _ => rfl) (gW W q) W.length (by omega);rw [YG] at h2;rw [htab] at hgm ⊢;have h3 : Ev (fun k => Bb.f k (W.length : Int) (Vf (gW W q) (2 ^ W.length))) ([], [], false) := by
   unfold Bb.f Si.f;exact Ev.bind h2 (Ev.now _)
  have hnn := (Int.toNat_of_nonneg (show 0 ≤ W.foldr (fun a c => a + c) 0 by omega)).symm;obtain ⟨p, ⟨p1, p2⟩, es, ei, p3, p4⟩ := YJ W hW q hq1 hq2 hn.1 _ hnn (by omega) l ((W.foldr (fun a c => a + c) 0).toNat - 1) 1 (by omega);refine ⟨p, ⟨by omega, p2⟩, ?_, ?_, h3, ⟨p1, fun w hw => by have := p4 w hw; omega⟩, W, q, rfl, hg, p3⟩
  ·unfold Md.f;exact Ev.bind hgm (Ev.bind (Br W q W.length (by omega)) (Xa rfl es))
  ·unfold Yd.f;exact Ev.bind h3 (Vb (by simp) (Ev.bind ei (Ev.now _)))
 ·rw [hcom] at hcm;have hpair : ∃ i j, i < n ∧ j < n ∧ JA (Vg l) n i j = false := by
   unfold Vu at hcom;rw [List.all_eq_false] at hcom;obtain ⟨i, hi, h⟩ := hcom;have hi := List.mem_range.1 hi;have h := eq_false_of_ne_true h;unfold WJ at h;rw [List.all_eq_false] at h;obtain ⟨j, hj, h⟩ := h;have hj := List.mem_range.1 hj;exact ⟨i, j, hi, by omega, eq_false_of_ne_true h⟩
  obtain ⟨i, j, hi, hj, hij⟩ := hpair;unfold JA at hij;rw [Bool.or_eq_false_iff] at hij;have hne := Ov (Vg l) n i j hn.2 hi hj (by rw [hij.1]; decide) (by rw [hij.2]; decide);obtain ⟨c, hcc⟩ := Option.ne_none_iff_exists'.1 hne;rw [hcc] at h2;have h3 : Ev (fun k => Bb.f k (n : Int) (Vf (Vg l) (2 ^ n))) (c.1, c.2, true) := by
   unfold Bb.f Si.f;exact Ev.bind h2 (Ev.now _)
  refine ⟨c.1, c.2, ?_, ?_, h3⟩
  ·unfold Md.f;exact Ev.bind hgm (Ev.bind hcm (Vb (by decide) (Ev.now _)))
  ·unfold Yd.f;exact Ev.bind h3 (Xa rfl (Ev.now _))
end Go.Proofs.YtodchjdgpnpdcaaGreat.Q
end

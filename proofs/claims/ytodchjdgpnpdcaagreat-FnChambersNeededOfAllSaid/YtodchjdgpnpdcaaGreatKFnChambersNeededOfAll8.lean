/- Part 8 of the proof of FnChambersNeededOfAll: what it leans on (no condition). -/
import Derived.Test.YtodchjdgpnpdcaaGreatKFnChambersNeededOfAll7
section
namespace Go.Proofs.YtodchjdgpnpdcaaGreat.Q
open Go.RowKit Go.Proofs.YtodchjdgpnpdcaaGreatW.PrintWords Go.Proofs.YtodchjdgpnpdcaaGreatW.PrintLast Go.Proofs.YtodchjdgpnpdcaaGreatW.PrintMore
set_option linter.unusedVariables false
set_option linter.unusedSimpArgs false
set_option maxHeartbeats 8000000
set_option maxRecDepth 100000
def chF {α : Type} (tb : α → Nat) (want : Nat) : List α → Nat → Nat → Option (List α)
 | [], 0, now => if now = want then some [] else none
 | [], _ + 1, _ => none
 | _ :: _, 0, now => if now = want then some [] else none
 | x :: xs, m + 1, now => match chF tb want xs m (now &&& tb x) with
  | some r => some (x :: r)
  | none => chF tb want xs (m + 1) now
theorem Jn {α : Type} (tb : α → Nat) (want : Nat) (l : List α) (now : Nat) : chF tb want l 0 now = if now = want then some [] else none := by
 cases l <;> rfl
theorem Ky {α : Type} (tb : α → Nat) (want : Nat) (m now : Nat) (x : α) (xs : List α) (h : chF tb want xs m (now &&& tb x) ≠ none) : ∀ a : List α, chF tb want (a ++ x :: xs) (m + 1) now ≠ none
 | [] => by
  rw [List.nil_append, chF];cases e : chF tb want xs m (now &&& tb x) with
  | none => exact absurd e h
  | some r => exact Option.some_ne_none _
 | y :: a => by
  rw [List.cons_append, chF];cases chF tb want (a ++ x :: xs) m (now &&& tb y) with
  | none => exact Ky tb want m now x xs h a
  | some r => exact Option.some_ne_none _
theorem Kq {α : Type} (tb : α → Nat) (want now : Nat) (l : List α) (x : α) (hx : x ∈ l) (h : now &&& tb x = want) : chF tb want l 1 now ≠ none := by
 obtain ⟨a, xs, rfl⟩ := List.append_of_mem hx;refine Ky tb want 0 now x xs ?_ a;rw [Jn, if_pos h]; exact Option.some_ne_none _
theorem Sv {α : Type} {x y : α} (hne : x ≠ y) : ∀ l : List α, x ∈ l → y ∈ l → (∃ a xs, l = a ++ x :: xs ∧ y ∈ xs) ∨ (∃ a xs, l = a ++ y :: xs ∧ x ∈ xs)
 | [], h, _ => by cases h
 | z :: l, hx, hy => by
  rcases List.mem_cons.1 hx with rfl | hx2
  ·rcases List.mem_cons.1 hy with rfl | hy2
   ·exact absurd rfl hne
   ·exact .inl ⟨[], l, rfl, hy2⟩
  ·rcases List.mem_cons.1 hy with rfl | hy2
   ·exact .inr ⟨[], l, rfl, hx2⟩
   ·rcases Sv hne l hx2 hy2 with ⟨a, xs, e, h⟩ | ⟨a, xs, e, h⟩
    ·exact .inl ⟨z :: a, xs, by rw [e]; rfl, h⟩
    ·exact .inr ⟨z :: a, xs, by rw [e]; rfl, h⟩
theorem XJ {α : Type} (tb : α → Nat) (want now : Nat) (l : List α) (x y : α) (hx : x ∈ l) (hy : y ∈ l) (hne : x ≠ y) (h : now &&& tb x &&& tb y = want) : chF tb want l 2 now ≠ none := by
 rcases Sv hne l hx hy with ⟨a, xs, e, h2⟩ | ⟨a, xs, e, h2⟩
 ·rw [e]; exact Ky tb want 1 now x xs (Kq tb want _ xs y h2 h) a
 ·rw [e]; exact Ky tb want 1 now y xs (Kq tb want _ xs x h2 (by rw [Nat.and_assoc, Nat.and_comm (tb y), ← Nat.and_assoc]; exact h)) a
theorem Ol {α : Type} (tb : α → Nat) (want : Nat) : ∀ (l : List α) (m now : Nat) (r : List α), chF tb want l m now = some r → (∀ x ∈ r, x ∈ l) ∧ r.length = m
 | l, 0, now, r, h => by
  rw [Jn] at h;split at h
  ·obtain rfl := Option.some.inj h; exact ⟨fun _ hx => (by cases hx), rfl⟩
  ·cases h
 | [], m + 1, now, r, h => by cases h
 | x :: xs, m + 1, now, r, h => by
  rw [chF] at h;cases e : chF tb want xs m (now &&& tb x) with
  | some r1 =>
   rw [e] at h;obtain rfl := Option.some.inj h;obtain ⟨h1, h2⟩ := Ol tb want xs m _ r1 e;exact ⟨fun y hy => (List.mem_cons.1 hy).elim (fun e => e ▸ List.mem_cons_self ..) (fun hy => List.mem_cons_of_mem _ (h1 y hy)), by rw [List.length_cons, h2]⟩
  | none =>
   rw [e] at h;obtain ⟨h1, h2⟩ := Ol tb want xs (m + 1) now r h;exact ⟨fun y hy => List.mem_cons_of_mem _ (h1 y hy), h2⟩
def chL {α : Type} (tb : α → Nat) (want now : Nat) (l : List α) : List α := match chF tb want l 1 now with
 | some r => r
 | none => (chF tb want l 2 now).getD []
def Xu (t : List Bool) : Nat := Vi (fun i => t.getD i false) t.length
def XG (n : Nat) (t : List Bool) : Bool := Vu (fun i => t.getD i false) n
def TN (n : Nat) (all : List (Bool × Nat)) : Bool := all.all fun t => t.1 || all.any fun a => a.1 && t.2 &&& a.2 == t.2 && all.any fun b => b.1 && !(a.2 == b.2) && a.2 &&& b.2 == t.2
def BN (n : Nat) : Bool := TN n ((Ij n).map fun t => (XG n t, Xu t))
theorem YN : ∀ n : Nat, n < 5 → 1 ≤ n → BN n = true := by decide +kernel
def mkG (n : Nat) (s : List (List Int)) : S24 := ⟨(n : Int), s⟩
theorem UG {N : Nat} (t : List Bool) (h : t.length = N) : Vf (fun i => t.getD i false) N = t := by
 refine List.ext_getElem (by rw [Lc, h]) fun i h1 h2 => ?_;rw [Yj, Mg h2]
theorem Mx (a b : Int) (l1 l2 : List (List Int)) (h1 : l1.length ≤ 1048576) (hx : ∀ x ∈ l1, x.length ≤ 1048576) (hy : ∀ x ∈ l2, x.length ≤ 1048576) : Ev (fun k => We.f k a l1 b l2) (Yk l1 l2) := by
 unfold We.f;have := Ld l1.length (fun k i => We.l0 k l1 (l1.length : Int) (i : Int) a l1 b l2) (fun i => Yk (l1.drop i) (l2.drop i)) ?_ ?_ 0 (Nat.zero_le _)
 ·simpa using this
 ·refine Ba ?_;simp only [We.l0];refine Vb (by omega) (Rb (Ev.now _) ?_);rw [Im];by_cases h : l1.length < l2.length
  ·rw [List.drop_eq_getElem_cons h]; exact decide_eq_true (by omega)
  ·rw [List.drop_of_length_le (Nat.le_of_not_lt h)]; exact decide_eq_false (by omega)
 ·intro i hi ih;refine Ba ?_;simp only [We.l0];refine Xa (by omega) (Xa (by omega) (Xa (by omega) ?_));rw [List.drop_eq_getElem_cons hi];by_cases h : i < l2.length
  ·refine Vb (by omega) (Xa (by omega) ?_);rw [Ih hi, Ih h, Eb hi (Nat.le_trans h1 (by decide)), List.drop_eq_getElem_cons h];refine Ev.bind (Hl _ _ (Nat.le_trans (hx _ (List.getElem_mem hi)) (by decide))) (Ie (fun e => ?_) (fun e => ?_))
   ·refine Rb (Ev.now _) ?_;unfold Yk;rw [if_neg (fun e2 => by rw [e2, Li] at e; cases e)];exact e.symm
   ·refine Ev.bind (Hl _ _ (Nat.le_trans (hy _ (List.getElem_mem h)) (by decide))) (Ie (fun e2 => ?_) (fun e2 => ?_))
    ·refine Rb (Ev.now _) ?_;unfold Yk;rw [if_neg (fun e3 => by rw [e3, Li] at e2; cases e2)];exact e.symm
    ·have := Pj _ _ e e2;unfold Yk;rw [if_pos this];exact ih
  ·rw [List.drop_of_length_le (Nat.le_of_not_lt h)];exact Xa (by omega) (Ev.now _)
theorem PD {α β : Type} (lt : α → α → Bool) (lt' : β → β → Bool) (f : α → β) (h : ∀ a b, lt' (f a) (f b) = lt a b) (l : List α) : Ci lt' (l.map f) = (Ci lt l).map f := by
 have hi : ∀ x (ys : List α), Nw lt' (f x) (ys.map f) = (Nw lt x ys).map f := by
  intro x ys;induction ys with
  | nil => rfl
  | cons y ys ih =>
   simp only [List.map_cons, Nw, h];split
   ·rw [ih]; rfl
   ·rfl
 have : ∀ (l out : List α), (l.map f).foldl (fun out x => Nw lt' x out) (out.map f) = (l.foldl (fun out x => Nw lt x out) out).map f := by
  intro l;induction l with
  | nil => intro out; rfl
  | cons x l ih => intro out; simp only [List.map_cons, List.foldl_cons]; rw [hi]; exact ih _
 exact this l []
def FJ {α : Type} (lt : α → α → Bool) (x : α) : List α → Nat
 | [] => 0
 | y :: ys => if lt y x = true then FJ lt x ys + 1 else 0
theorem Oy {α : Type} (lt : α → α → Bool) (x : α) : ∀ l, l.take (FJ lt x l) ++ [x] ++ l.drop (FJ lt x l) = Nw lt x l
 | [] => rfl
 | y :: ys => by
  have ih := Oy lt x ys;unfold FJ Nw;by_cases h : lt y x = true
  ·simp only [if_pos h, List.take_succ_cons, List.drop_succ_cons, List.cons_append]; rw [ih]
  ·simp only [if_neg h]; rfl
def ltG (a b : S24) : Bool := Yk a.f1 b.f1
def GOk (g : S24) : Prop := g.f1.length ≤ 1048576 ∧ ∀ x ∈ g.f1, x.length ≤ 1048576
theorem Sy (g : S24) (hg : GOk g) : ∀ (l : List S24) (i : Nat), (∀ x ∈ l, GOk x) → Ev (fun k => Dw k g l i) (i + FJ ltG g l)
 | [], _, _ => Ev.now _
 | x :: xs, i, h => by
  have hx := h x (List.mem_cons_self ..);unfold Dw FJ;refine Ev.bind (Mx _ _ _ _ hx.1 hx.2 hg.2) (Ie (fun e => ?_) (fun e => ?_))
  ·have e' : ltG x g = true := e;rw [if_pos e'];exact Rb (Sy g hg xs (i + 1) (fun y hy => h y (List.mem_cons_of_mem _ hy))) (by omega)
  ·have e' : ¬ ltG x g = true := by rw [show ltG x g = false from e]; decide
   rw [if_neg e']; exact Ev.now _
theorem qw : ∀ (gs outs : List S24), (∀ x ∈ gs, GOk x) → (∀ x ∈ outs, GOk x) → Ev (fun k => Lp k gs outs) (gs.foldl (fun out x => Nw ltG x out) outs)
 | [], _, _, _ => Ev.now _
 | g :: gs, outs, h, ho => by
  have hg := h g (List.mem_cons_self ..);unfold Lp NI;refine Ev.bind (Ev.bind (Rb (Sy g hg outs 0 ho) (Nat.zero_add _)) (Ev.now _)) ?_;rw [Oy, List.foldl_cons];exact qw gs _ (fun x hx => h x (List.mem_cons_of_mem _ hx)) (fun x hx => by
   rcases List.mem_cons.1 ((Km ltG g outs).mem_iff.1 hx) with rfl | h2
   ·exact hg
   ·exact ho x h2)
theorem VA {n : Nat} (hn : n < 5) : Eo (2 ^ n) [] = some (Ij n) := by
 have h := UL n hn;unfold Ij;cases e : Eo (2 ^ n) [] with
 | none => rw [e] at h; cases h
 | some ts => rfl
theorem QD {n : Nat} (hn : 1 ≤ n ∧ n < 5) {t : List Bool} (ht : t ∈ Ij n) : GOk (mkG n (Wh t)) := by
 have h := VH n hn.2 hn.1 t ht;exact ⟨Nat.le_trans h.1 (by decide), fun x hx => Nat.le_trans (h.2 x hx).2 (by decide)⟩
theorem Px {n : Nat} (hn : 1 ≤ n ∧ n < 5) : Ev (fun k => Fa.f k n) ((Ed n).map (mkG n)) := by
 have h := II n hn.2 hn.1;cases e : Fa.f 1200 n with
 | none => rw [e] at h; cases h
 | some gs =>
  rw [e] at h;have h2 := Option.some.inj h;have : gs = (Ed n).map (mkG n) := by
   have h3 := congrArg (List.map fun (p : Int × List (List Int)) => (⟨p.1, p.2⟩ : S24)) h2;rw [List.map_map, List.map_map] at h3;rw [show (gs.map ((fun (p : Int × List (List Int)) => (⟨p.1, p.2⟩ : S24)) ∘ fun g => (g.f0, g.f1))) = gs from (List.map_congr_left (fun _ _ => rfl)).trans (List.map_id _)] at h3;exact h3
  rw [← this];exact Ev.of (Fa.mono _) e
theorem qo {n : Nat} {s : List (List Int)} (h : s ∈ Ed n) : ∃ t ∈ Ij n, s = Wh t := by
 obtain ⟨t, ht, rfl⟩ := List.mem_map.1 ((Hg Yk _).mem_iff.1 h);exact ⟨t, ht, rfl⟩
theorem Sl {n : Nat} (hn : 1 ≤ n ∧ n < 5) {s : List (List Int)} (h : s ∈ Ed n) : s.length ≤ 1048576 ∧ Jg n s := by
 obtain ⟨t, ht, rfl⟩ := qo h;have h := VH n hn.2 hn.1 t ht;exact ⟨Nat.le_trans h.1 (by decide), ⟨by omega, fun x hx => ⟨(h.2 x hx).1, Nat.le_trans (h.2 x hx).2 (by decide)⟩⟩⟩
def XH (o t : List Bool) : Bool := (List.range t.length).all fun i => !o.getD i false || t.getD i false
theorem RD {o p ts : List Bool} (h : XH o (p ++ [false] ++ ts) = true) : o.getD p.length false = false := by
 unfold XH at h;rw [List.all_eq_true] at h;have := h p.length (List.mem_range.2 (by rw [List.length_append, List.length_append, List.length_singleton]; omega));rw [List.getD_eq_getElem?_getD (l := p ++ [false] ++ ts), List.append_assoc, List.getElem?_append_right (Nat.le_refl _), Nat.sub_self] at this;simpa using this
theorem Oq : ∀ (d : Nat) (p : List Bool) (ts : List (List Bool)), Eo d p = some ts → ∀ t ∈ ts, ∃ r, t = p ++ r
 | 0, p, ts, h, t, ht => by
  unfold Eo at h;obtain rfl := Option.some.inj h;split at ht
  ·cases ht
  ·split at ht
   ·cases ht
   ·exact ⟨[], by rw [List.mem_singleton.1 ht, List.append_nil]⟩
 | d + 1, p, ts, h, t, ht => by
  unfold Eo at h;obtain ⟨m, _, h⟩ := zB0 h;obtain ⟨l1, h1, h⟩ := zB0 h;have k1 : ∀ t ∈ l1, ∃ r, t = p ++ r := fun t ht => by
   obtain ⟨r, hr⟩ := Oq d _ l1 h1 t ht;exact ⟨[true] ++ r, by rw [hr, List.append_assoc]⟩
  split at h
  ·obtain rfl := Option.some.inj h;exact k1 t ht
  ·obtain ⟨l2, h2, h⟩ := zB0 h;obtain rfl := Option.some.inj h;rcases List.mem_append.1 ht with ht | ht
   ·exact k1 t ht
   ·obtain ⟨r, hr⟩ := Oq d _ l2 h2 t ht;exact ⟨[false] ++ r, by rw [hr, List.append_assoc]⟩
theorem Ps (p : List Bool) : ∀ s, Fp p s true = some true
 | [] => rfl
 | i :: s => by unfold Fp; rw [if_pos rfl]; exact Ps p s
def okT (n : Nat) (o t : List Bool) : Bool := XH o t && XG n t
theorem yw {n : Nat} (hn : 1 ≤ n ∧ n < 5) (o : List Bool) : ∀ (d : Nat) (p : List Bool) (ts : List (List Bool)), p.length + d ≤ 16 → Eo d p = some ts → (∀ t ∈ ts, t ∈ Ij n) → XH o p = true →
 Ev (fun k => Ee.f k n o d p) ((ts.filter (okT n o)).map fun t => mkG n (Wh t))
 | 0, p, ts, _, h, hm, hc => by
  unfold Eo at h;obtain rfl := Option.some.inj h;unfold Ee.f;by_cases h1 : yf false p ((p.length - 1 : Nat) : Int) = true
  ·refine Xa h1 ?_;rw [if_neg (by rw [h1]; decide)] at hm ⊢;by_cases h2 : yf false p 0 = true
   ·refine Xa h2 (Rb (Ev.now _) ?_);rw [if_pos h2]; rfl
   ·refine Vb h2 ?_;rw [if_neg h2] at hm ⊢;have hp := hm p (List.mem_singleton.2 rfl);have hcm := Yn (fun i => p.getD i false) n (by omega);rw [UG p ((OC n hn.2 hn.1).2 p hp)] at hcm;refine Ev.bind hcm (Ie (fun e => ?_) (fun e => ?_))
    ·refine Ev.bind (Ev.of (Yi.mono _ _) (GL n hn.2 hn.1 p hp)) (Rb (Ev.now _) ?_);rw [List.filter_cons_of_pos (by unfold okT XG; rw [hc, e]; rfl)]; rfl
    ·rw [List.filter_cons_of_neg (by unfold okT XG; rw [e, Bool.and_false]; decide)]; exact Ev.now _
  ·refine Vb h1 (Rb (Ev.now _) ?_);rw [if_pos (eq_false_of_ne_true h1)]; rfl
 | d + 1, p, ts, hd, h, hm, hc => by
  unfold Eo at h;obtain ⟨m, hmu, h⟩ := zB0 h;obtain ⟨l1, h1, h⟩ := zB0 h;have snoc : ∀ b : Bool, (o.getD p.length false = true → b = true) → XH o (p ++ [b]) = true := fun b hb => by
   unfold XH at *
   rw [List.all_eq_true] at *
   intro i hi;have hi := List.mem_range.1 hi;rw [List.length_append, List.length_singleton] at hi;by_cases e : i = p.length
   ·subst e;rw [List.getD_eq_getElem?_getD (l := p ++ [b]), List.getElem?_append_right (Nat.le_refl _), Nat.sub_self];cases ho : o.getD p.length false with
    | false => rfl
    | true => rw [hb ho]; rfl
   ·have := hc i (List.mem_range.2 (by omega));rwa [List.getD_eq_getElem?_getD (l := p ++ [b]), List.getElem?_append_left (by omega), ← List.getD_eq_getElem?_getD]
  unfold Ee.f;refine Ev.bind (Ev.of (Jc.mono _) (TF p.length (by omega))) ?_;have hrd : yf false o (p.length : Int) = o.getD p.length false := by unfold yf; rw [Int.toNat_natCast]
  rw [hrd];cases ho : o.getD p.length false with
  | true =>
   refine Lg (Ps p _) ?_;have e1 := yw hn o d (p ++ [true]) l1 (by rw [List.length_append, List.length_singleton]; omega) h1;cases m with
   | true =>
    rw [if_pos rfl] at h;obtain rfl := Option.some.inj h;exact Ev.bind (e1 hm (snoc true (fun _ => rfl))) (Xa rfl (Ev.now _))
   | false =>
    rw [if_neg (by decide)] at h;obtain ⟨l2, h2, h⟩ := zB0 h;obtain rfl := Option.some.inj h;refine Ev.bind (e1 (fun t ht => hm t (List.mem_append_left _ ht)) (snoc true (fun _ => rfl))) (Xa rfl (Rb (Ev.now _) ?_));rw [List.filter_append, (List.filter_eq_nil_iff (l := l2)).2 (fun t ht hx => ?_), List.append_nil];obtain ⟨r, hr⟩ := Oq d _ l2 h2 t ht;unfold okT at hx;rw [Bool.and_eq_true] at hx;have := RD (hr ▸ hx.1);rw [ho] at this; cases this
  | false =>
   refine Lg hmu ?_;cases m with
   | true =>
    rw [if_pos rfl] at h;obtain rfl := Option.some.inj h;exact Ev.bind (yw hn o d (p ++ [true]) l1 (by rw [List.length_append, List.length_singleton]; omega) h1 hm (snoc true (fun _ => rfl))) (Xa rfl (Ev.now _))
   | false =>
    rw [if_neg (by decide)] at h;obtain ⟨l2, h2, h⟩ := zB0 h;obtain rfl := Option.some.inj h;refine Ev.bind (yw hn o d (p ++ [true]) l1 (by rw [List.length_append, List.length_singleton]; omega) h1 (fun t ht => hm t (List.mem_append_left _ ht)) (snoc true (fun _ => rfl))) (Vb (by decide) (Ev.bind (yw hn o d (p ++ [false]) l2 (by rw [List.length_append, List.length_singleton]; omega) h2 (fun t ht => hm t (List.mem_append_right _ ht)) (snoc false (fun h => by rw [ho] at h; cases h))) (Rb (Ev.now _) ?_)));rw [List.filter_append, List.map_append]
theorem Uu {n : Nat} (hn : 1 ≤ n ∧ n < 5) (q : List Bool → Bool) : Ci ltG (((Ij n).filter q).map fun t => mkG n (Wh t)) = ((Ed n).filter fun s => q (Tu n s)).map (mkG n) := by
 have e : (((Ij n).filter q).map fun t => mkG n (Wh t)) = (((Ij n).map Wh).filter fun s => q (Tu n s)).map (mkG n) := by
  rw [List.filter_map, List.map_map];refine congrArg _ (List.filter_congr fun t ht => ?_);show q t = q (Tu n (Wh t));rw [FI n hn.2 hn.1 t ht]
 rw [e, PD Yk ltG (mkG n) (fun _ _ => rfl), Kw Yk Kl (fun _ _ => Sr) Gl];rfl
def chG (n : Nat) (o : List Bool) : List (List (List Int)) := (Ed n).filter fun s => okT n o (Tu n s)
theorem WA {n : Nat} (hn : 1 ≤ n ∧ n < 5) (l : List (List Int)) (hl : l.length ≤ 1048576) (hs : Jg (n : Int) l) : Ev (fun k => Bh.f k n l) ((chG n (Tu n l)).map (mkG n)) := by
 unfold Bh.f;have h4 : 2 ^ n ≤ 16 := Nat.pow_le_pow_right (n := 2) (by decide) (show n ≤ 4 by omega);have hgm : Ev (fun k => Be.f k (n : Int) l) (Tu n l) := by
  unfold Be.f;exact Ev.bind (Bq (n : Int) l hl hs) (Ev.now _)
 refine Xa (by omega) (Ev.bind hgm ?_);refine Xa (by unfold Tu; rw [Lc, Int.toNat_natCast]) ?_;rw [Int.toNat_natCast];refine Ev.bind (yw hn _ (2 ^ n) [] (Ij n) (by simpa using h4) (VA hn.2) (fun _ h => h) rfl) (Xa ?_ (Rb (qw _ [] ?_ ?_) (Uu hn _)))
 ·rw [List.length_map];exact Nat.le_trans (List.length_filter_le _ _) (OC n hn.2 hn.1).1
 ·intro x hx;obtain ⟨t, ht, rfl⟩ := List.mem_map.1 hx;exact QD hn (List.mem_filter.1 ht).1
 ·intro x hx; cases hx
def chI {α : Type} (tb : α → Nat) (want : Nat) : List α → Nat → Nat → Nat → Option (List Int)
 | [], _, 0, now => if now = want then some [] else none
 | [], _, _ + 1, _ => none
 | _ :: _, _, 0, now => if now = want then some [] else none
 | x :: xs, p, m + 1, now => match chI tb want xs (p + 1) m (now &&& tb x) with
  | some r => some ((p : Int) :: r)
  | none => chI tb want xs (p + 1) (m + 1) now
theorem Jp {α : Type} (tb : α → Nat) (want : Nat) (l : List α) (p now : Nat) : chI tb want l p 0 now = if now = want then some [] else none := by
 cases l <;> rfl
theorem Qx {α : Type} (tb : α → Nat) (want : Nat) (L : List α) (d : α) : ∀ (xs : List α) (p m now : Nat), L.drop p = xs → (chI tb want xs p m now).map (List.map fun i => L.getD i.toNat d) = chF tb want xs m now
 | xs, p, 0, now, _ => by rw [Jp, Jn]; split <;> rfl
 | [], _, _ + 1, _, _ => rfl
 | x :: xs, p, m + 1, now, h => by
  have h1 : L.drop (p + 1) = xs := by rw [← List.drop_drop, h]; rfl
  have hx : L.getD p d = x := by
   have := congrArg (fun l => l.getD 0 d) h;simpa [List.getD_eq_getElem?_getD] using this
  have e1 := Qx tb want L d xs (p + 1) m (now &&& tb x) h1;have e2 := Qx tb want L d xs (p + 1) (m + 1) now h1;rw [chI, chF, ← e1];cases chI tb want xs (p + 1) m (now &&& tb x) with
  | some r => simp only [Option.map_some, List.map_cons, Int.toNat_natCast, hx]
  | none => exact e2
theorem TD {α : Type} (tb : α → Nat) (want : Nat) : ∀ (xs : List α) (p m now : Nat) (r : List Int), chI tb want xs p m now = some r → ∀ i ∈ r, (p : Int) ≤ i ∧ i < ((p + xs.length : Nat) : Int)
 | xs, p, 0, now, r, h => by
  rw [Jp] at h;split at h
  ·obtain rfl := Option.some.inj h; intro i hi; cases hi
  ·cases h
 | [], _, _ + 1, _, _, h => by cases h
 | x :: xs, p, m + 1, now, r, h => by
  rw [chI] at h;rw [List.length_cons];cases e : chI tb want xs (p + 1) m (now &&& tb x) with
  | some r1 =>
   rw [e] at h;obtain rfl := Option.some.inj h;intro i hi;rcases List.mem_cons.1 hi with rfl | hi
   ·omega
   ·have := TD tb want xs (p + 1) m _ r1 e i hi;omega
  | none =>
   rw [e] at h;intro i hi;have := TD tb want xs (p + 1) (m + 1) now r h i hi;omega
theorem Gu {α : Type} (tb : α → Nat) (want : Nat) : ∀ (xs : List α) (p m now : Nat) (r : List Int), chI tb want xs p m now = some r → r.length = m
 | xs, p, 0, now, r, h => by
  rw [Jp] at h;split at h
  ·obtain rfl := Option.some.inj h; rfl
  ·cases h
 | [], _, _ + 1, _, _, h => by cases h
 | x :: xs, p, m + 1, now, r, h => by
  rw [chI] at h;cases e : chI tb want xs (p + 1) m (now &&& tb x) with
  | some r1 =>
   rw [e] at h;obtain rfl := Option.some.inj h;rw [List.length_cons, Gu tb want xs (p + 1) m _ r1 e]
  | none =>
   rw [e] at h;exact Gu tb want xs (p + 1) (m + 1) now r h
theorem qz (n : Int) (g : Nat → Bool) (N : Nat) (hN : N ≤ 16) : Ev (fun k => Xc.f k n (Vf g N)) (Vi g N : Int) := by
 unfold Xc.f;rw [Lc];have := Ld N (fun k i => Xc.l0 k (Vi g i : Int) (Vf g N) (N : Int) (i : Int)) (fun _ => (Vi g N : Int)) ?_ ?_ 0 (Nat.zero_le _)
 ·exact this
 ·refine Ba ?_;simp only [Xc.l0];exact Vb (Int.lt_irrefl _) (Ev.now _)
 ·intro i hi ih;have hlt := Kj g i;have h16 : 2 ^ i ≤ 2 ^ 16 := Nat.pow_le_pow_right (by decide) (by omega);have h62 : (2 : Nat) ^ 16 < 2 ^ 62 := by decide
  refine Ba ?_;simp only [Xc.l0];rw [Ti hi, Eb hi (by omega), Lc];refine Xa (by omega) (Xa (by omega) (Xa (by omega) (Ie (fun e => ?_) (fun e => ?_))))
  ·rw [Oi i (by omega), Jv _ _ (by omega) (by omega)];have e1 := Nat.two_pow_add_eq_or_of_lt hlt 1;rw [Nat.mul_one] at e1;rw [Nat.or_comm, ← e1, Nat.add_comm];rw [Vi, if_pos e] at ih;exact ih
  ·rw [Vi, if_neg (by rw [e]; decide), Nat.add_zero] at ih;exact ih
section
variable {α : Type} (tb : α → Nat) (want : Nat) (L : List α) (hL : L.length ≤ 1000000) (htb : ∀ x ∈ L, tb x < 65536) (hw : want < 65536)
include hL htb hw
theorem Yw : ∀ (m p now : Nat), p ≤ L.length → m ≤ 1000 → now < 65536 → Ev (fun k => Od.f k (L.map fun x => (tb x : Int)) (p : Int) (m : Int) (now : Int) (want : Int)) ((chI tb want (L.drop p) p m now).getD [], (chI tb want (L.drop p) p m now).isSome)
 | 0, p, now, hp, hm, hn => by
  refine Ba ?_;simp only [Od.f];refine Xa rfl (Rb (Ev.now _) ?_);rw [Jp];by_cases h : now = want
  ·subst h; rw [if_pos rfl, beq_self_eq_true]; rfl
  ·rw [if_neg h, beq_eq_false_iff_ne.2 (by omega)]; rfl
 | m + 1, p, now, hp, hm, hn => by
  refine Ba ?_;simp only [Od.f];refine Vb (by omega) ?_;have := Ld L.length (fun k i => Od.l0 k (L.map fun x => (tb x : Int)) ((m + 1 : Nat) : Int) (now : Int) (want : Int) (i : Int)) (fun i => ((chI tb want (L.drop i) i (m + 1) now).getD [], (chI tb want (L.drop i) i (m + 1) now).isSome)) ?_ ?_ p hp
  ·exact this
  ·refine Ba ?_;simp only [Od.l0];rw [List.length_map];refine Vb (by omega) (Rb (Ev.now _) ?_);rw [List.drop_length]; rfl
  ·intro i hi ih;have hr : rd (L.map fun x => (tb x : Int)) (i : Int) = (tb L[i] : Int) := by rw [Mi (by rw [List.length_map]; exact hi), List.getElem_map]
   have ht := htb L[i] (List.getElem_mem hi);have hnb : (now &&& tb L[i]) < 65536 := Nat.lt_of_le_of_lt Nat.and_le_left hn;refine Ba ?_;simp only [Od.l0];rw [List.length_map, hr, El _ _ (by omega) (by omega), Eb hi (by omega), Yq (show m < 1001 by omega) (by decide)];refine Xa (by omega) (Xa (by omega) ?_);have h1 := Yw m (i + 1) (now &&& tb L[i]) hi (by omega) hnb;have hl1 := Gu tb want (L.drop (i + 1)) (i + 1) m (now &&& tb L[i]);rw [List.drop_eq_getElem_cons hi, chI];cases e : chI tb want (L.drop (i + 1)) (i + 1) m (now &&& tb L[i]) with
   | some r =>
    rw [e] at h1;have hl2 := hl1 r e;refine Ev.bind h1 (Xa rfl (Lg rfl (Xa ?_ (Ev.now _))));simp only [Option.getD_some, List.length_singleton]; omega
   | none =>
    rw [e] at h1;exact Ev.bind h1 (Vb (by decide) ih)
end
theorem BD (f g : Nat → Bool) (N : Nat) (hN : N ≤ 65536) : Ev (fun k => Jf.f k (Vf f N) (Vf g N)) (decide (Vi f N = Vi g N)) := by
 have hiff : Vi f N = Vi g N ↔ ∀ i, i < N → f i = g i := by
  refine ⟨fun h i hi => ?_, fun h => ?_⟩
  ·have := congrArg (fun x => Nat.testBit x i) h;simpa [Nf, hi] using this
  ·refine Nat.eq_of_testBit_eq fun i => ?_;rw [Nf, Nf];by_cases hi : i < N
   ·rw [h i hi]
   ·simp [hi]
 unfold Jf.f;rw [Lc, Lc];refine Xa rfl ?_;have := Ld N (fun k i => Jf.l0 k (Vf f N) (Vf g N) (N : Int) (i : Int)) (fun i => ((List.range N).drop i).all fun j => f j == g j) ?_ ?_ 0 (Nat.zero_le _)
 ·refine Rb this ?_;rw [Bool.eq_iff_iff, decide_eq_true_eq, hiff, List.drop_zero, List.all_eq_true];exact ⟨fun h i hi => beq_iff_eq.1 (h i (List.mem_range.2 hi)), fun h i hi => beq_iff_eq.2 (h i (List.mem_range.1 hi))⟩
 ·refine Ba ?_;simp only [Jf.l0];refine Vb (Int.lt_irrefl _) (Rb (Ev.now _) ?_);rw [List.drop_eq_nil_of_le (by simp)]; rfl
 ·intro i hi ih;refine Ba ?_;simp only [Jf.l0];rw [Ti hi, Ti hi, Eb hi (by omega), Lc, Lc, Pi N i hi, List.all_cons];refine Xa (by omega) (Xa (by omega) (Xa (by omega) (Xa (by omega) ?_)));by_cases e : f i = g i
  ·refine Vb (by rw [e, bne_self_eq_false]; decide) (Rb ih ?_);rw [e, beq_self_eq_true, Bool.true_and]
  ·refine Xa (by rw [bne_iff_ne]; exact e) (Rb (Ev.now _) ?_);rw [beq_eq_false_iff_ne.2 e]; rfl
theorem UJ (f g : Nat → Bool) (N : Nat) : List.zipWith (fun x y => x && y) (Vf f N) (Vf g N) = Vf (fun i => f i && g i) N := by
 refine List.ext_getElem (by rw [List.length_zipWith, Lc, Lc, Lc, Nat.min_self]) fun i h1 h2 => ?_;rw [List.getElem_zipWith, Yj, Yj, Yj]
theorem GJ (f g : Nat → Bool) (N : Nat) : Vi (fun i => f i && g i) N = Vi f N &&& Vi g N := by
 refine Nat.eq_of_testBit_eq fun i => ?_;rw [Nat.testBit_and, Nf, Nf, Nf];cases decide (i < N) <;> cases f i <;> cases g i <;> rfl
section
variable (n N : Nat) (hN : N ≤ 65536) (want : Nat → Bool) (L : List (List (List Int))) (hg : ∀ s ∈ L, Ev (fun k => Be.f k (n : Int) s) (Vf (Vg s) N))
include hN hg
theorem Jw : ∀ (m p : Nat) (now : Nat → Bool) (b : List S24), p ≤ L.length → Ev (fun k => Hf.f k (L.map (mkG n)) (Vf want N) m p (Vf now N) b) (match chF (fun s => Vi (Vg s) N) (Vi want N) (L.drop p) m (Vi now N) with
 | some r => (b ++ r.map (mkG n), true)
 | none => (if m = 0 then b else [], false))
 | 0, p, now, b, hp => by
  simp only [Hf.f];refine Ev.bind (BD now want N hN) (Rb (Ev.now _) ?_);rw [Jn];by_cases h : Vi now N = Vi want N
  ·rw [if_pos h, decide_eq_true h]; simp
  ·rw [if_neg h, decide_eq_false h]; rfl
 | m + 1, p, now, b, hp => by
  simp only [Hf.f];have key : ∀ (d p : Nat), p + d = L.length → Ev (fun k => Wo k (Hf.f k (L.map (mkG n)) (Vf want N) m) (Vf now N) b ((L.map (mkG n)).drop p) p) (match chF (fun s => Vi (Vg s) N) (Vi want N) (L.drop p) (m + 1) (Vi now N) with
   | some r => (b ++ r.map (mkG n), true)
   | none => ([], false)) := by
   intro d;induction d with
   | zero =>
    intro p hp;rw [← List.map_drop, List.drop_of_length_le (by omega)];exact Ev.now _
   | succ d ih =>
    intro p hp;have hi : p < L.length := by omega
    have h1 := Jw m (p + 1) (fun i => Vg L[p] i && now i) (b ++ [mkG n L[p]]) hi;rw [← List.map_drop, List.drop_eq_getElem_cons hi, List.map_cons, chF];unfold Wo;rw [GJ, Nat.and_comm] at h1;refine Ev.bind (hg L[p] (List.getElem_mem hi)) (Xa (by rw [Lc, Lc]) ?_);rw [UJ];cases e : chF (fun s => Vi (Vg s) N) (Vi want N) (L.drop (p + 1)) m (Vi now N &&& Vi (Vg L[p]) N) with
    | some r =>
     rw [e] at h1;refine Ev.bind h1 (Xa rfl (Rb (Ev.now _) ?_));simp
    | none =>
     rw [e] at h1;refine Ev.bind h1 (Vb (by simp) ?_);have h2 := ih (p + 1) (by omega);rw [← List.map_drop] at h2;exact h2
  exact key (L.length - p) p (by omega)
end
end Go.Proofs.YtodchjdgpnpdcaaGreat.Q
end

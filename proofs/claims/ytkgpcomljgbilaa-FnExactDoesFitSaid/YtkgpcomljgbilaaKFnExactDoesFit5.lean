/- Part 5 of the proof of FnExactDoesFit: what it leans on (no condition). -/
import Derived.Test.YtkgpcomljgbilaaKFnExactDoesFit4
import Derived.Shelf.GgClosure.Gives
import Derived.ProofKit
import Derived.OpenShut
import Derived.ShutString
import Derived.ChangeOld
import Derived.SizedLaws
import Derived.Deep.Slices
import Derived.Deep.Strs
section
namespace Go.Proofs.Ytkgpcomljgbilaa.Q
open Go.RowKit Go.Proofs.YtkgpcomljgbilaaW.PrintWords Go.Proofs.YtkgpcomljgbilaaW.PrintLast Go.Proofs.YtkgpcomljgbilaaW.PrintMore
set_option linter.unusedVariables false
set_option linter.unusedSimpArgs false
def idxO {α : Type} (p : α → Option Bool) : List α → Nat → Option Int
  | [], _ => some (-1)
  | x :: xs, k => (p x).bind fun b => if b = true then some (k : Int) else idxO p xs (k + 1)
def anyO {α : Type} (p : α → Option Bool) : List α → Option Bool
  | [] => some false
  | x :: xs => (p x).bind fun b => if b = true then some true else anyO p xs
theorem anyO_idxO {α : Type} (p : α → Option Bool) (xs : List α) : ∀ (k : Nat) (r : Bool), anyO p xs = some r → ∃ i, idxO p xs k = some i ∧ r = decide (0 ≤ i) := by
  induction xs with
  | nil => intro k r h; simp only [anyO, Option.some.injEq] at h; exact ⟨-1, rfl, by subst h; rfl⟩
  | cons x xs ih =>
    intro k r h
    simp only [anyO] at h
    obtain ⟨b, hb, h⟩ := Option.bind_eq_some_iff.mp h
    cases b with
    | true => rw [if_pos rfl] at h; exact ⟨k, by simp [idxO, hb], by simp only [Option.some.injEq] at h; subst h; simp⟩
    | false =>
      rw [if_neg (by simp)] at h
      obtain ⟨i, hi, hr⟩ := ih (k + 1) r h
      exact ⟨i, by simp [idxO, hb, hi], hr⟩
theorem idxO_step {α : Type} {p : α → Option Bool} {xs : List α} {k : Nat} {r : Int} {x : α} (h : idxO p (xs.drop k) k = some r) (hx : xs[k]? = some x) :
    ∃ b, p x = some b ∧ (b = true → r = k) ∧ (b = false → idxO p (xs.drop (k + 1)) (k + 1) = some r) := by
  rw [show xs.drop k = x :: xs.drop (k + 1) from by
    obtain ⟨hk, rfl⟩ := List.getElem?_eq_some_iff.1 hx; exact List.drop_eq_getElem_cons hk] at h
  simp only [idxO] at h
  obtain ⟨b, hb, h⟩ := Option.bind_eq_some_iff.mp h
  refine ⟨b, hb, ?_, ?_⟩
  · rintro rfl; rw [if_pos rfl] at h; exact (Option.some.inj h).symm
  · rintro rfl; rw [if_neg (by simp)] at h; exact h
def PredK {α : Type} (P : Program) (g : Nat) (lb : Array Value) (d : Kd α) (mkv : List Value → Value) (w : World) (p : α → Option Bool) : Prop :=
  ∀ (W : World) (x : α) (c : List Value) (b : Bool), Below w.heap.size w W → d.K w x c → p x = some b → Calls P g (#[mkv c] ++ lb) W fun e w' => e = .returned (.bool b) ∧ Below w.heap.size w w'
theorem anyO_some {α : Type} {p : α → Option Bool} {q : α → Bool} {xs : List α} (h : ∀ x ∈ xs, p x = some (q x)) : anyO p xs = some (xs.any q) := by
  induction xs with
  | nil => rfl
  | cons x xs ih =>
    simp only [anyO, h x (List.mem_cons_self ..), Option.bind_some]
    rw [ih (fun y hy => h y (List.mem_cons_of_mem _ hy))]
    rw [List.any_cons]
    cases q x <;> rfl
theorem ret_i {a b : Int} (h : a = b) : Ending.returned (.int .i64 a) = .returned (.int .i64 b) := by rw [h]
theorem ret_b {a b : Bool} (h : a = b) : Ending.returned (.bool a) = .returned (.bool b) := by rw [h]
end Go.Proofs.Ytkgpcomljgbilaa.Q
end
section
namespace Go.Proofs.Ytkgpcomljgbilaa.Q
open Go.RowKit Go.Proofs.YtkgpcomljgbilaaW.PrintWords Go.Proofs.YtkgpcomljgbilaaW.PrintLast Go.Proofs.YtkgpcomljgbilaaW.PrintMore
set_option linter.unusedVariables false
set_option linter.unusedSimpArgs false
section
variable {P : Program} {ops : Array Oper} {Q : Exit → Act → World → Prop}
theorem goesF_ {oi : Oper} {N : Option Tmp} {a : Act} {w : World} {K : Act → World → Prop} {g : Nat} {lb : Array Value} {c : Operand} {os : Array Operand} {ts : Array TypeId} (eg : ∀ args w, (callFunc g args).run P w = .ok (.enter g args) w) (hc : a.eval c = .func (.func g) #[] lb) (args : Array Value)
    (hw : Region.wanted oi (yielded ops a.tmps) = true) (hN : oi.dst = N) (hop : oi.op = .call { callee := .value c, args := os, argTypes := ts }) (hargs : os.map a.eval = args)
    (h : Calls P g (args ++ lb) w fun e w' => ∃ v, e = .returned v ∧ K (a.put N v) w') : if Region.wanted oi (yielded ops a.tmps) = true then Oper.wp P oi a w K Q else K (a.put N undef) w := by
  refine call_ g (args ++ lb) hw hN ?_ h
  have he := eg (args ++ lb) w
  unfold execOp
  simp [hop, resolve, Deferred.ofValue, invoke, hc, hargs, he]
end
@[reducible] def PredI (P : Program) (g : Nat) (lb : Array Value) (w : World) (p : Int → Option Bool) : Prop :=
  ∀ (W : World) (x : Int) (b : Bool), Below w.heap.size w W → p x = some b → Calls P g (#[.int .i64 x] ++ lb) W fun e w' => e = .returned (.bool b) ∧ Below W.heap.size W w'
end Go.Proofs.Ytkgpcomljgbilaa.Q
end
section
namespace Go.Proofs.Ytkgpcomljgbilaa.Q
open Go.RowKit Go.Proofs.YtkgpcomljgbilaaW.PrintWords Go.Proofs.YtkgpcomljgbilaaW.PrintLast Go.Proofs.YtkgpcomljgbilaaW.PrintMore
set_option linter.unusedVariables false
set_option linter.unusedSimpArgs false
set_option maxHeartbeats 1000000 in
theorem indexFunc_int (p : Int → Option Bool) (g : Nat) (lb : Array Value) (eg : ∀ args w, (callFunc g args).run Try.prog w = .ok (.enter g args) w)
    (A0 : Option Addr) (c0 : Nat) (l0 : List Int) (r : Int) (w : World) (hr0 : Kd.C (Kd.int .i64) w A0 l0.length l0) (hc0 : l0.length ≤ c0)
    (hp : PredK Try.prog g lb (Kd.int .i64) (fun c => c.getD 0 undef) w p) (h : idxO p l0 0 = some r) :
    Calls Try.prog 182 #[.slice A0 l0.length c0, .func (.func g) #[] lb] w fun e w' => e = .returned (.int .i64 r) ∧ Below w.heap.size w w' := by
  have hlen := hr0.2.1
  have HR0 := Aside0.mk hr0
  clear hr0
  have HP := Aside0.mk hp
  clear hp
  have H0 := Aside0.mk h
  clear h
  go_enter Try.func182, Try.ntmps182
  go_wp2
  go_loopg [5, 8] l0.length (fun gg _ s8 wr => ∃ kk : Nat, kk ≤ l0.length ∧ l0.length - kk ≤ gg ∧ s8 = .int .i64 kk ∧ Aside0 (Below w.heap.size w wr) ∧ Aside0 (idxO p (l0.drop kk) kk = some r))
  case atStart => exact ⟨0, Nat.zero_le _, by omega, rfl, ⟨Below.refl _ w⟩, H0⟩
  case round =>
    obtain ⟨kk, hkk, hg, rfl, BW, A⟩ := hrel
    by_cases hlt : kk < l0.length
    · have hltz : (kk : Int) < (l0.length : Int) := by omega
      obtain ⟨ad, c, e, _, hK, hcell⟩ := Kd.C_get HR0.out 0 (kk : Int) (by omega) hltz
      subst e
      have hK1 : c = [.int .i64 (l0.getD kk 0)] := hK
      subst hK1
      have l2 := (BW.out.cell (World.block_lt_of_cell? w _ (hcell 0 _ rfl))).trans (hcell 0 _ rfl)
      clear hcell
      obtain ⟨b, hb, h1, h2⟩ := idxO_step A.out (show l0[kk]? = some (l0.getD kk 0) by rw [List.getD_eq_getElem?_getD, List.getElem?_eq_getElem hlt]; rfl)
      have hcall := HP.out wr _ _ b BW.out hK hb
      have l3 : wr.cell? (ad.add kk) = some (.int .i64 (l0.getD kk 0)) := by simpa [show (Kd.int .i64).sz = 1 from rfl] using l2
      clear l2 hK
      generalize l0.getD kk 0 = y at l3 hcall hb
      have B := Aside0.mk hb
      clear hb
      cases b with
      | true =>
        have E := h1 rfl
        clear h1 h2
        have E' := Aside0.mk E
        clear E
        go_wp2_with (go_at_fn g; refine hcall.mono ?_; rintro e w' ⟨rfl, hb'⟩)
        go_ret
        exact ⟨ret_i E'.out.symm, hb'⟩
      | false =>
        have E := Aside0.mk (h2 rfl)
        clear h1 h2
        go_wp2_with (go_at_fn g; refine hcall.mono ?_; rintro e w' ⟨rfl, hb'⟩)
        go_roundg (l0.length - (kk + 1))
        case measure => omega
        case rel => exact ⟨kk + 1, by omega, by omega, by go_num, ⟨hb'⟩, E⟩
    · have hltz : ¬ (kk : Int) < (l0.length : Int) := by omega
      have : kk = l0.length := by omega
      subst this
      go_wp2
      go_ret
      refine ⟨?_, BW.out⟩
      have h3 := A.out
      rw [List.drop_length] at h3
      have h4 : (-1 : Int) = r := by simpa [idxO] using h3
      exact ret_i h4
set_option maxHeartbeats 1000000 in
theorem containsFunc_int (p : Int → Option Bool) (g : Nat) (lb : Array Value) (eg : ∀ args w, (callFunc g args).run Try.prog w = .ok (.enter g args) w)
    (A0 : Option Addr) (c0 : Nat) (l0 : List Int) (r : Bool) (w : World) (hr0 : Kd.C (Kd.int .i64) w A0 l0.length l0) (hc0 : l0.length ≤ c0)
    (hp : PredK Try.prog g lb (Kd.int .i64) (fun c => c.getD 0 undef) w p) (h : anyO p l0 = some r) :
    Calls Try.prog 158 #[.slice A0 l0.length c0, .func (.func g) #[] lb] w fun e w' => e = .returned (.bool r) ∧ Below w.heap.size w w' := by
  obtain ⟨i, hi, rfl⟩ := anyO_idxO p l0 0 r h
  have hcon := indexFunc_int p g lb eg A0 c0 l0 i w hr0 hc0 hp hi
  clear hr0 hp h hi
  go_enter Try.func158, Try.ntmps158
  go_wp2_with (go_at_call 182; refine hcon.mono ?_; rintro e w' ⟨rfl, hb'⟩)
  go_ret
  exact ⟨rfl, hb'⟩
def impl_areIn_1.f (lo hi n : Int) : Option Bool := (impl_within.f n lo hi).bind fun b => some (!b)
set_option maxHeartbeats 1000000 in
theorem impl_areIn_1.pred (lo hi : Int) (b1 b2 : Nat) (w : World) (h1 : w.cell? ⟨b1, 0, none⟩ = some (.int .i64 lo)) (h2 : w.cell? ⟨b2, 0, none⟩ = some (.int .i64 hi)) :
    PredK Try.prog 159 #[.pointer (some ⟨b1, 0, none⟩), .pointer (some ⟨b2, 0, none⟩)] (Kd.int .i64) (fun c => c.getD 0 undef) w (impl_areIn_1.f lo hi) := by
  intro W x c b hb hK hp
  have hK1 : c = [.int .i64 x] := hK
  subst hK1
  show Calls Try.prog 159 #[.int .i64 x, .pointer (some ⟨b1, 0, none⟩), .pointer (some ⟨b2, 0, none⟩)] W _
  have q1 := (hb.cell (World.block_lt_of_cell? w _ h1)).trans h1
  have q2 := (hb.cell (World.block_lt_of_cell? w _ h2)).trans h2
  obtain ⟨t, ht, hr⟩ := Option.bind_eq_some_iff.mp hp
  have hr' : (!t) = b := Option.some.inj hr
  have hB := Aside0.mk hb
  have hT := Aside0.mk ht
  have hE := Aside0.mk hr'
  clear h1 h2 hb hK hp hr hr' ht
  go_enter Try.func159, Try.ntmps159
  go_wp2_with (go_at_call 77; refine (impl_within.calls _ _ _ _ _ hT.out).mono ?_; rintro e w' ⟨rfl, nd, rfl⟩)
  go_ret
  exact ⟨ret_b hE.out, pw_below_drewN hB.out _⟩
set_option maxHeartbeats 1000000 in
def impl_areIn.f (l0 : List Int) (a1 a2 : Int) : Option Bool := (anyO (impl_areIn_1.f a1 a2) l0).bind fun b => some (!b)
set_option maxHeartbeats 1000000 in
theorem impl_areIn.calls (A0 : Option Addr) (c0 : Nat) (l0 : List Int) (a1 a2 : Int) (r : Bool) (w : World) (hr0 : Kd.C (Kd.int .i64) w A0 l0.length l0) (hc0 : l0.length ≤ c0) (h : impl_areIn.f l0 a1 a2 = some r) :
    Calls Try.prog 108 #[.slice A0 l0.length c0, .int .i64 a1, .int .i64 a2] w fun e w' => e = .returned (.bool r) ∧ Below w.heap.size w w' := by
  have eg : ∀ args w, (callFunc 159 args).run Try.prog w = .ok (.enter 159 args) w := enters_of Try.func159 (by kernel_rfl) rfl
  obtain ⟨t, ht, hr⟩ := Option.bind_eq_some_iff.mp h
  have hE := Aside0.mk (show (!t) = r from Option.some.inj hr)
  have hT := Aside0.mk ht
  have HR := Aside0.mk hr0
  clear h hr ht hr0
  go_enter Try.func108, Try.ntmps108
  go_wp2_with fail
  refine (containsFunc_int (impl_areIn_1.f a1 a2) 159 #[.pointer (some ⟨w.heap.size, 0, none⟩), .pointer (some ⟨w.heap.size + 1, 0, none⟩)] eg A0 c0 l0 t _ ?_ hc0 ?_ hT.out).mono ?_
  · exact Kd.C_below HR.out (((Below.refl _ w).alloc (Nat.le_refl _) _).alloc (by simp) _)
  · exact impl_areIn_1.pred a1 a2 _ _ _ (by go_simp) (by go_simp)
  · rintro e w' ⟨rfl, hb⟩
    go_wp2
    go_ret
    exact ⟨ret_b hE.out, (((Below.refl _ w).alloc (Nat.le_refl _) _).alloc (by simp) _).trans (hb.mono (by simp; omega))⟩
end Go.Proofs.Ytkgpcomljgbilaa.Q
end
section
namespace Go.Proofs.Ytkgpcomljgbilaa.Q
open Go.RowKit Go.Proofs.YtkgpcomljgbilaaW.PrintWords Go.Proofs.YtkgpcomljgbilaaW.PrintLast Go.Proofs.YtkgpcomljgbilaaW.PrintMore
attribute [local go_sem] max2_int min2_int max_two min_two max_three min_three max_four min_four
set_option linter.unusedVariables false
set_option linter.unusedSimpArgs false
section
variable (a1 : Int → Option Bool)
def impl_votesOf.l0 : Nat → Int → Int → Int → List Bool → Option (Int × List Bool)
 | 0, _, _, _, _ => none
 | k + 1, x14, x15, x398000, x398001 => if x15 < x14 then ((a1 x15).bind fun t398 => (if 0 ≤ x15 then (if x15 < (x398001.length : Int) then (impl_votesOf.l0 k x14 (wrap64 (x15 + 1)) x398000 (x398001.set (x15 : Int).toNat t398)) else (none)) else (none))) else (some (x398000, x398001))
def impl_votesOf.f (k : Nat) (a0 : Int) (a1 : Int → Option Bool) : Option (Int × List Bool) := if 0 ≤ a0 then (if 0 ≤ (shl .i64 1 a0) then (if (shl .i64 1 a0 : Int).toNat ≤ 281474976710656 then ((some (List.replicate (shl .i64 1 a0 : Int).toNat false : List Bool)).bind fun y394 => (impl_votesOf.l0 a1 k (y394.length : Int) 0 a0 y394)) else (none)) else (none)) else (none)
def impl_votesOf.T5 : Bool × List (List Nat × List Nat) := (true, [([], []), ([0], [0]), ([], []), ([], []), ([], []), ([3, 4], [3, 4]), ([1, 2, 0, 1, 2, 3, 4, 5], [1, 2]), ([6, 5, 5, 0, 1, 2, 3, 4, 5], [5, 6])])
def impl_votesOf.B5 : List Nat := [0, 1, 0, 0, 0, 24, 63, 127]
theorem impl_votesOf.tab5 : rtab .any (opsOf Try.f149 5) = impl_votesOf.T5 := by kernel_rfl
theorem impl_votesOf.bits5 : waitsOk impl_votesOf.T5.2 impl_votesOf.B5 = true := by kernel_rfl
set_option maxHeartbeats 8000000 in
set_option maxRecDepth 100000 in
theorem impl_votesOf.calls (k : Nat) (a0 : Int) (a1 : Int → Option Bool) (g_ : Nat) (lb_ : Array Value) (eg_ : ∀ args w, (callFunc g_ args).run Try.prog w = .ok (.enter g_ args) w) (r1 : Int) (r2 : List Bool) (w : World) (hp0_ : PredI Try.prog g_ lb_ w a1) (h : impl_votesOf.f k a0 a1 = some (r1, r2)) :
  Calls Try.prog 149 #[.int .i64 a0, .func (.func g_) #[] lb_] w fun e w' => ∃ v1_ : Value, e = .returned (.agg #[.int .i64 r1, v1_]) ∧ Kd.R Kd.bool 4 w' w.heap.size (fun _ => True) v1_ r2 ∧ Below w.heap.size w w' := by
 have hp_ := Aside0.mk hp0_
 clear hp0_
 have hu89 := Try.underlying89
 have HB := Aside0.mk (Below.refl w.heap.size w)
 have H : (if 0 ≤ a0 then (if 0 ≤ (shl .i64 1 a0) then (if (shl .i64 1 a0 : Int).toNat ≤ 281474976710656 then ((some (List.replicate (shl .i64 1 a0 : Int).toNat false : List Bool)).bind fun y394 => (impl_votesOf.l0 a1 k (y394.length : Int) 0 a0 y394)) else (none)) else (none)) else (none)) = some (r1, r2) := h
 clear h
 by_cases c3 : 0 ≤ a0
 ·rw [if_pos c3] at H
  have c3b0 := eq_true c3
  have c3b1 : decide (0 ≤ a0) = true := decide_eq_true c3
  clear c3
  obtain ⟨ji4, hji4⟩ : ∃ j_ : Int, (shl .i64 1 a0) = j_ := ⟨_, rfl⟩
  replace H : (if 0 ≤ (ji4) then (if (ji4 : Int).toNat ≤ 281474976710656 then ((some (List.replicate (ji4 : Int).toNat false : List Bool)).bind fun y394 => (impl_votesOf.l0 a1 k (y394.length : Int) 0 a0 y394)) else (none)) else (none)) = some (r1, r2) := by first | (rw [hji4] at H; exact H) | (simp only [hji4] at H ⊢; exact H)
  have hji4_ : (IntKind.i64.wrap (1 * 2 ^ min a0.toNat 64)) = ji4 := hji4
  have hji4z : a0 ≤ 64 → (IntKind.i64.wrap (1 * 2 ^ a0.toNat)) = ji4 := shl_small hji4
  have hji4u : (IntKind.i64.wrap (2 ^ min a0.toNat 64)) = ji4 := by have h_ := hji4_; rw [Int.one_mul] at h_; exact h_
  have hji4v : a0 ≤ 64 → (IntKind.i64.wrap (2 ^ a0.toNat)) = ji4 := fun hle_ => by have h_ := hji4z hle_; rw [Int.one_mul] at h_; exact h_
  have hji4y : (wrap64 (1 * 2 ^ min a0.toNat 64)) = ji4 := (i64_w _).symm.trans hji4_
  have hji4x : a0 ≤ 64 → (wrap64 (1 * 2 ^ a0.toNat)) = ji4 := fun h_ => (i64_w _).symm.trans (hji4z h_)
  by_cases c5 : 0 ≤ (ji4)
  ·rw [if_pos c5] at H
   have c5b0 := eq_true c5
   have c5b1 : decide (0 ≤ (ji4)) = true := decide_eq_true c5
   clear c5
   by_cases c6 : (ji4 : Int).toNat ≤ 281474976710656
   ·rw [if_pos c6] at H
    have c6b0 := eq_true c6
    have c6b1 : decide ((ji4 : Int).toNat ≤ 281474976710656) = true := decide_eq_true c6
    clear c6
    obtain ⟨y394, hy394⟩ : ∃ y_ : List Bool, y_ = (List.replicate (ji4 : Int).toNat false) := ⟨_, rfl⟩
    replace H : (impl_votesOf.l0 a1 k (y394.length : Int) 0 a0 y394) = some (r1, r2) := by first | (rw [hy394]; with_reducible exact H) | (have H2_ := (Option.bind_some _ _).symm.trans H; rw [hy394]; with_reducible exact H2_) | (have H2_ := (Option.bind_some _ _).symm.trans H; with_reducible exact H2_) | with_reducible exact H | (rw [hy394]; exact H) | exact H
    have Ny394 := Aside0.mk hy394
    clear hy394
    have H' := Aside0.mk H
    clear H
    go_enter Try.func149, Try.ntmps149
    go_wp2_with (first | ((with_reducible refine gate_dst (N := 4) rfl ?_); refine box_event ?hg (N := 4) ?hd (cs := #[.int .i64 0, .slice none 0 0]) (t := 89) ?hr ?_; (case hd => rfl); (case hg => rfl); (case hr => first | (go_simp; done) | (go_simp; rfl)); intro gb393 hg w7 hbox hb; have n0_ := Aside0.mk (below_step (zh HB.out) hb); have n1_ := Aside0.mk (hbox); have n2_ := Aside0.mk ((by rw [hg]; exact (below_size (zh HB.out)) : w.heap.size ≤ gb393)); have n3_ := Aside0.mk ((by rw [hg]; exact (below_size (zh HB.out)) : w.heap.size ≤ gb393)); clear HB; have HB := n0_; have BK393 := n1_; have GW393 := n2_; have GE393 := n3_; clear n0_ n1_ n2_ n3_; clear hb hbox hg) | ((with_reducible refine gate_dst (N := 10) rfl ?_); refine Kd.R_make Kd.bool _ 4 rfl (N := 10) rfl 85 _ _ rfl ji4 rfl rfl Try.underlying85 (.bool false) 1 info4 rfl (by decide) (by omega) false (ok := fun _ => True) (okp := fun _ => True) rfl (fun _ hk => hk) trivial (of_decide_eq_true (by first | (with_reducible assumption) | assumption)) (Nat.le_trans (Nat.mul_le_mul_right _ (of_decide_eq_true (by first | (with_reducible assumption) | assumption) : ji4.toNat ≤ 281474976710656)) (by omega)) (Below.refl _ _) (Nat.le_refl _) ?_; intro v395 w8 ho9 hb hg_ hnew_; clear hg_ hnew_; (first | rw [← Ny394.out] at ho9 | (simp only [Int.reduceToNat] at ho9; rw [← Ny394.out] at ho9)); have n0_ := Aside0.mk (Kd.R_lower ho9 (below_size (zh HB.out))); have n1_ := Aside0.mk (blk_below (g := gb393) (o := .cells #[.int .i64 0, .slice none 0 0] 89 (0, 0)) (zb BK393.out) hb); have n2_ := Aside0.mk (below_step (zh HB.out) hb); clear BK393; clear HB; have HO396 := n0_; have BK393 := n1_; have HB := n2_; clear n0_ n1_ n2_; clear hb ho9; obtain ⟨Ao10, co10, eo10⟩ := Kd.R_slice HO396.out; subst eo10) | ((with_reducible refine gate_dst (N := 5) rfl ?_); refine box_event ?hg (N := 5) ?hd (cs := #[.int .i64 0, .slice none 0 0]) (t := 89) ?hr ?_; (case hd => rfl); (case hg => rfl); (case hr => first | (go_simp; done) | (go_simp; rfl)); intro gb397 hg w11 hbox hb; have n0_ := Aside0.mk (Kd.R_below (zr HO396.out) hb); have n1_ := Aside0.mk (blk_below (g := gb393) (o := .cells #[.int .i64 0, .slice none 0 0] 89 (0, 0)) (zb BK393.out) hb); have n2_ := Aside0.mk (below_step (zh HB.out) hb); have n3_ := Aside0.mk (hbox); have n4_ := Aside0.mk ((by rw [hg]; exact (below_size (zh HB.out)) : w.heap.size ≤ gb397)); have n5_ := Aside0.mk ((by rw [hg]; exact (below_size (zh HB.out)) : w.heap.size ≤ gb397)); have n6_ := Aside0.mk ((by rw [hg]; exact Nat.ne_of_lt (blk_lt (g := gb393) (o := .cells #[.int .i64 0, .slice none 0 0] 89 (0, 0)) (zb BK393.out)) : gb393 ≠ gb397)); have n7_ := Aside0.mk ((by rw [hg]; exact Nat.ne_of_gt (blk_lt (g := gb393) (o := .cells #[.int .i64 0, .slice none 0 0] 89 (0, 0)) (zb BK393.out)) : gb397 ≠ gb393)); clear HO396; clear BK393; clear HB; have HO396 := n0_; have BK393 := n1_; have HB := n2_; have BK397 := n3_; have GW397 := n4_; have GE397 := n5_; have NB393_397 := n6_; have NB397_393 := n7_; clear n0_ n1_ n2_ n3_ n4_ n5_ n6_ n7_; clear hb hbox hg; have hnb12 := NB397_393.out; have hnc12 := NB393_397.out; have hcz13_0 : w11.cell? ⟨gb397, 0, none⟩ = some (.int .i64 0) := (blk_cell BK397.out 0).trans rfl; have hcz13_1 : w11.cell? ⟨gb397, 1, none⟩ = some (.slice none 0 0) := (blk_cell BK397.out 1).trans rfl; have hfz13_0 := blk_frozen BK397.out 0; have hfz13_1 := blk_frozen BK397.out 1))
    go_loopg [15] k (fun kq v15 w' => ∃ (x15_1 : Int) (x398001_1 : List Bool) (u398001 : Value), v15 = .int .i64 x15_1 ∧ Aside0 (impl_votesOf.l0 a1 kq (y394.length : Int) x15_1 a0 x398001_1 = some (r1, r2)) ∧ Aside0 (kq ≤ k) ∧ Aside0 (Kd.R Kd.bool 4 w' w.heap.size (fun _ => True) u398001 x398001_1) ∧ Aside0 (w'.heap[gb393]? = some (.cells #[.int .i64 0, (.slice none 0 0)] 89 (0, 0))) ∧ Aside0 (w'.heap[gb397]? = some (.cells #[.int .i64 a0, u398001] 89 (0, 0))) ∧ Aside0 (Below w.heap.size w w'))
    case atStart => exact ⟨(0), (y394), (.slice Ao10 y394.length co10), (by first | rfl | (simp; done) | (simp [*]; done)), H', ⟨Nat.le_refl _⟩, ⟨by (with_reducible repeat (first | apply Kd.R_alloc | apply Kd.R_drewN | apply Kd.R_drew)); exact Kd.R_mono (Kd.R_far (p := ⟨gb397, 1, none⟩) (Kd.R_far (p := ⟨gb397, 0, none⟩) (Kd.R_types HO396.out BK397.out (by decide)) (fun _ hk => hk.2) (.int .i64 a0)) (fun _ hk => hk.2) (.slice Ao10 y394.length co10)) (fun _ hk => trivial)⟩, ⟨by (with_reducible repeat (first | refine blk_drewN ?_ _ | refine blk_drew ?_ | refine blk_alloc ?_ _)); refine blk_far ?_ NB393_397.out _; (with_reducible repeat (first | refine blk_drewN ?_ _ | refine blk_drew ?_ | refine blk_alloc ?_ _)); refine blk_far ?_ NB393_397.out _; (with_reducible repeat (first | refine blk_drewN ?_ _ | refine blk_drew ?_ | refine blk_alloc ?_ _)); exact BK393.out⟩, ⟨by (with_reducible repeat (first | refine blk_drewN ?_ _ | refine blk_drew ?_ | refine blk_alloc ?_ _)); refine blk_put (cs := #[.int .i64 a0, .slice none 0 0]) ?_ 1 _ rfl; (with_reducible repeat (first | refine blk_drewN ?_ _ | refine blk_drew ?_ | refine blk_alloc ?_ _)); refine blk_put (cs := #[.int .i64 0, .slice none 0 0]) ?_ 0 _ rfl; (with_reducible repeat (first | refine blk_drewN ?_ _ | refine blk_drew ?_ | refine blk_alloc ?_ _)); exact BK397.out⟩, ⟨by repeat (first | (with_reducible first | exact HB.out | apply below_alloc | apply pw_below_drewN | apply below_drew1 | refine below_set ?_ GE393.out | refine below_set ?_ GE397.out) | exact HB.out)⟩⟩
    case round =>
     clear H'
     try clear c1
     try clear p2
     try clear c3
     try clear c3b0
     try clear c3b1
     try clear c5
     try clear c5b0
     try clear c5b1
     try clear c6
     try clear c6b0
     try clear c6b1
     try clear p6
     try clear c12
     try clear hcz13_0
     try clear hcz13_1
     try clear hfz13_0
     try clear hfz13_1
     obtain ⟨x15_1, x398001_1, u398001, rfl, HA, HK1, HO_398001, BK393, BK397, HB⟩ := hrel
     cases gk with
     | zero => exact absurd HA.out (by simp [impl_votesOf.l0])
     | succ k1 =>
      have H := HA.out
      clear HA
      simp only [impl_votesOf.l0] at H
      by_cases c14 : x15_1 < (y394.length : Int)
      ·rw [if_pos c14] at H
       have c14b0 : decide (x15_1 < (y394.length : Int)) = true := decide_eq_true c14
       clear c14
       replace H := Option.bind_eq_some_iff.mp H
       obtain ⟨t398, A150, H⟩ := H
       replace H : (if 0 ≤ x15_1 then (if x15_1 < (x398001_1.length : Int) then (impl_votesOf.l0 a1 k1 (y394.length : Int) (wrap64 (x15_1 + 1)) a0 (x398001_1.set (x15_1 : Int).toNat t398)) else (none)) else (none)) = some (r1, r2) := H
       have A15 := Aside0.mk A150
       clear A150
       by_cases c16 : 0 ≤ x15_1
       ·rw [if_pos c16] at H
        have c16b0 : decide (0 ≤ x15_1) = true := decide_eq_true c16
        clear c16
        by_cases c17 : x15_1 < (x398001_1.length : Int)
        ·rw [if_pos c17] at H
         have c17b0 : decide (x15_1 < (x398001_1.length : Int)) = true := decide_eq_true c17
         clear c17
         obtain ⟨y399, hy399⟩ : ∃ y_ : List Bool, y_ = (x398001_1.set (x15_1 : Int).toNat t398) := ⟨_, rfl⟩
         replace H : (impl_votesOf.l0 a1 k1 (y394.length : Int) (wrap64 (x15_1 + 1)) a0 y399) = some (r1, r2) := by first | (rw [hy399]; with_reducible exact H) | (have H2_ := (Option.bind_some _ _).symm.trans H; rw [hy399]; with_reducible exact H2_) | (have H2_ := (Option.bind_some _ _).symm.trans H; with_reducible exact H2_) | with_reducible exact H | (rw [hy399]; exact H) | exact H
         have Ny399 := Aside0.mk hy399
         clear hy399
         have H' := Aside0.mk H
         clear H
         try go_wp2
         have n0_ := Aside0.mk (Kd.R_drew HO_398001.out)
         have n1_ := Aside0.mk (blk_drew BK393.out)
         have n2_ := Aside0.mk (blk_drew BK397.out)
         have n3_ := Aside0.mk (below_drew1 HB.out)
         clear HO_398001
         clear BK393
         clear BK397
         clear HB
         have HO_398001 := n0_
         have BK393 := n1_
         have BK397 := n2_
         have HB := n3_
         clear n0_ n1_ n2_ n3_
         refine start_ (n := 8) (S := fun w' => w'.cell? ⟨gb397, 0, none⟩ = some (.int .i64 a0) ∧ w'.cell? ⟨gb397, 1, none⟩ = some (u398001)) (ds := [7]) #[false, false, false, false, false, false, false, false] (by kernel_rfl) rfl rfl ⟨(blk_cell BK397.out 0).trans rfl, (blk_cell BK397.out 1).trans rfl⟩ (fun hHeld => ?_); refine with_tabW impl_votesOf.tab5 impl_votesOf.bits5 (fun HT_ HW_ => ?_)
         generalize wr.drew = w19 at HO_398001 BK393 BK397 HB hHeld ⊢
         refine pure_ (i := 0) (N := some 18) (v := ?_) (a' := ?_) #[true, false, false, false, false, false, false, false] rfl rfl (any_of HT_.out (by kernel_rfl)) (fun _ _ _ h => h) (Or.inl ⟨by rfl, ?_⟩) ?_ ?_
         rotate_left
         ·intro w'
          go_simp
          with_reducible rfl
         rotate_left
         ·simp only [Act.put, List.setIfInBounds_toArray, List.set_cons_zero, List.set_cons_succ, i64_w, i32_w]
          rfl
         refine pure_ (i := 2) (N := some 20) (v := ?_) (a' := ?_) #[true, false, true, false, false, false, false, false] rfl rfl (any_of HT_.out (by kernel_rfl)) (fun _ _ _ h => h) (Or.inl ⟨by rfl, ?_⟩) ?_ ?_
         rotate_left
         ·intro w'
          go_simp
          with_reducible rfl
         rotate_left
         ·simp only [Act.put, List.setIfInBounds_toArray, List.set_cons_zero, List.set_cons_succ, i64_w, i32_w]
          rfl
         refine pure_ (i := 3) (N := some 21) (v := ?_) (a' := ?_) #[true, false, true, true, false, false, false, false] rfl rfl (any_of HT_.out (by kernel_rfl)) (fun _ _ _ h => h) (Or.inl ⟨by rfl, ?_⟩) ?_ ?_
         rotate_left
         ·intro w'
          go_simp
          with_reducible rfl
         rotate_left
         ·simp only [Act.put, List.setIfInBounds_toArray, List.set_cons_zero, List.set_cons_succ, i64_w, i32_w]
          rfl
         refine pure_ (i := 4) (N := some 22) (v := ?_) (a' := ?_) #[true, false, true, true, true, false, false, false] rfl rfl (any_of HT_.out (by kernel_rfl)) (fun _ _ _ h => h) (Or.inl ⟨by rfl, ?_⟩) ?_ ?_
         rotate_left
         ·intro w'
          go_simp
          with_reducible rfl
         rotate_left
         ·simp only [Act.put, List.setIfInBounds_toArray, List.set_cons_zero, List.set_cons_succ, i64_w, i32_w]
          rfl
         refine take_ (i := 1) (N := some 19) (v := ?_) (a' := ?_) #[true, true, true, true, true, false, false, false] rfl rfl (take_ofW HT_.out HW_.out (by kernel_rfl)) (fun _ _ _ h => h) (Or.inl ⟨by rfl, ?_⟩) hHeld ?_ ?_
         rotate_left
         ·rintro w' ⟨s0, s1⟩
          go_simp
          with_reducible rfl
         rotate_left
         ·simp only [Act.put, List.setIfInBounds_toArray, List.set_cons_zero, List.set_cons_succ, i64_w, i32_w]
          rfl
         refine one_ (i := 5) (N := some 23) #[true, true, true, true, true, true, false, false] rfl rfl (one_of HT_.out (by kernel_rfl)) (by decide) (fun K hK => ?_)
         refine goesF_ eg_ (by rfl) #[.int .i64 x15_1] (by rfl) rfl rfl (by (try simp only [List.map_toArray, List.map_cons, List.map_nil]); first | done | rfl | (simp only [List.length_drop, List.length_take]; rfl)) ?_
         with_reducible refine (hp_.out _ x15_1 t398 (zh HB.out) A15.out).mono ?_
         rintro e w20 ⟨rfl, hb⟩
         refine ⟨_, rfl, ?_⟩
         have n0_ := Aside0.mk (Kd.R_below (zr HO_398001.out) hb)
         have n1_ := Aside0.mk (blk_below (g := gb393) (o := .cells #[.int .i64 0, .slice none 0 0] 89 (0, 0)) (zb BK393.out) hb)
         have n2_ := Aside0.mk (blk_below (g := gb397) (o := .cells #[.int .i64 a0, u398001] 89 (0, 0)) (zb BK397.out) hb)
         have n3_ := Aside0.mk (below_step (zh HB.out) hb)
         clear HO_398001
         clear BK393
         clear BK397
         clear HB
         have HO_398001 := n0_
         have BK393 := n1_
         have BK397 := n2_
         have HB := n3_
         clear n0_ n1_ n2_ n3_
         (try clear hb)
         (try clear hb2)
         (try clear hk)
         (try clear hi)
         have p18 : 0 ≤ (x15_1 : Int) := of_decide_eq_true (by first | (with_reducible assumption) | assumption)
         have q18 : (x15_1 : Int) < ((x398001_1.length : Int) : Int) := of_decide_eq_true (by first | (with_reducible assumption) | assumption)
         obtain ⟨go18, co18, eo18, gb18, gl18, cl18, HG18⟩ := Kd.R_form HO_398001.out (by omega)
         (first | cases eo18 | (injection eo18 with ea_ en_ ec_; (first | subst ea_ | (injection ea_ with ea_; subst ea_)); subst ec_; clear en_))
         have GB18 := Aside0.mk gb18
         have GG18 := Aside0.mk HG18
         clear gb18 gl18 HG18
         obtain ⟨hx18_0, hf18_0⟩ := Kd.R_celln false HO_398001.out (x15_1 : Int) p18 q18
         replace p18 := eq_true p18
         replace q18 := eq_true q18
         have HP21 := Kd.R_putn HO_398001.out (x15_1 : Int) t398
         rw [← Ny399.out] at HP21
         have HQ21 := Aside0.mk HP21
         clear HP21
         refine hK.out _ _ ⟨(blk_cell BK397.out 0).trans rfl, (blk_cell BK397.out 1).trans rfl⟩ (fun hHeld => ?_)
         clear hK K
         refine norm_ (a' := ?_) ?_ ?_
         rotate_left
         ·show Act.put _ (some 23) _ = _
          simp only [Act.put, List.setIfInBounds_toArray, List.set_cons_zero, List.set_cons_succ, i64_w, i32_w]
          rfl
         refine pure_ (i := 6) (N := some 24) (v := ?_) (a' := ?_) #[true, true, true, true, true, true, true, false] rfl rfl (any_of HT_.out (by kernel_rfl)) (fun _ _ _ h => h) (Or.inl ⟨by rfl, ?_⟩) ?_ ?_
         rotate_left
         ·intro w'
          go_simp
          with_reducible rfl
         rotate_left
         ·simp only [Act.put, List.setIfInBounds_toArray, List.set_cons_zero, List.set_cons_succ, i64_w, i32_w]
          rfl
         refine last_ (i := 7) (N := none) #[true, true, true, true, true, true, true, true] rfl rfl (one_of HT_.out (by kernel_rfl)) (by decide) (fun K hK => ?_)
         refine skip_ (w1 := ?_) (by rfl) rfl ?_ ?_
         rotate_left
         ·go_simp
          rfl
         refine hK.out _ _ ?_
         clear hK K
         refine done_ (done_of HT_.out (by kernel_rfl)) ?_
         try go_wp2
         go_roundg k1
         case measure => have := HK1.out; omega
         case rel => exact ⟨(wrap64 (x15_1 + 1)), (y399), (.slice (some ⟨go18, 0, none⟩) x398001_1.length co18), (by first | rfl | (simp; done) | (simp [*]; done)), H', ⟨by have := HK1.out; omega⟩, ⟨by (with_reducible repeat (first | apply Kd.R_alloc | apply Kd.R_drewN | apply Kd.R_drew)); exact HQ21.out⟩, ⟨by (with_reducible repeat (first | refine blk_drewN ?_ _ | refine blk_drew ?_ | refine blk_alloc ?_ _)); refine blk_far ?_ (by have h_ := Kd.R_ne HO_398001.out BK393.out (by decide); intro e_; exact h_ (by rw [e_]; rfl)) _; (with_reducible repeat (first | refine blk_drewN ?_ _ | refine blk_drew ?_ | refine blk_alloc ?_ _)); exact BK393.out⟩, ⟨by (with_reducible repeat (first | refine blk_drewN ?_ _ | refine blk_drew ?_ | refine blk_alloc ?_ _)); refine blk_far ?_ (by have h_ := Kd.R_ne HO_398001.out BK397.out (by decide); intro e_; exact h_ (by rw [e_]; rfl)) _; (with_reducible repeat (first | refine blk_drewN ?_ _ | refine blk_drew ?_ | refine blk_alloc ?_ _)); exact BK397.out⟩, ⟨by repeat (first | (with_reducible first | exact HB.out | apply below_alloc | apply pw_below_drewN | apply below_drew1 | refine below_set ?_ GB18.out | refine below_set ?_ GE393.out | refine below_set ?_ GE397.out) | exact HB.out)⟩⟩
        ·rw [if_neg c17] at H
         exact absurd H (by simp)
       ·rw [if_neg c16] at H
        exact absurd H (by simp)
      ·rw [if_neg c14] at H
       have c14b0 : decide (x15_1 < (y394.length : Int)) = false := decide_eq_false c14
       clear c14
       simp only [Option.some.injEq, Prod.mk.injEq] at H
       obtain ⟨rfl, rfl⟩ := H
       have hnb22 := NB397_393.out
       have hnc22 := NB393_397.out
       have hcz23_0 : wr.cell? ⟨gb397, 0, none⟩ = some (.int .i64 a0) := (blk_cell BK397.out 0).trans rfl
       have hcz23_1 : wr.cell? ⟨gb397, 1, none⟩ = some (u398001) := (blk_cell BK397.out 1).trans rfl
       have hfz23_0 := blk_frozen BK397.out 0
       have hfz23_1 := blk_frozen BK397.out 1
       have hcz24_0 : wr.cell? ⟨gb393, 0, none⟩ = some (.int .i64 0) := (blk_cell BK393.out 0).trans rfl
       have hcz24_1 : wr.cell? ⟨gb393, 1, none⟩ = some (.slice none 0 0) := (blk_cell BK393.out 1).trans rfl
       have hfz24_0 := blk_frozen BK393.out 0
       have hfz24_1 := blk_frozen BK393.out 1
       obtain ⟨Ao25, co25, eo25⟩ := Kd.R_slice HO_398001.out
       subst eo25
       go_wp2
       refine bodyPost_ret (results_cell_row rfl _ _ gb393 89 #[.int .i64 a0, .slice Ao25 x398001_1.length co25] (0, 0) _ rfl (by (with_reducible repeat (first | refine blk_drewN ?_ _ | refine blk_drew ?_ | refine blk_alloc ?_ _)); refine blk_put (cs := #[.int .i64 a0, .slice none 0 0]) ?_ 1 _ rfl; (with_reducible repeat (first | refine blk_drewN ?_ _ | refine blk_drew ?_ | refine blk_alloc ?_ _)); refine blk_put (cs := #[.int .i64 0, .slice none 0 0]) ?_ 0 _ rfl; (with_reducible repeat (first | refine blk_drewN ?_ _ | refine blk_drew ?_ | refine blk_alloc ?_ _)); exact BK393.out) Try.underlying89 rfl (by kernel_rfl)) rfl ?_
       exact ⟨_, by first | rfl | (simp [errW_none, errW_some] <;> rfl) | (simp only [← hji4]; first | rfl | (simp [errW_none, errW_some] <;> rfl)) | (simp [*, errW_none, errW_some] <;> rfl), by (with_reducible repeat (first | apply Kd.R_alloc | apply Kd.R_drewN | apply Kd.R_drew)); exact Kd.R_mono (Kd.R_far (p := ⟨gb393, 1, none⟩) (Kd.R_far (p := ⟨gb393, 0, none⟩) (Kd.R_types HO_398001.out BK393.out (by decide)) (fun _ hk => hk.2) (.int .i64 a0)) (fun _ hk => hk.2) (.slice Ao25 x398001_1.length co25)) (fun _ hk => trivial), by repeat (first | (with_reducible first | exact HB.out | apply below_alloc | apply pw_below_drewN | apply below_drew1 | refine below_set ?_ GE393.out | refine below_set ?_ GE397.out) | exact HB.out)⟩
   ·rw [if_neg c6] at H
    exact absurd H (by simp)
  ·rw [if_neg c5] at H
   exact absurd H (by simp)
 ·rw [if_neg c3] at H
  exact absurd H (by simp)
end
end Go.Proofs.Ytkgpcomljgbilaa.Q
end
section
namespace Go.Proofs.Ytkgpcomljgbilaa.Q
open Go.RowKit Go.Proofs.YtkgpcomljgbilaaW.PrintWords Go.Proofs.YtkgpcomljgbilaaW.PrintLast Go.Proofs.YtkgpcomljgbilaaW.PrintMore
set_option linter.unusedVariables false
set_option linter.unusedSimpArgs false
set_option maxHeartbeats 1000000 in
theorem impl_votesBy_11.pred (mask : Int) (b1 : Nat) (w : World) (h1 : w.cell? ⟨b1, 0, none⟩ = some (.int .i64 mask)) :
    PredK Try.prog 167 #[.pointer (some ⟨b1, 0, none⟩)] (Kd.int .i64) (fun c => c.getD 0 undef) w (fun m => some (Go.bits .and .i64 mask m == m)) := by
  intro W x c b hb hK hp
  have hK1 : c = [.int .i64 x] := hK
  subst hK1
  show Calls Try.prog 167 #[.int .i64 x, .pointer (some ⟨b1, 0, none⟩)] W _
  have q1 := (hb.cell (World.block_lt_of_cell? w _ h1)).trans h1
  have hB := Aside0.mk hb
  have hE := Aside0.mk (Option.some.inj hp)
  clear h1 hb hK hp
  go_enter Try.func167, Try.ntmps167
  go_wp2
  go_ret
  exact ⟨ret_b hE.out, hB.out⟩
set_option maxHeartbeats 1000000 in
theorem impl_votesBy_1.pred (l : List Int) (A : Option Addr) (c b1 : Nat) (w : World) (h1 : w.cell? ⟨b1, 0, none⟩ = some (.slice A l.length c)) (hC : Kd.C (Kd.int .i64) w A l.length l) (hc : l.length ≤ c) :
    PredI Try.prog 166 #[.pointer (some ⟨b1, 0, none⟩)] w (fun mask => anyO (fun m => some (Go.bits .and .i64 mask m == m)) l) := by
  intro W x b hb hp
  show Calls Try.prog 166 #[.int .i64 x, .pointer (some ⟨b1, 0, none⟩)] W _
  have eg : ∀ args w, (callFunc 167 args).run Try.prog w = .ok (.enter 167 args) w := enters_of Try.func167 (by kernel_rfl) rfl
  have q1 := (hb.cell (World.block_lt_of_cell? w _ h1)).trans h1
  have hR := Aside0.mk (Kd.C_below hC hb)
  have hE := Aside0.mk hp
  clear h1 hb hC hp
  have q2 : (W.alloc (.cells #[.int .i64 x] 3)).cell? ⟨b1, 0, none⟩ = some (.slice A l.length c) := (Below.cell ((Below.refl _ W).alloc (Nat.le_refl _) _) (World.block_lt_of_cell? W _ q1)).trans q1
  go_enter Try.func166, Try.ntmps166
  go_wp2_with fail
  refine (containsFunc_int (fun m => some (Go.bits .and .i64 x m == m)) 167 #[.pointer (some ⟨W.heap.size, 0, none⟩)] eg A c l b _ ?_ hc ?_ hE.out).mono ?_
  · exact Kd.C_below hR.out ((Below.refl _ W).alloc (Nat.le_refl _) _)
  · exact impl_votesBy_11.pred x _ _ (by go_simp)
  · rintro e w' ⟨rfl, hb⟩
    go_wp2
    go_ret
    exact ⟨rfl, ((Below.refl _ W).alloc (Nat.le_refl _) _).trans (hb.mono (by simp))⟩
def votesOf_votesBy.f (k : Nat) (a0 : Int) (l1 : List Int) : Option (Int × List Bool) := impl_votesOf.f k a0 (fun mask => anyO (fun m => some (Go.bits .and .i64 mask m == m)) l1)
theorem votesOf_votesBy.calls (k : Nat) (a0 : Int) (A1 : Option Addr) (c1 : Nat) (l1 : List Int) (r1 : Int) (r2 : List Bool) (w : World) (hr1 : Kd.C (Kd.int .i64) w A1 l1.length l1) (hc1 : l1.length ≤ c1) (gb : Nat) (hcell : w.cell? ⟨gb, 0, none⟩ = some (.slice A1 l1.length c1)) (h : votesOf_votesBy.f k a0 l1 = some (r1, r2)) :
    Calls Try.prog 149 #[.int .i64 a0, .func (.func 166) #[] #[.pointer (some ⟨gb, 0, none⟩)]] w fun e w' => ∃ v1_ : Value, e = .returned (.agg #[.int .i64 r1, v1_]) ∧ Kd.R Kd.bool 4 w' w.heap.size (fun _ => True) v1_ r2 ∧ Below w.heap.size w w' :=
  impl_votesOf.calls k a0 _ 166 #[.pointer (some ⟨gb, 0, none⟩)] (enters_of Try.func166 (by kernel_rfl) rfl) r1 r2 w (impl_votesBy_1.pred l1 A1 c1 gb w hcell hr1 hc1) h
end Go.Proofs.Ytkgpcomljgbilaa.Q
end
section
namespace Go.Proofs.Ytkgpcomljgbilaa.Q
open Go.RowKit Go.Proofs.YtkgpcomljgbilaaW.PrintWords Go.Proofs.YtkgpcomljgbilaaW.PrintLast Go.Proofs.YtkgpcomljgbilaaW.PrintMore
attribute [local go_sem] max2_int min2_int max_two min_two max_three min_three max_four min_four
set_option linter.unusedVariables false
set_option linter.unusedSimpArgs false
def impl_votesBy.l0 : Nat → Int → List (List Int) → Int → Int → List Int → Option (Int × List Bool)
 | 0, _, _, _, _, _ => none
 | k + 1, x0, x9, x10, x11, x405000 => if x11 < x10 then (if 0 ≤ x11 then (if x11 < (x9.length : Int) then ((impl_maskOf.f k (rd_L1 x9 x11)).bind fun t406 => (if x405000.length < 17592186044416 then (impl_votesBy.l0 k x0 x9 x10 (wrap64 (x11 + 1)) (x405000 ++ [t406])) else (none))) else (none)) else (none)) else ((votesOf_votesBy.f k x0 x405000).bind fun bt410 => (some (bt410.1, bt410.2)))
def impl_votesBy.f (k : Nat) (a0 : Int) (l1 : List (List Int)) : Option (Int × List Bool) := impl_votesBy.l0 k a0 l1 (l1.length : Int) 0 (([] : List Int))
set_option maxHeartbeats 8000000 in
set_option maxRecDepth 100000 in
theorem impl_votesBy.calls (k : Nat) (a0 : Int) (A1 : Option Addr) (c1 : Nat) (l1 : List (List Int)) (r1 : Int) (r2 : List Bool) (w : World) (hr1 : Kd.C (Kd.slice 3 (Kd.int .i64)) w A1 l1.length l1) (hc1 : l1.length ≤ c1) (h : impl_votesBy.f k a0 l1 = some (r1, r2)) :
  Calls Try.prog 116 #[.int .i64 a0, .slice A1 l1.length c1] w fun e w' => ∃ v1_ : Value, e = .returned (.agg #[.int .i64 r1, v1_]) ∧ Kd.R Kd.bool 4 w' w.heap.size (fun _ => True) v1_ r2 ∧ Below w.heap.size w w' := by
 have hu89 := Try.underlying89
 have HR1 := Aside0.mk hr1
 have HC1 := Aside0.mk hc1
 clear hr1 hc1
 have HB := Aside0.mk (Below.refl w.heap.size w)
 have H : (impl_votesBy.l0 k a0 l1 (l1.length : Int) 0 (([] : List Int))) = some (r1, r2) := h
 clear h
 obtain ⟨y401, hy401⟩ : ∃ y_ : List Int, y_ = (([] : List Int)) := ⟨_, rfl⟩
 replace H : (impl_votesBy.l0 k a0 l1 (l1.length : Int) 0 y401) = some (r1, r2) := by first | (rw [hy401]; with_reducible exact H) | (have H2_ := (Option.bind_some _ _).symm.trans H; rw [hy401]; with_reducible exact H2_) | (have H2_ := (Option.bind_some _ _).symm.trans H; with_reducible exact H2_) | with_reducible exact H | (rw [hy401]; exact H) | exact H
 have Ny401 := Aside0.mk hy401
 clear hy401
 have H' := Aside0.mk H
 clear H
 go_enter Try.func116, Try.ntmps116
 go_wp2_with (first | ((with_reducible refine gate_dst (N := 4) rfl ?_); refine box_event ?hg (N := 4) ?hd (cs := #[.int .i64 0, .slice none 0 0]) (t := 89) ?hr ?_; (case hd => rfl); (case hg => rfl); (case hr => first | (go_simp; done) | (go_simp; rfl)); intro gb400 hg w3 hbox hb; have n0_ := Aside0.mk (below_step (zh HB.out) hb); have n1_ := Aside0.mk (hbox); have n2_ := Aside0.mk ((by rw [hg]; exact (below_size (zh HB.out)) : w.heap.size ≤ gb400)); have n3_ := Aside0.mk ((by rw [hg]; exact (below_size (zh HB.out)) : w.heap.size ≤ gb400)); clear HB; have HB := n0_; have BK400 := n1_; have GW400 := n2_; have GE400 := n3_; clear n0_ n1_ n2_ n3_; clear hb hbox hg) | ((with_reducible refine gate_dst (N := 8) rfl ?_); refine Kd.R_lit (Kd.int .i64) _ 3 ?hg (N := 8) ?hd (xs := ([] : List Int)) (inner := []) (ok := fun _ => True) (okp := fun _ => True) ?hr ?hp (fun _ hk => hk) trivial (Below.refl _ _) (Nat.le_refl _) (by simp) ?_; (case hd => rfl); (case hg => rfl); (case hr => first | (go_simp; done) | (go_simp; rfl)); (case hp => exact (Reps.none _ _)); intro v402 w4 ho5 hb hg_ hnew_; clear hg_ hnew_; (first | rw [← Ny401.out] at ho5 | (simp only [Int.reduceToNat] at ho5; rw [← Ny401.out] at ho5)); have n0_ := Aside0.mk (Kd.R_lower ho5 (below_size (zh HB.out))); have n1_ := Aside0.mk (blk_below (g := gb400) (o := .cells #[.int .i64 0, .slice none 0 0] 89 (0, 0)) (zb BK400.out) hb); have n2_ := Aside0.mk (below_step (zh HB.out) hb); clear BK400; clear HB; have HO403 := n0_; have BK400 := n1_; have HB := n2_; clear n0_ n1_ n2_; clear hb ho5) | ((with_reducible refine gate_dst (N := 5) rfl ?_); refine box_event ?hg (N := 5) ?hd (cs := #[.slice none 0 0]) (t := 22) ?hr ?_; (case hd => rfl); (case hg => rfl); (case hr => first | (go_simp; done) | (go_simp; rfl)); intro gb404 hg w6 hbox hb; have n0_ := Aside0.mk (Kd.R_below (zr HO403.out) hb); have n1_ := Aside0.mk (blk_below (g := gb400) (o := .cells #[.int .i64 0, .slice none 0 0] 89 (0, 0)) (zb BK400.out) hb); have n2_ := Aside0.mk (below_step (zh HB.out) hb); have n3_ := Aside0.mk (hbox); have n4_ := Aside0.mk ((by rw [hg]; exact (below_size (zh HB.out)) : w.heap.size ≤ gb404)); have n5_ := Aside0.mk ((by rw [hg]; exact (below_size (zh HB.out)) : w.heap.size ≤ gb404)); have n6_ := Aside0.mk ((by rw [hg]; exact Nat.ne_of_lt (blk_lt (g := gb400) (o := .cells #[.int .i64 0, .slice none 0 0] 89 (0, 0)) (zb BK400.out)) : gb400 ≠ gb404)); have n7_ := Aside0.mk ((by rw [hg]; exact Nat.ne_of_gt (blk_lt (g := gb400) (o := .cells #[.int .i64 0, .slice none 0 0] 89 (0, 0)) (zb BK400.out)) : gb404 ≠ gb400)); clear HO403; clear BK400; clear HB; have HO403 := n0_; have BK400 := n1_; have HB := n2_; have BK404 := n3_; have GW404 := n4_; have GE404 := n5_; have NB400_404 := n6_; have NB404_400 := n7_; clear n0_ n1_ n2_ n3_ n4_ n5_ n6_ n7_; clear hb hbox hg; obtain ⟨Ao7, co7, eo7⟩ := Kd.R_slice HO403.out; subst eo7; have hnb8 := NB404_400.out; have hnc8 := NB400_404.out; have hcz9_0 : w6.cell? ⟨gb404, 0, none⟩ = some (.slice none 0 0) := (blk_cell BK404.out 0).trans rfl; have hfz9_0 := blk_frozen BK404.out 0))
 go_loopg [11] k (fun kq v11 w' => ∃ (x11_1 : Int) (x405000_1 : List Int) (u405000 : Value), v11 = .int .i64 x11_1 ∧ Aside0 (impl_votesBy.l0 kq a0 l1 (l1.length : Int) x11_1 x405000_1 = some (r1, r2)) ∧ Aside0 (kq ≤ k) ∧ Aside0 (Kd.R (Kd.int .i64) 3 w' w.heap.size (fun _ => True) u405000 x405000_1) ∧ Aside0 (w'.heap[gb400]? = some (.cells #[.int .i64 0, (.slice none 0 0)] 89 (0, 0))) ∧ Aside0 (w'.heap[gb404]? = some (.cells #[u405000] 22 (0, 0))) ∧ Aside0 (Below w.heap.size w w'))
 case atStart => exact ⟨(0), (y401), (.slice Ao7 y401.length co7), (by first | rfl | (simp; done) | (simp [*]; done)), H', ⟨Nat.le_refl _⟩, ⟨by (with_reducible repeat (first | apply Kd.R_alloc | apply Kd.R_drewN | apply Kd.R_drew)); exact Kd.R_mono (Kd.R_far (p := ⟨gb404, 0, none⟩) (Kd.R_types HO403.out BK404.out (by decide)) (fun _ hk => hk.2) (.slice Ao7 y401.length co7)) (fun _ hk => trivial)⟩, ⟨by (with_reducible repeat (first | refine blk_drewN ?_ _ | refine blk_drew ?_ | refine blk_alloc ?_ _)); refine blk_far ?_ NB400_404.out _; (with_reducible repeat (first | refine blk_drewN ?_ _ | refine blk_drew ?_ | refine blk_alloc ?_ _)); exact BK400.out⟩, ⟨by (with_reducible repeat (first | refine blk_drewN ?_ _ | refine blk_drew ?_ | refine blk_alloc ?_ _)); refine blk_put (cs := #[.slice none 0 0]) ?_ 0 _ rfl; (with_reducible repeat (first | refine blk_drewN ?_ _ | refine blk_drew ?_ | refine blk_alloc ?_ _)); exact BK404.out⟩, ⟨by repeat (first | (with_reducible first | exact HB.out | apply below_alloc | apply pw_below_drewN | apply below_drew1 | refine below_set ?_ GE400.out | refine below_set ?_ GE404.out) | exact HB.out)⟩⟩
 case round =>
  clear H'
  try clear c1
  try clear p2
  try clear c8
  try clear hcz9_0
  try clear hfz9_0
  obtain ⟨x11_1, x405000_1, u405000, rfl, HA, HK1, HO_405000, BK400, BK404, HB⟩ := hrel
  cases gk with
  | zero => exact absurd HA.out (by simp [impl_votesBy.l0])
  | succ k1 =>
   have H := HA.out
   clear HA
   simp only [impl_votesBy.l0] at H
   by_cases c10 : x11_1 < (l1.length : Int)
   rotate_left
   ·rw [if_neg c10] at H
    have c10b0 : decide (x11_1 < (l1.length : Int)) = false := decide_eq_false c10
    clear c10
    replace H := Option.bind_eq_some_iff.mp H
    obtain ⟨⟨t410, t411⟩, A190, H⟩ := H
    replace H : (some (t410, t411)) = some (r1, r2) := H
    have A19 := Aside0.mk A190
    clear A190
    simp only [Option.some.injEq, Prod.mk.injEq] at H
    obtain ⟨rfl, rfl⟩ := H
    obtain ⟨Ao20, co20, eo20⟩ := Kd.R_slice HO_405000.out
    subst eo20
    go_wp2_with (first | ((with_reducible refine gate_callee (f := 149) rfl ?_); refine goesL_ (some 23) rfl rfl Try.func149 (by kernel_rfl) rfl #[.int .i64 a0, .func (.func 166) #[] #[.pointer (some ⟨gb404, 0, none⟩)]] rfl (by (try simp only [List.map_toArray, List.map_cons, List.map_nil]); first | done | rfl | (simp only [List.length_drop, List.length_take]; rfl)) ?_; (with_reducible refine (votesOf_votesBy.calls k1 a0 _ _ x405000_1 t410 t411 _ ?side1 ?side2 gb404 ((blk_cell (zb BK404.out) 0).trans rfl) A19.out).mono ?_); (case side1 => repeat (first | exact (Kd.R_reads' HO_405000.out).2.2 | (with_reducible refine Kd.C_alloc ?_ _) | (with_reducible refine Kd.C_drewN ?_ _) | (with_reducible refine Kd.C_drew ?_))); (case side2 => exact (Kd.R_reads' HO_405000.out).2.1); rintro e w21 ⟨v412, rfl, ho0, hb⟩; refine ⟨_, rfl, ?_⟩; have n0_ := Aside0.mk (Kd.R_below (zr HO_405000.out) hb); have n1_ := Aside0.mk (Kd.R_lower ho0 (below_size (zh HB.out))); have n2_ := Aside0.mk (blk_below (g := gb400) (o := .cells #[.int .i64 0, .slice none 0 0] 89 (0, 0)) (zb BK400.out) hb); have n3_ := Aside0.mk (blk_below (g := gb404) (o := .cells #[.slice Ao20 x405000_1.length co20] 22 (0, 0)) (zb BK404.out) hb); have n4_ := Aside0.mk (below_step (zh HB.out) hb); clear HO_405000; clear BK400; clear BK404; clear HB; have HO_405000 := n0_; have HO413 := n1_; have BK400 := n2_; have BK404 := n3_; have HB := n4_; clear n0_ n1_ n2_ n3_ n4_; (try clear hb); (try clear hb2); (try clear hk); (try clear hi); (try clear ho0); have hnb22 := NB400_404.out; have hnc22 := NB404_400.out; have hcz23_0 : w21.cell? ⟨gb400, 0, none⟩ = some (.int .i64 0) := (blk_cell BK400.out 0).trans rfl; have hcz23_1 : w21.cell? ⟨gb400, 1, none⟩ = some (.slice none 0 0) := (blk_cell BK400.out 1).trans rfl; have hfz23_0 := blk_frozen BK400.out 0; have hfz23_1 := blk_frozen BK400.out 1; obtain ⟨Ao24, co24, eo24⟩ := Kd.R_slice HO413.out; subst eo24))
    refine bodyPost_ret (results_cell_row rfl _ _ gb400 89 #[.int .i64 t410, .slice Ao24 t411.length co24] (0, 0) _ rfl (by (with_reducible repeat (first | refine blk_drewN ?_ _ | refine blk_drew ?_ | refine blk_alloc ?_ _)); refine blk_put (cs := #[.int .i64 t410, .slice none 0 0]) ?_ 1 _ rfl; (with_reducible repeat (first | refine blk_drewN ?_ _ | refine blk_drew ?_ | refine blk_alloc ?_ _)); refine blk_put (cs := #[.int .i64 0, .slice none 0 0]) ?_ 0 _ rfl; (with_reducible repeat (first | refine blk_drewN ?_ _ | refine blk_drew ?_ | refine blk_alloc ?_ _)); exact BK400.out) Try.underlying89 rfl (by kernel_rfl)) rfl ?_
    exact ⟨_, by first | rfl | (simp [errW_none, errW_some] <;> rfl) | (simp [*, errW_none, errW_some] <;> rfl), by (with_reducible repeat (first | apply Kd.R_alloc | apply Kd.R_drewN | apply Kd.R_drew)); exact Kd.R_mono (Kd.R_far (p := ⟨gb400, 1, none⟩) (Kd.R_far (p := ⟨gb400, 0, none⟩) (Kd.R_types HO413.out BK400.out (by decide)) (fun _ hk => hk.2) (.int .i64 t410)) (fun _ hk => hk.2) (.slice Ao24 t411.length co24)) (fun _ hk => trivial), by repeat (first | (with_reducible first | exact HB.out | apply below_alloc | apply pw_below_drewN | apply below_drew1 | refine below_set ?_ GE400.out | refine below_set ?_ GE404.out) | exact HB.out)⟩
   rw [if_pos c10] at H
   have c10b0 : decide (x11_1 < (l1.length : Int)) = true := decide_eq_true c10
   clear c10
   by_cases c11 : 0 ≤ x11_1
   rotate_left
   ·rw [if_neg c11] at H
    exact absurd H (by simp)
   rw [if_pos c11] at H
   have c11b0 : decide (0 ≤ x11_1) = true := decide_eq_true c11
   clear c11
   by_cases c12 : x11_1 < (l1.length : Int)
   rotate_left
   ·rw [if_neg c12] at H
    exact absurd H (by simp)
   rw [if_pos c12] at H
   have c12b0 : decide (x11_1 < (l1.length : Int)) = true := decide_eq_true c12
   clear c12
   replace H := Option.bind_eq_some_iff.mp H
   obtain ⟨t406, A130, H⟩ := H
   replace H : (if x405000_1.length < 17592186044416 then (impl_votesBy.l0 k1 a0 l1 (l1.length : Int) (wrap64 (x11_1 + 1)) (x405000_1 ++ [t406])) else (none)) = some (r1, r2) := H
   have A13 := Aside0.mk A130
   clear A130
   by_cases c14 : x405000_1.length < 17592186044416
   rotate_left
   ·rw [if_neg c14] at H
    exact absurd H (by simp)
   rw [if_pos c14] at H
   have LMc14 := Aside0.mk c14
   clear c14
   obtain ⟨y407, hy407⟩ : ∃ y_ : List Int, y_ = (x405000_1 ++ [t406]) := ⟨_, rfl⟩
   replace H : (impl_votesBy.l0 k1 a0 l1 (l1.length : Int) (wrap64 (x11_1 + 1)) y407) = some (r1, r2) := by first | (rw [hy407]; with_reducible exact H) | (have H2_ := (Option.bind_some _ _).symm.trans H; rw [hy407]; with_reducible exact H2_) | (have H2_ := (Option.bind_some _ _).symm.trans H; with_reducible exact H2_) | with_reducible exact H | (rw [hy407]; exact H) | exact H
   have Ny407 := Aside0.mk hy407
   clear hy407
   have H' := Aside0.mk H
   clear H
   have p405 : 0 ≤ (x11_1 : Int) := of_decide_eq_true (by first | (with_reducible assumption) | assumption)
   have q405 : x11_1 < (l1.length : Int) := of_decide_eq_true (by first | (with_reducible assumption) | assumption)
   obtain ⟨ad405, A405_0, c405_0, e405, hx405_0, hl405_0, hi405_0⟩ := at_L1 HR1.out x11_1 p405 q405
   cases e405
   replace hx405_0 := (HB.out.cell (World.block_lt_of_cell? w _ hx405_0)).trans hx405_0
   have HR405_0 := Aside0.mk hi405_0
   have HC405_0 := Aside0.mk hl405_0
   clear hi405_0 hl405_0
   replace p405 := eq_true p405
   replace q405 := eq_true q405
   try go_wp2
   have n0_ := Aside0.mk (Kd.R_drew HO_405000.out)
   have n1_ := Aside0.mk (blk_drew BK400.out)
   have n2_ := Aside0.mk (blk_drew BK404.out)
   have n3_ := Aside0.mk (below_drew1 HB.out)
   clear HO_405000
   clear BK400
   clear BK404
   clear HB
   have HO_405000 := n0_
   have BK400 := n1_
   have BK404 := n2_
   have HB := n3_
   clear n0_ n1_ n2_ n3_
   refine start_ (n := 6) (S := fun w' => w'.cell? ⟨gb404, 0, none⟩ = some (u405000)) (ds := [5]) #[false, false, false, false, false, false] (by kernel_rfl) rfl rfl ((blk_cell BK404.out 0).trans rfl) (fun hHeld => ?_)
   generalize wr.drew = w15 at HO_405000 BK400 BK404 HB hHeld ⊢
   refine pure_ (i := 1) (N := some 16) (v := ?_) (a' := ?_) #[false, true, false, false, false, false] rfl rfl (by kernel_rfl) (fun _ _ _ h => h) (Or.inl ⟨by rfl, ?_⟩) ?_ ?_
   rotate_left
   ·intro w'
    go_simp
    with_reducible rfl
   rotate_left
   ·simp only [Act.put, List.setIfInBounds_toArray, List.set_cons_zero, List.set_cons_succ, i64_w, i32_w]
    rfl
   refine take_ (i := 0) (N := some 15) (v := ?_) (a' := ?_) #[true, true, false, false, false, false] rfl rfl (by kernel_rfl) (fun _ _ _ h => h) (Or.inl ⟨by rfl, ?_⟩) hHeld ?_ ?_
   rotate_left
   ·intro w' s0
    go_simp
    with_reducible rfl
   rotate_left
   ·simp only [Act.put, List.setIfInBounds_toArray, List.set_cons_zero, List.set_cons_succ, i64_w, i32_w]
    rfl
   refine one_ (i := 2) (N := some 17) #[true, true, true, false, false, false] rfl rfl (by kernel_rfl) (by decide) (fun K hK => ?_)
   refine goes_ Try.func112 (by kernel_rfl) rfl #[.slice A405_0 (rd_L1 l1 x11_1).length c405_0] (by rfl) rfl rfl (by (try simp only [List.map_toArray, List.map_cons, List.map_nil]); first | done | rfl | (simp only [List.length_drop, List.length_take]; rfl)) ?_
   with_reducible refine (impl_maskOf.calls k1 _ _ (rd_L1 l1 x11_1) t406 _ ?side1 ?side2 A13.out).mono ?_
   (case side1 => repeat (first | exact (Kd.C_below HR405_0.out HB.out) | (with_reducible refine Kd.C_alloc ?_ _) | (with_reducible refine Kd.C_drewN ?_ _) | (with_reducible refine Kd.C_drew ?_)))
   (case side2 => exact HC405_0.out)
   rintro e w' ⟨rfl, ⟨nd, rfl⟩⟩
   refine ⟨_, rfl, ?_⟩
   refine hK.out _ _ ((blk_cell BK404.out 0).trans rfl) (fun hHeld => ?_)
   clear hK K
   refine norm_ (a' := ?_) ?_ ?_
   rotate_left
   ·show Act.put _ (some 17) _ = _
    simp only [Act.put, List.setIfInBounds_toArray, List.set_cons_zero, List.set_cons_succ, i64_w, i32_w]
    rfl
   refine one_ (i := 3) (N := some 18) #[true, true, true, true, false, false] rfl rfl (by kernel_rfl) (by decide) (fun K hK => ?_)
   refine value_ (w1 := ?_) (v := ?_) (by rfl) rfl ?_ ?_
   rotate_left 2
   ·go_simp
    constructor
    ·rfl
    ·rfl
   refine hK.out _ _ ((blk_cell (blk_alloc BK404.out _) 0).trans rfl) (fun hHeld => ?_)
   clear hK K
   refine norm_ (a' := ?_) ?_ ?_
   rotate_left
   ·show Act.put _ (some 18) _ = _
    simp only [Act.put, List.setIfInBounds_toArray, List.set_cons_zero, List.set_cons_succ, i64_w, i32_w]
    rfl
   refine one_ (i := 4) (N := some 19) #[true, true, true, true, true, false] rfl rfl (by kernel_rfl) (by decide) (fun K hK => ?_)
   refine Kd.R_append_step (Kd.int .i64) (w0 := w) w.heap.size (by rfl) (.tmp 15) (.tmp 18) 22 3 (.int .i64 0) 8 rfl Try.underlying22 info3 rfl (by decide) (by omega) u405000 x405000_1 t406 [.int .i64 t406] (fun _ => True) (fun _ => False) rfl rfl ?aP (fun _ hk => hk.elim) ?aF ?aO ?aB ?aS ?aL ?_
   (case aP => exact rfl)
   (case aB => exact (zh HB.out))
   (case aF => exact (fun _ _ => trivial))
   (case aO => exact (zr HO_405000.out))
   (case aS => exact (below_size (zh HB.out)))
   (case aL => have := LMc14.out; omega)
   intro v408 w16 ho hb hg hat
   rw [← Ny407.out] at ho
   have n0_ := Aside0.mk (blk_grown (g := gb400) (o := .cells #[.int .i64 0, .slice none 0 0] 89 (0, 0)) (zb BK400.out) hg (Kd.R_ne HO_405000.out BK400.out (by decide)))
   have n1_ := Aside0.mk (blk_grown (g := gb404) (o := .cells #[u405000] 22 (0, 0)) (zb BK404.out) hg (Kd.R_ne HO_405000.out BK404.out (by decide)))
   have n2_ := Aside0.mk (hb)
   have n3_ := Aside0.mk (ho)
   clear BK400
   clear BK404
   clear HB
   clear HO_405000
   have BK400 := n0_
   have BK404 := n1_
   have HB := n2_
   have HO409 := n3_
   clear n0_ n1_ n2_ n3_
   clear ho hb hg hat
   obtain ⟨Ao17, co17, eo17⟩ := Kd.R_slice HO409.out
   (first | subst eo17 | (injection eo17 with f1_ f2_ f3_; have f4_ := f1_.symm; have f5_ := f3_.symm; clear f1_ f2_ f3_; subst f4_; subst f5_))
   refine hK.out _ _ ((blk_cell BK404.out 0).trans rfl) (fun hHeld => ?_)
   clear hK K
   refine norm_ (a' := ?_) ?_ ?_
   rotate_left
   ·show Act.put _ (some 19) _ = _
    simp only [Act.put, List.setIfInBounds_toArray, List.set_cons_zero, List.set_cons_succ, i64_w, i32_w]
    rfl
   refine last_ (i := 5) (N := none) #[true, true, true, true, true, true] rfl rfl (by kernel_rfl) (by decide) (fun K hK => ?_)
   have hs18 : w16.cell? ⟨gb404, 0, none⟩ = some (u405000) := (blk_cell BK404.out 0).trans rfl
   have hfs18 := blk_frozen BK404.out 0
   have hns18_0 := NB400_404.out
   have hms18_0 := NB404_400.out
   refine skip_ (w1 := ?_) (by rfl) rfl ?_ ?_
   rotate_left
   ·go_simp
    rfl
   refine hK.out _ _ ?_
   clear hK K
   refine done_ (by kernel_rfl) ?_
   try go_wp2
   go_roundg k1
   case measure => have := HK1.out; omega
   case rel => exact ⟨(wrap64 (x11_1 + 1)), (y407), (.slice Ao17 y407.length co17), (by first | rfl | (simp; done) | (simp [*]; done)), H', ⟨by have := HK1.out; omega⟩, ⟨by (with_reducible repeat (first | apply Kd.R_alloc | apply Kd.R_drewN | apply Kd.R_drew)); exact Kd.R_mono (Kd.R_far (p := ⟨gb404, 0, none⟩) (Kd.R_types HO409.out BK404.out (by decide)) (fun _ hk => hk.2) (.slice Ao17 y407.length co17)) (fun _ hk => trivial)⟩, ⟨by (with_reducible repeat (first | refine blk_drewN ?_ _ | refine blk_drew ?_ | refine blk_alloc ?_ _)); refine blk_far ?_ NB400_404.out _; (with_reducible repeat (first | refine blk_drewN ?_ _ | refine blk_drew ?_ | refine blk_alloc ?_ _)); exact BK400.out⟩, ⟨by (with_reducible repeat (first | refine blk_drewN ?_ _ | refine blk_drew ?_ | refine blk_alloc ?_ _)); refine blk_put (cs := #[u405000]) ?_ 0 _ rfl; (with_reducible repeat (first | refine blk_drewN ?_ _ | refine blk_drew ?_ | refine blk_alloc ?_ _)); exact BK404.out⟩, ⟨by repeat (first | (with_reducible first | exact HB.out | apply below_alloc | apply pw_below_drewN | apply below_drew1 | refine below_set ?_ GE400.out | refine below_set ?_ GE404.out) | exact HB.out)⟩⟩
def impl_Game_votes.f (k : Nat) (a0_0 : Int) (l0_1 : List (List Int)) : Option (Int × List Bool) := (impl_votesBy.f k a0_0 l0_1).bind fun bt416 => (some (bt416.1, bt416.2))
set_option maxHeartbeats 8000000 in
set_option maxRecDepth 100000 in
theorem impl_Game_votes.calls (k : Nat) (a0_0 : Int) (A0_1 : Option Addr) (c0_1 : Nat) (l0_1 : List (List Int)) (r1 : Int) (r2 : List Bool) (w : World) (hr0_1 : Kd.C (Kd.slice 3 (Kd.int .i64)) w A0_1 l0_1.length l0_1) (hc0_1 : l0_1.length ≤ c0_1) (h : impl_Game_votes.f k a0_0 l0_1 = some (r1, r2)) :
  Calls Try.prog 71 #[.agg #[.int .i64 a0_0, .slice A0_1 l0_1.length c0_1]] w fun e w' => ∃ v1_ : Value, e = .returned (.agg #[.int .i64 r1, v1_]) ∧ Kd.R Kd.bool 4 w' w.heap.size (fun _ => True) v1_ r2 ∧ Below w.heap.size w w' := by
 have hu27 := Try.underlying27
 have hu89 := Try.underlying89
 have HR0_1 := Aside0.mk hr0_1
 have HC0_1 := Aside0.mk hc0_1
 clear hr0_1 hc0_1
 have HB := Aside0.mk (Below.refl w.heap.size w)
 have H : ((impl_votesBy.f k a0_0 l0_1).bind fun bt416 => (some (bt416.1, bt416.2))) = some (r1, r2) := h
 clear h
 replace H := Option.bind_eq_some_iff.mp H
 obtain ⟨⟨t416, t417⟩, A20, H⟩ := H
 replace H : (some (t416, t417)) = some (r1, r2) := H
 have A2 := Aside0.mk A20
 clear A20
 simp only [Option.some.injEq, Prod.mk.injEq] at H
 obtain ⟨rfl, rfl⟩ := H
 go_enter Try.func71, Try.ntmps71
 go_wp2_with (first | ((with_reducible refine gate_dst (N := 1) rfl ?_); refine box_event ?hg (N := 1) ?hd (cs := #[.int .i64 a0_0, .slice A0_1 l0_1.length c0_1]) (t := 27) ?hr ?_; (case hd => rfl); (case hg => rfl); (case hr => first | (go_simp; done) | (go_simp; rfl)); intro gb414 hg w3 hbox hb; have n0_ := Aside0.mk (below_step (zh HB.out) hb); have n1_ := Aside0.mk (hbox); have n2_ := Aside0.mk ((by rw [hg]; exact (below_size (zh HB.out)) : w.heap.size ≤ gb414)); have n3_ := Aside0.mk ((by rw [hg]; exact (below_size (zh HB.out)) : w.heap.size ≤ gb414)); clear HB; have HB := n0_; have BK414 := n1_; have GW414 := n2_; have GE414 := n3_; clear n0_ n1_ n2_ n3_; clear hb hbox hg) | ((with_reducible refine gate_dst (N := 2) rfl ?_); refine box_event ?hg (N := 2) ?hd (cs := #[.int .i64 0, .slice none 0 0]) (t := 89) ?hr ?_; (case hd => rfl); (case hg => rfl); (case hr => first | (go_simp; done) | (go_simp; rfl)); intro gb415 hg w4 hbox hb; have n0_ := Aside0.mk (blk_below (g := gb414) (o := .cells #[.int .i64 a0_0, .slice A0_1 l0_1.length c0_1] 27 (0, 0)) (zb BK414.out) hb); have n1_ := Aside0.mk (below_step (zh HB.out) hb); have n2_ := Aside0.mk (hbox); have n3_ := Aside0.mk ((by rw [hg]; exact (below_size (zh HB.out)) : w.heap.size ≤ gb415)); have n4_ := Aside0.mk ((by rw [hg]; exact (below_size (zh HB.out)) : w.heap.size ≤ gb415)); have n5_ := Aside0.mk ((by rw [hg]; exact Nat.ne_of_lt (blk_lt (g := gb414) (o := .cells #[.int .i64 a0_0, .slice A0_1 l0_1.length c0_1] 27 (0, 0)) (zb BK414.out)) : gb414 ≠ gb415)); have n6_ := Aside0.mk ((by rw [hg]; exact Nat.ne_of_gt (blk_lt (g := gb414) (o := .cells #[.int .i64 a0_0, .slice A0_1 l0_1.length c0_1] 27 (0, 0)) (zb BK414.out)) : gb415 ≠ gb414)); clear BK414; clear HB; have BK414 := n0_; have HB := n1_; have BK415 := n2_; have GW415 := n3_; have GE415 := n4_; have NB414_415 := n5_; have NB415_414 := n6_; clear n0_ n1_ n2_ n3_ n4_ n5_ n6_; clear hb hbox hg; have hnb5 := NB414_415.out; have hnc5 := NB415_414.out; have hcz6_0 : w4.cell? ⟨gb414, 0, none⟩ = some (.int .i64 a0_0) := (blk_cell BK414.out 0).trans rfl; have hcz6_1 : w4.cell? ⟨gb414, 1, none⟩ = some (.slice A0_1 l0_1.length c0_1) := (blk_cell BK414.out 1).trans rfl; have hfz6_0 := blk_frozen BK414.out 0; have hfz6_1 := blk_frozen BK414.out 1) | ((with_reducible refine gate_callee (f := 116) rfl ?_); refine goesL_ (some 7) rfl rfl Try.func116 (by kernel_rfl) rfl #[.int .i64 a0_0, .slice A0_1 l0_1.length c0_1] rfl (by (try simp only [List.map_toArray, List.map_cons, List.map_nil]); first | done | rfl | (simp only [List.length_drop, List.length_take]; rfl)) ?_; (with_reducible refine (impl_votesBy.calls k a0_0 _ _ l0_1 t416 t417 _ ?side1 ?side2 A2.out).mono ?_); (case side1 => repeat (first | exact (Kd.C_below HR0_1.out HB.out) | (with_reducible refine Kd.C_alloc ?_ _) | (with_reducible refine Kd.C_drewN ?_ _) | (with_reducible refine Kd.C_drew ?_))); (case side2 => exact HC0_1.out); rintro e w7 ⟨v418, rfl, ho0, hb⟩; refine ⟨_, rfl, ?_⟩; have n0_ := Aside0.mk (Kd.R_lower ho0 (below_size (zh HB.out))); have n1_ := Aside0.mk (blk_below (g := gb414) (o := .cells #[.int .i64 a0_0, .slice A0_1 l0_1.length c0_1] 27 (0, 0)) (zb BK414.out) hb); have n2_ := Aside0.mk (blk_below (g := gb415) (o := .cells #[.int .i64 0, .slice none 0 0] 89 (0, 0)) (zb BK415.out) hb); have n3_ := Aside0.mk (below_step (zh HB.out) hb); clear BK414; clear BK415; clear HB; have HO419 := n0_; have BK414 := n1_; have BK415 := n2_; have HB := n3_; clear n0_ n1_ n2_ n3_; (try clear hb); (try clear hb2); (try clear hk); (try clear hi); (try clear ho0); have hcz8_0 : w7.cell? ⟨gb415, 0, none⟩ = some (.int .i64 0) := (blk_cell BK415.out 0).trans rfl; have hcz8_1 : w7.cell? ⟨gb415, 1, none⟩ = some (.slice none 0 0) := (blk_cell BK415.out 1).trans rfl; have hfz8_0 := blk_frozen BK415.out 0; have hfz8_1 := blk_frozen BK415.out 1; obtain ⟨Ao9, co9, eo9⟩ := Kd.R_slice HO419.out; subst eo9))
 refine bodyPost_ret (results_cell_row rfl _ _ gb415 89 #[.int .i64 t416, .slice Ao9 t417.length co9] (0, 0) _ rfl (by (with_reducible repeat (first | refine blk_drewN ?_ _ | refine blk_drew ?_ | refine blk_alloc ?_ _)); refine blk_put (cs := #[.int .i64 t416, .slice none 0 0]) ?_ 1 _ rfl; (with_reducible repeat (first | refine blk_drewN ?_ _ | refine blk_drew ?_ | refine blk_alloc ?_ _)); refine blk_put (cs := #[.int .i64 0, .slice none 0 0]) ?_ 0 _ rfl; (with_reducible repeat (first | refine blk_drewN ?_ _ | refine blk_drew ?_ | refine blk_alloc ?_ _)); exact BK415.out) Try.underlying89 rfl (by kernel_rfl)) rfl ?_
 exact ⟨_, by first | rfl | (simp [errW_none, errW_some] <;> rfl) | (simp [*, errW_none, errW_some] <;> rfl), by (with_reducible repeat (first | apply Kd.R_alloc | apply Kd.R_drewN | apply Kd.R_drew)); exact Kd.R_mono (Kd.R_far (p := ⟨gb415, 1, none⟩) (Kd.R_far (p := ⟨gb415, 0, none⟩) (Kd.R_types HO419.out BK415.out (by decide)) (fun _ hk => hk.2) (.int .i64 t416)) (fun _ hk => hk.2) (.slice Ao9 t417.length co9)) (fun _ hk => trivial), by repeat (first | (with_reducible first | exact HB.out | apply below_alloc | apply pw_below_drewN | apply below_drew1 | refine below_set ?_ GE414.out | refine below_set ?_ GE415.out) | exact HB.out)⟩
end Go.Proofs.Ytkgpcomljgbilaa.Q
end
section
namespace Go.Proofs.Ytkgpcomljgbilaa.Q
open Go.RowKit Go.Proofs.YtkgpcomljgbilaaW.PrintWords Go.Proofs.YtkgpcomljgbilaaW.PrintLast Go.Proofs.YtkgpcomljgbilaaW.PrintMore
set_option linter.unusedVariables false
set_option linter.unusedSimpArgs false
set_option maxHeartbeats 1000000 in
theorem indexFunc_ints (p : List Int → Option Bool) (g : Nat) (lb : Array Value) (eg : ∀ args w, (callFunc g args).run Try.prog w = .ok (.enter g args) w)
    (A0 : Option Addr) (c0 : Nat) (l0 : List (List Int)) (r : Int) (w : World) (hr0 : Kd.C (Kd.slice 3 (Kd.int .i64)) w A0 l0.length l0) (hc0 : l0.length ≤ c0)
    (hp : PredK Try.prog g lb (Kd.slice 3 (Kd.int .i64)) (fun c => c.getD 0 undef) w p) (h : idxO p l0 0 = some r) :
    Calls Try.prog 183 #[.slice A0 l0.length c0, .func (.func g) #[] lb] w fun e w' => e = .returned (.int .i64 r) ∧ Below w.heap.size w w' := by
  have hlen := hr0.2.1
  have HR0 := Aside0.mk hr0
  clear hr0
  have HP := Aside0.mk hp
  clear hp
  have H0 := Aside0.mk h
  clear h
  go_enter Try.func183, Try.ntmps183
  go_wp2
  go_loopg [5, 8] l0.length (fun gg _ s8 wr => ∃ kk : Nat, kk ≤ l0.length ∧ l0.length - kk ≤ gg ∧ s8 = .int .i64 kk ∧ Aside0 (Below w.heap.size w wr) ∧ Aside0 (idxO p (l0.drop kk) kk = some r))
  case atStart => exact ⟨0, Nat.zero_le _, by omega, rfl, ⟨Below.refl _ w⟩, H0⟩
  case round =>
    obtain ⟨kk, hkk, hg, rfl, BW, A⟩ := hrel
    by_cases hlt : kk < l0.length
    · have hltz : (kk : Int) < (l0.length : Int) := by omega
      obtain ⟨ad, c, e, _, hK, hcell⟩ := Kd.C_get HR0.out ([] : List Int) (kk : Int) (by omega) hltz
      subst e
      rw [Int.toNat_natCast] at hK hcell
      have hKK := hK
      obtain ⟨A1, c1, rfl, hl1, hk1⟩ := hKK
      have l2 := (BW.out.cell (World.block_lt_of_cell? w _ (hcell 0 _ rfl))).trans (hcell 0 _ rfl)
      clear hcell
      obtain ⟨b, hb, h1, h2⟩ := idxO_step A.out (show l0[kk]? = some (l0.getD kk []) by rw [List.getD_eq_getElem?_getD, List.getElem?_eq_getElem hlt]; rfl)
      have hcall := HP.out wr _ _ b BW.out hK hb
      have l3 : wr.cell? (ad.add kk) = some (.slice A1 (l0.getD kk []).length c1) := by simpa [show (Kd.slice 3 (Kd.int .i64)).sz = 1 from rfl] using l2
      clear l2 hK hk1
      generalize l0.getD kk [] = y at l3 hcall hb hl1
      have B := Aside0.mk hb
      clear hb
      cases b with
      | true =>
        have E := h1 rfl
        clear h1 h2
        have E' := Aside0.mk E
        clear E
        go_wp2_with (go_at_fn g; refine hcall.mono ?_; rintro e w' ⟨rfl, hb'⟩)
        go_ret
        exact ⟨ret_i E'.out.symm, hb'⟩
      | false =>
        have E := Aside0.mk (h2 rfl)
        clear h1 h2
        go_wp2_with (go_at_fn g; refine hcall.mono ?_; rintro e w' ⟨rfl, hb'⟩)
        go_roundg (l0.length - (kk + 1))
        case measure => omega
        case rel => exact ⟨kk + 1, by omega, by omega, by go_num, ⟨hb'⟩, E⟩
    · have hltz : ¬ (kk : Int) < (l0.length : Int) := by omega
      have : kk = l0.length := by omega
      subst this
      go_wp2
      go_ret
      refine ⟨?_, BW.out⟩
      have h3 := A.out
      rw [List.drop_length] at h3
      have h4 : (-1 : Int) = r := by simpa [idxO] using h3
      exact ret_i h4
set_option maxHeartbeats 1000000 in
theorem containsFunc_ints (p : List Int → Option Bool) (g : Nat) (lb : Array Value) (eg : ∀ args w, (callFunc g args).run Try.prog w = .ok (.enter g args) w)
    (A0 : Option Addr) (c0 : Nat) (l0 : List (List Int)) (r : Bool) (w : World) (hr0 : Kd.C (Kd.slice 3 (Kd.int .i64)) w A0 l0.length l0) (hc0 : l0.length ≤ c0)
    (hp : PredK Try.prog g lb (Kd.slice 3 (Kd.int .i64)) (fun c => c.getD 0 undef) w p) (h : anyO p l0 = some r) :
    Calls Try.prog 160 #[.slice A0 l0.length c0, .func (.func g) #[] lb] w fun e w' => e = .returned (.bool r) ∧ Below w.heap.size w w' := by
  obtain ⟨i, hi, rfl⟩ := anyO_idxO p l0 0 r h
  have hcon := indexFunc_ints p g lb eg A0 c0 l0 i w hr0 hc0 hp hi
  clear hr0 hp h hi
  go_enter Try.func160, Try.ntmps160
  go_wp2_with (go_at_call 183; refine hcon.mono ?_; rintro e w' ⟨rfl, hb'⟩)
  go_ret
  exact ⟨rfl, hb'⟩
end Go.Proofs.Ytkgpcomljgbilaa.Q
end
section
namespace Go.Proofs.Ytkgpcomljgbilaa.Q
open Go.RowKit Go.Proofs.YtkgpcomljgbilaaW.PrintWords Go.Proofs.YtkgpcomljgbilaaW.PrintLast Go.Proofs.YtkgpcomljgbilaaW.PrintMore
attribute [local go_sem] max2_int min2_int max_two min_two max_three min_three max_four min_four
set_option linter.unusedVariables false
set_option linter.unusedSimpArgs false
def impl_isSet.f (k : Nat) (l0 : List Int) (a1 : Int) : Option (Bool) := (impl_areIn.f l0 0 (wrap64 (a1 - 1))).bind fun t270 => (if t270 = true then ((impl_isIncreasing.f k l0).bind fun t271 => (some t271)) else (some false))
set_option maxHeartbeats 8000000 in
set_option maxRecDepth 100000 in
theorem impl_isSet.calls (k : Nat) (A0 : Option Addr) (c0 : Nat) (l0 : List Int) (a1 : Int) (r : Bool) (w : World) (hr0 : Kd.C (Kd.int .i64) w A0 l0.length l0) (hc0 : l0.length ≤ c0) (h : impl_isSet.f k l0 a1 = some r) :
  Calls Try.prog 162 #[.slice A0 l0.length c0, .int .i64 a1] w fun e w' => e = .returned (.bool r) ∧ Below w.heap.size w w' := by
 have HR0 := Aside0.mk hr0
 have HC0 := Aside0.mk hc0
 clear hr0 hc0
 have HB := Aside0.mk (Below.refl w.heap.size w)
 have H : ((impl_areIn.f l0 0 (wrap64 (a1 - 1))).bind fun t270 => (if t270 = true then ((impl_isIncreasing.f k l0).bind fun t271 => (some t271)) else (some false))) = some r := h
 clear h
 replace H := Option.bind_eq_some_iff.mp H
 obtain ⟨t270, A30, H⟩ := H
 replace H : (if t270 = true then ((impl_isIncreasing.f k l0).bind fun t271 => (some t271)) else (some false)) = some r := H
 have A3 := Aside0.mk A30
 clear A30
 by_cases c4 : t270 = true
 rotate_left
 ·replace c4 := Bool.eq_false_iff.mpr c4
  subst c4
  have H1 : (some false) = some r := by rw [if_neg (show ¬ (false = true) by decide)] at H; exact H
  clear H
  have H := H1
  clear H1
  obtain rfl := Option.some.inj H
  go_enter Try.func162, Try.ntmps162
  go_wp2_with (first | ((with_reducible refine gate_callee (f := 108) rfl ?_); refine goesL_ (some 8) rfl rfl Try.func108 (by kernel_rfl) rfl #[.slice A0 l0.length c0, .int .i64 0, .int .i64 (wrap64 (a1 - 1))] rfl (by (try simp only [List.map_toArray, List.map_cons, List.map_nil]); first | done | rfl | (simp only [List.length_drop, List.length_take]; rfl)) ?_; (with_reducible refine (impl_areIn.calls _ _ l0 0 (wrap64 (a1 - 1)) false _ ?side1 ?side2 A3.out).mono ?_); (case side1 => repeat (first | exact HR0.out | (with_reducible refine Kd.C_alloc ?_ _) | (with_reducible refine Kd.C_drewN ?_ _) | (with_reducible refine Kd.C_drew ?_))); (case side2 => exact HC0.out); rintro e w7 ⟨rfl, hb⟩; refine ⟨_, rfl, ?_⟩; have n0_ := Aside0.mk (below_step (zh HB.out) hb); clear HB; have HB := n0_; clear n0_; (try clear hb); (try clear hb2); (try clear hk); (try clear hi)))
  go_ret
  exact ⟨by first | rfl | (simp [errW_none, errW_some] <;> rfl) | (simp [*, errW_none, errW_some] <;> rfl), by repeat (first | (with_reducible first | exact HB.out | apply below_alloc | apply pw_below_drewN | apply below_drew1) | exact HB.out)⟩
 subst c4
 have H1 : ((impl_isIncreasing.f k l0).bind fun t271 => (some t271)) = some r := by rw [if_pos rfl] at H; exact H
 clear H
 have H := H1
 clear H1
 replace H := Option.bind_eq_some_iff.mp H
 obtain ⟨t271, A50, H⟩ := H
 replace H : (some t271) = some r := H
 have A5 := Aside0.mk A50
 clear A50
 obtain rfl := Option.some.inj H
 go_enter Try.func162, Try.ntmps162
 go_wp2_with (first | ((with_reducible refine gate_callee (f := 108) rfl ?_); refine goesL_ (some 8) rfl rfl Try.func108 (by kernel_rfl) rfl #[.slice A0 l0.length c0, .int .i64 0, .int .i64 (wrap64 (a1 - 1))] rfl (by (try simp only [List.map_toArray, List.map_cons, List.map_nil]); first | done | rfl | (simp only [List.length_drop, List.length_take]; rfl)) ?_; (with_reducible refine (impl_areIn.calls _ _ l0 0 (wrap64 (a1 - 1)) true _ ?side1 ?side2 A3.out).mono ?_); (case side1 => repeat (first | exact HR0.out | (with_reducible refine Kd.C_alloc ?_ _) | (with_reducible refine Kd.C_drewN ?_ _) | (with_reducible refine Kd.C_drew ?_))); (case side2 => exact HC0.out); rintro e w6 ⟨rfl, hb⟩; refine ⟨_, rfl, ?_⟩; have n0_ := Aside0.mk (below_step (zh HB.out) hb); clear HB; have HB := n0_; clear n0_; (try clear hb); (try clear hb2); (try clear hk); (try clear hi)) | (go_at_call 184; (with_reducible refine (impl_isIncreasing.calls k _ _ l0 t271 _ ?side1 ?side2 A5.out).mono ?_); (case side1 => repeat (first | exact (Kd.C_below HR0.out HB.out) | (with_reducible refine Kd.C_alloc ?_ _) | (with_reducible refine Kd.C_drewN ?_ _) | (with_reducible refine Kd.C_drew ?_))); (case side2 => exact HC0.out); rintro e w' ⟨rfl, ⟨nd, rfl⟩⟩))
 go_ret
 exact ⟨by first | rfl | (simp [errW_none, errW_some] <;> rfl) | (simp [*, errW_none, errW_some] <;> rfl), by repeat (first | (with_reducible first | exact HB.out | apply below_alloc | apply pw_below_drewN | apply below_drew1) | exact HB.out)⟩
end Go.Proofs.Ytkgpcomljgbilaa.Q
end
section
namespace Go.Proofs.Ytkgpcomljgbilaa.Q
open Go.RowKit Go.Proofs.YtkgpcomljgbilaaW.PrintWords Go.Proofs.YtkgpcomljgbilaaW.PrintLast Go.Proofs.YtkgpcomljgbilaaW.PrintMore
set_option linter.unusedVariables false
set_option linter.unusedSimpArgs false
def impl_areSets_1.f (k : Nat) (n : Int) (l : List Int) : Option Bool := if (l.length : Int) = 0 then some true else (impl_isSet.f k l n).bind fun b => some (!b)
set_option maxHeartbeats 1000000 in
theorem impl_areSets_1.pred (k : Nat) (n : Int) (b1 : Nat) (w : World) (h1 : w.cell? ⟨b1, 0, none⟩ = some (.int .i64 n)) :
    PredK Try.prog 161 #[.pointer (some ⟨b1, 0, none⟩)] (Kd.slice 3 (Kd.int .i64)) (fun c => c.getD 0 undef) w (impl_areSets_1.f k n) := by
  intro W x c b hb hK hp
  obtain ⟨A1, c1, rfl, hl1, hk1⟩ := hK
  show Calls Try.prog 161 #[.slice A1 x.length c1, .pointer (some ⟨b1, 0, none⟩)] W _
  have hk2 : Kd.C (Kd.int .i64) W A1 x.length x := Kd.C_below hk1 hb
  have q1 := (hb.cell (World.block_lt_of_cell? w _ h1)).trans h1
  have hB := Aside0.mk hb
  have hC := Aside0.mk hk2
  have hL := Aside0.mk hl1
  unfold impl_areSets_1.f at hp
  clear h1 hb hk1 hk2 hl1
  by_cases h0 : (x.length : Int) = 0
  · rw [if_pos h0] at hp
    have hr' := Option.some.inj hp
    have hE := Aside0.mk hr'
    clear hp hr'
    have h0b : ((x.length : Int) == 0) = true := by simpa using h0
    go_enter Try.func161, Try.ntmps161
    go_wp2
    go_ret
    exact ⟨ret_b hE.out, hB.out⟩
  · rw [if_neg h0] at hp
    obtain ⟨t, ht, hr⟩ := Option.bind_eq_some_iff.mp hp
    have hr' : (!t) = b := Option.some.inj hr
    have hT := Aside0.mk ht
    have hE := Aside0.mk hr'
    clear hp ht hr hr'
    have h0b : ((x.length : Int) == 0) = false := by simpa using h0
    go_enter Try.func161, Try.ntmps161
    go_wp2_with (go_at_call 162; refine (impl_isSet.calls _ _ _ _ _ _ _ hC.out hL.out hT.out).mono ?_; rintro e w' ⟨rfl, hb'⟩)
    go_ret
    exact ⟨ret_b hE.out, hB.out.trans (hb'.mono hB.out.size)⟩
def impl_areSets.f (k : Nat) (l0 : List (List Int)) (a1 : Int) : Option Bool := (anyO (impl_areSets_1.f k a1) l0).bind fun b => some (!b)
set_option maxHeartbeats 1000000 in
theorem impl_areSets.calls (k : Nat) (A0 : Option Addr) (c0 : Nat) (l0 : List (List Int)) (a1 : Int) (r : Bool) (w : World) (hr0 : Kd.C (Kd.slice 3 (Kd.int .i64)) w A0 l0.length l0) (hc0 : l0.length ≤ c0) (h : impl_areSets.f k l0 a1 = some r) :
    Calls Try.prog 110 #[.slice A0 l0.length c0, .int .i64 a1] w fun e w' => e = .returned (.bool r) ∧ Below w.heap.size w w' := by
  have eg : ∀ args w, (callFunc 161 args).run Try.prog w = .ok (.enter 161 args) w := enters_of Try.func161 (by kernel_rfl) rfl
  obtain ⟨t, ht, hr⟩ := Option.bind_eq_some_iff.mp h
  have hE := Aside0.mk (show (!t) = r from Option.some.inj hr)
  have hT := Aside0.mk ht
  have HR := Aside0.mk hr0
  clear h hr ht hr0
  go_enter Try.func110, Try.ntmps110
  go_wp2_with fail
  refine (containsFunc_ints (impl_areSets_1.f k a1) 161 #[.pointer (some ⟨w.heap.size, 0, none⟩)] eg A0 c0 l0 t _ ?_ hc0 ?_ hT.out).mono ?_
  · exact Kd.C_below HR.out ((Below.refl _ w).alloc (Nat.le_refl _) _)
  · exact impl_areSets_1.pred k a1 _ _ (by go_simp)
  · rintro e w' ⟨rfl, hb⟩
    go_wp2
    go_ret
    exact ⟨ret_b hE.out, ((Below.refl _ w).alloc (Nat.le_refl _) _).trans (hb.mono (by simp))⟩
end Go.Proofs.Ytkgpcomljgbilaa.Q
end
section
namespace Go.Proofs.Ytkgpcomljgbilaa.Q
open Go.RowKit Go.Proofs.YtkgpcomljgbilaaW.PrintWords Go.Proofs.YtkgpcomljgbilaaW.PrintLast Go.Proofs.YtkgpcomljgbilaaW.PrintMore
attribute [local go_sem] max2_int min2_int max_two min_two max_three min_three max_four min_four
set_option linter.unusedVariables false
set_option linter.unusedSimpArgs false
mutual
def impl_IsGame.j0 : Nat → Bool → Int → List (List Int) → Option (Bool)
 | 0, _, _, _ => none
 | k + 1, x24, x279000, x279001 => if x24 = true then (some false) else (impl_IsGame.l0 k x279001 (x279001.length : Int) 0 x279000 x279001)
def impl_IsGame.l0 : Nat → List (List Int) → Int → Int → Int → List (List Int) → Option (Bool)
 | 0, _, _, _, _, _ => none
 | k + 1, x26, x27, x28, x279000, x279001 => if x28 < x27 then (if 0 ≤ x28 then (if x28 < (x26.length : Int) then (if x28 > 0 then (if 0 ≤ (wrap64 (x28 - 1)) then (if (wrap64 (x28 - 1)) < (x279001.length : Int) then ((slices_Compare_int_int.f k (rd_L1 x279001 (wrap64 (x28 - 1))) (rd_L1 x26 x28)).bind fun t283 => (impl_IsGame.j2 k x28 (rd_L1 x26 x28) x26 x27 x28 (decide (t283 ≥ 0)) x279000 x279001)) else (none)) else (none)) else (impl_IsGame.j2 k x28 (rd_L1 x26 x28) x26 x27 x28 false x279000 x279001)) else (none)) else (none)) else (some true)
def impl_IsGame.j2 : Nat → Int → List Int → List (List Int) → Int → Int → Bool → Int → List (List Int) → Option (Bool)
 | 0, _, _, _, _, _, _, _, _ => none
 | k + 1, x3, x4, x26, x27, x28, x45, x279000, x279001 => if x45 = true then (some false) else (impl_IsGame.l1 k x3 x4 x26 x27 x28 x279001 (x279001.length : Int) 0 x279000 x279001)
def impl_IsGame.l1 : Nat → Int → List Int → List (List Int) → Int → Int → List (List Int) → Int → Int → Int → List (List Int) → Option (Bool)
 | 0, _, _, _, _, _, _, _, _, _, _ => none
 | k + 1, x3, x4, x26, x27, x28, x47, x48, x49, x279000, x279001 => if x49 < x48 then (if 0 ≤ x49 then (if x49 < (x47.length : Int) then (if x49 = x3 then (impl_IsGame.l1 k x3 x4 x26 x27 x28 x47 x48 (wrap64 (x49 + 1)) x279000 x279001) else ((impl_maskOf.f k x4).bind fun t285 => ((impl_maskOf.f k (rd_L1 x47 x49)).bind fun t286 => (if (Go.bits .and .i64 t285 t286) = t286 then (some false) else (impl_IsGame.l1 k x3 x4 x26 x27 x28 x47 x48 (wrap64 (x49 + 1)) x279000 x279001))))) else (none)) else (none)) else (impl_IsGame.l0 k x26 x27 (wrap64 (x28 + 1)) x279000 x279001)
end
def impl_IsGame.f (k : Nat) (a0_0 : Int) (l0_1 : List (List Int)) : Option (Bool) := (impl_within.f a0_0 1 9).bind fun t279 => (if t279 = true then (if (l0_1.length : Int) = 0 then (impl_IsGame.j0 k true a0_0 l0_1) else ((impl_areSets.f k l0_1 a0_0).bind fun t280 => (impl_IsGame.j0 k (!t280) a0_0 l0_1))) else (impl_IsGame.j0 k true a0_0 l0_1))
set_option maxHeartbeats 8000000 in
set_option maxRecDepth 100000 in
theorem impl_IsGame.calls (k : Nat) (a0_0 : Int) (A0_1 : Option Addr) (c0_1 : Nat) (l0_1 : List (List Int)) (r : Bool) (w : World) (hr0_1 : Kd.C (Kd.slice 3 (Kd.int .i64)) w A0_1 l0_1.length l0_1) (hc0_1 : l0_1.length ≤ c0_1) (h : impl_IsGame.f k a0_0 l0_1 = some r) :
  Calls Try.prog 63 #[.agg #[.int .i64 a0_0, .slice A0_1 l0_1.length c0_1]] w fun e w' => e = .returned (.bool r) ∧ Below w.heap.size w w' := by
 have hu27 := Try.underlying27
 have HR0_1 := Aside0.mk hr0_1
 have HC0_1 := Aside0.mk hc0_1
 clear hr0_1 hc0_1
 have HB := Aside0.mk (Below.refl w.heap.size w)
 have H : ((impl_within.f a0_0 1 9).bind fun t279 => (if t279 = true then (if (l0_1.length : Int) = 0 then (impl_IsGame.j0 k true a0_0 l0_1) else ((impl_areSets.f k l0_1 a0_0).bind fun t280 => (impl_IsGame.j0 k (!t280) a0_0 l0_1))) else (impl_IsGame.j0 k true a0_0 l0_1))) = some r := h
 clear h
 have HC2 := Aside0.mk H
 clear H
 go_enter Try.func63, Try.ntmps63
 go_upto_region 1 with (first | ((with_reducible refine gate_dst (N := 1) rfl ?_); (try (refine gate_guard (by rfl) ?_; dsimp only)); refine box_event ?hg (N := 1) ?hd (cs := #[.int .i64 a0_0, .slice A0_1 l0_1.length c0_1]) (t := 27) ?hr ?_; (case hd => rfl); (case hg => rfl); (case hr => first | (go_simp; done) | (go_simp; rfl)); intro gb278 hg w3 hbox hb; have n0_ := Aside0.mk (below_step (zh HB.out) hb); have n1_ := Aside0.mk (hbox); have n2_ := Aside0.mk ((by rw [hg]; exact (below_size (zh HB.out)) : w.heap.size ≤ gb278)); have n3_ := Aside0.mk ((by rw [hg]; exact (below_size (zh HB.out)) : w.heap.size ≤ gb278)); clear HB; have HB := n0_; have BK278 := n1_; have GW278 := n2_; have GE278 := n3_; clear n0_ n1_ n2_ n3_; clear hb hbox hg))
 (try simp only [Act.put, List.setIfInBounds_toArray, List.set_cons_zero, List.set_cons_succ])
 go_cut [24] (fun v24 wc => ∃ (kq : Nat) (x24_1 : Bool), v24 = .bool x24_1 ∧ Aside0 (impl_IsGame.j0 kq x24_1 a0_0 l0_1 = some r) ∧ Aside0 (kq ≤ k) ∧ Aside0 (wc.heap[gb278]? = some (.cells #[.int .i64 a0_0, (.slice A0_1 l0_1.length c0_1)] 27 (0, 0))) ∧ Aside0 (Below w.heap.size w wc))
 case first =>
  have H := HC2.out
  clear HC2
  replace H := Option.bind_eq_some_iff.mp H
  obtain ⟨t279, A40, H⟩ := H
  replace H : (if t279 = true then (if (l0_1.length : Int) = 0 then (impl_IsGame.j0 k true a0_0 l0_1) else ((impl_areSets.f k l0_1 a0_0).bind fun t280 => (impl_IsGame.j0 k (!t280) a0_0 l0_1))) else (impl_IsGame.j0 k true a0_0 l0_1)) = some r := H
  have A4 := Aside0.mk A40
  clear A40
  by_cases c5 : t279 = true
  ·subst c5
   have H1 : (if (l0_1.length : Int) = 0 then (impl_IsGame.j0 k true a0_0 l0_1) else ((impl_areSets.f k l0_1 a0_0).bind fun t280 => (impl_IsGame.j0 k (!t280) a0_0 l0_1))) = some r := by rw [if_pos rfl] at H; exact H
   clear H
   have H := H1
   clear H1
   by_cases c6 : (l0_1.length : Int) = 0
   ·rw [if_pos c6] at H
    have c6b0 : ((l0_1.length : Int) == 0) = true := beq_iff_eq.mpr c6
    have c6b1 : ((l0_1.length : Int) != 0) = false := bne_eq_false_iff_eq.mpr c6
    clear c6
    (first | rw [c6b0] | (simp only [i64_w, i32_w]; rw [c6b0]) | skip)
    have H' := Aside0.mk H
    clear H
    have hcz7_0 : w3.cell? ⟨gb278, 0, none⟩ = some (.int .i64 a0_0) := (blk_cell BK278.out 0).trans rfl
    have hcz7_1 : w3.cell? ⟨gb278, 1, none⟩ = some (.slice A0_1 l0_1.length c0_1) := (blk_cell BK278.out 1).trans rfl
    have hfz7_0 := blk_frozen BK278.out 0
    have hfz7_1 := blk_frozen BK278.out 1
    go_wp2_with (first | ((with_reducible refine gate_callee (f := 77) rfl ?_); refine goesL_ (some 9) rfl rfl Try.func77 (by kernel_rfl) rfl #[.int .i64 a0_0, .int .i64 1, .int .i64 9] rfl (by (try simp only [List.map_toArray, List.map_cons, List.map_nil]); first | done | rfl | (simp only [List.length_drop, List.length_take]; rfl)) ?_; (with_reducible refine (impl_within.calls a0_0 1 9 true _ A4.out).mono ?_); rintro e w' ⟨rfl, ⟨nd, rfl⟩⟩; refine ⟨_, rfl, ?_⟩))
    go_meet
    case rel => exact ⟨_, (true), (by first | rfl | (simp; done) | (simp [*]; done)), H', ⟨by first | omega | exact Nat.le_refl _⟩, ⟨by (with_reducible repeat (first | refine blk_drewN ?_ _ | refine blk_drew ?_ | refine blk_alloc ?_ _)); exact BK278.out⟩, ⟨by repeat (first | (with_reducible first | exact HB.out | apply below_alloc | apply pw_below_drewN | apply below_drew1 | refine below_set ?_ GE278.out) | exact HB.out)⟩⟩
   ·rw [if_neg c6] at H
    have c6b0 : ((l0_1.length : Int) == 0) = false := beq_eq_false_iff_ne.mpr c6
    have c6b1 : ((l0_1.length : Int) != 0) = true := bne_iff_ne.mpr c6
    have c6b2 : ¬ (l0_1 = []) := fun h_ => c6 (by rw [h_]; rfl)
    (first | rw [c6b0] | (simp only [i64_w, i32_w]; rw [c6b0]) | skip)
    replace H := Option.bind_eq_some_iff.mp H
    obtain ⟨t280, A80, H⟩ := H
    replace H : (impl_IsGame.j0 k (!t280) a0_0 l0_1) = some r := H
    have A8 := Aside0.mk A80
    clear A80
    have H' := Aside0.mk H
    clear H
    have hcz9_0 : w3.cell? ⟨gb278, 0, none⟩ = some (.int .i64 a0_0) := (blk_cell BK278.out 0).trans rfl
    have hcz9_1 : w3.cell? ⟨gb278, 1, none⟩ = some (.slice A0_1 l0_1.length c0_1) := (blk_cell BK278.out 1).trans rfl
    have hfz9_0 := blk_frozen BK278.out 0
    have hfz9_1 := blk_frozen BK278.out 1
    go_wp2_with (first | ((with_reducible refine gate_callee (f := 77) rfl ?_); refine goesL_ (some 9) rfl rfl Try.func77 (by kernel_rfl) rfl #[.int .i64 a0_0, .int .i64 1, .int .i64 9] rfl (by (try simp only [List.map_toArray, List.map_cons, List.map_nil]); first | done | rfl | (simp only [List.length_drop, List.length_take]; rfl)) ?_; (with_reducible refine (impl_within.calls a0_0 1 9 true _ A4.out).mono ?_); rintro e w' ⟨rfl, ⟨nd, rfl⟩⟩; refine ⟨_, rfl, ?_⟩) | (go_at_call 110; (with_reducible refine (impl_areSets.calls k _ _ l0_1 a0_0 t280 _ ?side1 ?side2 A8.out).mono ?_); (case side1 => repeat (first | exact (Kd.C_below HR0_1.out (zh HB.out)) | (with_reducible refine Kd.C_alloc ?_ _) | (with_reducible refine Kd.C_drewN ?_ _) | (with_reducible refine Kd.C_drew ?_))); (case side2 => exact HC0_1.out); rintro e w10 ⟨rfl, hb⟩; have n0_ := Aside0.mk (blk_below (g := gb278) (o := .cells #[.int .i64 a0_0, .slice A0_1 l0_1.length c0_1] 27 (0, 0)) (zb BK278.out) hb); have n1_ := Aside0.mk (below_step (zh HB.out) hb); clear BK278; clear HB; have BK278 := n0_; have HB := n1_; clear n0_ n1_; (try clear hb); (try clear hb2); (try clear hk); (try clear hi)))
    go_meet
    case rel => exact ⟨_, (!t280), (by first | rfl | (simp; done) | (simp [*]; done)), H', ⟨by first | omega | exact Nat.le_refl _⟩, ⟨by (with_reducible repeat (first | refine blk_drewN ?_ _ | refine blk_drew ?_ | refine blk_alloc ?_ _)); exact BK278.out⟩, ⟨by repeat (first | (with_reducible first | exact HB.out | apply below_alloc | apply pw_below_drewN | apply below_drew1 | refine below_set ?_ GE278.out) | exact HB.out)⟩⟩
  ·replace c5 := Bool.eq_false_iff.mpr c5
   subst c5
   have H1 : (impl_IsGame.j0 k true a0_0 l0_1) = some r := by rw [if_neg (show ¬ (false = true) by decide)] at H; exact H
   clear H
   have H := H1
   clear H1
   have H' := Aside0.mk H
   clear H
   have hcz11_0 : w3.cell? ⟨gb278, 0, none⟩ = some (.int .i64 a0_0) := (blk_cell BK278.out 0).trans rfl
   have hcz11_1 : w3.cell? ⟨gb278, 1, none⟩ = some (.slice A0_1 l0_1.length c0_1) := (blk_cell BK278.out 1).trans rfl
   have hfz11_0 := blk_frozen BK278.out 0
   have hfz11_1 := blk_frozen BK278.out 1
   go_wp2_with (first | ((with_reducible refine gate_callee (f := 77) rfl ?_); refine goesL_ (some 9) rfl rfl Try.func77 (by kernel_rfl) rfl #[.int .i64 a0_0, .int .i64 1, .int .i64 9] rfl (by (try simp only [List.map_toArray, List.map_cons, List.map_nil]); first | done | rfl | (simp only [List.length_drop, List.length_take]; rfl)) ?_; (with_reducible refine (impl_within.calls a0_0 1 9 false _ A4.out).mono ?_); rintro e w' ⟨rfl, ⟨nd, rfl⟩⟩; refine ⟨_, rfl, ?_⟩))
   go_meet
   case rel => exact ⟨_, (true), (by first | rfl | (simp; done) | (simp [*]; done)), H', ⟨by first | omega | exact Nat.le_refl _⟩, ⟨by (with_reducible repeat (first | refine blk_drewN ?_ _ | refine blk_drew ?_ | refine blk_alloc ?_ _)); exact BK278.out⟩, ⟨by repeat (first | (with_reducible first | exact HB.out | apply below_alloc | apply pw_below_drewN | apply below_drew1 | refine below_set ?_ GE278.out) | exact HB.out)⟩⟩
 case rest =>
  clear HC2
  try clear p2
  try clear c5
  try clear c6
  try clear c6b0
  try clear c6b1
  try clear c6b2
  try clear c7
  try clear hcz11_0
  try clear hcz11_1
  try clear hcz7_0
  try clear hcz7_1
  try clear hcz9_0
  try clear hcz9_1
  try clear hfz11_0
  try clear hfz11_1
  try clear hfz7_0
  try clear hfz7_1
  try clear hfz9_0
  try clear hfz9_1
  obtain ⟨kq, x24_1, rfl, HA, HJ1, BK278, HB⟩ := hcut
  cases kq with
  | zero => exact absurd HA.out (by simp [impl_IsGame.j0])
  | succ kj1 =>
   have H := HA.out
   clear HA
   simp only [impl_IsGame.j0] at H
   by_cases c12 : x24_1 = true
   ·subst c12
    have H1 : (some false) = some r := by rw [if_pos rfl] at H; exact H
    clear H
    have H := H1
    clear H1
    obtain rfl := Option.some.inj H
    go_wp2
    go_ret
    exact ⟨by first | rfl | (simp [errW_none, errW_some] <;> rfl) | (simp [*, errW_none, errW_some] <;> rfl), by repeat (first | (with_reducible first | exact HB.out | apply below_alloc | apply pw_below_drewN | apply below_drew1 | refine below_set ?_ GE278.out) | exact HB.out)⟩
   replace c12 := Bool.eq_false_iff.mpr c12
   subst c12
   have H1 : (impl_IsGame.l0 kj1 l0_1 (l0_1.length : Int) 0 a0_0 l0_1) = some r := by rw [if_neg (show ¬ (false = true) by decide)] at H; exact H
   clear H
   have H := H1
   clear H1
   have H' := Aside0.mk H
   clear H
   have hcz13_0 : wc.cell? ⟨gb278, 0, none⟩ = some (.int .i64 a0_0) := (blk_cell BK278.out 0).trans rfl
   have hcz13_1 : wc.cell? ⟨gb278, 1, none⟩ = some (.slice A0_1 l0_1.length c0_1) := (blk_cell BK278.out 1).trans rfl
   have hfz13_0 := blk_frozen BK278.out 0
   have hfz13_1 := blk_frozen BK278.out 1
   go_wp2
   go_loopg [28] kj1 (fun kq v28 w' => ∃ (x28_2 : Int), v28 = .int .i64 x28_2 ∧ Aside0 (impl_IsGame.l0 kq l0_1 (l0_1.length : Int) x28_2 a0_0 l0_1 = some r) ∧ Aside0 (kq ≤ kj1) ∧ Aside0 (w'.heap[gb278]? = some (.cells #[.int .i64 a0_0, (.slice A0_1 l0_1.length c0_1)] 27 (0, 0))) ∧ Aside0 (Below w.heap.size w w'))
   case atStart => exact ⟨(0), (by first | rfl | (simp; done) | (simp [*]; done)), H', ⟨Nat.le_refl _⟩, ⟨by (with_reducible repeat (first | refine blk_drewN ?_ _ | refine blk_drew ?_ | refine blk_alloc ?_ _)); exact BK278.out⟩, ⟨by repeat (first | (with_reducible first | exact HB.out | apply below_alloc | apply pw_below_drewN | apply below_drew1 | refine below_set ?_ GE278.out) | exact HB.out)⟩⟩
   case round =>
    clear H'
    try clear c1
    try clear p2
    try clear c5
    try clear c6
    try clear c6b0
    try clear c6b1
    try clear c6b2
    try clear c7
    try clear c12
    try clear hcz11_0
    try clear hcz11_1
    try clear hcz13_0
    try clear hcz13_1
    try clear hcz7_0
    try clear hcz7_1
    try clear hcz9_0
    try clear hcz9_1
    try clear hfz11_0
    try clear hfz11_1
    try clear hfz13_0
    try clear hfz13_1
    try clear hfz7_0
    try clear hfz7_1
    try clear hfz9_0
    try clear hfz9_1
    try clear p2
    obtain ⟨x28_2, rfl, HA, HK2, BK278, HB⟩ := hrel
    cases gk with
    | zero => exact absurd HA.out (by simp [impl_IsGame.l0])
    | succ k2 =>
     have H := HA.out
     clear HA
     simp only [impl_IsGame.l0] at H
     by_cases c14 : x28_2 < (l0_1.length : Int)
     rotate_left
     ·rw [if_neg c14] at H
      have c14b0 : decide (x28_2 < (l0_1.length : Int)) = false := decide_eq_false c14
      clear c14
      obtain rfl := Option.some.inj H
      go_wp2
      go_ret
      exact ⟨by first | rfl | (simp [errW_none, errW_some] <;> rfl) | (simp [*, errW_none, errW_some] <;> rfl), by repeat (first | (with_reducible first | exact HB.out | apply below_alloc | apply pw_below_drewN | apply below_drew1 | refine below_set ?_ GE278.out) | exact HB.out)⟩
     rw [if_pos c14] at H
     have c14b0 : decide (x28_2 < (l0_1.length : Int)) = true := decide_eq_true c14
     clear c14
     by_cases c15 : 0 ≤ x28_2
     rotate_left
     ·rw [if_neg c15] at H
      exact absurd H (by simp)
     rw [if_pos c15] at H
     have c15b0 : decide (0 ≤ x28_2) = true := decide_eq_true c15
     clear c15
     by_cases c16 : x28_2 < (l0_1.length : Int)
     rotate_left
     ·rw [if_neg c16] at H
      exact absurd H (by simp)
     rw [if_pos c16] at H
     have c16b0 : decide (x28_2 < (l0_1.length : Int)) = true := decide_eq_true c16
     clear c16
     have HC17 := Aside0.mk H
     clear H
     have p281 : 0 ≤ (x28_2 : Int) := of_decide_eq_true (by first | (with_reducible assumption) | assumption)
     have q281 : x28_2 < (l0_1.length : Int) := of_decide_eq_true (by first | (with_reducible assumption) | assumption)
     obtain ⟨ad281, A281_0, c281_0, e281, hx281_0, hl281_0, hi281_0⟩ := at_L1 HR0_1.out x28_2 p281 q281
     cases e281
     replace hx281_0 := (HB.out.cell (World.block_lt_of_cell? w _ hx281_0)).trans hx281_0
     have HR281_0 := Aside0.mk hi281_0
     have HC281_0 := Aside0.mk hl281_0
     clear hi281_0 hl281_0
     replace p281 := eq_true p281
     replace q281 := eq_true q281
     go_upto_region 6 with (fail)
     go_cut [45] (fun v45 wc => ∃ (kq : Nat) (x45_16 : Bool), v45 = .bool x45_16 ∧ Aside0 (impl_IsGame.j2 kq x28_2 (rd_L1 l0_1 x28_2) l0_1 (l0_1.length : Int) x28_2 x45_16 a0_0 l0_1 = some r) ∧ Aside0 (kq ≤ k2) ∧ Aside0 (wc.heap[gb278]? = some (.cells #[.int .i64 a0_0, (.slice (some ad281) l0_1.length c0_1)] 27 (0, 0))) ∧ Aside0 (Below w.heap.size w wc))
     case first =>
      have H := HC17.out
      clear HC17
      by_cases c18 : x28_2 > 0
      ·rw [if_pos c18] at H
       have c18b0 : decide (0 < x28_2) = true := decide_eq_true c18
       clear c18
       (first | rw [c18b0] | (simp only [i64_w, i32_w]; rw [c18b0]) | skip)
       obtain ⟨ji19, hji19⟩ : ∃ j_ : Int, (wrap64 (x28_2 - 1)) = j_ := ⟨_, rfl⟩
       replace H : (if 0 ≤ (ji19) then (if (ji19) < (l0_1.length : Int) then ((slices_Compare_int_int.f k2 (rd_L1 l0_1 (ji19)) (rd_L1 l0_1 x28_2)).bind fun t283 => (impl_IsGame.j2 k2 x28_2 (rd_L1 l0_1 x28_2) l0_1 (l0_1.length : Int) x28_2 (decide (t283 ≥ 0)) a0_0 l0_1)) else (none)) else (none)) = some r := by first | (rw [hji19] at H; exact H) | (simp only [hji19] at H ⊢; exact H)
       have hji19w : (IntKind.i64.wrap (x28_2 - 1)) = ji19 := (i64_w _).trans hji19
       by_cases c20 : 0 ≤ (ji19)
       ·rw [if_pos c20] at H
        have c20b0 : decide (0 ≤ (ji19)) = true := decide_eq_true c20
        clear c20
        by_cases c21 : (ji19) < (l0_1.length : Int)
        ·rw [if_pos c21] at H
         have c21b0 : decide ((ji19) < (l0_1.length : Int)) = true := decide_eq_true c21
         clear c21
         replace H := Option.bind_eq_some_iff.mp H
         obtain ⟨t283, A220, H⟩ := H
         replace H : (impl_IsGame.j2 k2 x28_2 (rd_L1 l0_1 x28_2) l0_1 (l0_1.length : Int) x28_2 (decide (t283 ≥ 0)) a0_0 l0_1) = some r := H
         have A22 := Aside0.mk A220
         clear A220
         have H' := Aside0.mk H
         clear H
         have hcz23_0 : wr.cell? ⟨gb278, 0, none⟩ = some (.int .i64 a0_0) := (blk_cell BK278.out 0).trans rfl
         have hcz23_1 : wr.cell? ⟨gb278, 1, none⟩ = some (.slice (some ad281) l0_1.length c0_1) := (blk_cell BK278.out 1).trans rfl
         have hfz23_0 := blk_frozen BK278.out 0
         have hfz23_1 := blk_frozen BK278.out 1
         have p282 : 0 ≤ ((ji19) : Int) := of_decide_eq_true (by first | (with_reducible assumption) | assumption)
         have q282 : (ji19) < (l0_1.length : Int) := of_decide_eq_true (by first | (with_reducible assumption) | assumption)
         obtain ⟨ad282, A282_0, c282_0, e282, hx282_0, hl282_0, hi282_0⟩ := at_L1 HR0_1.out (ji19) p282 q282
         obtain rfl : ad281 = ad282 := (by injection e282)
         replace hx282_0 := (HB.out.cell (World.block_lt_of_cell? w _ hx282_0)).trans hx282_0
         have HR282_0 := Aside0.mk hi282_0
         have HC282_0 := Aside0.mk hl282_0
         clear hi282_0 hl282_0
         replace p282 := eq_true p282
         replace q282 := eq_true q282
         go_wp2_with (first | (go_at_call 111; (with_reducible refine (slices_Compare_int_int.calls k2 _ _ (rd_L1 l0_1 (ji19)) _ _ (rd_L1 l0_1 x28_2) t283 _ ?side1 ?side2 ?side3 ?side4 A22.out).mono ?_); (case side1 => repeat (first | exact (Kd.C_below HR282_0.out HB.out) | (with_reducible refine Kd.C_alloc ?_ _) | (with_reducible refine Kd.C_drewN ?_ _) | (with_reducible refine Kd.C_drew ?_))); (case side2 => exact HC282_0.out); (case side3 => repeat (first | exact (Kd.C_below HR281_0.out HB.out) | (with_reducible refine Kd.C_alloc ?_ _) | (with_reducible refine Kd.C_drewN ?_ _) | (with_reducible refine Kd.C_drew ?_))); (case side4 => exact HC281_0.out); rintro e w' ⟨rfl, ⟨nd, rfl⟩⟩))
         go_meet
         case rel => exact ⟨_, (decide (t283 ≥ 0)), (by first | rfl | (simp; done) | (simp [*]; done)), H', ⟨by have := HJ1.out; have := HK2.out; first | omega | exact Nat.le_refl _⟩, ⟨by (with_reducible repeat (first | refine blk_drewN ?_ _ | refine blk_drew ?_ | refine blk_alloc ?_ _)); exact BK278.out⟩, ⟨by repeat (first | (with_reducible first | exact HB.out | apply below_alloc | apply pw_below_drewN | apply below_drew1 | refine below_set ?_ GE278.out) | exact HB.out)⟩⟩
        ·rw [if_neg c21] at H
         exact absurd H (by simp)
       ·rw [if_neg c20] at H
        exact absurd H (by simp)
      ·rw [if_neg c18] at H
       have c18b0 : decide (0 < x28_2) = false := decide_eq_false c18
       clear c18
       (first | rw [c18b0] | (simp only [i64_w, i32_w]; rw [c18b0]) | skip)
       have H' := Aside0.mk H
       clear H
       go_wp2
       go_meet
       case rel => exact ⟨_, (false), (by first | rfl | (simp; done) | (simp [*]; done)), H', ⟨by have := HJ1.out; have := HK2.out; first | omega | exact Nat.le_refl _⟩, ⟨by (with_reducible repeat (first | refine blk_drewN ?_ _ | refine blk_drew ?_ | refine blk_alloc ?_ _)); exact BK278.out⟩, ⟨by repeat (first | (with_reducible first | exact HB.out | apply below_alloc | apply pw_below_drewN | apply below_drew1 | refine below_set ?_ GE278.out) | exact HB.out)⟩⟩
     case rest =>
      clear HC17
      try clear c1
      try clear c2
      try clear p2
      try clear q2
      try clear hx2
      try clear c5
      try clear c6
      try clear c6b0
      try clear c6b1
      try clear c6b2
      try clear p6
      try clear c7
      try clear c12
      try clear c14
      try clear c14b0
      try clear c15
      try clear c15b0
      try clear c16
      try clear c16b0
      try clear c18
      try clear c18b0
      try clear c20
      try clear c20b0
      try clear c21
      try clear c21b0
      try clear hcz11_0
      try clear hcz11_1
      try clear hcz13_0
      try clear hcz13_1
      try clear hcz23_0
      try clear hcz23_1
      try clear hcz7_0
      try clear hcz7_1
      try clear hcz9_0
      try clear hcz9_1
      try clear hfz11_0
      try clear hfz11_1
      try clear hfz13_0
      try clear hfz13_1
      try clear hfz23_0
      try clear hfz23_1
      try clear hfz7_0
      try clear hfz7_1
      try clear hfz9_0
      try clear hfz9_1
      try clear hx281_0
      try clear hx282_0
      try clear p2
      try clear p281
      try clear p282
      try clear q281
      try clear q282
      obtain ⟨kq, x45_16, rfl, HA, HJ16, BK278, HB⟩ := hcut
      cases kq with
      | zero => exact absurd HA.out (by simp [impl_IsGame.j2])
      | succ kj16 =>
       have H := HA.out
       clear HA
       simp only [impl_IsGame.j2] at H
       by_cases c24 : x45_16 = true
       ·subst c24
        have H1 : (some false) = some r := by rw [if_pos rfl] at H; exact H
        clear H
        have H := H1
        clear H1
        obtain rfl := Option.some.inj H
        go_wp2
        go_ret
        exact ⟨by first | rfl | (simp [errW_none, errW_some] <;> rfl) | (simp [*, errW_none, errW_some] <;> rfl), by repeat (first | (with_reducible first | exact HB.out | apply below_alloc | apply pw_below_drewN | apply below_drew1 | refine below_set ?_ GE278.out) | exact HB.out)⟩
       replace c24 := Bool.eq_false_iff.mpr c24
       subst c24
       have H1 : (impl_IsGame.l1 kj16 x28_2 (rd_L1 l0_1 x28_2) l0_1 (l0_1.length : Int) x28_2 l0_1 (l0_1.length : Int) 0 a0_0 l0_1) = some r := by rw [if_neg (show ¬ (false = true) by decide)] at H; exact H
       clear H
       have H := H1
       clear H1
       have H' := Aside0.mk H
       clear H
       have hcz25_0 : wc.cell? ⟨gb278, 0, none⟩ = some (.int .i64 a0_0) := (blk_cell BK278.out 0).trans rfl
       have hcz25_1 : wc.cell? ⟨gb278, 1, none⟩ = some (.slice (some ad281) l0_1.length c0_1) := (blk_cell BK278.out 1).trans rfl
       have hfz25_0 := blk_frozen BK278.out 0
       have hfz25_1 := blk_frozen BK278.out 1
       go_wp2
       go_loopg [49] kj16 (fun kq v49 w' => ∃ (x49_4 : Int), v49 = .int .i64 x49_4 ∧ Aside0 (impl_IsGame.l1 kq x28_2 (rd_L1 l0_1 x28_2) l0_1 (l0_1.length : Int) x28_2 l0_1 (l0_1.length : Int) x49_4 a0_0 l0_1 = some r) ∧ Aside0 (kq ≤ kj16) ∧ Aside0 (w'.heap[gb278]? = some (.cells #[.int .i64 a0_0, (.slice (some ad281) l0_1.length c0_1)] 27 (0, 0))) ∧ Aside0 (Below w.heap.size w w'))
       case atStart => exact ⟨(0), (by first | rfl | (simp; done) | (simp [*]; done)), H', ⟨Nat.le_refl _⟩, ⟨by (with_reducible repeat (first | refine blk_drewN ?_ _ | refine blk_drew ?_ | refine blk_alloc ?_ _)); exact BK278.out⟩, ⟨by repeat (first | (with_reducible first | exact HB.out | apply below_alloc | apply pw_below_drewN | apply below_drew1 | refine below_set ?_ GE278.out) | exact HB.out)⟩⟩
       case round =>
        clear H'
        try clear c1
        try clear c2
        try clear p2
        try clear q2
        try clear hx2
        try clear c5
        try clear c6
        try clear c6b0
        try clear c6b1
        try clear c6b2
        try clear p6
        try clear c7
        try clear c12
        try clear c14
        try clear c14b0
        try clear c15
        try clear c15b0
        try clear c16
        try clear c16b0
        try clear c18
        try clear c18b0
        try clear c20
        try clear c20b0
        try clear c21
        try clear c21b0
        try clear c24
        try clear hcz11_0
        try clear hcz11_1
        try clear hcz13_0
        try clear hcz13_1
        try clear hcz23_0
        try clear hcz23_1
        try clear hcz25_0
        try clear hcz25_1
        try clear hcz7_0
        try clear hcz7_1
        try clear hcz9_0
        try clear hcz9_1
        try clear hfz11_0
        try clear hfz11_1
        try clear hfz13_0
        try clear hfz13_1
        try clear hfz23_0
        try clear hfz23_1
        try clear hfz25_0
        try clear hfz25_1
        try clear hfz7_0
        try clear hfz7_1
        try clear hfz9_0
        try clear hfz9_1
        try clear hx281_0
        try clear hx282_0
        try clear p2
        try clear p281
        try clear p282
        try clear p6
        try clear q2
        try clear q281
        try clear q282
        obtain ⟨x49_4, rfl, HA, HK4, BK278, HB⟩ := hrel
        cases gk with
        | zero => exact absurd HA.out (by simp [impl_IsGame.l1])
        | succ k4 =>
         have H := HA.out
         clear HA
         simp only [impl_IsGame.l1] at H
         by_cases c26 : x49_4 < (l0_1.length : Int)
         rotate_left
         ·rw [if_neg c26] at H
          have c26b0 : decide (x49_4 < (l0_1.length : Int)) = false := decide_eq_false c26
          clear c26
          have H' := Aside0.mk H
          clear H
          go_wp2
          go_roundg k4
          case measure => have := HJ1.out; have := HK2.out; have := HJ16.out; have := HK4.out; omega
          case rel => exact ⟨(wrap64 (x28_2 + 1)), (by first | rfl | (simp; done) | (simp [*]; done)), H', ⟨by have := HJ1.out; have := HK2.out; have := HJ16.out; have := HK4.out; omega⟩, ⟨by (with_reducible repeat (first | refine blk_drewN ?_ _ | refine blk_drew ?_ | refine blk_alloc ?_ _)); exact BK278.out⟩, ⟨by repeat (first | (with_reducible first | exact HB.out | apply below_alloc | apply pw_below_drewN | apply below_drew1 | refine below_set ?_ GE278.out) | exact HB.out)⟩⟩
         rw [if_pos c26] at H
         have c26b0 : decide (x49_4 < (l0_1.length : Int)) = true := decide_eq_true c26
         clear c26
         by_cases c27 : 0 ≤ x49_4
         rotate_left
         ·rw [if_neg c27] at H
          exact absurd H (by simp)
         rw [if_pos c27] at H
         have c27b0 : decide (0 ≤ x49_4) = true := decide_eq_true c27
         clear c27
         by_cases c28 : x49_4 < (l0_1.length : Int)
         rotate_left
         ·rw [if_neg c28] at H
          exact absurd H (by simp)
         rw [if_pos c28] at H
         have c28b0 : decide (x49_4 < (l0_1.length : Int)) = true := decide_eq_true c28
         clear c28
         by_cases c29 : x49_4 = x28_2
         ·rw [if_pos c29] at H
          have c29b0 : (x49_4 == x28_2) = true := beq_iff_eq.mpr c29
          have c29b1 : (x49_4 != x28_2) = false := bne_eq_false_iff_eq.mpr c29
          clear c29
          have H' := Aside0.mk H
          clear H
          have p284 : 0 ≤ (x49_4 : Int) := of_decide_eq_true (by first | (with_reducible assumption) | assumption)
          have q284 : x49_4 < (l0_1.length : Int) := of_decide_eq_true (by first | (with_reducible assumption) | assumption)
          obtain ⟨ad284, A284_0, c284_0, e284, hx284_0, hl284_0, hi284_0⟩ := at_L1 HR0_1.out x49_4 p284 q284
          obtain rfl : ad281 = ad284 := (by injection e284)
          replace hx284_0 := (HB.out.cell (World.block_lt_of_cell? w _ hx284_0)).trans hx284_0
          have HR284_0 := Aside0.mk hi284_0
          have HC284_0 := Aside0.mk hl284_0
          clear hi284_0 hl284_0
          replace p284 := eq_true p284
          replace q284 := eq_true q284
          go_wp2
          go_roundg k4
          case measure => have := HJ1.out; have := HK2.out; have := HJ16.out; have := HK4.out; omega
          case rel => exact ⟨(wrap64 (x49_4 + 1)), (by first | rfl | (simp; done) | (simp [*]; done)), H', ⟨by have := HJ1.out; have := HK2.out; have := HJ16.out; have := HK4.out; omega⟩, ⟨by (with_reducible repeat (first | refine blk_drewN ?_ _ | refine blk_drew ?_ | refine blk_alloc ?_ _)); exact BK278.out⟩, ⟨by repeat (first | (with_reducible first | exact HB.out | apply below_alloc | apply pw_below_drewN | apply below_drew1 | refine below_set ?_ GE278.out) | exact HB.out)⟩⟩
         rw [if_neg c29] at H
         have c29b0 : (x49_4 == x28_2) = false := beq_eq_false_iff_ne.mpr c29
         have c29b1 : (x49_4 != x28_2) = true := bne_iff_ne.mpr c29
         replace H := Option.bind_eq_some_iff.mp H
         obtain ⟨t285, A300, H⟩ := H
         replace H : ((impl_maskOf.f k4 (rd_L1 l0_1 x49_4)).bind fun t286 => (if (Go.bits .and .i64 t285 t286) = t286 then (some false) else (impl_IsGame.l1 k4 x28_2 (rd_L1 l0_1 x28_2) l0_1 (l0_1.length : Int) x28_2 l0_1 (l0_1.length : Int) (wrap64 (x49_4 + 1)) a0_0 l0_1))) = some r := H
         have A30 := Aside0.mk A300
         clear A300
         replace H := Option.bind_eq_some_iff.mp H
         obtain ⟨t286, A310, H⟩ := H
         replace H : (if (Go.bits .and .i64 t285 t286) = t286 then (some false) else (impl_IsGame.l1 k4 x28_2 (rd_L1 l0_1 x28_2) l0_1 (l0_1.length : Int) x28_2 l0_1 (l0_1.length : Int) (wrap64 (x49_4 + 1)) a0_0 l0_1)) = some r := H
         have A31 := Aside0.mk A310
         clear A310
         by_cases c32 : (Go.bits .and .i64 t285 t286) = t286
         ·rw [if_pos c32] at H
          have c32b0 : ((Go.bits .and .i64 t285 t286) == t286) = true := beq_iff_eq.mpr c32
          have c32b1 : ((Go.bits .and .i64 t285 t286) != t286) = false := bne_eq_false_iff_eq.mpr c32
          clear c32
          obtain rfl := Option.some.inj H
          have p284 : 0 ≤ (x49_4 : Int) := of_decide_eq_true (by first | (with_reducible assumption) | assumption)
          have q284 : x49_4 < (l0_1.length : Int) := of_decide_eq_true (by first | (with_reducible assumption) | assumption)
          obtain ⟨ad284, A284_0, c284_0, e284, hx284_0, hl284_0, hi284_0⟩ := at_L1 HR0_1.out x49_4 p284 q284
          obtain rfl : ad281 = ad284 := (by injection e284)
          replace hx284_0 := (HB.out.cell (World.block_lt_of_cell? w _ hx284_0)).trans hx284_0
          have HR284_0 := Aside0.mk hi284_0
          have HC284_0 := Aside0.mk hl284_0
          clear hi284_0 hl284_0
          replace p284 := eq_true p284
          replace q284 := eq_true q284
          go_wp2_with (first | (go_at_call 112; (with_reducible refine (impl_maskOf.calls k4 _ _ (rd_L1 l0_1 x28_2) t285 _ ?side1 ?side2 A30.out).mono ?_); (case side1 => repeat (first | exact (Kd.C_below HR281_0.out HB.out) | (with_reducible refine Kd.C_alloc ?_ _) | (with_reducible refine Kd.C_drewN ?_ _) | (with_reducible refine Kd.C_drew ?_))); (case side2 => exact HC281_0.out); rintro e w' ⟨rfl, ⟨nd, rfl⟩⟩) | (go_at_call 112; (with_reducible refine (impl_maskOf.calls k4 _ _ (rd_L1 l0_1 x49_4) t286 _ ?side1 ?side2 A31.out).mono ?_); (case side1 => repeat (first | exact (Kd.C_below HR284_0.out (zh HB.out)) | (with_reducible refine Kd.C_alloc ?_ _) | (with_reducible refine Kd.C_drewN ?_ _) | (with_reducible refine Kd.C_drew ?_))); (case side2 => exact HC284_0.out); rintro e w' ⟨rfl, ⟨nd, rfl⟩⟩))
          go_ret
          exact ⟨by first | rfl | (simp [errW_none, errW_some] <;> rfl) | (simp [*, errW_none, errW_some] <;> rfl), by repeat (first | (with_reducible first | exact HB.out | apply below_alloc | apply pw_below_drewN | apply below_drew1 | refine below_set ?_ GE278.out) | exact HB.out)⟩
         rw [if_neg c32] at H
         have c32b0 : ((Go.bits .and .i64 t285 t286) == t286) = false := beq_eq_false_iff_ne.mpr c32
         have c32b1 : ((Go.bits .and .i64 t285 t286) != t286) = true := bne_iff_ne.mpr c32
         have H' := Aside0.mk H
         clear H
         have p284 : 0 ≤ (x49_4 : Int) := of_decide_eq_true (by first | (with_reducible assumption) | assumption)
         have q284 : x49_4 < (l0_1.length : Int) := of_decide_eq_true (by first | (with_reducible assumption) | assumption)
         obtain ⟨ad284, A284_0, c284_0, e284, hx284_0, hl284_0, hi284_0⟩ := at_L1 HR0_1.out x49_4 p284 q284
         obtain rfl : ad281 = ad284 := (by injection e284)
         replace hx284_0 := (HB.out.cell (World.block_lt_of_cell? w _ hx284_0)).trans hx284_0
         have HR284_0 := Aside0.mk hi284_0
         have HC284_0 := Aside0.mk hl284_0
         clear hi284_0 hl284_0
         replace p284 := eq_true p284
         replace q284 := eq_true q284
         go_wp2_with (first | (go_at_call 112; (with_reducible refine (impl_maskOf.calls k4 _ _ (rd_L1 l0_1 x28_2) t285 _ ?side1 ?side2 A30.out).mono ?_); (case side1 => repeat (first | exact (Kd.C_below HR281_0.out HB.out) | (with_reducible refine Kd.C_alloc ?_ _) | (with_reducible refine Kd.C_drewN ?_ _) | (with_reducible refine Kd.C_drew ?_))); (case side2 => exact HC281_0.out); rintro e w' ⟨rfl, ⟨nd, rfl⟩⟩) | (go_at_call 112; (with_reducible refine (impl_maskOf.calls k4 _ _ (rd_L1 l0_1 x49_4) t286 _ ?side1 ?side2 A31.out).mono ?_); (case side1 => repeat (first | exact (Kd.C_below HR284_0.out (zh HB.out)) | (with_reducible refine Kd.C_alloc ?_ _) | (with_reducible refine Kd.C_drewN ?_ _) | (with_reducible refine Kd.C_drew ?_))); (case side2 => exact HC284_0.out); rintro e w' ⟨rfl, ⟨nd, rfl⟩⟩))
         go_roundg k4
         case measure => have := HJ1.out; have := HK2.out; have := HJ16.out; have := HK4.out; omega
         case rel => exact ⟨(wrap64 (x49_4 + 1)), (by first | rfl | (simp; done) | (simp [*]; done)), H', ⟨by have := HJ1.out; have := HK2.out; have := HJ16.out; have := HK4.out; omega⟩, ⟨by (with_reducible repeat (first | refine blk_drewN ?_ _ | refine blk_drew ?_ | refine blk_alloc ?_ _)); exact BK278.out⟩, ⟨by repeat (first | (with_reducible first | exact HB.out | apply below_alloc | apply pw_below_drewN | apply below_drew1 | refine below_set ?_ GE278.out) | exact HB.out)⟩⟩
end Go.Proofs.Ytkgpcomljgbilaa.Q
end
section
namespace Go.Proofs.Ytkgpcomljgbilaa.Q
open Go.RowKit Go.Proofs.YtkgpcomljgbilaaW.PrintWords Go.Proofs.YtkgpcomljgbilaaW.PrintLast Go.Proofs.YtkgpcomljgbilaaW.PrintMore
attribute [local go_sem] max2_int min2_int max_two min_two max_three min_three max_four min_four
set_option linter.unusedVariables false
set_option linter.unusedSimpArgs false
attribute [local go_sem high] eqA47
def impl_DoesFit.j0 : Nat → Bool → Int → Int → Int → Int → List (List Int) → Option (Bool × Bool)
 | 0, _, _, _, _, _, _ => none
 | k + 1, x15, x460000, x460001, x460002, x461000, x461001 => if x15 = true then (some (false, false)) else ((impl_Game_votes.f k x461000 x461001).bind fun bt463 => ((impl_votes_told.f k bt463.1 bt463.2 x460000 x460001).bind fun bt467 => (some ((bt467.1 == x460000 && (bt467.2.1 == x460001 && (bt467.2.2 == x460002))), true))))
def impl_DoesFit.f (k : Nat) (a0_0 : Int) (a0_1 : Int) (a0_2 : Int) (a1_0 : Int) (l1_1 : List (List Int)) : Option (Bool × Bool) := (impl_IsGame.f k a1_0 l1_1).bind fun t461 => (if t461 = true then ((impl_IsClue.f a1_0 a0_0 a0_1 a0_2).bind fun t462 => (impl_DoesFit.j0 k (!t462) a0_0 a0_1 a0_2 a1_0 l1_1)) else (impl_DoesFit.j0 k true a0_0 a0_1 a0_2 a1_0 l1_1))
def impl_DoesFit.T3 : Bool × List (List Nat × List Nat) := (true, [([], []), ([0], [0]), ([], []), ([2], [2]), ([], []), ([4], [4]), ([1, 3, 5, 1], [1, 3, 5]), ([], []), ([6, 7], [6, 7]), ([8, 6, 0, 1, 2, 3, 4, 5, 6, 7, 8], [8]), ([9, 0, 1, 2, 3, 4, 5, 6, 7, 8, 9], [])])
def impl_DoesFit.B3 : List Nat := [0, 1, 0, 4, 0, 16, 63, 0, 255, 511, 1023]
theorem impl_DoesFit.tab3 : rtab .any (opsOf Try.f27 3) = impl_DoesFit.T3 := by kernel_rfl
theorem impl_DoesFit.bits3 : waitsOk impl_DoesFit.T3.2 impl_DoesFit.B3 = true := by kernel_rfl
set_option maxHeartbeats 8000000 in
set_option maxRecDepth 100000 in
theorem impl_DoesFit.calls (k : Nat) (a0_0 : Int) (a0_1 : Int) (a0_2 : Int) (a1_0 : Int) (A1_1 : Option Addr) (c1_1 : Nat) (l1_1 : List (List Int)) (r1 : Bool) (r2 : Bool) (w : World) (hr1_1 : Kd.C (Kd.slice 3 (Kd.int .i64)) w A1_1 l1_1.length l1_1) (hc1_1 : l1_1.length ≤ c1_1) (h : impl_DoesFit.f k a0_0 a0_1 a0_2 a1_0 l1_1 = some (r1, r2)) :
  Calls Try.prog 27 #[.agg #[.int .i64 a0_0, .int .i64 a0_1, .int .i64 a0_2], .agg #[.int .i64 a1_0, .slice A1_1 l1_1.length c1_1]] w fun e w' => e = .returned (.tuple #[.bool r1, .bool r2]) ∧ Below w.heap.size w w' := by
 have hu47 := Try.underlying47
 have hu27 := Try.underlying27
 have HR1_1 := Aside0.mk hr1_1
 have HC1_1 := Aside0.mk hc1_1
 clear hr1_1 hc1_1
 have HB := Aside0.mk (Below.refl w.heap.size w)
 have H : ((impl_IsGame.f k a1_0 l1_1).bind fun t461 => (if t461 = true then ((impl_IsClue.f a1_0 a0_0 a0_1 a0_2).bind fun t462 => (impl_DoesFit.j0 k (!t462) a0_0 a0_1 a0_2 a1_0 l1_1)) else (impl_DoesFit.j0 k true a0_0 a0_1 a0_2 a1_0 l1_1))) = some (r1, r2) := h
 clear h
 have HC3 := Aside0.mk H
 clear H
 go_enter Try.func27, Try.ntmps27
 go_upto_region 1 with (first | ((with_reducible refine gate_dst (N := 2) rfl ?_); refine box_event ?hg (N := 2) ?hd (cs := #[.int .i64 a0_0, .int .i64 a0_1, .int .i64 a0_2]) (t := 47) ?hr ?_; (case hd => rfl); (case hg => rfl); (case hr => first | (go_simp; done) | (go_simp; rfl)); intro gb459 hg w4 hbox hb; have n0_ := Aside0.mk (below_step (zh HB.out) hb); have n1_ := Aside0.mk (hbox); have n2_ := Aside0.mk ((by rw [hg]; exact (below_size (zh HB.out)) : w.heap.size ≤ gb459)); have n3_ := Aside0.mk ((by rw [hg]; exact (below_size (zh HB.out)) : w.heap.size ≤ gb459)); clear HB; have HB := n0_; have BK459 := n1_; have GW459 := n2_; have GE459 := n3_; clear n0_ n1_ n2_ n3_; clear hb hbox hg) | ((with_reducible refine gate_dst (N := 3) rfl ?_); refine box_event ?hg (N := 3) ?hd (cs := #[.int .i64 a1_0, .slice A1_1 l1_1.length c1_1]) (t := 27) ?hr ?_; (case hd => rfl); (case hg => rfl); (case hr => first | (go_simp; done) | (go_simp; rfl)); intro gb460 hg w5 hbox hb; have n0_ := Aside0.mk (blk_below (g := gb459) (o := .cells #[.int .i64 a0_0, .int .i64 a0_1, .int .i64 a0_2] 47 (0, 0)) (zb BK459.out) hb); have n1_ := Aside0.mk (below_step (zh HB.out) hb); have n2_ := Aside0.mk (hbox); have n3_ := Aside0.mk ((by rw [hg]; exact (below_size (zh HB.out)) : w.heap.size ≤ gb460)); have n4_ := Aside0.mk ((by rw [hg]; exact (below_size (zh HB.out)) : w.heap.size ≤ gb460)); have n5_ := Aside0.mk ((by rw [hg]; exact Nat.ne_of_lt (blk_lt (g := gb459) (o := .cells #[.int .i64 a0_0, .int .i64 a0_1, .int .i64 a0_2] 47 (0, 0)) (zb BK459.out)) : gb459 ≠ gb460)); have n6_ := Aside0.mk ((by rw [hg]; exact Nat.ne_of_gt (blk_lt (g := gb459) (o := .cells #[.int .i64 a0_0, .int .i64 a0_1, .int .i64 a0_2] 47 (0, 0)) (zb BK459.out)) : gb460 ≠ gb459)); clear BK459; clear HB; have BK459 := n0_; have HB := n1_; have BK460 := n2_; have GW460 := n3_; have GE460 := n4_; have NB459_460 := n5_; have NB460_459 := n6_; clear n0_ n1_ n2_ n3_ n4_ n5_ n6_; clear hb hbox hg))
 (try simp only [Act.put, List.setIfInBounds_toArray, List.set_cons_zero, List.set_cons_succ])
 go_cut [15] (fun v15 wc => ∃ (kq : Nat) (x15_2 : Bool), v15 = .bool x15_2 ∧ Aside0 (impl_DoesFit.j0 kq x15_2 a0_0 a0_1 a0_2 a1_0 l1_1 = some (r1, r2)) ∧ Aside0 (kq ≤ k) ∧ Aside0 (wc.heap[gb459]? = some (.cells #[.int .i64 a0_0, .int .i64 a0_1, .int .i64 a0_2] 47 (0, 0))) ∧ Aside0 (wc.heap[gb460]? = some (.cells #[.int .i64 a1_0, (.slice A1_1 l1_1.length c1_1)] 27 (0, 0))) ∧ Aside0 (Below w.heap.size w wc))
 case first =>
  have H := HC3.out
  clear HC3
  replace H := Option.bind_eq_some_iff.mp H
  obtain ⟨t461, A60, H⟩ := H
  replace H : (if t461 = true then ((impl_IsClue.f a1_0 a0_0 a0_1 a0_2).bind fun t462 => (impl_DoesFit.j0 k (!t462) a0_0 a0_1 a0_2 a1_0 l1_1)) else (impl_DoesFit.j0 k true a0_0 a0_1 a0_2 a1_0 l1_1)) = some (r1, r2) := H
  have A6 := Aside0.mk A60
  clear A60
  by_cases c7 : t461 = true
  ·subst c7
   have H1 : ((impl_IsClue.f a1_0 a0_0 a0_1 a0_2).bind fun t462 => (impl_DoesFit.j0 k (!t462) a0_0 a0_1 a0_2 a1_0 l1_1)) = some (r1, r2) := by rw [if_pos rfl] at H; exact H
   clear H
   have H := H1
   clear H1
   replace H := Option.bind_eq_some_iff.mp H
   obtain ⟨t462, A80, H⟩ := H
   replace H : (impl_DoesFit.j0 k (!t462) a0_0 a0_1 a0_2 a1_0 l1_1) = some (r1, r2) := H
   have A8 := Aside0.mk A80
   clear A80
   have H' := Aside0.mk H
   clear H
   have hnb9 := NB460_459.out
   have hnc9 := NB459_460.out
   have hcz10_0 : w5.cell? ⟨gb460, 0, none⟩ = some (.int .i64 a1_0) := (blk_cell BK460.out 0).trans rfl
   have hcz10_1 : w5.cell? ⟨gb460, 1, none⟩ = some (.slice A1_1 l1_1.length c1_1) := (blk_cell BK460.out 1).trans rfl
   have hfz10_0 := blk_frozen BK460.out 0
   have hfz10_1 := blk_frozen BK460.out 1
   go_wp2_with (first | ((with_reducible refine gate_callee (f := 63) rfl ?_); refine goesL_ (some 7) rfl rfl Try.func63 (by kernel_rfl) rfl #[.agg #[.int .i64 a1_0, .slice A1_1 l1_1.length c1_1]] rfl (by (try simp only [List.map_toArray, List.map_cons, List.map_nil]); first | done | rfl | (simp only [List.length_drop, List.length_take]; rfl)) ?_; (with_reducible refine (impl_IsGame.calls k a1_0 _ _ l1_1 true _ ?side1 ?side2 A6.out).mono ?_); (case side1 => repeat (first | exact (Kd.C_below HR1_1.out HB.out) | (with_reducible refine Kd.C_alloc ?_ _) | (with_reducible refine Kd.C_drewN ?_ _) | (with_reducible refine Kd.C_drew ?_))); (case side2 => exact HC1_1.out); rintro e w11 ⟨rfl, hb⟩; refine ⟨_, rfl, ?_⟩; have n0_ := Aside0.mk (blk_below (g := gb459) (o := .cells #[.int .i64 a0_0, .int .i64 a0_1, .int .i64 a0_2] 47 (0, 0)) (zb BK459.out) hb); have n1_ := Aside0.mk (blk_below (g := gb460) (o := .cells #[.int .i64 a1_0, .slice A1_1 l1_1.length c1_1] 27 (0, 0)) (zb BK460.out) hb); have n2_ := Aside0.mk (below_step (zh HB.out) hb); clear BK459; clear BK460; clear HB; have BK459 := n0_; have BK460 := n1_; have HB := n2_; clear n0_ n1_ n2_; (try clear hb); (try clear hb2); (try clear hk); (try clear hi); have hcz12_0 : w11.cell? ⟨gb460, 0, none⟩ = some (.int .i64 a1_0) := (blk_cell BK460.out 0).trans rfl; have hcz12_1 : w11.cell? ⟨gb460, 1, none⟩ = some (.slice A1_1 l1_1.length c1_1) := (blk_cell BK460.out 1).trans rfl; have hfz12_0 := blk_frozen BK460.out 0; have hfz12_1 := blk_frozen BK460.out 1; have hcz13_0 : w11.cell? ⟨gb459, 0, none⟩ = some (.int .i64 a0_0) := (blk_cell BK459.out 0).trans rfl; have hcz13_1 : w11.cell? ⟨gb459, 1, none⟩ = some (.int .i64 a0_1) := (blk_cell BK459.out 1).trans rfl; have hcz13_2 : w11.cell? ⟨gb459, 2, none⟩ = some (.int .i64 a0_2) := (blk_cell BK459.out 2).trans rfl; have hfz13_0 := blk_frozen BK459.out 0; have hfz13_1 := blk_frozen BK459.out 1; have hfz13_2 := blk_frozen BK459.out 2) | (go_at_call 70; (with_reducible refine (impl_IsClue.calls a1_0 a0_0 a0_1 a0_2 t462 _ A8.out).mono ?_); rintro e w14 ⟨rfl, hb⟩; have n0_ := Aside0.mk (blk_below (g := gb459) (o := .cells #[.int .i64 a0_0, .int .i64 a0_1, .int .i64 a0_2] 47 (0, 0)) (zb BK459.out) hb); have n1_ := Aside0.mk (blk_below (g := gb460) (o := .cells #[.int .i64 a1_0, .slice A1_1 l1_1.length c1_1] 27 (0, 0)) (zb BK460.out) hb); have n2_ := Aside0.mk (below_step (zh HB.out) hb); clear BK459; clear BK460; clear HB; have BK459 := n0_; have BK460 := n1_; have HB := n2_; clear n0_ n1_ n2_; (try clear hb); (try clear hb2); (try clear hk); (try clear hi)))
   go_meet
   case rel => exact ⟨_, (!t462), (by first | rfl | (simp; done) | (simp [*]; done)), H', ⟨by first | omega | exact Nat.le_refl _⟩, ⟨by (with_reducible repeat (first | refine blk_drewN ?_ _ | refine blk_drew ?_ | refine blk_alloc ?_ _)); exact BK459.out⟩, ⟨by (with_reducible repeat (first | refine blk_drewN ?_ _ | refine blk_drew ?_ | refine blk_alloc ?_ _)); exact BK460.out⟩, ⟨by repeat (first | (with_reducible first | exact HB.out | apply below_alloc | apply pw_below_drewN | apply below_drew1 | refine below_set ?_ GE459.out | refine below_set ?_ GE460.out) | exact HB.out)⟩⟩
  ·replace c7 := Bool.eq_false_iff.mpr c7
   subst c7
   have H1 : (impl_DoesFit.j0 k true a0_0 a0_1 a0_2 a1_0 l1_1) = some (r1, r2) := by rw [if_neg (show ¬ (false = true) by decide)] at H; exact H
   clear H
   have H := H1
   clear H1
   have H' := Aside0.mk H
   clear H
   have hnb15 := NB460_459.out
   have hnc15 := NB459_460.out
   have hcz16_0 : w5.cell? ⟨gb460, 0, none⟩ = some (.int .i64 a1_0) := (blk_cell BK460.out 0).trans rfl
   have hcz16_1 : w5.cell? ⟨gb460, 1, none⟩ = some (.slice A1_1 l1_1.length c1_1) := (blk_cell BK460.out 1).trans rfl
   have hfz16_0 := blk_frozen BK460.out 0
   have hfz16_1 := blk_frozen BK460.out 1
   go_wp2_with (first | ((with_reducible refine gate_callee (f := 63) rfl ?_); refine goesL_ (some 7) rfl rfl Try.func63 (by kernel_rfl) rfl #[.agg #[.int .i64 a1_0, .slice A1_1 l1_1.length c1_1]] rfl (by (try simp only [List.map_toArray, List.map_cons, List.map_nil]); first | done | rfl | (simp only [List.length_drop, List.length_take]; rfl)) ?_; (with_reducible refine (impl_IsGame.calls k a1_0 _ _ l1_1 false _ ?side1 ?side2 A6.out).mono ?_); (case side1 => repeat (first | exact (Kd.C_below HR1_1.out HB.out) | (with_reducible refine Kd.C_alloc ?_ _) | (with_reducible refine Kd.C_drewN ?_ _) | (with_reducible refine Kd.C_drew ?_))); (case side2 => exact HC1_1.out); rintro e w17 ⟨rfl, hb⟩; refine ⟨_, rfl, ?_⟩; have n0_ := Aside0.mk (blk_below (g := gb459) (o := .cells #[.int .i64 a0_0, .int .i64 a0_1, .int .i64 a0_2] 47 (0, 0)) (zb BK459.out) hb); have n1_ := Aside0.mk (blk_below (g := gb460) (o := .cells #[.int .i64 a1_0, .slice A1_1 l1_1.length c1_1] 27 (0, 0)) (zb BK460.out) hb); have n2_ := Aside0.mk (below_step (zh HB.out) hb); clear BK459; clear BK460; clear HB; have BK459 := n0_; have BK460 := n1_; have HB := n2_; clear n0_ n1_ n2_; (try clear hb); (try clear hb2); (try clear hk); (try clear hi)))
   go_meet
   case rel => exact ⟨_, (true), (by first | rfl | (simp; done) | (simp [*]; done)), H', ⟨by first | omega | exact Nat.le_refl _⟩, ⟨by (with_reducible repeat (first | refine blk_drewN ?_ _ | refine blk_drew ?_ | refine blk_alloc ?_ _)); exact BK459.out⟩, ⟨by (with_reducible repeat (first | refine blk_drewN ?_ _ | refine blk_drew ?_ | refine blk_alloc ?_ _)); exact BK460.out⟩, ⟨by repeat (first | (with_reducible first | exact HB.out | apply below_alloc | apply pw_below_drewN | apply below_drew1 | refine below_set ?_ GE459.out | refine below_set ?_ GE460.out) | exact HB.out)⟩⟩
 case rest =>
  clear HC3
  try clear c1
  try clear c2
  try clear p2
  try clear c6
  try clear c7
  try clear c9
  try clear c15
  try clear hcz10_0
  try clear hcz10_1
  try clear hcz12_0
  try clear hcz12_1
  try clear hcz13_0
  try clear hcz13_1
  try clear hcz13_2
  try clear hcz16_0
  try clear hcz16_1
  try clear hfz10_0
  try clear hfz10_1
  try clear hfz12_0
  try clear hfz12_1
  try clear hfz13_0
  try clear hfz13_1
  try clear hfz13_2
  try clear hfz16_0
  try clear hfz16_1
  obtain ⟨kq, x15_2, rfl, HA, HJ2, BK459, BK460, HB⟩ := hcut
  cases kq with
  | zero => exact absurd HA.out (by simp [impl_DoesFit.j0])
  | succ kj2 =>
   have H := HA.out
   clear HA
   simp only [impl_DoesFit.j0] at H
   by_cases c18 : x15_2 = true
   ·subst c18
    have H1 : (some (false, false)) = some (r1, r2) := by rw [if_pos rfl] at H; exact H
    clear H
    have H := H1
    clear H1
    simp only [Option.some.injEq, Prod.mk.injEq] at H
    obtain ⟨rfl, rfl⟩ := H
    go_wp2
    go_ret2
    exact ⟨by first | rfl | (simp [errW_none, errW_some] <;> rfl) | (simp [*, errW_none, errW_some] <;> rfl), by repeat (first | (with_reducible first | exact HB.out | apply below_alloc | apply pw_below_drewN | apply below_drew1 | refine below_set ?_ GE459.out | refine below_set ?_ GE460.out) | exact HB.out)⟩
   replace c18 := Bool.eq_false_iff.mpr c18
   subst c18
   have H1 : ((impl_Game_votes.f kj2 a1_0 l1_1).bind fun bt463 => ((impl_votes_told.f kj2 bt463.1 bt463.2 a0_0 a0_1).bind fun bt467 => (some ((bt467.1 == a0_0 && (bt467.2.1 == a0_1 && (bt467.2.2 == a0_2))), true)))) = some (r1, r2) := by rw [if_neg (show ¬ (false = true) by decide)] at H; exact H
   clear H
   have H := H1
   clear H1
   replace H := Option.bind_eq_some_iff.mp H
   obtain ⟨⟨t463, t464⟩, A190, H⟩ := H
   replace H : ((impl_votes_told.f kj2 t463 t464 a0_0 a0_1).bind fun bt467 => (some ((bt467.1 == a0_0 && (bt467.2.1 == a0_1 && (bt467.2.2 == a0_2))), true))) = some (r1, r2) := H
   have A19 := Aside0.mk A190
   clear A190
   replace H := Option.bind_eq_some_iff.mp H
   obtain ⟨⟨t467, t468, t469⟩, A200, H⟩ := H
   replace H : (some ((t467 == a0_0 && (t468 == a0_1 && (t469 == a0_2))), true)) = some (r1, r2) := H
   have A20 := Aside0.mk A200
   clear A200
   simp only [Option.some.injEq, Prod.mk.injEq] at H
   obtain ⟨rfl, rfl⟩ := H
   try go_wp2
   have n0_ := Aside0.mk (blk_drew BK459.out)
   have n1_ := Aside0.mk (blk_drew BK460.out)
   have n2_ := Aside0.mk (below_drew1 HB.out)
   clear BK459
   clear BK460
   clear HB
   have BK459 := n0_
   have BK460 := n1_
   have HB := n2_
   clear n0_ n1_ n2_
   refine start_ (n := 11) (S := fun w' => w'.cell? ⟨gb460, 0, none⟩ = some (.int .i64 a1_0) ∧ w'.cell? ⟨gb460, 1, none⟩ = some (.slice A1_1 l1_1.length c1_1) ∧ w'.cell? ⟨gb459, 0, none⟩ = some (.int .i64 a0_0) ∧ w'.cell? ⟨gb459, 1, none⟩ = some (.int .i64 a0_1) ∧ w'.cell? ⟨gb459, 2, none⟩ = some (.int .i64 a0_2)) (ds := []) #[false, false, false, false, false, false, false, false, false, false, false] (by kernel_rfl) rfl rfl ⟨(blk_cell BK460.out 0).trans rfl, (blk_cell BK460.out 1).trans rfl, (blk_cell BK459.out 0).trans rfl, (blk_cell BK459.out 1).trans rfl, (blk_cell BK459.out 2).trans rfl⟩ (fun hHeld => ?_); refine with_tabW impl_DoesFit.tab3 impl_DoesFit.bits3 (fun HT_ HW_ => ?_)
   generalize wc.drew = w21 at BK459 BK460 HB hHeld ⊢
   refine pure_ (i := 2) (N := some 18) (v := ?_) (a' := ?_) #[false, false, true, false, false, false, false, false, false, false, false] rfl rfl (any_of HT_.out (by kernel_rfl)) (fun _ _ _ h => h) (Or.inl ⟨by rfl, ?_⟩) ?_ ?_
   rotate_left
   ·intro w'
    go_simp
    with_reducible rfl
   rotate_left
   ·simp only [Act.put, List.setIfInBounds_toArray, List.set_cons_zero, List.set_cons_succ, i64_w, i32_w]
    rfl
   refine pure_ (i := 4) (N := some 20) (v := ?_) (a' := ?_) #[false, false, true, false, true, false, false, false, false, false, false] rfl rfl (any_of HT_.out (by kernel_rfl)) (fun _ _ _ h => h) (Or.inl ⟨by rfl, ?_⟩) ?_ ?_
   rotate_left
   ·intro w'
    go_simp
    with_reducible rfl
   rotate_left
   ·simp only [Act.put, List.setIfInBounds_toArray, List.set_cons_zero, List.set_cons_succ, i64_w, i32_w]
    rfl
   refine take_ (i := 0) (N := some 16) (v := ?_) (a' := ?_) #[true, false, true, false, true, false, false, false, false, false, false] rfl rfl (take_ofW HT_.out HW_.out (by kernel_rfl)) (fun _ _ _ h => h) (Or.inl ⟨by rfl, ?_⟩) hHeld ?_ ?_
   rotate_left
   ·rintro w' ⟨s0, s1, s2, s3, s4⟩
    go_simp
    with_reducible rfl
   rotate_left
   ·simp only [Act.put, List.setIfInBounds_toArray, List.set_cons_zero, List.set_cons_succ, i64_w, i32_w]
    rfl
   refine take_ (i := 3) (N := some 19) (v := ?_) (a' := ?_) #[true, false, true, true, true, false, false, false, false, false, false] rfl rfl (take_ofW HT_.out HW_.out (by kernel_rfl)) (fun _ _ _ h => h) (Or.inl ⟨by rfl, ?_⟩) hHeld ?_ ?_
   rotate_left
   ·rintro w' ⟨s0, s1, s2, s3, s4⟩
    go_simp
    with_reducible rfl
   rotate_left
   ·simp only [Act.put, List.setIfInBounds_toArray, List.set_cons_zero, List.set_cons_succ, i64_w, i32_w]
    rfl
   refine take_ (i := 5) (N := some 21) (v := ?_) (a' := ?_) #[true, false, true, true, true, true, false, false, false, false, false] rfl rfl (take_ofW HT_.out HW_.out (by kernel_rfl)) (fun _ _ _ h => h) (Or.inl ⟨by rfl, ?_⟩) hHeld ?_ ?_
   rotate_left
   ·rintro w' ⟨s0, s1, s2, s3, s4⟩
    go_simp
    with_reducible rfl
   rotate_left
   ·simp only [Act.put, List.setIfInBounds_toArray, List.set_cons_zero, List.set_cons_succ, i64_w, i32_w]
    rfl
   refine take_ (i := 7) (N := some 23) (v := ?_) (a' := ?_) #[true, false, true, true, true, true, false, true, false, false, false] rfl rfl (take_ofW HT_.out HW_.out (by kernel_rfl)) (fun _ _ _ h => h) (Or.inl ⟨by rfl, ?_⟩) hHeld ?_ ?_
   rotate_left
   ·rintro w' ⟨s0, s1, s2, s3, s4⟩
    go_simp
    with_reducible rfl
   rotate_left
   ·simp only [Act.put, List.setIfInBounds_toArray, List.set_cons_zero, List.set_cons_succ, i64_w, i32_w]
    rfl
   refine one_ (i := 1) (N := some 17) #[true, true, true, true, true, true, false, true, false, false, false] rfl rfl (one_of HT_.out (by kernel_rfl)) (by decide) (fun K hK => ?_)
   refine goes_ Try.func71 (by kernel_rfl) rfl #[.agg #[.int .i64 a1_0, .slice A1_1 l1_1.length c1_1]] (by rfl) rfl rfl (by (try simp only [List.map_toArray, List.map_cons, List.map_nil]); first | done | rfl | (simp only [List.length_drop, List.length_take]; rfl)) ?_
   with_reducible refine (impl_Game_votes.calls kj2 a1_0 _ _ l1_1 t463 t464 _ ?side1 ?side2 A19.out).mono ?_
   (case side1 => repeat (first | exact (Kd.C_below HR1_1.out HB.out) | (with_reducible refine Kd.C_alloc ?_ _) | (with_reducible refine Kd.C_drewN ?_ _) | (with_reducible refine Kd.C_drew ?_)))
   (case side2 => exact HC1_1.out)
   rintro e w22 ⟨v465, rfl, ho0, hb⟩
   refine ⟨_, rfl, ?_⟩
   have n0_ := Aside0.mk (Kd.R_lower ho0 (below_size (zh HB.out)))
   have n1_ := Aside0.mk (blk_below (g := gb459) (o := .cells #[.int .i64 a0_0, .int .i64 a0_1, .int .i64 a0_2] 47 (0, 0)) (zb BK459.out) hb)
   have n2_ := Aside0.mk (blk_below (g := gb460) (o := .cells #[.int .i64 a1_0, .slice A1_1 l1_1.length c1_1] 27 (0, 0)) (zb BK460.out) hb)
   have n3_ := Aside0.mk (below_step (zh HB.out) hb)
   clear BK459
   clear BK460
   clear HB
   have HO466 := n0_
   have BK459 := n1_
   have BK460 := n2_
   have HB := n3_
   clear n0_ n1_ n2_ n3_
   (try clear hb)
   (try clear hb2)
   (try clear hk)
   (try clear hi)
   (try clear ho0)
   obtain ⟨Ao23, co23, eo23⟩ := Kd.R_slice HO466.out
   (first | subst eo23 | (injection eo23 with f1_ f2_ f3_; have f4_ := f1_.symm; have f5_ := f3_.symm; clear f1_ f2_ f3_; subst f4_; subst f5_))
   refine hK.out _ _ ⟨(blk_cell BK460.out 0).trans rfl, (blk_cell BK460.out 1).trans rfl, (blk_cell BK459.out 0).trans rfl, (blk_cell BK459.out 1).trans rfl, (blk_cell BK459.out 2).trans rfl⟩ (fun hHeld => ?_)
   clear hK K
   refine norm_ (a' := ?_) ?_ ?_
   rotate_left
   ·show Act.put _ (some 17) _ = _
    simp only [Act.put, List.setIfInBounds_toArray, List.set_cons_zero, List.set_cons_succ, i64_w, i32_w]
    rfl
   refine one_ (i := 6) (N := some 22) #[true, true, true, true, true, true, true, true, false, false, false] rfl rfl (one_of HT_.out (by kernel_rfl)) (by decide) (fun K hK => ?_)
   refine goes_ Try.func72 (by kernel_rfl) rfl #[.agg #[.int .i64 t463, .slice Ao23 t464.length co23], .int .i64 a0_0, .int .i64 a0_1] (by rfl) rfl rfl (by (try simp only [List.map_toArray, List.map_cons, List.map_nil]); first | done | rfl | (simp only [List.length_drop, List.length_take]; rfl)) ?_
   with_reducible refine (impl_votes_told.calls kj2 t463 _ _ t464 a0_0 a0_1 t467 t468 t469 _ ?side1 ?side2 A20.out).mono ?_
   (case side1 => repeat (first | exact (Kd.R_reads' HO466.out).2.2 | (with_reducible refine Kd.C_alloc ?_ _) | (with_reducible refine Kd.C_drewN ?_ _) | (with_reducible refine Kd.C_drew ?_)))
   (case side2 => exact (Kd.R_reads' HO466.out).2.1)
   rintro e w24 ⟨rfl, hb⟩
   refine ⟨_, rfl, ?_⟩
   have n0_ := Aside0.mk (Kd.R_below (zr HO466.out) hb)
   have n1_ := Aside0.mk (blk_below (g := gb459) (o := .cells #[.int .i64 a0_0, .int .i64 a0_1, .int .i64 a0_2] 47 (0, 0)) (zb BK459.out) hb)
   have n2_ := Aside0.mk (blk_below (g := gb460) (o := .cells #[.int .i64 a1_0, .slice A1_1 l1_1.length c1_1] 27 (0, 0)) (zb BK460.out) hb)
   have n3_ := Aside0.mk (below_step (zh HB.out) hb)
   clear HO466
   clear BK459
   clear BK460
   clear HB
   have HO466 := n0_
   have BK459 := n1_
   have BK460 := n2_
   have HB := n3_
   clear n0_ n1_ n2_ n3_
   (try clear hb)
   (try clear hb2)
   (try clear hk)
   (try clear hi)
   refine hK.out _ _ ⟨(blk_cell BK460.out 0).trans rfl, (blk_cell BK460.out 1).trans rfl, (blk_cell BK459.out 0).trans rfl, (blk_cell BK459.out 1).trans rfl, (blk_cell BK459.out 2).trans rfl⟩ (fun hHeld => ?_)
   clear hK K
   refine norm_ (a' := ?_) ?_ ?_
   rotate_left
   ·show Act.put _ (some 22) _ = _
    simp only [Act.put, List.setIfInBounds_toArray, List.set_cons_zero, List.set_cons_succ, i64_w, i32_w]
    rfl
   refine pure_ (i := 8) (N := some 24) (v := ?_) (a' := ?_) #[true, true, true, true, true, true, true, true, true, false, false] rfl rfl (any_of HT_.out (by kernel_rfl)) (fun _ _ _ h => h) (Or.inl ⟨by rfl, ?_⟩) ?_ ?_
   rotate_left
   ·intro w'
    go_simp
    with_reducible rfl
   rotate_left
   ·simp only [Act.put, List.setIfInBounds_toArray, List.set_cons_zero, List.set_cons_succ, i64_w, i32_w]
    rfl
   refine pure_ (i := 9) (N := some 4) (v := ?_) (a' := ?_) #[true, true, true, true, true, true, true, true, true, true, false] rfl rfl (any_of HT_.out (by kernel_rfl)) (fun _ _ _ h => h) (Or.inl ⟨by rfl, ?_⟩) ?_ ?_
   rotate_left
   ·intro w'
    go_simp
    with_reducible rfl
   rotate_left
   ·simp only [Act.put, List.setIfInBounds_toArray, List.set_cons_zero, List.set_cons_succ, i64_w, i32_w]
    rfl
   refine pure_ (i := 10) (N := some 5) (v := ?_) (a' := ?_) #[true, true, true, true, true, true, true, true, true, true, true] rfl rfl (any_of HT_.out (by kernel_rfl)) (fun _ _ _ h => h) (Or.inl ⟨by rfl, ?_⟩) ?_ ?_
   rotate_left
   ·intro w'
    go_simp
    with_reducible rfl
   rotate_left
   ·simp only [Act.put, List.setIfInBounds_toArray, List.set_cons_zero, List.set_cons_succ, i64_w, i32_w]
    rfl
   refine done_ (done_of HT_.out (by kernel_rfl)) ?_
   try go_wp2
   go_ret2
   exact ⟨by first | rfl | (simp [errW_none, errW_some] <;> rfl) | (simp [*, errW_none, errW_some] <;> rfl), by repeat (first | (with_reducible first | exact HB.out | apply below_alloc | apply pw_below_drewN | apply below_drew1 | refine below_set ?_ GE459.out | refine below_set ?_ GE460.out) | exact HB.out)⟩
end Go.Proofs.Ytkgpcomljgbilaa.Q
end
section
namespace Go.Proofs.Ytkgpcomljgbilaa.Q
open Go.RowKit Go.Proofs.YtkgpcomljgbilaaW.PrintWords Go.Proofs.YtkgpcomljgbilaaW.PrintLast Go.Proofs.YtkgpcomljgbilaaW.PrintMore
attribute [local go_sem] max2_int min2_int max_two min_two max_three min_three max_four min_four
set_option linter.unusedVariables false
set_option linter.unusedSimpArgs false
def laws_FnExactDoesFit.f (k : Nat) (a0_0 : Int) (a0_1 : Int) (a0_2 : Int) (a1_0 : Int) (l1_1 : List (List Int)) : Option (Bool) := (laws_szGame.f k a1_0 l1_1 1048576).bind fun t472 => (if t472 < 0 then (some true) else ((laws_toClue.f a0_0 a0_1 a0_2).bind fun bt473 => ((laws_toGame.f k a1_0 l1_1).bind fun bt476 => ((spec_DoesFit.f k bt473.1 bt473.2.1 bt473.2.2 bt476.1 bt476.2).bind fun bt480 => ((laws_toGame.f k a1_0 l1_1).bind fun bt482 => ((laws_toClue.f a0_0 a0_1 a0_2).bind fun bt487 => ((impl_DoesFit.f k bt487.1 bt487.2.1 bt487.2.2 bt482.1 bt482.2).bind fun bt490 => (if (bt490.1 != bt480.1) = true then (none) else (if (bt490.2 != bt480.2) = true then (none) else ((laws_toGame.f k a1_0 l1_1).bind fun bt492 => ((laws_eqGame.f k bt482.1 bt482.2 bt492.1 bt492.2).bind fun t496 => (if t496 = true then (some true) else (none)))))))))))))
def laws_FnExactDoesFit.T5 : Bool × List (List Nat × List Nat) := (true, [([], []), ([0], [0]), ([], []), ([2, 1], [2]), ([1, 3, 3], [1, 3]), ([4], [4]), ([5], [5]), ([5], [5]), ([6, 4, 0, 1, 2, 3, 4, 5, 6], [6]), ([7, 8, 0, 1, 2, 3, 4, 5, 6, 7, 8], [7])])
def laws_FnExactDoesFit.B5 : List Nat := [0, 1, 0, 7, 15, 31, 63, 63, 127, 511]
theorem laws_FnExactDoesFit.tab5 : rtab .any (opsOf Try.f5 5) = laws_FnExactDoesFit.T5 := by kernel_rfl
theorem laws_FnExactDoesFit.bits5 : waitsOk laws_FnExactDoesFit.T5.2 laws_FnExactDoesFit.B5 = true := by kernel_rfl
def laws_FnExactDoesFit.T7 : Bool × List (List Nat × List Nat) := (true, [([], []), ([0], [0]), ([], []), ([1, 2, 1], [1, 2]), ([3], [3]), ([4], [4]), ([4], [4]), ([5, 3, 0, 1, 2, 3, 4, 5], [5]), ([6, 7, 0, 1, 2, 3, 4, 5, 6, 7], [6])])
def laws_FnExactDoesFit.B7 : List Nat := [0, 1, 0, 7, 15, 31, 31, 63, 255]
theorem laws_FnExactDoesFit.tab7 : rtab .any (opsOf Try.f5 7) = laws_FnExactDoesFit.T7 := by kernel_rfl
theorem laws_FnExactDoesFit.bits7 : waitsOk laws_FnExactDoesFit.T7.2 laws_FnExactDoesFit.B7 = true := by kernel_rfl
set_option maxHeartbeats 8000000 in
set_option maxRecDepth 100000 in
theorem laws_FnExactDoesFit.calls (k : Nat) (a0_0 : Int) (a0_1 : Int) (a0_2 : Int) (a1_0 : Int) (A1_1 : Option Addr) (c1_1 : Nat) (l1_1 : List (List Int)) (r : Bool) (w : World) (hr1_1 : Kd.C (Kd.slice 3 (Kd.int .i64)) w A1_1 l1_1.length l1_1) (hc1_1 : l1_1.length ≤ c1_1) (h : laws_FnExactDoesFit.f k a0_0 a0_1 a0_2 a1_0 l1_1 = some r) :
  Calls Try.prog 5 #[.agg #[.int .i64 a0_0, .int .i64 a0_1, .int .i64 a0_2], .agg #[.int .i64 a1_0, .slice A1_1 l1_1.length c1_1]] w fun e w' => e = .returned (.bool r) ∧ Below w.heap.size w w' := by
 have hu43 := Try.underlying43
 have hu35 := Try.underlying35
 have hu27 := Try.underlying27
 have HR1_1 := Aside0.mk hr1_1
 have HC1_1 := Aside0.mk hc1_1
 clear hr1_1 hc1_1
 have HB := Aside0.mk (Below.refl w.heap.size w)
 have H : ((laws_szGame.f k a1_0 l1_1 1048576).bind fun t472 => (if t472 < 0 then (some true) else ((laws_toClue.f a0_0 a0_1 a0_2).bind fun bt473 => ((laws_toGame.f k a1_0 l1_1).bind fun bt476 => ((spec_DoesFit.f k bt473.1 bt473.2.1 bt473.2.2 bt476.1 bt476.2).bind fun bt480 => ((laws_toGame.f k a1_0 l1_1).bind fun bt482 => ((laws_toClue.f a0_0 a0_1 a0_2).bind fun bt487 => ((impl_DoesFit.f k bt487.1 bt487.2.1 bt487.2.2 bt482.1 bt482.2).bind fun bt490 => (if (bt490.1 != bt480.1) = true then (none) else (if (bt490.2 != bt480.2) = true then (none) else ((laws_toGame.f k a1_0 l1_1).bind fun bt492 => ((laws_eqGame.f k bt482.1 bt482.2 bt492.1 bt492.2).bind fun t496 => (if t496 = true then (some true) else (none)))))))))))))) = some r := h
 clear h
 replace H := Option.bind_eq_some_iff.mp H
 obtain ⟨t472, A30, H⟩ := H
 replace H : (if t472 < 0 then (some true) else ((laws_toClue.f a0_0 a0_1 a0_2).bind fun bt473 => ((laws_toGame.f k a1_0 l1_1).bind fun bt476 => ((spec_DoesFit.f k bt473.1 bt473.2.1 bt473.2.2 bt476.1 bt476.2).bind fun bt480 => ((laws_toGame.f k a1_0 l1_1).bind fun bt482 => ((laws_toClue.f a0_0 a0_1 a0_2).bind fun bt487 => ((impl_DoesFit.f k bt487.1 bt487.2.1 bt487.2.2 bt482.1 bt482.2).bind fun bt490 => (if (bt490.1 != bt480.1) = true then (none) else (if (bt490.2 != bt480.2) = true then (none) else ((laws_toGame.f k a1_0 l1_1).bind fun bt492 => ((laws_eqGame.f k bt482.1 bt482.2 bt492.1 bt492.2).bind fun t496 => (if t496 = true then (some true) else (none))))))))))))) = some r := H
 have A3 := Aside0.mk A30
 clear A30
 by_cases c4 : t472 < 0
 ·rw [if_pos c4] at H
  have c4b0 : decide (t472 < 0) = true := decide_eq_true c4
  clear c4
  obtain rfl := Option.some.inj H
  go_enter Try.func5, Try.ntmps5
  go_wp2_with (first | ((with_reducible refine gate_dst (N := 2) rfl ?_); refine box_event ?hg (N := 2) ?hd (cs := #[.int .i64 a0_0, .int .i64 a0_1, .int .i64 a0_2]) (t := 43) ?hr ?_; (case hd => rfl); (case hg => rfl); (case hr => first | (go_simp; done) | (go_simp; rfl)); intro gb470 hg w5 hbox hb; have n0_ := Aside0.mk (below_step (zh HB.out) hb); have n1_ := Aside0.mk (hbox); have n2_ := Aside0.mk ((by rw [hg]; exact (below_size (zh HB.out)) : w.heap.size ≤ gb470)); have n3_ := Aside0.mk ((by rw [hg]; exact (below_size (zh HB.out)) : w.heap.size ≤ gb470)); clear HB; have HB := n0_; have BK470 := n1_; have GW470 := n2_; have GE470 := n3_; clear n0_ n1_ n2_ n3_; clear hb hbox hg) | ((with_reducible refine gate_dst (N := 3) rfl ?_); refine box_event ?hg (N := 3) ?hd (cs := #[.int .i64 a1_0, .slice A1_1 l1_1.length c1_1]) (t := 35) ?hr ?_; (case hd => rfl); (case hg => rfl); (case hr => first | (go_simp; done) | (go_simp; rfl)); intro gb471 hg w6 hbox hb; have n0_ := Aside0.mk (blk_below (g := gb470) (o := .cells #[.int .i64 a0_0, .int .i64 a0_1, .int .i64 a0_2] 43 (0, 0)) (zb BK470.out) hb); have n1_ := Aside0.mk (below_step (zh HB.out) hb); have n2_ := Aside0.mk (hbox); have n3_ := Aside0.mk ((by rw [hg]; exact (below_size (zh HB.out)) : w.heap.size ≤ gb471)); have n4_ := Aside0.mk ((by rw [hg]; exact (below_size (zh HB.out)) : w.heap.size ≤ gb471)); have n5_ := Aside0.mk ((by rw [hg]; exact Nat.ne_of_lt (blk_lt (g := gb470) (o := .cells #[.int .i64 a0_0, .int .i64 a0_1, .int .i64 a0_2] 43 (0, 0)) (zb BK470.out)) : gb470 ≠ gb471)); have n6_ := Aside0.mk ((by rw [hg]; exact Nat.ne_of_gt (blk_lt (g := gb470) (o := .cells #[.int .i64 a0_0, .int .i64 a0_1, .int .i64 a0_2] 43 (0, 0)) (zb BK470.out)) : gb471 ≠ gb470)); clear BK470; clear HB; have BK470 := n0_; have HB := n1_; have BK471 := n2_; have GW471 := n3_; have GE471 := n4_; have NB470_471 := n5_; have NB471_470 := n6_; clear n0_ n1_ n2_ n3_ n4_ n5_ n6_; clear hb hbox hg; have hnb7 := NB471_470.out; have hnc7 := NB470_471.out; have hcz8_0 : w6.cell? ⟨gb471, 0, none⟩ = some (.int .i64 a1_0) := (blk_cell BK471.out 0).trans rfl; have hcz8_1 : w6.cell? ⟨gb471, 1, none⟩ = some (.slice A1_1 l1_1.length c1_1) := (blk_cell BK471.out 1).trans rfl; have hfz8_0 := blk_frozen BK471.out 0; have hfz8_1 := blk_frozen BK471.out 1) | ((with_reducible refine gate_callee (f := 23) rfl ?_); refine goesL_ (some 13) rfl rfl Try.func23 (by kernel_rfl) rfl #[.agg #[.int .i64 a1_0, .slice A1_1 l1_1.length c1_1], .int .i64 1048576] rfl (by (try simp only [List.map_toArray, List.map_cons, List.map_nil]); first | done | rfl | (simp only [List.length_drop, List.length_take]; rfl)) ?_; (with_reducible refine (laws_szGame.calls k a1_0 _ _ l1_1 1048576 t472 _ ?side1 ?side2 A3.out).mono ?_); (case side1 => repeat (first | exact (Kd.C_below HR1_1.out HB.out) | (with_reducible refine Kd.C_alloc ?_ _) | (with_reducible refine Kd.C_drewN ?_ _) | (with_reducible refine Kd.C_drew ?_))); (case side2 => exact HC1_1.out); rintro e w9 ⟨rfl, hb⟩; refine ⟨_, rfl, ?_⟩; have n0_ := Aside0.mk (blk_below (g := gb470) (o := .cells #[.int .i64 a0_0, .int .i64 a0_1, .int .i64 a0_2] 43 (0, 0)) (zb BK470.out) hb); have n1_ := Aside0.mk (blk_below (g := gb471) (o := .cells #[.int .i64 a1_0, .slice A1_1 l1_1.length c1_1] 35 (0, 0)) (zb BK471.out) hb); have n2_ := Aside0.mk (below_step (zh HB.out) hb); clear BK470; clear BK471; clear HB; have BK470 := n0_; have BK471 := n1_; have HB := n2_; clear n0_ n1_ n2_; (try clear hb); (try clear hb2); (try clear hk); (try clear hi)))
  go_ret
  exact ⟨by first | rfl | (simp [errW_none, errW_some] <;> rfl) | (simp [*, errW_none, errW_some] <;> rfl), by repeat (first | (with_reducible first | exact HB.out | apply below_alloc | apply pw_below_drewN | apply below_drew1 | refine below_set ?_ GE470.out | refine below_set ?_ GE471.out) | exact HB.out)⟩
 rw [if_neg c4] at H
 have c4b0 : decide (t472 < 0) = false := decide_eq_false c4
 clear c4
 replace H := Option.bind_eq_some_iff.mp H
 obtain ⟨⟨t473, t474, t475⟩, A100, H⟩ := H
 replace H : ((laws_toGame.f k a1_0 l1_1).bind fun bt476 => ((spec_DoesFit.f k t473 t474 t475 bt476.1 bt476.2).bind fun bt480 => ((laws_toGame.f k a1_0 l1_1).bind fun bt482 => ((laws_toClue.f a0_0 a0_1 a0_2).bind fun bt487 => ((impl_DoesFit.f k bt487.1 bt487.2.1 bt487.2.2 bt482.1 bt482.2).bind fun bt490 => (if (bt490.1 != bt480.1) = true then (none) else (if (bt490.2 != bt480.2) = true then (none) else ((laws_toGame.f k a1_0 l1_1).bind fun bt492 => ((laws_eqGame.f k bt482.1 bt482.2 bt492.1 bt492.2).bind fun t496 => (if t496 = true then (some true) else (none))))))))))) = some r := H
 have A10 := Aside0.mk A100
 clear A100
 replace H := Option.bind_eq_some_iff.mp H
 obtain ⟨⟨t476, t477⟩, A110, H⟩ := H
 replace H : ((spec_DoesFit.f k t473 t474 t475 t476 t477).bind fun bt480 => ((laws_toGame.f k a1_0 l1_1).bind fun bt482 => ((laws_toClue.f a0_0 a0_1 a0_2).bind fun bt487 => ((impl_DoesFit.f k bt487.1 bt487.2.1 bt487.2.2 bt482.1 bt482.2).bind fun bt490 => (if (bt490.1 != bt480.1) = true then (none) else (if (bt490.2 != bt480.2) = true then (none) else ((laws_toGame.f k a1_0 l1_1).bind fun bt492 => ((laws_eqGame.f k bt482.1 bt482.2 bt492.1 bt492.2).bind fun t496 => (if t496 = true then (some true) else (none)))))))))) = some r := H
 have A11 := Aside0.mk A110
 clear A110
 replace H := Option.bind_eq_some_iff.mp H
 obtain ⟨⟨t480, t481⟩, A120, H⟩ := H
 replace H : ((laws_toGame.f k a1_0 l1_1).bind fun bt482 => ((laws_toClue.f a0_0 a0_1 a0_2).bind fun bt487 => ((impl_DoesFit.f k bt487.1 bt487.2.1 bt487.2.2 bt482.1 bt482.2).bind fun bt490 => (if (bt490.1 != t480) = true then (none) else (if (bt490.2 != t481) = true then (none) else ((laws_toGame.f k a1_0 l1_1).bind fun bt492 => ((laws_eqGame.f k bt482.1 bt482.2 bt492.1 bt492.2).bind fun t496 => (if t496 = true then (some true) else (none))))))))) = some r := H
 have A12 := Aside0.mk A120
 clear A120
 replace H := Option.bind_eq_some_iff.mp H
 obtain ⟨⟨t482, t483⟩, A130, H⟩ := H
 replace H : ((laws_toClue.f a0_0 a0_1 a0_2).bind fun bt487 => ((impl_DoesFit.f k bt487.1 bt487.2.1 bt487.2.2 t482 t483).bind fun bt490 => (if (bt490.1 != t480) = true then (none) else (if (bt490.2 != t481) = true then (none) else ((laws_toGame.f k a1_0 l1_1).bind fun bt492 => ((laws_eqGame.f k t482 t483 bt492.1 bt492.2).bind fun t496 => (if t496 = true then (some true) else (none)))))))) = some r := H
 have A13 := Aside0.mk A130
 clear A130
 replace H := Option.bind_eq_some_iff.mp H
 obtain ⟨⟨t487, t488, t489⟩, A140, H⟩ := H
 replace H : ((impl_DoesFit.f k t487 t488 t489 t482 t483).bind fun bt490 => (if (bt490.1 != t480) = true then (none) else (if (bt490.2 != t481) = true then (none) else ((laws_toGame.f k a1_0 l1_1).bind fun bt492 => ((laws_eqGame.f k t482 t483 bt492.1 bt492.2).bind fun t496 => (if t496 = true then (some true) else (none))))))) = some r := H
 have A14 := Aside0.mk A140
 clear A140
 replace H := Option.bind_eq_some_iff.mp H
 obtain ⟨⟨t490, t491⟩, A150, H⟩ := H
 replace H : (if (t490 != t480) = true then (none) else (if (t491 != t481) = true then (none) else ((laws_toGame.f k a1_0 l1_1).bind fun bt492 => ((laws_eqGame.f k t482 t483 bt492.1 bt492.2).bind fun t496 => (if t496 = true then (some true) else (none)))))) = some r := H
 have A15 := Aside0.mk A150
 clear A150
 by_cases c16 : (t490 != t480) = true
 ·rw [if_pos c16] at H
  exact absurd H (by simp)
 rw [if_neg c16] at H
 have c16b0 : (t490 != t480) = false := by simpa using c16
 (try (have c16b1 : decide (t490 = t480) = true := by simpa using c16))
 (try (have c16b2 : (t490 == t480) = true := by simpa using c16))
 clear c16
 by_cases c17 : (t491 != t481) = true
 ·rw [if_pos c17] at H
  exact absurd H (by simp)
 rw [if_neg c17] at H
 have c17b0 : (t491 != t481) = false := by simpa using c17
 (try (have c17b1 : decide (t491 = t481) = true := by simpa using c17))
 (try (have c17b2 : (t491 == t481) = true := by simpa using c17))
 clear c17
 replace H := Option.bind_eq_some_iff.mp H
 obtain ⟨⟨t492, t493⟩, A180, H⟩ := H
 replace H : ((laws_eqGame.f k t482 t483 t492 t493).bind fun t496 => (if t496 = true then (some true) else (none))) = some r := H
 have A18 := Aside0.mk A180
 clear A180
 replace H := Option.bind_eq_some_iff.mp H
 obtain ⟨t496, A190, H⟩ := H
 replace H : (if t496 = true then (some true) else (none)) = some r := H
 have A19 := Aside0.mk A190
 clear A190
 by_cases c20 : t496 = true
 rotate_left
 ·replace c20 := Bool.eq_false_iff.mpr c20
  subst c20
  have H1 : (none) = some r := by rw [if_neg (show ¬ (false = true) by decide)] at H; exact H
  clear H
  have H := H1
  clear H1
  exact absurd H (by simp)
 subst c20
 have H1 : (some true) = some r := by rw [if_pos rfl] at H; exact H
 clear H
 have H := H1
 clear H1
 obtain rfl := Option.some.inj H
 go_enter Try.func5, Try.ntmps5
 try go_wp2_with (first | ((with_reducible refine gate_dst (N := 2) rfl ?_); refine box_event ?hg (N := 2) ?hd (cs := #[.int .i64 a0_0, .int .i64 a0_1, .int .i64 a0_2]) (t := 43) ?hr ?_; (case hd => rfl); (case hg => rfl); (case hr => first | (go_simp; done) | (go_simp; rfl)); intro gb470 hg w21 hbox hb; have n0_ := Aside0.mk (below_step (zh HB.out) hb); have n1_ := Aside0.mk (hbox); have n2_ := Aside0.mk ((by rw [hg]; exact (below_size (zh HB.out)) : w.heap.size ≤ gb470)); have n3_ := Aside0.mk ((by rw [hg]; exact (below_size (zh HB.out)) : w.heap.size ≤ gb470)); clear HB; have HB := n0_; have BK470 := n1_; have GW470 := n2_; have GE470 := n3_; clear n0_ n1_ n2_ n3_; clear hb hbox hg) | ((with_reducible refine gate_dst (N := 3) rfl ?_); refine box_event ?hg (N := 3) ?hd (cs := #[.int .i64 a1_0, .slice A1_1 l1_1.length c1_1]) (t := 35) ?hr ?_; (case hd => rfl); (case hg => rfl); (case hr => first | (go_simp; done) | (go_simp; rfl)); intro gb471 hg w22 hbox hb; have n0_ := Aside0.mk (blk_below (g := gb470) (o := .cells #[.int .i64 a0_0, .int .i64 a0_1, .int .i64 a0_2] 43 (0, 0)) (zb BK470.out) hb); have n1_ := Aside0.mk (below_step (zh HB.out) hb); have n2_ := Aside0.mk (hbox); have n3_ := Aside0.mk ((by rw [hg]; exact (below_size (zh HB.out)) : w.heap.size ≤ gb471)); have n4_ := Aside0.mk ((by rw [hg]; exact (below_size (zh HB.out)) : w.heap.size ≤ gb471)); have n5_ := Aside0.mk ((by rw [hg]; exact Nat.ne_of_lt (blk_lt (g := gb470) (o := .cells #[.int .i64 a0_0, .int .i64 a0_1, .int .i64 a0_2] 43 (0, 0)) (zb BK470.out)) : gb470 ≠ gb471)); have n6_ := Aside0.mk ((by rw [hg]; exact Nat.ne_of_gt (blk_lt (g := gb470) (o := .cells #[.int .i64 a0_0, .int .i64 a0_1, .int .i64 a0_2] 43 (0, 0)) (zb BK470.out)) : gb471 ≠ gb470)); clear BK470; clear HB; have BK470 := n0_; have HB := n1_; have BK471 := n2_; have GW471 := n3_; have GE471 := n4_; have NB470_471 := n5_; have NB471_470 := n6_; clear n0_ n1_ n2_ n3_ n4_ n5_ n6_; clear hb hbox hg; have hnb23 := NB471_470.out; have hnc23 := NB470_471.out; have hcz24_0 : w22.cell? ⟨gb471, 0, none⟩ = some (.int .i64 a1_0) := (blk_cell BK471.out 0).trans rfl; have hcz24_1 : w22.cell? ⟨gb471, 1, none⟩ = some (.slice A1_1 l1_1.length c1_1) := (blk_cell BK471.out 1).trans rfl; have hfz24_0 := blk_frozen BK471.out 0; have hfz24_1 := blk_frozen BK471.out 1) | ((with_reducible refine gate_callee (f := 23) rfl ?_); refine goesL_ (some 13) rfl rfl Try.func23 (by kernel_rfl) rfl #[.agg #[.int .i64 a1_0, .slice A1_1 l1_1.length c1_1], .int .i64 1048576] rfl (by (try simp only [List.map_toArray, List.map_cons, List.map_nil]); first | done | rfl | (simp only [List.length_drop, List.length_take]; rfl)) ?_; (with_reducible refine (laws_szGame.calls k a1_0 _ _ l1_1 1048576 t472 _ ?side1 ?side2 A3.out).mono ?_); (case side1 => repeat (first | exact (Kd.C_below HR1_1.out HB.out) | (with_reducible refine Kd.C_alloc ?_ _) | (with_reducible refine Kd.C_drewN ?_ _) | (with_reducible refine Kd.C_drew ?_))); (case side2 => exact HC1_1.out); rintro e w25 ⟨rfl, hb⟩; refine ⟨_, rfl, ?_⟩; have n0_ := Aside0.mk (blk_below (g := gb470) (o := .cells #[.int .i64 a0_0, .int .i64 a0_1, .int .i64 a0_2] 43 (0, 0)) (zb BK470.out) hb); have n1_ := Aside0.mk (blk_below (g := gb471) (o := .cells #[.int .i64 a1_0, .slice A1_1 l1_1.length c1_1] 35 (0, 0)) (zb BK471.out) hb); have n2_ := Aside0.mk (below_step (zh HB.out) hb); clear BK470; clear BK471; clear HB; have BK470 := n0_; have BK471 := n1_; have HB := n2_; clear n0_ n1_ n2_; (try clear hb); (try clear hb2); (try clear hk); (try clear hi)))
 have n0_ := Aside0.mk (blk_drew BK470.out)
 have n1_ := Aside0.mk (blk_drew BK471.out)
 have n2_ := Aside0.mk (below_drew1 HB.out)
 clear BK470
 clear BK471
 clear HB
 have BK470 := n0_
 have BK471 := n1_
 have HB := n2_
 clear n0_ n1_ n2_
 refine start_ (n := 10) (S := fun w' => w'.cell? ⟨gb470, 0, none⟩ = some (.int .i64 a0_0) ∧ w'.cell? ⟨gb470, 1, none⟩ = some (.int .i64 a0_1) ∧ w'.cell? ⟨gb470, 2, none⟩ = some (.int .i64 a0_2) ∧ w'.cell? ⟨gb471, 0, none⟩ = some (.int .i64 a1_0) ∧ w'.cell? ⟨gb471, 1, none⟩ = some (.slice A1_1 l1_1.length c1_1)) (ds := []) #[false, false, false, false, false, false, false, false, false, false] (by kernel_rfl) rfl rfl ⟨(blk_cell BK470.out 0).trans rfl, (blk_cell BK470.out 1).trans rfl, (blk_cell BK470.out 2).trans rfl, (blk_cell BK471.out 0).trans rfl, (blk_cell BK471.out 1).trans rfl⟩ (fun hHeld => ?_); refine with_tabW laws_FnExactDoesFit.tab5 laws_FnExactDoesFit.bits5 (fun HT_ HW_ => ?_)
 generalize w25.drew = w26 at BK470 BK471 HB hHeld ⊢
 refine take_ (i := 0) (N := some 17) (v := ?_) (a' := ?_) #[true, false, false, false, false, false, false, false, false, false] rfl rfl (take_ofW HT_.out HW_.out (by kernel_rfl)) (fun _ _ _ h => h) (Or.inl ⟨by rfl, ?_⟩) hHeld ?_ ?_
 rotate_left
 ·rintro w' ⟨s0, s1, s2, s3, s4⟩
  go_simp
  with_reducible rfl
 rotate_left
 ·simp only [Act.put, List.setIfInBounds_toArray, List.set_cons_zero, List.set_cons_succ, i64_w, i32_w]
  rfl
 refine take_ (i := 2) (N := some 19) (v := ?_) (a' := ?_) #[true, false, true, false, false, false, false, false, false, false] rfl rfl (take_ofW HT_.out HW_.out (by kernel_rfl)) (fun _ _ _ h => h) (Or.inl ⟨by rfl, ?_⟩) hHeld ?_ ?_
 rotate_left
 ·rintro w' ⟨s0, s1, s2, s3, s4⟩
  go_simp
  with_reducible rfl
 rotate_left
 ·simp only [Act.put, List.setIfInBounds_toArray, List.set_cons_zero, List.set_cons_succ, i64_w, i32_w]
  rfl
 refine one_ (i := 1) (N := some 18) #[true, true, true, false, false, false, false, false, false, false] rfl rfl (one_of HT_.out (by kernel_rfl)) (by decide) (fun K hK => ?_)
 refine goes_ Try.func25 (by kernel_rfl) rfl #[.agg #[.int .i64 a0_0, .int .i64 a0_1, .int .i64 a0_2]] (by rfl) rfl rfl (by (try simp only [List.map_toArray, List.map_cons, List.map_nil]); first | done | rfl | (simp only [List.length_drop, List.length_take]; rfl)) ?_
 with_reducible refine (laws_toClue.calls a0_0 a0_1 a0_2 t473 t474 t475 _ A10.out).mono ?_
 rintro e w27 ⟨rfl, hb⟩
 refine ⟨_, rfl, ?_⟩
 have n0_ := Aside0.mk (blk_below (g := gb470) (o := .cells #[.int .i64 a0_0, .int .i64 a0_1, .int .i64 a0_2] 43 (0, 0)) (zb BK470.out) hb)
 have n1_ := Aside0.mk (blk_below (g := gb471) (o := .cells #[.int .i64 a1_0, .slice A1_1 l1_1.length c1_1] 35 (0, 0)) (zb BK471.out) hb)
 have n2_ := Aside0.mk (below_step (zh HB.out) hb)
 clear BK470
 clear BK471
 clear HB
 have BK470 := n0_
 have BK471 := n1_
 have HB := n2_
 clear n0_ n1_ n2_
 (try clear hb)
 (try clear hb2)
 (try clear hk)
 (try clear hi)
 refine hK.out _ _ ⟨(blk_cell BK470.out 0).trans rfl, (blk_cell BK470.out 1).trans rfl, (blk_cell BK470.out 2).trans rfl, (blk_cell BK471.out 0).trans rfl, (blk_cell BK471.out 1).trans rfl⟩ (fun hHeld => ?_)
 clear hK K
 refine norm_ (a' := ?_) ?_ ?_
 rotate_left
 ·show Act.put _ (some 18) _ = _
  simp only [Act.put, List.setIfInBounds_toArray, List.set_cons_zero, List.set_cons_succ, i64_w, i32_w]
  rfl
 refine one_ (i := 3) (N := some 20) #[true, true, true, true, false, false, false, false, false, false] rfl rfl (one_of HT_.out (by kernel_rfl)) (by decide) (fun K hK => ?_)
 refine goes_ Try.func26 (by kernel_rfl) rfl #[.agg #[.int .i64 a1_0, .slice A1_1 l1_1.length c1_1]] (by rfl) rfl rfl (by (try simp only [List.map_toArray, List.map_cons, List.map_nil]); first | done | rfl | (simp only [List.length_drop, List.length_take]; rfl)) ?_
 with_reducible refine (laws_toGame.calls k a1_0 _ _ l1_1 t476 t477 _ ?side1 ?side2 A11.out).mono ?_
 (case side1 => repeat (first | exact (Kd.C_below HR1_1.out HB.out) | (with_reducible refine Kd.C_alloc ?_ _) | (with_reducible refine Kd.C_drewN ?_ _) | (with_reducible refine Kd.C_drew ?_)))
 (case side2 => exact HC1_1.out)
 rintro e w28 ⟨v478, rfl, ho0, hb⟩
 refine ⟨_, rfl, ?_⟩
 have n0_ := Aside0.mk (Kd.S_lower ho0 (below_size (zh HB.out)))
 have n1_ := Aside0.mk (blk_below (g := gb470) (o := .cells #[.int .i64 a0_0, .int .i64 a0_1, .int .i64 a0_2] 43 (0, 0)) (zb BK470.out) hb)
 have n2_ := Aside0.mk (blk_below (g := gb471) (o := .cells #[.int .i64 a1_0, .slice A1_1 l1_1.length c1_1] 35 (0, 0)) (zb BK471.out) hb)
 have n3_ := Aside0.mk (below_step (zh HB.out) hb)
 clear BK470
 clear BK471
 clear HB
 have HO479 := n0_
 have BK470 := n1_
 have BK471 := n2_
 have HB := n3_
 clear n0_ n1_ n2_ n3_
 (try clear hb)
 (try clear hb2)
 (try clear hk)
 (try clear hi)
 (try clear ho0)
 obtain ⟨Ao29, co29, eo29⟩ := Kd.S_slice HO479.out
 (first | subst eo29 | (injection eo29 with f1_ f2_ f3_; have f4_ := f1_.symm; have f5_ := f3_.symm; clear f1_ f2_ f3_; subst f4_; subst f5_))
 refine hK.out _ _ ⟨(blk_cell BK470.out 0).trans rfl, (blk_cell BK470.out 1).trans rfl, (blk_cell BK470.out 2).trans rfl, (blk_cell BK471.out 0).trans rfl, (blk_cell BK471.out 1).trans rfl⟩ (fun hHeld => ?_)
 clear hK K
 refine norm_ (a' := ?_) ?_ ?_
 rotate_left
 ·show Act.put _ (some 20) _ = _
  simp only [Act.put, List.setIfInBounds_toArray, List.set_cons_zero, List.set_cons_succ, i64_w, i32_w]
  rfl
 refine one_ (i := 4) (N := some 21) #[true, true, true, true, true, false, false, false, false, false] rfl rfl (one_of HT_.out (by kernel_rfl)) (by decide) (fun K hK => ?_)
 refine goes_ Try.func24 (by kernel_rfl) rfl #[.agg #[.int .i64 t473, .int .i64 t474, .int .i64 t475], .agg #[.int .i64 t476, .slice Ao29 t477.length co29]] (by rfl) rfl rfl (by (try simp only [List.map_toArray, List.map_cons, List.map_nil]); first | done | rfl | (simp only [List.length_drop, List.length_take]; rfl)) ?_
 with_reducible refine (spec_DoesFit.calls k t473 t474 t475 t476 _ _ t477 t480 t481 _ ?side1 ?side2 A12.out).mono ?_
 (case side1 => repeat (first | exact (Kd.S_reads' HO479.out).2.2 | (with_reducible refine Kd.C_alloc ?_ _) | (with_reducible refine Kd.C_drewN ?_ _) | (with_reducible refine Kd.C_drew ?_)))
 (case side2 => exact (Kd.S_reads' HO479.out).2.1)
 rintro e w30 ⟨rfl, hb⟩
 refine ⟨_, rfl, ?_⟩
 have n0_ := Aside0.mk (Kd.S_below (by (with_reducible repeat (first | apply Kd.S_alloc | apply Kd.S_drewN | apply Kd.S_drew)); exact HO479.out) hb)
 have n1_ := Aside0.mk (blk_below (g := gb470) (o := .cells #[.int .i64 a0_0, .int .i64 a0_1, .int .i64 a0_2] 43 (0, 0)) (zb BK470.out) hb)
 have n2_ := Aside0.mk (blk_below (g := gb471) (o := .cells #[.int .i64 a1_0, .slice A1_1 l1_1.length c1_1] 35 (0, 0)) (zb BK471.out) hb)
 have n3_ := Aside0.mk (below_step (zh HB.out) hb)
 clear HO479
 clear BK470
 clear BK471
 clear HB
 have HO479 := n0_
 have BK470 := n1_
 have BK471 := n2_
 have HB := n3_
 clear n0_ n1_ n2_ n3_
 (try clear hb)
 (try clear hb2)
 (try clear hk)
 (try clear hi)
 refine hK.out _ _ ⟨(blk_cell BK470.out 0).trans rfl, (blk_cell BK470.out 1).trans rfl, (blk_cell BK470.out 2).trans rfl, (blk_cell BK471.out 0).trans rfl, (blk_cell BK471.out 1).trans rfl⟩ (fun hHeld => ?_)
 clear hK K
 refine norm_ (a' := ?_) ?_ ?_
 rotate_left
 ·show Act.put _ (some 21) _ = _
  simp only [Act.put, List.setIfInBounds_toArray, List.set_cons_zero, List.set_cons_succ, i64_w, i32_w]
  rfl
 refine pure_ (i := 5) (N := some 16) (v := ?_) (a' := ?_) #[true, true, true, true, true, true, false, false, false, false] rfl rfl (any_of HT_.out (by kernel_rfl)) (fun _ _ _ h => h) (Or.inl ⟨by rfl, ?_⟩) ?_ ?_
 rotate_left
 ·intro w'
  go_simp
  with_reducible rfl
 rotate_left
 ·simp only [Act.put, List.setIfInBounds_toArray, List.set_cons_zero, List.set_cons_succ, i64_w, i32_w]
  rfl
 refine pure_ (i := 6) (N := some 22) (v := ?_) (a' := ?_) #[true, true, true, true, true, true, true, false, false, false] rfl rfl (any_of HT_.out (by kernel_rfl)) (fun _ _ _ h => h) (Or.inl ⟨by rfl, ?_⟩) ?_ ?_
 rotate_left
 ·intro w'
  go_simp
  with_reducible rfl
 rotate_left
 ·simp only [Act.put, List.setIfInBounds_toArray, List.set_cons_zero, List.set_cons_succ, i64_w, i32_w]
  rfl
 refine pure_ (i := 7) (N := some 23) (v := ?_) (a' := ?_) #[true, true, true, true, true, true, true, true, false, false] rfl rfl (any_of HT_.out (by kernel_rfl)) (fun _ _ _ h => h) (Or.inl ⟨by rfl, ?_⟩) ?_ ?_
 rotate_left
 ·intro w'
  go_simp
  with_reducible rfl
 rotate_left
 ·simp only [Act.put, List.setIfInBounds_toArray, List.set_cons_zero, List.set_cons_succ, i64_w, i32_w]
  rfl
 refine pure_ (i := 8) (N := some 6) (v := ?_) (a' := ?_) #[true, true, true, true, true, true, true, true, true, false] rfl rfl (any_of HT_.out (by kernel_rfl)) (fun _ _ _ h => h) (Or.inl ⟨by rfl, ?_⟩) ?_ ?_
 rotate_left
 ·intro w'
  go_simp
  with_reducible rfl
 rotate_left
 ·simp only [Act.put, List.setIfInBounds_toArray, List.set_cons_zero, List.set_cons_succ, i64_w, i32_w]
  rfl
 refine pure_ (i := 9) (N := some 7) (v := ?_) (a' := ?_) #[true, true, true, true, true, true, true, true, true, true] rfl rfl (any_of HT_.out (by kernel_rfl)) (fun _ _ _ h => h) (Or.inl ⟨by rfl, ?_⟩) ?_ ?_
 rotate_left
 ·intro w'
  go_simp
  with_reducible rfl
 rotate_left
 ·simp only [Act.put, List.setIfInBounds_toArray, List.set_cons_zero, List.set_cons_succ, i64_w, i32_w]
  rfl
 refine done_ (done_of HT_.out (by kernel_rfl)) ?_
 have hcz31_0 : w30.cell? ⟨gb471, 0, none⟩ = some (.int .i64 a1_0) := (blk_cell BK471.out 0).trans rfl
 have hcz31_1 : w30.cell? ⟨gb471, 1, none⟩ = some (.slice A1_1 l1_1.length c1_1) := (blk_cell BK471.out 1).trans rfl
 have hfz31_0 := blk_frozen BK471.out 0
 have hfz31_1 := blk_frozen BK471.out 1
 try go_wp2_with (first | ((with_reducible refine gate_callee (f := 26) rfl ?_); refine goesL_ (some 25) rfl rfl Try.func26 (by kernel_rfl) rfl #[.agg #[.int .i64 a1_0, .slice A1_1 l1_1.length c1_1]] rfl (by (try simp only [List.map_toArray, List.map_cons, List.map_nil]); first | done | rfl | (simp only [List.length_drop, List.length_take]; rfl)) ?_; (with_reducible refine (laws_toGame.calls k a1_0 _ _ l1_1 t482 t483 _ ?side1 ?side2 A13.out).mono ?_); (case side1 => repeat (first | exact (Kd.C_below HR1_1.out HB.out) | (with_reducible refine Kd.C_alloc ?_ _) | (with_reducible refine Kd.C_drewN ?_ _) | (with_reducible refine Kd.C_drew ?_))); (case side2 => exact HC1_1.out); rintro e w32 ⟨v484, rfl, ho0, hb⟩; refine ⟨_, rfl, ?_⟩; have n0_ := Aside0.mk (Kd.S_elder' (by (with_reducible repeat (first | apply Kd.S_alloc | apply Kd.S_drewN | apply Kd.S_drew)); exact HO479.out) (Kd.S_base ho0) hb); have n1_ := Aside0.mk (Kd.S_lower (Kd.S_new' ho0 (Kd.S_lt (by (with_reducible repeat (first | apply Kd.S_alloc | apply Kd.S_drewN | apply Kd.S_drew)); exact HO479.out))) (below_size (zh HB.out))); have n2_ := Aside0.mk (blk_below (g := gb470) (o := .cells #[.int .i64 a0_0, .int .i64 a0_1, .int .i64 a0_2] 43 (0, 0)) (zb BK470.out) hb); have n3_ := Aside0.mk (blk_below (g := gb471) (o := .cells #[.int .i64 a1_0, .slice A1_1 l1_1.length c1_1] 35 (0, 0)) (zb BK471.out) hb); have n4_ := Aside0.mk (below_step (zh HB.out) hb); clear HO479; clear BK470; clear BK471; clear HB; have HO479 := n0_; have HO485 := n1_; have BK470 := n2_; have BK471 := n3_; have HB := n4_; clear n0_ n1_ n2_ n3_ n4_; (try clear hb); (try clear hb2); (try clear hk); (try clear hi); (try clear ho0)) | ((with_reducible refine gate_dst (N := 8) rfl ?_); refine box_event ?hg (N := 8) ?hd (cs := #[.int .i64 0, .slice none 0 0]) (t := 27) ?hr ?_; (case hd => rfl); (case hg => rfl); (case hr => first | (go_simp; done) | (go_simp; rfl)); intro gb486 hg w33 hbox hb; have n0_ := Aside0.mk (Kd.S_below (by (with_reducible repeat (first | apply Kd.S_alloc | apply Kd.S_drewN | apply Kd.S_drew)); exact HO479.out) hb); have n1_ := Aside0.mk (Kd.S_below (by (with_reducible repeat (first | apply Kd.S_alloc | apply Kd.S_drewN | apply Kd.S_drew)); exact HO485.out) hb); have n2_ := Aside0.mk (blk_below (g := gb470) (o := .cells #[.int .i64 a0_0, .int .i64 a0_1, .int .i64 a0_2] 43 (0, 0)) (zb BK470.out) hb); have n3_ := Aside0.mk (blk_below (g := gb471) (o := .cells #[.int .i64 a1_0, .slice A1_1 l1_1.length c1_1] 35 (0, 0)) (zb BK471.out) hb); have n4_ := Aside0.mk (below_step (zh HB.out) hb); have n5_ := Aside0.mk (hbox); have n6_ := Aside0.mk ((by rw [hg]; exact (below_size (zh HB.out)) : w.heap.size ≤ gb486)); have n7_ := Aside0.mk ((by rw [hg]; exact (below_size (zh HB.out)) : w.heap.size ≤ gb486)); have n8_ := Aside0.mk ((by rw [hg]; exact Nat.ne_of_lt (blk_lt (g := gb470) (o := .cells #[.int .i64 a0_0, .int .i64 a0_1, .int .i64 a0_2] 43 (0, 0)) (zb BK470.out)) : gb470 ≠ gb486)); have n9_ := Aside0.mk ((by rw [hg]; exact Nat.ne_of_gt (blk_lt (g := gb470) (o := .cells #[.int .i64 a0_0, .int .i64 a0_1, .int .i64 a0_2] 43 (0, 0)) (zb BK470.out)) : gb486 ≠ gb470)); have n10_ := Aside0.mk ((by rw [hg]; exact Nat.ne_of_lt (blk_lt (g := gb471) (o := .cells #[.int .i64 a1_0, .slice A1_1 l1_1.length c1_1] 35 (0, 0)) (zb BK471.out)) : gb471 ≠ gb486)); have n11_ := Aside0.mk ((by rw [hg]; exact Nat.ne_of_gt (blk_lt (g := gb471) (o := .cells #[.int .i64 a1_0, .slice A1_1 l1_1.length c1_1] 35 (0, 0)) (zb BK471.out)) : gb486 ≠ gb471)); clear HO479; clear HO485; clear BK470; clear BK471; clear HB; have HO479 := n0_; have HO485 := n1_; have BK470 := n2_; have BK471 := n3_; have HB := n4_; have BK486 := n5_; have GW486 := n6_; have GE486 := n7_; have NB470_486 := n8_; have NB486_470 := n9_; have NB471_486 := n10_; have NB486_471 := n11_; clear n0_ n1_ n2_ n3_ n4_ n5_ n6_ n7_ n8_ n9_ n10_ n11_; clear hb hbox hg; have hnb34 := NB486_470.out; have hnc34 := NB470_486.out; have hnb35 := NB486_471.out; have hnc35 := NB471_486.out; have hcz36_0 : w33.cell? ⟨gb486, 0, none⟩ = some (.int .i64 0) := (blk_cell BK486.out 0).trans rfl; have hcz36_1 : w33.cell? ⟨gb486, 1, none⟩ = some (.slice none 0 0) := (blk_cell BK486.out 1).trans rfl; have hfz36_0 := blk_frozen BK486.out 0; have hfz36_1 := blk_frozen BK486.out 1; obtain ⟨Ao37, co37, eo37⟩ := Kd.S_slice HO485.out; subst eo37))
 have n0_ : Aside0 (Kd.S (Kd.slice 3 (Kd.int .i64)) 22 ((w33.setCell ⟨gb486, 0, none⟩ (.int .i64 t482)).setCell ⟨gb486, 1, none⟩ (.slice Ao37 t483.length co37)) w.heap.size (fun k_ => some k_ ≠ (.slice Ao37 t483.length co37 : Value).ownBlock) (.slice Ao29 t477.length co29) t477) := ⟨by (with_reducible repeat (first | apply Kd.S_alloc | apply Kd.S_drewN | apply Kd.S_drew)); exact Kd.S_mono (Kd.S_far (p := ⟨gb486, 1, none⟩) (Kd.S_far (p := ⟨gb486, 0, none⟩) (Kd.S_types HO479.out BK486.out (by decide)) (fun _ hk => hk.2) (.int .i64 t482)) (fun _ hk => hk.2) (.slice Ao37 t483.length co37)) (fun _ hk => hk.1.2)⟩
 have n1_ : Aside0 (Kd.S (Kd.slice 3 (Kd.int .i64)) 22 ((w33.setCell ⟨gb486, 0, none⟩ (.int .i64 t482)).setCell ⟨gb486, 1, none⟩ (.slice Ao37 t483.length co37)) w.heap.size (fun k_ => some k_ ≠ (.slice Ao29 t477.length co29 : Value).ownBlock) (.slice Ao37 t483.length co37) t483) := ⟨by (with_reducible repeat (first | apply Kd.S_alloc | apply Kd.S_drewN | apply Kd.S_drew)); exact Kd.S_mono (Kd.S_far (p := ⟨gb486, 1, none⟩) (Kd.S_far (p := ⟨gb486, 0, none⟩) (Kd.S_types HO485.out BK486.out (by decide)) (fun _ hk => hk.2) (.int .i64 t482)) (fun _ hk => hk.2) (.slice Ao37 t483.length co37)) (fun _ hk => hk.1.2)⟩
 have n2_ : Aside0 (((w33.setCell ⟨gb486, 0, none⟩ (.int .i64 t482)).setCell ⟨gb486, 1, none⟩ (.slice Ao37 t483.length co37)).heap[gb470]? = some (.cells #[.int .i64 a0_0, .int .i64 a0_1, .int .i64 a0_2] 43 (0, 0))) := ⟨by (with_reducible repeat (first | refine blk_drewN ?_ _ | refine blk_drew ?_ | refine blk_alloc ?_ _)); refine blk_far ?_ NB470_486.out _; (with_reducible repeat (first | refine blk_drewN ?_ _ | refine blk_drew ?_ | refine blk_alloc ?_ _)); refine blk_far ?_ NB470_486.out _; (with_reducible repeat (first | refine blk_drewN ?_ _ | refine blk_drew ?_ | refine blk_alloc ?_ _)); exact BK470.out⟩
 have n3_ : Aside0 (((w33.setCell ⟨gb486, 0, none⟩ (.int .i64 t482)).setCell ⟨gb486, 1, none⟩ (.slice Ao37 t483.length co37)).heap[gb471]? = some (.cells #[.int .i64 a1_0, .slice A1_1 l1_1.length c1_1] 35 (0, 0))) := ⟨by (with_reducible repeat (first | refine blk_drewN ?_ _ | refine blk_drew ?_ | refine blk_alloc ?_ _)); refine blk_far ?_ NB471_486.out _; (with_reducible repeat (first | refine blk_drewN ?_ _ | refine blk_drew ?_ | refine blk_alloc ?_ _)); refine blk_far ?_ NB471_486.out _; (with_reducible repeat (first | refine blk_drewN ?_ _ | refine blk_drew ?_ | refine blk_alloc ?_ _)); exact BK471.out⟩
 have n4_ : Aside0 (((w33.setCell ⟨gb486, 0, none⟩ (.int .i64 t482)).setCell ⟨gb486, 1, none⟩ (.slice Ao37 t483.length co37)).heap[gb486]? = some (.cells #[.int .i64 t482, .slice Ao37 t483.length co37] 27 (0, 0))) := ⟨by (with_reducible repeat (first | refine blk_drewN ?_ _ | refine blk_drew ?_ | refine blk_alloc ?_ _)); refine blk_put (cs := #[.int .i64 t482, .slice none 0 0]) ?_ 1 _ rfl; (with_reducible repeat (first | refine blk_drewN ?_ _ | refine blk_drew ?_ | refine blk_alloc ?_ _)); refine blk_put (cs := #[.int .i64 0, .slice none 0 0]) ?_ 0 _ rfl; (with_reducible repeat (first | refine blk_drewN ?_ _ | refine blk_drew ?_ | refine blk_alloc ?_ _)); exact BK486.out⟩
 have n5_ : Aside0 (Below w.heap.size w ((w33.setCell ⟨gb486, 0, none⟩ (.int .i64 t482)).setCell ⟨gb486, 1, none⟩ (.slice Ao37 t483.length co37))) := ⟨by repeat (first | (with_reducible first | exact HB.out | apply below_alloc | apply pw_below_drewN | apply below_drew1 | refine below_set ?_ GE470.out | refine below_set ?_ GE471.out | refine below_set ?_ GE486.out) | exact HB.out)⟩
 (try clear HO479)
 (try clear HO485)
 (try clear BK470)
 (try clear BK471)
 (try clear BK486)
 (try clear HB)
 generalize ((w33.setCell ⟨gb486, 0, none⟩ (.int .i64 t482)).setCell ⟨gb486, 1, none⟩ (.slice Ao37 t483.length co37)) = w38 at n0_ n1_ n2_ n3_ n4_ n5_ ⊢
 have HO479 := n0_
 have HO485 := n1_
 have BK470 := n2_
 have BK471 := n3_
 have BK486 := n4_
 have HB := n5_
 clear n0_ n1_ n2_ n3_ n4_ n5_
 have n0_ := Aside0.mk (Kd.S_drew HO479.out)
 have n1_ := Aside0.mk (Kd.S_drew HO485.out)
 have n2_ := Aside0.mk (blk_drew BK470.out)
 have n3_ := Aside0.mk (blk_drew BK471.out)
 have n4_ := Aside0.mk (blk_drew BK486.out)
 have n5_ := Aside0.mk (below_drew1 HB.out)
 clear HO479
 clear HO485
 clear BK470
 clear BK471
 clear BK486
 clear HB
 have HO479 := n0_
 have HO485 := n1_
 have BK470 := n2_
 have BK471 := n3_
 have BK486 := n4_
 have HB := n5_
 clear n0_ n1_ n2_ n3_ n4_ n5_
 refine start_ (n := 9) (S := fun w' => w'.cell? ⟨gb470, 0, none⟩ = some (.int .i64 a0_0) ∧ w'.cell? ⟨gb470, 1, none⟩ = some (.int .i64 a0_1) ∧ w'.cell? ⟨gb470, 2, none⟩ = some (.int .i64 a0_2) ∧ w'.cell? ⟨gb486, 0, none⟩ = some (.int .i64 t482) ∧ w'.cell? ⟨gb486, 1, none⟩ = some (.slice Ao37 t483.length co37)) (ds := []) #[false, false, false, false, false, false, false, false, false] (by kernel_rfl) rfl rfl ⟨(blk_cell BK470.out 0).trans rfl, (blk_cell BK470.out 1).trans rfl, (blk_cell BK470.out 2).trans rfl, (blk_cell BK486.out 0).trans rfl, (blk_cell BK486.out 1).trans rfl⟩ (fun hHeld => ?_); refine with_tabW laws_FnExactDoesFit.tab7 laws_FnExactDoesFit.bits7 (fun HT_ HW_ => ?_)
 generalize w38.drew = w39 at HO479 HO485 BK470 BK471 BK486 HB hHeld ⊢
 refine take_ (i := 0) (N := some 27) (v := ?_) (a' := ?_) #[true, false, false, false, false, false, false, false, false] rfl rfl (take_ofW HT_.out HW_.out (by kernel_rfl)) (fun _ _ _ h => h) (Or.inl ⟨by rfl, ?_⟩) hHeld ?_ ?_
 rotate_left
 ·rintro w' ⟨s0, s1, s2, s3, s4⟩
  go_simp
  with_reducible rfl
 rotate_left
 ·simp only [Act.put, List.setIfInBounds_toArray, List.set_cons_zero, List.set_cons_succ, i64_w, i32_w]
  rfl
 refine take_ (i := 2) (N := some 29) (v := ?_) (a' := ?_) #[true, false, true, false, false, false, false, false, false] rfl rfl (take_ofW HT_.out HW_.out (by kernel_rfl)) (fun _ _ _ h => h) (Or.inl ⟨by rfl, ?_⟩) hHeld ?_ ?_
 rotate_left
 ·rintro w' ⟨s0, s1, s2, s3, s4⟩
  go_simp
  with_reducible rfl
 rotate_left
 ·simp only [Act.put, List.setIfInBounds_toArray, List.set_cons_zero, List.set_cons_succ, i64_w, i32_w]
  rfl
 refine one_ (i := 1) (N := some 28) #[true, true, true, false, false, false, false, false, false] rfl rfl (one_of HT_.out (by kernel_rfl)) (by decide) (fun K hK => ?_)
 refine goes_ Try.func25 (by kernel_rfl) rfl #[.agg #[.int .i64 a0_0, .int .i64 a0_1, .int .i64 a0_2]] (by rfl) rfl rfl (by (try simp only [List.map_toArray, List.map_cons, List.map_nil]); first | done | rfl | (simp only [List.length_drop, List.length_take]; rfl)) ?_
 with_reducible refine (laws_toClue.calls a0_0 a0_1 a0_2 t487 t488 t489 _ A14.out).mono ?_
 rintro e w40 ⟨rfl, hb⟩
 refine ⟨_, rfl, ?_⟩
 have n0_ := Aside0.mk (Kd.S_below (by (with_reducible repeat (first | apply Kd.S_alloc | apply Kd.S_drewN | apply Kd.S_drew)); exact HO479.out) hb)
 have n1_ := Aside0.mk (Kd.S_below (by (with_reducible repeat (first | apply Kd.S_alloc | apply Kd.S_drewN | apply Kd.S_drew)); exact HO485.out) hb)
 have n2_ := Aside0.mk (blk_below (g := gb470) (o := .cells #[.int .i64 a0_0, .int .i64 a0_1, .int .i64 a0_2] 43 (0, 0)) (zb BK470.out) hb)
 have n3_ := Aside0.mk (blk_below (g := gb471) (o := .cells #[.int .i64 a1_0, .slice A1_1 l1_1.length c1_1] 35 (0, 0)) (zb BK471.out) hb)
 have n4_ := Aside0.mk (blk_below (g := gb486) (o := .cells #[.int .i64 t482, .slice Ao37 t483.length co37] 27 (0, 0)) (zb BK486.out) hb)
 have n5_ := Aside0.mk (below_step (zh HB.out) hb)
 clear HO479
 clear HO485
 clear BK470
 clear BK471
 clear BK486
 clear HB
 have HO479 := n0_
 have HO485 := n1_
 have BK470 := n2_
 have BK471 := n3_
 have BK486 := n4_
 have HB := n5_
 clear n0_ n1_ n2_ n3_ n4_ n5_
 (try clear hb)
 (try clear hb2)
 (try clear hk)
 (try clear hi)
 refine hK.out _ _ ⟨(blk_cell BK470.out 0).trans rfl, (blk_cell BK470.out 1).trans rfl, (blk_cell BK470.out 2).trans rfl, (blk_cell BK486.out 0).trans rfl, (blk_cell BK486.out 1).trans rfl⟩ (fun hHeld => ?_)
 clear hK K
 refine norm_ (a' := ?_) ?_ ?_
 rotate_left
 ·show Act.put _ (some 28) _ = _
  simp only [Act.put, List.setIfInBounds_toArray, List.set_cons_zero, List.set_cons_succ, i64_w, i32_w]
  rfl
 refine one_ (i := 3) (N := some 30) #[true, true, true, true, false, false, false, false, false] rfl rfl (one_of HT_.out (by kernel_rfl)) (by decide) (fun K hK => ?_)
 refine goes_ Try.func27 (by kernel_rfl) rfl #[.agg #[.int .i64 t487, .int .i64 t488, .int .i64 t489], .agg #[.int .i64 t482, .slice Ao37 t483.length co37]] (by rfl) rfl rfl (by (try simp only [List.map_toArray, List.map_cons, List.map_nil]); first | done | rfl | (simp only [List.length_drop, List.length_take]; rfl)) ?_
 with_reducible refine (impl_DoesFit.calls k t487 t488 t489 t482 _ _ t483 t490 t491 _ ?side1 ?side2 A15.out).mono ?_
 (case side1 => repeat (first | exact (Kd.S_reads' HO485.out).2.2 | (with_reducible refine Kd.C_alloc ?_ _) | (with_reducible refine Kd.C_drewN ?_ _) | (with_reducible refine Kd.C_drew ?_)))
 (case side2 => exact (Kd.S_reads' HO485.out).2.1)
 rintro e w41 ⟨rfl, hb⟩
 refine ⟨_, rfl, ?_⟩
 have n0_ := Aside0.mk (Kd.S_below (by (with_reducible repeat (first | apply Kd.S_alloc | apply Kd.S_drewN | apply Kd.S_drew)); exact HO479.out) hb)
 have n1_ := Aside0.mk (Kd.S_below (by (with_reducible repeat (first | apply Kd.S_alloc | apply Kd.S_drewN | apply Kd.S_drew)); exact HO485.out) hb)
 have n2_ := Aside0.mk (blk_below (g := gb470) (o := .cells #[.int .i64 a0_0, .int .i64 a0_1, .int .i64 a0_2] 43 (0, 0)) (zb BK470.out) hb)
 have n3_ := Aside0.mk (blk_below (g := gb471) (o := .cells #[.int .i64 a1_0, .slice A1_1 l1_1.length c1_1] 35 (0, 0)) (zb BK471.out) hb)
 have n4_ := Aside0.mk (blk_below (g := gb486) (o := .cells #[.int .i64 t482, .slice Ao37 t483.length co37] 27 (0, 0)) (zb BK486.out) hb)
 have n5_ := Aside0.mk (below_step (zh HB.out) hb)
 clear HO479
 clear HO485
 clear BK470
 clear BK471
 clear BK486
 clear HB
 have HO479 := n0_
 have HO485 := n1_
 have BK470 := n2_
 have BK471 := n3_
 have BK486 := n4_
 have HB := n5_
 clear n0_ n1_ n2_ n3_ n4_ n5_
 (try clear hb)
 (try clear hb2)
 (try clear hk)
 (try clear hi)
 refine hK.out _ _ ⟨(blk_cell BK470.out 0).trans rfl, (blk_cell BK470.out 1).trans rfl, (blk_cell BK470.out 2).trans rfl, (blk_cell BK486.out 0).trans rfl, (blk_cell BK486.out 1).trans rfl⟩ (fun hHeld => ?_)
 clear hK K
 refine norm_ (a' := ?_) ?_ ?_
 rotate_left
 ·show Act.put _ (some 30) _ = _
  simp only [Act.put, List.setIfInBounds_toArray, List.set_cons_zero, List.set_cons_succ, i64_w, i32_w]
  rfl
 refine pure_ (i := 4) (N := some 26) (v := ?_) (a' := ?_) #[true, true, true, true, true, false, false, false, false] rfl rfl (any_of HT_.out (by kernel_rfl)) (fun _ _ _ h => h) (Or.inl ⟨by rfl, ?_⟩) ?_ ?_
 rotate_left
 ·intro w'
  go_simp
  with_reducible rfl
 rotate_left
 ·simp only [Act.put, List.setIfInBounds_toArray, List.set_cons_zero, List.set_cons_succ, i64_w, i32_w]
  rfl
 refine pure_ (i := 5) (N := some 31) (v := ?_) (a' := ?_) #[true, true, true, true, true, true, false, false, false] rfl rfl (any_of HT_.out (by kernel_rfl)) (fun _ _ _ h => h) (Or.inl ⟨by rfl, ?_⟩) ?_ ?_
 rotate_left
 ·intro w'
  go_simp
  with_reducible rfl
 rotate_left
 ·simp only [Act.put, List.setIfInBounds_toArray, List.set_cons_zero, List.set_cons_succ, i64_w, i32_w]
  rfl
 refine pure_ (i := 6) (N := some 32) (v := ?_) (a' := ?_) #[true, true, true, true, true, true, true, false, false] rfl rfl (any_of HT_.out (by kernel_rfl)) (fun _ _ _ h => h) (Or.inl ⟨by rfl, ?_⟩) ?_ ?_
 rotate_left
 ·intro w'
  go_simp
  with_reducible rfl
 rotate_left
 ·simp only [Act.put, List.setIfInBounds_toArray, List.set_cons_zero, List.set_cons_succ, i64_w, i32_w]
  rfl
 refine pure_ (i := 7) (N := some 9) (v := ?_) (a' := ?_) #[true, true, true, true, true, true, true, true, false] rfl rfl (any_of HT_.out (by kernel_rfl)) (fun _ _ _ h => h) (Or.inl ⟨by rfl, ?_⟩) ?_ ?_
 rotate_left
 ·intro w'
  go_simp
  with_reducible rfl
 rotate_left
 ·simp only [Act.put, List.setIfInBounds_toArray, List.set_cons_zero, List.set_cons_succ, i64_w, i32_w]
  rfl
 refine pure_ (i := 8) (N := some 10) (v := ?_) (a' := ?_) #[true, true, true, true, true, true, true, true, true] rfl rfl (any_of HT_.out (by kernel_rfl)) (fun _ _ _ h => h) (Or.inl ⟨by rfl, ?_⟩) ?_ ?_
 rotate_left
 ·intro w'
  go_simp
  with_reducible rfl
 rotate_left
 ·simp only [Act.put, List.setIfInBounds_toArray, List.set_cons_zero, List.set_cons_succ, i64_w, i32_w]
  rfl
 refine done_ (done_of HT_.out (by kernel_rfl)) ?_
 try go_wp2
 have n0_ := Aside0.mk (Kd.S_drew HO479.out)
 have n1_ := Aside0.mk (Kd.S_drew HO485.out)
 have n2_ := Aside0.mk (blk_drew BK470.out)
 have n3_ := Aside0.mk (blk_drew BK471.out)
 have n4_ := Aside0.mk (blk_drew BK486.out)
 have n5_ := Aside0.mk (below_drew1 HB.out)
 clear HO479
 clear HO485
 clear BK470
 clear BK471
 clear BK486
 clear HB
 have HO479 := n0_
 have HO485 := n1_
 have BK470 := n2_
 have BK471 := n3_
 have BK486 := n4_
 have HB := n5_
 clear n0_ n1_ n2_ n3_ n4_ n5_
 refine start_ (n := 5) (S := fun w' => w'.cell? ⟨gb486, 0, none⟩ = some (.int .i64 t482) ∧ w'.cell? ⟨gb486, 1, none⟩ = some (.slice Ao37 t483.length co37) ∧ w'.cell? ⟨gb471, 0, none⟩ = some (.int .i64 a1_0) ∧ w'.cell? ⟨gb471, 1, none⟩ = some (.slice A1_1 l1_1.length c1_1)) (ds := []) #[false, false, false, false, false] (by kernel_rfl) rfl rfl ⟨(blk_cell BK486.out 0).trans rfl, (blk_cell BK486.out 1).trans rfl, (blk_cell BK471.out 0).trans rfl, (blk_cell BK471.out 1).trans rfl⟩ (fun hHeld => ?_)
 generalize w41.drew = w42 at HO479 HO485 BK470 BK471 BK486 HB hHeld ⊢
 refine take_ (i := 0) (N := some 41) (v := ?_) (a' := ?_) #[true, false, false, false, false] rfl rfl (by kernel_rfl) (fun _ _ _ h => h) (Or.inl ⟨by rfl, ?_⟩) hHeld ?_ ?_
 rotate_left
 ·rintro w' ⟨s0, s1, s2, s3⟩
  go_simp
  with_reducible rfl
 rotate_left
 ·simp only [Act.put, List.setIfInBounds_toArray, List.set_cons_zero, List.set_cons_succ, i64_w, i32_w]
  rfl
 refine take_ (i := 1) (N := some 42) (v := ?_) (a' := ?_) #[true, true, false, false, false] rfl rfl (by kernel_rfl) (fun _ _ _ h => h) (Or.inl ⟨by rfl, ?_⟩) hHeld ?_ ?_
 rotate_left
 ·rintro w' ⟨s0, s1, s2, s3⟩
  go_simp
  with_reducible rfl
 rotate_left
 ·simp only [Act.put, List.setIfInBounds_toArray, List.set_cons_zero, List.set_cons_succ, i64_w, i32_w]
  rfl
 refine one_ (i := 2) (N := some 43) #[true, true, true, false, false] rfl rfl (by kernel_rfl) (by decide) (fun K hK => ?_)
 refine goes_ Try.func26 (by kernel_rfl) rfl #[.agg #[.int .i64 a1_0, .slice A1_1 l1_1.length c1_1]] (by rfl) rfl rfl (by (try simp only [List.map_toArray, List.map_cons, List.map_nil]); first | done | rfl | (simp only [List.length_drop, List.length_take]; rfl)) ?_
 with_reducible refine (laws_toGame.calls k a1_0 _ _ l1_1 t492 t493 _ ?side1 ?side2 A18.out).mono ?_
 (case side1 => repeat (first | exact (Kd.C_below HR1_1.out HB.out) | (with_reducible refine Kd.C_alloc ?_ _) | (with_reducible refine Kd.C_drewN ?_ _) | (with_reducible refine Kd.C_drew ?_)))
 (case side2 => exact HC1_1.out)
 rintro e w43 ⟨v494, rfl, ho0, hb⟩
 refine ⟨_, rfl, ?_⟩
 have n0_ := Aside0.mk (Kd.S_elder' (by (with_reducible repeat (first | apply Kd.S_alloc | apply Kd.S_drewN | apply Kd.S_drew)); exact HO479.out) (Kd.S_base ho0) hb)
 have n1_ := Aside0.mk (Kd.S_elder' (by (with_reducible repeat (first | apply Kd.S_alloc | apply Kd.S_drewN | apply Kd.S_drew)); exact HO485.out) (Kd.S_base ho0) hb)
 have n2_ := Aside0.mk (Kd.S_lower (Kd.S_new' (Kd.S_new' ho0 (Kd.S_lt (by (with_reducible repeat (first | apply Kd.S_alloc | apply Kd.S_drewN | apply Kd.S_drew)); exact HO479.out))) (Kd.S_lt (by (with_reducible repeat (first | apply Kd.S_alloc | apply Kd.S_drewN | apply Kd.S_drew)); exact HO485.out))) (below_size (zh HB.out)))
 have n3_ := Aside0.mk (blk_below (g := gb470) (o := .cells #[.int .i64 a0_0, .int .i64 a0_1, .int .i64 a0_2] 43 (0, 0)) (zb BK470.out) hb)
 have n4_ := Aside0.mk (blk_below (g := gb471) (o := .cells #[.int .i64 a1_0, .slice A1_1 l1_1.length c1_1] 35 (0, 0)) (zb BK471.out) hb)
 have n5_ := Aside0.mk (blk_below (g := gb486) (o := .cells #[.int .i64 t482, .slice Ao37 t483.length co37] 27 (0, 0)) (zb BK486.out) hb)
 have n6_ := Aside0.mk (below_step (zh HB.out) hb)
 clear HO479
 clear HO485
 clear BK470
 clear BK471
 clear BK486
 clear HB
 have HO479 := n0_
 have HO485 := n1_
 have HO495 := n2_
 have BK470 := n3_
 have BK471 := n4_
 have BK486 := n5_
 have HB := n6_
 clear n0_ n1_ n2_ n3_ n4_ n5_ n6_
 (try clear hb)
 (try clear hb2)
 (try clear hk)
 (try clear hi)
 (try clear ho0)
 obtain ⟨Ao44, co44, eo44⟩ := Kd.S_slice HO495.out
 (first | subst eo44 | (injection eo44 with f1_ f2_ f3_; have f4_ := f1_.symm; have f5_ := f3_.symm; clear f1_ f2_ f3_; subst f4_; subst f5_))
 refine hK.out _ _ ⟨(blk_cell BK486.out 0).trans rfl, (blk_cell BK486.out 1).trans rfl, (blk_cell BK471.out 0).trans rfl, (blk_cell BK471.out 1).trans rfl⟩ (fun hHeld => ?_)
 clear hK K
 refine norm_ (a' := ?_) ?_ ?_
 rotate_left
 ·show Act.put _ (some 43) _ = _
  simp only [Act.put, List.setIfInBounds_toArray, List.set_cons_zero, List.set_cons_succ, i64_w, i32_w]
  rfl
 refine one_ (i := 3) (N := some 44) #[true, true, true, true, false] rfl rfl (by kernel_rfl) (by decide) (fun K hK => ?_)
 refine goes_ Try.func28 (by kernel_rfl) rfl #[.agg #[.int .i64 t482, .slice Ao37 t483.length co37], .agg #[.int .i64 t492, .slice Ao44 t493.length co44]] (by rfl) rfl rfl (by (try simp only [List.map_toArray, List.map_cons, List.map_nil]); first | done | rfl | (simp only [List.length_drop, List.length_take]; rfl)) ?_
 with_reducible refine (laws_eqGame.calls k t482 _ _ t483 t492 _ _ t493 true _ ?side1 ?side2 ?side3 ?side4 A19.out).mono ?_
 (case side1 => repeat (first | exact (Kd.S_reads' HO485.out).2.2 | (with_reducible refine Kd.C_alloc ?_ _) | (with_reducible refine Kd.C_drewN ?_ _) | (with_reducible refine Kd.C_drew ?_)))
 (case side2 => exact (Kd.S_reads' HO485.out).2.1)
 (case side3 => repeat (first | exact (Kd.S_reads' HO495.out).2.2 | (with_reducible refine Kd.C_alloc ?_ _) | (with_reducible refine Kd.C_drewN ?_ _) | (with_reducible refine Kd.C_drew ?_)))
 (case side4 => exact (Kd.S_reads' HO495.out).2.1)
 rintro e w45 ⟨rfl, hb⟩
 refine ⟨_, rfl, ?_⟩
 have n0_ := Aside0.mk (Kd.S_below (by (with_reducible repeat (first | apply Kd.S_alloc | apply Kd.S_drewN | apply Kd.S_drew)); exact HO479.out) hb)
 have n1_ := Aside0.mk (Kd.S_below (by (with_reducible repeat (first | apply Kd.S_alloc | apply Kd.S_drewN | apply Kd.S_drew)); exact HO485.out) hb)
 have n2_ := Aside0.mk (Kd.S_below (by (with_reducible repeat (first | apply Kd.S_alloc | apply Kd.S_drewN | apply Kd.S_drew)); exact HO495.out) hb)
 have n3_ := Aside0.mk (blk_below (g := gb470) (o := .cells #[.int .i64 a0_0, .int .i64 a0_1, .int .i64 a0_2] 43 (0, 0)) (zb BK470.out) hb)
 have n4_ := Aside0.mk (blk_below (g := gb471) (o := .cells #[.int .i64 a1_0, .slice A1_1 l1_1.length c1_1] 35 (0, 0)) (zb BK471.out) hb)
 have n5_ := Aside0.mk (blk_below (g := gb486) (o := .cells #[.int .i64 t482, .slice Ao37 t483.length co37] 27 (0, 0)) (zb BK486.out) hb)
 have n6_ := Aside0.mk (below_step (zh HB.out) hb)
 clear HO479
 clear HO485
 clear HO495
 clear BK470
 clear BK471
 clear BK486
 clear HB
 have HO479 := n0_
 have HO485 := n1_
 have HO495 := n2_
 have BK470 := n3_
 have BK471 := n4_
 have BK486 := n5_
 have HB := n6_
 clear n0_ n1_ n2_ n3_ n4_ n5_ n6_
 (try clear hb)
 (try clear hb2)
 (try clear hk)
 (try clear hi)
 refine hK.out _ _ ⟨(blk_cell BK486.out 0).trans rfl, (blk_cell BK486.out 1).trans rfl, (blk_cell BK471.out 0).trans rfl, (blk_cell BK471.out 1).trans rfl⟩ (fun hHeld => ?_)
 clear hK K
 refine norm_ (a' := ?_) ?_ ?_
 rotate_left
 ·show Act.put _ (some 44) _ = _
  simp only [Act.put, List.setIfInBounds_toArray, List.set_cons_zero, List.set_cons_succ, i64_w, i32_w]
  rfl
 refine pure_ (i := 4) (N := some 45) (v := ?_) (a' := ?_) #[true, true, true, true, true] rfl rfl (by kernel_rfl) (fun _ _ _ h => h) (Or.inl ⟨by rfl, ?_⟩) ?_ ?_
 rotate_left
 ·intro w'
  go_simp
  with_reducible rfl
 rotate_left
 ·simp only [Act.put, List.setIfInBounds_toArray, List.set_cons_zero, List.set_cons_succ, i64_w, i32_w]
  rfl
 refine done_ (by kernel_rfl) ?_
 try go_wp2
 go_ret
 exact ⟨by first | rfl | (simp [errW_none, errW_some] <;> rfl) | (simp [*, errW_none, errW_some] <;> rfl), by repeat (first | (with_reducible first | exact HB.out | apply below_alloc | apply pw_below_drewN | apply below_drew1 | refine below_set ?_ GE470.out | refine below_set ?_ GE471.out | refine below_set ?_ GE486.out) | exact HB.out)⟩
end Go.Proofs.Ytkgpcomljgbilaa.Q
end
section
namespace Go.Proofs.Ytkgpcomljgbilaa.Q
open Go.RowKit Go.Proofs.YtkgpcomljgbilaaW.PrintWords Go.Proofs.YtkgpcomljgbilaaW.PrintLast Go.Proofs.YtkgpcomljgbilaaW.PrintMore
set_option linter.unusedVariables false
set_option linter.unusedSimpArgs false
open Go.ChangeShapes Go.WideShapes Go.ChangeAt Go.Deep
section
variable {H : Type} {enc : TypeId × Value → H} {P : Program} {W : World} {α β γ : Type}
def Opens (enc : TypeId × Value → H) (P : Program) (W : World) (t : TypeId) (d : Kd α) (G : α → Prop) : Prop :=
  ∀ (fuel : Nat) (cs : List Value) (y : DataW H × List MemPlace), DataW.trod enc P W 0 (fun _ => true) true fuel t cs = some y → ∃ x, d.K W x cs ∧ G x
def I64 (x : Int) : Prop := -9223372036854775808 ≤ x ∧ x ≤ 9223372036854775807
theorem opens_int {t : TypeId} (ht : P.underlying t = some (.int .i64)) : Opens enc P W t (Kd.int .i64) I64 := by
  intro fuel cs y h
  obtain ⟨n, rfl, _, hw⟩ := DataW.trod_int ht h
  exact ⟨n, rfl, Go.bounds_i64 hw⟩
theorem opens_slice [Inhabited α] {t e : TypeId} {d : Kd α} {G : α → Prop} (ht : P.underlying t = some (.slice e)) (he : P.cellsOf e = d.sz) (h : Opens enc P W e d G) :
    Opens enc P W t (Kd.slice e d) (fun xs => ∀ x ∈ xs, G x) := by
  intro fuel cs y hr
  rcases Deep.open_slice ht hr with ⟨rfl, _⟩ | ⟨a, len, cap, m, n, D, Pl, rfl, _, hlc, hcm, hm, _, hel⟩
  · exact ⟨[], ⟨none, 0, rfl, Nat.le_refl _, rfl, by simp, fun hp => absurd hp (by simp)⟩, fun x hx => by cases hx⟩
  · have hm' : len ≤ m := by rw [hm]; simp; omega
    have key : ∀ i, i < len → ∃ x, (∃ cs', d.K W x cs' ∧ ∀ j u, cs'[j]? = some u → W.cell? (a.add (i * d.sz + j)) = some u) ∧ G x := by
      intro i hi
      obtain ⟨cs', h1, h2⟩ := hel i (by omega)
      obtain ⟨x, hx, hG⟩ := h _ _ _ h2
      obtain ⟨_, hl, hc⟩ := World.cells?_some h1
      refine ⟨x, ⟨cs', hx, fun j u hu => ?_⟩, hG⟩
      have hj : j < P.cellsOf e := by rw [← hl]; exact (List.getElem?_eq_some_iff.1 hu).1
      have h3 := hc j hj
      rw [Deep.add_add, he] at h3
      rw [h3, hu]
    obtain ⟨f, hf⟩ := Deep.choose_lt key
    have hlen : ((List.range len).map f).length = len := by simp
    refine ⟨(List.range len).map f, ⟨some a, cap, by rw [hlen], by rw [hlen]; exact hlc, rfl, ?_, fun _ => ⟨a, rfl, fun j p hj => ?_⟩⟩, fun x hx => ?_⟩
    · rw [hlen]; unfold maxLen at hcm; omega
    · obtain ⟨hj1, hj2⟩ := List.getElem?_eq_some_iff.1 hj
      have hjl : j < len := by rw [hlen] at hj1; exact hj1
      have : p = f j := by rw [← hj2]; simp
      subst this
      obtain ⟨⟨cs', hK, hc⟩, _⟩ := hf j hjl
      exact ⟨cs', d.K_len hK, hK, hc⟩
    · obtain ⟨i, hi, rfl⟩ := List.mem_map.1 hx
      exact (hf i (List.mem_range.1 hi)).2
theorem opens_pair {t : TypeId} {f0 f1 : Field} {d0 : Kd α} {d1 : Kd β} {G0 : α → Prop} {G1 : β → Prop} (ht : P.underlying t = some (.struct #[f0, f1])) (hC : P.cellsOf t = d0.sz + d1.sz)
    (o0 : f0.offset = 0) (o1 : f1.offset = d0.sz) (c0 : P.cellsOf f0.type = d0.sz) (c1 : P.cellsOf f1.type = d1.sz) (h0 : Opens enc P W f0.type d0 G0) (h1 : Opens enc P W f1.type d1 G1) :
    Opens enc P W t (Kd.pair d0 d1) (fun x => G0 x.1 ∧ G1 x.2) := by
  intro fuel cs y hr
  obtain ⟨y0, y1, n, _, hl, r0, r1⟩ := trod_struct2 ht hr
  rw [o0, c0] at r0
  rw [o1, c1] at r1
  obtain ⟨x0, k0, g0⟩ := h0 _ _ _ r0
  obtain ⟨x1, k1, g1⟩ := h1 _ _ _ r1
  refine ⟨(x0, x1), ⟨_, _, ?_, k0, k1⟩, g0, g1⟩
  rw [List.drop_zero, List.take_of_length_le (l := cs.drop d0.sz) (by rw [List.length_drop, hl, hC]; omega), List.take_append_drop]
theorem opens_triple {t : TypeId} {f0 f1 f2 : Field} {d0 : Kd α} {d1 : Kd β} {d2 : Kd γ} {G0 : α → Prop} {G1 : β → Prop} {G2 : γ → Prop} (ht : P.underlying t = some (.struct #[f0, f1, f2])) (hC : P.cellsOf t = d0.sz + (d1.sz + d2.sz))
    (o0 : f0.offset = 0) (o1 : f1.offset = d0.sz) (o2 : f2.offset = d0.sz + d1.sz) (c0 : P.cellsOf f0.type = d0.sz) (c1 : P.cellsOf f1.type = d1.sz) (c2 : P.cellsOf f2.type = d2.sz)
    (h0 : Opens enc P W f0.type d0 G0) (h1 : Opens enc P W f1.type d1 G1) (h2 : Opens enc P W f2.type d2 G2) :
    Opens enc P W t (Kd.pair d0 (Kd.pair d1 d2)) (fun x => G0 x.1 ∧ G1 x.2.1 ∧ G2 x.2.2) := by
  intro fuel cs y hr
  obtain ⟨y0, y1, y2, n, _, hl, r0, r1, r2⟩ := trod_struct3 ht hr
  rw [o0, c0] at r0
  rw [o1, c1] at r1
  rw [o2, c2] at r2
  obtain ⟨x0, k0, g0⟩ := h0 _ _ _ r0
  obtain ⟨x1, k1, g1⟩ := h1 _ _ _ r1
  obtain ⟨x2, k2, g2⟩ := h2 _ _ _ r2
  refine ⟨(x0, x1, x2), ⟨_, _, ?_, k0, _, _, rfl, k1, k2⟩, g0, g1, g2⟩
  rw [List.drop_zero, List.take_of_length_le (l := cs.drop (d0.sz + d1.sz)) (by rw [List.length_drop, hl, hC]; omega), ← List.drop_drop, List.take_append_drop, List.take_append_drop]
theorem opens_iso {t : TypeId} {d : Kd α} {G : α → Prop} (f : β → α) (g : α → β) (hfg : ∀ x, f (g x) = x) (h : Opens enc P W t d G) : Opens enc P W t (Kd.iso d f) (fun y => G (f y)) := by
  intro fuel cs y hr
  obtain ⟨x, k, gx⟩ := h _ _ _ hr
  exact ⟨g x, by show d.K W (f (g x)) cs; rw [hfg]; exact k, by show G (f (g x)); rw [hfg]; exact gx⟩
theorem open_struct {r : Reach} {b0 : Nat} {t : TypeId} {fs : Array Field} {d : Kd α} {G : α → Prop} {v : Value} {y : DataW H} {p : List MemPlace} (ht : P.underlying t = some (.struct fs)) (hv : Value.okWide P W r b0 t v)
    (hr : DataW.Trod enc P W 0 (fun _ => true) true t v y p) (h : Opens enc P W t d G) : ∃ x cs, v = .agg cs ∧ d.K W x cs.toList ∧ G x := by
  obtain ⟨cs, rfl, _⟩ := okWide_struct ht hv
  obtain ⟨fuel, hf⟩ := hr
  obtain ⟨x, k, g⟩ := h _ _ _ hf
  exact ⟨x, cs, rfl, k, g⟩
end
end Go.Proofs.Ytkgpcomljgbilaa.Q
end
section
namespace Go.Proofs.Ytkgpcomljgbilaa.Q
open Go.RowKit Go.Proofs.YtkgpcomljgbilaaW.PrintWords Go.Proofs.YtkgpcomljgbilaaW.PrintLast Go.Proofs.YtkgpcomljgbilaaW.PrintMore
set_option linter.unusedVariables false
set_option linter.unusedSimpArgs false
def inB (n lo hi : Int) : Bool := decide (lo ≤ n) && decide (n ≤ hi)
theorem bind_ite_false {b : Bool} {x : Option Bool} {y : Bool} (h : b = true → x = some y) : (if b = true then x else some false) = some (b && y) := by
  cases b
  · rfl
  · simpa using h rfl
theorem shl_one (n : Int) (h : 0 ≤ n ∧ n ≤ 16) : shl .i64 1 n = 2 ^ n.toNat := by
  obtain ⟨m, rfl⟩ := Int.eq_ofNat_of_zero_le h.1
  have hm : m ≤ 16 := by omega
  have : ∀ m : Nat, m ≤ 16 → shl .i64 1 (m : Int) = 2 ^ (m : Int).toNat := by decide
  exact this m hm
theorem pow_le16 (n : Int) (h : 0 ≤ n ∧ n ≤ 16) : 1 ≤ (2 : Int) ^ n.toNat ∧ (2 : Int) ^ n.toNat ≤ 65536 := by
  obtain ⟨m, rfl⟩ := Int.eq_ofNat_of_zero_le h.1
  have hm : m ≤ 16 := by omega
  have : ∀ m : Nat, m ≤ 16 → 1 ≤ (2 : Int) ^ (m : Int).toNat ∧ (2 : Int) ^ (m : Int).toNat ≤ 65536 := by decide
  exact this m hm
theorem wrap64_id {x : Int} (h : -9223372036854775808 ≤ x ∧ x ≤ 9223372036854775807) : wrap64 x = x := by unfold wrap64; omega
theorem all_bits (n : Int) (h : 0 ≤ n ∧ n ≤ 16) : wrap64 (shl .i64 1 n - 1) = 2 ^ n.toNat - 1 := by
  rw [shl_one n h]
  have := pow_le16 n h
  exact wrap64_id (by omega)
theorem within_eq (n lo hi : Int) : impl_within.f n lo hi = some (inB n lo hi) := by
  unfold impl_within.f inB
  split <;> simp_all <;> omega
theorem l1In_eq (n lo hi : Int) : spec_l1In.f n lo hi = some (inB n lo hi) := by
  unfold spec_l1In.f inB
  split <;> simp_all <;> omega
theorem voAll_eq (n : Int) (h : 0 ≤ n ∧ n ≤ 16) : spec_voAll.f n = some (2 ^ n.toNat - 1) := by
  unfold spec_voAll.f
  rw [if_pos h.1, all_bits n h]
theorem isHidden_eq (n : Int) : impl_isHidden.f n = some (inB n 1 4) := by unfold impl_isHidden.f; rw [within_eq]; rfl
theorem inB_iff {n lo hi : Int} : inB n lo hi = true ↔ lo ≤ n ∧ n ≤ hi := by unfold inB; simp
def clueOk (n k a b : Int) : Bool :=
  if k = 0 then inB a 0 (2 ^ n.toNat - 1) && inB b 0 1 else if k = 1 then inB a 1 15 && (b == 0) else if k = 2 then inB a 0 (n - 1) && inB b 0 1
  else if k = 3 then inB a 0 (n - 1) && inB b 0 8 else if k = 4 then inB a 0 1 && (b == 0) else if k = 5 then inB a 0 1 && (b == 0) else false
theorem pzClue_eq (n k a b : Int) (h : 1 ≤ n ∧ n ≤ 4) : spec_pzClue.f n k a b = some (clueOk n k a b) := by
  unfold spec_pzClue.f clueOk
  simp only [l1In_eq, voAll_eq n (by omega), Option.bind_some, wrap64_id (show -9223372036854775808 ≤ n - 1 ∧ n - 1 ≤ 9223372036854775807 by omega)]
  repeat' split
  all_goals simp_all
theorem IsClue_eq (n k a b : Int) : impl_IsClue.f n k a b = some (inB n 1 4 && clueOk n k a b) := by
  unfold impl_IsClue.f
  rw [isHidden_eq, Option.bind_some]
  refine bind_ite_false fun h => ?_
  have hn := inB_iff.1 h
  unfold clueOk
  simp only [within_eq, if_pos (show 0 ≤ n by omega), Option.bind_some, all_bits n (by omega), wrap64_id (show -9223372036854775808 ≤ n - 1 ∧ n - 1 ≤ 9223372036854775807 by omega)]
  repeat' split
  all_goals simp_all
end Go.Proofs.Ytkgpcomljgbilaa.Q
end
section
namespace Go.Proofs.Ytkgpcomljgbilaa.Q
open Go.RowKit Go.Proofs.YtkgpcomljgbilaaW.PrintWords Go.Proofs.YtkgpcomljgbilaaW.PrintLast Go.Proofs.YtkgpcomljgbilaaW.PrintMore
set_option linter.unusedVariables false
set_option linter.unusedSimpArgs false
theorem ev_pos {α : Type} {c : Prop} [Decidable c] {f g : Nat → Option α} {r : α} (h : c) (k : Ev f r) : Ev (fun n => if c then f n else g n) r := by
  simp only [if_pos h]; exact k
theorem ev_neg {α : Type} {c : Prop} [Decidable c] {f g : Nat → Option α} {r : α} (h : ¬ c) (k : Ev g r) : Ev (fun n => if c then f n else g n) r := by
  simp only [if_neg h]; exact k
theorem ev_bindS {α β : Type} {x : Option α} {f : Nat → α → Option β} {a : α} {r : β} (h : x = some a) (k : Ev (fun n => f n a) r) : Ev (fun n => x.bind (f n)) r := by
  subst h; exact k
theorem ev_succ {α : Type} {g : Nat → Option α} {r : α} (k : Ev (fun n => g (n + 1)) r) : Ev g r := Ev.step (fun _ => rfl) k
theorem ev_eqv {α : Type} {f : Nat → Option α} {r q : α} (h : Ev f r) (e : r = q) : Ev f q := e ▸ h
theorem ev_bool {α : Type} {c : Bool} {f g : Nat → Option α} {r : α} (h1 : c = true → Ev f r) (h2 : c = false → Ev g r) : Ev (fun n => if c = true then f n else g n) r := by
  cases c
  · simpa using h2 rfl
  · simpa using h1 rfl
theorem rd_get {xs : List Int} {i : Nat} (h : i < xs.length) : rd xs (i : Int) = xs[i] := by
  unfold rd
  simp [List.getD_eq_getElem?_getD, List.getElem?_eq_getElem h]
theorem wrap_succ {i : Nat} {n : Nat} (h : i < n) (hn : n ≤ 1152921504606846976) : wrap64 ((i : Int) + 1) = ((i + 1 : Nat) : Int) := by
  unfold wrap64; omega
theorem wrap_pred {i : Nat} {n : Nat} (h : i < n) (hn : n ≤ 1152921504606846976) : wrap64 (((i + 1 : Nat) : Int) - 1) = (i : Int) := by
  unfold wrap64; omega
theorem eqIntS_ev (a b : List Int) (ha : a.length ≤ 1152921504606846976) : Ev (fun k => laws_eqIntS.f k a b) (decide (a = b)) := by
  unfold laws_eqIntS.f
  by_cases hl : a.length = b.length
  · refine ev_pos (by omega) ?_
    have key : ∀ d i : Nat, i + d = a.length → Ev (fun k => laws_eqIntS.l0 k a b (i : Int)) (decide (a.drop i = b.drop i)) := by
      intro d
      induction d with
      | zero =>
        intro i hi
        refine ev_succ ?_
        simp only [laws_eqIntS.l0]
        refine ev_neg (by omega) ?_
        rw [List.drop_of_length_le (by omega), List.drop_of_length_le (by omega)]
        exact Ev.now _
      | succ d ih =>
        intro i hi
        have h1 : i < a.length := by omega
        have h2 : i < b.length := by omega
        refine ev_succ ?_
        simp only [laws_eqIntS.l0]
        refine ev_pos (by omega) (ev_pos (by omega) (ev_pos (by omega) ?_))
        rw [List.drop_eq_getElem_cons h1, List.drop_eq_getElem_cons h2, rd_get h1, rd_get h2, wrap_succ h1 ha]
        by_cases e : a[i] = b[i]
        · refine ev_pos e (ev_eqv (ih (i + 1) (by omega)) ?_)
          exact decide_eq_decide.2 ⟨fun h => by rw [e, h], fun h => (List.cons.inj h).2⟩
        · refine ev_neg e (ev_eqv (Ev.now false) ?_)
          exact (decide_eq_false (fun h => e (List.cons.inj h).1)).symm
    exact key a.length 0 (by omega)
  · refine ev_neg (by omega) (ev_eqv (Ev.now false) ?_)
    have : a ≠ b := fun e => hl (by rw [e])
    simp [this]
end Go.Proofs.Ytkgpcomljgbilaa.Q
end
section
namespace Go.Proofs.Ytkgpcomljgbilaa.Q
open Go.RowKit Go.Proofs.YtkgpcomljgbilaaW.PrintWords Go.Proofs.YtkgpcomljgbilaaW.PrintLast Go.Proofs.YtkgpcomljgbilaaW.PrintMore
set_option linter.unusedVariables false
set_option linter.unusedSimpArgs false
theorem wraps_i64 (n : Int) (h0 : 0 ≤ n) (h1 : n < 2 ^ 62) : IntKind.i64.wrap n = n := by rw [IntKind.wrap_i64]; omega
theorem and_nat (a b : Nat) (ha : a < 2 ^ 62) (hb : b < 2 ^ 62) : Go.bits .and .i64 (a : Int) (b : Int) = ((a &&& b : Nat) : Int) := (Go.bits_nat .i64 62 (by decide) wraps_i64 a b ha hb).1
theorem or_nat (a b : Nat) (ha : a < 2 ^ 62) (hb : b < 2 ^ 62) : Go.bits .or .i64 (a : Int) (b : Int) = ((a ||| b : Nat) : Int) := (Go.bits_nat .i64 62 (by decide) wraps_i64 a b ha hb).2
theorem shr_nat (a n : Nat) (hn : n ≤ 64) : shr .i64 (a : Int) (n : Int) = ((a >>> n : Nat) : Int) := by
  unfold shr
  rw [Int.toNat_natCast, show min n IntKind.i64.bits = n from Nat.min_eq_left hn, Nat.shiftRight_eq_div_pow]
  simp
theorem shl_one_nat (n : Nat) (hn : n ≤ 16) : shl .i64 1 (n : Int) = ((2 ^ n : Nat) : Int) := by
  rw [shl_one (n : Int) ⟨by omega, by omega⟩, Int.toNat_natCast]; simp
theorem and_one_nat (a : Nat) (ha : a < 2 ^ 62) : Go.bits .and .i64 (a : Int) 1 = ((a % 2 : Nat) : Int) := by
  have := and_nat a 1 ha (by decide)
  rw [Nat.and_one_is_mod] at this
  exact this
theorem tmod_two (a : Nat) : Int.tmod (a : Int) 2 = ((a % 2 : Nat) : Int) := by
  rw [Int.tmod_eq_emod_of_nonneg (by omega)]; omega
theorem shr_lt (a i : Nat) (ha : a < 2 ^ 62) : a >>> i < 2 ^ 62 := by
  rw [Nat.shiftRight_eq_div_pow]
  exact Nat.lt_of_le_of_lt (Nat.div_le_self _ _) ha
end Go.Proofs.Ytkgpcomljgbilaa.Q
end
section
namespace Go.Proofs.Ytkgpcomljgbilaa.Q
open Go.RowKit Go.Proofs.YtkgpcomljgbilaaW.PrintWords Go.Proofs.YtkgpcomljgbilaaW.PrintLast Go.Proofs.YtkgpcomljgbilaaW.PrintMore
set_option linter.unusedVariables false
set_option linter.unusedSimpArgs false
theorem toIntS_ev (l : List Int) (hl : l.length ≤ 1152921504606) : Ev (fun k => laws_toIntS.f k l) l := by
  unfold laws_toIntS.f
  refine ev_pos (by omega) (ev_pos (by omega) ?_)
  rw [Int.toNat_natCast]
  have key : ∀ (d i : Nat), i + d = l.length → Ev (fun k => laws_toIntS.l0 k l (l.take i ++ List.replicate (l.length - i) 0) (i : Int)) l := by
    intro d
    induction d with
    | zero =>
      intro i hi
      refine ev_succ ?_
      simp only [laws_toIntS.l0]
      refine ev_neg (by omega) (ev_eqv (Ev.now _) ?_)
      rw [show i = l.length by omega]; simp
    | succ d ih =>
      intro i hi
      have h1 : i < l.length := by omega
      refine ev_succ ?_
      simp only [laws_toIntS.l0]
      refine ev_pos (by omega) (ev_pos (by omega) (ev_pos (by rw [List.length_append, List.length_take, List.length_replicate]; omega) ?_))
      rw [wrap_succ h1 (by omega), Int.toNat_natCast, rd_get h1]
      have e : (l.take i ++ List.replicate (l.length - i) 0).set i l[i] = l.take (i + 1) ++ List.replicate (l.length - (i + 1)) 0 := by
        rw [List.set_append_right _ _ (by rw [List.length_take]; omega), List.length_take, Nat.min_eq_left (by omega), Nat.sub_self, show l.length - i = (l.length - (i + 1)) + 1 by omega, List.replicate_succ, List.set_cons_zero, List.take_succ_eq_append_getElem h1, List.append_assoc]
        rfl
      rw [e]
      exact ih (i + 1) (by omega)
  exact key l.length 0 (by omega)
def maskN (m : Nat) : List Int → Nat
  | [] => m
  | x :: l => maskN (m ||| 2 ^ x.toNat) l
theorem maskOf_ev (l : List Int) (hl : l.length ≤ 1152921504606) (h : ∀ x ∈ l, 0 ≤ x ∧ x ≤ 15) : Ev (fun k => impl_maskOf.f k l) (maskN 0 l : Int) ∧ Ev (fun k => spec_voBits.f k l) (maskN 0 l : Int) := by
  unfold impl_maskOf.f spec_voBits.f
  have key : ∀ (d i m : Nat), i + d = l.length → m < 65536 → Ev (fun k => impl_maskOf.l0 k (m : Int) l (l.length : Int) (i : Int)) (maskN m (l.drop i) : Int) ∧ Ev (fun k => spec_voBits.l0 k (m : Int) l (l.length : Int) (i : Int)) (maskN m (l.drop i) : Int) := by
    intro d
    induction d with
    | zero =>
      intro i m hi hm
      refine ⟨ev_succ ?_, ev_succ ?_⟩
      all_goals
        simp only [impl_maskOf.l0, spec_voBits.l0]
        refine ev_neg (by omega) (ev_eqv (Ev.now _) ?_)
        rw [List.drop_of_length_le (by omega)]; rfl
    | succ d ih =>
      intro i m hi hm
      have h1 : i < l.length := by omega
      have hx := h l[i] (List.getElem_mem h1)
      obtain ⟨q, hq⟩ := Int.eq_ofNat_of_zero_le hx.1
      have hq16 : q ≤ 15 := by omega
      have hp : 2 ^ q < 65536 := Nat.pow_lt_pow_right (n := 16) (by decide) (by omega)
      have ih' := ih (i + 1) (m ||| 2 ^ q) (by omega) (Nat.or_lt_two_pow (n := 16) hm hp)
      rw [List.drop_eq_getElem_cons h1, maskN, hq, Int.toNat_natCast]
      refine ⟨ev_succ ?_, ev_succ ?_⟩
      all_goals
        simp only [impl_maskOf.l0, spec_voBits.l0]
        refine ev_pos (by omega) (ev_pos (by omega) (ev_pos (by omega) (ev_pos (by rw [rd_get h1]; omega) ?_)))
        rw [rd_get h1, hq, shl_one_nat q (by omega), or_nat m (2 ^ q) (by omega) (by omega), wrap_succ h1 (by omega)]
      · exact ih'.1
      · exact ih'.2
  exact key l.length 0 0 (by omega) (by decide)
def incFrom : Option Int → List Int → Bool
  | _, [] => true
  | p, x :: l => (match p with | none => true | some y => decide (y < x)) && incFrom (some x) l
def incB (l : List Int) : Bool := incFrom none l
def isSetB (l : List Int) (n : Int) : Bool := l.all (inB · 0 (n - 1)) && incB l
def prev (l : List Int) : Nat → Option Int
  | 0 => none
  | i + 1 => l[i]?
theorem isIncreasing_ev (l : List Int) (hl : l.length ≤ 1152921504606) : Ev (fun k => impl_isIncreasing.f k l) (incB l) := by
  unfold impl_isIncreasing.f
  have key : ∀ (d i : Nat), i + d = l.length → Ev (fun k => impl_isIncreasing.l0 k l (l.length : Int) (i : Int)) (incFrom (prev l i) (l.drop i)) := by
    intro d
    induction d with
    | zero =>
      intro i hi
      refine ev_succ ?_
      simp only [impl_isIncreasing.l0]
      refine ev_neg (by omega) (ev_eqv (Ev.now _) ?_)
      rw [List.drop_of_length_le (by omega)]; rfl
    | succ d ih =>
      intro i hi
      have h1 : i < l.length := by omega
      have ih' := ih (i + 1) (by omega)
      have hp : prev l (i + 1) = some l[i] := by rw [prev, List.getElem?_eq_getElem h1]
      rw [hp] at ih'
      refine ev_succ ?_
      simp only [impl_isIncreasing.l0]
      refine ev_pos (by omega) ?_
      rw [wrap_succ h1 (by omega), List.drop_eq_getElem_cons h1]
      cases i with
      | zero => exact ev_neg (by omega) (ev_eqv ih' (by simp [incFrom, prev]))
      | succ i =>
        have h2 : i < l.length := by omega
        rw [wrap_pred h2 (by omega), rd_get h1, rd_get h2]
        refine ev_pos (by omega) (ev_pos (by omega) (ev_pos (by omega) (ev_pos (by omega) (ev_pos (by omega) ?_))))
        have e : prev l (i + 1) = some l[i] := by rw [prev, List.getElem?_eq_getElem h2]
        rw [e, incFrom]
        by_cases c : l[i + 1] ≤ l[i]
        · exact ev_pos c (ev_eqv (Ev.now _) (by rw [decide_eq_false (by omega)]; rfl))
        · exact ev_neg c (ev_eqv ih' (by rw [decide_eq_true (by omega)]; rfl))
  exact key l.length 0 (by omega)
theorem l1Rising_ev (l : List Int) (lo hi : Int) (hl : l.length ≤ 1152921504606) : Ev (fun k => spec_l1Rising.f k l lo hi) (l.all (inB · lo hi) && incB l) := by
  unfold spec_l1Rising.f
  have key : ∀ (d i : Nat), i + d = l.length → Ev (fun k => spec_l1Rising.l0 k l lo hi l (l.length : Int) (i : Int)) ((l.drop i).all (inB · lo hi) && incFrom (prev l i) (l.drop i)) := by
    intro d
    induction d with
    | zero =>
      intro i hi
      refine ev_succ ?_
      simp only [spec_l1Rising.l0]
      refine ev_neg (by omega) (ev_eqv (Ev.now _) ?_)
      rw [List.drop_of_length_le (by omega)]; rfl
    | succ d ih =>
      intro i hi
      have h1 : i < l.length := by omega
      have ih' := ih (i + 1) (by omega)
      have hp : prev l (i + 1) = some l[i] := by rw [prev, List.getElem?_eq_getElem h1]
      rw [hp] at ih'
      refine ev_succ ?_
      simp only [spec_l1Rising.l0, l1In_eq, Option.bind_some]
      refine ev_pos (by omega) (ev_pos (by omega) (ev_pos (by omega) ?_))
      rw [wrap_succ h1 (by omega), List.drop_eq_getElem_cons h1, rd_get h1, List.all_cons]
      refine ev_bool (fun hb => ?_) (fun hb => ev_eqv (Ev.now _) (by rw [hb]; rfl))
      rw [hb]
      cases i with
      | zero => exact ev_neg (by omega) (ev_eqv ih' (by simp [incFrom, prev]))
      | succ i =>
        have h2 : i < l.length := by omega
        rw [wrap_pred h2 (by omega), rd_get h2]
        refine ev_pos (by omega) (ev_pos (by omega) (ev_pos (by omega) ?_))
        have e : prev l (i + 1) = some l[i] := by rw [prev, List.getElem?_eq_getElem h2]
        rw [e, incFrom]
        by_cases c : l[i] ≥ l[i + 1]
        · exact ev_pos c (ev_eqv (Ev.now _) (by rw [decide_eq_false (by omega)]; simp))
        · exact ev_neg c (ev_eqv ih' (by rw [decide_eq_true (by omega)]; rfl))
  exact key l.length 0 (by omega)
theorem any_not_all {α : Type} (l : List α) (p : α → Bool) : (!l.any fun x => !p x) = l.all p := by
  induction l with
  | nil => rfl
  | cons x l ih => rw [List.any_cons, List.all_cons, ← ih]; cases p x <;> simp
theorem areIn_eq (l : List Int) (lo hi : Int) : impl_areIn.f l lo hi = some (l.all (inB · lo hi)) := by
  unfold impl_areIn.f
  rw [anyO_some (q := fun x => !inB x lo hi) (fun x _ => by unfold impl_areIn_1.f; rw [within_eq]; rfl)]
  rw [Option.bind_some, any_not_all]
theorem isSet_ev (l : List Int) (n : Int) (hn : -1000000 ≤ n ∧ n ≤ 1000000) (hl : l.length ≤ 1152921504606) : Ev (fun k => impl_isSet.f k l n) (isSetB l n) := by
  unfold impl_isSet.f isSetB
  rw [wrap64_id (by omega)]
  simp only [areIn_eq, Option.bind_some]
  refine ev_bool (fun hb => ?_) (fun hb => ev_eqv (Ev.now _) (by rw [hb]; rfl))
  rw [hb]
  exact Ev.bind (isIncreasing_ev l hl) (Ev.now _)
theorem voSet_ev (l : List Int) (n : Int) (hn : -1000000 ≤ n ∧ n ≤ 1000000) (hl : l.length ≤ 1152921504606) : Ev (fun k => spec_voSet.f k n l) (isSetB l n) := by
  unfold spec_voSet.f isSetB
  rw [wrap64_id (by omega)]
  exact Ev.bind (l1Rising_ev l 0 (n - 1) hl) (Ev.now _)
theorem isSetB_mem {l : List Int} {n : Int} (h : isSetB l n = true) : ∀ x ∈ l, 0 ≤ x ∧ x ≤ n - 1 := by
  intro x hx
  unfold isSetB at h
  rw [Bool.and_eq_true, List.all_eq_true] at h
  exact inB_iff.1 (h.1 x hx)
end Go.Proofs.Ytkgpcomljgbilaa.Q
end
section
namespace Go.Proofs.Ytkgpcomljgbilaa.Q
open Go.RowKit Go.Proofs.YtkgpcomljgbilaaW.PrintWords Go.Proofs.YtkgpcomljgbilaaW.PrintLast Go.Proofs.YtkgpcomljgbilaaW.PrintMore
set_option linter.unusedVariables false
set_option linter.unusedSimpArgs false
theorem ev_range {R : Type} (n : Nat) (L : Nat → Nat → Option R) (v : Nat → R) (hend : Ev (fun k => L k n) (v n)) (hstep : ∀ i, i < n → Ev (fun k => L k (i + 1)) (v (i + 1)) → Ev (fun k => L k i) (v i)) :
    ∀ i, i ≤ n → Ev (fun k => L k i) (v i) := by
  have key : ∀ d i, i + d = n → Ev (fun k => L k i) (v i) := by
    intro d
    induction d with
    | zero => intro i hi; rw [show i = n by omega]; exact hend
    | succ d ih => intro i hi; exact hstep i (by omega) (ih (i + 1) (by omega))
  exact fun i hi => key (n - i) i (by omega)
theorem ev_rangeS {R σ : Type} (n : Nat) (L : Nat → Nat → σ → Option R) (v : Nat → σ → R) (I : Nat → σ → Prop) (hend : ∀ s, I n s → Ev (fun k => L k n s) (v n s))
    (hstep : ∀ i s, i < n → I i s → (∀ s', I (i + 1) s' → Ev (fun k => L k (i + 1) s') (v (i + 1) s')) → Ev (fun k => L k i s) (v i s)) :
    ∀ i s, i ≤ n → I i s → Ev (fun k => L k i s) (v i s) := by
  have key : ∀ d i s, i + d = n → I i s → Ev (fun k => L k i s) (v i s) := by
    intro d
    induction d with
    | zero =>
      intro i s hi h
      have e : i = n := by omega
      subst e
      exact hend s h
    | succ d ih => intro i s hi h; exact hstep i s (by omega) h (fun s' h' => ih (i + 1) s' (by omega) h')
  exact fun i s hi h => key (n - i) i s (by omega) h
theorem set_copy {α β : Type} (g : α → β) (z : β) (l : List α) (i : Nat) (h : i < l.length) :
    ((l.take i).map g ++ List.replicate (l.length - i) z).set i (g l[i]) = (l.take (i + 1)).map g ++ List.replicate (l.length - (i + 1)) z := by
  rw [List.set_append_right _ _ (by rw [List.length_map, List.length_take]; omega), List.length_map, List.length_take, Nat.min_eq_left (by omega), Nat.sub_self, show l.length - i = (l.length - (i + 1)) + 1 by omega, List.replicate_succ, List.set_cons_zero, List.take_succ_eq_append_getElem h, List.map_append, List.append_assoc]
  rfl
theorem copy_len {α β : Type} (g : α → β) (z : β) (l : List α) (i : Nat) (h : i ≤ l.length) : ((l.take i).map g ++ List.replicate (l.length - i) z).length = l.length := by
  rw [List.length_append, List.length_map, List.length_take, List.length_replicate]; omega
theorem getD_get {α : Type} {xs : List α} {z : α} {i : Nat} (h : i < xs.length) : xs.getD i z = xs[i] := by
  simp [List.getD_eq_getElem?_getD, List.getElem?_eq_getElem h]
theorem all_drop {α : Type} (p : α → Bool) (l : List α) (i : Nat) (h : i < l.length) : (l.drop i).all p = (p l[i] && (l.drop (i + 1)).all p) := by
  rw [List.drop_eq_getElem_cons h, List.all_cons]
theorem drop_end {α : Type} (l : List α) : l.drop l.length = [] := by simp
theorem eq_drop {α : Type} [DecidableEq α] (a b : List α) (i : Nat) (h1 : i < a.length) (h2 : i < b.length) : decide (a.drop i = b.drop i) = (decide (a[i] = b[i]) && decide (a.drop (i + 1) = b.drop (i + 1))) := by
  rw [List.drop_eq_getElem_cons h1, List.drop_eq_getElem_cons h2]
  by_cases e : a[i] = b[i]
  · by_cases e2 : a.drop (i + 1) = b.drop (i + 1)
    · rw [decide_eq_true e, decide_eq_true e2, decide_eq_true (by rw [e, e2])]; rfl
    · rw [decide_eq_false e2, decide_eq_false (fun h => e2 (List.cons.inj h).2)]; simp
  · rw [decide_eq_false e, decide_eq_false (fun h => e (List.cons.inj h).1)]; rfl
def tab {α : Type} (g : Nat → α) (n : Nat) : List α := (List.range n).map g
theorem tab_len {α : Type} (g : Nat → α) (n : Nat) : (tab g n).length = n := by simp [tab]
theorem tab_get {α : Type} (g : Nat → α) (n i : Nat) (h : i < (tab g n).length) : (tab g n)[i] = g i := by simp [tab]
theorem tab_succ {α : Type} (g : Nat → α) (n : Nat) : tab g (n + 1) = tab g n ++ [g n] := by simp [tab, List.range_succ]
end Go.Proofs.Ytkgpcomljgbilaa.Q
end
section
namespace Go.Proofs.Ytkgpcomljgbilaa.Q
open Go.RowKit Go.Proofs.YtkgpcomljgbilaaW.PrintWords Go.Proofs.YtkgpcomljgbilaaW.PrintLast Go.Proofs.YtkgpcomljgbilaaW.PrintMore
set_option linter.unusedVariables false
set_option linter.unusedSimpArgs false
def lexB : List Int → List Int → Bool
  | [], [] => false
  | [], _ :: _ => true
  | _ :: _, [] => false
  | x :: xs, y :: ys => if x = y then lexB xs ys else decide (x < y)
def cmpL : List Int → List Int → Int
  | [], [] => 0
  | [], _ :: _ => -1
  | _ :: _, [] => 1
  | x :: xs, y :: ys => if x = y then cmpL xs ys else if x < y then -1 else 1
theorem cmpL_ge : ∀ a b, decide (cmpL a b ≥ 0) = !lexB a b
  | [], [] => rfl
  | [], _ :: _ => rfl
  | _ :: _, [] => rfl
  | x :: xs, y :: ys => by
    unfold cmpL lexB
    by_cases h : x = y
    · rw [if_pos h, if_pos h]; exact cmpL_ge xs ys
    · rw [if_neg h, if_neg h]
      by_cases h2 : x < y
      · rw [if_pos h2, decide_eq_true h2]; rfl
      · rw [if_neg h2, decide_eq_false h2]; rfl
theorem lexB_drop_nil (a b : List Int) : lexB [] (b.drop a.length) = decide ((a.length : Int) < (b.length : Int)) := by
  by_cases h : a.length < b.length
  · rw [List.drop_eq_getElem_cons h, decide_eq_true (by omega)]; rfl
  · rw [List.drop_of_length_le (by omega), decide_eq_false (by omega)]; rfl
theorem lexB_cons_nil (a b : List Int) (i : Nat) (h : i < a.length) (h2 : ¬ i < b.length) : lexB (a.drop i) (b.drop i) = decide ((a.length : Int) < (b.length : Int)) := by
  have hb : b.drop i = [] := List.drop_of_length_le (by omega)
  rw [List.drop_eq_getElem_cons h, hb, decide_eq_false (by omega)]; rfl
theorem voBefore_ev (a b : List Int) (ha : a.length ≤ 1152921504606846976) : Ev (fun k => spec_voBefore.f k a b) (lexB a b) := by
  unfold spec_voBefore.f
  have := ev_range a.length (fun k i => spec_voBefore.l0 k a b (i : Int)) (fun i => lexB (a.drop i) (b.drop i)) ?_ ?_ 0 (Nat.zero_le _)
  · simpa using this
  · refine ev_succ ?_
    simp only [spec_voBefore.l0]
    refine ev_neg (by omega) (ev_succ ?_)
    simp only [spec_voBefore.j1]
    refine ev_neg (by simp) (ev_eqv (Ev.now _) ?_)
    rw [drop_end, lexB_drop_nil]
  · intro i hi ih
    refine ev_succ ?_
    simp only [spec_voBefore.l0]
    refine ev_pos (by omega) (ev_succ ?_)
    simp only [spec_voBefore.j1]
    by_cases h2 : i < b.length
    · refine ev_pos (by simp; omega) (ev_pos (by omega) (ev_pos (by omega) (ev_pos (by omega) ?_)))
      rw [rd_get hi, rd_get h2, wrap_succ hi ha]
      show Ev _ (lexB (a.drop i) (b.drop i))
      rw [List.drop_eq_getElem_cons hi, List.drop_eq_getElem_cons h2]
      unfold lexB
      by_cases e : a[i] = b[i]
      · rw [if_pos e]; exact ev_pos e ih
      · rw [if_neg e]; exact ev_neg e (Ev.now _)
    · refine ev_neg (by simp; omega) (ev_eqv (Ev.now _) ?_)
      rw [lexB_cons_nil a b i hi h2]
theorem cmpInt_eq (a b : Int) : cmp_Compare_int.f a b = some (if a < b then -1 else if a > b then 1 else 0) := by
  unfold cmp_Compare_int.f cmp_isNaN_int.f
  simp
  repeat' split
  all_goals rfl
theorem Compare_ev (a b : List Int) (ha : a.length ≤ 1152921504606846976) : Ev (fun k => slices_Compare_int_int.f k a b) (cmpL a b) := by
  unfold slices_Compare_int_int.f
  have := ev_range a.length (fun k i => slices_Compare_int_int.l0 k a b a (a.length : Int) (i : Int)) (fun i => cmpL (a.drop i) (b.drop i)) ?_ ?_ 0 (Nat.zero_le _)
  · simpa using this
  · refine ev_succ ?_
    simp only [slices_Compare_int_int.l0]
    refine ev_neg (by omega) ?_
    rw [drop_end]
    by_cases h : a.length < b.length
    · rw [List.drop_eq_getElem_cons h]; exact ev_pos (by omega) (Ev.now _)
    · rw [List.drop_of_length_le (by omega)]; exact ev_neg (by omega) (Ev.now _)
  · intro i hi ih
    refine ev_succ ?_
    simp only [slices_Compare_int_int.l0]
    refine ev_pos (by omega) (ev_pos (by omega) (ev_pos (by omega) ?_))
    by_cases h2 : i < b.length
    · refine ev_neg (by omega) (ev_pos (by omega) ?_)
      simp only [rd_get hi, rd_get h2, wrap_succ hi ha, cmpInt_eq, Option.bind_some]
      show Ev _ (cmpL (a.drop i) (b.drop i))
      rw [List.drop_eq_getElem_cons hi, List.drop_eq_getElem_cons h2]
      unfold cmpL
      by_cases e : a[i] = b[i]
      · rw [if_pos e, if_neg (by omega), if_neg (by omega)]; exact ev_pos rfl ih
      · rw [if_neg e]
        by_cases e2 : a[i] < b[i]
        · rw [if_pos e2, if_pos e2]; exact ev_neg (by decide) (Ev.now _)
        · rw [if_neg e2, if_neg e2, if_pos (by omega)]; exact ev_neg (by decide) (Ev.now _)
    · refine ev_pos (by omega) (ev_eqv (Ev.now _) ?_)
      show 1 = cmpL (a.drop i) (b.drop i)
      have hb : b.drop i = [] := List.drop_of_length_le (by omega)
      rw [List.drop_eq_getElem_cons hi, hb]; rfl
theorem rdL1_get {xs : List (List Int)} {i : Nat} (h : i < xs.length) : rd_L1 xs (i : Int) = xs[i] := by unfold rd_L1; rw [Int.toNat_natCast]; exact getD_get h
end Go.Proofs.Ytkgpcomljgbilaa.Q
end
section
namespace Go.Proofs.Ytkgpcomljgbilaa.Q
open Go.RowKit Go.Proofs.YtkgpcomljgbilaaW.PrintWords Go.Proofs.YtkgpcomljgbilaaW.PrintLast Go.Proofs.YtkgpcomljgbilaaW.PrintMore
set_option linter.unusedVariables false
set_option linter.unusedSimpArgs false
def chains9 : List (List Nat) := [[0, 1, 3, 7, 15, 31, 63, 127, 255, 511], [2, 6, 14, 30, 62, 126, 254, 510], [4, 5, 13, 29, 61, 125, 253, 509], [8, 9, 11, 27, 59, 123, 251, 507], [16, 17, 19, 23, 55, 119, 247, 503], [32, 33, 35, 39, 47, 111, 239, 495], [64, 65, 67, 71, 79, 95, 223, 479], [128, 129, 131, 135, 143, 159, 191, 447], [256, 257, 259, 263, 271, 287, 319, 383], [10, 26, 58, 122, 250, 506], [12, 28, 60, 124, 252, 508], [18, 22, 54, 118, 246, 502], [20, 21, 53, 117, 245, 501], [24, 25, 57, 121, 249, 505], [34, 38, 46, 110, 238, 494], [36, 37, 45, 109, 237, 493], [40, 41, 43, 107, 235, 491], [48, 49, 51, 115, 243, 499], [66, 70, 78, 94, 222, 478], [68, 69, 77, 93, 221, 477], [72, 73, 75, 91, 219, 475], [80, 81, 83, 87, 215, 471], [96, 97, 99, 103, 231, 487], [130, 134, 142, 158, 190, 446], [132, 133, 141, 157, 189, 445], [136, 137, 139, 155, 187, 443], [144, 145, 147, 151, 183, 439], [160, 161, 163, 167, 175, 431], [192, 193, 195, 199, 207, 463], [258, 262, 270, 286, 318, 382], [260, 261, 269, 285, 317, 381], [264, 265, 267, 283, 315, 379], [272, 273, 275, 279, 311, 375], [288, 289, 291, 295, 303, 367], [320, 321, 323, 327, 335, 351], [384, 385, 387, 391, 399, 415], [42, 106, 234, 490], [44, 108, 236, 492], [50, 114, 242, 498], [52, 116, 244, 500], [56, 120, 248, 504], [74, 90, 218, 474], [76, 92, 220, 476], [82, 86, 214, 470], [84, 85, 213, 469], [88, 89, 217, 473], [98, 102, 230, 486], [100, 101, 229, 485], [104, 105, 233, 489], [112, 113, 241, 497], [138, 154, 186, 442], [140, 156, 188, 444], [146, 150, 182, 438], [148, 149, 181, 437], [152, 153, 185, 441], [162, 166, 174, 430], [164, 165, 173, 429], [168, 169, 171, 427], [176, 177, 179, 435], [194, 198, 206, 462], [196, 197, 205, 461], [200, 201, 203, 459], [208, 209, 211, 467], [224, 225, 227, 483], [266, 282, 314, 378], [268, 284, 316, 380], [274, 278, 310, 374], [276, 277, 309, 373], [280, 281, 313, 377], [290, 294, 302, 366], [292, 293, 301, 365], [296, 297, 299, 363], [304, 305, 307, 371], [322, 326, 334, 350], [324, 325, 333, 349], [328, 329, 331, 347], [336, 337, 339, 343], [352, 353, 355, 359], [386, 390, 398, 414], [388, 389, 397, 413], [392, 393, 395, 411], [400, 401, 403, 407], [416, 417, 419, 423], [448, 449, 451, 455], [170, 426], [172, 428], [178, 434], [180, 436], [184, 440], [202, 458], [204, 460], [210, 466], [212, 468], [216, 472], [226, 482], [228, 484], [232, 488], [240, 496], [298, 362], [300, 364], [306, 370], [308, 372], [312, 376], [330, 346], [332, 348], [338, 342], [340, 341], [344, 345], [354, 358], [356, 357], [360, 361], [368, 369], [394, 410], [396, 412], [402, 406], [404, 405], [408, 409], [418, 422], [420, 421], [424, 425], [432, 433], [450, 454], [452, 453], [456, 457], [464, 465], [480, 481]]
set_option maxRecDepth 100000 in
theorem chains9_len : chains9.length = 126 := by kernel_rfl
set_option maxRecDepth 100000 in
theorem chains9_all : ((List.range 512).all fun m => chains9.any fun c => c.contains m) = true := by kernel_rfl
set_option maxRecDepth 100000 in
theorem chains9_each : (chains9.all fun c => c.all fun a => c.all fun b => (a &&& b == a) || (a &&& b == b)) = true := by kernel_rfl
theorem pigeon : ∀ (n : Nat) (l : List Nat), l.Nodup → (∀ x ∈ l, x < n) → l.length ≤ n
  | 0, [], _, _ => Nat.le_refl _
  | 0, x :: l, _, h => absurd (h x (List.mem_cons_self ..)) (by omega)
  | n + 1, l, hd, h => by
    by_cases hm : n ∈ l
    · have := pigeon n (l.erase n) (hd.erase n) (fun x hx => by
        have h1 := h x (List.mem_of_mem_erase hx)
        have h2 : x ≠ n := fun e => (List.Nodup.not_mem_erase hd) (e ▸ hx)
        omega)
      rw [List.length_erase_of_mem hm] at this
      omega
    · exact Nat.le_trans (pigeon n l hd (fun x hx => by
        have h1 := h x hx
        have h2 : x ≠ n := fun e => hm (e ▸ hx)
        omega)) (Nat.le_succ n)
theorem antichain9 (l : List Nat) (h : ∀ x ∈ l, x < 512) (ha : l.Pairwise fun a b => a &&& b ≠ a ∧ a &&& b ≠ b) : l.length ≤ 126 := by
  have hf : ∀ m, m < 512 → ∃ c ∈ chains9, m ∈ c := fun m hm => by
    have := List.all_eq_true.1 chains9_all m (List.mem_range.2 hm)
    obtain ⟨c, hc, hmc⟩ := List.any_eq_true.1 this
    exact ⟨c, hc, by simpa using hmc⟩
  let f := fun m => chains9.findIdx fun c => c.contains m
  have hlt : ∀ m, m < 512 → f m < 126 := fun m hm => by
    obtain ⟨c, hc, hmc⟩ := hf m hm
    rw [← chains9_len]
    exact List.findIdx_lt_length_of_exists ⟨c, hc, by simpa using hmc⟩
  have heq : ∀ a b, a < 512 → b < 512 → f a = f b → a &&& b = a ∨ a &&& b = b := fun a b hA hB e => by
    have la : f a < chains9.length := by rw [chains9_len]; exact hlt a hA
    have lb : f b < chains9.length := by rw [chains9_len]; exact hlt b hB
    have h1 : (chains9[f a]).contains a = true := List.findIdx_getElem (w := la)
    have h2 : (chains9[f b]).contains b = true := List.findIdx_getElem (w := lb)
    have h3 : chains9[f b] = chains9[f a] := by simp only [e]
    rw [h3] at h2
    have := List.all_eq_true.1 (List.all_eq_true.1 (List.all_eq_true.1 chains9_each _ (List.getElem_mem la)) a (by simpa using h1)) b (by simpa using h2)
    simpa using this
  have hn : (l.map f).Nodup := by
    rw [List.Nodup, List.pairwise_map]
    refine ha.imp_of_mem fun {a b} hA hB hab e => ?_
    rcases heq a b (h a hA) (h b hB) e with h1 | h1
    · exact hab.1 h1
    · exact hab.2 h1
  have := pigeon 126 (l.map f) hn (fun x hx => by
    obtain ⟨m, hm, rfl⟩ := List.mem_map.1 hx
    exact hlt m (h m hm))
  rwa [List.length_map] at this
end Go.Proofs.Ytkgpcomljgbilaa.Q
end
section
namespace Go.Proofs.Ytkgpcomljgbilaa.Q
open Go.RowKit Go.Proofs.YtkgpcomljgbilaaW.PrintWords Go.Proofs.YtkgpcomljgbilaaW.PrintLast Go.Proofs.YtkgpcomljgbilaaW.PrintMore
set_option linter.unusedVariables false
set_option linter.unusedSimpArgs false
theorem ev_anyO {α : Type} (p : Nat → α → Option Bool) (q : α → Bool) : ∀ l : List α, (∀ x ∈ l, Ev (fun k => p k x) (q x)) → Ev (fun k => anyO (p k) l) (l.any q)
  | [], _ => Ev.now _
  | x :: xs, h => by
    simp only [anyO, List.any_cons]
    refine Ev.bind (h x (List.mem_cons_self ..)) (ev_bool (fun e => ?_) (fun e => ?_))
    · rw [e]; exact Ev.now _
    · rw [e]; exact ev_anyO p q xs (fun y hy => h y (List.mem_cons_of_mem _ hy))
theorem areSets_ev (l : List (List Int)) (n : Int) (hn : -1000000 ≤ n ∧ n ≤ 1000000) (hl : ∀ x ∈ l, x.length ≤ 1048576) : Ev (fun k => impl_areSets.f k l n) (l.all fun s => decide (s ≠ []) && isSetB s n) := by
  unfold impl_areSets.f
  refine ev_eqv (Ev.bind (ev_anyO (fun k => impl_areSets_1.f k n) (fun s => !(decide (s ≠ []) && isSetB s n)) l (fun x hx => ?_)) (Ev.now _)) (any_not_all _ _)
  unfold impl_areSets_1.f
  by_cases h : x = []
  · subst h; exact ev_pos (by simp) (Ev.now _)
  · have : x.length ≠ 0 := fun e => h (List.length_eq_zero_iff.1 e)
    refine ev_neg (by omega) (ev_eqv (Ev.bind (isSet_ev x n hn (Nat.le_trans (hl x hx) (by decide))) (Ev.now _)) ?_)
    rw [decide_eq_true h, Bool.true_and]
def allR (P : Nat → Bool) (n i : Nat) : Bool := ((List.range n).drop i).all P
theorem allR_end (P : Nat → Bool) (n : Nat) : allR P n n = true := by
  unfold allR
  rw [List.drop_of_length_le (by simp)]; rfl
theorem allR_step (P : Nat → Bool) (n i : Nat) (h : i < n) : allR P n i = (P i && allR P n (i + 1)) := by
  unfold allR
  rw [all_drop P (List.range n) i (by simpa using h), List.getElem_range]
theorem allR_iff (P : Nat → Bool) (n : Nat) : allR P n 0 = true ↔ ∀ i, i < n → P i = true := by
  unfold allR
  rw [List.drop_zero, List.all_eq_true]
  exact ⟨fun h i hi => h i (List.mem_range.2 hi), fun h i hi => h i (List.mem_range.1 hi)⟩
def mk (l : List (List Int)) (i : Nat) : Nat := maskN 0 (l.getD i [])
def rises (l : List (List Int)) (i : Nat) : Bool := decide (i = 0) || lexB (l.getD (i - 1) []) (l.getD i [])
def apartS (l : List (List Int)) (i : Nat) : Bool := allR (fun h => !(mk l i &&& mk l h == mk l i) && !(mk l i &&& mk l h == mk l h)) i 0
def apartI (l : List (List Int)) (i : Nat) : Bool := allR (fun h => decide (h = i) || !(mk l i &&& mk l h == mk l h)) l.length 0
theorem maskN_lt2 (n : Nat) (l : List Int) : ∀ m, m < 2 ^ n → (∀ x ∈ l, 0 ≤ x ∧ x ≤ (n : Int) - 1) → maskN m l < 2 ^ n := by
  induction l with
  | nil => intro m hm _; exact hm
  | cons x l ih =>
    intro m hm h
    refine ih _ ?_ (fun y hy => h y (List.mem_cons_of_mem _ hy))
    have hx := h x (List.mem_cons_self ..)
    exact Nat.or_lt_two_pow hm (Nat.pow_lt_pow_right (by decide) (by omega))
def SetsOk (m : Int) (l : List (List Int)) : Prop := (1 ≤ m ∧ m ≤ 9) ∧ ∀ x ∈ l, isSetB x m = true ∧ x.length ≤ 1048576
theorem SetsOk.elem {m : Int} {l : List (List Int)} (h : SetsOk m l) {x : List Int} (hx : x ∈ l) : ∀ y ∈ x, 0 ≤ y ∧ y ≤ (9 : Nat) - 1 := fun y hy => by
  have := isSetB_mem (h.2 x hx).1 y hy
  have := h.1
  omega
theorem SetsOk.lt {m : Int} {l : List (List Int)} (h : SetsOk m l) {i : Nat} (hi : i < l.length) : mk l i < 512 := by
  unfold mk
  rw [getD_get hi]
  exact maskN_lt2 9 _ 0 (by decide) (h.elem (List.getElem_mem hi))
theorem SetsOk.masks {m : Int} {l : List (List Int)} (h : SetsOk m l) {i : Nat} (hi : i < l.length) : Ev (fun k => impl_maskOf.f k l[i]) (mk l i : Int) ∧ Ev (fun k => spec_voBits.f k l[i]) (mk l i : Int) := by
  have hx := List.getElem_mem hi
  have := maskOf_ev l[i] (Nat.le_trans (h.2 _ hx).2 (by decide)) (fun y hy => by have := h.elem hx y hy; omega)
  unfold mk
  rw [getD_get hi]
  exact this
theorem and_eq_nat {a b c : Nat} (ha : a < 512) (hb : b < 512) : (Go.bits .and .i64 (a : Int) (b : Int) = (c : Int)) ↔ ((a &&& b == c) = true) := by
  rw [and_nat a b (by omega) (by omega), beq_iff_eq]
  omega
theorem wrap_pred2 {i : Nat} (h : i < 1152921504606846976) (h0 : 0 < i) : wrap64 ((i : Int) - 1) = ((i - 1 : Nat) : Int) := by unfold wrap64; omega
theorem IsGame_l0 (m : Int) (l : List (List Int)) (hl : l.length ≤ 1048576) (h : SetsOk m l) : Ev (fun k => impl_IsGame.l0 k l (l.length : Int) 0 m l) (allR (fun i => rises l i && apartI l i) l.length 0) := by
  refine ev_range l.length (fun k i => impl_IsGame.l0 k l (l.length : Int) (i : Int) m l) (fun i => allR (fun i => rises l i && apartI l i) l.length i) ?_ ?_ 0 (Nat.zero_le _)
  · refine ev_succ ?_
    simp only [impl_IsGame.l0]
    exact ev_neg (by omega) (ev_eqv (Ev.now _) (allR_end _ _).symm)
  · intro i hi ih
    rw [allR_step _ _ _ hi]
    have inner : rises l i = true → Ev (fun k => impl_IsGame.l1 k (i : Int) l[i] l (l.length : Int) (i : Int) l (l.length : Int) 0 m l) ((rises l i && apartI l i) && allR (fun i => rises l i && apartI l i) l.length (i + 1)) := by
      intro hr
      rw [hr, Bool.true_and]
      refine ev_range l.length (fun k h => impl_IsGame.l1 k (i : Int) l[i] l (l.length : Int) (i : Int) l (l.length : Int) (h : Int) m l) (fun h => allR (fun h => decide (h = i) || !(mk l i &&& mk l h == mk l h)) l.length h && allR (fun i => rises l i && apartI l i) l.length (i + 1)) ?_ ?_ 0 (Nat.zero_le _)
      · refine ev_succ ?_
        simp only [impl_IsGame.l1]
        refine ev_neg (by omega) ?_
        rw [allR_end, Bool.true_and, wrap_succ hi (by omega)]
        exact ih
      · intro j hj ihj
        refine ev_succ ?_
        simp only [impl_IsGame.l1]
        refine ev_pos (by omega) (ev_pos (by omega) (ev_pos (by omega) ?_))
        rw [rdL1_get hj, wrap_succ hj (by omega), allR_step _ _ _ hj]
        by_cases e : j = i
        · refine ev_pos (by omega) ?_
          rw [decide_eq_true e]
          exact ihj
        · refine ev_neg (by omega) (Ev.bind (h.masks hi).1 (Ev.bind (h.masks hj).1 ?_))
          rw [decide_eq_false e]
          by_cases c : (mk l i &&& mk l j == mk l j) = true
          · refine ev_pos ((and_eq_nat (h.lt hi) (h.lt hj)).2 c) ?_
            rw [c]; exact Ev.now _
          · refine ev_neg (fun x => c ((and_eq_nat (h.lt hi) (h.lt hj)).1 x)) ?_
            rw [Bool.not_eq_true] at c
            rw [c]; exact ihj
    refine ev_succ ?_
    simp only [impl_IsGame.l0]
    refine ev_pos (by omega) (ev_pos (by omega) (ev_pos (by omega) ?_))
    rw [rdL1_get hi]
    by_cases h0 : i = 0
    · subst h0
      refine ev_neg (by omega) (ev_succ ?_)
      simp only [impl_IsGame.j2]
      exact ev_neg (by simp) (inner (by simp [rises]))
    · have hp : i - 1 < l.length := by omega
      refine ev_pos (by omega) ?_
      rw [wrap_pred2 (by omega) (by omega)]
      refine ev_pos (by omega) (ev_pos (by omega) ?_)
      rw [rdL1_get hp]
      refine Ev.bind (Compare_ev _ _ (Nat.le_trans (h.2 _ (List.getElem_mem hp)).2 (by decide))) (ev_succ ?_)
      simp only [impl_IsGame.j2]
      have hr : rises l i = lexB l[i - 1] l[i] := by unfold rises; rw [decide_eq_false h0, Bool.false_or, getD_get hp, getD_get hi]
      rw [cmpL_ge, ← hr]
      cases hq : rises l i
      · exact ev_pos (by simp) (Ev.now _)
      · refine ev_neg (by simp) ?_
        have := inner hq
        rw [hq] at this
        exact this
theorem gmGood_l0 (m : Int) (l : List (List Int)) (hl : l.length ≤ 1048576) (h : SetsOk m l) : Ev (fun k => spec_gmGood.l0 k l (l.length : Int) 0 m l) (allR (fun i => rises l i && apartS l i) l.length 0) := by
  refine ev_range l.length (fun k i => spec_gmGood.l0 k l (l.length : Int) (i : Int) m l) (fun i => allR (fun i => rises l i && apartS l i) l.length i) ?_ ?_ 0 (Nat.zero_le _)
  · refine ev_succ ?_
    simp only [spec_gmGood.l0]
    exact ev_neg (by omega) (ev_eqv (Ev.now _) (allR_end _ _).symm)
  · intro i hi ih
    rw [allR_step _ _ _ hi]
    have inner : rises l i = true → Ev (fun k => spec_gmGood.l1 k (mk l i : Int) l (l.length : Int) (i : Int) (l.take i) ((l.take i).length : Int) 0 m l) ((rises l i && apartS l i) && allR (fun i => rises l i && apartS l i) l.length (i + 1)) := by
      intro hr
      rw [hr, Bool.true_and]
      have ht : (l.take i).length = i := by rw [List.length_take]; omega
      rw [ht]
      refine ev_range i (fun k h => spec_gmGood.l1 k (mk l i : Int) l (l.length : Int) (i : Int) (l.take i) (i : Int) (h : Int) m l) (fun h => allR (fun h => !(mk l i &&& mk l h == mk l i) && !(mk l i &&& mk l h == mk l h)) i h && allR (fun i => rises l i && apartS l i) l.length (i + 1)) ?_ ?_ 0 (Nat.zero_le _)
      · refine ev_succ ?_
        simp only [spec_gmGood.l1]
        refine ev_neg (by omega) ?_
        rw [allR_end, Bool.true_and, wrap_succ hi (by omega)]
        exact ih
      · intro j hj ihj
        have hjl : j < l.length := by omega
        have hjt : j < (l.take i).length := by omega
        refine ev_succ ?_
        simp only [spec_gmGood.l1]
        refine ev_pos (by omega) (ev_pos (by omega) (ev_pos (by omega) ?_))
        rw [rdL1_get hjt, List.getElem_take, wrap_succ hj (by omega), allR_step _ _ _ hj]
        refine Ev.bind (h.masks hjl).2 ?_
        by_cases c : (mk l i &&& mk l j == mk l i) = true
        · refine ev_pos ((and_eq_nat (h.lt hi) (h.lt hjl)).2 c) ?_
          rw [c]; exact Ev.now _
        · refine ev_neg (fun x => c ((and_eq_nat (h.lt hi) (h.lt hjl)).1 x)) ?_
          rw [Bool.not_eq_true] at c
          rw [c]
          by_cases c2 : (mk l i &&& mk l j == mk l j) = true
          · refine ev_pos ((and_eq_nat (h.lt hi) (h.lt hjl)).2 c2) ?_
            rw [c2]; exact Ev.now _
          · refine ev_neg (fun x => c2 ((and_eq_nat (h.lt hi) (h.lt hjl)).1 x)) ?_
            rw [Bool.not_eq_true] at c2
            rw [c2]; exact ihj
    have step : rises l i = true → Ev (fun k => spec_gmGood.j1 k (i : Int) l[i] l (l.length : Int) (i : Int) false m l) ((rises l i && apartS l i) && allR (fun i => rises l i && apartS l i) l.length (i + 1)) := by
      intro hr
      refine ev_succ ?_
      simp only [spec_gmGood.j1]
      refine ev_neg (by simp) (Ev.bind (h.masks hi).2 (ev_pos (by omega) (ev_pos (by omega) ?_)))
      simp only [Int.toNat_natCast, Option.bind_some]
      exact inner hr
    refine ev_succ ?_
    simp only [spec_gmGood.l0]
    refine ev_pos (by omega) (ev_pos (by omega) (ev_pos (by omega) ?_))
    rw [rdL1_get hi]
    by_cases h0 : i = 0
    · subst h0
      exact ev_neg (by omega) (step (by simp [rises]))
    · have hp : i - 1 < l.length := by omega
      refine ev_pos (by omega) ?_
      rw [wrap_pred2 (by omega) (by omega)]
      refine ev_pos (by omega) (ev_pos (by omega) ?_)
      rw [rdL1_get hp]
      have hr : rises l i = lexB l[i - 1] l[i] := by unfold rises; rw [decide_eq_false h0, Bool.false_or, getD_get hp, getD_get hi]
      refine Ev.bind (voBefore_ev _ _ (Nat.le_trans (h.2 _ (List.getElem_mem hp)).2 (by decide))) ?_
      rw [← hr]
      cases hq : rises l i
      · refine ev_succ ?_
        simp only [spec_gmGood.j1]
        exact ev_pos (by simp) (Ev.now _)
      · have := step hq
        rw [hq] at this
        exact this
def gmOk (m : Int) (l : List (List Int)) : Bool := inB m 1 9 && (decide (l ≠ []) && ((l.all fun s => decide (s ≠ []) && isSetB s m) && allR (fun i => rises l i && apartI l i) l.length 0))
theorem SetsOk.of {m : Int} {l : List (List Int)} (hm : inB m 1 9 = true) (hs : (l.all fun s => decide (s ≠ []) && isSetB s m) = true) (hb : ∀ x ∈ l, x.length ≤ 1048576) : SetsOk m l := by
  refine ⟨inB_iff.1 hm, fun x hx => ⟨?_, hb x hx⟩⟩
  have := List.all_eq_true.1 hs x hx
  rw [Bool.and_eq_true] at this
  exact this.2
theorem apart_same (l : List (List Int)) : allR (fun i => rises l i && apartS l i) l.length 0 = allR (fun i => rises l i && apartI l i) l.length 0 := by
  rw [Bool.eq_iff_iff, allR_iff, allR_iff]
  constructor
  · intro h i hi
    have hi' := h i hi
    rw [Bool.and_eq_true] at hi' ⊢
    refine ⟨hi'.1, (allR_iff _ _).2 fun j hj => ?_⟩
    rcases Nat.lt_trichotomy j i with c | c | c
    · have := (allR_iff _ _).1 hi'.2 j c
      rw [Bool.and_eq_true] at this
      rw [this.2, Bool.or_true]
    · rw [decide_eq_true c, Bool.true_or]
    · have hj' := h j hj
      rw [Bool.and_eq_true] at hj'
      have := (allR_iff _ _).1 hj'.2 i c
      rw [Bool.and_eq_true] at this
      rw [Nat.and_comm, this.1, Bool.or_true]
  · intro h i hi
    have hi' := h i hi
    rw [Bool.and_eq_true] at hi' ⊢
    refine ⟨hi'.1, (allR_iff _ _).2 fun j hj => ?_⟩
    have hjl : j < l.length := by omega
    have h1 := (allR_iff _ _).1 hi'.2 j hjl
    have hj' := h j hjl
    rw [Bool.and_eq_true] at hj'
    have h2 := (allR_iff _ _).1 hj'.2 i hi
    rw [decide_eq_false (by omega), Bool.false_or] at h1 h2
    rw [Nat.and_comm] at h2
    rw [h1, h2]; rfl
theorem few_sets {m : Int} {l : List (List Int)} (h : SetsOk m l) (ha : allR (fun i => rises l i && apartI l i) l.length 0 = true) : l.length ≤ 126 := by
  have hlen : ((List.range l.length).map (mk l)).length = l.length := by simp
  rw [← hlen]
  refine antichain9 _ (fun x hx => ?_) ?_
  · obtain ⟨i, hi, rfl⟩ := List.mem_map.1 hx
    exact h.lt (List.mem_range.1 hi)
  · rw [List.pairwise_map]
    refine List.pairwise_lt_range.imp_of_mem fun {i j} hi hj hij => ?_
    have key : ∀ i j, i < l.length → j < l.length → i ≠ j → mk l i &&& mk l j ≠ mk l j := fun i j hi hj hne => by
      have := (allR_iff _ _).1 ha i hi
      rw [Bool.and_eq_true] at this
      have := (allR_iff _ _).1 this.2 j hj
      rw [decide_eq_false (by omega), Bool.false_or] at this
      simpa using this
    have hi' := List.mem_range.1 hi
    have hj' := List.mem_range.1 hj
    exact ⟨by rw [Nat.and_comm]; exact key j i hj' hi' (by omega), key i j hi' hj' (by omega)⟩
theorem IsGame_ev (m : Int) (l : List (List Int)) (hl : l.length ≤ 1048576) (hb : ∀ x ∈ l, x.length ≤ 1048576) : Ev (fun k => impl_IsGame.f k m l) (gmOk m l) := by
  unfold impl_IsGame.f gmOk
  simp only [within_eq, Option.bind_some]
  refine ev_bool (fun hm => ?_) (fun hm => ?_)
  · rw [hm]
    have hm' := inB_iff.1 hm
    by_cases h0 : l = []
    · subst h0
      refine ev_pos rfl (ev_succ ?_)
      simp only [impl_IsGame.j0]
      exact ev_pos (by simp) (Ev.now _)
    · have : l.length ≠ 0 := fun e => h0 (List.length_eq_zero_iff.1 e)
      refine ev_neg (by omega) (Ev.bind (areSets_ev l m (by omega) hb) (ev_succ ?_))
      rw [decide_eq_true h0]
      simp only [impl_IsGame.j0]
      cases hs : l.all fun s => decide (s ≠ []) && isSetB s m
      · exact ev_pos (by simp) (Ev.now _)
      · exact ev_neg (by simp) (IsGame_l0 m l hl (SetsOk.of hm hs hb))
  · rw [hm]
    refine ev_succ ?_
    simp only [impl_IsGame.j0]
    exact ev_pos (by simp) (Ev.now _)
theorem gmSets_l0 (m : Int) (l : List (List Int)) (hm : 1 ≤ m ∧ m ≤ 9) (hl : l.length ≤ 1048576) (hb : ∀ x ∈ l, x.length ≤ 1048576) : Ev (fun k => spec_gmSets.l0 k m l (l.length : Int) 0) (l.all fun s => decide (s ≠ []) && isSetB s m) := by
  have := ev_range l.length (fun k i => spec_gmSets.l0 k m l (l.length : Int) (i : Int)) (fun i => (l.drop i).all fun s => decide (s ≠ []) && isSetB s m) ?_ ?_ 0 (Nat.zero_le _)
  · simpa using this
  · refine ev_succ ?_
    simp only [spec_gmSets.l0]
    exact ev_neg (by omega) (ev_eqv (Ev.now _) (by rw [drop_end]; rfl))
  · intro i hi ih
    refine ev_succ ?_
    simp only [spec_gmSets.l0]
    refine ev_pos (by omega) (ev_pos (by omega) (ev_pos (by omega) ?_))
    rw [rdL1_get hi, wrap_succ hi (by omega), all_drop _ _ _ hi]
    by_cases h0 : l[i] = []
    · refine ev_pos (by rw [h0]; rfl) (ev_eqv (Ev.now _) ?_)
      rw [decide_eq_false (by simpa using h0)]; rfl
    · have : l[i].length ≠ 0 := fun e => h0 (List.length_eq_zero_iff.1 e)
      refine ev_neg (by omega) (Ev.bind (voSet_ev l[i] m (by omega) (Nat.le_trans (hb _ (List.getElem_mem hi)) (by decide))) ?_)
      rw [decide_eq_true h0, Bool.true_and]
      exact ev_bool (fun h => by rw [h]; exact ih) (fun h => by rw [h]; exact Ev.now _)
theorem gmGood_ev (m : Int) (l : List (List Int)) (hl : l.length ≤ 1048576) (hb : ∀ x ∈ l, x.length ≤ 1048576) : Ev (fun k => spec_gmGood.f k m l) (gmOk m l) := by
  unfold spec_gmGood.f
  have hS : Ev (fun k => spec_gmSets.f k m l 126) (inB m 1 9 && (inB (l.length : Int) 1 126 && l.all fun s => decide (s ≠ []) && isSetB s m)) := by
    unfold spec_gmSets.f
    simp only [l1In_eq, Option.bind_some]
    refine ev_bool (fun hm => ?_) (fun hm => ?_)
    · rw [hm]
      refine ev_succ ?_
      simp only [spec_gmSets.j0]
      cases hn : inB (l.length : Int) 1 126
      · exact ev_pos (by simp) (Ev.now _)
      · exact ev_neg (by simp) (gmSets_l0 m l (inB_iff.1 hm) hl hb)
    · rw [hm]
      refine ev_succ ?_
      simp only [spec_gmSets.j0]
      exact ev_pos (by simp) (Ev.now _)
  refine Ev.bind hS (ev_bool (fun h => ?_) (fun h => ?_))
  · rw [Bool.and_eq_true, Bool.and_eq_true] at h
    refine ev_eqv (gmGood_l0 m l hl (SetsOk.of h.1 h.2.2 hb)) ?_
    have hn := inB_iff.1 h.2.1
    unfold gmOk
    rw [h.1, h.2.2, decide_eq_true (show l ≠ [] from fun e => by subst e; simp at hn), apart_same]; rfl
  · refine ev_eqv (Ev.now _) ?_
    symm
    rw [← Bool.not_eq_true]
    intro hg
    unfold gmOk at hg
    rw [Bool.and_eq_true, Bool.and_eq_true, Bool.and_eq_true] at hg
    obtain ⟨hm, h0, hs, ha⟩ := hg
    have := few_sets (SetsOk.of hm hs hb) ha
    have h0' : l.length ≠ 0 := fun e => (of_decide_eq_true h0) (List.length_eq_zero_iff.1 e)
    rw [hm, hs, show inB (l.length : Int) 1 126 = true from inB_iff.2 (by omega)] at h
    cases h
end Go.Proofs.Ytkgpcomljgbilaa.Q
end
section
namespace Go.Proofs.Ytkgpcomljgbilaa.Q
open Go.RowKit Go.Proofs.YtkgpcomljgbilaaW.PrintWords Go.Proofs.YtkgpcomljgbilaaW.PrintLast Go.Proofs.YtkgpcomljgbilaaW.PrintMore
set_option linter.unusedVariables false
set_option linter.unusedSimpArgs false
theorem rdOf_get {xs : List Bool} {i : Nat} (h : i < xs.length) : rdOf false xs (i : Int) = xs[i] := by unfold rdOf; rw [Int.toNat_natCast]; exact getD_get h
def tabB (g : Nat → Bool) (n : Nat) : List Bool := (List.range n).map g
theorem tabB_len (g : Nat → Bool) (n : Nat) : (tabB g n).length = n := by simp [tabB]
theorem tabB_get (g : Nat → Bool) (n i : Nat) (h : i < (tabB g n).length) : (tabB g n)[i] = g i := by simp [tabB]
theorem tabB_succ (g : Nat → Bool) (n : Nat) : tabB g (n + 1) = tabB g n ++ [g n] := by simp [tabB, List.range_succ]
theorem tabB_set (g : Nat → Bool) (i : Nat) (b b' : Bool) (l : List Bool) : (tabB g i ++ b :: l).set i b' = tabB g i ++ b' :: l := by
  rw [List.set_append_right _ _ (by rw [tabB_len]; omega), tabB_len, Nat.sub_self]; rfl
theorem tabB_rd (g : Nat → Bool) (i : Nat) (b : Bool) (l : List Bool) : rdOf false (tabB g i ++ b :: l) (i : Int) = b := by
  rw [rdOf_get (by rw [List.length_append, tabB_len, List.length_cons]; omega), List.getElem_append_right (by rw [tabB_len]; omega)]
  simp [tabB_len]
theorem tabB_next (g : Nat → Bool) (i : Nat) (l : List Bool) : tabB g i ++ g i :: l = tabB g (i + 1) ++ l := by rw [tabB_succ, List.append_assoc]; rfl
def winB (l : List (List Int)) (i : Nat) : Bool := l.any fun s => i &&& maskN 0 s == maskN 0 s
def winT (m : Int) (l : List (List Int)) : List Bool := tabB (winB l) (2 ^ m.toNat)
theorem and_self_nat {a b : Nat} (ha : a < 512) (hb : b < 512) : (Go.bits .and .i64 (a : Int) (b : Int) == (b : Int)) = (a &&& b == b) := by
  rw [Bool.eq_iff_iff, ← and_eq_nat ha hb, beq_iff_eq]
theorem pow_le512 {m : Int} (h : 1 ≤ m ∧ m ≤ 9) : 2 ^ m.toNat ≤ 512 := Nat.pow_le_pow_right (n := 2) (by decide) (show m.toNat ≤ 9 by omega)
theorem voAll_nat {m : Int} (h : 1 ≤ m ∧ m ≤ 9) : spec_voAll.f m = some (((2 ^ m.toNat - 1 : Nat) : Int)) := by
  rw [voAll_eq m (by omega)]
  have : 1 ≤ 2 ^ m.toNat := Nat.one_le_two_pow
  congr 1
  rw [Int.ofNat_sub this]; simp
theorem gmWins_l1 (n i : Nat) (m : Int) (l : List (List Int)) (hl : l.length ≤ 1048576) (h : SetsOk m l) (hi : i < n) (hn : n ≤ 512) (r : List Bool) (ih : Ev (fun k => spec_gmWins.l0 k l (tabB (winB l) (i + 1) ++ List.replicate (n - (i + 1)) false) (n : Int) ((i + 1 : Nat) : Int)) r) :
    ∀ j, j ≤ l.length → Ev (fun k => spec_gmWins.l1 k l (tabB (winB l) i ++ ((l.take j).any fun s => i &&& maskN 0 s == maskN 0 s) :: List.replicate (n - (i + 1)) false) (i : Int) (n : Int) (i : Int) l (l.length : Int) (j : Int)) r := by
  have hlen : ∀ b : Bool, (tabB (winB l) i ++ b :: List.replicate (n - (i + 1)) false).length = n := fun b => by rw [List.length_append, tabB_len, List.length_cons, List.length_replicate]; omega
  refine ev_range l.length (fun k j => spec_gmWins.l1 k l (tabB (winB l) i ++ ((l.take j).any fun s => i &&& maskN 0 s == maskN 0 s) :: List.replicate (n - (i + 1)) false) (i : Int) (n : Int) (i : Int) l (l.length : Int) (j : Int)) (fun _ => r) ?_ ?_
  · refine ev_succ ?_
    simp only [spec_gmWins.l1]
    refine ev_neg (Int.lt_irrefl _) ?_
    rw [List.take_length, wrap_succ hi (Nat.le_trans hn (by decide))]
    have e : (l.any fun s => i &&& maskN 0 s == maskN 0 s) = winB l i := by unfold winB; rfl
    rw [e, tabB_next]
    exact ih
  · intro j hj ihj
    refine ev_succ ?_
    simp only [spec_gmWins.l1]
    refine ev_pos (by omega) (ev_pos (by omega) (ev_pos (by omega) ?_))
    rw [rdL1_get hj, wrap_succ hj (Nat.le_trans hl (by decide))]
    have hm := (h.masks hj).2
    have hk : mk l j = maskN 0 l[j] := by unfold mk; rw [getD_get hj]
    have hlt := h.lt hj
    rw [hk] at hm hlt
    refine Ev.bind hm (ev_pos (by omega) (ev_pos (by rw [hlen]; omega) ?_))
    rw [tabB_rd, Int.toNat_natCast, tabB_set, tabB_set, and_self_nat (by omega) hlt]
    rw [List.take_succ_eq_append_getElem hj, List.any_append] at ihj
    simp only [List.any_cons, List.any_nil, Bool.or_false] at ihj
    refine ev_bool (fun e => ?_) (fun e => ?_)
    · rw [e, Bool.true_or] at ihj; exact ihj
    · rw [e, Bool.false_or] at ihj; exact ihj
theorem gmWins_l0 (n : Nat) (m : Int) (l : List (List Int)) (hl : l.length ≤ 1048576) (h : SetsOk m l) (hn : n ≤ 512) :
    Ev (fun k => spec_gmWins.l0 k l (List.replicate n false) (n : Int) 0) (tabB (winB l) n) := by
  have := ev_range n (fun k i => spec_gmWins.l0 k l (tabB (winB l) i ++ List.replicate (n - i) false) (n : Int) (i : Int)) (fun _ => tabB (winB l) n) ?_ ?_ 0 (Nat.zero_le _)
  · simpa [tabB] using this
  · refine ev_succ ?_
    simp only [spec_gmWins.l0]
    exact ev_neg (Int.lt_irrefl _) (ev_eqv (Ev.now _) (by simp))
  · intro i hi ih
    refine ev_succ ?_
    simp only [spec_gmWins.l0]
    refine ev_pos (by omega) ?_
    have := gmWins_l1 n i m l hl h hi hn _ ih 0 (Nat.zero_le _)
    rw [show n - i = (n - (i + 1)) + 1 by omega, List.replicate_succ]
    simpa using this
theorem gmWins_ev (m : Int) (l : List (List Int)) (hl : l.length ≤ 1048576) (h : SetsOk m l) : Ev (fun k => spec_gmWins.f k m l) (winT m l) := by
  have hp := pow_le512 h.1
  have h1 : 1 ≤ 2 ^ m.toNat := Nat.one_le_two_pow
  have hw : wrap64 (((2 ^ m.toNat - 1 : Nat) : Int) + 1) = ((2 ^ m.toNat : Nat) : Int) := by
    generalize 2 ^ m.toNat = n at hp h1
    unfold wrap64; omega
  have hl0 := gmWins_l0 (2 ^ m.toNat) m l hl h hp
  unfold spec_gmWins.f winT
  refine ev_bindS (voAll_nat h.1) ?_
  generalize 2 ^ m.toNat = n at *
  rw [hw]
  have hn2 : (n : Int).toNat ≤ 281474976710656 := by rw [Int.toNat_natCast]; exact Nat.le_trans hp (by decide)
  refine ev_pos (Int.natCast_nonneg n) (ev_pos hn2 (ev_bindS rfl ?_))
  simp only [Int.toNat_natCast, List.length_replicate]
  exact hl0
end Go.Proofs.Ytkgpcomljgbilaa.Q
end
section
namespace Go.Proofs.Ytkgpcomljgbilaa.Q
open Go.RowKit Go.Proofs.YtkgpcomljgbilaaW.PrintWords Go.Proofs.YtkgpcomljgbilaaW.PrintLast Go.Proofs.YtkgpcomljgbilaaW.PrintMore
set_option linter.unusedVariables false
set_option linter.unusedSimpArgs false
theorem andNot_nat (a b : Nat) (ha : a < 2 ^ 62) (hb : b < 2 ^ 62) : Go.bits .andNot .i64 (a : Int) (b : Int) = ((a ^^^ (a &&& b) : Nat) : Int) := by
  have ha' : a % 2 ^ 64 = a := Nat.mod_eq_of_lt (by omega)
  have hb' : b % 2 ^ 64 = b := Nat.mod_eq_of_lt (by omega)
  have e : a &&& (2 ^ 64 - (b + 1)) = a ^^^ (a &&& b) := by
    refine Nat.eq_of_testBit_eq fun i => ?_
    rw [Nat.testBit_and, Nat.testBit_xor, Nat.testBit_and, Nat.testBit_two_pow_sub_succ (by omega)]
    by_cases hi : i < 64
    · cases a.testBit i <;> cases b.testBit i <;> simp [hi]
    · have : a.testBit i = false := Nat.testBit_lt_two_pow (Nat.lt_of_lt_of_le (show a < 2 ^ 64 by omega) (Nat.pow_le_pow_right (by decide) (by omega)))
      simp [this]
  have h : Go.bits .andNot .i64 (a : Int) (b : Int) = IntKind.i64.wrap ((a &&& (2 ^ 64 - 1 - b % 2 ^ 64) : Nat) : Int) := by
    show IntKind.i64.wrap ((BitVec.ofInt 64 (a : Int) &&& ~~~ (BitVec.ofInt 64 (b : Int))).toNat : Int) = _
    rw [BitVec.ofInt_natCast, BitVec.ofInt_natCast, BitVec.toNat_and, BitVec.toNat_not, BitVec.toNat_ofNat, BitVec.toNat_ofNat, ha']
  rw [h, hb', show 2 ^ 64 - 1 - b = 2 ^ 64 - (b + 1) by omega, e]
  have : a ^^^ (a &&& b) < 2 ^ 62 := Nat.xor_lt_two_pow ha (Nat.and_lt_two_pow _ hb)
  exact wraps_i64 _ (by omega) (by exact_mod_cast this)
def bitB (m i : Nat) : Bool := m >>> i % 2 == 1
theorem has_eq (m i : Nat) (hm : m < 65536) (hi : i ≤ 64) : impl_has.f (m : Int) (i : Int) = some (bitB m i) := by
  unfold impl_has.f bitB
  have h2 : m >>> i < 2 ^ 62 := shr_lt _ _ (by omega)
  rw [if_pos (by omega), shr_nat _ _ hi, and_one_nat _ h2]
  congr 1
  rw [Bool.eq_iff_iff, beq_iff_eq, beq_iff_eq]
  omega
theorem tmod_bit (m i : Nat) (hi : i ≤ 64) : Int.tmod (shr .i64 (m : Int) (i : Int)) 2 = 0 ↔ bitB m i = false := by
  rw [shr_nat _ _ hi, tmod_two]
  unfold bitB
  rw [beq_eq_false_iff_ne]
  omega
theorem fin512 {P : Nat → Nat → Prop} [∀ m i, Decidable (P m i)] (h : ((List.range 512).all fun m => (List.range 9).all fun i => decide (P m i)) = true) : ∀ m i, m < 512 → i < 9 → P m i := fun m i hm hi =>
  of_decide_eq_true (List.all_eq_true.1 (List.all_eq_true.1 h m (List.mem_range.2 hm)) i (List.mem_range.2 hi))
theorem or_bit : ∀ m i, m < 512 → i < 9 → m ||| 2 ^ i = if bitB m i = true then m else m + 2 ^ i := fin512 (by decide +kernel)
theorem all_andNot : ∀ m n, m < 512 → n < 10 → m < 2 ^ n → (2 ^ n - 1) ^^^ ((2 ^ n - 1) &&& m) = 2 ^ n - 1 - m := by
  have h : ((List.range 512).all fun m => (List.range 10).all fun n => decide (m < 2 ^ n → (2 ^ n - 1) ^^^ ((2 ^ n - 1) &&& m) = 2 ^ n - 1 - m)) = true := by decide +kernel
  exact fun m n hm hn => of_decide_eq_true (List.all_eq_true.1 (List.all_eq_true.1 h m (List.mem_range.2 hm)) n (List.mem_range.2 hn))
theorem rdOf_tab {g : Nat → Bool} {N i : Nat} (h : i < N) : rdOf false (tabB g N) (i : Int) = g i := by
  rw [rdOf_get (by rw [tabB_len]; exact h), tabB_get]
theorem pow_lt9 {i n : Nat} (h : i < n) (hn : n ≤ 9) : 2 ^ i < 2 ^ n ∧ 2 ^ n ≤ 512 :=
  ⟨Nat.pow_lt_pow_right (by decide) h, Nat.pow_le_pow_right (n := 2) (by decide) hn⟩
end Go.Proofs.Ytkgpcomljgbilaa.Q
end
section
namespace Go.Proofs.Ytkgpcomljgbilaa.Q
open Go.RowKit Go.Proofs.YtkgpcomljgbilaaW.PrintWords Go.Proofs.YtkgpcomljgbilaaW.PrintLast Go.Proofs.YtkgpcomljgbilaaW.PrintMore
set_option linter.unusedVariables false
set_option linter.unusedSimpArgs false
def cntB (g : Nat → Bool) (N i : Nat) : Int := (((List.range N).drop i).filter g).length
theorem cntB_end (g : Nat → Bool) (N : Nat) : cntB g N N = 0 := by
  unfold cntB
  rw [List.drop_of_length_le (by simp)]; rfl
theorem cntB_step (g : Nat → Bool) (N i : Nat) (h : i < N) : cntB g N i = (if g i = true then 1 else 0) + cntB g N (i + 1) := by
  unfold cntB
  rw [List.drop_eq_getElem_cons (by simpa using h), List.getElem_range, List.filter_cons]
  by_cases e : g i = true
  · rw [if_pos e, if_pos e, List.length_cons]; omega
  · rw [if_neg e, if_neg e]; omega
theorem countWins_ev (a : Int) (g : Nat → Bool) (N : Nat) (hN : N ≤ 512) : Ev (fun k => impl_votes_countWins.f k a (tabB g N)) (cntB g N 0) := by
  unfold impl_votes_countWins.f
  have := ev_rangeS N (fun k i s => impl_votes_countWins.l0 k s (tabB g N) (N : Int) (i : Int)) (fun i s => s + cntB g N i) (fun i s => 0 ≤ s ∧ s ≤ i) ?_ ?_ 0 (0 : Int) (Nat.zero_le _) ⟨Int.le_refl _, Int.le_refl _⟩
  · simpa [tabB_len] using this
  · intro s _
    refine ev_succ ?_
    simp only [impl_votes_countWins.l0]
    exact ev_neg (Int.lt_irrefl _) (ev_eqv (Ev.now _) (by rw [cntB_end]; omega))
  · intro i s hi hs ih
    refine ev_succ ?_
    simp only [impl_votes_countWins.l0]
    refine ev_pos (by omega) (ev_pos (by omega) (ev_pos (by rw [tabB_len]; omega) ?_))
    rw [rdOf_tab hi, wrap_succ hi (by omega), cntB_step g N i hi]
    refine ev_bool (fun e => ?_) (fun e => ?_)
    · rw [if_pos e, wrap64_id (by omega), ← Int.add_assoc]; exact ih _ (by omega)
    · rw [if_neg (by simp [e]), Int.zero_add]; exact ih _ (by omega)
theorem pzOne_eq (b : Bool) : spec_pzOne.f b = some (if b = true then 1 else 0) := by unfold spec_pzOne.f; cases b <;> rfl
theorem oneIf_eq (b : Bool) : impl_oneIf.f b = some (if b = true then 1 else 0) := by unfold impl_oneIf.f; cases b <;> rfl
theorem pzValue_l0 (g : Nat → Bool) (N : Nat) (hN : N ≤ 512) : Ev (fun k => spec_pzValue.l0 k 0 (tabB g N) (N : Int) 0) (cntB g N 0) := by
  have := ev_rangeS N (fun k i s => spec_pzValue.l0 k s (tabB g N) (N : Int) (i : Int)) (fun i s => s + cntB g N i) (fun i s => 0 ≤ s ∧ s ≤ i) ?_ ?_ 0 (0 : Int) (Nat.zero_le _) ⟨Int.le_refl _, Int.le_refl _⟩
  · simpa using this
  · intro s _
    refine ev_succ ?_
    simp only [spec_pzValue.l0]
    exact ev_neg (Int.lt_irrefl _) (ev_eqv (Ev.now _) (by rw [cntB_end]; omega))
  · intro i s hi hs ih
    refine ev_succ ?_
    simp only [spec_pzValue.l0]
    refine ev_pos (by omega) (ev_pos (by omega) (ev_pos (by rw [tabB_len]; omega) ?_))
    rw [rdOf_tab hi, wrap_succ hi (by omega), cntB_step g N i hi]
    simp only [pzOne_eq, Option.bind_some]
    by_cases e : g i = true
    · rw [if_pos e, wrap64_id (by omega), ← Int.add_assoc]; exact ih _ (by omega)
    · rw [if_neg e, Int.zero_add, Int.add_zero, wrap64_id (by omega)]; exact ih _ (by omega)
theorem all_eq (m : Int) (l : List Bool) (h : 1 ≤ m ∧ m ≤ 9) : impl_votes_all.f m l = some (((2 ^ m.toNat - 1 : Nat) : Int)) := by
  unfold impl_votes_all.f
  rw [if_pos (by omega), all_bits m (by omega)]
  have : 1 ≤ 2 ^ m.toNat := Nat.one_le_two_pow
  congr 1
  rw [Int.ofNat_sub this]; simp
theorem rest_mask (m : Int) (h : 1 ≤ m ∧ m ≤ 9) (i : Nat) (hi : i < 2 ^ m.toNat) : Go.bits .andNot .i64 ((2 ^ m.toNat - 1 : Nat) : Int) (i : Int) = ((2 ^ m.toNat - 1 - i : Nat) : Int) := by
  have hp := pow_le512 h
  rw [andNot_nat _ _ (by omega) (by omega), all_andNot i m.toNat (by omega) (by omega) hi]
def properB (g : Nat → Bool) (N : Nat) : Bool := allR (fun i => !(g i && g (N - 1 - i))) N 0
def strongB (g : Nat → Bool) (N : Nat) : Bool := allR (fun i => g i || g (N - 1 - i)) N 0
theorem isProper_ev (m : Int) (h : 1 ≤ m ∧ m ≤ 9) (g : Nat → Bool) : Ev (fun k => impl_votes_isProper.f k m (tabB g (2 ^ m.toNat))) (properB g (2 ^ m.toNat)) := by
  unfold impl_votes_isProper.f properB
  have hp := pow_le512 h
  have hr := rest_mask m h
  have ha := all_eq m (tabB g (2 ^ m.toNat)) h
  generalize 2 ^ m.toNat = N at *
  have := ev_range N (fun k i => impl_votes_isProper.l0 k (tabB g N) (N : Int) (i : Int) m (tabB g N)) (allR (fun i => !(g i && g (N - 1 - i))) N) ?_ ?_ 0 (Nat.zero_le _)
  · simpa [tabB_len] using this
  · refine ev_succ ?_
    simp only [impl_votes_isProper.l0]
    exact ev_neg (Int.lt_irrefl _) (ev_eqv (Ev.now _) (by rw [allR_end]))
  · intro i hi ih
    refine ev_succ ?_
    simp only [impl_votes_isProper.l0]
    refine ev_pos (by omega) (ev_pos (by omega) (ev_pos (by rw [tabB_len]; omega) ?_))
    rw [rdOf_tab hi, wrap_succ hi (by omega), allR_step _ _ _ hi]
    simp only [ha, Option.bind_some, hr i hi]
    rw [rdOf_tab (show N - 1 - i < N by omega)]
    refine ev_bool (fun e => ?_) (fun e => ?_)
    · rw [e]
      refine ev_pos (by omega) (ev_pos (by rw [tabB_len]; omega) (ev_bool (fun e2 => ?_) (fun e2 => ?_)))
      · rw [e2]; exact Ev.now _
      · rw [e2]; exact ih
    · rw [e]; exact ih
theorem isStrong_ev (m : Int) (h : 1 ≤ m ∧ m ≤ 9) (g : Nat → Bool) : Ev (fun k => impl_votes_isStrong.f k m (tabB g (2 ^ m.toNat))) (strongB g (2 ^ m.toNat)) := by
  unfold impl_votes_isStrong.f strongB
  have hp := pow_le512 h
  have hr := rest_mask m h
  have ha := all_eq m (tabB g (2 ^ m.toNat)) h
  generalize 2 ^ m.toNat = N at *
  have := ev_range N (fun k i => impl_votes_isStrong.l0 k (tabB g N) (N : Int) (i : Int) m (tabB g N)) (allR (fun i => g i || g (N - 1 - i)) N) ?_ ?_ 0 (Nat.zero_le _)
  · simpa [tabB_len] using this
  · refine ev_succ ?_
    simp only [impl_votes_isStrong.l0]
    exact ev_neg (Int.lt_irrefl _) (ev_eqv (Ev.now _) (by rw [allR_end]))
  · intro i hi ih
    refine ev_succ ?_
    simp only [impl_votes_isStrong.l0]
    refine ev_pos (by omega) (ev_pos (by omega) (ev_pos (by rw [tabB_len]; omega) ?_))
    rw [rdOf_tab hi, wrap_succ hi (by omega), allR_step _ _ _ hi]
    simp only [ha, Option.bind_some, hr i hi]
    rw [rdOf_tab (show N - 1 - i < N by omega)]
    refine ev_bool (fun e => ?_) (fun e => ?_)
    · rw [e]; exact ih
    · rw [e]
      refine ev_pos (by omega) (ev_pos (by rw [tabB_len]; omega) (ev_bool (fun e2 => ?_) (fun e2 => ?_)))
      · rw [e2]; exact ih
      · rw [e2]; exact Ev.now _
theorem ev_ite {α : Type} {c : Prop} [Decidable c] {f g : Nat → Option α} {r : α} (h1 : c → Ev f r) (h2 : ¬ c → Ev g r) : Ev (fun n => if c then f n else g n) r := by
  by_cases h : c
  · exact ev_pos h (h1 h)
  · exact ev_neg h (h2 h)
theorem pzValue_l1 (kind : Int) (hk : kind = 4 ∨ kind = 5) (g : Nat → Bool) (N : Nat) (hN : N ≤ 512) (h1 : 1 ≤ N) :
    Ev (fun k => spec_pzValue.l1 k kind (tabB g N) ((N - 1 : Nat) : Int) (N : Int) 0) (if (if kind = 4 then properB g N else strongB g N) = true then 1 else 0) := by
  unfold properB strongB
  have := ev_range N (fun k i => spec_pzValue.l1 k kind (tabB g N) ((N - 1 : Nat) : Int) (N : Int) (i : Int)) (fun i => if (if kind = 4 then allR (fun i => !(g i && g (N - 1 - i))) N i else allR (fun i => g i || g (N - 1 - i)) N i) = true then 1 else 0) ?_ ?_ 0 (Nat.zero_le _)
  · simpa using this
  · refine ev_succ ?_
    simp only [spec_pzValue.l1]
    exact ev_neg (Int.lt_irrefl _) (ev_eqv (Ev.now _) (by rw [allR_end, allR_end]; simp))
  · intro i hi ih
    refine ev_succ ?_
    simp only [spec_pzValue.l1]
    have hw : wrap64 (((N - 1 : Nat) : Int) - (i : Int)) = ((N - 1 - i : Nat) : Int) := by unfold wrap64; omega
    refine ev_pos (by omega) ?_
    rw [hw, rdOf_tab hi, rdOf_tab (show N - 1 - i < N by omega), wrap_succ hi (by omega), allR_step _ _ _ hi, allR_step _ _ _ hi, tabB_len]
    rcases hk with rfl | rfl
    · refine ev_pos rfl (ev_pos (by omega) (ev_pos (by omega) ?_))
      simp only [if_true] at ih ⊢
      refine ev_bool (fun e => ?_) (fun e => ?_)
      · rw [e]
        refine ev_pos (by omega) (ev_pos (by omega) (ev_bool (fun e2 => ?_) (fun e2 => ?_)))
        · rw [e2]; exact Ev.now _
        · rw [e2]; exact ev_neg (by decide) ih
      · rw [e]; exact ev_neg (by decide) ih
    · refine ev_neg (by decide) (ev_pos rfl (ev_pos (by omega) (ev_pos (by omega) ?_)))
      simp only [show ¬ ((5 : Int) = 4) by decide, if_false] at ih ⊢
      refine ev_bool (fun e => ?_) (fun e => ?_)
      · rw [e]; exact ih
      · rw [e]
        refine ev_pos (by omega) (ev_pos (by omega) (ev_bool (fun e2 => ?_) (fun e2 => ?_)))
        · rw [e2]; exact ih
        · rw [e2]; exact Ev.now _
end Go.Proofs.Ytkgpcomljgbilaa.Q
end

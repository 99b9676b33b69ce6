/- The row of the law FnExactSureLosses: for every input it returns true, and its arguments read afterwards as before. No condition: FnExactSureLosses_pure says that its pure form answers true at every input, and laws_FnExactSureLosses.calls that the machine comes to just that. -/
import Derived.Test.YtgjakcpbfbfejaaGreatKFnExactSureLosses5
import Derived.Test.YtgjakcpbfbfejaaGreatRows
import Derived.ProofKit
import Derived.OpenShut
import Derived.ShutString
import Derived.ChangeOld
import Derived.SizedLaws
import Derived.Deep.Slices
import Derived.Deep.Strs
section
namespace Go.Proofs.YtgjakcpbfbfejaaGreat.Q
open Go.RowKit Go.Proofs.YtgjakcpbfbfejaaGreatW.PrintWords Go.Proofs.YtgjakcpbfbfejaaGreatW.PrintLast Go.Proofs.YtgjakcpbfbfejaaGreatW.PrintMore
set_option linter.unusedVariables false
set_option linter.unusedSimpArgs false
def solP (k : Nat) (clues : List S72) (g : S46) : Option Bool := (impl_Game_votes.f k g.f0 g.f1).bind fun v => anyO (fun c => impl_solutions_1_1.f k c.f0 c.f1 c.f2 v.1 v.2) clues
theorem impl_solutions_1_1.pred (k : Nat) (n : Int) (A : Option Addr) (c : Nat) (l : List Bool) (b1 : Nat) (w : World) (h1 : w.heap[b1]? = some (.cells #[.int .i64 n, .slice A l.length c] 86 (0, 0))) (hC : Kd.C Kd.bool w A l.length l) (hc : l.length ≤ c) :
    PredK Tryz.prog 81 #[.pointer (some ⟨b1, 0, none⟩)] k72 (fun c => .agg c.toArray) w (fun x => impl_solutions_1_1.f k x.f0 x.f1 x.f2 n l) := by
  intro W x cx b hb hK hp
  obtain rfl := k72_open hK
  exact (impl_solutions_1_1.calls k x.f0 x.f1 x.f2 n A c l b W b1 (blk_below h1 hb) (Kd.C_below hC hb) hc hp).mono (fun _ _ h => ⟨h.1, hb.trans (h.2.mono hb.size)⟩)
set_option maxHeartbeats 2000000 in
theorem impl_solutions_1.pred (k : Nat) (A1 : Option Addr) (c1 : Nat) (clues : List S72) (b1 : Nat) (wb : World) (h1 : wb.heap[b1]? = some (.cells #[.slice A1 clues.length c1] 28 (0, 0))) (hC : Kd.C k72 wb A1 clues.length clues) (hc1 : clues.length ≤ c1) :
    PredG Tryz.prog 79 #[.pointer (some ⟨b1, 0, none⟩)] wb (solP k clues) := by
  intro W x A c b hb hxc hxC hp
  show Calls Tryz.prog 79 #[.agg #[.int .i64 x.f0, .slice A x.f1.length c], .pointer (some ⟨b1, 0, none⟩)] W _
  obtain ⟨⟨v1, v2⟩, hv, hp⟩ := Option.bind_eq_some_iff.mp hp
  have HBK := Aside0.mk (blk_below h1 hb)
  have eg : ∀ args w, (callFunc 81 args).run Tryz.prog w = .ok (.enter 81 args) w := enters_of Tryz.func81 (by kernel_rfl) rfl
  have EG := Aside0.mk eg
  clear eg
  have HB := Aside0.mk hb
  have HX := Aside0.mk hxC
  have HCL := Aside0.mk (Kd.C_below hC hb)
  have HV := Aside0.mk hv
  have HP := Aside0.mk hp
  clear h1 hC hb hxC hv hp
  go_enter Tryz.func79, Tryz.ntmps79
  go_wp2_with (go_at_call 80; refine (impl_Game_votes.calls k x.f0 A c x.f1 v1 v2 _ (Kd.C_below HX.out ((Below.refl _ W).alloc (Nat.le_refl _) _)) hxc HV.out).mono ?_; rintro e w1 ⟨u, rfl, hR, hb1⟩; obtain ⟨Av, cv, rfl⟩ := Kd.R_slice hR; have HR := Aside0.mk (Kd.R_reads' hR).2.2; have HRC := Aside0.mk (Kd.R_reads' hR).2.1; have HB1 := Aside0.mk (((Below.refl _ W).alloc (Nat.le_refl _) _).trans (hb1.mono (by simp))); clear hR hb1; have x0 : w1.cell? ⟨b1, 0, none⟩ = some (.slice A1 clues.length c1) := (blk_cell (blk_below HBK.out HB1.out) 0).trans rfl; have x1 : ∀ o, (w1.alloc o).cell? ⟨b1, 0, none⟩ = some (.slice A1 clues.length c1) := fun o => (blk_cell (blk_alloc (blk_below HBK.out HB1.out) o) 0).trans rfl; have q3 : w1.heap.size ≠ b1 := Nat.ne_of_gt (blk_lt (blk_below HBK.out HB1.out)); have q4 : b1 ≠ w1.heap.size := fun h => q3 h.symm)
  refine (containsFunc_clue (fun c => impl_solutions_1_1.f k c.f0 c.f1 c.f2 v1 v2) 81 #[.pointer (some ⟨w1.heap.size, 0, none⟩)] EG.out A1 c1 clues b _ (Kd.C_below HCL.out ((HB1.out.trans ((Below.refl _ w1).alloc (Nat.le_refl _) _ |>.mono HB1.out.size)))) hc1 (impl_solutions_1_1.pred k v1 Av cv v2 w1.heap.size _ (blk_new w1 _) (Kd.C_below HR.out ((Below.refl _ w1).alloc (Nat.le_refl _) _)) HRC.out) HP.out).mono ?_
  rintro e w2 ⟨rfl, hb2⟩
  have HB2 := Aside0.mk (HB1.out.trans (((Below.refl _ w1).alloc (Nat.le_refl _) _).trans (hb2.mono (by simp)) |>.mono HB1.out.size))
  clear hb2 x1 x0
  go_wp2
  go_ret
  exact ⟨rfl, HB2.out⟩
def impl_solutions.f (k : Nat) (n : Int) (l : List S72) : Option (List S46) := (impl_allGames.f k n).bind fun gs => if gs.length ≤ 1000000 then filO (solP k l) gs else none
set_option maxHeartbeats 2000000 in
theorem impl_solutions.calls (k : Nat) (n : Int) (A : Option Addr) (c : Nat) (l : List S72) (r : List S46) (w : World) (hC : Kd.C k72 w A l.length l) (hc : l.length ≤ c) (h : impl_solutions.f k n l = some r) :
    Calls Tryz.prog 57 #[.int .i64 n, .slice A l.length c] w fun e w' => ∃ v0_ : Value, e = .returned v0_ ∧ Kd.V k46 46 w' w.heap.size (fun k_ => w.heap.size ≤ k_) v0_ r ∧ Below w.heap.size w w' := by
  have eg : ∀ args w, (callFunc 79 args).run Tryz.prog w = .ok (.enter 79 args) w := enters_of Tryz.func79 (by kernel_rfl) rfl
  have EG := Aside0.mk eg
  clear eg
  obtain ⟨gs, hg, h⟩ := Option.bind_eq_some_iff.mp h
  by_cases hl : gs.length ≤ 1000000
  case neg => rw [if_neg hl] at h; cases h
  rw [if_pos hl] at h
  have HC := Aside0.mk hC
  have HG := Aside0.mk hg
  have HL := Aside0.mk hl
  have HH := Aside0.mk h
  clear hC hg hl h
  go_enter Tryz.func57, Tryz.ntmps57
  go_wp2_with (go_at_call 78; refine (impl_allGames.calls k n gs _ HG.out).mono ?_; rintro e w1 ⟨u, rfl, hR, hb1⟩; obtain ⟨Av, cv, rfl⟩ := Kd.R_slice hR; have HN := Aside0.mk (Kd.R_N (Kd.R_mono (Kd.R_bound hR) (fun _ h => h.2.1))); have HB1 := Aside0.mk hb1; clear hR hb1)
  refine (deleteFunc_games (solP k l) 79 #[.pointer (some ⟨w.heap.size, 0, none⟩)] EG.out (w.alloc (.cells #[.slice A l.length c] 28 (0, 0))) w1 Av cv gs r (impl_solutions_1.pred k A c l w.heap.size _ (blk_new w _) (Kd.C_below HC.out ((Below.refl _ w).alloc (Nat.le_refl _) _)) hc) HB1.out HN.out HL.out HH.out).mono ?_
  rintro e w2 ⟨A2, c2, rfl, hN2, hB2⟩
  have HN2 := Aside0.mk hN2
  have HB2 := Aside0.mk hB2
  clear hN2 hB2 HN HB1
  go_wp2
  go_ret
  exact ⟨_, rfl, ⟨A2, c2, rfl, (Kd.N_reads' HN2.out).2.1, Kd.F_mono (Kd.N_F HN2.out) (fun z hz => Nat.le_trans (by simp) hz)⟩, ((Below.refl _ w).alloc (Nat.le_refl _) _).trans (HB2.out.mono (by simp))⟩
end Go.Proofs.YtgjakcpbfbfejaaGreat.Q
end
section
namespace Go.Proofs.YtgjakcpbfbfejaaGreat.Q
open Go.RowKit Go.Proofs.YtgjakcpbfbfejaaGreatW.PrintWords Go.Proofs.YtgjakcpbfbfejaaGreatW.PrintLast Go.Proofs.YtgjakcpbfbfejaaGreatW.PrintMore
attribute [local go_sem] max2_int min2_int max_two min_two max_three min_three max_four min_four
set_option linter.unusedVariables false
set_option linter.unusedSimpArgs false
def impl_Solutions.f (k : Nat) (a0_0 : Int) (l0_1 : List (S72)) : Option ((List (S46)) × Bool) := (impl_IsPuzzle.f a0_0 l0_1).bind fun t354 => (if t354 = true then ((impl_solutions.f k a0_0 l0_1).bind fun t355 => (some (t355, true))) else (some (([] : List (S46)), false)))
set_option maxHeartbeats 8000000 in
set_option maxRecDepth 100000 in
theorem impl_Solutions.calls (k : Nat) (a0_0 : Int) (A0_1 : Option Addr) (c0_1 : Nat) (l0_1 : List (S72)) (r1 : List (S46)) (r2 : Bool) (w : World) (hr0_1 : Kd.C k72 w A0_1 l0_1.length l0_1) (hc0_1 : l0_1.length ≤ c0_1) (h : impl_Solutions.f k a0_0 l0_1 = some (r1, r2)) :
  Calls Tryz.prog 39 #[.agg #[.int .i64 a0_0, .slice A0_1 l0_1.length c0_1]] w fun e w' => ∃ v0_ : Value, e = .returned (.tuple #[v0_, .bool r2]) ∧ Kd.V k46 46 w' w.heap.size (fun k_ => (w.heap.size ≤ k_)) v0_ r1 ∧ Below w.heap.size w w' := by
 have hu30 := Tryz.underlying30
 have HR0_1 := Aside0.mk hr0_1
 have HC0_1 := Aside0.mk hc0_1
 clear hr0_1 hc0_1
 have HB := Aside0.mk (Below.refl w.heap.size w)
 have H : ((impl_IsPuzzle.f a0_0 l0_1).bind fun t354 => (if t354 = true then ((impl_solutions.f k a0_0 l0_1).bind fun t355 => (some (t355, true))) else (some (([] : List (S46)), false)))) = some (r1, r2) := h
 clear h
 replace H := Option.bind_eq_some_iff.mp H
 obtain ⟨t354, A20, H⟩ := H
 replace H : (if t354 = true then ((impl_solutions.f k a0_0 l0_1).bind fun t355 => (some (t355, true))) else (some (([] : List (S46)), false))) = some (r1, r2) := H
 have A2 := Aside0.mk A20
 clear A20
 by_cases c3 : t354 = true
 rotate_left
 ·replace c3 := Bool.eq_false_iff.mpr c3
  subst c3
  have H1 : (some (([] : List (S46)), false)) = some (r1, r2) := by rw [if_neg (show ¬ (false = true) by decide)] at H; exact H
  clear H
  have H := H1
  clear H1
  simp only [Option.some.injEq, Prod.mk.injEq] at H
  obtain ⟨rfl, rfl⟩ := H
  go_enter Tryz.func39, Tryz.ntmps39
  go_wp2_with (first | ((with_reducible refine gate_dst (N := 1) rfl ?_); refine zq 1 #[.int .i64 a0_0, .slice A0_1 l0_1.length c0_1] 30 ?_; intro gb353 hg w10 hbox hb; have n2_ := Aside0.mk ((by rw [hg]; exact (below_size (zh HB.out)) : w.heap.size ≤ gb353)); replace HB := Aside0.mk (below_step (zh HB.out) hb); have BK353 := Aside0.mk hbox; have GW353 := n2_; have GE353 := n2_; clear n2_ hb hbox hg; have hcz11_0 : w10.cell? ⟨gb353, 0, none⟩ = some (.int .i64 a0_0) := (blk_cell BK353.out 0).trans rfl; have hcz11_1 : w10.cell? ⟨gb353, 1, none⟩ = some (.slice A0_1 l0_1.length c0_1) := (blk_cell BK353.out 1).trans rfl; have hfz11_0 := blk_frozen BK353.out 0; have hfz11_1 := blk_frozen BK353.out 1) | ((with_reducible refine gate_callee (f := 56) rfl ?_); refine zl 5 Tryz.func56 #[.agg #[.int .i64 a0_0, .slice A0_1 l0_1.length c0_1]] ?_; (with_reducible refine (impl_IsPuzzle.calls a0_0 _ _ l0_1 false _ ?side1 ?side2 A2.out).mono ?_); (case side1 => repeat (first | exact (Kd.C_below HR0_1.out HB.out) | (with_reducible refine Kd.C_alloc ?_ _) | (with_reducible refine Kd.C_drewN ?_ _) | (with_reducible refine Kd.C_drew ?_))); (case side2 => exact HC0_1.out); rintro e w12 ⟨rfl, hb⟩; refine ⟨_, rfl, ?_⟩; have n0_ := Aside0.mk (blk_below (g := gb353) (o := .cells #[.int .i64 a0_0, .slice A0_1 l0_1.length c0_1] 30 (0, 0)) (zb BK353.out) hb); have n1_ := Aside0.mk (below_step (zh HB.out) hb); clear BK353; clear HB; have BK353 := n0_; have HB := n1_; clear n0_ n1_; (try clear hb); (try clear hb2); (try clear hk); (try clear hi)))
  go_ret2
  exact ⟨_, by first | rfl | (simp [*, errW_none, errW_some] <;> rfl), (by first | exact Kd.V_nil _ _ _ _ _ | exact Kd.R_V (Kd.R_nil _ _ 0 _ _) | exact Kd.N_nil _ _ _ _ _ | exact Kd.V_nil _ _ _ _ _ | exact Kd.Q_nil _ _ _ _ _ | exact Kd.S_nil _ _ _ _ _), zh HB.out⟩
 subst c3
 have H1 : ((impl_solutions.f k a0_0 l0_1).bind fun t355 => (some (t355, true))) = some (r1, r2) := by rw [if_pos rfl] at H; exact H
 clear H
 have H := H1
 clear H1
 replace H := Option.bind_eq_some_iff.mp H
 obtain ⟨t355, A40, H⟩ := H
 replace H : (some (t355, true)) = some (r1, r2) := H
 have A4 := Aside0.mk A40
 clear A40
 simp only [Option.some.injEq, Prod.mk.injEq] at H
 obtain ⟨rfl, rfl⟩ := H
 go_enter Tryz.func39, Tryz.ntmps39
 go_wp2_with (first | ((with_reducible refine gate_dst (N := 1) rfl ?_); refine zq 1 #[.int .i64 a0_0, .slice A0_1 l0_1.length c0_1] 30 ?_; intro gb353 hg w5 hbox hb; have n2_ := Aside0.mk ((by rw [hg]; exact (below_size (zh HB.out)) : w.heap.size ≤ gb353)); replace HB := Aside0.mk (below_step (zh HB.out) hb); have BK353 := Aside0.mk hbox; have GW353 := n2_; have GE353 := n2_; clear n2_ hb hbox hg; have hcz6_0 : w5.cell? ⟨gb353, 0, none⟩ = some (.int .i64 a0_0) := (blk_cell BK353.out 0).trans rfl; have hcz6_1 : w5.cell? ⟨gb353, 1, none⟩ = some (.slice A0_1 l0_1.length c0_1) := (blk_cell BK353.out 1).trans rfl; have hfz6_0 := blk_frozen BK353.out 0; have hfz6_1 := blk_frozen BK353.out 1) | ((with_reducible refine gate_callee (f := 56) rfl ?_); refine zl 5 Tryz.func56 #[.agg #[.int .i64 a0_0, .slice A0_1 l0_1.length c0_1]] ?_; (with_reducible refine (impl_IsPuzzle.calls a0_0 _ _ l0_1 true _ ?side1 ?side2 A2.out).mono ?_); (case side1 => repeat (first | exact (Kd.C_below HR0_1.out HB.out) | (with_reducible refine Kd.C_alloc ?_ _) | (with_reducible refine Kd.C_drewN ?_ _) | (with_reducible refine Kd.C_drew ?_))); (case side2 => exact HC0_1.out); rintro e w7 ⟨rfl, hb⟩; refine ⟨_, rfl, ?_⟩; have n0_ := Aside0.mk (blk_below (g := gb353) (o := .cells #[.int .i64 a0_0, .slice A0_1 l0_1.length c0_1] 30 (0, 0)) (zb BK353.out) hb); have n1_ := Aside0.mk (below_step (zh HB.out) hb); clear BK353; clear HB; have BK353 := n0_; have HB := n1_; clear n0_ n1_; (try clear hb); (try clear hb2); (try clear hk); (try clear hi); have hcz8_0 : w7.cell? ⟨gb353, 0, none⟩ = some (.int .i64 a0_0) := (blk_cell BK353.out 0).trans rfl; have hcz8_1 : w7.cell? ⟨gb353, 1, none⟩ = some (.slice A0_1 l0_1.length c0_1) := (blk_cell BK353.out 1).trans rfl; have hfz8_0 := blk_frozen BK353.out 0; have hfz8_1 := blk_frozen BK353.out 1) | ((with_reducible refine gate_callee (f := 57) rfl ?_); refine zl 11 Tryz.func57 #[.int .i64 a0_0, .slice A0_1 l0_1.length c0_1] ?_; (with_reducible refine (impl_solutions.calls k a0_0 _ _ l0_1 t355 _ ?side1 ?side2 A4.out).mono ?_); (case side1 => repeat (first | exact (Kd.C_below HR0_1.out HB.out) | (with_reducible refine Kd.C_alloc ?_ _) | (with_reducible refine Kd.C_drewN ?_ _) | (with_reducible refine Kd.C_drew ?_))); (case side2 => exact HC0_1.out); rintro e w9 ⟨v356, rfl, ho0, hb⟩; refine ⟨_, rfl, ?_⟩; have n0_ := Aside0.mk (Kd.V_lower (Kd.V_mono (ok' := fun k_ => (w.heap.size ≤ k_) ∧ k_ ≠ gb353) ho0 (fun k_ hk_ => ⟨(Nat.le_trans (below_size (zh HB.out)) hk_), (Kd.freshB (g := gb353) (o := .cells #[.int .i64 a0_0, .slice A0_1 l0_1.length c0_1] 30 (0, 0)) (zb BK353.out) k_ hk_)⟩)) (below_size (zh HB.out))); have n1_ := Aside0.mk (blk_below (g := gb353) (o := .cells #[.int .i64 a0_0, .slice A0_1 l0_1.length c0_1] 30 (0, 0)) (zb BK353.out) hb); have n2_ := Aside0.mk (below_step (zh HB.out) hb); clear BK353; clear HB; have HO357 := n0_; have BK353 := n1_; have HB := n2_; clear n0_ n1_ n2_; (try clear hb); (try clear hb2); (try clear hk); (try clear hi); (try clear ho0)))
 go_ret2
 exact ⟨_, by first | rfl | (simp [*, errW_none, errW_some] <;> rfl), by (with_reducible repeat (first | apply Kd.V_alloc | apply Kd.V_drewN | apply Kd.V_drew)); exact Kd.V_mono HO357.out (fun _ hk => hk.1), zh HB.out⟩
end Go.Proofs.YtgjakcpbfbfejaaGreat.Q
end
section
namespace Go.Proofs.YtgjakcpbfbfejaaGreat.Q
open Go.RowKit Go.Proofs.YtgjakcpbfbfejaaGreatW.PrintWords Go.Proofs.YtgjakcpbfbfejaaGreatW.PrintLast Go.Proofs.YtgjakcpbfbfejaaGreatW.PrintMore
set_option linter.unusedVariables false
set_option linter.unusedSimpArgs false
@[reducible] def PredV (P : Program) (g : Nat) (lb : Array Value) (wb : World) (p : S86 → Option Bool) : Prop :=
  ∀ (W : World) (x : S86) (A : Option Addr) (c : Nat) (b : Bool), Below wb.heap.size wb W → x.f1.length ≤ c → Kd.C Kd.bool W A x.f1.length x.f1 → p x = some b → Calls P g (#[.agg #[.int .i64 x.f0, .slice A x.f1.length c]] ++ lb) W fun e w' => e = .returned (.bool b) ∧ Below W.heap.size W w'
set_option maxHeartbeats 2000000 in
theorem indexFunc_votes (p : S86 → Option Bool) (g : Nat) (lb : Array Value) (eg : ∀ args w, (callFunc g args).run Tryz.prog w = .ok (.enter g args) w) (wb : World)
    (A0 : Option Addr) (c0 : Nat) (l0 : List S86) (r : Int) (w : World) (hB : Below wb.heap.size wb w) (hr0 : Kd.C k86 w A0 l0.length l0) (hc0 : l0.length ≤ c0)
    (hp : PredV Tryz.prog g lb wb p) (h : idxO p l0 0 = some r) :
    Calls Tryz.prog 117 #[.slice A0 l0.length c0, .func (.func g) #[] lb] w fun e w' => e = .returned (.int .i64 r) ∧ Below w.heap.size w w' := by
  have hlen := hr0.2.1
  have HR0 := Aside0.mk hr0
  have HWB := Aside0.mk hB
  clear hr0 hB
  have HP := Aside0.mk hp
  clear hp
  have H0 := Aside0.mk h
  clear h
  go_enter Tryz.func117, Tryz.ntmps117
  go_wp2
  go_loopg [5, 8] l0.length (fun gg _ s8 wr => ∃ kk : Nat, kk ≤ l0.length ∧ l0.length - kk ≤ gg ∧ s8 = .int .i64 kk ∧ Aside0 (Below w.heap.size w wr) ∧ Aside0 (idxO p (l0.drop kk) kk = some r))
  case atStart => exact ⟨0, Nat.zero_le _, by omega, rfl, ⟨Below.refl _ w⟩, H0⟩
  case round =>
    obtain ⟨kk, hkk, hg, rfl, BW, A⟩ := hrel
    by_cases hlt : kk < l0.length
    · have hltz : (kk : Int) < (l0.length : Int) := by omega
      obtain ⟨ad, A1, c1, e, x0, x1, l1, g1⟩ := at_T86 (Kd.C_below HR0.out BW.out) (kk : Int) (by omega) hltz
      subst e
      rw [Int.toNat_natCast] at x0 x1
      obtain ⟨b, hb, h1, h2⟩ := idxO_step A.out (show l0[kk]? = some (rd_T86 l0 (kk : Int)) by unfold rd_T86; rw [Int.toNat_natCast, List.getD_eq_getElem?_getD, List.getElem?_eq_getElem hlt]; rfl)
      have hcall := HP.out wr _ A1 c1 b (HWB.out.trans (BW.out.mono HWB.out.size)) l1 g1 hb
      generalize rd_T86 l0 (kk : Int) = y at x0 x1 hcall hb l1 g1
      clear g1 hb
      cases b with
      | true =>
        have E := Aside0.mk (h1 rfl)
        clear h1 h2
        go_wp2_with (go_at_fn g; refine hcall.mono ?_; rintro e w' ⟨rfl, hb'⟩)
        go_ret
        exact ⟨ret_i E.out.symm, BW.out.trans (hb'.mono BW.out.size)⟩
      | false =>
        have E := Aside0.mk (h2 rfl)
        clear h1 h2
        go_wp2_with (go_at_fn g; refine hcall.mono ?_; rintro e w' ⟨rfl, hb'⟩)
        go_roundg (l0.length - (kk + 1))
        case measure => omega
        case rel => exact ⟨kk + 1, by omega, by omega, by go_num, ⟨BW.out.trans (hb'.mono BW.out.size)⟩, E⟩
    · have hltz : ¬ (kk : Int) < (l0.length : Int) := by omega
      have : kk = l0.length := by omega
      subst this
      go_wp2
      go_ret
      refine ⟨?_, BW.out⟩
      have h3 := A.out
      rw [List.drop_length] at h3
      have h4 : (-1 : Int) = r := by simpa [idxO] using h3
      exact ret_i h4
set_option maxHeartbeats 1000000 in
theorem containsFunc_votes (p : S86 → Option Bool) (g : Nat) (lb : Array Value) (eg : ∀ args w, (callFunc g args).run Tryz.prog w = .ok (.enter g args) w) (wb : World)
    (A0 : Option Addr) (c0 : Nat) (l0 : List S86) (r : Bool) (w : World) (hB : Below wb.heap.size wb w) (hr0 : Kd.C k86 w A0 l0.length l0) (hc0 : l0.length ≤ c0)
    (hp : PredV Tryz.prog g lb wb p) (h : anyO p l0 = some r) :
    Calls Tryz.prog 89 #[.slice A0 l0.length c0, .func (.func g) #[] lb] w fun e w' => e = .returned (.bool r) ∧ Below w.heap.size w w' := by
  obtain ⟨i, hi, rfl⟩ := anyO_idxO p l0 0 r h
  have hcon := indexFunc_votes p g lb eg wb A0 c0 l0 i w hB hr0 hc0 hp hi
  clear hr0 hp h hi hB
  go_enter Tryz.func89, Tryz.ntmps89
  go_wp2_with (go_at_call 117; refine hcon.mono ?_; rintro e w' ⟨rfl, hb'⟩)
  go_ret
  exact ⟨rfl, hb'⟩
def impl_sure_1_1.f (a0 : Int) (l : List Bool) (a1 : Int) (a2 : Bool) : Option Bool := if 0 ≤ a1 then (if a1 < (l.length : Int) then some ((rdOf false l a1) != a2) else none) else none
set_option maxHeartbeats 2000000 in
theorem impl_sure_1_1.calls (a0 : Int) (A : Option Addr) (c : Nat) (l : List Bool) (a1 : Int) (a2 : Bool) (r : Bool) (w : World) (g1 : Nat) (h1 : w.heap[g1]? = some (.cells #[.int .i64 a1] 3 (0, 0))) (g2 : Nat) (h2 : w.heap[g2]? = some (.cells #[.bool a2] 4 (0, 0))) (hC : Kd.C Kd.bool w A l.length l) (hc : l.length ≤ c) (h : impl_sure_1_1.f a0 l a1 a2 = some r) :
    Calls Tryz.prog 90 #[.agg #[.int .i64 a0, .slice A l.length c], .pointer (some ⟨g1, 0, none⟩), .pointer (some ⟨g2, 0, none⟩)] w fun e w' => e = .returned (.bool r) ∧ Below w.heap.size w w' := by
  unfold impl_sure_1_1.f at h
  by_cases c0 : 0 ≤ a1
  case neg => rw [if_neg c0] at h; cases h
  by_cases c1 : a1 < (l.length : Int)
  case neg => rw [if_pos c0, if_neg c1] at h; cases h
  rw [if_pos c0, if_pos c1] at h
  have hE := Aside0.mk (Option.some.inj h)
  obtain ⟨ad, e, x0⟩ := Kd.at_bool (Kd.C_alloc hC (.cells #[.int .i64 a0, .slice A l.length c] 86 (0, 0))) a1 c0 c1
  subst e
  have q1 := Nat.ne_of_gt (blk_lt h1)
  have q2 := Nat.ne_of_gt (blk_lt h2)
  have q3 := q1.symm
  have q4 := q2.symm
  have hz := blk_new w (.cells #[.int .i64 a0, .slice (some ad) l.length c] 86 (0, 0))
  have hz0 := (blk_cell hz 0).trans rfl
  have hz1 := (blk_cell hz 1).trans rfl
  have hy0 := (blk_cell (blk_alloc h1 (.cells #[.int .i64 a0, .slice (some ad) l.length c] 86 (0, 0))) 0).trans rfl
  have hx0 := (blk_cell (blk_alloc h2 (.cells #[.int .i64 a0, .slice (some ad) l.length c] 86 (0, 0))) 0).trans rfl
  generalize rdOf false l a1 = b at x0 hE
  have u1 := Tryz.underlying86
  have c0' := eq_true c0
  have c1' := eq_true c1
  clear h h1 h2 hC hz
  go_enter Tryz.func90, Tryz.ntmps90
  go_wp2
  generalize hwr : w.alloc (.cells #[.int .i64 a0, .slice (some ad) l.length c] 86 (0, 0)) = wr at x0 hz0 hz1 hy0 hx0 ⊢
  refine start_ (n := 8) (S := fun w' => w'.cell? ⟨w.heap.size, 1, none⟩ = some (.slice (some ad) l.length c) ∧ w'.cell? ⟨g1, 0, none⟩ = some (.int .i64 a1) ∧ w'.cell? ⟨g2, 0, none⟩ = some (.bool a2) ∧ w'.cell? (ad.add a1.toNat) = some (.bool b)) (ds := []) #[false, false, false, false, false, false, false, false] (by kernel_rfl) rfl rfl ⟨hz1, hy0, hx0, x0⟩ (fun hHeld => ?_)
  refine take_ (i := 0) (N := some 5) (v := ?_) (a' := ?_) #[true, false, false, false, false, false, false, false] rfl rfl (by kernel_rfl) (fun _ _ _ h => h) (Or.inl ⟨by rfl, ?_⟩) hHeld ?_ ?_
  rotate_left
  · rintro w' ⟨s0, s1, s2, s3⟩
    go_simp
    with_reducible rfl
  rotate_left
  · simp only [Act.put, List.setIfInBounds_toArray, List.set_cons_zero, List.set_cons_succ, i64_w, i32_w]
    rfl
  refine take_ (i := 1) (N := some 6) (v := ?_) (a' := ?_) #[true, true, false, false, false, false, false, false] rfl rfl (by kernel_rfl) (fun _ _ _ h => h) (Or.inl ⟨by rfl, ?_⟩) hHeld ?_ ?_
  rotate_left
  · rintro w' ⟨s0, s1, s2, s3⟩
    go_simp
    with_reducible rfl
  rotate_left
  · simp only [Act.put, List.setIfInBounds_toArray, List.set_cons_zero, List.set_cons_succ, i64_w, i32_w]
    rfl
  refine take_ (i := 2) (N := some 7) (v := ?_) (a' := ?_) #[true, true, true, false, false, false, false, false] rfl rfl (by kernel_rfl) (fun _ _ _ h => h) (Or.inl ⟨by rfl, ?_⟩) hHeld ?_ ?_
  rotate_left
  · rintro w' ⟨s0, s1, s2, s3⟩
    go_simp
    with_reducible rfl
  rotate_left
  · simp only [Act.put, List.setIfInBounds_toArray, List.set_cons_zero, List.set_cons_succ, i64_w, i32_w]
    rfl
  refine take_ (i := 3) (N := some 8) (v := ?_) (a' := ?_) #[true, true, true, true, false, false, false, false] rfl rfl (by kernel_rfl) (fun _ _ _ h => h) (Or.inl ⟨by rfl, ?_⟩) hHeld ?_ ?_
  rotate_left
  · rintro w' ⟨s0, s1, s2, s3⟩
    go_simp
    with_reducible rfl
  rotate_left
  · simp only [Act.put, List.setIfInBounds_toArray, List.set_cons_zero, List.set_cons_succ, i64_w, i32_w]
    rfl
  refine take_ (i := 4) (N := some 9) (v := ?_) (a' := ?_) #[true, true, true, true, true, false, false, false] rfl rfl (by kernel_rfl) (fun _ _ _ h => h) (Or.inl ⟨by rfl, ?_⟩) hHeld ?_ ?_
  rotate_left
  · rintro w' ⟨s0, s1, s2, s3⟩
    go_simp
    with_reducible rfl
  rotate_left
  · simp only [Act.put, List.setIfInBounds_toArray, List.set_cons_zero, List.set_cons_succ, i64_w, i32_w]
    rfl
  refine take_ (i := 5) (N := some 10) (v := ?_) (a' := ?_) #[true, true, true, true, true, true, false, false] rfl rfl (by kernel_rfl) (fun _ _ _ h => h) (Or.inl ⟨by rfl, ?_⟩) hHeld ?_ ?_
  rotate_left
  · rintro w' ⟨s0, s1, s2, s3⟩
    go_simp
    with_reducible rfl
  rotate_left
  · simp only [Act.put, List.setIfInBounds_toArray, List.set_cons_zero, List.set_cons_succ, i64_w, i32_w]
    rfl
  refine take_ (i := 6) (N := some 11) (v := ?_) (a' := ?_) #[true, true, true, true, true, true, true, false] rfl rfl (by kernel_rfl) (fun _ _ _ h => h) (Or.inl ⟨by rfl, ?_⟩) hHeld ?_ ?_
  rotate_left
  · rintro w' ⟨s0, s1, s2, s3⟩
    go_simp
    with_reducible rfl
  rotate_left
  · simp only [Act.put, List.setIfInBounds_toArray, List.set_cons_zero, List.set_cons_succ, i64_w, i32_w]
    rfl
  refine take_ (i := 7) (N := some 4) (v := ?_) (a' := ?_) #[true, true, true, true, true, true, true, true] rfl rfl (by kernel_rfl) (fun _ _ _ h => h) (Or.inl ⟨by rfl, ?_⟩) hHeld ?_ ?_
  rotate_left
  · rintro w' ⟨s0, s1, s2, s3⟩
    go_simp
    with_reducible rfl
  rotate_left
  · simp only [Act.put, List.setIfInBounds_toArray, List.set_cons_zero, List.set_cons_succ, i64_w, i32_w]
    rfl
  refine done_ (by kernel_rfl) ?_
  have hbr : Below w.heap.size w wr := by rw [← hwr]; exact (Below.refl _ w).alloc (Nat.le_refl _) _
  go_wp2
  go_ret
  exact ⟨ret_b hE.out, hbr.drew⟩
theorem impl_sure_11.pred (mask : Int) (win : Bool) (b1 b2 : Nat) (w : World) (h1 : w.heap[b1]? = some (.cells #[.int .i64 mask] 3 (0, 0))) (h2 : w.heap[b2]? = some (.cells #[.bool win] 4 (0, 0))) :
    PredV Tryz.prog 90 #[.pointer (some ⟨b1, 0, none⟩), .pointer (some ⟨b2, 0, none⟩)] w (fun v => impl_sure_1_1.f v.f0 v.f1 mask win) :=
  fun W x A c b hb hl hC hp => impl_sure_1_1.calls x.f0 A c x.f1 mask win b W b1 (blk_below h1 hb) b2 (blk_below h2 hb) hC hl hp
def sureP (l : List S86) (win : Bool) (mask : Int) : Option Bool := (anyO (fun v => impl_sure_1_1.f v.f0 v.f1 mask win) l).bind fun t => some (!t)
set_option maxHeartbeats 1000000 in
theorem impl_sure_1.pred (l : List S86) (A : Option Addr) (c : Nat) (win : Bool) (b1 b2 : Nat) (w : World) (h1 : w.cell? ⟨b1, 0, none⟩ = some (.slice A l.length c)) (h2 : w.heap[b2]? = some (.cells #[.bool win] 4 (0, 0))) (hC : Kd.C k86 w A l.length l) (hc : l.length ≤ c) :
    PredI Tryz.prog 88 #[] #[.pointer (some ⟨b1, 0, none⟩), .pointer (some ⟨b2, 0, none⟩)] w (sureP l win) := by
  intro W x b hb hp
  show Calls Tryz.prog 88 #[.int .i64 x, .pointer (some ⟨b1, 0, none⟩), .pointer (some ⟨b2, 0, none⟩)] W _
  have eg : ∀ args w, (callFunc 90 args).run Tryz.prog w = .ok (.enter 90 args) w := enters_of Tryz.func90 (by kernel_rfl) rfl
  have q1 := (hb.cell (World.block_lt_of_cell? w _ h1)).trans h1
  obtain ⟨t, ht, hp⟩ := Option.bind_eq_some_iff.mp hp
  have hR := Aside0.mk (Kd.C_below hC hb)
  have hE := Aside0.mk ht
  have hN := Aside0.mk (Option.some.inj hp)
  have h3 := Aside0.mk (blk_below h2 hb)
  have EG := Aside0.mk eg
  clear h1 h2 hb hC hp ht eg
  have q2 : (W.alloc (.cells #[.int .i64 x] 3)).cell? ⟨b1, 0, none⟩ = some (.slice A l.length c) := (Below.cell ((Below.refl _ W).alloc (Nat.le_refl _) _) (World.block_lt_of_cell? W _ q1)).trans q1
  go_enter Tryz.func88, Tryz.ntmps88
  go_wp2_with fail
  refine (containsFunc_votes (fun v => impl_sure_1_1.f v.f0 v.f1 x win) 90 #[.pointer (some ⟨W.heap.size, 0, none⟩), .pointer (some ⟨b2, 0, none⟩)] EG.out _ A c l t _ (Below.refl _ _) ?_ hc ?_ hE.out).mono ?_
  · exact Kd.C_below hR.out ((Below.refl _ W).alloc (Nat.le_refl _) _)
  · exact impl_sure_11.pred x win _ _ _ (blk_new W _) (blk_alloc h3.out _)
  · rintro e w' ⟨rfl, hb⟩
    go_wp2
    go_ret
    exact ⟨ret_b hN.out, ((Below.refl _ W).alloc (Nat.le_refl _) _).trans (hb.mono (by simp))⟩
def setsSure.f (k : Nat) (n : Int) (l0 : List Bool) (l1 : List S86) (win : Bool) : Option (List (List Int)) := impl_votes_sets.f k n l0 (sureP l1 win)
theorem setsSure.calls (k : Nat) (n : Int) (A0 : Option Addr) (c0 : Nat) (l0 : List Bool) (A1 : Option Addr) (c1 : Nat) (l1 : List S86) (win : Bool) (r : List (List Int)) (w : World) (hr0 : Kd.C Kd.bool w A0 l0.length l0) (hc0 : l0.length ≤ c0) (hr1 : Kd.C k86 w A1 l1.length l1) (hc1 : l1.length ≤ c1)
    (gb1 : Nat) (hcell : w.cell? ⟨gb1, 0, none⟩ = some (.slice A1 l1.length c1)) (gb2 : Nat) (hb2 : w.heap[gb2]? = some (.cells #[.bool win] 4 (0, 0))) (h : setsSure.f k n l0 l1 win = some r) :
    Calls Tryz.prog 87 #[.agg #[.int .i64 n, .slice A0 l0.length c0], .func (.func 88) #[] #[.pointer (some ⟨gb1, 0, none⟩), .pointer (some ⟨gb2, 0, none⟩)]] w fun e w' => ∃ v0_ : Value, e = .returned v0_ ∧ Kd.S (Kd.slice 3 (Kd.int .i64)) 36 w' w.heap.size (fun _ => True) v0_ r ∧ Below w.heap.size w w' :=
  impl_votes_sets.calls k n A0 c0 l0 _ 88 #[] #[.pointer (some ⟨gb1, 0, none⟩), .pointer (some ⟨gb2, 0, none⟩)] (enters_of Tryz.func88 (by kernel_rfl) rfl) r w (impl_sure_1.pred l1 A1 c1 win gb1 gb2 w hcell hb2 hr1 hc1) hr0 hc0 h
end Go.Proofs.YtgjakcpbfbfejaaGreat.Q
end
section
namespace Go.Proofs.YtgjakcpbfbfejaaGreat.Q
open Go.RowKit Go.Proofs.YtgjakcpbfbfejaaGreatW.PrintWords Go.Proofs.YtgjakcpbfbfejaaGreatW.PrintLast Go.Proofs.YtgjakcpbfbfejaaGreatW.PrintMore
attribute [local go_sem] max2_int min2_int max_two min_two max_three min_three max_four min_four
set_option linter.unusedVariables false
set_option linter.unusedSimpArgs false
mutual
def impl_sure.j0 : Nat → List (S46) → Bool → Bool → Option ((List (List Int)) × Bool)
 | 0, _, _, _ => none
 | k + 1, x6, x22, x854000 => if x22 = true then (some (([] : List (List Int)), false)) else (impl_sure.l0 k x6 (x6.length : Int) 0 x854000 (([] : List (S86))))
def impl_sure.l0 : Nat → List (S46) → Int → Int → Bool → List (S86) → Option ((List (List Int)) × Bool)
 | 0, _, _, _, _, _ => none
 | k + 1, x24, x25, x26, x854000, x862000 => if x26 < x25 then (if 0 ≤ x26 then (if x26 < (x24.length : Int) then ((impl_Game_votes.f k ((rd_T46 x24 x26).f0) ((rd_T46 x24 x26).f1)).bind fun bt864 => (if x862000.length < 4398046511104 then (impl_sure.l0 k x24 x25 (wrap64 (x26 + 1)) x854000 (x862000 ++ [(⟨bt864.1, bt864.2⟩ : S86)])) else (none))) else (none)) else (none)) else (if 0 < (x862000.length : Int) then ((setsSure.f k ((rd_T86 x862000 0).f0) ((rd_T86 x862000 0).f1) x862000 x854000).bind fun t872 => (some (t872, true))) else (none))
end
def impl_sure.f (k : Nat) (a0_0 : Int) (l0_1 : List (S72)) (a1 : Bool) : Option ((List (List Int)) × Bool) := (impl_Solutions.f k a0_0 l0_1).bind fun bt854 => (if bt854.2 = true then (impl_sure.j0 k bt854.1 ((bt854.1.length : Int) == 0) a1) else (impl_sure.j0 k bt854.1 true a1))
set_option maxHeartbeats 8000000 in
set_option maxRecDepth 100000 in
theorem impl_sure.calls (k : Nat) (a0_0 : Int) (A0_1 : Option Addr) (c0_1 : Nat) (l0_1 : List (S72)) (a1 : Bool) (r1 : List (List Int)) (r2 : Bool) (w : World) (hr0_1 : Kd.C k72 w A0_1 l0_1.length l0_1) (hc0_1 : l0_1.length ≤ c0_1) (h : impl_sure.f k a0_0 l0_1 a1 = some (r1, r2)) :
  Calls Tryz.prog 66 #[.agg #[.int .i64 a0_0, .slice A0_1 l0_1.length c0_1], .bool a1] w fun e w' => ∃ v0_ : Value, e = .returned (.tuple #[v0_, .bool r2]) ∧ Kd.S (Kd.slice 3 (Kd.int .i64)) 36 w' w.heap.size (fun _ => True) v0_ r1 ∧ Below w.heap.size w w' := by
 have hu30 := Tryz.underlying30
 have hu46 := Tryz.underlying46
 have hu86 := Tryz.underlying86
 have HR0_1 := Aside0.mk hr0_1
 have HC0_1 := Aside0.mk hc0_1
 clear hr0_1 hc0_1
 have HB := Aside0.mk (Below.refl w.heap.size w)
 have H : ((impl_Solutions.f k a0_0 l0_1).bind fun bt854 => (if bt854.2 = true then (impl_sure.j0 k bt854.1 ((bt854.1.length : Int) == 0) a1) else (impl_sure.j0 k bt854.1 true a1))) = some (r1, r2) := h
 clear h
 replace H := Option.bind_eq_some_iff.mp H
 obtain ⟨⟨t854, t857⟩, A30, H⟩ := H
 replace H : (if t857 = true then (impl_sure.j0 k t854 ((t854.length : Int) == 0) a1) else (impl_sure.j0 k t854 true a1)) = some (r1, r2) := H
 have A3 := Aside0.mk A30
 clear A30
 have HC4 := Aside0.mk H
 clear H
 go_enter Tryz.func66, Tryz.ntmps66
 go_upto_region 2 with (first | ((with_reducible refine gate_dst (N := 2) rfl ?_); (try (refine gate_guard (by rfl) ?_; dsimp only)); refine zq 2 #[.int .i64 a0_0, .slice A0_1 l0_1.length c0_1] 30 ?_; intro gb852 hg w5 hbox hb; have n2_ := Aside0.mk ((by rw [hg]; exact (below_size (zh HB.out)) : w.heap.size ≤ gb852)); replace HB := Aside0.mk (below_step (zh HB.out) hb); have BK852 := Aside0.mk hbox; have GW852 := n2_; have GE852 := n2_; clear n2_ hb hbox hg) | ((with_reducible refine gate_dst (N := 3) rfl ?_); (try (refine gate_guard (by rfl) ?_; dsimp only)); refine zq 3 #[.bool a1] 4 ?_; intro gb853 hg w6 hbox hb; have n0_ := Aside0.mk (blk_below (g := gb852) (o := .cells #[.int .i64 a0_0, .slice A0_1 l0_1.length c0_1] 30 (0, 0)) (zb BK852.out) hb); have n1_ := Aside0.mk (below_step (zh HB.out) hb); have n2_ := Aside0.mk (hbox); have n3_ := Aside0.mk ((by rw [hg]; exact (below_size (zh HB.out)) : w.heap.size ≤ gb853)); have n4_ := Aside0.mk ((by rw [hg]; exact (below_size (zh HB.out)) : w.heap.size ≤ gb853)); have n5_ := Aside0.mk ((by rw [hg]; exact Nat.ne_of_lt (blk_lt (g := gb852) (o := .cells #[.int .i64 a0_0, .slice A0_1 l0_1.length c0_1] 30 (0, 0)) (zb BK852.out)) : gb852 ≠ gb853)); have n6_ := Aside0.mk ((by rw [hg]; exact Nat.ne_of_gt (blk_lt (g := gb852) (o := .cells #[.int .i64 a0_0, .slice A0_1 l0_1.length c0_1] 30 (0, 0)) (zb BK852.out)) : gb853 ≠ gb852)); clear BK852; clear HB; have BK852 := n0_; have HB := n1_; have BK853 := n2_; have GW853 := n3_; have GE853 := n4_; have NB852_853 := n5_; have NB853_852 := n6_; clear n0_ n1_ n2_ n3_ n4_ n5_ n6_; clear hb hbox hg; have hnb7 := NB852_853.out; have hnc7 := NB853_852.out; have hcz8_0 : w6.cell? ⟨gb852, 0, none⟩ = some (.int .i64 a0_0) := (blk_cell BK852.out 0).trans rfl; have hcz8_1 : w6.cell? ⟨gb852, 1, none⟩ = some (.slice A0_1 l0_1.length c0_1) := (blk_cell BK852.out 1).trans rfl; have hfz8_0 := blk_frozen BK852.out 0; have hfz8_1 := blk_frozen BK852.out 1) | ((with_reducible refine gate_callee (f := 39) rfl ?_); refine zl 13 Tryz.func39 #[.agg #[.int .i64 a0_0, .slice A0_1 l0_1.length c0_1]] ?_; (with_reducible refine (impl_Solutions.calls k a0_0 _ _ l0_1 t854 t857 _ ?side1 ?side2 A3.out).mono ?_); (case side1 => repeat (first | exact (Kd.C_below HR0_1.out HB.out) | (with_reducible refine Kd.C_alloc ?_ _) | (with_reducible refine Kd.C_drewN ?_ _) | (with_reducible refine Kd.C_drew ?_))); (case side2 => exact HC0_1.out); rintro e w9 ⟨v855, rfl, ho0, hb⟩; refine ⟨_, rfl, ?_⟩; have n0_ := Aside0.mk (Kd.V_lower (Kd.V_mono (ok' := fun k_ => k_ ≠ gb852 ∧ k_ ≠ gb853) ho0 (fun k_ hk_ => ⟨(Kd.freshB (g := gb852) (o := .cells #[.int .i64 a0_0, .slice A0_1 l0_1.length c0_1] 30 (0, 0)) (zb BK852.out) k_ hk_), (Kd.freshB (g := gb853) (o := .cells #[.bool a1] 4 (0, 0)) (zb BK853.out) k_ hk_)⟩)) (below_size (zh HB.out))); have n1_ := Aside0.mk (blk_below (g := gb852) (o := .cells #[.int .i64 a0_0, .slice A0_1 l0_1.length c0_1] 30 (0, 0)) (zb BK852.out) hb); have n2_ := Aside0.mk (blk_below (g := gb853) (o := .cells #[.bool a1] 4 (0, 0)) (zb BK853.out) hb); have n3_ := Aside0.mk (below_step (zh HB.out) hb); clear BK852; clear BK853; clear HB; have HO856 := n0_; have BK852 := n1_; have BK853 := n2_; have HB := n3_; clear n0_ n1_ n2_ n3_; (try clear hb); (try clear hb2); (try clear hk); (try clear hi); (try clear ho0)))
 (try simp only [Act.put, List.setIfInBounds_toArray, List.set_cons_zero, List.set_cons_succ])
 go_cut [22] (fun v22 wc => ∃ (kq : Nat) (x22_3 : Bool), v22 = .bool x22_3 ∧ Aside0 (impl_sure.j0 kq t854 x22_3 a1 = some (r1, r2)) ∧ Aside0 (kq ≤ k) ∧ Aside0 (Kd.V k46 46 wc w.heap.size (fun k_ => k_ ≠ gb852 ∧ k_ ≠ gb853) v855 t854) ∧ Aside0 (wc.heap[gb852]? = some (.cells #[.int .i64 a0_0, (.slice A0_1 l0_1.length c0_1)] 30 (0, 0))) ∧ Aside0 (wc.heap[gb853]? = some (.cells #[.bool a1] 4 (0, 0))) ∧ Aside0 (Below w.heap.size w wc))
 case first =>
  have H := HC4.out
  clear HC4
  by_cases c10 : t857 = true
  ·subst c10
   have H1 : (impl_sure.j0 k t854 ((t854.length : Int) == 0) a1) = some (r1, r2) := by rw [if_pos rfl] at H; exact H
   clear H
   have H := H1
   clear H1
   have H' := Aside0.mk H
   clear H
   obtain ⟨Ao11, co11, eo11⟩ := Kd.V_slice HO856.out
   subst eo11
   go_wp2
   go_meet
   case rel => exact ⟨_, (((t854.length : Int) == 0)), (by first | rfl | (simp; done) | (simp [*]; done)), H', ⟨by first | omega | exact Nat.le_refl _⟩, ⟨by (with_reducible repeat (first | apply Kd.V_alloc | apply Kd.V_drewN | apply Kd.V_drew)); exact HO856.out⟩, ⟨zb BK852.out⟩, ⟨zb BK853.out⟩, ⟨zh HB.out⟩⟩
  ·replace c10 := Bool.eq_false_iff.mpr c10
   subst c10
   have H1 : (impl_sure.j0 k t854 true a1) = some (r1, r2) := by rw [if_neg (show ¬ (false = true) by decide)] at H; exact H
   clear H
   have H := H1
   clear H1
   have H' := Aside0.mk H
   clear H
   go_wp2
   go_meet
   case rel => exact ⟨_, (true), (by first | rfl | (simp; done) | (simp [*]; done)), H', ⟨by first | omega | exact Nat.le_refl _⟩, ⟨by (with_reducible repeat (first | apply Kd.V_alloc | apply Kd.V_drewN | apply Kd.V_drew)); exact HO856.out⟩, ⟨zb BK852.out⟩, ⟨zb BK853.out⟩, ⟨zh HB.out⟩⟩
 case rest =>
  clear HC4
  try clear c1
  try clear p2
  try clear c3
  try clear c6
  try clear c7
  try clear c10
  try clear hcz8_0
  try clear hcz8_1
  try clear hfz8_0
  try clear hfz8_1
  obtain ⟨kq, x22_3, rfl, HA, HJ3, HO_6, BK852, BK853, HB⟩ := hcut
  cases kq with
  | zero => exact absurd HA.out (by simp [impl_sure.j0])
  | succ kj3 =>
   have H := HA.out
   clear HA
   simp only [impl_sure.j0] at H
   by_cases c12 : x22_3 = true
   ·subst c12
    have H1 : (some (([] : List (List Int)), false)) = some (r1, r2) := by rw [if_pos rfl] at H; exact H
    clear H
    have H := H1
    clear H1
    simp only [Option.some.injEq, Prod.mk.injEq] at H
    obtain ⟨rfl, rfl⟩ := H
    go_wp2
    go_ret2
    exact ⟨_, by first | rfl | (simp [*, errW_none, errW_some] <;> rfl), by first | exact Kd.S_nil _ _ _ _ _ | exact Kd.N_nil _ _ _ _ _ | exact Kd.V_nil _ _ _ _ _ | exact Kd.Q_nil _ _ _ _ _ | exact Kd.R_nil _ _ _ _ _, zh HB.out⟩
   replace c12 := Bool.eq_false_iff.mpr c12
   subst c12
   have H1 : (impl_sure.l0 kj3 t854 (t854.length : Int) 0 a1 (([] : List (S86)))) = some (r1, r2) := by rw [if_neg (show ¬ (false = true) by decide)] at H; exact H
   clear H
   have H := H1
   clear H1
   obtain ⟨y858, hy858⟩ : ∃ y_ : List (S86), y_ = (([] : List (S86))) := ⟨_, rfl⟩
   replace H : (impl_sure.l0 kj3 t854 (t854.length : Int) 0 a1 y858) = some (r1, r2) := by first | (rw [hy858]; with_reducible exact H) | (have H2_ := (Option.bind_some _ _).symm.trans H; rw [hy858]; with_reducible exact H2_) | (have H2_ := (Option.bind_some _ _).symm.trans H; with_reducible exact H2_) | with_reducible exact H | (rw [hy858]; exact H) | exact H
   have Ny858 := Aside0.mk hy858
   clear hy858
   have H' := Aside0.mk H
   clear H
   go_wp2_with (first | ((with_reducible refine gate_dst (N := 23) rfl ?_); (try (refine gate_guard (by rfl) ?_; dsimp only)); refine Kd.S_lit k86 _ 86 ?hg (N := 23) ?hd (xs := ([] : List (S86))) (inner := []) (ok := fun _ => True) (okp := fun _ => True) ?hr ?hp (fun _ hk => hk) trivial (Below.refl _ _) (Nat.le_refl _) (by simp) ?_; (case hd => rfl); (case hg => rfl); (case hr => first | (go_simp; done) | (go_simp; rfl)); (case hp => exact (Reps.none _ _)); intro v859 w13 ho14 hb hg_ hnew_; clear hg_ hnew_; (first | rw [← Ny858.out] at ho14 | (simp only [Int.reduceToNat] at ho14; rw [← Ny858.out] at ho14)); have n0_ := Aside0.mk (Kd.V_elder' (by (with_reducible repeat (first | apply Kd.V_alloc | apply Kd.V_drewN | apply Kd.V_drew)); exact HO_6.out) (Kd.S_base ho14) hb); have n1_ := Aside0.mk (Kd.S_lower (Kd.S_newB ho14 (g := gb853) (o := .cells #[.bool a1] 4 (0, 0)) (zb BK853.out)) (below_size (zh HB.out))); have n2_ := Aside0.mk (blk_below (g := gb852) (o := .cells #[.int .i64 a0_0, .slice A0_1 l0_1.length c0_1] 30 (0, 0)) (zb BK852.out) hb); have n3_ := Aside0.mk (blk_below (g := gb853) (o := .cells #[.bool a1] 4 (0, 0)) (zb BK853.out) hb); have n4_ := Aside0.mk (below_step (zh HB.out) hb); clear HO_6; clear BK852; clear BK853; clear HB; have HO_6 := n0_; have HO860 := n1_; have BK852 := n2_; have BK853 := n3_; have HB := n4_; clear n0_ n1_ n2_ n3_ n4_; clear hb ho14) | ((with_reducible refine gate_dst (N := 8) rfl ?_); (try (refine gate_guard (by rfl) ?_; dsimp only)); refine zq 8 #[.slice none 0 0] 94 ?_; intro gb861 hg w15 hbox hb; have n0_ := Aside0.mk (Kd.V_below (Kd.V_elderB (by (with_reducible repeat (first | apply Kd.V_alloc | apply Kd.V_drewN | apply Kd.V_drew)); exact HO_6.out) gb861 (Nat.le_of_eq hg.symm)) hb); have n1_ := Aside0.mk (Kd.S_below (by (with_reducible repeat (first | apply Kd.S_alloc | apply Kd.S_drewN | apply Kd.S_drew)); exact HO860.out) hb); have n2_ := Aside0.mk (blk_below (g := gb852) (o := .cells #[.int .i64 a0_0, .slice A0_1 l0_1.length c0_1] 30 (0, 0)) (zb BK852.out) hb); have n3_ := Aside0.mk (blk_below (g := gb853) (o := .cells #[.bool a1] 4 (0, 0)) (zb BK853.out) hb); have n4_ := Aside0.mk (below_step (zh HB.out) hb); have n5_ := Aside0.mk (hbox); have n6_ := Aside0.mk ((by rw [hg]; exact (below_size (zh HB.out)) : w.heap.size ≤ gb861)); have n7_ := Aside0.mk ((by rw [hg]; exact (below_size (zh HB.out)) : w.heap.size ≤ gb861)); have n8_ := Aside0.mk ((by rw [hg]; exact Nat.ne_of_lt (blk_lt (g := gb852) (o := .cells #[.int .i64 a0_0, .slice A0_1 l0_1.length c0_1] 30 (0, 0)) (zb BK852.out)) : gb852 ≠ gb861)); have n9_ := Aside0.mk ((by rw [hg]; exact Nat.ne_of_gt (blk_lt (g := gb852) (o := .cells #[.int .i64 a0_0, .slice A0_1 l0_1.length c0_1] 30 (0, 0)) (zb BK852.out)) : gb861 ≠ gb852)); have n10_ := Aside0.mk ((by rw [hg]; exact Nat.ne_of_lt (blk_lt (g := gb853) (o := .cells #[.bool a1] 4 (0, 0)) (zb BK853.out)) : gb853 ≠ gb861)); have n11_ := Aside0.mk ((by rw [hg]; exact Nat.ne_of_gt (blk_lt (g := gb853) (o := .cells #[.bool a1] 4 (0, 0)) (zb BK853.out)) : gb861 ≠ gb853)); clear HO_6; clear HO860; clear BK852; clear BK853; clear HB; have HO_6 := n0_; have HO860 := n1_; have BK852 := n2_; have BK853 := n3_; have HB := n4_; have BK861 := n5_; have GW861 := n6_; have GE861 := n7_; have NB852_861 := n8_; have NB861_852 := n9_; have NB853_861 := n10_; have NB861_853 := n11_; clear n0_ n1_ n2_ n3_ n4_ n5_ n6_ n7_ n8_ n9_ n10_ n11_; clear hb hbox hg; obtain ⟨Ao16, co16, eo16⟩ := Kd.S_slice HO860.out; subst eo16; have hnb17 := NB861_852.out; have hnc17 := NB852_861.out; have hnb18 := NB861_853.out; have hnc18 := NB853_861.out; have hcz19_0 : w15.cell? ⟨gb861, 0, none⟩ = some (.slice none 0 0) := (blk_cell BK861.out 0).trans rfl; have hfz19_0 := blk_frozen BK861.out 0; obtain ⟨Ao20, co20, eo20⟩ := Kd.V_slice HO_6.out; subst eo20))
   go_loopg [26] kj3 (fun kq v26 w' => ∃ (x26_2 : Int) (x862000_2 : List (S86)) (u862000 : Value), v26 = .int .i64 x26_2 ∧ Aside0 (impl_sure.l0 kq t854 (t854.length : Int) x26_2 a1 x862000_2 = some (r1, r2)) ∧ Aside0 (kq ≤ kj3) ∧ Aside0 (Kd.V k46 46 w' w.heap.size (fun k_ => some k_ ≠ (u862000 : Value).ownBlock ∧ k_ ≠ gb852 ∧ k_ ≠ gb853 ∧ k_ ≠ gb861) (.slice Ao20 t854.length co20) t854) ∧ Aside0 (Kd.S k86 86 w' w.heap.size (fun k_ => k_ ≠ gb853) u862000 x862000_2) ∧ Aside0 (w'.heap[gb852]? = some (.cells #[.int .i64 a0_0, (.slice A0_1 l0_1.length c0_1)] 30 (0, 0))) ∧ Aside0 (w'.heap[gb853]? = some (.cells #[.bool a1] 4 (0, 0))) ∧ Aside0 (w'.heap[gb861]? = some (.cells #[u862000] 94 (0, 0))) ∧ Aside0 (Below w.heap.size w w'))
   case atStart => exact ⟨(0), (y858), (.slice Ao16 y858.length co16), (by first | rfl | (simp; done) | (simp [*]; done)), H', ⟨Nat.le_refl _⟩, ⟨by (with_reducible repeat (first | apply Kd.V_alloc | apply Kd.V_drewN | apply Kd.V_drew)); exact Kd.V_mono (Kd.V_far (p := ⟨gb861, 0, none⟩) (Kd.V_mono HO_6.out (fun k_ hk => (⟨hk, hk.2⟩ : _ ∧ k_ ≠ gb861))) (fun _ hk => hk.2) (.slice Ao16 y858.length co16)) (fun _ hk => ⟨hk.1.1.2, ⟨hk.1.1.1.1, ⟨hk.1.1.1.2, hk.1.2⟩⟩⟩)⟩, ⟨by (with_reducible repeat (first | apply Kd.S_alloc | apply Kd.S_drewN | apply Kd.S_drew)); exact Kd.S_mono (Kd.S_far (p := ⟨gb861, 0, none⟩) (Kd.S_types HO860.out BK861.out (by decide)) (fun _ hk => hk.2) (.slice Ao16 y858.length co16)) (fun _ hk => hk.1.2)⟩, ⟨zf1 BK852.out NB852_861.out⟩, ⟨zf1 BK853.out NB853_861.out⟩, ⟨by (with_reducible repeat (first | refine blk_drewN ?_ _ | refine blk_drew ?_ | refine blk_alloc ?_ _)); refine blk_put (cs := #[.slice none 0 0]) ?_ 0 _ rfl; (with_reducible repeat (first | refine blk_drewN ?_ _ | refine blk_drew ?_ | refine blk_alloc ?_ _)); exact BK861.out⟩, ⟨zh HB.out⟩⟩
   case round =>
    clear H'
    try clear c1
    try clear p2
    try clear c3
    try clear c6
    try clear c7
    try clear c10
    try clear c12
    try clear c17
    try clear c18
    try clear hcz19_0
    try clear hcz8_0
    try clear hcz8_1
    try clear hfz19_0
    try clear hfz8_0
    try clear hfz8_1
    try clear p2
    obtain ⟨x26_2, x862000_2, u862000, rfl, HA, HK2, HO_24, HO_862000, BK852, BK853, BK861, HB⟩ := hrel
    cases gk with
    | zero => exact absurd HA.out (by simp [impl_sure.l0])
    | succ k2 =>
     have H := HA.out
     clear HA
     simp only [impl_sure.l0] at H
     by_cases c21 : x26_2 < (t854.length : Int)
     rotate_left
     ·rw [if_neg c21] at H
      have c21b0 : decide (x26_2 < (t854.length : Int)) = false := decide_eq_false c21
      clear c21
      by_cases c38 : 0 < (x862000_2.length : Int)
      rotate_left
      ·rw [if_neg c38] at H
       exact absurd H (by simp)
      rw [if_pos c38] at H
      have c38b0 : decide (0 < (x862000_2.length : Int)) = true := decide_eq_true c38
      have c38b1 : decide (0 < x862000_2.length) = true := decide_eq_true (by omega)
      clear c38
      replace H := Option.bind_eq_some_iff.mp H
      obtain ⟨t872, A390, H⟩ := H
      replace H : (some (t872, true)) = some (r1, r2) := H
      have A39 := Aside0.mk A390
      clear A390
      simp only [Option.some.injEq, Prod.mk.injEq] at H
      obtain ⟨rfl, rfl⟩ := H
      have hnb40 := NB861_852.out
      have hnc40 := NB852_861.out
      have hnb41 := NB861_853.out
      have hnc41 := NB853_861.out
      have hcz42_0 : wr.cell? ⟨gb861, 0, none⟩ = some (u862000) := (blk_cell BK861.out 0).trans rfl
      have hfz42_0 := blk_frozen BK861.out 0
      obtain ⟨Ao43, co43, eo43⟩ := Kd.S_slice HO_862000.out
      subst eo43
      have p871 : 0 ≤ (0 : Int) := (by omega)
      have q871 : 0 < (x862000_2.length : Int) := zk
      obtain ⟨ad871, A871_1, c871_1, e871, hx871_0, hx871_1, hl871_1, hi871_1⟩ := at_T86 (Kd.S_reads' HO_862000.out).2.2 0 p871 q871
      cases e871
      obtain ⟨ce871, hce871, hMe871, hcc871⟩ := Kd.S_get HO_862000.out z86 0 p871 (by first | exact q871 | exact zk | (have e_ := (Kd.S_reads' HO_862000.out).1; omega))
      obtain ⟨ve871_1, rfl, ge871_1⟩ := k86_openM hMe871
      have hv871_1 := hcc871 1 _ rfl
      rw [add_field _ _ 1 (by omega)] at hv871_1
      replace hv871_1 := Option.some.inj (hv871_1.symm.trans hx871_1)
      rw [hv871_1] at ge871_1
      have HL871_1 := Aside0.mk (show Kd.R Kd.bool 4 _ _ _ _ ((rd_T86 x862000_2 0).f1) from ge871_1)
      clear hv871_1 ge871_1
      clear hcc871 hce871
      have qi871 : (0 < x862000_2.length) = True := eq_true (by omega)
      (try rw [show ((0 : Int)).toNat = 0 from rfl] at hx871_0)
      (try rw [show 0 * 2 = 0 from rfl] at hx871_0)
      (try rw [Addr.add_zero'] at hx871_0)
      (try rw [show ((0 : Int)).toNat = 0 from rfl] at hx871_1)
      (try rw [show 0 * 2 = 0 from rfl] at hx871_1)
      (try rw [Addr.add_zero'] at hx871_1)
      have HR871_1 := Aside0.mk hi871_1
      have HC871_1 := Aside0.mk hl871_1
      clear hi871_1 hl871_1
      replace p871 := eq_true p871
      replace q871 := eq_true q871
      go_wp2_with (first | ((with_reducible refine gate_callee (f := 87) rfl ?_); refine zl 40 Tryz.func87 #[.agg #[.int .i64 ((rd_T86 x862000_2 0).f0), .slice A871_1 ((rd_T86 x862000_2 0).f1).length c871_1], .func (.func 88) #[] #[.pointer (some ⟨gb861, 0, none⟩), .pointer (some ⟨gb853, 0, none⟩)]] ?_; (with_reducible refine (setsSure.calls k2 ((rd_T86 x862000_2 0).f0) _ _ ((rd_T86 x862000_2 0).f1) _ _ x862000_2 a1 t872 _ ?side1 ?side2 ?side3 ?side4 gb861 (by first | exact (blk_cell (zb BK861.out) 0).trans rfl | exact (blk_cell (blk_put (zb BK861.out) 0 _ rfl) 0).trans rfl | exact zb BK861.out) gb853 (by first | exact (blk_cell (zb BK853.out) 0).trans rfl | exact (blk_cell (blk_put (zb BK853.out) 0 _ rfl) 0).trans rfl | exact zb BK853.out) A39.out).mono ?_); (case side1 => repeat (first | exact (by repeat (first | (with_reducible exact HR871_1.out) | (with_reducible refine Kd.C_alloc ?_ _) | (with_reducible refine Kd.C_drewN ?_ _) | (with_reducible refine Kd.C_drew ?_) | exact HR871_1.out)) | (with_reducible refine Kd.C_alloc ?_ _) | (with_reducible refine Kd.C_drewN ?_ _) | (with_reducible refine Kd.C_drew ?_))); (case side2 => exact HC871_1.out); (case side3 => repeat (first | exact (Kd.S_reads' HO_862000.out).2.2 | (with_reducible refine Kd.C_alloc ?_ _) | (with_reducible refine Kd.C_drewN ?_ _) | (with_reducible refine Kd.C_drew ?_))); (case side4 => exact (Kd.S_reads' HO_862000.out).2.1); rintro e w44 ⟨v873, rfl, ho0, hb⟩; refine ⟨_, rfl, ?_⟩; have n0_ := Aside0.mk (Kd.V_elder' (by (with_reducible repeat (first | apply Kd.V_alloc | apply Kd.V_drewN | apply Kd.V_drew)); exact HO_24.out) (Kd.S_base ho0) hb); have n1_ := Aside0.mk (Kd.S_below (by (with_reducible repeat (first | apply Kd.S_alloc | apply Kd.S_drewN | apply Kd.S_drew)); exact HO_862000.out) hb); have n2_ := Aside0.mk (Kd.R_below (zr HL871_1.out) hb); have n3_ := Aside0.mk (Kd.S_lower ho0 (below_size (zh HB.out))); have n4_ := Aside0.mk (blk_below (g := gb852) (o := .cells #[.int .i64 a0_0, .slice A0_1 l0_1.length c0_1] 30 (0, 0)) (zb BK852.out) hb); have n5_ := Aside0.mk (blk_below (g := gb853) (o := .cells #[.bool a1] 4 (0, 0)) (zb BK853.out) hb); have n6_ := Aside0.mk (blk_below (g := gb861) (o := .cells #[.slice (some ad871) x862000_2.length co43] 94 (0, 0)) (zb BK861.out) hb); have n7_ := Aside0.mk (Kd.C_below (by repeat (first | (with_reducible exact HR871_1.out) | (with_reducible refine Kd.C_alloc ?_ _) | (with_reducible refine Kd.C_drewN ?_ _) | (with_reducible refine Kd.C_drew ?_) | exact HR871_1.out)) hb); have n8_ := Aside0.mk (below_step (zh HB.out) hb); clear HO_24; clear HO_862000; clear HL871_1; clear BK852; clear BK853; clear BK861; clear HR871_1; clear HB; have HO_24 := n0_; have HO_862000 := n1_; have HL871_1 := n2_; have HO874 := n3_; have BK852 := n4_; have BK853 := n5_; have BK861 := n6_; have HR871_1 := n7_; have HB := n8_; clear n0_ n1_ n2_ n3_ n4_ n5_ n6_ n7_ n8_; (try clear hb); (try clear hb2); (try clear hk); (try clear hi); (try clear ho0)))
      go_ret2
      exact ⟨_, by first | rfl | (simp [*, errW_none, errW_some] <;> rfl), by (with_reducible repeat (first | apply Kd.S_alloc | apply Kd.S_drewN | apply Kd.S_drew)); exact HO874.out, zh HB.out⟩
     rw [if_pos c21] at H
     have c21b0 : decide (x26_2 < (t854.length : Int)) = true := decide_eq_true c21
     clear c21
     by_cases c22 : 0 ≤ x26_2
     rotate_left
     ·rw [if_neg c22] at H
      exact absurd H (by simp)
     rw [if_pos c22] at H
     have c22b0 : decide (0 ≤ x26_2) = true := decide_eq_true c22
     clear c22
     by_cases c23 : x26_2 < (t854.length : Int)
     rotate_left
     ·rw [if_neg c23] at H
      exact absurd H (by simp)
     rw [if_pos c23] at H
     have c23b0 : decide (x26_2 < (t854.length : Int)) = true := decide_eq_true c23
     clear c23
     replace H := Option.bind_eq_some_iff.mp H
     obtain ⟨⟨t864, t865⟩, A240, H⟩ := H
     replace H : (if x862000_2.length < 4398046511104 then (impl_sure.l0 k2 t854 (t854.length : Int) (wrap64 (x26_2 + 1)) a1 (x862000_2 ++ [(⟨t864, t865⟩ : S86)])) else (none)) = some (r1, r2) := H
     have A24 := Aside0.mk A240
     clear A240
     by_cases c25 : x862000_2.length < 4398046511104
     rotate_left
     ·rw [if_neg c25] at H
      exact absurd H (by simp)
     rw [if_pos c25] at H
     have LMc25 := Aside0.mk c25
     clear c25
     obtain ⟨y868, hy868⟩ : ∃ y_ : List (S86), y_ = (x862000_2 ++ [(⟨t864, t865⟩ : S86)]) := ⟨_, rfl⟩
     replace H : (impl_sure.l0 k2 t854 (t854.length : Int) (wrap64 (x26_2 + 1)) a1 y868) = some (r1, r2) := by first | (rw [hy868]; with_reducible exact H) | (have H2_ := (Option.bind_some _ _).symm.trans H; rw [hy868]; with_reducible exact H2_) | (have H2_ := (Option.bind_some _ _).symm.trans H; with_reducible exact H2_) | with_reducible exact H | (rw [hy868]; exact H) | exact H
     have Ny868 := Aside0.mk hy868
     clear hy868
     have H' := Aside0.mk H
     clear H
     have p862 : 0 ≤ (x26_2 : Int) := zk
     have q862 : x26_2 < (t854.length : Int) := zk
     obtain ⟨ad862, A862_1, c862_1, e862, hx862_0, hx862_1, hl862_1, hi862_1⟩ := at_T46 (Kd.V_reads' HO_24.out).2.2 x26_2 p862 q862
     cases e862
     obtain ⟨ce862, hce862, hMe862, hcc862⟩ := Kd.V_get HO_24.out z46 x26_2 p862 (by first | exact q862 | exact zk | (have e_ := (Kd.V_reads' HO_24.out).1; omega))
     obtain ⟨ua862_1, uc862_1, rfl, ul862_1, ge862_1⟩ := k46_openF hMe862
     have hv862_1 := hcc862 1 _ rfl
     rw [add_field _ _ 1 (by omega)] at hv862_1
     replace hv862_1 := Option.some.inj (hv862_1.symm.trans hx862_1)
     injection hv862_1 with hva_ hvn_ hvc_
     rw [hva_] at ge862_1
     rw [hvc_] at ul862_1
     have HL862_1 := Aside0.mk (show Kd.V (Kd.slice 3 (Kd.int .i64)) 36 _ w.heap.size _ _ ((rd_T46 t854 x26_2).f1) from Kd.V_mk ul862_1 ge862_1)
     clear hva_ hvn_ hvc_ ge862_1 ul862_1
     clear hcc862 hce862
     have HR862_1 := Aside0.mk hi862_1
     have HC862_1 := Aside0.mk hl862_1
     clear hi862_1 hl862_1
     replace p862 := eq_true p862
     replace q862 := eq_true q862
     try go_wp2_with (first | ((with_reducible refine gate_dst (N := 10) rfl ?_); (try (refine gate_guard (by rfl) ?_; dsimp only)); refine zq 10 #[.int .i64 0, .slice none 0 0] 46 ?_; intro gb863 hg w26 hbox hb; have n0_ := Aside0.mk (Kd.V_below (Kd.V_elderB (by (with_reducible repeat (first | apply Kd.V_alloc | apply Kd.V_drewN | apply Kd.V_drew)); exact HO_24.out) gb863 (Nat.le_of_eq hg.symm)) hb); have n1_ := Aside0.mk (Kd.S_below (by (with_reducible repeat (first | apply Kd.S_alloc | apply Kd.S_drewN | apply Kd.S_drew)); exact HO_862000.out) hb); have n2_ := Aside0.mk (Kd.V_below (Kd.V_elderB (by (with_reducible repeat (first | apply Kd.V_alloc | apply Kd.V_drewN | apply Kd.V_drew)); exact HL862_1.out) gb863 (Nat.le_of_eq hg.symm)) hb); have n3_ := Aside0.mk (blk_below (g := gb852) (o := .cells #[.int .i64 a0_0, .slice A0_1 l0_1.length c0_1] 30 (0, 0)) (zb BK852.out) hb); have n4_ := Aside0.mk (blk_below (g := gb853) (o := .cells #[.bool a1] 4 (0, 0)) (zb BK853.out) hb); have n5_ := Aside0.mk (blk_below (g := gb861) (o := .cells #[u862000] 94 (0, 0)) (zb BK861.out) hb); have n6_ := Aside0.mk (Kd.C_below (by repeat (first | (with_reducible exact HR862_1.out) | (with_reducible refine Kd.C_alloc ?_ _) | (with_reducible refine Kd.C_drewN ?_ _) | (with_reducible refine Kd.C_drew ?_) | exact HR862_1.out)) hb); have n7_ := Aside0.mk (below_step (zh HB.out) hb); have n8_ := Aside0.mk (hbox); have n9_ := Aside0.mk ((by rw [hg]; exact (below_size (zh HB.out)) : w.heap.size ≤ gb863)); have n10_ := Aside0.mk ((by rw [hg]; exact (below_size (zh HB.out)) : w.heap.size ≤ gb863)); have n11_ := Aside0.mk ((by rw [hg]; exact Nat.ne_of_lt (blk_lt (g := gb852) (o := .cells #[.int .i64 a0_0, .slice A0_1 l0_1.length c0_1] 30 (0, 0)) (zb BK852.out)) : gb852 ≠ gb863)); have n12_ := Aside0.mk ((by rw [hg]; exact Nat.ne_of_gt (blk_lt (g := gb852) (o := .cells #[.int .i64 a0_0, .slice A0_1 l0_1.length c0_1] 30 (0, 0)) (zb BK852.out)) : gb863 ≠ gb852)); have n13_ := Aside0.mk ((by rw [hg]; exact Nat.ne_of_lt (blk_lt (g := gb853) (o := .cells #[.bool a1] 4 (0, 0)) (zb BK853.out)) : gb853 ≠ gb863)); have n14_ := Aside0.mk ((by rw [hg]; exact Nat.ne_of_gt (blk_lt (g := gb853) (o := .cells #[.bool a1] 4 (0, 0)) (zb BK853.out)) : gb863 ≠ gb853)); have n15_ := Aside0.mk ((by rw [hg]; exact Nat.ne_of_lt (blk_lt (g := gb861) (o := .cells #[u862000] 94 (0, 0)) (zb BK861.out)) : gb861 ≠ gb863)); have n16_ := Aside0.mk ((by rw [hg]; exact Nat.ne_of_gt (blk_lt (g := gb861) (o := .cells #[u862000] 94 (0, 0)) (zb BK861.out)) : gb863 ≠ gb861)); clear HO_24; clear HO_862000; clear HL862_1; clear BK852; clear BK853; clear BK861; clear HR862_1; clear HB; have HO_24 := n0_; have HO_862000 := n1_; have HL862_1 := n2_; have BK852 := n3_; have BK853 := n4_; have BK861 := n5_; have HR862_1 := n6_; have HB := n7_; have BK863 := n8_; have GW863 := n9_; have GE863 := n10_; have NB852_863 := n11_; have NB863_852 := n12_; have NB853_863 := n13_; have NB863_853 := n14_; have NB861_863 := n15_; have NB863_861 := n16_; clear n0_ n1_ n2_ n3_ n4_ n5_ n6_ n7_ n8_ n9_ n10_ n11_ n12_ n13_ n14_ n15_ n16_; clear hb hbox hg; have hnb27 := NB863_852.out; have hnc27 := NB852_863.out; have hnb28 := NB863_853.out; have hnc28 := NB853_863.out; have hnb29 := NB863_861.out; have hnc29 := NB861_863.out; have hcz30_0 : w26.cell? ⟨gb863, 0, none⟩ = some (.int .i64 0) := (blk_cell BK863.out 0).trans rfl; have hcz30_1 : w26.cell? ⟨gb863, 1, none⟩ = some (.slice none 0 0) := (blk_cell BK863.out 1).trans rfl; have hfz30_0 := blk_frozen BK863.out 0; have hfz30_1 := blk_frozen BK863.out 1))
     have n0_ : Aside0 (Kd.V k46 46 ((w26.setCell ⟨gb863, 0, none⟩ (.int .i64 ((rd_T46 t854 x26_2).f0))).setCell ⟨gb863, 1, none⟩ (.slice A862_1 ((rd_T46 t854 x26_2).f1).length c862_1)) w.heap.size (fun k_ => some k_ ≠ (u862000 : Value).ownBlock ∧ k_ ≠ gb852 ∧ k_ ≠ gb853 ∧ k_ ≠ gb861 ∧ k_ ≠ gb863) (.slice (some ad862) t854.length co20) t854) := ⟨by (with_reducible repeat (first | apply Kd.V_alloc | apply Kd.V_drewN | apply Kd.V_drew)); exact Kd.V_mono (Kd.V_far (p := ⟨gb863, 1, none⟩) (Kd.V_far (p := ⟨gb863, 0, none⟩) (Kd.V_mono HO_24.out (fun k_ hk => (⟨hk, hk.2⟩ : _ ∧ k_ ≠ gb863))) (fun _ hk => hk.2) (.int .i64 ((rd_T46 t854 x26_2).f0))) (fun _ hk => hk.2) (.slice A862_1 ((rd_T46 t854 x26_2).f1).length c862_1)) (fun _ hk => ⟨hk.1.1.1, ⟨hk.1.1.2.1, ⟨hk.1.1.2.2.1, ⟨hk.1.1.2.2.2, hk.1.2⟩⟩⟩⟩)⟩
     have n1_ : Aside0 (Kd.S k86 86 ((w26.setCell ⟨gb863, 0, none⟩ (.int .i64 ((rd_T46 t854 x26_2).f0))).setCell ⟨gb863, 1, none⟩ (.slice A862_1 ((rd_T46 t854 x26_2).f1).length c862_1)) w.heap.size (fun k_ => k_ ≠ gb853) u862000 x862000_2) := ⟨by (with_reducible repeat (first | apply Kd.S_alloc | apply Kd.S_drewN | apply Kd.S_drew)); exact Kd.S_mono (Kd.S_far (p := ⟨gb863, 1, none⟩) (Kd.S_far (p := ⟨gb863, 0, none⟩) (Kd.S_types HO_862000.out BK863.out (by decide)) (fun _ hk => hk.2) (.int .i64 ((rd_T46 t854 x26_2).f0))) (fun _ hk => hk.2) (.slice A862_1 ((rd_T46 t854 x26_2).f1).length c862_1)) (fun _ hk => hk.1)⟩
     have n2_ : Aside0 (Kd.V (Kd.slice 3 (Kd.int .i64)) 36 ((w26.setCell ⟨gb863, 0, none⟩ (.int .i64 ((rd_T46 t854 x26_2).f0))).setCell ⟨gb863, 1, none⟩ (.slice A862_1 ((rd_T46 t854 x26_2).f1).length c862_1)) w.heap.size (fun k_ => some k_ ≠ (u862000 : Value).ownBlock ∧ k_ ≠ gb852 ∧ k_ ≠ gb853 ∧ k_ ≠ gb861 ∧ k_ ≠ gb863) (.slice A862_1 ((rd_T46 t854 x26_2).f1).length c862_1) ((rd_T46 t854 x26_2).f1)) := ⟨by (with_reducible repeat (first | apply Kd.V_alloc | apply Kd.V_drewN | apply Kd.V_drew)); exact Kd.V_mono (Kd.V_far (p := ⟨gb863, 1, none⟩) (Kd.V_far (p := ⟨gb863, 0, none⟩) (Kd.V_mono HL862_1.out (fun k_ hk => (⟨hk, hk.2⟩ : _ ∧ k_ ≠ gb863))) (fun _ hk => hk.2) (.int .i64 ((rd_T46 t854 x26_2).f0))) (fun _ hk => hk.2) (.slice A862_1 ((rd_T46 t854 x26_2).f1).length c862_1)) (fun _ hk => ⟨hk.1.1.1, ⟨hk.1.1.2.1, ⟨hk.1.1.2.2.1, ⟨hk.1.1.2.2.2, hk.1.2⟩⟩⟩⟩)⟩
     have n3_ : Aside0 (((w26.setCell ⟨gb863, 0, none⟩ (.int .i64 ((rd_T46 t854 x26_2).f0))).setCell ⟨gb863, 1, none⟩ (.slice A862_1 ((rd_T46 t854 x26_2).f1).length c862_1)).heap[gb852]? = some (.cells #[.int .i64 a0_0, .slice A0_1 l0_1.length c0_1] 30 (0, 0))) := ⟨zf2 BK852.out NB852_863.out NB852_863.out⟩
     have n4_ : Aside0 (((w26.setCell ⟨gb863, 0, none⟩ (.int .i64 ((rd_T46 t854 x26_2).f0))).setCell ⟨gb863, 1, none⟩ (.slice A862_1 ((rd_T46 t854 x26_2).f1).length c862_1)).heap[gb853]? = some (.cells #[.bool a1] 4 (0, 0))) := ⟨zf2 BK853.out NB853_863.out NB853_863.out⟩
     have n5_ : Aside0 (((w26.setCell ⟨gb863, 0, none⟩ (.int .i64 ((rd_T46 t854 x26_2).f0))).setCell ⟨gb863, 1, none⟩ (.slice A862_1 ((rd_T46 t854 x26_2).f1).length c862_1)).heap[gb861]? = some (.cells #[u862000] 94 (0, 0))) := ⟨zf2 BK861.out NB861_863.out NB861_863.out⟩
     have n6_ : Aside0 (((w26.setCell ⟨gb863, 0, none⟩ (.int .i64 ((rd_T46 t854 x26_2).f0))).setCell ⟨gb863, 1, none⟩ (.slice A862_1 ((rd_T46 t854 x26_2).f1).length c862_1)).heap[gb863]? = some (.cells #[.int .i64 ((rd_T46 t854 x26_2).f0), .slice A862_1 ((rd_T46 t854 x26_2).f1).length c862_1] 46 (0, 0))) := ⟨by (with_reducible repeat (first | refine blk_drewN ?_ _ | refine blk_drew ?_ | refine blk_alloc ?_ _)); refine blk_put (cs := #[.int .i64 ((rd_T46 t854 x26_2).f0), .slice none 0 0]) ?_ 1 _ rfl; (with_reducible repeat (first | refine blk_drewN ?_ _ | refine blk_drew ?_ | refine blk_alloc ?_ _)); refine blk_put (cs := #[.int .i64 0, .slice none 0 0]) ?_ 0 _ rfl; (with_reducible repeat (first | refine blk_drewN ?_ _ | refine blk_drew ?_ | refine blk_alloc ?_ _)); exact BK863.out⟩
     have n7_ : Aside0 (Below w.heap.size w ((w26.setCell ⟨gb863, 0, none⟩ (.int .i64 ((rd_T46 t854 x26_2).f0))).setCell ⟨gb863, 1, none⟩ (.slice A862_1 ((rd_T46 t854 x26_2).f1).length c862_1))) := ⟨zh HB.out⟩
     (try clear HO_24)
     (try clear HO_862000)
     (try clear HL862_1)
     (try clear BK852)
     (try clear BK853)
     (try clear BK861)
     (try clear BK863)
     (try clear HB)
     generalize ((w26.setCell ⟨gb863, 0, none⟩ (.int .i64 ((rd_T46 t854 x26_2).f0))).setCell ⟨gb863, 1, none⟩ (.slice A862_1 ((rd_T46 t854 x26_2).f1).length c862_1)) = w31 at n0_ n1_ n2_ n3_ n4_ n5_ n6_ n7_ ⊢
     have HO_24 := n0_
     have HO_862000 := n1_
     have HL862_1 := n2_
     have BK852 := n3_
     have BK853 := n4_
     have BK861 := n5_
     have BK863 := n6_
     have HB := n7_
     clear n0_ n1_ n2_ n3_ n4_ n5_ n6_ n7_
     have n0_ := Aside0.mk (Kd.V_drew HO_24.out)
     have n1_ := Aside0.mk (Kd.S_drew HO_862000.out)
     have n2_ := Aside0.mk (Kd.V_drew HL862_1.out)
     have n3_ := Aside0.mk (blk_drew BK852.out)
     have n4_ := Aside0.mk (blk_drew BK853.out)
     have n5_ := Aside0.mk (blk_drew BK861.out)
     have n6_ := Aside0.mk (blk_drew BK863.out)
     have n7_ := Aside0.mk (below_drew1 HB.out)
     clear HO_24
     clear HO_862000
     clear HL862_1
     clear BK852
     clear BK853
     clear BK861
     clear BK863
     clear HB
     have HO_24 := n0_
     have HO_862000 := n1_
     have HL862_1 := n2_
     have BK852 := n3_
     have BK853 := n4_
     have BK861 := n5_
     have BK863 := n6_
     have HB := n7_
     clear n0_ n1_ n2_ n3_ n4_ n5_ n6_ n7_
     refine start_ (n := 6) (S := fun w' => w'.cell? ⟨gb861, 0, none⟩ = some (u862000) ∧ w'.cell? ⟨gb863, 0, none⟩ = some (.int .i64 ((rd_T46 t854 x26_2).f0)) ∧ w'.cell? ⟨gb863, 1, none⟩ = some (.slice A862_1 ((rd_T46 t854 x26_2).f1).length c862_1)) (ds := [5]) (tb 6 0) (by kernel_rfl) rfl rfl ⟨(blk_cell BK861.out 0).trans rfl, (blk_cell BK863.out 0).trans rfl, (blk_cell BK863.out 1).trans rfl⟩ (fun hHeld => ?_)
     generalize w31.drew = w32 at HO_24 HO_862000 HL862_1 BK852 BK853 BK861 BK863 HB hHeld ⊢
     refine zt (i := 0) (N := some 30) (tb 6 1) rfl rfl (by kernel_rfl) hHeld ?_
     refine zt (i := 1) (N := some 31) (tb 6 3) rfl rfl (by kernel_rfl) hHeld ?_
     refine one_ (i := 2) (N := some 32) (tb 6 7) rfl rfl (by kernel_rfl) (by decide) (fun K hK => ?_)
     refine goes_ Tryz.func80 (by kernel_rfl) rfl #[.agg #[.int .i64 ((rd_T46 t854 x26_2).f0), .slice A862_1 ((rd_T46 t854 x26_2).f1).length c862_1]] (by rfl) rfl rfl (by (try simp only [List.map_toArray, List.map_cons, List.map_nil]); first | done | rfl | (simp only [List.length_drop, List.length_take]; rfl)) ?_
     with_reducible refine (impl_Game_votes.calls k2 ((rd_T46 t854 x26_2).f0) _ _ ((rd_T46 t854 x26_2).f1) t864 t865 _ ?side1 ?side2 A24.out).mono ?_
     (case side1 => repeat (first | exact ((Kd.V_reads' (by (with_reducible repeat (first | apply Kd.V_alloc | apply Kd.V_drewN | apply Kd.V_drew)); exact HL862_1.out)).2.2) | (with_reducible refine Kd.C_alloc ?_ _) | (with_reducible refine Kd.C_drewN ?_ _) | (with_reducible refine Kd.C_drew ?_)))
     (case side2 => exact HC862_1.out)
     rintro e w33 ⟨v866, rfl, ho0, hb⟩
     refine ⟨_, rfl, ?_⟩
     have n0_ := Aside0.mk (Kd.V_elder' (by (with_reducible repeat (first | apply Kd.V_alloc | apply Kd.V_drewN | apply Kd.V_drew)); exact HO_24.out) (Kd.R_base ho0) hb)
     have n1_ := Aside0.mk (Kd.S_elder' (by (with_reducible repeat (first | apply Kd.S_alloc | apply Kd.S_drewN | apply Kd.S_drew)); exact HO_862000.out) (Kd.R_base ho0) hb)
     have n2_ := Aside0.mk (Kd.V_elder' (by (with_reducible repeat (first | apply Kd.V_alloc | apply Kd.V_drewN | apply Kd.V_drew)); exact HL862_1.out) (Kd.R_base ho0) hb)
     have n3_ := Aside0.mk (Kd.R_lower (Kd.R_newB ho0 (g := gb853) (o := .cells #[.bool a1] 4 (0, 0)) (zb BK853.out)) (below_size (zh HB.out)))
     have n4_ := Aside0.mk (blk_below (g := gb852) (o := .cells #[.int .i64 a0_0, .slice A0_1 l0_1.length c0_1] 30 (0, 0)) (zb BK852.out) hb)
     have n5_ := Aside0.mk (blk_below (g := gb853) (o := .cells #[.bool a1] 4 (0, 0)) (zb BK853.out) hb)
     have n6_ := Aside0.mk (blk_below (g := gb861) (o := .cells #[u862000] 94 (0, 0)) (zb BK861.out) hb)
     have n7_ := Aside0.mk (blk_below (g := gb863) (o := .cells #[.int .i64 ((rd_T46 t854 x26_2).f0), .slice A862_1 ((rd_T46 t854 x26_2).f1).length c862_1] 46 (0, 0)) (zb BK863.out) hb)
     have n8_ := Aside0.mk (below_step (zh HB.out) hb)
     clear HO_24
     clear HO_862000
     clear HL862_1
     clear BK852
     clear BK853
     clear BK861
     clear BK863
     clear HB
     have HO_24 := n0_
     have HO_862000 := n1_
     have HL862_1 := n2_
     have HO867 := n3_
     have BK852 := n4_
     have BK853 := n5_
     have BK861 := n6_
     have BK863 := n7_
     have HB := n8_
     clear n0_ n1_ n2_ n3_ n4_ n5_ n6_ n7_ n8_
     (try clear hb)
     (try clear hb2)
     (try clear hk)
     (try clear hi)
     (try clear ho0)
     obtain ⟨Ao35, co35, eo35⟩ := Kd.R_slice HO867.out
     (first | subst eo35 | (injection eo35 with f1_ f2_ f3_; have f4_ := f1_.symm; have f5_ := f3_.symm; clear f1_ f2_ f3_; subst f4_; subst f5_))
     refine hK.out _ _ ⟨(blk_cell BK861.out 0).trans rfl, (blk_cell BK863.out 0).trans rfl, (blk_cell BK863.out 1).trans rfl⟩ (fun hHeld => ?_)
     clear hK K
     refine norm_ (a' := ?_) ?_ ?_
     rotate_left
     ·show Act.put _ (some 32) _ = _
      simp only [Act.put, List.setIfInBounds_toArray, List.set_cons_zero, List.set_cons_succ, i64_w, i32_w]
      rfl
     refine one_ (i := 3) (N := some 33) (tb 6 15) rfl rfl (by kernel_rfl) (by decide) (fun K hK => ?_)
     refine value_ (w1 := ?_) (v := ?_) (by rfl) rfl ?_ ?_
     rotate_left 2
     ·go_simp
      constructor
      ·rfl
      ·rfl
     refine hK.out _ _ ⟨(blk_cell (blk_alloc BK861.out _) 0).trans rfl, (blk_cell (blk_alloc BK863.out _) 0).trans rfl, (blk_cell (blk_alloc BK863.out _) 1).trans rfl⟩ (fun hHeld => ?_)
     clear hK K
     refine norm_ (a' := ?_) ?_ ?_
     rotate_left
     ·show Act.put _ (some 33) _ = _
      simp only [Act.put, List.setIfInBounds_toArray, List.set_cons_zero, List.set_cons_succ, i64_w, i32_w]
      rfl
     refine one_ (i := 4) (N := some 34) (tb 6 31) rfl rfl (by kernel_rfl) (by decide) (fun K hK => ?_)
     refine Kd.S_append_step k86 (w0 := w) w.heap.size (by rfl) (.tmp 30) (.tmp 33) 94 86 (.agg #[(.int .i64 0), (.slice none 0 0)]) 32 rfl Tryz.underlying94 info86 rfl (by decide) (by omega) u862000 x862000_2 (⟨t864, t865⟩ : S86) [.int .i64 t864, .slice Ao35 t865.length co35] (fun k_ => k_ ≠ gb853) (fun k_ => some k_ = (.slice Ao35 t865.length co35 : Value).ownBlock) rfl rfl ?aP (fun k_ hk_ => ((Kd.R_mono (ok' := fun k_ => ((fun k_ => k_ ≠ gb853)) k_ ∧ some k_ ≠ (u862000 : Value).ownBlock) (Kd.R_apart' (HO867.out) (Kd.S_typed HO_862000.out) (by decide)) (fun k_ hk => ⟨hk.1.2, hk.2⟩))).1 k_ hk_.symm) ?aF ?aO ?aB ?aS ?aL ?_
     (case aP => exact k86_mkM _ _ _ (⟨t864, t865⟩ : S86) (Kd.R_mono (Kd.R_tight rfl (Kd.R_mono (ok' := fun k_ => ((fun k_ => k_ ≠ gb853)) k_ ∧ some k_ ≠ (u862000 : Value).ownBlock) (Kd.R_apart' (HO867.out) (Kd.S_typed HO_862000.out) (by decide)) (fun k_ hk => ⟨hk.1.2, hk.2⟩))) (fun _ h_ => h_)))
     (case aB => exact (zh HB.out))
     (case aF => exact (fun k_ hk => Kd.freshB (g := gb853) (o := .cells #[.bool a1] 4 (0, 0)) (zb BK853.out) k_ hk))
     (case aO => exact (by (with_reducible repeat (first | apply Kd.S_alloc | apply Kd.S_drewN | apply Kd.S_drew)); exact Kd.S_mono HO_862000.out (fun k_ hk => ⟨hk.1, fun e_ => hk.2 e_⟩)))
     (case aS => exact (below_size (zh HB.out)))
     (case aL => have := LMc25.out; omega)
     intro v869 w34 ho hb hg hat
     rw [← Ny868.out] at ho
     have n0_ := Aside0.mk (Kd.V_afterv (ok := (fun k_ => some k_ ≠ (.slice Ao35 t865.length co35 : Value).ownBlock ∧ k_ ≠ gb852 ∧ k_ ≠ gb853 ∧ k_ ≠ gb861 ∧ k_ ≠ gb863)) (by (with_reducible repeat (first | apply Kd.V_alloc | apply Kd.V_drewN | apply Kd.V_drew)); exact Kd.V_mono HO_24.out (fun _ hk => ⟨⟨hk.2, ⟨hk.1.2.1, ⟨hk.1.2.2.1, ⟨hk.1.2.2.2.1, hk.1.2.2.2.2⟩⟩⟩⟩, hk.1.1⟩)) hg hat)
     have n1_ := Aside0.mk (blk_grown (g := gb852) (o := .cells #[.int .i64 a0_0, .slice A0_1 l0_1.length c0_1] 30 (0, 0)) (zb BK852.out) hg (Kd.S_ne HO_862000.out BK852.out (by decide)))
     have n2_ := Aside0.mk (blk_grown (g := gb853) (o := .cells #[.bool a1] 4 (0, 0)) (zb BK853.out) hg (Kd.S_ne HO_862000.out BK853.out (by decide)))
     have n3_ := Aside0.mk (blk_grown (g := gb861) (o := .cells #[u862000] 94 (0, 0)) (zb BK861.out) hg (Kd.S_ne HO_862000.out BK861.out (by decide)))
     have n4_ := Aside0.mk (Kd.V_afterv (ok := (fun k_ => some k_ ≠ (.slice Ao35 t865.length co35 : Value).ownBlock ∧ k_ ≠ gb852 ∧ k_ ≠ gb853 ∧ k_ ≠ gb861 ∧ k_ ≠ gb863)) (by (with_reducible repeat (first | apply Kd.V_alloc | apply Kd.V_drewN | apply Kd.V_drew)); exact Kd.V_mono HL862_1.out (fun _ hk => ⟨⟨hk.2, ⟨hk.1.2.1, ⟨hk.1.2.2.1, ⟨hk.1.2.2.2.1, hk.1.2.2.2.2⟩⟩⟩⟩, hk.1.1⟩)) hg hat)
     have n5_ := Aside0.mk (blk_grown (g := gb863) (o := .cells #[.int .i64 ((rd_T46 t854 x26_2).f0), .slice A862_1 ((rd_T46 t854 x26_2).f1).length c862_1] 46 (0, 0)) (zb BK863.out) hg (Kd.S_ne HO_862000.out BK863.out (by decide)))
     have n6_ := Aside0.mk (hb)
     have n7_ := Aside0.mk (ho)
     clear HO_24
     clear BK852
     clear BK853
     clear BK861
     clear HL862_1
     clear BK863
     clear HB
     clear HO_862000
     clear HO867
     have HO_24 := n0_
     have BK852 := n1_
     have BK853 := n2_
     have BK861 := n3_
     have HL862_1 := n4_
     have BK863 := n5_
     have HB := n6_
     have HO870 := n7_
     clear n0_ n1_ n2_ n3_ n4_ n5_ n6_ n7_
     clear ho hb hg hat
     obtain ⟨Ao36, co36, eo36⟩ := Kd.S_slice HO870.out
     (first | subst eo36 | (injection eo36 with f1_ f2_ f3_; have f4_ := f1_.symm; have f5_ := f3_.symm; clear f1_ f2_ f3_; subst f4_; subst f5_))
     refine hK.out _ _ ⟨(blk_cell BK861.out 0).trans rfl, (blk_cell BK863.out 0).trans rfl, (blk_cell BK863.out 1).trans rfl⟩ (fun hHeld => ?_)
     clear hK K
     refine norm_ (a' := ?_) ?_ ?_
     rotate_left
     ·show Act.put _ (some 34) _ = _
      simp only [Act.put, List.setIfInBounds_toArray, List.set_cons_zero, List.set_cons_succ, i64_w, i32_w]
      rfl
     refine last_ (i := 5) (N := none) (tb 6 63) rfl rfl (by kernel_rfl) (by decide) (fun K hK => ?_)
     have hs37 : w34.cell? ⟨gb861, 0, none⟩ = some (u862000) := (blk_cell BK861.out 0).trans rfl
     have hfs37 := blk_frozen BK861.out 0
     have hns37_0 := NB852_861.out
     have hns37_1 := NB853_861.out
     have hns37_3 := NB863_861.out
     have hms37_0 := NB861_852.out
     have hms37_1 := NB861_853.out
     have hms37_3 := NB861_863.out
     refine skip_ (w1 := ?_) (by rfl) rfl ?_ ?_
     rotate_left
     ·go_simp
      rfl
     refine hK.out _ _ ?_
     clear hK K
     refine done_ (by kernel_rfl) ?_
     try go_wp2
     go_roundg k2
     case measure => have := HJ3.out; have := HK2.out; omega
     case rel => exact ⟨(wrap64 (x26_2 + 1)), (y868), (.slice Ao36 y868.length co36), (by first | rfl | (simp; done) | (simp [*]; done)), H', ⟨by have := HJ3.out; have := HK2.out; omega⟩, ⟨by (with_reducible repeat (first | apply Kd.V_alloc | apply Kd.V_drewN | apply Kd.V_drew)); exact Kd.V_mono (Kd.V_far (p := ⟨gb861, 0, none⟩) (Kd.V_mono HO_24.out (fun k_ hk => (⟨hk, hk.1.2.2.2.1⟩ : _ ∧ k_ ≠ gb861))) (fun _ hk => hk.2) (.slice Ao36 y868.length co36)) (fun _ hk => ⟨hk.1.2, ⟨hk.1.1.2.1, ⟨hk.1.1.2.2.1, hk.1.1.2.2.2.1⟩⟩⟩)⟩, ⟨by (with_reducible repeat (first | apply Kd.S_alloc | apply Kd.S_drewN | apply Kd.S_drew)); exact Kd.S_mono (Kd.S_far (p := ⟨gb861, 0, none⟩) (Kd.S_types HO870.out BK861.out (by decide)) (fun _ hk => hk.2) (.slice Ao36 y868.length co36)) (fun _ hk => hk.1)⟩, ⟨zf1 BK852.out NB852_861.out⟩, ⟨zf1 BK853.out NB853_861.out⟩, ⟨by (with_reducible repeat (first | refine blk_drewN ?_ _ | refine blk_drew ?_ | refine blk_alloc ?_ _)); refine blk_put (cs := #[u862000]) ?_ 0 _ rfl; (with_reducible repeat (first | refine blk_drewN ?_ _ | refine blk_drew ?_ | refine blk_alloc ?_ _)); exact BK861.out⟩, ⟨zh HB.out⟩⟩
def impl_SureLosses.f (k : Nat) (a0_0 : Int) (l0_1 : List (S72)) : Option ((List (List Int)) × Bool) := (impl_sure.f k a0_0 l0_1 false).bind fun bt876 => (some (bt876.1, bt876.2))
set_option maxHeartbeats 8000000 in
set_option maxRecDepth 100000 in
theorem impl_SureLosses.calls (k : Nat) (a0_0 : Int) (A0_1 : Option Addr) (c0_1 : Nat) (l0_1 : List (S72)) (r1 : List (List Int)) (r2 : Bool) (w : World) (hr0_1 : Kd.C k72 w A0_1 l0_1.length l0_1) (hc0_1 : l0_1.length ≤ c0_1) (h : impl_SureLosses.f k a0_0 l0_1 = some (r1, r2)) :
  Calls Tryz.prog 44 #[.agg #[.int .i64 a0_0, .slice A0_1 l0_1.length c0_1]] w fun e w' => ∃ v0_ : Value, e = .returned (.tuple #[v0_, .bool r2]) ∧ Kd.S (Kd.slice 3 (Kd.int .i64)) 36 w' w.heap.size (fun _ => True) v0_ r1 ∧ Below w.heap.size w w' := by
 have hu30 := Tryz.underlying30
 have HR0_1 := Aside0.mk hr0_1
 have HC0_1 := Aside0.mk hc0_1
 clear hr0_1 hc0_1
 have HB := Aside0.mk (Below.refl w.heap.size w)
 have H : ((impl_sure.f k a0_0 l0_1 false).bind fun bt876 => (some (bt876.1, bt876.2))) = some (r1, r2) := h
 clear h
 replace H := Option.bind_eq_some_iff.mp H
 obtain ⟨⟨t876, t879⟩, A20, H⟩ := H
 replace H : (some (t876, t879)) = some (r1, r2) := H
 have A2 := Aside0.mk A20
 clear A20
 simp only [Option.some.injEq, Prod.mk.injEq] at H
 obtain ⟨rfl, rfl⟩ := H
 go_enter Tryz.func44, Tryz.ntmps44
 go_wp2_with (first | ((with_reducible refine gate_dst (N := 1) rfl ?_); refine zq 1 #[.int .i64 a0_0, .slice A0_1 l0_1.length c0_1] 30 ?_; intro gb875 hg w3 hbox hb; have n2_ := Aside0.mk ((by rw [hg]; exact (below_size (zh HB.out)) : w.heap.size ≤ gb875)); replace HB := Aside0.mk (below_step (zh HB.out) hb); have BK875 := Aside0.mk hbox; have GW875 := n2_; have GE875 := n2_; clear n2_ hb hbox hg; have hcz4_0 : w3.cell? ⟨gb875, 0, none⟩ = some (.int .i64 a0_0) := (blk_cell BK875.out 0).trans rfl; have hcz4_1 : w3.cell? ⟨gb875, 1, none⟩ = some (.slice A0_1 l0_1.length c0_1) := (blk_cell BK875.out 1).trans rfl; have hfz4_0 := blk_frozen BK875.out 0; have hfz4_1 := blk_frozen BK875.out 1) | ((with_reducible refine gate_callee (f := 66) rfl ?_); refine zl 5 Tryz.func66 #[.agg #[.int .i64 a0_0, .slice A0_1 l0_1.length c0_1], .bool false] ?_; (with_reducible refine (impl_sure.calls k a0_0 _ _ l0_1 false t876 t879 _ ?side1 ?side2 A2.out).mono ?_); (case side1 => repeat (first | exact (Kd.C_below HR0_1.out HB.out) | (with_reducible refine Kd.C_alloc ?_ _) | (with_reducible refine Kd.C_drewN ?_ _) | (with_reducible refine Kd.C_drew ?_))); (case side2 => exact HC0_1.out); rintro e w5 ⟨v877, rfl, ho0, hb⟩; refine ⟨_, rfl, ?_⟩; have n0_ := Aside0.mk (Kd.S_lower ho0 (below_size (zh HB.out))); have n1_ := Aside0.mk (blk_below (g := gb875) (o := .cells #[.int .i64 a0_0, .slice A0_1 l0_1.length c0_1] 30 (0, 0)) (zb BK875.out) hb); have n2_ := Aside0.mk (below_step (zh HB.out) hb); clear BK875; clear HB; have HO878 := n0_; have BK875 := n1_; have HB := n2_; clear n0_ n1_ n2_; (try clear hb); (try clear hb2); (try clear hk); (try clear hi); (try clear ho0)))
 go_ret2
 exact ⟨_, by first | rfl | (simp [*, errW_none, errW_some] <;> rfl), by (with_reducible repeat (first | apply Kd.S_alloc | apply Kd.S_drewN | apply Kd.S_drew)); exact HO878.out, zh HB.out⟩
end Go.Proofs.YtgjakcpbfbfejaaGreat.Q
end
section
namespace Go.Proofs.YtgjakcpbfbfejaaGreat.Q
open Go.RowKit Go.Proofs.YtgjakcpbfbfejaaGreatW.PrintWords Go.Proofs.YtgjakcpbfbfejaaGreatW.PrintLast Go.Proofs.YtgjakcpbfbfejaaGreatW.PrintMore
set_option linter.unusedVariables false
set_option linter.unusedSimpArgs false
theorem ssHeld (k : Nat) {B : Option Addr} {d n : Nat} {y : List (List Int)} (q : Int) (W : World) (h : n = y.length ∧ n ≤ d ∧ Kd.C (Kd.slice 3 (Kd.int .i64)) W B y.length y) (h2 : laws_heldIntSS.f k y 1 = some q) :
    Calls Tryz.prog 47 #[.slice B n d, .int .i64 1] W fun e w' => e = .returned (.int .i64 q) ∧ Below W.heap.size W w' := by
  obtain ⟨rfl, h1, hC⟩ := h
  exact (laws_heldIntSS.calls k B d y 1 q W hC h1 h2).mono (fun _ _ h => ⟨h.1, h.2.below⟩)
def laws_FnExactSureLosses.f (k : Nat) (a : Int) (l : List (S79)) : Option Bool :=
  (laws_szPuzzle.f a l 1048576).bind fun q => if q < 0 then some true else (laws_toPuzzle.f k a l).bind fun p => (spec_SureLosses.f k p.1 p.2).bind fun s => (impl_SureLosses.f k p.1 p.2).bind fun g => (laws_eqIntSS.f k g.1 s.1).bind fun t => if t = true then (if g.2 = s.2 then (laws_eqPuzzle.f k p.1 p.2 p.1 p.2).bind fun e => if e = true then (laws_markPuzzle.f k p.1 p.2 1).bind fun x => if x.1 < 0 then none else (laws_markIntSS.f k g.1 1).bind fun n => (laws_heldIntSS.f k n.2 1).bind fun q => if q < 0 then none else if q = n.1 then some true else none else none else none) else none
set_option maxRecDepth 100000 in
set_option maxHeartbeats 8000000 in
theorem laws_FnExactSureLosses_walk (k : Nat) (a : Int) (A : Option Addr) (c : Nat) (l : List (S79)) (r : Bool) (w : World) (hC0 : Kd.C k79 w A l.length l) (hc : l.length ≤ c) (h : laws_FnExactSureLosses.f k a l = some r) :
    Calls Tryz.prog 11 #[.agg #[.int .i64 a, .slice A l.length c]] w fun e w' => e = .returned (.bool r) ∧ Below w.heap.size w w' := by
  have HC := Aside0.mk hC0
  have u1 := Tryz.underlying24
  have u2 := Tryz.underlying30
  clear hC0
  replace h := Option.bind_eq_some_iff.mp h
  obtain ⟨q0, hq0, h⟩ := h
  have HQ0 := Aside0.mk hq0
  clear hq0
  by_cases c0 : q0 < 0
  · rw [if_pos c0] at h
    obtain rfl := Option.some.inj h
    have c0b : decide (q0 < 0) = true := decide_eq_true c0
    clear h
    go_enter Tryz.func11, Tryz.ntmps11
    go_wp2_with (go_at_call 13; refine (laws_szPuzzle.calls a A c l 1048576 q0 _ ?hC hc HQ0.out).mono ?_; (case hC => exact Kd.C_alloc HC.out _); rintro e u1_ ⟨rfl, hb⟩; have hA := blk_below (blk_new w _) hb; have hA0 := (blk_cell hA 0).trans rfl; have hA1 := (blk_cell hA 1).trans rfl; have HA := Aside0.mk hA; have HB0 := Aside0.mk (((Below.refl w.heap.size w).alloc (Nat.le_refl _) (.cells #[.int .i64 a, .slice A l.length c] 24 (0, 0))).trans (hb.mono (by simp))); clear hb hA)
    go_ret
    exact ⟨rfl, HB0.out⟩
  rw [if_neg c0] at h
  have c0b : decide (q0 < 0) = false := decide_eq_false c0
  replace h := Option.bind_eq_some_iff.mp h
  obtain ⟨⟨m, p⟩, hp, h⟩ := h
  replace h := Option.bind_eq_some_iff.mp h
  obtain ⟨⟨s, sb⟩, hs, h⟩ := h
  replace h := Option.bind_eq_some_iff.mp h
  obtain ⟨⟨g, gb⟩, hg, h⟩ := h
  replace h := Option.bind_eq_some_iff.mp h
  obtain ⟨t, ht, h⟩ := h
  dsimp only at hs hg ht h
  by_cases c1 : t = true
  case neg => rw [if_neg c1] at h; cases h
  rw [if_pos c1] at h
  subst c1
  by_cases c2 : gb = sb
  case neg => rw [if_neg c2] at h; cases h
  rw [if_pos c2] at h
  subst c2
  replace h := Option.bind_eq_some_iff.mp h
  obtain ⟨t, hep, h⟩ := h
  by_cases c1 : t = true
  case neg => rw [if_neg c1] at h; cases h
  rw [if_pos c1] at h
  subst c1
  replace h := Option.bind_eq_some_iff.mp h
  obtain ⟨⟨x1, xm⟩, hx, h⟩ := h
  dsimp only at hep hx h
  by_cases c3 : x1 < 0
  case pos => rw [if_pos c3] at h; cases h
  rw [if_neg c3] at h
  have c3b : decide (x1 < 0) = false := decide_eq_false c3
  replace h := Option.bind_eq_some_iff.mp h
  obtain ⟨⟨n1, nm⟩, hn, h⟩ := h
  replace h := Option.bind_eq_some_iff.mp h
  obtain ⟨q, hh, h⟩ := h
  dsimp only at hn hh h
  by_cases c4 : q < 0
  case pos => rw [if_pos c4] at h; cases h
  rw [if_neg c4] at h
  have c4b : decide (q < 0) = false := decide_eq_false c4
  by_cases c5 : q = n1
  case neg => rw [if_neg c5] at h; cases h
  rw [if_pos c5] at h
  subst c5
  obtain rfl := Option.some.inj h
  have gg : (gb != gb) = false := by simp
  have HP := Aside0.mk hp
  have HS := Aside0.mk hs
  have HG := Aside0.mk hg
  have HT := Aside0.mk ht
  have HE := Aside0.mk hep
  have HX := Aside0.mk hx
  have HN := Aside0.mk hn
  have HH := Aside0.mk hh
  clear h hp hs hg ht hep hx hn hh
  go_enter Tryz.func11, Tryz.ntmps11
  go_wp2_with (go_at_call 13; refine (laws_szPuzzle.calls a A c l 1048576 q0 _ ?hC hc HQ0.out).mono ?_; (case hC => exact Kd.C_alloc HC.out _); rintro e u1_ ⟨rfl, hb⟩; have hA := blk_below (blk_new w _) hb; have hA0 := (blk_cell hA 0).trans rfl; have hA1 := (blk_cell hA 1).trans rfl; have HA := Aside0.mk hA; have HB0 := Aside0.mk (((Below.refl w.heap.size w).alloc (Nat.le_refl _) (.cells #[.int .i64 a, .slice A l.length c] 24 (0, 0))).trans (hb.mono (by simp))); clear hb hA)
  go_wp2_with (go_at_call 15; refine (laws_toPuzzle.calls k a A c l m p _ (Kd.C_below HC.out HB0.out) hc HP.out).mono ?_; rintro e u2_ ⟨v, rfl, hR, hb⟩; obtain ⟨D, d, rfl⟩ := Kd.R_slice hR; have HD := Aside0.mk (Kd.R_reads' hR); have hB := HB0.out.trans (hb.mono HB0.out.size); have hA := blk_below HA.out hb; clear HA HB0 hA0 hA1; have HA := Aside0.mk hA; have HB0 := Aside0.mk hB; have hA0 := (blk_cell hA 0).trans rfl; have hA1 := (blk_cell hA 1).trans rfl; clear hb hR hA hB)
  go_wp2_with (go_at_call 43; refine (spec_SureLosses.calls k m D d p s gb _ HD.out.2.2 HD.out.2.1 HS.out).mono ?_; rintro e w1 ⟨v, rfl, hV, hb⟩; obtain ⟨As, cs, rfl⟩ := Kd.V_slice hV; have HW := Aside0.mk (Kd.V_reads' hV); have hB := HB0.out.trans (hb.mono HB0.out.size); have hA := blk_below HA.out hb; clear HA HB0 HD hA0 hA1; have HA := Aside0.mk hA; have HB0 := Aside0.mk hB; have HCA := Aside0.mk (Kd.C_below HC.out hB); have hA0 := (blk_cell hA 0).trans rfl; have hA1 := (blk_cell hA 1).trans rfl; clear hb hV hA hB)
  go_wp2_with (go_at_call 15; refine (laws_toPuzzle.calls k a A c l m p _ HCA.out hc HP.out).mono ?_; rintro e w2 ⟨v, rfl, hR, hb⟩; obtain ⟨X, cx, rfl⟩ := Kd.R_slice hR; have HX0 := Aside0.mk hR; have B1 := Aside0.mk hb; have hA := blk_alloc (blk_below HA.out hb) (.cells #[.int .i64 m, .slice X p.length cx] 30 (0, 0)); have hX := blk_new w2 (.cells #[.int .i64 m, .slice X p.length cx] 30 (0, 0)); clear hA0 hA1; have hA0 := (blk_cell hA 0).trans rfl; have hA1 := (blk_cell hA 1).trans rfl; have hX0 := (blk_cell hX 0).trans rfl; have hX1 := (blk_cell hX 1).trans rfl; clear hb hR hA hX)
  go_wp2_with (go_at_call 44; refine (impl_SureLosses.calls k m X cx p g gb _ (Kd.C_alloc (Kd.R_reads' HX0.out).2.2 _) (Kd.R_reads' HX0.out).2.1 HG.out).mono ?_; rintro e w3 ⟨v, rfl, hS, hb⟩; obtain ⟨G, cg, rfl⟩ := Kd.S_slice hS; have HG0 := Aside0.mk hS; have hA := blk_below (blk_alloc (blk_below HA.out B1.out) (.cells #[.int .i64 m, .slice X p.length cx] 30 (0, 0))) hb; have hX := blk_below (blk_new w2 (.cells #[.int .i64 m, .slice X p.length cx] 30 (0, 0))) hb; have hR := Kd.R_below (Kd.R_mono (Kd.R_bound (Kd.R_alloc HX0.out (.cells #[.int .i64 m, .slice X p.length cx] 30 (0, 0)))) (ok' := fun z => z < w2.heap.size + 1) (fun z hz => Nat.lt_of_lt_of_le hz.2.2.1 (by simp))) hb; have hS2 := Kd.S_mono (Kd.S_bound hS) (ok' := fun z => w2.heap.size + 1 ≤ z) (fun z hz => Nat.le_trans (by simp) hz.2.1); have hB := (B1.out.alloc B1.out.size (.cells #[.int .i64 m, .slice X p.length cx] 30 (0, 0))).trans (hb.mono (Nat.le_trans B1.out.size (by simp))); have hsz := B1.out.size; clear HX0 HG0 B1 hA0 hA1 hX0 hX1; have HX0 := Aside0.mk hR; have HG0 := Aside0.mk hS2; have B1 := Aside0.mk hB; have BA := Aside0.mk hA; have BX := Aside0.mk hX; have hA0 := (blk_cell hA 0).trans rfl; have hA1 := (blk_cell hA 1).trans rfl; have hX0 := (blk_cell hX 0).trans rfl; have hX1 := (blk_cell hX 1).trans rfl; have HZ := Aside0.mk hsz; clear hb hS hR hS2 hA hX hB hsz)
  go_wp2_with (go_at_call 45; refine (laws_eqIntSS.calls k G cg g As cs s true _ (Kd.S_reads' HG0.out).2.2 (Kd.S_reads' HG0.out).2.1 (Kd.C_below HW.out.2.2 B1.out) HW.out.2.1 HT.out).mono ?_; rintro e w4 ⟨rfl, hq⟩; have hb := hq.below; clear hq; have hA := blk_below BA.out hb; have hX := blk_below BX.out hb; have hR := Kd.R_below HX0.out hb; have hS := Kd.S_below HG0.out hb; have hB := B1.out.trans (hb.mono B1.out.size); clear BA BX HX0 HG0 B1 hA0 hA1 hX0 hX1; have BA := Aside0.mk hA; have BX := Aside0.mk hX; have HX0 := Aside0.mk hR; have HG0 := Aside0.mk hS; have B1 := Aside0.mk hB; have hA0 := (blk_cell hA 0).trans rfl; have hA1 := (blk_cell hA 1).trans rfl; have hX0 := (blk_cell hX 0).trans rfl; have hX1 := (blk_cell hX 1).trans rfl; clear hb hR hS hA hX hB)
  refine start_ (n := 5) (S := fun w' => w'.cell? ⟨w2.heap.size, 0, none⟩ = some (.int .i64 m) ∧ w'.cell? ⟨w2.heap.size, 1, none⟩ = some (.slice X p.length cx) ∧ w'.cell? ⟨w.heap.size, 0, none⟩ = some (.int .i64 a) ∧ w'.cell? ⟨w.heap.size, 1, none⟩ = some (.slice A l.length c)) (ds := []) #[false, false, false, false, false] (by kernel_rfl) rfl rfl ⟨(blk_cell (blk_drew BX.out) 0).trans rfl, (blk_cell (blk_drew BX.out) 1).trans rfl, (blk_cell (blk_drew BA.out) 0).trans rfl, (blk_cell (blk_drew BA.out) 1).trans rfl⟩ (fun hHeld => ?_)
  have hb : Below w4.heap.size w4 w4.drew := (Below.refl _ w4).drew
  generalize w4.drew = w5 at hb hHeld ⊢
  have hA := blk_below BA.out hb
  have hX := blk_below BX.out hb
  have hR := Kd.R_below HX0.out hb
  have hS := Kd.S_below HG0.out hb
  have hB := B1.out.trans (hb.mono B1.out.size)
  clear BA BX HX0 HG0 B1 hA0 hA1 hX0 hX1
  have BA := Aside0.mk hA
  have BX := Aside0.mk hX
  have HX0 := Aside0.mk hR
  have HG0 := Aside0.mk hS
  have B1 := Aside0.mk hB
  have hA0 := (blk_cell hA 0).trans rfl
  have hA1 := (blk_cell hA 1).trans rfl
  have hX0 := (blk_cell hX 0).trans rfl
  have hX1 := (blk_cell hX 1).trans rfl
  clear hb hR hS hA hX hB
  refine take_ (i := 0) (N := some 41) (v := ?_) (a' := ?_) #[true, false, false, false, false] rfl rfl (by kernel_rfl) (fun _ _ _ h => h) (Or.inl ⟨by rfl, ?_⟩) hHeld ?_ ?_
  rotate_left
  · rintro w' ⟨s0, s1, s2, s3⟩
    go_simp
    with_reducible rfl
  rotate_left
  · simp only [Act.put, List.setIfInBounds_toArray, List.set_cons_zero, List.set_cons_succ, i64_w, i32_w]
    rfl
  refine take_ (i := 1) (N := some 42) (v := ?_) (a' := ?_) #[true, true, false, false, false] rfl rfl (by kernel_rfl) (fun _ _ _ h => h) (Or.inl ⟨by rfl, ?_⟩) hHeld ?_ ?_
  rotate_left
  · rintro w' ⟨s0, s1, s2, s3⟩
    go_simp
    with_reducible rfl
  rotate_left
  · simp only [Act.put, List.setIfInBounds_toArray, List.set_cons_zero, List.set_cons_succ, i64_w, i32_w]
    rfl
  refine one_ (i := 2) (N := some 43) #[true, true, true, false, false] rfl rfl (by kernel_rfl) (by decide) (fun K hK => ?_)
  refine goes_ Tryz.func15 (by kernel_rfl) rfl #[.agg #[.int .i64 a, .slice A l.length c]] (by rfl) rfl rfl (by (try simp only [List.map_toArray, List.map_cons, List.map_nil]); first | done | rfl) ?_
  refine (laws_toPuzzle.calls k a A c l m p _ (Kd.C_below HCA.out B1.out) hc HP.out).mono ?_
  rintro e w6 ⟨v, rfl, hD, hb⟩
  refine ⟨_, rfl, ?_⟩
  obtain ⟨D, d, rfl⟩ := Kd.R_slice hD
  have HD := Aside0.mk (Kd.R_reads' hD)
  clear hD
  have hA := blk_below BA.out hb
  have hX := blk_below BX.out hb
  have hR := Kd.R_below HX0.out hb
  have hS := Kd.S_below HG0.out hb
  have hB := B1.out.trans (hb.mono B1.out.size)
  clear BA BX HX0 HG0 B1 hA0 hA1 hX0 hX1
  have BA := Aside0.mk hA
  have BX := Aside0.mk hX
  have HX0 := Aside0.mk hR
  have HG0 := Aside0.mk hS
  have B1 := Aside0.mk hB
  have hA0 := (blk_cell hA 0).trans rfl
  have hA1 := (blk_cell hA 1).trans rfl
  have hX0 := (blk_cell hX 0).trans rfl
  have hX1 := (blk_cell hX 1).trans rfl
  clear hb hR hS hA hX hB
  refine hK.out _ _ ⟨(blk_cell BX.out 0).trans rfl, (blk_cell BX.out 1).trans rfl, (blk_cell BA.out 0).trans rfl, (blk_cell BA.out 1).trans rfl⟩ (fun hHeld => ?_)
  clear hK K
  refine norm_ (a' := ?_) ?_ ?_
  rotate_left
  · show Act.put _ (some 43) _ = _
    simp only [Act.put, List.setIfInBounds_toArray, List.set_cons_zero, List.set_cons_succ, i64_w, i32_w]
    rfl
  refine one_ (i := 3) (N := some 44) #[true, true, true, true, false] rfl rfl (by kernel_rfl) (by decide) (fun K hK => ?_)
  refine goes_ Tryz.func17 (by kernel_rfl) rfl #[.agg #[.int .i64 m, .slice X p.length cx], .agg #[.int .i64 m, .slice D p.length d]] (by rfl) rfl rfl (by (try simp only [List.map_toArray, List.map_cons, List.map_nil]); first | done | rfl) ?_
  refine (laws_eqPuzzle.calls k m X cx p m D d p true _ (Kd.R_reads' HX0.out).2.2 (Kd.R_reads' HX0.out).2.1 HD.out.2.2 HD.out.2.1 HE.out).mono ?_
  rintro e w7 ⟨rfl, hb⟩
  refine ⟨_, rfl, ?_⟩
  clear HD
  have hA := blk_below BA.out hb
  have hX := blk_below BX.out hb
  have hR := Kd.R_below HX0.out hb
  have hS := Kd.S_below HG0.out hb
  have hB := B1.out.trans (hb.mono B1.out.size)
  clear BA BX HX0 HG0 B1 hA0 hA1 hX0 hX1
  have BA := Aside0.mk hA
  have BX := Aside0.mk hX
  have HX0 := Aside0.mk hR
  have HG0 := Aside0.mk hS
  have B1 := Aside0.mk hB
  have hA0 := (blk_cell hA 0).trans rfl
  have hA1 := (blk_cell hA 1).trans rfl
  have hX0 := (blk_cell hX 0).trans rfl
  have hX1 := (blk_cell hX 1).trans rfl
  clear hb hR hS hA hX hB
  refine hK.out _ _ ⟨(blk_cell BX.out 0).trans rfl, (blk_cell BX.out 1).trans rfl, (blk_cell BA.out 0).trans rfl, (blk_cell BA.out 1).trans rfl⟩ (fun hHeld => ?_)
  clear hK K
  refine norm_ (a' := ?_) ?_ ?_
  rotate_left
  · show Act.put _ (some 44) _ = _
    simp only [Act.put, List.setIfInBounds_toArray, List.set_cons_zero, List.set_cons_succ, i64_w, i32_w]
    rfl
  refine pure_ (i := 4) (N := some 45) (v := ?_) (a' := ?_) #[true, true, true, true, true] rfl rfl (by kernel_rfl) (fun _ _ _ h => h) (Or.inl ⟨by rfl, ?_⟩) ?_ ?_
  rotate_left
  · intro w'
    go_simp
    with_reducible rfl
  rotate_left
  · simp only [Act.put, List.setIfInBounds_toArray, List.set_cons_zero, List.set_cons_succ, i64_w, i32_w]
    rfl
  refine done_ (by kernel_rfl) ?_
  clear hHeld
  go_wp2_with (go_at_call 25; refine (laws_markPuzzle.calls k m (fun z => z < w2.heap.size + 1 ∧ w1.heap.size ≤ z) _ p 1 x1 xm w1 _ B1.out (Kd.R_mono (Kd.R_bound HX0.out) (fun z hz => ⟨hz.1, hz.2.1⟩)) HX.out).mono ?_; rintro e w8 ⟨rfl, -, hb, hk⟩; have hA := (hk.2 _ (blk_lt BA.out) (fun hz => absurd (blk_lt HA.out) (Nat.not_lt.2 hz.2))).trans BA.out; have hS := Kd.S_step HG0.out (fun z hz hlt => hk.2 z hlt (fun h => absurd h.1 (Nat.not_lt.2 hz))); clear BA BX HX0 HG0 B1 hA0 hA1 hX0 hX1; have BA := Aside0.mk hA; have HG0 := Aside0.mk hS; have B1 := Aside0.mk hb; have hA0 := (blk_cell hA 0).trans rfl; have hA1 := (blk_cell hA 1).trans rfl; clear hb hk hA hS)
  go_wp2_with (go_at_call 45; refine (laws_eqIntSS.calls k G cg g As cs s true _ (Kd.S_reads' HG0.out).2.2 (Kd.S_reads' HG0.out).2.1 (Kd.C_below HW.out.2.2 B1.out) HW.out.2.1 HT.out).mono ?_; rintro e w9 ⟨rfl, hq⟩; have hb := hq.below; clear hq; have hA := blk_below BA.out hb; have hS := Kd.S_below HG0.out hb; have hB := B1.out.trans (hb.mono B1.out.size); clear BA HG0 B1 hA0 hA1; have BA := Aside0.mk hA; have HG0 := Aside0.mk hS; have B1 := Aside0.mk hB; have hA0 := (blk_cell hA 0).trans rfl; have hA1 := (blk_cell hA 1).trans rfl; clear hb hS hA hB)
  go_wp2_with (go_at_call 46; refine (laws_markIntSS.calls k G cg g 1 q nm (fun z => w2.heap.size + 1 ≤ z) w1 _ B1.out (Kd.S_lower HG0.out (Nat.le_trans HZ.out (by simp))) HN.out).mono ?_; rintro e w10 ⟨rfl, hS, hlen, hb, hk⟩; have hA := (hk.2 _ (blk_lt BA.out) (fun hz => absurd (Nat.le_trans HZ.out (Nat.le_trans (Nat.le_succ _) hz)) (Nat.not_le.2 (blk_lt HA.out)))).trans BA.out; have HM := Aside0.mk (Kd.S_reads' hS); clear BA HG0 B1 hA0 hA1; have BA := Aside0.mk hA; have B1 := Aside0.mk hb; have hA0 := (blk_cell hA 0).trans rfl; have hA1 := (blk_cell hA 1).trans rfl; clear hb hk hA hS hlen)
  go_wp2_with (go_at_call 47; refine (ssHeld k q _ HM.out HH.out).mono ?_; rintro e w11 ⟨rfl, hb⟩; have hA := blk_below BA.out hb; have hM := And.intro HM.out.1 (And.intro HM.out.2.1 (Kd.C_below HM.out.2.2 hb)); have hB := B1.out.trans (hb.mono B1.out.size); clear BA HM B1 hA0 hA1; have BA := Aside0.mk hA; have HM := Aside0.mk hM; have B1 := Aside0.mk hB; have hA0 := (blk_cell hA 0).trans rfl; have hA1 := (blk_cell hA 1).trans rfl; clear hb hM hA hB)
  go_wp2_with (go_at_call 15; refine (laws_toPuzzle.calls k a A c l m p _ (Kd.C_below HCA.out B1.out) hc HP.out).mono ?_; rintro e w12 ⟨v, rfl, hR, hb⟩; obtain ⟨D, d, rfl⟩ := Kd.R_slice hR; have HD := Aside0.mk (Kd.R_reads' hR); clear hR; have hA := blk_below BA.out hb; have hM := And.intro HM.out.1 (And.intro HM.out.2.1 (Kd.C_below HM.out.2.2 hb)); have hB := B1.out.trans (hb.mono B1.out.size); clear BA HM B1 hA0 hA1; have BA := Aside0.mk hA; have HM := Aside0.mk hM; have B1 := Aside0.mk hB; have hA0 := (blk_cell hA 0).trans rfl; have hA1 := (blk_cell hA 1).trans rfl; clear hb hM hA hB)
  go_wp2_with (go_at_call 44; refine (impl_SureLosses.calls k m D d p g gb _ HD.out.2.2 HD.out.2.1 HG.out).mono ?_; rintro e w13 ⟨v, rfl, hR, hb⟩; obtain ⟨E, f, rfl⟩ := Kd.S_slice hR; clear HD; have HD := Aside0.mk (Kd.S_reads' hR); clear hR; have hA := blk_below BA.out hb; have hM := And.intro HM.out.1 (And.intro HM.out.2.1 (Kd.C_below HM.out.2.2 hb)); have hB := B1.out.trans (hb.mono B1.out.size); clear BA HM B1 hA0 hA1; have BA := Aside0.mk hA; have HM := Aside0.mk hM; have B1 := Aside0.mk hB; have hA0 := (blk_cell hA 0).trans rfl; have hA1 := (blk_cell hA 1).trans rfl; clear hb hM hA hB)
  go_wp2_with (go_at_call 45; refine (laws_eqIntSS.calls k E f g As cs s true _ HD.out.2.2 HD.out.2.1 (Kd.C_below HW.out.2.2 B1.out) HW.out.2.1 HT.out).mono ?_; rintro e w14 ⟨rfl, hq⟩; have hb := hq.below; clear hq HD; have hA := blk_below BA.out hb; have hM := And.intro HM.out.1 (And.intro HM.out.2.1 (Kd.C_below HM.out.2.2 hb)); have hB := B1.out.trans (hb.mono B1.out.size); clear BA HM B1 hA0 hA1; have BA := Aside0.mk hA; have HM := Aside0.mk hM; have B1 := Aside0.mk hB; have hA0 := (blk_cell hA 0).trans rfl; have hA1 := (blk_cell hA 1).trans rfl; clear hb hM hA hB)
  go_wp2_with (go_at_call 47; refine (ssHeld k q _ HM.out HH.out).mono ?_; rintro e w15 ⟨rfl, hb⟩; have hA := blk_below BA.out hb; have hM := And.intro HM.out.1 (And.intro HM.out.2.1 (Kd.C_below HM.out.2.2 hb)); have hB := B1.out.trans (hb.mono B1.out.size); clear BA HM B1 hA0 hA1; have BA := Aside0.mk hA; have HM := Aside0.mk hM; have B1 := Aside0.mk hB; have hA0 := (blk_cell hA 0).trans rfl; have hA1 := (blk_cell hA 1).trans rfl; clear hb hM hA hB)
  go_ret
  exact ⟨rfl, HB0.out.trans (B1.out.mono HB0.out.size)⟩
theorem laws_FnExactSureLosses.calls (k : Nat) (a0_0 : Int) (A0_1 : Option Addr) (c0_1 : Nat) (l0_1 : List (S79)) (r : Bool) (w : World) (hr0_1 : Kd.C k79 w A0_1 l0_1.length l0_1) (hc0_1 : l0_1.length ≤ c0_1) (h : laws_FnExactSureLosses.f k a0_0 l0_1 = some r) :
    Calls Tryz.prog 11 #[.agg #[.int .i64 a0_0, .slice A0_1 l0_1.length c0_1]] w fun e w' => e = .returned (.bool r) ∧ Below w.heap.size w w' := by
  exact laws_FnExactSureLosses_walk k a0_0 A0_1 c0_1 l0_1 r w hr0_1 hc0_1 h
end Go.Proofs.YtgjakcpbfbfejaaGreat.Q
end
section
namespace Go.Proofs.YtgjakcpbfbfejaaGreat.Q
open Go.RowKit Go.Proofs.YtgjakcpbfbfejaaGreatW.PrintWords Go.Proofs.YtgjakcpbfbfejaaGreatW.PrintLast Go.Proofs.YtgjakcpbfbfejaaGreatW.PrintMore
set_option linter.unusedVariables false
set_option linter.unusedSimpArgs false
open Go.ChangeShapes Go.WideShapes Go.ChangeAt Go.Deep
section
variable {H : Type} {enc : TypeId × Value → H} {P : Program} {W : World} {α β γ : Type}
def Opens (enc : TypeId × Value → H) (P : Program) (W : World) (t : TypeId) (d : Kd α) (G : α → Prop) : Prop :=
  ∀ (fuel : Nat) (cs : List Value) (y : DataW H × List MemPlace), DataW.trod enc P W 0 (fun _ => true) true fuel t cs = some y → ∃ x, d.K W x cs ∧ G x
def I64 (x : Int) : Prop := -9223372036854775808 ≤ x ∧ x ≤ 9223372036854775807
theorem opens_int {t : TypeId} (ht : P.underlying t = some (.int .i64)) : Opens enc P W t (Kd.int .i64) I64 := by
  intro fuel cs y h
  obtain ⟨n, rfl, _, hw⟩ := DataW.trod_int ht h
  exact ⟨n, rfl, Go.bounds_i64 hw⟩
theorem opens_slice [Inhabited α] {t e : TypeId} {d : Kd α} {G : α → Prop} (ht : P.underlying t = some (.slice e)) (he : P.cellsOf e = d.sz) (h : Opens enc P W e d G) :
    Opens enc P W t (Kd.slice e d) (fun xs => ∀ x ∈ xs, G x) := by
  intro fuel cs y hr
  rcases Deep.open_slice ht hr with ⟨rfl, _⟩ | ⟨a, len, cap, m, n, D, Pl, rfl, _, hlc, hcm, hm, _, hel⟩
  · exact ⟨[], ⟨none, 0, rfl, Nat.le_refl _, rfl, by simp, fun hp => absurd hp (by simp)⟩, fun x hx => by cases hx⟩
  · have hm' : len ≤ m := by rw [hm]; simp; omega
    have key : ∀ i, i < len → ∃ x, (∃ cs', d.K W x cs' ∧ ∀ j u, cs'[j]? = some u → W.cell? (a.add (i * d.sz + j)) = some u) ∧ G x := by
      intro i hi
      obtain ⟨cs', h1, h2⟩ := hel i (by omega)
      obtain ⟨x, hx, hG⟩ := h _ _ _ h2
      obtain ⟨_, hl, hc⟩ := World.cells?_some h1
      refine ⟨x, ⟨cs', hx, fun j u hu => ?_⟩, hG⟩
      have hj : j < P.cellsOf e := by rw [← hl]; exact (List.getElem?_eq_some_iff.1 hu).1
      have h3 := hc j hj
      rw [Deep.add_add, he] at h3
      rw [h3, hu]
    obtain ⟨f, hf⟩ := Deep.choose_lt key
    have hlen : ((List.range len).map f).length = len := by simp
    refine ⟨(List.range len).map f, ⟨some a, cap, by rw [hlen], by rw [hlen]; exact hlc, rfl, ?_, fun _ => ⟨a, rfl, fun j p hj => ?_⟩⟩, fun x hx => ?_⟩
    · rw [hlen]; unfold maxLen at hcm; omega
    · obtain ⟨hj1, hj2⟩ := List.getElem?_eq_some_iff.1 hj
      have hjl : j < len := by rw [hlen] at hj1; exact hj1
      have : p = f j := by rw [← hj2]; simp
      subst this
      obtain ⟨⟨cs', hK, hc⟩, _⟩ := hf j hjl
      exact ⟨cs', d.K_len hK, hK, hc⟩
    · obtain ⟨i, hi, rfl⟩ := List.mem_map.1 hx
      exact (hf i (List.mem_range.1 hi)).2
theorem opens_pair {t : TypeId} {f0 f1 : Field} {d0 : Kd α} {d1 : Kd β} {G0 : α → Prop} {G1 : β → Prop} (ht : P.underlying t = some (.struct #[f0, f1])) (hC : P.cellsOf t = d0.sz + d1.sz)
    (o0 : f0.offset = 0) (o1 : f1.offset = d0.sz) (c0 : P.cellsOf f0.type = d0.sz) (c1 : P.cellsOf f1.type = d1.sz) (h0 : Opens enc P W f0.type d0 G0) (h1 : Opens enc P W f1.type d1 G1) :
    Opens enc P W t (Kd.pair d0 d1) (fun x => G0 x.1 ∧ G1 x.2) := by
  intro fuel cs y hr
  obtain ⟨y0, y1, n, _, hl, r0, r1⟩ := trod_struct2 ht hr
  rw [o0, c0] at r0
  rw [o1, c1] at r1
  obtain ⟨x0, k0, g0⟩ := h0 _ _ _ r0
  obtain ⟨x1, k1, g1⟩ := h1 _ _ _ r1
  refine ⟨(x0, x1), ⟨_, _, ?_, k0, k1⟩, g0, g1⟩
  rw [List.drop_zero, List.take_of_length_le (l := cs.drop d0.sz) (by rw [List.length_drop, hl, hC]; omega), List.take_append_drop]
theorem opens_triple {t : TypeId} {f0 f1 f2 : Field} {d0 : Kd α} {d1 : Kd β} {d2 : Kd γ} {G0 : α → Prop} {G1 : β → Prop} {G2 : γ → Prop} (ht : P.underlying t = some (.struct #[f0, f1, f2])) (hC : P.cellsOf t = d0.sz + (d1.sz + d2.sz))
    (o0 : f0.offset = 0) (o1 : f1.offset = d0.sz) (o2 : f2.offset = d0.sz + d1.sz) (c0 : P.cellsOf f0.type = d0.sz) (c1 : P.cellsOf f1.type = d1.sz) (c2 : P.cellsOf f2.type = d2.sz)
    (h0 : Opens enc P W f0.type d0 G0) (h1 : Opens enc P W f1.type d1 G1) (h2 : Opens enc P W f2.type d2 G2) :
    Opens enc P W t (Kd.pair d0 (Kd.pair d1 d2)) (fun x => G0 x.1 ∧ G1 x.2.1 ∧ G2 x.2.2) := by
  intro fuel cs y hr
  obtain ⟨y0, y1, y2, n, _, hl, r0, r1, r2⟩ := trod_struct3 ht hr
  rw [o0, c0] at r0
  rw [o1, c1] at r1
  rw [o2, c2] at r2
  obtain ⟨x0, k0, g0⟩ := h0 _ _ _ r0
  obtain ⟨x1, k1, g1⟩ := h1 _ _ _ r1
  obtain ⟨x2, k2, g2⟩ := h2 _ _ _ r2
  refine ⟨(x0, x1, x2), ⟨_, _, ?_, k0, _, _, rfl, k1, k2⟩, g0, g1, g2⟩
  rw [List.drop_zero, List.take_of_length_le (l := cs.drop (d0.sz + d1.sz)) (by rw [List.length_drop, hl, hC]; omega), ← List.drop_drop, List.take_append_drop, List.take_append_drop]
theorem opens_iso {t : TypeId} {d : Kd α} {G : α → Prop} (f : β → α) (g : α → β) (hfg : ∀ x, f (g x) = x) (h : Opens enc P W t d G) : Opens enc P W t (Kd.iso d f) (fun y => G (f y)) := by
  intro fuel cs y hr
  obtain ⟨x, k, gx⟩ := h _ _ _ hr
  exact ⟨g x, by show d.K W (f (g x)) cs; rw [hfg]; exact k, by show G (f (g x)); rw [hfg]; exact gx⟩
theorem open_struct {r : Reach} {b0 : Nat} {t : TypeId} {fs : Array Field} {d : Kd α} {G : α → Prop} {v : Value} {y : DataW H} {p : List MemPlace} (ht : P.underlying t = some (.struct fs)) (hv : Value.okWide P W r b0 t v)
    (hr : DataW.Trod enc P W 0 (fun _ => true) true t v y p) (h : Opens enc P W t d G) : ∃ x cs, v = .agg cs ∧ d.K W x cs.toList ∧ G x := by
  obtain ⟨cs, rfl, _⟩ := okWide_struct ht hv
  obtain ⟨fuel, hf⟩ := hr
  obtain ⟨x, k, g⟩ := h _ _ _ hf
  exact ⟨x, cs, rfl, k, g⟩
end
end Go.Proofs.YtgjakcpbfbfejaaGreat.Q
end
section
namespace Go.Proofs.YtgjakcpbfbfejaaGreat.Q
open Go.RowKit Go.Proofs.YtgjakcpbfbfejaaGreatW.PrintWords Go.Proofs.YtgjakcpbfbfejaaGreatW.PrintLast Go.Proofs.YtgjakcpbfbfejaaGreatW.PrintMore
set_option linter.unusedVariables false
set_option linter.unusedSimpArgs false
deriving instance DecidableEq for S72
theorem rdI_get {xs : List S72} {i : Nat} (h : i < xs.length) : rd_T72 xs (i : Int) = xs[i] := by unfold rd_T72; rw [Int.toNat_natCast]; exact getD_get h
theorem eqClue_eq (x y : S72) : laws_eqClue.f x.f0 x.f1 x.f2 y.f0 y.f1 y.f2 = some (decide (x = y)) := by
  unfold laws_eqClue.f
  obtain ⟨a, b, c⟩ := x
  obtain ⟨d, e, f⟩ := y
  simp only [S72.mk.injEq]
  repeat' split
  all_goals simp_all
theorem eqClueS_ev (a b : List S72) (ha : a.length ≤ 1152921504606) : Ev (fun k => laws_eqClueS.f k a b) (decide (a = b)) := by
  unfold laws_eqClueS.f
  by_cases hl : a.length = b.length
  · refine ev_pos (by omega) ?_
    refine ev_range a.length (fun k i => laws_eqClueS.l0 k a b (i : Int)) (fun i => decide (a.drop i = b.drop i)) ?_ ?_ 0 (Nat.zero_le _)
    · refine ev_succ ?_
      simp only [laws_eqClueS.l0]
      refine ev_neg (by omega) (ev_eqv (Ev.now _) ?_)
      rw [List.drop_of_length_le (by omega), List.drop_of_length_le (by omega)]; simp
    · intro i hi ih
      have h2 : i < b.length := by omega
      refine ev_succ ?_
      simp only [laws_eqClueS.l0]
      refine ev_pos (by omega) (ev_pos (by omega) (ev_pos (by omega) ?_))
      rw [rdI_get hi, rdI_get h2, eqClue_eq, wrap_succ hi (by omega), eq_drop a b i hi h2]
      refine ev_bool (fun h => ?_) (fun h => ?_)
      · rw [h]; exact ih
      · rw [h]; exact Ev.now _
  · refine ev_neg (by omega) (ev_eqv (Ev.now false) ?_)
    exact (decide_eq_false fun e => hl (by rw [e])).symm
theorem eqPuzzle_ev (m n : Int) (a b : List S72) (ha : a.length ≤ 1152921504606) : Ev (fun k => laws_eqPuzzle.f k m a n b) (decide (m = n ∧ a = b)) := by
  unfold laws_eqPuzzle.f
  by_cases hm : m = n
  · refine ev_pos hm (Ev.bind (eqClueS_ev a b ha) (ev_bool (fun h => ev_eqv (Ev.now _) ?_) (fun h => ev_eqv (Ev.now _) ?_)))
    · exact (decide_eq_true ⟨hm, of_decide_eq_true h⟩).symm
    · exact (decide_eq_false fun e => of_decide_eq_false h e.2).symm
  · exact ev_neg hm (ev_eqv (Ev.now _) (decide_eq_false fun e => hm e.1).symm)
theorem rdI_set {xs : List S72} {i : Nat} {v : S72} (h : i < xs.length) : rd_T72 (xs.set i v) (i : Int) = v := by
  rw [rdI_get (by rw [List.length_set]; exact h), List.getElem_set_self]
def mkC (m : Int) (i : Nat) : S72 := ⟨m + 3 * i, m + 3 * i + 1, m + 3 * i + 2⟩
theorem wrap_add1 {x : Int} (h : 0 ≤ x ∧ x ≤ 9223372036854775806) : wrap64 (x + 1) = x + 1 := wrap64_id (by omega)
theorem markClueS_ev (l : List S72) (m : Int) (hl : l.length ≤ 1152921504606) (hm : 0 ≤ m ∧ m ≤ 1152921504606846976) : Ev (fun k => laws_markClueS.f k l m) (m + 3 * l.length, tab (mkC m) l.length) := by
  unfold laws_markClueS.f
  have := ev_range l.length (fun k i => laws_markClueS.l0 k (tab (mkC m) i ++ l.drop i) (m + 3 * i) (i : Int)) (fun _ => (m + 3 * l.length, tab (mkC m) l.length)) ?_ ?_ 0 (Nat.zero_le _)
  · simpa [tab] using this
  · refine ev_succ ?_
    simp only [laws_markClueS.l0]
    refine ev_neg (by rw [tab_drop_len _ _ _ (Nat.le_refl _)]; omega) (ev_eqv (Ev.now _) ?_)
    rw [drop_end, List.append_nil]
  · intro i hi ih
    have hx := tab_drop_len (mkC m) l i (by omega)
    refine ev_succ ?_
    simp only [laws_markClueS.l0]
    refine ev_pos (by omega) (ev_pos (by omega) ?_)
    simp only [Option.bind_some, Int.toNat_natCast]
    rw [wrap_add1 (x := m + 3 * i) (by omega), wrap_add1 (x := m + 3 * i + 1) (by omega), wrap_add1 (x := m + 3 * i + 1 + 1) (by omega)]
    rw [rdI_set (by rw [hx]; exact hi), rdI_set (by rw [List.length_set, hx]; exact hi), List.set_set, List.set_set]
    rw [show (⟨m + 3 * i, m + 3 * i + 1, m + 3 * i + 1 + 1⟩ : S72) = mkC m i by unfold mkC; congr 1; omega, set_tab _ _ _ hi, wrap_succ hi (by omega), show m + 3 * (i : Int) + 1 + 1 + 1 = m + 3 * ((i + 1 : Nat) : Int) by omega]
    exact ih
theorem markPuzzle_ev (n : Int) (l : List S72) (hl : l.length ≤ 1152921504606) : Ev (fun k => laws_markPuzzle.f k n l 1) (1 + 3 * (l.length : Int), tab (mkC 1) l.length) := by
  unfold laws_markPuzzle.f
  exact Ev.bind (markClueS_ev l 1 hl (by omega)) (Ev.now _)
theorem wraps_i64 (n : Int) (h0 : 0 ≤ n) (h1 : n < 2 ^ 62) : IntKind.i64.wrap n = n := by rw [IntKind.wrap_i64]; omega
theorem and_nat (a b : Nat) (ha : a < 2 ^ 62) (hb : b < 2 ^ 62) : Go.bits .and .i64 (a : Int) (b : Int) = ((a &&& b : Nat) : Int) := (Go.bits_nat .i64 62 (by decide) wraps_i64 a b ha hb).1
theorem or_nat (a b : Nat) (ha : a < 2 ^ 62) (hb : b < 2 ^ 62) : Go.bits .or .i64 (a : Int) (b : Int) = ((a ||| b : Nat) : Int) := (Go.bits_nat .i64 62 (by decide) wraps_i64 a b ha hb).2
theorem shr_nat (a n : Nat) (hn : n ≤ 64) : shr .i64 (a : Int) (n : Int) = ((a >>> n : Nat) : Int) := by
  unfold shr
  rw [Int.toNat_natCast, show min n IntKind.i64.bits = n from Nat.min_eq_left hn, Nat.shiftRight_eq_div_pow]
  simp
theorem shl_one_nat (n : Nat) (hn : n ≤ 16) : shl .i64 1 (n : Int) = ((2 ^ n : Nat) : Int) := by
  rw [shl_one (n : Int) ⟨by omega, by omega⟩, Int.toNat_natCast]; simp
theorem and_one_nat (a : Nat) (ha : a < 2 ^ 62) : Go.bits .and .i64 (a : Int) 1 = ((a % 2 : Nat) : Int) := by
  have := and_nat a 1 ha (by decide)
  rw [Nat.and_one_is_mod] at this
  exact this
theorem tmod_two (a : Nat) : Int.tmod (a : Int) 2 = ((a % 2 : Nat) : Int) := by
  rw [Int.tmod_eq_emod_of_nonneg (by omega)]; omega
theorem shr_lt (a i : Nat) (ha : a < 2 ^ 62) : a >>> i < 2 ^ 62 := by
  rw [Nat.shiftRight_eq_div_pow]
  exact Nat.lt_of_le_of_lt (Nat.div_le_self _ _) ha
def bitsL (m : Nat) : Nat → Nat → List Int
  | _, 0 => []
  | i, n + 1 => if m >>> i % 2 = 1 then (i : Int) :: bitsL m (i + 1) n else bitsL m (i + 1) n
def setL (m : Nat) : List Int := bitsL m 0 16
theorem bitsL_zero (m i n : Nat) (h : m >>> i = 0) : bitsL m i n = [] := by
  induction n generalizing i with
  | zero => rfl
  | succ n ih =>
    rw [bitsL, h, if_neg (by decide)]
    exact ih (i + 1) (by rw [Nat.shiftRight_succ, h])
theorem bitsL_len (m i n : Nat) : (bitsL m i n).length ≤ n := by
  induction n generalizing i with
  | zero => simp [bitsL]
  | succ n ih =>
    rw [bitsL]
    split
    · simp; exact ih _
    · exact Nat.le_succ_of_le (ih _)
theorem setOf_ev (m : Nat) (hm : m < 65536) : Ev (fun k => impl_setOf.f k (m : Int)) (setL m) := by
  unfold impl_setOf.f
  have key : ∀ (n i : Nat) (acc : List Int), i + n = 16 → acc.length ≤ i → Ev (fun k => impl_setOf.l0 k (m : Int) acc (i : Int)) (acc ++ bitsL m i n) := by
    intro n
    induction n with
    | zero =>
      intro i acc hi ha
      refine ev_succ ?_
      simp only [impl_setOf.l0, shr_nat m i (by omega)]
      refine ev_pos (by omega) (ev_neg ?_ (ev_eqv (Ev.now acc) (by simp [bitsL])))
      rw [show i = 16 by omega, Nat.shiftRight_eq_div_pow, Nat.div_eq_of_lt hm]; decide
    | succ n ih =>
      intro i acc hi ha
      refine ev_succ ?_
      simp only [impl_setOf.l0, shr_nat m i (by omega), and_one_nat _ (shr_lt m i (by omega))]
      refine ev_pos (by omega) ?_
      by_cases h0 : m >>> i = 0
      · exact ev_neg (by rw [h0]; decide) (ev_eqv (Ev.now acc) (by rw [bitsL_zero m i _ h0]; simp))
      · refine ev_pos (Int.ofNat_lt.2 (Nat.pos_of_ne_zero h0)) ?_
        rw [wrap_succ (n := 16) (by omega) (by decide), bitsL]
        by_cases h1 : m >>> i % 2 = 1
        · refine ev_pos (by omega) (ev_pos (by omega) (ev_eqv (ih (i + 1) (acc ++ [(i : Int)]) (by omega) (by simp; omega)) ?_))
          rw [if_pos h1]; simp
        · refine ev_neg (by omega) (ev_eqv (ih (i + 1) acc (by omega) (by omega)) ?_)
          rw [if_neg h1]
  exact key 16 0 [] (by omega) (by simp)
theorem voList_ev (m : Nat) (hm : m < 65536) : Ev (fun k => spec_voList.f k (m : Int)) (setL m) := by
  unfold spec_voList.f
  have key : ∀ (n i : Nat) (acc : List Int), i + n = 16 → acc.length ≤ i → Ev (fun k => spec_voList.l0 k (m : Int) acc (i : Int)) (acc ++ bitsL m i n) := by
    intro n
    induction n with
    | zero =>
      intro i acc hi ha
      refine ev_succ ?_
      simp only [spec_voList.l0, shr_nat m i (by omega)]
      refine ev_pos (by omega) (ev_neg ?_ (ev_eqv (Ev.now acc) (by simp [bitsL])))
      rw [show i = 16 by omega, Nat.shiftRight_eq_div_pow, Nat.div_eq_of_lt hm]; decide
    | succ n ih =>
      intro i acc hi ha
      refine ev_succ ?_
      simp only [spec_voList.l0, shr_nat m i (by omega), tmod_two]
      refine ev_pos (by omega) ?_
      by_cases h0 : m >>> i = 0
      · exact ev_neg (by rw [h0]; decide) (ev_eqv (Ev.now acc) (by rw [bitsL_zero m i _ h0]; simp))
      · refine ev_pos (Int.ofNat_lt.2 (Nat.pos_of_ne_zero h0)) ?_
        rw [wrap_succ (n := 16) (by omega) (by decide), bitsL]
        by_cases h1 : m >>> i % 2 = 1
        · refine ev_pos (by omega) (ev_pos (by omega) (ev_eqv (ih (i + 1) (acc ++ [(i : Int)]) (by omega) (by simp; omega)) ?_))
          rw [if_pos h1]; simp
        · refine ev_neg (by omega) (ev_eqv (ih (i + 1) acc (by omega) (by omega)) ?_)
          rw [if_neg h1]
  exact key 16 0 [] (by omega) (by simp)
def maskN (m : Nat) : List Int → Nat
  | [] => m
  | x :: l => maskN (m ||| 2 ^ x.toNat) l
theorem maskOf_ev (l : List Int) (hl : l.length ≤ 1152921504606) (h : ∀ x ∈ l, 0 ≤ x ∧ x ≤ 15) : Ev (fun k => impl_maskOf.f k l) (maskN 0 l : Int) ∧ Ev (fun k => spec_voBits.f k l) (maskN 0 l : Int) := by
  unfold impl_maskOf.f spec_voBits.f
  have key : ∀ (d i m : Nat), i + d = l.length → m < 65536 → Ev (fun k => impl_maskOf.l0 k (m : Int) l (l.length : Int) (i : Int)) (maskN m (l.drop i) : Int) ∧ Ev (fun k => spec_voBits.l0 k (m : Int) l (l.length : Int) (i : Int)) (maskN m (l.drop i) : Int) := by
    intro d
    induction d with
    | zero =>
      intro i m hi hm
      refine ⟨ev_succ ?_, ev_succ ?_⟩
      all_goals
        simp only [impl_maskOf.l0, spec_voBits.l0]
        refine ev_neg (by omega) (ev_eqv (Ev.now _) ?_)
        rw [List.drop_of_length_le (by omega)]; rfl
    | succ d ih =>
      intro i m hi hm
      have h1 : i < l.length := by omega
      have hx := h l[i] (List.getElem_mem h1)
      obtain ⟨q, hq⟩ := Int.eq_ofNat_of_zero_le hx.1
      have hq16 : q ≤ 15 := by omega
      have hp : 2 ^ q < 65536 := Nat.pow_lt_pow_right (n := 16) (by decide) (by omega)
      have ih' := ih (i + 1) (m ||| 2 ^ q) (by omega) (Nat.or_lt_two_pow (n := 16) hm hp)
      rw [List.drop_eq_getElem_cons h1, maskN, hq, Int.toNat_natCast]
      refine ⟨ev_succ ?_, ev_succ ?_⟩
      all_goals
        simp only [impl_maskOf.l0, spec_voBits.l0]
        refine ev_pos (by omega) (ev_pos (by omega) (ev_pos (by omega) (ev_pos (by rw [rd_get h1]; omega) ?_)))
        rw [rd_get h1, hq, shl_one_nat q (by omega), or_nat m (2 ^ q) (by omega) (by omega), wrap_succ h1 (by omega)]
      · exact ih'.1
      · exact ih'.2
  exact key l.length 0 0 (by omega) (by decide)
def incFrom : Option Int → List Int → Bool
  | _, [] => true
  | p, x :: l => (match p with | none => true | some y => decide (y < x)) && incFrom (some x) l
def incB (l : List Int) : Bool := incFrom none l
def isSetB (l : List Int) (n : Int) : Bool := l.all (inB · 0 (n - 1)) && incB l
theorem any_not_all {α : Type} (l : List α) (p : α → Bool) : (!l.any fun x => !p x) = l.all p := by
  induction l with
  | nil => rfl
  | cons x l ih => rw [List.any_cons, List.all_cons, ← ih]; cases p x <;> simp
theorem isSetB_mem {l : List Int} {n : Int} (h : isSetB l n = true) : ∀ x ∈ l, 0 ≤ x ∧ x ≤ n - 1 := by
  intro x hx
  unfold isSetB at h
  rw [Bool.and_eq_true, List.all_eq_true] at h
  exact inB_iff.1 (h.1 x hx)
def clueI (x : S79) : S72 := ⟨x.f0, x.f1, x.f2⟩
theorem rdL_get {xs : List S79} {i : Nat} (h : i < xs.length) : rd_T79 xs (i : Int) = xs[i] := by unfold rd_T79; rw [Int.toNat_natCast]; exact getD_get h
theorem toClueS_ev (l : List S79) (hl : l.length ≤ 1152921504606) : Ev (fun k => laws_toClueS.f k l) (l.map clueI) := by
  unfold laws_toClueS.f
  refine ev_pos (by omega) (ev_pos (by omega) ?_)
  rw [Int.toNat_natCast]
  refine ev_range l.length (fun k i => laws_toClueS.l0 k l ((l.take i).map clueI ++ List.replicate (l.length - i) z72) (i : Int)) (fun _ => l.map clueI) ?_ ?_ 0 (Nat.zero_le _)
  · refine ev_succ ?_
    simp only [laws_toClueS.l0]
    exact ev_neg (by omega) (ev_eqv (Ev.now _) (by simp))
  · intro i hi ih
    refine ev_succ ?_
    simp only [laws_toClueS.l0, laws_toClue.f, Option.bind_some]
    refine ev_pos (by omega) (ev_pos (by omega) (ev_pos (by rw [copy_len _ _ _ _ (by omega)]; omega) ?_))
    rw [wrap_succ hi (by omega), Int.toNat_natCast, rdL_get hi, show (⟨l[i].f0, l[i].f1, l[i].f2⟩ : S72) = clueI l[i] from rfl, set_copy clueI _ l i hi]
    exact ih
theorem toPuzzle_ev (m : Int) (l : List S79) (hl : l.length ≤ 1152921504606) : Ev (fun k => laws_toPuzzle.f k m l) (m, l.map clueI) := by
  unfold laws_toPuzzle.f
  exact Ev.bind (toClueS_ev l hl) (Ev.now _)
theorem szPuzzle_eq (m : Int) (l : List S79) (n : Nat) (hn : n ≤ 1048576) (hl : l.length ≤ 9223372036854775807) : ∃ q, laws_szPuzzle.f m l (n : Int) = some q ∧ (¬ q < 0 → l.length ≤ n) := by
  unfold laws_szPuzzle.f laws_szClueS.f
  rw [wrap64_id (by omega)]
  by_cases h : (n : Int) - (l.length : Int) < 0
  · exact ⟨-1, by rw [if_pos h]; rfl, fun h => absurd (by decide) h⟩
  · exact ⟨_, by rw [if_neg h, Option.bind_some, if_neg h], fun _ => by omega⟩
def puzzleOk (m : Int) (l : List S72) : Bool := inB m 1 4 && (decide (l.length ≤ 8) && l.all fun x => clueOk m x.f0 x.f1 x.f2)
theorem pzGood_ev (m : Int) (l : List S72) : Ev (fun k => spec_pzGood.f k m l) (puzzleOk m l) := by
  unfold spec_pzGood.f puzzleOk
  simp only [pzMembers_eq, Option.bind_some]
  refine ev_bool (fun hb => ?_) (fun hb => ?_)
  · rw [hb]
    refine ev_succ ?_
    simp only [spec_pzGood.j0]
    by_cases hl : l.length ≤ 8
    · rw [decide_eq_true hl, decide_eq_false (show ¬ (l.length : Int) > 8 by omega)]
      refine ev_neg (by simp) ?_
      refine ev_range l.length (fun k i => spec_pzGood.l0 k l (l.length : Int) (i : Int) m l) (fun i => (l.drop i).all fun x => clueOk m x.f0 x.f1 x.f2) ?_ ?_ 0 (Nat.zero_le _)
      · refine ev_succ ?_
        simp only [spec_pzGood.l0]
        exact ev_neg (by omega) (ev_eqv (Ev.now _) (by rw [drop_end]; rfl))
      · intro i hi ih
        refine ev_succ ?_
        simp only [spec_pzGood.l0]
        refine ev_pos (by omega) (ev_pos (by omega) (ev_pos (by omega) ?_))
        rw [rdI_get hi, wrap_succ hi (by omega), pzClue_eq _ _ _ _ (inB_iff.1 hb), all_drop _ _ _ hi]
        exact ev_bool (fun h => by rw [h]; exact ih) (fun h => by rw [h]; exact Ev.now _)
    · rw [decide_eq_false hl, decide_eq_true (show (l.length : Int) > 8 by omega)]
      exact ev_pos (by simp) (Ev.now _)
  · rw [hb]
    refine ev_succ ?_
    simp only [spec_pzGood.j0]
    exact ev_pos (by simp) (Ev.now _)
theorem IsPuzzle_eq (m : Int) (l : List S72) : impl_IsPuzzle.f m l = some (puzzleOk m l) := by
  unfold impl_IsPuzzle.f puzzleOk
  rw [isHidden_eq, Option.bind_some]
  refine bind_ite_false fun hb => ?_
  by_cases hl : l.length ≤ 8
  · rw [if_pos (by omega), decide_eq_true hl]
    rw [anyO_some (q := fun x => !clueOk m x.f0 x.f1 x.f2) (fun x _ => by unfold impl_IsPuzzle_1.f; rw [IsClue_eq, hb]; rfl)]
    rw [Option.bind_some, any_not_all]; rfl
  · rw [if_neg (by omega), decide_eq_false hl]; rfl
def setsM (q : Nat → Bool) (N : Nat) : List (List Int) := ((List.range N).filter q).map setL
theorem setsM_len (q : Nat → Bool) (N : Nat) : (setsM q N).length ≤ N := by unfold setsM; rw [List.length_map]; exact Nat.le_trans (List.length_filter_le _ _) (by simp)
theorem setsM_mem {q : Nat → Bool} {N : Nat} {x : List Int} (h : x ∈ setsM q N) : x.length ≤ 16 := by
  obtain ⟨m, _, rfl⟩ := List.mem_map.1 h
  exact bitsL_len _ _ _
theorem setsM_succ (q : Nat → Bool) (i : Nat) : setsM q (i + 1) = setsM q i ++ if q i = true then [setL i] else [] := by
  unfold setsM
  rw [List.range_succ, List.filter_append, List.map_append]
  congr 1
  by_cases h : q i = true
  · rw [if_pos h, List.filter_cons_of_pos h]; rfl
  · rw [if_neg h, List.filter_cons_of_neg h]; rfl
theorem sets_fix (n : Int) (l : List Bool) (N : Nat) (hN : l.length = N) (hN2 : N ≤ 512) (p : Int → Option Bool) (q : Nat → Bool) (h : ∀ m, m < N → p (m : Int) = some (q m)) : Ev (fun k => impl_votes_sets.f k n l p) (sortL lexB (setsM q N)) := by
  unfold impl_votes_sets.f
  rw [hN]
  refine ev_range N (fun k i => impl_votes_sets.l0 p k (setsM q i) (N : Int) (i : Int)) (fun _ => sortL lexB (setsM q N)) ?_ ?_ 0 (Nat.zero_le _)
  · refine ev_succ ?_
    simp only [impl_votes_sets.l0]
    refine ev_neg (by omega) (ev_bindS (show sortSets.f (setsM q N) = some (sortL lexB (setsM q N)) by
      unfold sortSets.f
      rw [if_pos]
      rw [Bool.and_eq_true]
      exact ⟨decide_eq_true (by have := setsM_len q N; omega), List.all_eq_true.2 fun x hx => decide_eq_true (Nat.le_trans (setsM_mem hx) (by decide))⟩) (Ev.now _))
  · intro i hi ih
    refine ev_succ ?_
    simp only [impl_votes_sets.l0]
    rw [wrap_succ hi (by omega)]
    rw [setsM_succ] at ih
    refine ev_pos (by omega) (ev_bindS (h i hi) (ev_bool (fun e => ?_) (fun e => ?_)))
    · rw [if_pos e] at ih
      exact Ev.bind (setOf_ev i (by omega)) (ev_pos (by have := setsM_len q i; omega) ih)
    · rw [if_neg (by rw [e]; decide), List.append_nil] at ih
      exact ih
def mkSS : Int → List (List Int) → List (List Int)
  | _, [] => []
  | m, x :: xs => iotaL m x.length :: mkSS (m + x.length) xs
def totS : Int → List (List Int) → Int
  | m, [] => m
  | m, x :: xs => totS (m + x.length) xs
theorem mkSS_len : ∀ (l : List (List Int)) (m : Int), (mkSS m l).length = l.length
  | [], _ => rfl
  | x :: xs, m => by unfold mkSS; rw [List.length_cons, List.length_cons, mkSS_len xs]
theorem totS_ge : ∀ (l : List (List Int)) (m : Int), m ≤ totS m l
  | [], m => Int.le_refl m
  | x :: xs, m => by
    have := totS_ge xs (m + x.length)
    unfold totS
    omega
theorem markIntSS_l0 : ∀ (rest pre : List (List Int)) (m : Int), pre.length + rest.length ≤ 1048576 → (∀ x ∈ rest, x.length ≤ 1048576) → 0 ≤ m → m + 1048576 * rest.length ≤ 1152921504606846976 → Ev (fun k => laws_markIntSS.l0 k (pre ++ rest) m (pre.length : Int)) (totS m rest, pre ++ mkSS m rest)
  | [], pre, m, hl, hx, h0, hm => by
    refine ev_succ ?_
    simp only [laws_markIntSS.l0, List.append_nil]
    exact ev_neg (by omega) (ev_eqv (Ev.now _) (by simp [totS, mkSS]))
  | x :: xs, pre, m, hl, hx, h0, hm => by
    have hxl := hx x (List.mem_cons_self ..)
    rw [List.length_cons] at hl hm
    have ih := markIntSS_l0 xs (pre ++ [iotaL m x.length]) (m + x.length) (by rw [List.length_append, List.length_singleton]; omega) (fun y hy => hx y (List.mem_cons_of_mem _ hy)) (by omega) (by omega)
    refine ev_succ ?_
    simp only [laws_markIntSS.l0, Int.toNat_natCast]
    refine ev_pos (by rw [List.length_append, List.length_cons]; omega) (ev_pos (by omega) ?_)
    rw [show (pre ++ x :: xs).getD pre.length [] = x from by simp [List.getD_eq_getElem?_getD]]
    refine Ev.bind (markIntS_ev x m (by omega) (by omega)) ?_
    simp only [show (pre ++ x :: xs).set pre.length (iotaL m x.length) = (pre ++ [iotaL m x.length]) ++ xs from by simp, show wrap64 ((pre.length : Int) + 1) = (((pre ++ [iotaL m x.length]).length : Nat) : Int) from by rw [List.length_append, List.length_singleton]; unfold wrap64; omega]
    exact ev_eqv ih (by simp [totS, mkSS])
theorem markIntSS_ev (l : List (List Int)) (hl : l.length ≤ 1048576) (hx : ∀ x ∈ l, x.length ≤ 1048576) : Ev (fun k => laws_markIntSS.f k l 1) (totS 1 l, mkSS 1 l) := by
  have := markIntSS_l0 l [] 1 (by simpa using hl) hx (by decide) (by omega)
  exact this
theorem heldIntSS_l0 : ∀ (rest pre : List (List Int)) (m : Int), pre.length + rest.length ≤ 1048576 → (∀ x ∈ rest, x.length ≤ 1048576) → 0 ≤ m → m + 1048576 * rest.length ≤ 1152921504606846976 → Ev (fun k => laws_heldIntSS.l0 k (pre ++ mkSS m rest) m (pre.length : Int)) (totS m rest)
  | [], pre, m, hl, hx, h0, hm => by
    refine ev_succ ?_
    simp only [laws_heldIntSS.l0, mkSS, List.append_nil]
    exact ev_neg (by omega) (Ev.now _)
  | x :: xs, pre, m, hl, hx, h0, hm => by
    have hxl := hx x (List.mem_cons_self ..)
    rw [List.length_cons] at hl hm
    have ih := heldIntSS_l0 xs (pre ++ [iotaL m x.length]) (m + x.length) (by rw [List.length_append, List.length_singleton]; omega) (fun y hy => hx y (List.mem_cons_of_mem _ hy)) (by omega) (by omega)
    rw [show (pre ++ [iotaL m x.length]) ++ mkSS (m + x.length) xs = pre ++ mkSS m (x :: xs) from by simp [mkSS]] at ih
    have hlt : pre.length < (pre ++ mkSS m (x :: xs)).length := by rw [List.length_append, mkSS_len, List.length_cons]; omega
    refine ev_succ ?_
    simp only [laws_heldIntSS.l0]
    refine ev_pos (by omega) (ev_pos (by omega) ?_)
    rw [rdL1_get hlt, show (pre ++ mkSS m (x :: xs))[pre.length]'hlt = iotaL m x.length from by simp [mkSS]]
    refine Ev.bind (heldIntS_ev m x.length (by omega) (by omega)) (ev_neg (by omega) ?_)
    rw [show wrap64 ((pre.length : Int) + 1) = (((pre ++ [iotaL m x.length]).length : Nat) : Int) from by rw [List.length_append, List.length_singleton]; unfold wrap64; omega]
    exact ih
theorem heldIntSS_ev (l : List (List Int)) (hl : l.length ≤ 1048576) (hx : ∀ x ∈ l, x.length ≤ 1048576) : Ev (fun k => laws_heldIntSS.f k (mkSS 1 l) 1) (totS 1 l) := heldIntSS_l0 l [] 1 (by simpa using hl) hx (by decide) (by omega)
theorem eqSS_ev (a b : List (List Int)) (ha : a.length ≤ 1152921504606) (hx : ∀ x ∈ a, x.length ≤ 1152921504606) : Ev (fun k => laws_eqIntSS.f k a b) (decide (a = b)) := by
  unfold laws_eqIntSS.f
  by_cases hl : a.length = b.length
  · refine ev_pos (by omega) ?_
    refine ev_range a.length (fun k i => laws_eqIntSS.l0 k a b (i : Int)) (fun i => decide (a.drop i = b.drop i)) ?_ ?_ 0 (Nat.zero_le _)
    · refine ev_succ ?_
      simp only [laws_eqIntSS.l0]
      refine ev_neg (by omega) (ev_eqv (Ev.now _) ?_)
      rw [List.drop_of_length_le (by omega), List.drop_of_length_le (by omega)]; simp
    · intro i hi ih
      have h2 : i < b.length := by omega
      refine ev_succ ?_
      simp only [laws_eqIntSS.l0]
      refine ev_pos (by omega) (ev_pos (by omega) (ev_pos (by omega) ?_))
      rw [rdL1_get hi, rdL1_get h2, wrap_succ hi (by omega), eq_drop a b i hi h2]
      refine Ev.bind (eqIntS_ev a[i] b[i] (Nat.le_trans (hx _ (List.getElem_mem hi)) (by decide))) (ev_bool (fun h => ?_) (fun h => ?_))
      · rw [h]; exact ih
      · rw [h]; exact Ev.now _
  · refine ev_neg (by omega) (ev_eqv (Ev.now false) ?_)
    exact (decide_eq_false fun e => hl (by rw [e])).symm
theorem ev_anyO {α : Type} (p : Nat → α → Option Bool) (q : α → Bool) : ∀ l : List α, (∀ x ∈ l, Ev (fun k => p k x) (q x)) → Ev (fun k => anyO (p k) l) (l.any q)
  | [], _ => Ev.now _
  | x :: xs, h => by
    simp only [anyO, List.any_cons]
    refine Ev.bind (h x (List.mem_cons_self ..)) (ev_bool (fun e => ?_) (fun e => ?_))
    · rw [e]; exact Ev.now _
    · rw [e]; exact ev_anyO p q xs (fun y hy => h y (List.mem_cons_of_mem _ hy))
def allR (P : Nat → Bool) (n i : Nat) : Bool := ((List.range n).drop i).all P
theorem allR_end (P : Nat → Bool) (n : Nat) : allR P n n = true := by
  unfold allR
  rw [List.drop_of_length_le (by simp)]; rfl
theorem allR_step (P : Nat → Bool) (n i : Nat) (h : i < n) : allR P n i = (P i && allR P n (i + 1)) := by
  unfold allR
  rw [all_drop P (List.range n) i (by simpa using h), List.getElem_range]
def mk (l : List (List Int)) (i : Nat) : Nat := maskN 0 (l.getD i [])
theorem maskN_lt2 (n : Nat) (l : List Int) : ∀ m, m < 2 ^ n → (∀ x ∈ l, 0 ≤ x ∧ x ≤ (n : Int) - 1) → maskN m l < 2 ^ n := by
  induction l with
  | nil => intro m hm _; exact hm
  | cons x l ih =>
    intro m hm h
    refine ih _ ?_ (fun y hy => h y (List.mem_cons_of_mem _ hy))
    have hx := h x (List.mem_cons_self ..)
    exact Nat.or_lt_two_pow hm (Nat.pow_lt_pow_right (by decide) (by omega))
def SetsOk (m : Int) (l : List (List Int)) : Prop := (1 ≤ m ∧ m ≤ 9) ∧ ∀ x ∈ l, isSetB x m = true ∧ x.length ≤ 1048576
theorem SetsOk.elem {m : Int} {l : List (List Int)} (h : SetsOk m l) {x : List Int} (hx : x ∈ l) : ∀ y ∈ x, 0 ≤ y ∧ y ≤ (9 : Nat) - 1 := fun y hy => by
  have := isSetB_mem (h.2 x hx).1 y hy
  have := h.1
  omega
theorem SetsOk.lt {m : Int} {l : List (List Int)} (h : SetsOk m l) {i : Nat} (hi : i < l.length) : mk l i < 512 := by
  unfold mk
  rw [getD_get hi]
  exact maskN_lt2 9 _ 0 (by decide) (h.elem (List.getElem_mem hi))
theorem SetsOk.masks {m : Int} {l : List (List Int)} (h : SetsOk m l) {i : Nat} (hi : i < l.length) : Ev (fun k => impl_maskOf.f k l[i]) (mk l i : Int) ∧ Ev (fun k => spec_voBits.f k l[i]) (mk l i : Int) := by
  have hx := List.getElem_mem hi
  have := maskOf_ev l[i] (Nat.le_trans (h.2 _ hx).2 (by decide)) (fun y hy => by have := h.elem hx y hy; omega)
  unfold mk
  rw [getD_get hi]
  exact this
theorem and_eq_nat {a b c : Nat} (ha : a < 512) (hb : b < 512) : (Go.bits .and .i64 (a : Int) (b : Int) = (c : Int)) ↔ ((a &&& b == c) = true) := by
  rw [and_nat a b (by omega) (by omega), beq_iff_eq]
  omega
theorem SetsOk.of {m : Int} {l : List (List Int)} (hm : inB m 1 9 = true) (hs : (l.all fun s => decide (s ≠ []) && isSetB s m) = true) (hb : ∀ x ∈ l, x.length ≤ 1048576) : SetsOk m l := by
  refine ⟨inB_iff.1 hm, fun x hx => ⟨?_, hb x hx⟩⟩
  have := List.all_eq_true.1 hs x hx
  rw [Bool.and_eq_true] at this
  exact this.2
theorem rdOf_get {xs : List Bool} {i : Nat} (h : i < xs.length) : rdOf false xs (i : Int) = xs[i] := by unfold rdOf; rw [Int.toNat_natCast]; exact getD_get h
def tabB (g : Nat → Bool) (n : Nat) : List Bool := (List.range n).map g
theorem tabB_len (g : Nat → Bool) (n : Nat) : (tabB g n).length = n := by simp [tabB]
theorem tabB_get (g : Nat → Bool) (n i : Nat) (h : i < (tabB g n).length) : (tabB g n)[i] = g i := by simp [tabB]
theorem tabB_succ (g : Nat → Bool) (n : Nat) : tabB g (n + 1) = tabB g n ++ [g n] := by simp [tabB, List.range_succ]
theorem tabB_set (g : Nat → Bool) (i : Nat) (b b' : Bool) (l : List Bool) : (tabB g i ++ b :: l).set i b' = tabB g i ++ b' :: l := by
  rw [List.set_append_right _ _ (by rw [tabB_len]; omega), tabB_len, Nat.sub_self]; rfl
theorem tabB_rd (g : Nat → Bool) (i : Nat) (b : Bool) (l : List Bool) : rdOf false (tabB g i ++ b :: l) (i : Int) = b := by
  rw [rdOf_get (by rw [List.length_append, tabB_len, List.length_cons]; omega), List.getElem_append_right (by rw [tabB_len]; omega)]
  simp [tabB_len]
theorem tabB_next (g : Nat → Bool) (i : Nat) (l : List Bool) : tabB g i ++ g i :: l = tabB g (i + 1) ++ l := by rw [tabB_succ, List.append_assoc]; rfl
def winB (l : List (List Int)) (i : Nat) : Bool := l.any fun s => i &&& maskN 0 s == maskN 0 s
def winT (m : Int) (l : List (List Int)) : List Bool := tabB (winB l) (2 ^ m.toNat)
theorem and_self_nat {a b : Nat} (ha : a < 512) (hb : b < 512) : (Go.bits .and .i64 (a : Int) (b : Int) == (b : Int)) = (a &&& b == b) := by
  rw [Bool.eq_iff_iff, ← and_eq_nat ha hb, beq_iff_eq]
theorem pow_le512 {m : Int} (h : 1 ≤ m ∧ m ≤ 9) : 2 ^ m.toNat ≤ 512 := Nat.pow_le_pow_right (n := 2) (by decide) (show m.toNat ≤ 9 by omega)
theorem voAll_nat {m : Int} (h : 1 ≤ m ∧ m ≤ 9) : spec_voAll.f m = some (((2 ^ m.toNat - 1 : Nat) : Int)) := by
  rw [voAll_eq m (by omega)]
  have : 1 ≤ 2 ^ m.toNat := Nat.one_le_two_pow
  congr 1
  rw [Int.ofNat_sub this]; simp
theorem gmWins_l1 (n i : Nat) (m : Int) (l : List (List Int)) (hl : l.length ≤ 1048576) (h : SetsOk m l) (hi : i < n) (hn : n ≤ 512) (r : List Bool) (ih : Ev (fun k => spec_gmWins.l0 k l (tabB (winB l) (i + 1) ++ List.replicate (n - (i + 1)) false) (n : Int) ((i + 1 : Nat) : Int)) r) :
    ∀ j, j ≤ l.length → Ev (fun k => spec_gmWins.l1 k l (tabB (winB l) i ++ ((l.take j).any fun s => i &&& maskN 0 s == maskN 0 s) :: List.replicate (n - (i + 1)) false) (i : Int) (n : Int) (i : Int) l (l.length : Int) (j : Int)) r := by
  have hlen : ∀ b : Bool, (tabB (winB l) i ++ b :: List.replicate (n - (i + 1)) false).length = n := fun b => by rw [List.length_append, tabB_len, List.length_cons, List.length_replicate]; omega
  refine ev_range l.length (fun k j => spec_gmWins.l1 k l (tabB (winB l) i ++ ((l.take j).any fun s => i &&& maskN 0 s == maskN 0 s) :: List.replicate (n - (i + 1)) false) (i : Int) (n : Int) (i : Int) l (l.length : Int) (j : Int)) (fun _ => r) ?_ ?_
  · refine ev_succ ?_
    simp only [spec_gmWins.l1]
    refine ev_neg (Int.lt_irrefl _) ?_
    rw [List.take_length, wrap_succ hi (Nat.le_trans hn (by decide))]
    have e : (l.any fun s => i &&& maskN 0 s == maskN 0 s) = winB l i := by unfold winB; rfl
    rw [e, tabB_next]
    exact ih
  · intro j hj ihj
    refine ev_succ ?_
    simp only [spec_gmWins.l1]
    refine ev_pos (by omega) (ev_pos (by omega) (ev_pos (by omega) ?_))
    rw [rdL1_get hj, wrap_succ hj (Nat.le_trans hl (by decide))]
    have hm := (h.masks hj).2
    have hk : mk l j = maskN 0 l[j] := by unfold mk; rw [getD_get hj]
    have hlt := h.lt hj
    rw [hk] at hm hlt
    refine Ev.bind hm (ev_pos (by omega) (ev_pos (by rw [hlen]; omega) ?_))
    rw [tabB_rd, Int.toNat_natCast, tabB_set, tabB_set, and_self_nat (by omega) hlt]
    rw [List.take_succ_eq_append_getElem hj, List.any_append] at ihj
    simp only [List.any_cons, List.any_nil, Bool.or_false] at ihj
    refine ev_bool (fun e => ?_) (fun e => ?_)
    · rw [e, Bool.true_or] at ihj; exact ihj
    · rw [e, Bool.false_or] at ihj; exact ihj
theorem gmWins_l0 (n : Nat) (m : Int) (l : List (List Int)) (hl : l.length ≤ 1048576) (h : SetsOk m l) (hn : n ≤ 512) :
    Ev (fun k => spec_gmWins.l0 k l (List.replicate n false) (n : Int) 0) (tabB (winB l) n) := by
  have := ev_range n (fun k i => spec_gmWins.l0 k l (tabB (winB l) i ++ List.replicate (n - i) false) (n : Int) (i : Int)) (fun _ => tabB (winB l) n) ?_ ?_ 0 (Nat.zero_le _)
  · simpa [tabB] using this
  · refine ev_succ ?_
    simp only [spec_gmWins.l0]
    exact ev_neg (Int.lt_irrefl _) (ev_eqv (Ev.now _) (by simp))
  · intro i hi ih
    refine ev_succ ?_
    simp only [spec_gmWins.l0]
    refine ev_pos (by omega) ?_
    have := gmWins_l1 n i m l hl h hi hn _ ih 0 (Nat.zero_le _)
    rw [show n - i = (n - (i + 1)) + 1 by omega, List.replicate_succ]
    simpa using this
theorem gmWins_ev (m : Int) (l : List (List Int)) (hl : l.length ≤ 1048576) (h : SetsOk m l) : Ev (fun k => spec_gmWins.f k m l) (winT m l) := by
  have hp := pow_le512 h.1
  have h1 : 1 ≤ 2 ^ m.toNat := Nat.one_le_two_pow
  have hw : wrap64 (((2 ^ m.toNat - 1 : Nat) : Int) + 1) = ((2 ^ m.toNat : Nat) : Int) := by
    generalize 2 ^ m.toNat = n at hp h1
    unfold wrap64; omega
  have hl0 := gmWins_l0 (2 ^ m.toNat) m l hl h hp
  unfold spec_gmWins.f winT
  refine ev_bindS (voAll_nat h.1) ?_
  generalize 2 ^ m.toNat = n at *
  rw [hw]
  have hn2 : (n : Int).toNat ≤ 281474976710656 := by rw [Int.toNat_natCast]; exact Nat.le_trans hp (by decide)
  refine ev_pos (Int.natCast_nonneg n) (ev_pos hn2 (ev_bindS rfl ?_))
  simp only [Int.toNat_natCast, List.length_replicate]
  exact hl0
theorem andNot_nat (a b : Nat) (ha : a < 2 ^ 62) (hb : b < 2 ^ 62) : Go.bits .andNot .i64 (a : Int) (b : Int) = ((a ^^^ (a &&& b) : Nat) : Int) := by
  have ha' : a % 2 ^ 64 = a := Nat.mod_eq_of_lt (by omega)
  have hb' : b % 2 ^ 64 = b := Nat.mod_eq_of_lt (by omega)
  have e : a &&& (2 ^ 64 - (b + 1)) = a ^^^ (a &&& b) := by
    refine Nat.eq_of_testBit_eq fun i => ?_
    rw [Nat.testBit_and, Nat.testBit_xor, Nat.testBit_and, Nat.testBit_two_pow_sub_succ (by omega)]
    by_cases hi : i < 64
    · cases a.testBit i <;> cases b.testBit i <;> simp [hi]
    · have : a.testBit i = false := Nat.testBit_lt_two_pow (Nat.lt_of_lt_of_le (show a < 2 ^ 64 by omega) (Nat.pow_le_pow_right (by decide) (by omega)))
      simp [this]
  have h : Go.bits .andNot .i64 (a : Int) (b : Int) = IntKind.i64.wrap ((a &&& (2 ^ 64 - 1 - b % 2 ^ 64) : Nat) : Int) := by
    show IntKind.i64.wrap ((BitVec.ofInt 64 (a : Int) &&& ~~~ (BitVec.ofInt 64 (b : Int))).toNat : Int) = _
    rw [BitVec.ofInt_natCast, BitVec.ofInt_natCast, BitVec.toNat_and, BitVec.toNat_not, BitVec.toNat_ofNat, BitVec.toNat_ofNat, ha']
  rw [h, hb', show 2 ^ 64 - 1 - b = 2 ^ 64 - (b + 1) by omega, e]
  have : a ^^^ (a &&& b) < 2 ^ 62 := Nat.xor_lt_two_pow ha (Nat.and_lt_two_pow _ hb)
  exact wraps_i64 _ (by omega) (by exact_mod_cast this)
def bitB (m i : Nat) : Bool := m >>> i % 2 == 1
theorem has_eq (m i : Nat) (hm : m < 65536) (hi : i ≤ 64) : impl_has.f (m : Int) (i : Int) = some (bitB m i) := by
  unfold impl_has.f bitB
  have h2 : m >>> i < 2 ^ 62 := shr_lt _ _ (by omega)
  rw [if_pos (by omega), shr_nat _ _ hi, and_one_nat _ h2]
  congr 1
  rw [Bool.eq_iff_iff, beq_iff_eq, beq_iff_eq]
  omega
theorem tmod_bit (m i : Nat) (hi : i ≤ 64) : Int.tmod (shr .i64 (m : Int) (i : Int)) 2 = 0 ↔ bitB m i = false := by
  rw [shr_nat _ _ hi, tmod_two]
  unfold bitB
  rw [beq_eq_false_iff_ne]
  omega
theorem fin512 {P : Nat → Nat → Prop} [∀ m i, Decidable (P m i)] (h : ((List.range 512).all fun m => (List.range 9).all fun i => decide (P m i)) = true) : ∀ m i, m < 512 → i < 9 → P m i := fun m i hm hi =>
  of_decide_eq_true (List.all_eq_true.1 (List.all_eq_true.1 h m (List.mem_range.2 hm)) i (List.mem_range.2 hi))
theorem or_bit : ∀ m i, m < 512 → i < 9 → m ||| 2 ^ i = if bitB m i = true then m else m + 2 ^ i := fin512 (by decide +kernel)
theorem all_andNot : ∀ m n, m < 512 → n < 10 → m < 2 ^ n → (2 ^ n - 1) ^^^ ((2 ^ n - 1) &&& m) = 2 ^ n - 1 - m := by
  have h : ((List.range 512).all fun m => (List.range 10).all fun n => decide (m < 2 ^ n → (2 ^ n - 1) ^^^ ((2 ^ n - 1) &&& m) = 2 ^ n - 1 - m)) = true := by decide +kernel
  exact fun m n hm hn => of_decide_eq_true (List.all_eq_true.1 (List.all_eq_true.1 h m (List.mem_range.2 hm)) n (List.mem_range.2 hn))
theorem rdOf_tab {g : Nat → Bool} {N i : Nat} (h : i < N) : rdOf false (tabB g N) (i : Int) = g i := by
  rw [rdOf_get (by rw [tabB_len]; exact h), tabB_get]
theorem pow_lt9 {i n : Nat} (h : i < n) (hn : n ≤ 9) : 2 ^ i < 2 ^ n ∧ 2 ^ n ≤ 512 :=
  ⟨Nat.pow_lt_pow_right (by decide) h, Nat.pow_le_pow_right (n := 2) (by decide) hn⟩
def setK (m : Nat) : List Int := ((List.range 4).filter fun i => m >>> i % 2 == 1).map fun (i : Nat) => (i : Int)
def lookT : Nat → List Bool → Option (List (List Bool))
  | 0, p => some (if rdOf false p ((p.length - 1 : Nat) : Int) = false then [] else if rdOf false p 0 = true then [] else [p])
  | d + 1, p => (mustO p (setK p.length) false).bind fun m => (lookT d (p ++ [true])).bind fun l1 => if m = true then some l1 else (lookT d (p ++ [false])).bind fun l2 => some (l1 ++ l2)
def tabsK (n : Nat) : List (List Bool) := (lookT (2 ^ n) []).getD []
def leastK (t : List Bool) : List (List Int) := sortL lexB (((List.range t.length).filter fun m => t.getD m false && (List.range 4).all fun i => !(m >>> i % 2 == 1 && t.getD (m - 2 ^ i) false)).map setK)
def gamesK (n : Nat) : List (List (List Int)) := sortL lexG ((tabsK n).map leastK)
theorem voList_K : ∀ m : Nat, m < 16 → spec_voList.f 40 (m : Int) = some (setK m) := by decide +kernel
theorem look_K : ∀ n, n < 5 → (lookT (2 ^ n) []).isSome = true := by decide +kernel
theorem gmOf_K : ∀ n : Nat, n < 5 → 1 ≤ n → ∀ t ∈ tabsK n, (spec_gmOf.f 100 n t) = some ((n : Int), leastK t) := by decide +kernel
theorem win_K : ∀ n : Nat, n < 5 → 1 ≤ n → ∀ t ∈ tabsK n, winT n (leastK t) = t := by decide +kernel
theorem games_K1 : (impl_allGames.f 1200 1).map (·.map fun g => (g.f0, g.f1)) = some ((gamesK 1).map fun s => (1, s)) := by decide +kernel
theorem games_K2 : (impl_allGames.f 1200 2).map (·.map fun g => (g.f0, g.f1)) = some ((gamesK 2).map fun s => (2, s)) := by decide +kernel
theorem games_K3 : (impl_allGames.f 1200 3).map (·.map fun g => (g.f0, g.f1)) = some ((gamesK 3).map fun s => (3, s)) := by decide +kernel
theorem games_K4 : (impl_allGames.f 1200 4).map (·.map fun g => (g.f0, g.f1)) = some ((gamesK 4).map fun s => (4, s)) := by decide +kernel
theorem len_K : ∀ n : Nat, n < 5 → 1 ≤ n → ((tabsK n).length ≤ 1000000 ∧ ∀ t ∈ tabsK n, t.length = 2 ^ n) := by decide +kernel
theorem sets_K : ∀ n : Nat, n < 5 → 1 ≤ n → ∀ t ∈ tabsK n, (leastK t).length ≤ 16 ∧ ∀ s ∈ leastK t, isSetB s n = true ∧ s.length ≤ 16 := by decide +kernel
theorem games_K : ∀ n : Nat, n < 5 → 1 ≤ n → (impl_allGames.f 1200 n).map (·.map fun g => (g.f0, g.f1)) = some ((gamesK n).map fun s => ((n : Int), s))
  | 1, _, _ => games_K1
  | 2, _, _ => games_K2
  | 3, _, _ => games_K3
  | 4, _, _ => games_K4
  | n + 5, h, _ => absurd h (by omega)
  | 0, _, h => absurd h (by decide)
def cntB (g : Nat → Bool) (N i : Nat) : Int := (((List.range N).drop i).filter g).length
theorem cntB_end (g : Nat → Bool) (N : Nat) : cntB g N N = 0 := by
  unfold cntB
  rw [List.drop_of_length_le (by simp)]; rfl
theorem cntB_step (g : Nat → Bool) (N i : Nat) (h : i < N) : cntB g N i = (if g i = true then 1 else 0) + cntB g N (i + 1) := by
  unfold cntB
  rw [List.drop_eq_getElem_cons (by simpa using h), List.getElem_range, List.filter_cons]
  by_cases e : g i = true
  · rw [if_pos e, if_pos e, List.length_cons]; omega
  · rw [if_neg e, if_neg e]; omega
theorem countWins_ev (a : Int) (g : Nat → Bool) (N : Nat) (hN : N ≤ 512) : Ev (fun k => impl_votes_countWins.f k a (tabB g N)) (cntB g N 0) := by
  unfold impl_votes_countWins.f
  have := ev_rangeS N (fun k i s => impl_votes_countWins.l0 k s (tabB g N) (N : Int) (i : Int)) (fun i s => s + cntB g N i) (fun i s => 0 ≤ s ∧ s ≤ i) ?_ ?_ 0 (0 : Int) (Nat.zero_le _) ⟨Int.le_refl _, Int.le_refl _⟩
  · simpa [tabB_len] using this
  · intro s _
    refine ev_succ ?_
    simp only [impl_votes_countWins.l0]
    exact ev_neg (Int.lt_irrefl _) (ev_eqv (Ev.now _) (by rw [cntB_end]; omega))
  · intro i s hi hs ih
    refine ev_succ ?_
    simp only [impl_votes_countWins.l0]
    refine ev_pos (by omega) (ev_pos (by omega) (ev_pos (by rw [tabB_len]; omega) ?_))
    rw [rdOf_tab hi, wrap_succ hi (by omega), cntB_step g N i hi]
    refine ev_bool (fun e => ?_) (fun e => ?_)
    · rw [if_pos e, wrap64_id (by omega), ← Int.add_assoc]; exact ih _ (by omega)
    · rw [if_neg (by simp [e]), Int.zero_add]; exact ih _ (by omega)
theorem pzOne_eq (b : Bool) : spec_pzOne.f b = some (if b = true then 1 else 0) := by unfold spec_pzOne.f; cases b <;> rfl
theorem oneIf_eq (b : Bool) : impl_oneIf.f b = some (if b = true then 1 else 0) := by unfold impl_oneIf.f; cases b <;> rfl
theorem pzValue_l0 (g : Nat → Bool) (N : Nat) (hN : N ≤ 512) : Ev (fun k => spec_pzValue.l0 k 0 (tabB g N) (N : Int) 0) (cntB g N 0) := by
  have := ev_rangeS N (fun k i s => spec_pzValue.l0 k s (tabB g N) (N : Int) (i : Int)) (fun i s => s + cntB g N i) (fun i s => 0 ≤ s ∧ s ≤ i) ?_ ?_ 0 (0 : Int) (Nat.zero_le _) ⟨Int.le_refl _, Int.le_refl _⟩
  · simpa using this
  · intro s _
    refine ev_succ ?_
    simp only [spec_pzValue.l0]
    exact ev_neg (Int.lt_irrefl _) (ev_eqv (Ev.now _) (by rw [cntB_end]; omega))
  · intro i s hi hs ih
    refine ev_succ ?_
    simp only [spec_pzValue.l0]
    refine ev_pos (by omega) (ev_pos (by omega) (ev_pos (by rw [tabB_len]; omega) ?_))
    rw [rdOf_tab hi, wrap_succ hi (by omega), cntB_step g N i hi]
    simp only [pzOne_eq, Option.bind_some]
    by_cases e : g i = true
    · rw [if_pos e, wrap64_id (by omega), ← Int.add_assoc]; exact ih _ (by omega)
    · rw [if_neg e, Int.zero_add, Int.add_zero, wrap64_id (by omega)]; exact ih _ (by omega)
theorem all_eq (m : Int) (l : List Bool) (h : 1 ≤ m ∧ m ≤ 9) : impl_votes_all.f m l = some (((2 ^ m.toNat - 1 : Nat) : Int)) := by
  unfold impl_votes_all.f
  rw [if_pos (by omega), all_bits m (by omega)]
  have : 1 ≤ 2 ^ m.toNat := Nat.one_le_two_pow
  congr 1
  rw [Int.ofNat_sub this]; simp
theorem rest_mask (m : Int) (h : 1 ≤ m ∧ m ≤ 9) (i : Nat) (hi : i < 2 ^ m.toNat) : Go.bits .andNot .i64 ((2 ^ m.toNat - 1 : Nat) : Int) (i : Int) = ((2 ^ m.toNat - 1 - i : Nat) : Int) := by
  have hp := pow_le512 h
  rw [andNot_nat _ _ (by omega) (by omega), all_andNot i m.toNat (by omega) (by omega) hi]
def properB (g : Nat → Bool) (N : Nat) : Bool := allR (fun i => !(g i && g (N - 1 - i))) N 0
def strongB (g : Nat → Bool) (N : Nat) : Bool := allR (fun i => g i || g (N - 1 - i)) N 0
theorem isProper_ev (m : Int) (h : 1 ≤ m ∧ m ≤ 9) (g : Nat → Bool) : Ev (fun k => impl_votes_isProper.f k m (tabB g (2 ^ m.toNat))) (properB g (2 ^ m.toNat)) := by
  unfold impl_votes_isProper.f properB
  have hp := pow_le512 h
  have hr := rest_mask m h
  have ha := all_eq m (tabB g (2 ^ m.toNat)) h
  generalize 2 ^ m.toNat = N at *
  have := ev_range N (fun k i => impl_votes_isProper.l0 k (tabB g N) (N : Int) (i : Int) m (tabB g N)) (allR (fun i => !(g i && g (N - 1 - i))) N) ?_ ?_ 0 (Nat.zero_le _)
  · simpa [tabB_len] using this
  · refine ev_succ ?_
    simp only [impl_votes_isProper.l0]
    exact ev_neg (Int.lt_irrefl _) (ev_eqv (Ev.now _) (by rw [allR_end]))
  · intro i hi ih
    refine ev_succ ?_
    simp only [impl_votes_isProper.l0]
    refine ev_pos (by omega) (ev_pos (by omega) (ev_pos (by rw [tabB_len]; omega) ?_))
    rw [rdOf_tab hi, wrap_succ hi (by omega), allR_step _ _ _ hi]
    simp only [ha, Option.bind_some, hr i hi]
    rw [rdOf_tab (show N - 1 - i < N by omega)]
    refine ev_bool (fun e => ?_) (fun e => ?_)
    · rw [e]
      refine ev_pos (by omega) (ev_pos (by rw [tabB_len]; omega) (ev_bool (fun e2 => ?_) (fun e2 => ?_)))
      · rw [e2]; exact Ev.now _
      · rw [e2]; exact ih
    · rw [e]; exact ih
theorem isStrong_ev (m : Int) (h : 1 ≤ m ∧ m ≤ 9) (g : Nat → Bool) : Ev (fun k => impl_votes_isStrong.f k m (tabB g (2 ^ m.toNat))) (strongB g (2 ^ m.toNat)) := by
  unfold impl_votes_isStrong.f strongB
  have hp := pow_le512 h
  have hr := rest_mask m h
  have ha := all_eq m (tabB g (2 ^ m.toNat)) h
  generalize 2 ^ m.toNat = N at *
  have := ev_range N (fun k i => impl_votes_isStrong.l0 k (tabB g N) (N : Int) (i : Int) m (tabB g N)) (allR (fun i => g i || g (N - 1 - i)) N) ?_ ?_ 0 (Nat.zero_le _)
  · simpa [tabB_len] using this
  · refine ev_succ ?_
    simp only [impl_votes_isStrong.l0]
    exact ev_neg (Int.lt_irrefl _) (ev_eqv (Ev.now _) (by rw [allR_end]))
  · intro i hi ih
    refine ev_succ ?_
    simp only [impl_votes_isStrong.l0]
    refine ev_pos (by omega) (ev_pos (by omega) (ev_pos (by rw [tabB_len]; omega) ?_))
    rw [rdOf_tab hi, wrap_succ hi (by omega), allR_step _ _ _ hi]
    simp only [ha, Option.bind_some, hr i hi]
    rw [rdOf_tab (show N - 1 - i < N by omega)]
    refine ev_bool (fun e => ?_) (fun e => ?_)
    · rw [e]; exact ih
    · rw [e]
      refine ev_pos (by omega) (ev_pos (by rw [tabB_len]; omega) (ev_bool (fun e2 => ?_) (fun e2 => ?_)))
      · rw [e2]; exact ih
      · rw [e2]; exact Ev.now _
theorem ev_ite {α : Type} {c : Prop} [Decidable c] {f g : Nat → Option α} {r : α} (h1 : c → Ev f r) (h2 : ¬ c → Ev g r) : Ev (fun n => if c then f n else g n) r := by
  by_cases h : c
  · exact ev_pos h (h1 h)
  · exact ev_neg h (h2 h)
theorem pzValue_l1 (kind : Int) (hk : kind = 4 ∨ kind = 5) (g : Nat → Bool) (N : Nat) (hN : N ≤ 512) (h1 : 1 ≤ N) :
    Ev (fun k => spec_pzValue.l1 k kind (tabB g N) ((N - 1 : Nat) : Int) (N : Int) 0) (if (if kind = 4 then properB g N else strongB g N) = true then 1 else 0) := by
  unfold properB strongB
  have := ev_range N (fun k i => spec_pzValue.l1 k kind (tabB g N) ((N - 1 : Nat) : Int) (N : Int) (i : Int)) (fun i => if (if kind = 4 then allR (fun i => !(g i && g (N - 1 - i))) N i else allR (fun i => g i || g (N - 1 - i)) N i) = true then 1 else 0) ?_ ?_ 0 (Nat.zero_le _)
  · simpa using this
  · refine ev_succ ?_
    simp only [spec_pzValue.l1]
    exact ev_neg (Int.lt_irrefl _) (ev_eqv (Ev.now _) (by rw [allR_end, allR_end]; simp))
  · intro i hi ih
    refine ev_succ ?_
    simp only [spec_pzValue.l1]
    have hw : wrap64 (((N - 1 : Nat) : Int) - (i : Int)) = ((N - 1 - i : Nat) : Int) := by unfold wrap64; omega
    refine ev_pos (by omega) ?_
    rw [hw, rdOf_tab hi, rdOf_tab (show N - 1 - i < N by omega), wrap_succ hi (by omega), allR_step _ _ _ hi, allR_step _ _ _ hi, tabB_len]
    rcases hk with rfl | rfl
    · refine ev_pos rfl (ev_pos (by omega) (ev_pos (by omega) ?_))
      simp only [if_true] at ih ⊢
      refine ev_bool (fun e => ?_) (fun e => ?_)
      · rw [e]
        refine ev_pos (by omega) (ev_pos (by omega) (ev_bool (fun e2 => ?_) (fun e2 => ?_)))
        · rw [e2]; exact Ev.now _
        · rw [e2]; exact ev_neg (by decide) ih
      · rw [e]; exact ev_neg (by decide) ih
    · refine ev_neg (by decide) (ev_pos rfl (ev_pos (by omega) (ev_pos (by omega) ?_)))
      simp only [show ¬ ((5 : Int) = 4) by decide, if_false] at ih ⊢
      refine ev_bool (fun e => ?_) (fun e => ?_)
      · rw [e]; exact ih
      · rw [e]
        refine ev_pos (by omega) (ev_pos (by omega) (ev_bool (fun e2 => ?_) (fun e2 => ?_)))
        · rw [e2]; exact ih
        · rw [e2]; exact Ev.now _
def swB (g : Nat → Bool) (i m : Nat) : Bool := !bitB m i && (!g m && g (m + 2 ^ i))
theorem or_shl (m i : Nat) (hm : m < 512) (hi : i < 9) (hb : bitB m i = false) : Go.bits .or .i64 (m : Int) (shl .i64 1 (i : Int)) = ((m + 2 ^ i : Nat) : Int) := by
  have hp := (pow_lt9 (show i < 9 from hi) (Nat.le_refl _)).1
  rw [shl_one_nat i (by omega), or_nat m (2 ^ i) (by omega) (by omega), or_bit m i hm hi, if_neg (by simp [hb])]
theorem add_lt (m i n : Nat) (hn : n ≤ 9) (hm : m < 2 ^ n) (hi : i < n) (hb : bitB m i = false) : m + 2 ^ i < 2 ^ n := by
  have hp := (pow_lt9 hi hn).2
  have := Nat.or_lt_two_pow hm (pow_lt9 hi hn).1
  rw [or_bit m i (by omega) (by omega), if_neg (by simp [hb])] at this
  exact this
theorem isSwing_eq (a : Int) (g : Nat → Bool) (n m i : Nat) (hn : n ≤ 9) (hm : m < 2 ^ n) (hi : i < n) : impl_votes_isSwing.f a (tabB g (2 ^ n)) (m : Int) (i : Int) = some (swB g i m) := by
  have hp := (pow_lt9 hi hn).2
  unfold impl_votes_isSwing.f swB
  rw [has_eq m i (by omega) (by omega), Option.bind_some, rdOf_tab hm, tabB_len]
  cases hb : bitB m i
  · rw [if_neg (by decide), if_pos (by omega), if_pos (by omega)]
    cases hg : g m
    · rw [if_neg (by decide), if_pos (by omega), or_shl m i (by omega) (by omega) hb, if_pos (Int.natCast_nonneg _), if_pos (Int.ofNat_lt.2 (add_lt m i n hn hm hi hb)), rdOf_tab (add_lt m i n hn hm hi hb)]
      rfl
    · rw [if_pos rfl]; rfl
  · rw [if_pos rfl]; rfl
theorem set_same {α : Type} (l : List α) (i : Nat) (h : i < l.length) (x : α) (hx : l[i] = x) : l.set i x = l := by subst hx; exact List.set_getElem_self h
theorem swings_ev (m : Int) (h : 1 ≤ m ∧ m ≤ 9) (g : Nat → Bool) : Ev (fun k => impl_votes_swings.f k m (tabB g (2 ^ m.toNat))) (tab (fun i => cntB (swB g i) (2 ^ m.toNat) 0) m.toNat) := by
  obtain ⟨n, rfl⟩ := Int.eq_ofNat_of_zero_le (show 0 ≤ m by omega)
  have hn : n ≤ 9 := by omega
  have hp := pow_le512 h
  unfold impl_votes_swings.f
  rw [Int.toNat_natCast] at *
  have key : ∀ x : List Int, x.length = n → ∀ i, i < n → rd x (i : Int) = 0 → ∀ r, Ev (fun k => impl_votes_swings.l0 k (x.set i (cntB (swB g i) (2 ^ n) 0)) (n : Int) ((i + 1 : Nat) : Int) (n : Int) (tabB g (2 ^ n))) r →
      Ev (fun k => impl_votes_swings.l1 k x (i : Int) (n : Int) (i : Int) ((2 ^ n : Nat) : Int) 0 (n : Int) (tabB g (2 ^ n))) r := by
    intro x hx i hi h0 r hr
    have := ev_rangeS (2 ^ n) (fun k j (y : List Int) => impl_votes_swings.l1 k y (i : Int) (n : Int) (i : Int) ((2 ^ n : Nat) : Int) (j : Int) (n : Int) (tabB g (2 ^ n))) (fun _ _ => r)
      (fun j y => ∃ c : Int, 0 ≤ c ∧ c ≤ j ∧ y = x.set i c ∧ c + cntB (swB g i) (2 ^ n) j = cntB (swB g i) (2 ^ n) 0) ?_ ?_ 0 x (Nat.zero_le _) ⟨0, Int.le_refl _, Int.le_refl _, ?_, by omega⟩
    · simpa using this
    · rintro y ⟨c, _, _, rfl, hc⟩
      refine ev_succ ?_
      simp only [impl_votes_swings.l1]
      refine ev_neg (Int.lt_irrefl _) ?_
      rw [cntB_end, Int.add_zero] at hc
      rw [hc, wrap_succ hi (by omega)]
      exact hr
    · rintro j y hj ⟨c, hc0, hcj, rfl, hc⟩ ih
      refine ev_succ ?_
      simp only [impl_votes_swings.l1]
      refine ev_pos (by omega) (ev_bindS (isSwing_eq _ g n j i hn hj hi) ?_)
      rw [wrap_succ hj (by omega)]
      rw [cntB_step _ _ _ hj] at hc
      refine ev_bool (fun e => ?_) (fun e => ?_)
      · rw [if_pos e] at hc
        refine ev_pos (by omega) (ev_pos (by rw [List.length_set]; omega) (ih _ ⟨c + 1, by omega, by omega, ?_, by omega⟩))
        rw [rd_get (by rw [List.length_set]; omega), List.getElem_set_self, Int.toNat_natCast, List.set_set, wrap64_id (by omega)]
      · rw [if_neg (by simp [e])] at hc
        exact ih _ ⟨c, hc0, by omega, rfl, by omega⟩
    · exact (set_same x i (by omega) 0 (by rw [rd_get (by omega)] at h0; exact h0)).symm
  refine ev_pos (by omega) (ev_pos (by omega) (ev_bindS rfl ?_))
  have := ev_range n (fun k i => impl_votes_swings.l0 k (tab (fun i => cntB (swB g i) (2 ^ n) 0) i ++ List.replicate (n - i) 0) (n : Int) (i : Int) (n : Int) (tabB g (2 ^ n))) (fun _ => tab (fun i => cntB (swB g i) (2 ^ n) 0) n) ?_ ?_ 0 (Nat.zero_le _)
  · simpa [tab] using this
  · refine ev_succ ?_
    simp only [impl_votes_swings.l0]
    exact ev_neg (Int.lt_irrefl _) (ev_eqv (Ev.now _) (by simp))
  · intro i hi ih
    refine ev_succ ?_
    simp only [impl_votes_swings.l0, tabB_len]
    have hl : (tab (fun i => cntB (swB g i) (2 ^ n) 0) i ++ List.replicate (n - i) 0).length = n := by rw [List.length_append, tab_len, List.length_replicate]; omega
    refine ev_pos (by omega) (key _ hl i hi ?_ _ ?_)
    · rw [rd_get (by omega), List.getElem_append_right (by rw [tab_len]; omega)]; simp
    · rw [show n - i = (n - (i + 1)) + 1 by omega, List.replicate_succ, List.set_append_right _ _ (by rw [tab_len]; omega), tab_len, Nat.sub_self, List.set_cons_zero]
      rw [tab_succ, List.append_assoc] at ih
      exact ih
theorem pwSwings_ev (n i : Nat) (hn : n ≤ 9) (hi : i < n) (g : Nat → Bool) : Ev (fun k => spec_pwSwings.f k (tabB g (2 ^ n)) (i : Int)) (((List.range (2 ^ n)).filter (swB g i)).map fun (x : Nat) => (x : Int)) := by
  have hp := (pow_lt9 hi hn).2
  have hp1 := (pow_lt9 hi hn).1
  unfold spec_pwSwings.f
  have := ev_rangeS (2 ^ n) (fun k j (y : List Int) => spec_pwSwings.l0 k (tabB g (2 ^ n)) (i : Int) y (tabB g (2 ^ n)) ((2 ^ n : Nat) : Int) (j : Int)) (fun j y => y ++ (((List.range (2 ^ n)).drop j).filter (swB g i)).map fun (x : Nat) => (x : Int))
      (fun j y => y.length ≤ j) ?_ ?_ 0 ([] : List Int) (Nat.zero_le _) (Nat.le_refl _)
  · simpa [tabB_len] using this
  · intro y _
    refine ev_succ ?_
    simp only [spec_pwSwings.l0]
    exact ev_neg (Int.lt_irrefl _) (ev_eqv (Ev.now _) (by rw [List.drop_of_length_le (by simp)]; simp))
  · intro j y hj hy ih
    refine ev_succ ?_
    simp only [spec_pwSwings.l0, tabB_len]
    have hd : (List.range (2 ^ n)).drop j = j :: (List.range (2 ^ n)).drop (j + 1) := by rw [List.drop_eq_getElem_cons (by simpa using hj), List.getElem_range]
    rw [hd, List.filter_cons]
    refine ev_pos (by omega) (ev_pos (by omega) (ev_pos (by omega) (ev_pos (by omega) ?_)))
    rw [wrap_succ hj (by omega), rdOf_tab hj]
    refine ev_ite (fun hb => ?_) (fun hb => ?_)
    · rw [tmod_bit j i (by omega)] at hb
      refine ev_bool (fun e => ?_) (fun e => ?_)
      · rw [if_neg (by simp [swB, e])]; exact ih y (by omega)
      · have hw : wrap64 ((j : Int) + shl .i64 1 (i : Int)) = ((j + 2 ^ i : Nat) : Int) := by
          rw [shl_one_nat i (by omega)]
          generalize 2 ^ i = q at *
          unfold wrap64; omega
        have hl := add_lt j i n hn hj hi hb
        rw [hw, rdOf_tab hl]
        refine ev_pos (Int.natCast_nonneg _) (ev_pos (Int.ofNat_lt.2 hl) (ev_bool (fun e2 => ?_) (fun e2 => ?_)))
        · refine ev_pos (by omega) (ev_eqv (ih (y ++ [(j : Int)]) (by simp; omega)) ?_)
          rw [if_pos (by simp [swB, e, hb, e2]), List.map_cons, List.append_assoc]; rfl
        · rw [if_neg (by simp [swB, e2])]; exact ih y (by omega)
    · rw [tmod_bit j i (by omega), Bool.not_eq_false] at hb
      rw [if_neg (by simp [swB, hb])]; exact ih y (by omega)
theorem rest_lt (n M : Nat) : 2 ^ n - 1 - M < 2 ^ n := by
  have : 1 ≤ 2 ^ n := Nat.one_le_two_pow
  generalize 2 ^ n = N at *
  omega
def tellA (k a : Int) (g : Nat → Bool) (N : Nat) : Int :=
  if k = 1 then cntB g N 0 else if k = 4 then (if properB g N = true then 1 else 0) else if k = 5 then (if strongB g N = true then 1 else 0) else a
def tellB (k a : Int) (g : Nat → Bool) (N : Nat) : Int :=
  if k = 0 then (if g a.toNat = true then 1 else 0) else if k = 2 then (if g (N - 1 - 2 ^ a.toNat) = true then 0 else 1) else if k = 3 then cntB (swB g a.toNat) N 0 else 0
def AskOk (n : Nat) (k a : Int) : Prop := (k = 0 → 0 ≤ a ∧ a < ((2 ^ n : Nat) : Int)) ∧ (k = 2 → 0 ≤ a ∧ a < (n : Int)) ∧ (k = 3 → 0 ≤ a ∧ a < (n : Int))
theorem clueOk_ask {n : Nat} {k a b : Int} (h : clueOk (n : Int) k a b = true) : AskOk n k a := by
  unfold clueOk at h
  refine ⟨?_, ?_, ?_⟩
  · rintro rfl
    rw [if_pos rfl, Bool.and_eq_true, inB_iff, Int.toNat_natCast] at h
    refine ⟨h.1.1, ?_⟩
    have := h.1.2
    push_cast
    omega
  · rintro rfl
    rw [if_neg (by decide), if_neg (by decide), if_pos rfl, Bool.and_eq_true, inB_iff] at h
    omega
  · rintro rfl
    rw [if_neg (by decide), if_neg (by decide), if_neg (by decide), if_pos rfl, Bool.and_eq_true, inB_iff] at h
    omega
theorem told_ev (n : Nat) (h : 1 ≤ n ∧ n ≤ 9) (g : Nat → Bool) (k a : Int) (hk : 0 ≤ k ∧ k ≤ 5) (ha : AskOk n k a) :
    Ev (fun r => impl_votes_told.f r (n : Int) (tabB g (2 ^ n)) k a) (k, if k = 0 ∨ k = 1 ∨ k = 2 ∨ k = 3 ∨ k = 4 ∨ k = 5 then tellA k a g (2 ^ n) else 0, tellB k a g (2 ^ n)) := by
  have hm : 1 ≤ (n : Int) ∧ (n : Int) ≤ 9 := by omega
  have e0 : (n : Int).toNat = n := Int.toNat_natCast n
  have hj : ∀ x y z : Int, Ev (fun r => impl_votes_told.j0 r x y z) (x, y, z) := fun x y z => by
    refine ev_succ ?_
    simp only [impl_votes_told.j0]
    exact Ev.now _
  have hp : 2 ^ n ≤ 512 := Nat.pow_le_pow_right (n := 2) (by decide) (show n ≤ 9 by omega)
  unfold impl_votes_told.f
  have hcase : k = 0 ∨ k = 1 ∨ k = 2 ∨ k = 3 ∨ k = 4 ∨ k = 5 := by omega
  rw [if_pos hcase]
  rcases hcase with rfl | rfl | rfl | rfl | rfl | rfl
  · obtain ⟨h0, h1⟩ := ha.1 rfl
    obtain ⟨x, rfl⟩ := Int.eq_ofNat_of_zero_le h0
    have hx : x < 2 ^ n := by exact_mod_cast h1
    refine ev_pos rfl (ev_pos h0 (ev_pos (by rw [tabB_len]; exact h1) ?_))
    rw [rdOf_tab hx]
    refine ev_bindS (oneIf_eq _) (ev_eqv (hj _ _ _) ?_)
    unfold tellA tellB
    simp
  · refine ev_neg (by decide) (ev_pos rfl (Ev.bind (countWins_ev _ g _ hp) (ev_eqv (hj _ _ _) ?_)))
    unfold tellA tellB
    simp
  · obtain ⟨h0, h1⟩ := ha.2.1 rfl
    obtain ⟨x, rfl⟩ := Int.eq_ofNat_of_zero_le h0
    have hx : x < n := by exact_mod_cast h1
    have hq := (pow_lt9 hx h.2).1
    have hr := rest_mask (n : Int) hm (2 ^ x) (by rw [e0]; exact hq)
    have hall := all_eq (n : Int) (tabB g (2 ^ n)) hm
    rw [e0] at hr hall
    refine ev_neg (by decide) (ev_neg (by decide) (ev_pos rfl (ev_bindS hall (ev_pos h0 ?_))))
    rw [shl_one_nat x (by omega), hr, tabB_len]
    refine ev_pos (Int.natCast_nonneg _) (ev_pos (Int.ofNat_lt.2 (rest_lt n _)) ?_)
    rw [rdOf_tab (rest_lt n (2 ^ x))]
    refine ev_bindS (oneIf_eq _) (ev_eqv (hj _ _ _) ?_)
    unfold tellA tellB
    simp
    by_cases hg : g (2 ^ n - 1 - 2 ^ x) = true <;> simp [hg]
  · obtain ⟨h0, h1⟩ := ha.2.2 rfl
    obtain ⟨x, rfl⟩ := Int.eq_ofNat_of_zero_le h0
    have hx : x < n := by exact_mod_cast h1
    have hs := swings_ev (n : Int) hm g
    rw [e0] at hs
    refine ev_neg (by decide) (ev_neg (by decide) (ev_neg (by decide) (ev_pos rfl (Ev.bind hs (ev_pos h0 (ev_pos (by rw [tab_len]; exact h1) (ev_eqv (hj _ _ _) ?_)))))))
    rw [rd_get (by rw [tab_len]; exact hx), tab_get]
    unfold tellA tellB
    simp
  · have hs := isProper_ev (n : Int) hm g
    rw [e0] at hs
    refine ev_neg (by decide) (ev_neg (by decide) (ev_neg (by decide) (ev_neg (by decide) (ev_pos rfl (Ev.bind hs (ev_bindS (oneIf_eq _) (ev_eqv (hj _ _ _) ?_)))))))
    unfold tellA tellB
    simp
  · have hs := isStrong_ev (n : Int) hm g
    rw [e0] at hs
    refine ev_neg (by decide) (ev_neg (by decide) (ev_neg (by decide) (ev_neg (by decide) (ev_neg (by decide) (ev_pos rfl (Ev.bind hs (ev_bindS (oneIf_eq _) (ev_eqv (hj _ _ _) ?_))))))))
    unfold tellA tellB
    simp
def tellV (k a : Int) (g : Nat → Bool) (N : Nat) : Int := if k = 1 ∨ 3 < k then tellA k a g N else tellB k a g N
theorem pzValue_ev (n : Nat) (h : 1 ≤ n ∧ n ≤ 9) (g : Nat → Bool) (k a : Int) (hk : 0 ≤ k ∧ k ≤ 5) (ha : AskOk n k a) : Ev (fun r => spec_pzValue.f r k a (tabB g (2 ^ n))) (tellV k a g (2 ^ n)) := by
  have hp : 2 ^ n ≤ 512 := Nat.pow_le_pow_right (n := 2) (by decide) (show n ≤ 9 by omega)
  have h1p : 1 ≤ 2 ^ n := Nat.one_le_two_pow
  unfold spec_pzValue.f
  rw [tabB_len]
  have hw : wrap64 (((2 ^ n : Nat) : Int) - 1) = ((2 ^ n - 1 : Nat) : Int) := by
    generalize 2 ^ n = N at *
    unfold wrap64; omega
  rw [hw]
  have hcase : k = 0 ∨ k = 1 ∨ k = 2 ∨ k = 3 ∨ (k = 4 ∨ k = 5) := by omega
  rcases hcase with rfl | rfl | rfl | rfl | hk45
  · obtain ⟨h0, h1⟩ := ha.1 rfl
    obtain ⟨x, rfl⟩ := Int.eq_ofNat_of_zero_le h0
    have hx : x < 2 ^ n := by exact_mod_cast h1
    refine ev_pos rfl (ev_pos h0 (ev_pos h1 ?_))
    rw [rdOf_tab hx]
    refine ev_bindS (pzOne_eq _) (ev_eqv (Ev.now _) ?_)
    simp [tellV, tellB]
  · exact ev_neg (by decide) (ev_pos rfl (ev_eqv (pzValue_l0 g _ hp) (by simp [tellV, tellA])))
  · obtain ⟨h0, h1⟩ := ha.2.1 rfl
    obtain ⟨x, rfl⟩ := Int.eq_ofNat_of_zero_le h0
    have hx : x < n := by exact_mod_cast h1
    have hq := (pow_lt9 hx h.2).1
    have hw2 : wrap64 (((2 ^ n - 1 : Nat) : Int) - shl .i64 1 (x : Int)) = ((2 ^ n - 1 - 2 ^ x : Nat) : Int) := by
      rw [shl_one_nat x (by omega)]
      generalize 2 ^ n = N at *
      generalize 2 ^ x = M at *
      unfold wrap64; omega
    refine ev_neg (by decide) (ev_neg (by decide) (ev_pos rfl (ev_pos h0 ?_)))
    rw [hw2]
    refine ev_pos (Int.natCast_nonneg _) (ev_pos (Int.ofNat_lt.2 (rest_lt n _)) ?_)
    rw [rdOf_tab (rest_lt n (2 ^ x))]
    refine ev_bindS (pzOne_eq _) (ev_eqv (Ev.now _) ?_)
    simp [tellV, tellB]
    by_cases hg : g (2 ^ n - 1 - 2 ^ x) = true <;> simp [hg]
  · obtain ⟨h0, h1⟩ := ha.2.2 rfl
    obtain ⟨x, rfl⟩ := Int.eq_ofNat_of_zero_le h0
    have hx : x < n := by exact_mod_cast h1
    refine ev_neg (by decide) (ev_neg (by decide) (ev_neg (by decide) (ev_pos rfl (Ev.bind (pwSwings_ev n x h.2 hx g) (ev_eqv (Ev.now _) ?_)))))
    simp [tellV, tellB, cntB]
  · refine ev_neg (by omega) (ev_neg (by omega) (ev_neg (by omega) (ev_neg (by omega) (ev_eqv (pzValue_l1 k hk45 g _ hp h1p) ?_))))
    rcases hk45 with rfl | rfl <;> simp [tellV, tellA]
theorem pzFits_ev (n : Nat) (h : 1 ≤ n ∧ n ≤ 9) (g : Nat → Bool) (k a b : Int) (hk : 0 ≤ k ∧ k ≤ 5) (ha : AskOk n k a) (hb : k = 1 ∨ 3 < k → b = 0) :
    Ev (fun r => spec_pzFits.f r k a b (tabB g (2 ^ n))) (decide (tellA k a g (2 ^ n) = a ∧ tellB k a g (2 ^ n) = b)) := by
  have key : ∀ x, x = decide (k = 1 ∨ 3 < k) → Ev (fun r => spec_pzFits.j0 r (tabB g (2 ^ n)) x k a b) (decide (tellA k a g (2 ^ n) = a ∧ tellB k a g (2 ^ n) = b)) := by
    rintro x rfl
    refine ev_succ ?_
    simp only [spec_pzFits.j0]
    by_cases c : k = 1 ∨ 3 < k
    · refine ev_pos (by simpa using c) (Ev.bind (pzValue_ev n h g k 0 hk ⟨by omega, by omega, by omega⟩) (ev_eqv (Ev.now _) ?_))
      have e1 : tellV k 0 g (2 ^ n) = tellA k a g (2 ^ n) := by
        have : k = 1 ∨ k = 4 ∨ k = 5 := by omega
        rcases this with rfl | rfl | rfl <;> simp [tellV, tellA]
      have e2 : tellB k a g (2 ^ n) = 0 := by
        have : k = 1 ∨ k = 4 ∨ k = 5 := by omega
        rcases this with rfl | rfl | rfl <;> simp [tellB]
      rw [e1, e2, hb c, Bool.eq_iff_iff]; simp
    · refine ev_neg (by simpa using c) (Ev.bind (pzValue_ev n h g k a hk ha) (ev_eqv (Ev.now _) ?_))
      have e1 : tellV k a g (2 ^ n) = tellB k a g (2 ^ n) := by unfold tellV; rw [if_neg c]
      have e2 : tellA k a g (2 ^ n) = a := by
        have : k = 0 ∨ k = 2 ∨ k = 3 := by omega
        rcases this with rfl | rfl | rfl <;> simp [tellA]
      rw [e1, e2, Bool.eq_iff_iff]; simp
  unfold spec_pzFits.f
  exact ev_ite (fun e => key _ (by simp [e])) (fun e => key _ (by simp [e]))
theorem any_eq_mem {α : Type} {p q : α → Bool} : ∀ {l : List α}, (∀ x ∈ l, p x = q x) → l.any p = l.any q
  | [], _ => rfl
  | x :: xs, h => by rw [List.any_cons, List.any_cons, h x (List.mem_cons_self ..), any_eq_mem fun y hy => h y (List.mem_cons_of_mem _ hy)]
theorem votesOf_l0 (p : Int → Option Bool) (q : Nat → Bool) (a n : Nat) (m : Int) (hn : n ≤ 1048576) (h : ∀ i, i < n → p (i : Int) = some (q i)) : Ev (fun k => impl_votesOf.l0 p k (n : Int) 0 m (List.replicate n false)) (m, tabB q n) := by
  have := ev_range n (fun k i => impl_votesOf.l0 p k (n : Int) (i : Int) m (tabB q i ++ List.replicate (n - i) false)) (fun _ => (m, tabB q n)) ?_ ?_ 0 (Nat.zero_le _)
  · simpa [tabB] using this
  · refine ev_succ ?_
    simp only [impl_votesOf.l0]
    exact ev_neg (Int.lt_irrefl _) (ev_eqv (Ev.now _) (by simp))
  · intro i hi ih
    refine ev_succ ?_
    simp only [impl_votesOf.l0]
    have hlen : (tabB q i ++ List.replicate (n - i) false).length = n := by rw [List.length_append, tabB_len, List.length_replicate]; omega
    refine ev_pos (by omega) (ev_bindS (h i hi) (ev_pos (by omega) (ev_pos (by rw [hlen]; omega) ?_)))
    rw [wrap_succ hi (Nat.le_trans hn (by decide)), Int.toNat_natCast, show n - i = (n - (i + 1)) + 1 by omega, List.replicate_succ, tabB_set, tabB_next]
    exact ih
theorem votesOf_ev (p : Int → Option Bool) (q : Nat → Bool) (m : Int) (hm : 0 ≤ m ∧ m ≤ 9) (h : ∀ i : Nat, i < 2 ^ m.toNat → p (i : Int) = some (q i)) : Ev (fun k => impl_votesOf.f k m p) (m, tabB q (2 ^ m.toNat)) := by
  have hp : 2 ^ m.toNat ≤ 512 := Nat.pow_le_pow_right (n := 2) (by decide) (show m.toNat ≤ 9 by omega)
  have hs : shl .i64 1 m = ((2 ^ m.toNat : Nat) : Int) := by rw [shl_one m (by omega)]; simp
  have hl0 := votesOf_l0 p q 0 (2 ^ m.toNat) m (by omega) h
  unfold impl_votesOf.f
  refine ev_pos hm.1 ?_
  rw [hs]
  generalize 2 ^ m.toNat = n at *
  have hn2 : (n : Int).toNat ≤ 281474976710656 := by rw [Int.toNat_natCast]; exact Nat.le_trans hp (by decide)
  refine ev_pos (Int.natCast_nonneg n) (ev_pos hn2 (ev_bindS rfl ?_))
  simp only [Int.toNat_natCast, List.length_replicate]
  exact hl0
theorem votesBy_l0 (m : Int) (l : List (List Int)) (hl : l.length ≤ 1048576) (h : SetsOk m l) : Ev (fun k => impl_votesBy.l0 k m l (l.length : Int) 0 []) (m, winT m l) := by
  have := ev_range l.length (fun k i => impl_votesBy.l0 k m l (l.length : Int) (i : Int) ((l.take i).map fun s => ((maskN 0 s : Nat) : Int))) (fun _ => (m, winT m l)) ?_ ?_ 0 (Nat.zero_le _)
  · simpa using this
  · refine ev_succ ?_
    simp only [impl_votesBy.l0]
    refine ev_neg (Int.lt_irrefl _) ?_
    rw [List.take_length]
    unfold votesOf_votesBy.f
    refine Ev.bind (votesOf_ev _ (winB l) m (by have := h.1; omega) (fun i hi => ?_)) (Ev.now _)
    have hp := pow_le512 h.1
    rw [anyO_some (q := fun x => Go.bits .and .i64 (i : Int) x == x) (fun _ _ => rfl), List.any_map]
    congr 1
    unfold winB
    refine any_eq_mem fun s hs => ?_
    obtain ⟨j, hj, rfl⟩ := List.mem_iff_getElem.1 hs
    have hlt := h.lt hj
    unfold mk at hlt
    rw [getD_get hj] at hlt
    exact and_self_nat (by omega) hlt
  · intro i hi ih
    refine ev_succ ?_
    simp only [impl_votesBy.l0]
    refine ev_pos (by omega) (ev_pos (by omega) (ev_pos (by omega) ?_))
    rw [rdL1_get hi, wrap_succ hi (Nat.le_trans hl (by decide))]
    have hm := (h.masks hi).1
    have hk : mk l i = maskN 0 l[i] := by unfold mk; rw [getD_get hi]
    rw [hk] at hm
    refine Ev.bind hm (ev_pos (by rw [List.length_map, List.length_take]; omega) ?_)
    rw [List.take_succ_eq_append_getElem hi, List.map_append] at ih
    exact ih
theorem votesBy_ev (m : Int) (l : List (List Int)) (hl : l.length ≤ 1048576) (h : SetsOk m l) : Ev (fun k => impl_votesBy.f k m l) (m, winT m l) := by
  unfold impl_votesBy.f
  exact votesBy_l0 m l hl h
theorem Game_votes_ev (m : Int) (l : List (List Int)) (hl : l.length ≤ 1048576) (h : SetsOk m l) : Ev (fun k => impl_Game_votes.f k m l) (m, winT m l) := by
  unfold impl_Game_votes.f
  exact Ev.bind (votesBy_ev m l hl h) (Ev.now _)
def mkG (n : Nat) (s : List (List Int)) : S46 := ⟨(n : Int), s⟩
def fitC (n : Nat) (t : List Bool) (c : S72) : Bool := decide (tellA c.f0 c.f1 (fun i => t.getD i false) (2 ^ n) = c.f1 ∧ tellB c.f0 c.f1 (fun i => t.getD i false) (2 ^ n) = c.f2)
def fitA (n : Nat) (l : List S72) (t : List Bool) : Bool := l.all (fitC n t)
def solsK (n : Nat) (l : List S72) : List (List (List Int)) := (gamesK n).filter fun s => fitA n l (winT n s)
def CluesOk (n : Nat) (l : List S72) : Prop := ∀ c ∈ l, clueOk (n : Int) c.f0 c.f1 c.f2 = true
theorem tab_self {N : Nat} (t : List Bool) (h : t.length = N) : tabB (fun i => t.getD i false) N = t := by
  refine List.ext_getElem (by rw [tabB_len, h]) fun i h1 h2 => ?_
  rw [tabB_get, getD_get h2]
theorem clueOk_kind {n k a b : Int} (h : clueOk n k a b = true) : (0 ≤ k ∧ k ≤ 5) ∧ (k = 1 ∨ 3 < k → b = 0) := by
  unfold clueOk at h
  split at h
  · omega
  split at h
  · simp at h; omega
  split at h
  · omega
  split at h
  · omega
  split at h
  · simp at h; omega
  split at h
  · simp at h; omega
  · cases h
theorem fitC_ev {n : Nat} (hn : 1 ≤ n ∧ n ≤ 9) (t : List Bool) (ht : t.length = 2 ^ n) (c : S72) (hc : clueOk (n : Int) c.f0 c.f1 c.f2 = true) : Ev (fun k => spec_pzFits.f k c.f0 c.f1 c.f2 t) (fitC n t c) := by
  obtain ⟨hk, hk2⟩ := clueOk_kind hc
  have := pzFits_ev n hn (fun i => t.getD i false) c.f0 c.f1 c.f2 hk (clueOk_ask hc) hk2
  rwa [tab_self t ht] at this
theorem fitsO_ev {n : Nat} (hn : 1 ≤ n ∧ n ≤ 9) (t : List Bool) (ht : t.length = 2 ^ n) : ∀ (l : List S72), CluesOk n l → Ev (fun k => fitsO k t l) (fitA n l t)
  | [], _ => Ev.now _
  | c :: l, h => by
    have h1 := fitC_ev hn t ht c (h c (List.mem_cons_self ..))
    have h2 := fitsO_ev hn t ht l (fun x hx => h x (List.mem_cons_of_mem _ hx))
    unfold fitA
    rw [List.all_cons]
    refine Ev.bind h1 (ev_bool (fun e => ?_) (fun e => ?_))
    · rw [e]; exact h2
    · rw [e]; exact Ev.now _
theorem look_ev {n : Nat} (hn : 1 ≤ n ∧ n < 5) (l : List S72) (hl : CluesOk n l) : ∀ (d : Nat) (p : List Bool) (ts : List (List Bool)), p.length + d ≤ 16 → lookT d p = some ts → (∀ t ∈ ts, t ∈ tabsK n) →
    Ev (fun k => spec_pzLook.f k n l d p) ((ts.filter (fitA n l)).map fun t => mkG n (leastK t))
  | 0, p, ts, _, h, hm => by
    unfold lookT at h
    obtain rfl := Option.some.inj h
    unfold spec_pzLook.f
    by_cases h1 : rdOf false p ((p.length - 1 : Nat) : Int) = false
    · refine ev_pos h1 (ev_eqv (Ev.now _) ?_)
      rw [if_pos h1]; rfl
    · refine ev_neg h1 ?_
      rw [if_neg h1] at hm ⊢
      by_cases h2 : rdOf false p 0 = true
      · refine ev_pos h2 (ev_eqv (Ev.now _) ?_)
        rw [if_pos h2]; rfl
      · refine ev_neg h2 ?_
        rw [if_neg h2] at hm ⊢
        have hp := hm p (List.mem_singleton.2 rfl)
        refine Ev.bind (fitsO_ev (n := n) ⟨hn.1, by omega⟩ p ((len_K n hn.2 hn.1).2 p hp) l hl) (ev_bool (fun e => ?_) (fun e => ?_))
        · refine Ev.bind (Ev.of (spec_gmOf.mono _ _) (gmOf_K n hn.2 hn.1 p hp)) (ev_eqv (Ev.now _) ?_)
          rw [List.filter_cons_of_pos e]; rfl
        · rw [List.filter_cons_of_neg (by rw [e]; decide)]; exact Ev.now _
  | d + 1, p, ts, hd, h, hm => by
    unfold lookT at h
    obtain ⟨m, hmu, h⟩ := Option.bind_eq_some_iff.mp h
    obtain ⟨l1, h1, h⟩ := Option.bind_eq_some_iff.mp h
    unfold spec_pzLook.f
    refine Ev.bind (Ev.of (spec_voList.mono _) (voList_K p.length (by omega))) (ev_bindS hmu ?_)
    cases m with
    | true =>
      rw [if_pos rfl] at h
      obtain rfl := Option.some.inj h
      exact Ev.bind (look_ev hn l hl d (p ++ [true]) l1 (by rw [List.length_append, List.length_singleton]; omega) h1 hm) (ev_pos rfl (Ev.now _))
    | false =>
      rw [if_neg (by decide)] at h
      obtain ⟨l2, h2, h⟩ := Option.bind_eq_some_iff.mp h
      obtain rfl := Option.some.inj h
      refine Ev.bind (look_ev hn l hl d (p ++ [true]) l1 (by rw [List.length_append, List.length_singleton]; omega) h1 (fun t ht => hm t (List.mem_append_left _ ht))) (ev_neg (by decide) (Ev.bind (look_ev hn l hl d (p ++ [false]) l2 (by rw [List.length_append, List.length_singleton]; omega) h2 (fun t ht => hm t (List.mem_append_right _ ht))) (ev_eqv (Ev.now _) ?_)))
      rw [List.filter_append, List.map_append]
theorem gmBefore_ev (a b : Int) (l1 l2 : List (List Int)) (h1 : l1.length ≤ 1048576) (hx : ∀ x ∈ l1, x.length ≤ 1048576) (hy : ∀ x ∈ l2, x.length ≤ 1048576) : Ev (fun k => spec_gmBefore.f k a l1 b l2) (lexG l1 l2) := by
  unfold spec_gmBefore.f
  have := ev_range l1.length (fun k i => spec_gmBefore.l0 k l1 (l1.length : Int) (i : Int) a l1 b l2) (fun i => lexG (l1.drop i) (l2.drop i)) ?_ ?_ 0 (Nat.zero_le _)
  · simpa using this
  · refine ev_succ ?_
    simp only [spec_gmBefore.l0]
    refine ev_neg (by omega) (ev_eqv (Ev.now _) ?_)
    rw [drop_end]
    by_cases h : l1.length < l2.length
    · rw [List.drop_eq_getElem_cons h]; exact decide_eq_true (by omega)
    · rw [List.drop_of_length_le (Nat.le_of_not_lt h)]; exact decide_eq_false (by omega)
  · intro i hi ih
    refine ev_succ ?_
    simp only [spec_gmBefore.l0]
    refine ev_pos (by omega) (ev_pos (by omega) (ev_pos (by omega) ?_))
    rw [List.drop_eq_getElem_cons hi]
    by_cases h : i < l2.length
    · refine ev_neg (by omega) (ev_pos (by omega) ?_)
      rw [rdL1_get hi, rdL1_get h, wrap_succ hi (Nat.le_trans h1 (by decide)), List.drop_eq_getElem_cons h]
      refine Ev.bind (voBefore_ev _ _ (Nat.le_trans (hx _ (List.getElem_mem hi)) (by decide))) (ev_bool (fun e => ?_) (fun e => ?_))
      · refine ev_eqv (Ev.now _) ?_
        unfold lexG
        rw [if_neg (fun e2 => by rw [e2, lexB_irrefl] at e; cases e)]
        exact e.symm
      · refine Ev.bind (voBefore_ev _ _ (Nat.le_trans (hy _ (List.getElem_mem h)) (by decide))) (ev_bool (fun e2 => ?_) (fun e2 => ?_))
        · refine ev_eqv (Ev.now _) ?_
          unfold lexG
          rw [if_neg (fun e3 => by rw [e3, lexB_irrefl] at e2; cases e2)]
          exact e.symm
        · have := lexB_total _ _ e e2
          unfold lexG
          rw [if_pos this]
          exact ih
    · rw [List.drop_of_length_le (Nat.le_of_not_lt h)]
      exact ev_pos (by omega) (Ev.now _)
theorem sortL_map {α β : Type} (lt : α → α → Bool) (lt' : β → β → Bool) (f : α → β) (h : ∀ a b, lt' (f a) (f b) = lt a b) (l : List α) : sortL lt' (l.map f) = (sortL lt l).map f := by
  have hi : ∀ x (ys : List α), insL lt' (f x) (ys.map f) = (insL lt x ys).map f := by
    intro x ys
    induction ys with
    | nil => rfl
    | cons y ys ih =>
      simp only [List.map_cons, insL, h]
      split
      · rw [ih]; rfl
      · rfl
  have : ∀ (l out : List α), (l.map f).foldl (fun out x => insL lt' x out) (out.map f) = (l.foldl (fun out x => insL lt x out) out).map f := by
    intro l
    induction l with
    | nil => intro out; rfl
    | cons x l ih => intro out; simp only [List.map_cons, List.foldl_cons]; rw [hi]; exact ih _
  exact this l []
def posL {α : Type} (lt : α → α → Bool) (x : α) : List α → Nat
  | [] => 0
  | y :: ys => if lt y x = true then posL lt x ys + 1 else 0
theorem insL_pos {α : Type} (lt : α → α → Bool) (x : α) : ∀ l, l.take (posL lt x l) ++ [x] ++ l.drop (posL lt x l) = insL lt x l
  | [] => rfl
  | y :: ys => by
    have ih := insL_pos lt x ys
    unfold posL insL
    by_cases h : lt y x = true
    · simp only [if_pos h, List.take_succ_cons, List.drop_succ_cons, List.cons_append]; rw [ih]
    · simp only [if_neg h]; rfl
def ltG (a b : S46) : Bool := lexG a.f1 b.f1
def GOk (g : S46) : Prop := g.f1.length ≤ 1048576 ∧ ∀ x ∈ g.f1, x.length ≤ 1048576
theorem pzPos_ev (g : S46) (hg : GOk g) : ∀ (l : List S46) (i : Nat), (∀ x ∈ l, GOk x) → Ev (fun k => pzPos k g l i) (i + posL ltG g l)
  | [], _, _ => Ev.now _
  | x :: xs, i, h => by
    have hx := h x (List.mem_cons_self ..)
    unfold pzPos posL
    refine Ev.bind (gmBefore_ev _ _ _ _ hx.1 hx.2 hg.2) (ev_bool (fun e => ?_) (fun e => ?_))
    · have e' : ltG x g = true := e
      rw [if_pos e']
      exact ev_eqv (pzPos_ev g hg xs (i + 1) (fun y hy => h y (List.mem_cons_of_mem _ hy))) (by omega)
    · have e' : ¬ ltG x g = true := by rw [show ltG x g = false from e]; decide
      rw [if_neg e']; exact Ev.now _
theorem pzSort_ev : ∀ (gs outs : List S46), (∀ x ∈ gs, GOk x) → (∀ x ∈ outs, GOk x) → Ev (fun k => pzSort k gs outs) (gs.foldl (fun out x => insL ltG x out) outs)
  | [], _, _, _ => Ev.now _
  | g :: gs, outs, h, ho => by
    have hg := h g (List.mem_cons_self ..)
    unfold pzSort pzIns
    refine Ev.bind (Ev.bind (ev_eqv (pzPos_ev g hg outs 0 ho) (Nat.zero_add _)) (Ev.now _)) ?_
    rw [insL_pos, List.foldl_cons]
    exact pzSort_ev gs _ (fun x hx => h x (List.mem_cons_of_mem _ hx)) (fun x hx => by
      rcases List.mem_cons.1 ((insL_perm ltG g outs).mem_iff.1 hx) with rfl | h2
      · exact hg
      · exact ho x h2)
theorem solsK_eq {n : Nat} (hn : 1 ≤ n ∧ n < 5) (l : List S72) : sortL ltG (((tabsK n).filter (fitA n l)).map fun t => mkG n (leastK t)) = (solsK n l).map (mkG n) := by
  have e : (((tabsK n).filter (fitA n l)).map fun t => mkG n (leastK t)) = (((tabsK n).map leastK).filter fun s => fitA n l (winT n s)).map (mkG n) := by
    rw [List.filter_map, List.map_map]
    refine congrArg _ (List.filter_congr fun t ht => ?_)
    show fitA n l t = fitA n l (winT n (leastK t))
    rw [win_K n hn.2 hn.1 t ht]
  rw [e, sortL_map lexG ltG (mkG n) (fun _ _ => rfl), sort_filter lexG lexG_ntrans (fun _ _ => lexG_asymm) lexG_total]
  rfl
theorem look_some {n : Nat} (hn : n < 5) : lookT (2 ^ n) [] = some (tabsK n) := by
  have h := look_K n hn
  unfold tabsK
  cases e : lookT (2 ^ n) [] with
  | none => rw [e] at h; cases h
  | some ts => rfl
theorem leastK_ok {n : Nat} (hn : 1 ≤ n ∧ n < 5) {t : List Bool} (ht : t ∈ tabsK n) : GOk (mkG n (leastK t)) := by
  have h := sets_K n hn.2 hn.1 t ht
  exact ⟨Nat.le_trans h.1 (by decide), fun x hx => Nat.le_trans (h.2 x hx).2 (by decide)⟩
theorem pzAll_ev {n : Nat} (hn : 1 ≤ n ∧ n < 5) (l : List S72) (hl : CluesOk n l) : Ev (fun k => spec_pzAll.f k n l) ((solsK n l).map (mkG n)) := by
  unfold spec_pzAll.f
  have h4 : 2 ^ n ≤ 16 := Nat.pow_le_pow_right (n := 2) (by decide) (show n ≤ 4 by omega)
  refine ev_pos (by omega) ?_
  rw [Int.toNat_natCast]
  refine Ev.bind (look_ev hn l hl (2 ^ n) [] (tabsK n) (by simpa using h4) (look_some hn.2) (fun _ h => h)) (ev_pos ?_ (ev_eqv (pzSort_ev _ [] ?_ ?_) (solsK_eq hn l)))
  · rw [List.length_map]
    exact Nat.le_trans (List.length_filter_le _ _) (len_K n hn.2 hn.1).1
  · intro x hx
    obtain ⟨t, ht, rfl⟩ := List.mem_map.1 hx
    exact leastK_ok hn (List.mem_filter.1 ht).1
  · intro x hx; cases hx
theorem allGames_ev {n : Nat} (hn : 1 ≤ n ∧ n < 5) : Ev (fun k => impl_allGames.f k n) ((gamesK n).map (mkG n)) := by
  have h := games_K n hn.2 hn.1
  cases e : impl_allGames.f 1200 n with
  | none => rw [e] at h; cases h
  | some gs =>
    rw [e] at h
    have h2 := Option.some.inj h
    have : gs = (gamesK n).map (mkG n) := by
      have h3 := congrArg (List.map fun (p : Int × List (List Int)) => (⟨p.1, p.2⟩ : S46)) h2
      rw [List.map_map, List.map_map] at h3
      rw [show (gs.map ((fun (p : Int × List (List Int)) => (⟨p.1, p.2⟩ : S46)) ∘ fun g => (g.f0, g.f1))) = gs from (List.map_congr_left (fun _ _ => rfl)).trans (List.map_id _)] at h3
      exact h3
    rw [← this]
    exact Ev.of (impl_allGames.mono _) e
theorem gamesK_mem {n : Nat} {s : List (List Int)} (h : s ∈ gamesK n) : ∃ t ∈ tabsK n, s = leastK t := by
  obtain ⟨t, ht, rfl⟩ := List.mem_map.1 ((sortL_perm lexG _).mem_iff.1 h)
  exact ⟨t, ht, rfl⟩
theorem gamesK_sets {n : Nat} (hn : 1 ≤ n ∧ n < 5) {s : List (List Int)} (h : s ∈ gamesK n) : s.length ≤ 1048576 ∧ SetsOk n s := by
  obtain ⟨t, ht, rfl⟩ := gamesK_mem h
  have h := sets_K n hn.2 hn.1 t ht
  exact ⟨Nat.le_trans h.1 (by decide), ⟨by omega, fun x hx => ⟨(h.2 x hx).1, Nat.le_trans (h.2 x hx).2 (by decide)⟩⟩⟩
theorem solP_ev {n : Nat} (hn : 1 ≤ n ∧ n < 5) (l : List S72) (hl : CluesOk n l) (s : List (List Int)) (hs : s ∈ gamesK n) : Ev (fun k => solP k l (mkG n s)) (!fitA n l (winT n s)) := by
  obtain ⟨h1, h2⟩ := gamesK_sets hn hs
  unfold solP
  refine Ev.bind (Game_votes_ev (n : Int) s h1 h2) ?_
  have e : (!fitA n l (winT n s)) = l.any fun c => !fitC n (winT n s) c := by
    unfold fitA; rw [List.not_all_eq_any_not]
  rw [e]
  refine ev_anyO _ _ l fun c hc => ?_
  obtain ⟨hk, hk2⟩ := clueOk_kind (hl c hc)
  have ht := told_ev n ⟨hn.1, by omega⟩ (fun i => (winT n s).getD i false) c.f0 c.f1 hk (clueOk_ask (hl c hc))
  rw [if_pos (show c.f0 = 0 ∨ c.f0 = 1 ∨ c.f0 = 2 ∨ c.f0 = 3 ∨ c.f0 = 4 ∨ c.f0 = 5 by omega), tab_self (winT n s) (by unfold winT; rw [tabB_len, Int.toNat_natCast])] at ht
  unfold impl_solutions_1_1.f
  refine Ev.bind ht (ev_eqv (Ev.now _) ?_)
  unfold fitC
  rw [Bool.eq_iff_iff]
  simp [Decidable.not_and_iff_or_not]
theorem filO_ev {α : Type} (p : Nat → α → Option Bool) (q : α → Bool) : ∀ l : List α, (∀ x ∈ l, Ev (fun k => p k x) (!q x)) → Ev (fun k => filO (p k) l) (l.filter q)
  | [], _ => Ev.now _
  | x :: xs, h => by
    unfold filO
    refine Ev.bind (h x (List.mem_cons_self ..)) (Ev.bind (filO_ev p q xs (fun y hy => h y (List.mem_cons_of_mem _ hy))) (ev_eqv (Ev.now _) ?_))
    cases e : q x
    · rw [List.filter_cons_of_neg (by rw [e]; decide)]; rfl
    · rw [List.filter_cons_of_pos e]; rfl
theorem solutions_ev {n : Nat} (hn : 1 ≤ n ∧ n < 5) (l : List S72) (hl : CluesOk n l) : Ev (fun k => impl_solutions.f k n l) ((solsK n l).map (mkG n)) := by
  unfold impl_solutions.f
  refine Ev.bind (allGames_ev hn) (ev_pos ?_ ?_)
  · rw [List.length_map]
    unfold gamesK
    rw [(sortL_perm lexG _).length_eq, List.length_map]
    exact (len_K n hn.2 hn.1).1
  · refine ev_eqv (filO_ev (fun k => solP k l) (fun g => fitA n l (winT n g.f1)) _ ?_) ?_
    · intro x hx
      obtain ⟨s, hs, rfl⟩ := List.mem_map.1 hx
      exact solP_ev hn l hl s hs
    · rw [List.filter_map]; rfl
def solsM (m : Int) (l : List S72) : List S46 := (solsK m.toNat l).map (mkG m.toNat)
theorem puzzleOk_nat {m : Int} {l : List S72} (h : puzzleOk m l = true) : ∃ n : Nat, m = (n : Int) ∧ (1 ≤ n ∧ n < 5) ∧ CluesOk n l ∧ l.length ≤ 8 := by
  unfold puzzleOk at h
  rw [Bool.and_eq_true, Bool.and_eq_true] at h
  have h1 := inB_iff.1 h.1
  have h2 := of_decide_eq_true h.2.1
  have h3 := List.all_eq_true.1 h.2.2
  obtain ⟨n, rfl⟩ := Int.eq_ofNat_of_zero_le (show 0 ≤ m by omega)
  exact ⟨n, rfl, by omega, fun c hc => h3 c hc, h2⟩
theorem sAll_ev {m : Int} {l l2 : List S72} (h : puzzleOk m l = true) (hs : ∀ c ∈ l2, c ∈ l) : Ev (fun k => spec_pzAll.f k m l2) (solsM m l2) := by
  obtain ⟨n, rfl, hn, hc, _⟩ := puzzleOk_nat h
  unfold solsM
  rw [Int.toNat_natCast]
  exact pzAll_ev hn l2 (fun c h => hc c (hs c h))
theorem iAll_ev {m : Int} {l l2 : List S72} (h : puzzleOk m l = true) (hs : ∀ c ∈ l2, c ∈ l) : Ev (fun k => impl_solutions.f k m l2) (solsM m l2) := by
  obtain ⟨n, rfl, hn, hc, _⟩ := puzzleOk_nat h
  unfold solsM
  rw [Int.toNat_natCast]
  exact solutions_ev hn l2 (fun c h => hc c (hs c h))
theorem Solutions_ev (m : Int) (l : List S72) : Ev (fun k => impl_Solutions.f k m l) (if puzzleOk m l = true then (solsM m l, true) else ([], false)) := by
  unfold impl_Solutions.f
  refine ev_bindS (IsPuzzle_eq m l) (ev_bool (fun h => ?_) (fun h => ?_))
  · rw [if_pos h]; exact Ev.bind (iAll_ev h (fun _ h => h)) (Ev.now _)
  · rw [if_neg (by rw [h]; decide)]; exact Ev.now _
def posS (x : List Int) : List (List Int) → Nat
  | [] => 0
  | y :: ys => if lexB y x = true then posS x ys + 1 else 0
theorem posS_cons (x y : List Int) (ys : List (List Int)) : posS x (y :: ys) = if lexB y x = true then posS x ys + 1 else 0 := rfl
theorem insS_pos (x : List Int) : ∀ l, l.take (posS x l) ++ [x] ++ l.drop (posS x l) = insL lexB x l
  | [] => rfl
  | y :: ys => by
    have ih := insS_pos x ys
    unfold posS insL
    by_cases h : lexB y x = true
    · simp only [if_pos h, List.take_succ_cons, List.drop_succ_cons, List.cons_append]; rw [ih]
    · simp only [if_neg h]; rfl
theorem rdN_get {xs : List (List Int)} {i : Nat} (h : i < xs.length) : rdOf [] xs (i : Int) = xs[i] := by unfold rdOf; rw [Int.toNat_natCast]; exact getD_get h
theorem voSorted_l1 (x : List Int) (x8 : List (List Int)) (x9 x10 : Int) (l r : List (List Int)) (hl : l.length ≤ 1048576) (hx : ∀ y ∈ l, y.length ≤ 1048576) (ih : Ev (fun k => spec_voSorted.l0 k (insL lexB x l) x8 x9 (wrap64 (x10 + 1))) r) :
    ∀ (d i : Nat), i + d = l.length → i + posS x (l.drop i) = posS x l → Ev (fun k => spec_voSorted.l1 k l x (i : Int) x8 x9 x10) r
  | 0, i, hi, hp => by
    have hi' : i = l.length := by omega
    have e : posS x l = i := by rw [← hp, hi', List.drop_length]; rfl
    have ih' := ih
    rw [← insS_pos, e] at ih'
    refine ev_succ ?_
    simp only [spec_voSorted.l1, Option.bind_some, List.nil_append, List.length_nil, Nat.zero_add, Int.toNat_natCast, List.length_append, List.length_take, List.length_drop, List.length_cons]
    exact ev_neg (by omega) (ev_pos (by omega) (ev_pos (by omega) (ev_pos (by omega) (ev_pos (by omega) (ev_pos (by omega) ih')))))
  | d + 1, i, hi, hp => by
    have hlt : i < l.length := by omega
    refine ev_succ ?_
    simp only [spec_voSorted.l1, Option.bind_some, List.nil_append, List.length_nil, Nat.zero_add, Int.toNat_natCast, List.length_append, List.length_take, List.length_drop, List.length_cons]
    rw [List.drop_eq_getElem_cons hlt] at hp
    refine ev_pos (by omega) (ev_pos (by omega) ?_)
    rw [rdN_get hlt]
    refine Ev.bind (voBefore_ev _ _ (Nat.le_trans (hx _ (List.getElem_mem hlt)) (by decide))) (ev_bool (fun e => ?_) (fun e => ?_))
    · rw [wrap_succ hlt (by omega)]
      rw [posS_cons, if_pos e] at hp
      exact voSorted_l1 x x8 x9 x10 l r hl hx ih d (i + 1) (by omega) (by rw [← hp]; omega)
    · have e2 : posS x l = i := by
        rw [← hp, posS_cons, if_neg (by rw [e]; decide)]; rfl
      have ih' := ih
      rw [← insS_pos, e2] at ih'
      exact ev_pos (by omega) (ev_pos (by omega) (ev_pos (by omega) (ev_pos (by omega) ih')))
theorem foldS_step (l : List (List Int)) (i : Nat) (h : i < l.length) : (l.take (i + 1)).foldl (fun out x => insL lexB x out) [] = insL lexB l[i] ((l.take i).foldl (fun out x => insL lexB x out) []) := by
  rw [List.take_succ_eq_append_getElem h, List.foldl_append]; rfl
theorem voSorted_ev (l : List (List Int)) (hl : l.length ≤ 1048576) (hx : ∀ y ∈ l, y.length ≤ 1048576) : Ev (fun k => spec_voSorted.f k l) (sortL lexB l) := by
  unfold spec_voSorted.f
  have := ev_range l.length (fun k i => spec_voSorted.l0 k ((l.take i).foldl (fun out x => insL lexB x out) []) l (l.length : Int) (i : Int)) (fun _ => sortL lexB l) ?_ ?_ 0 (Nat.zero_le _)
  · exact this
  · refine ev_succ ?_
    simp only [spec_voSorted.l0, List.take_length]
    exact ev_neg (by omega) (Ev.now _)
  · intro i hi ih
    refine ev_succ ?_
    simp only [spec_voSorted.l0]
    refine ev_pos (by omega) (ev_pos (by omega) (ev_pos (by omega) ?_))
    rw [rdN_get hi]
    have hp := foldl_perm lexB (l.take i) []
    rw [List.append_nil] at hp
    have hlen : ((l.take i).foldl (fun out x => insL lexB x out) []).length ≤ l.length := by rw [hp.length_eq, List.length_take]; omega
    have := voSorted_l1 l[i] l (l.length : Int) (i : Int) _ (sortL lexB l) (Nat.le_trans hlen hl) (fun y hy => hx y (List.mem_of_mem_take (hp.mem_iff.1 hy))) ?_ _ 0 (Nat.zero_add _) (by simp)
    · exact this
    · rw [wrap_succ hi (by omega), ← foldS_step l i hi]; exact ih
theorem rdGm_get {xs : List S46} {i : Nat} (h : i < xs.length) : rd_T46 xs (i : Int) = xs[i] := by unfold rd_T46; rw [Int.toNat_natCast]; exact getD_get h
def GmIn (m : Int) (gs : List S46) : Prop := ∀ g ∈ gs, g.f0 = m ∧ g.f1.length ≤ 1048576 ∧ SetsOk m g.f1
def surB (gs : List S46) (win : Bool) (b : Nat) : Bool := gs.all fun g => winB g.f1 b == win
theorem tab_drop (g : Nat → Bool) (N i : Nat) (h : i < N) : (tabB g N).drop i = g i :: (tabB g N).drop (i + 1) := by
  rw [List.drop_eq_getElem_cons (by rw [tabB_len]; exact h), tabB_get]
theorem surB_step (gs : List S46) (win : Bool) (i : Nat) (h : i < gs.length) (b : Nat) : surB (gs.take (i + 1)) win b = (surB (gs.take i) win b && (winB gs[i].f1 b == win)) := by
  unfold surB
  rw [List.take_succ_eq_append_getElem h, List.all_append, List.all_cons, List.all_nil, Bool.and_true]
theorem pzSure_l3 (q : Nat → Bool) (N : Nat) (hN : N ≤ 512) : Ev (fun k => spec_pzSure.l3 k [] (tabB q N) ((tabB q N).length : Int) 0) (sortL lexB (setsM q N), true) := by
  rw [tabB_len]
  refine ev_range N (fun k i => spec_pzSure.l3 k (setsM q i) (tabB q N) (N : Int) (i : Int)) (fun _ => (sortL lexB (setsM q N), true)) ?_ ?_ 0 (Nat.zero_le _)
  · refine ev_succ ?_
    simp only [spec_pzSure.l3]
    exact ev_neg (by omega) (Ev.bind (voSorted_ev _ (Nat.le_trans (setsM_len q N) (by omega)) (fun y hy => Nat.le_trans (setsM_mem hy) (by decide))) (Ev.now _))
  · intro i hi ih
    refine ev_succ ?_
    simp only [spec_pzSure.l3, tabB_len]
    rw [wrap_succ hi (by omega), rdOf_tab hi]
    rw [setsM_succ] at ih
    refine ev_pos (by omega) (ev_pos (by omega) (ev_pos (by omega) (ev_bool (fun e => ?_) (fun e => ?_))))
    · rw [if_pos e] at ih
      exact Ev.bind (voList_ev i (by omega)) (ev_pos (by have := setsM_len q i; omega) ih)
    · rw [if_neg (by rw [e]; decide), List.append_nil] at ih
      exact ih
theorem pzSure_l2 (x1 : Bool) (old t : Nat → Bool) (N : Nat) (hN : N ≤ 512) (x40 : List S46) (x41 x42 : Int) (r : List (List Int) × Bool) (ih : Ev (fun k => spec_pzSure.l1 k x1 (tabB (fun b => old b && (t b == x1)) N) x40 x41 (wrap64 (x42 + 1))) r) :
    Ev (fun k => spec_pzSure.l2 k x1 (tabB old N) x40 x41 x42 (tabB t N) ((tabB t N).length : Int) 0) r := by
  rw [tabB_len]
  refine ev_range N (fun k j => spec_pzSure.l2 k x1 (tabB (fun b => old b && (t b == x1)) j ++ (tabB old N).drop j) x40 x41 x42 (tabB t N) (N : Int) (j : Int)) (fun _ => r) ?_ ?_ 0 (Nat.zero_le _)
  · refine ev_succ ?_
    simp only [spec_pzSure.l2]
    rw [List.drop_of_length_le (by rw [tabB_len]; exact Nat.le_refl _), List.append_nil]
    exact ev_neg (by omega) ih
  · intro j hj ih
    rw [tab_drop old N j hj]
    refine ev_succ ?_
    simp only [spec_pzSure.l2, Int.toNat_natCast, tabB_set, tabB_rd, tabB_len, List.length_append, List.length_cons, List.length_drop]
    rw [wrap_succ hj (by omega), rdOf_tab hj]
    rw [← tabB_next] at ih
    refine ev_pos (by omega) (ev_pos (by omega) (ev_pos (by omega) (ev_pos (by omega) (ev_bool (fun e => ?_) (fun e => ?_)))))
    · simpa [e] using ih
    · simpa [e] using ih
theorem pzSure_l1 (m : Int) (n : Nat) (hm : m = (n : Int)) (win : Bool) (gs : List S46) (hg : GmIn m gs) (hl : gs.length ≤ 1048576) (hN : 2 ^ n ≤ 512) :
    Ev (fun k => spec_pzSure.l1 k win (tabB (fun _ => true) (2 ^ n)) gs (gs.length : Int) 0) (sortL lexB (setsM (surB gs win) (2 ^ n)), true) := by
  refine ev_range gs.length (fun k i => spec_pzSure.l1 k win (tabB (surB (gs.take i) win) (2 ^ n)) gs (gs.length : Int) (i : Int)) (fun _ => (sortL lexB (setsM (surB gs win) (2 ^ n)), true)) ?_ ?_ 0 (Nat.zero_le _)
  · refine ev_succ ?_
    simp only [spec_pzSure.l1, List.take_length]
    exact ev_neg (by omega) (pzSure_l3 _ _ hN)
  · intro i hi ih
    refine ev_succ ?_
    simp only [spec_pzSure.l1]
    rw [rdGm_get hi]
    obtain ⟨h0, h1, h2⟩ := hg _ (List.getElem_mem hi)
    refine ev_pos (by omega) (ev_pos (by omega) (ev_pos (by omega) ?_))
    rw [h0]
    refine Ev.bind (show Ev (fun k => spec_gmAll.f k m gs[i].f1) (tabB (winB gs[i].f1) (2 ^ n)) from ?_) ?_
    · unfold spec_gmAll.f
      refine Ev.bind (gmWins_ev m gs[i].f1 h1 h2) (ev_eqv (Ev.now _) ?_)
      subst hm
      unfold winT
      rw [Int.toNat_natCast]
    · refine pzSure_l2 win _ _ _ hN gs _ _ _ ?_
      rw [wrap_succ hi (by omega)]
      refine ev_eqv ?_ rfl
      have e : (fun b => surB (gs.take i) win b && (winB gs[i].f1 b == win)) = surB (gs.take (i + 1)) win := funext fun b => (surB_step gs win i hi b).symm
      rw [e]; exact ih
theorem pzSure_l0 (win : Bool) (gs : List S46) (N : Nat) (hN : N ≤ 512) (r : List (List Int) × Bool) (ih : Ev (fun k => spec_pzSure.l1 k win (tabB (fun _ => true) N) gs (gs.length : Int) 0) r) :
    Ev (fun k => spec_pzSure.l0 k win gs (List.replicate N false) ((List.replicate N false).length : Int) 0) r := by
  rw [List.length_replicate]
  refine ev_range N (fun k j => spec_pzSure.l0 k win gs (tabB (fun _ => true) j ++ List.replicate (N - j) false) (N : Int) (j : Int)) (fun _ => r) ?_ ?_ 0 (Nat.zero_le _)
  · refine ev_succ ?_
    simp only [spec_pzSure.l0]
    rw [Nat.sub_self, List.replicate_zero, List.append_nil]
    exact ev_neg (by omega) ih
  · intro j hj ih
    rw [show N - j = (N - (j + 1)) + 1 by omega, List.replicate_succ]
    refine ev_succ ?_
    simp only [spec_pzSure.l0, Int.toNat_natCast, tabB_set, tabB_len, List.length_append, List.length_cons, List.length_replicate]
    rw [wrap_succ hj (by omega)]
    rw [← tabB_next] at ih
    exact ev_pos (by omega) (ev_pos (by omega) (ev_pos (by omega) ih))
def voOf (g : S46) : S86 := ⟨g.f0, winT g.f0 g.f1⟩
theorem sureP_eq (m : Int) (n : Nat) (hm : m = (n : Int)) (win : Bool) (gs : List S46) (hg : GmIn m gs) (b : Nat) (hb : b < 2 ^ n) : sureP (gs.map voOf) win (b : Int) = some (surB gs win b) := by
  unfold sureP
  rw [anyO_some (q := fun v => rdOf false v.f1 (b : Int) != win)]
  · rw [Option.bind_some]
    congr 1
    unfold surB
    rw [List.any_map, List.not_any_eq_all_not]
    rw [Bool.eq_iff_iff, List.all_eq_true, List.all_eq_true]
    refine forall_congr' fun g => forall_congr' fun hgm => ?_
    have h0 := (hg g hgm).1
    show (!(rdOf false (winT g.f0 g.f1) (b : Int) != win)) = true ↔ _
    unfold winT
    rw [h0, hm, Int.toNat_natCast, rdOf_tab hb]
    cases winB g.f1 b <;> cases win <;> simp
  · intro v hv
    obtain ⟨g, hgm, rfl⟩ := List.mem_map.1 hv
    have h0 := (hg g hgm).1
    unfold impl_sure_1_1.f
    rw [if_pos (by omega), if_pos]
    show (b : Int) < ((winT g.f0 g.f1).length : Int)
    unfold winT
    rw [tabB_len, h0, hm, Int.toNat_natCast]
    omega
theorem sure_l0 (m : Int) (n : Nat) (hm : m = (n : Int)) (hN : 2 ^ n ≤ 512) (win : Bool) (gs : List S46) (hg : GmIn m gs) (hl : gs.length ≤ 1048576) (h0 : 0 < gs.length) :
    Ev (fun k => impl_sure.l0 k gs (gs.length : Int) 0 win []) (sortL lexB (setsM (surB gs win) (2 ^ n)), true) := by
  refine ev_range gs.length (fun k i => impl_sure.l0 k gs (gs.length : Int) (i : Int) win ((gs.take i).map voOf)) (fun _ => (sortL lexB (setsM (surB gs win) (2 ^ n)), true)) ?_ ?_ 0 (Nat.zero_le _)
  · refine ev_succ ?_
    simp only [impl_sure.l0, List.take_length, List.length_map]
    refine ev_neg (by omega) (ev_pos (by omega) ?_)
    have e : rd_T86 (gs.map voOf) 0 = voOf gs[0] := by
      unfold rd_T86
      show (gs.map voOf).getD 0 _ = _
      rw [getD_get (by rw [List.length_map]; exact h0), List.getElem_map]
    rw [e]
    refine Ev.bind ?_ (Ev.now _)
    unfold setsSure.f
    refine sets_fix _ _ (2 ^ n) ?_ hN _ (surB gs win) (fun b hb => sureP_eq m n hm win gs hg b hb)
    show (winT gs[0].f0 gs[0].f1).length = _
    unfold winT
    rw [tabB_len, (hg _ (List.getElem_mem h0)).1, hm, Int.toNat_natCast]
  · intro i hi ih
    refine ev_succ ?_
    simp only [impl_sure.l0]
    rw [rdGm_get hi]
    obtain ⟨h0, h1, h2⟩ := hg _ (List.getElem_mem hi)
    refine ev_pos (by omega) (ev_pos (by omega) (ev_pos (by omega) (Ev.bind (Game_votes_ev gs[i].f0 gs[i].f1 h1 (by rw [h0]; exact h2)) (ev_pos (by rw [List.length_map, List.length_take]; omega) ?_))))
    rw [wrap_succ hi (by omega)]
    rw [List.take_succ_eq_append_getElem hi, List.map_append] at ih
    exact ih
def sureM (m : Int) (l : List S72) (win : Bool) : List (List Int) × Bool := if puzzleOk m l = true then (if (solsM m l).length = 0 then ([], false) else (sortL lexB (setsM (surB (solsM m l) win) (2 ^ m.toNat)), true)) else ([], false)
theorem solsM_in {m : Int} {l : List S72} (h : puzzleOk m l = true) : GmIn m (solsM m l) ∧ (solsM m l).length ≤ 1000000 := by
  obtain ⟨n, rfl, hn, _, _⟩ := puzzleOk_nat h
  unfold solsM
  rw [Int.toNat_natCast]
  refine ⟨fun g hg => ?_, ?_⟩
  · obtain ⟨s, hs, rfl⟩ := List.mem_map.1 hg
    obtain ⟨h1, h2⟩ := gamesK_sets hn (List.mem_filter.1 hs).1
    exact ⟨rfl, h1, h2⟩
  · rw [List.length_map]
    unfold solsK
    refine Nat.le_trans (List.length_filter_le _ _) ?_
    unfold gamesK
    rw [(sortL_perm lexG _).length_eq, List.length_map]
    exact (len_K n hn.2 hn.1).1
theorem pzSure_ev (m : Int) (l : List S72) (win : Bool) : Ev (fun k => spec_pzSure.f k m l win) (sureM m l win) := by
  unfold spec_pzSure.f sureM
  refine Ev.bind (pzGood_ev m l) (ev_bool (fun h => ?_) (fun h => ?_))
  · rw [if_pos h]
    obtain ⟨hg, hl⟩ := solsM_in h
    have hn := puzzleOk_nat h
    obtain ⟨n, rfl, hn, _, _⟩ := hn
    have hN : 2 ^ n ≤ 512 := Nat.le_trans (Nat.pow_le_pow_right (n := 2) (by decide) (show n ≤ 4 by omega)) (by decide)
    refine Ev.bind (sAll_ev h (fun _ h => h)) ?_
    by_cases h0 : (solsM (n : Int) l).length = 0
    · rw [if_pos h0]
      exact ev_pos (by omega) (Ev.now _)
    · rw [if_neg h0]
      refine ev_neg (by omega) (ev_pos (by omega) ?_)
      rw [shl_one_nat n (by omega), Int.toNat_natCast, Int.toNat_natCast]
      refine ev_pos (Int.natCast_nonneg _) (ev_pos (by omega) (ev_bindS rfl ?_))
      exact pzSure_l0 win _ _ hN _ (pzSure_l1 _ n rfl win _ hg (by omega) hN)
  · rw [if_neg (by rw [h]; decide)]; exact Ev.now _
theorem sure_ev (m : Int) (l : List S72) (win : Bool) : Ev (fun k => impl_sure.f k m l win) (sureM m l win) := by
  unfold impl_sure.f sureM
  refine Ev.bind (Solutions_ev m l) ?_
  by_cases h : puzzleOk m l = true
  · rw [if_pos h, if_pos h]
    obtain ⟨hg, hl⟩ := solsM_in h
    obtain ⟨n, rfl, hn, _, _⟩ := puzzleOk_nat h
    have hN : 2 ^ n ≤ 512 := Nat.le_trans (Nat.pow_le_pow_right (n := 2) (by decide) (show n ≤ 4 by omega)) (by decide)
    refine ev_pos (by simp) (ev_succ ?_)
    simp only [impl_sure.j0]
    by_cases h0 : (solsM (n : Int) l).length = 0
    · rw [if_pos h0]
      exact ev_pos (by rw [beq_iff_eq]; omega) (Ev.now _)
    · rw [if_neg h0]
      refine ev_neg (by rw [beq_iff_eq]; omega) ?_
      rw [Int.toNat_natCast]
      exact sure_l0 _ n rfl hN win _ hg (by omega) (by omega)
  · rw [if_neg h, if_neg h]
    refine ev_neg (by simp) (ev_succ ?_)
    simp only [impl_sure.j0]
    exact ev_pos (by simp) (Ev.now _)
theorem sureM_ok (m : Int) (l : List S72) (win : Bool) : (sureM m l win).1.length ≤ 512 ∧ ∀ x ∈ (sureM m l win).1, x.length ≤ 16 := by
  unfold sureM
  split
  · rename_i h
    split
    · simp
    · obtain ⟨n, rfl, hn, _, _⟩ := puzzleOk_nat h
      rw [Int.toNat_natCast]
      have hp := sortL_perm lexB (setsM (surB (solsM (n : Int) l) win) (2 ^ n))
      have h4 : 2 ^ n ≤ 16 := Nat.pow_le_pow_right (n := 2) (by decide) (show n ≤ 4 by omega)
      refine ⟨?_, fun x hx => setsM_mem (hp.mem_iff.1 hx)⟩
      show (sortL lexB _).length ≤ 512
      rw [hp.length_eq]
      exact Nat.le_trans (setsM_len _ _) (by omega)
  · simp
theorem FnExactSureLosses_pure (a0_0 : Int) (l0_1 : List S79) (g0 : I64 a0_0 ∧ ∀ y ∈ l0_1, I64 y.f0 ∧ I64 y.f1 ∧ I64 y.f2) (hl : l0_1.length ≤ 9223372036854775807) : ∃ k, laws_FnExactSureLosses.f k a0_0 l0_1 = some true := by
  refine Ev.rounds ?_
  unfold laws_FnExactSureLosses.f
  obtain ⟨q, hq, hq2⟩ := szPuzzle_eq a0_0 l0_1 1048576 (by decide) hl
  refine ev_bindS hq ?_
  by_cases h : q < 0
  · exact ev_pos h (Ev.now _)
  have hn := hq2 h
  refine ev_neg h ?_
  have ht := toPuzzle_ev a0_0 l0_1 (by omega)
  have hm : (l0_1.map clueI).length ≤ 1152921504606 := by rw [List.length_map]; omega
  have es : Ev (fun k => spec_SureLosses.f k a0_0 (l0_1.map clueI)) (sureM a0_0 (l0_1.map clueI) false) := by
    unfold spec_SureLosses.f
    exact Ev.bind (pzSure_ev _ _ _) (Ev.now _)
  have ei : Ev (fun k => impl_SureLosses.f k a0_0 (l0_1.map clueI)) (sureM a0_0 (l0_1.map clueI) false) := by
    unfold impl_SureLosses.f
    exact Ev.bind (sure_ev _ _ _) (Ev.now _)
  obtain ⟨h1, h2⟩ := sureM_ok a0_0 (l0_1.map clueI) false
  generalize sureM a0_0 (l0_1.map clueI) false = r at es ei h1 h2
  have h3 := totS_ge r.1 1
  have eq := eqSS_ev r.1 r.1 (by omega) (fun x hx => Nat.le_trans (h2 x hx) (by decide))
  have ep := eqPuzzle_ev a0_0 a0_0 (l0_1.map clueI) (l0_1.map clueI) hm
  refine Ev.bind ht (Ev.bind es (Ev.bind ei (Ev.bind eq (ev_pos (by simp) (ev_pos rfl (Ev.bind ep (ev_pos (by simp) (Ev.bind (markPuzzle_ev _ _ hm) (ev_neg (by simp only []; omega) ?_)))))))))
  exact Ev.bind (markIntSS_ev r.1 (by omega) (fun x hx => Nat.le_trans (h2 x hx) (by decide))) (Ev.bind (heldIntSS_ev r.1 (by omega) (fun x hx => Nat.le_trans (h2 x hx) (by decide))) (ev_neg (by omega) (ev_pos rfl (Ev.now _))))
end Go.Proofs.YtgjakcpbfbfejaaGreat.Q
end
section
namespace Go.Proofs.YtgjakcpbfbfejaaGreat.Q
open Go.RowKit Go.Proofs.YtgjakcpbfbfejaaGreatW.PrintWords Go.Proofs.YtgjakcpbfbfejaaGreatW.PrintLast Go.Proofs.YtgjakcpbfbfejaaGreatW.PrintMore
set_option linter.unusedVariables false
set_option linter.unusedSimpArgs false
set_option maxRecDepth 100000
section
variable {H : Type} {enc : TypeId × Value → H} {W : World}
instance : Inhabited S79 := ⟨z79⟩
theorem opens_Clue : Opens enc Tryz.prog W 79 k79 (fun x => I64 x.f0 ∧ I64 x.f1 ∧ I64 x.f2) :=
  opens_iso _ (fun x => ⟨x.1, x.2.1, x.2.2⟩) (fun _ => rfl) (opens_triple Tryz.underlying79 (by kernel_rfl) rfl rfl rfl (by kernel_rfl) (by kernel_rfl) (by kernel_rfl) (opens_int Tryz.underlying3) (opens_int Tryz.underlying3) (opens_int Tryz.underlying3))
theorem opens_Puzzle : Opens enc Tryz.prog W 24 (Kd.pair (Kd.int .i64) (Kd.slice 79 k79)) (fun x => I64 x.1 ∧ ∀ y ∈ x.2, I64 y.f0 ∧ I64 y.f1 ∧ I64 y.f2) :=
  opens_pair Tryz.underlying24 (by kernel_rfl) rfl rfl (by kernel_rfl) (by kernel_rfl) (opens_int Tryz.underlying3) (opens_slice Tryz.underlying22 (by kernel_rfl) opens_Clue)
end
open Go.ChangeShapes Go.WideShapes Go.ChangeAt Go.Deep
section
variable {H : Type} {enc : TypeId × Value → H} {W : World} {r : Reach} {b0 : Nat} {v : Value} {y : DataW H} {p : List MemPlace}
theorem arg_Puzzle (hv : Value.okWide Tryz.prog W r b0 24 v) (hr : DataW.Trod enc Tryz.prog W 0 (fun _ => true) true 24 v y p) :
    ∃ a A c l, v = .agg #[.int .i64 a, .slice A (l : List S79).length c] ∧ l.length ≤ c ∧ Kd.C k79 W A l.length l ∧ I64 a ∧ ∀ y ∈ l, I64 y.f0 ∧ I64 y.f1 ∧ I64 y.f2 := by
  obtain ⟨x, ⟨l⟩, rfl, k, g⟩ := open_struct Tryz.underlying24 hv hr opens_Puzzle
  obtain ⟨_, _, rfl, rfl, ⟨A, c, rfl, hl, hC⟩⟩ := k
  exact ⟨_, A, c, _, rfl, hl, hC, g⟩
end
end Go.Proofs.YtgjakcpbfbfejaaGreat.Q
end
section
namespace Go.Proofs.YtgjakcpbfbfejaaGreat.fnExactSureLosses
open Go.ChangeShapes Go.WideShapes Go.ChangeAt Go.RowKit Go.Proofs.YtgjakcpbfbfejaaGreat.Q
open Go.ChangeMaps (open_string shut_string)
set_option linter.unusedVariables false
theorem own : ownKnob Tryz.prog.godebug = none := by kernel_rfl
theorem laidOut : laidOutB Tryz.prog = true := by kernel_rfl
set_option maxRecDepth 100000 in
theorem lifted (os : Os) (started : os.Started) (H : Type) (enc : TypeId × Value → H) :
    ReturnsInHanded {} Tryz.checked os 11 .any (Rows.fnExactSureLossesSpec.pre6 enc Tryz.prog Tryz.f11 Rows.fnExactSureLossesRow.domain false) (Rows.fnExactSureLossesSpec.post enc Tryz.prog Tryz.f11 false true false false) := by
  refine returnsInHanded_of_change_sized (C := Tryz.checked) own started (by kernel_rfl) Tryz.func11
    (ChangeSpec.witness6 (enc := enc) (C := Tryz.checked) false ⟨#[], #[.agg #[.int .i64 0, .slice none 0 0]], []⟩ 8 (by kernel_rfl) (by kernel_rfl) (by kernel_rfl) (by kernel_rfl)) ?_
  intro W base args ds gs before hval0 hW hcnd hsz0 _
  have hsz : (DataW.weightsEach Tryz.prog (Tryz.f11.params.toList ++ Rows.fnExactSureLossesSpec.plain.varTypes Tryz.prog) (ds ++ gs)).all (· ≤ reachBytes) = true := hsz0
  have hval : ∀ (j : Nat) t v, Tryz.f11.params[j]? = some t → args[j]? = some v → Value.okWide Tryz.prog W .any base t v := hval0
  have hW' := hW
  obtain ⟨p, q, hA0, hV, rfl, hfz, hnd⟩ := hW
  have hA : DataW.TrodAll enc Tryz.prog W 0 (fun _ => true) true Tryz.f11.params.toList args.toList ds p := hA0
  rw [Tryz.params11] at hA hval hsz
  obtain ⟨v0, vs0, d0, ds0, p0, q0, hargs, rfl, rfl, h0, r0⟩ := trodAll_cons hA
  obtain ⟨rfl, rfl, rfl⟩ := trodAll_nil r0
  obtain rfl : args = #[v0] := by cases args; simp_all
  obtain ⟨rfl, rfl⟩ := trodVars_none hV
  have k0 := h0
  have lt0 : ∀ x ∈ p0, x.block < W.heap.size := by obtain ⟨m, hm⟩ := k0; exact DataW.trod_lt m _ _ _ hm
  obtain ⟨a0_0, A0_1, c0_1, l0_1, rfl, hc0_1, hr0_1, g0⟩ := arg_Puzzle (hval 0 24 v0 rfl rfl) h0
  clear hA0 hval0 hsz0 hsz
  obtain ⟨k, hk⟩ := FnExactSureLosses_pure a0_0 l0_1 g0 hr0_1.2.1
  refine (laws_FnExactSureLosses.calls k a0_0 A0_1 c0_1 l0_1 true W hr0_1 hc0_1 hk).mono fun e W' ⟨he, bel⟩ => ?_
  subst he
  exact ⟨_, rfl, _, _, _, [], _, [], hW', trodAll_mk1 (shut_bool Tryz.underlying4 _), (trodAll_cons_mk (Below.trod laidOut (by kernel_rfl) (of_decide_eq_true (by kernel_rfl)) k0 bel lt0) trodAll_mk0), rfl, bel.frame _, fun h => by cases h⟩
theorem over : Rows.fnExactSureLossesRow.holds Tryz.pinned (OpenSpec.ofChange Rows.fnExactSureLossesSpec) :=
  OpenClaim.holds_of_wide 11 Tryz.f11 rfl rfl rfl rfl rfl rfl rfl ⟨rfl, rfl, rfl, rfl, rfl⟩ rfl rfl rfl rfl rfl (by kernel_rfl) Tryz.func11 (by kernel_rfl)
    (of_decide_eq_true (by kernel_rfl)) (by unfold Func.isWrapper; first | (rw [if_pos (by decide +kernel)]; kernel_rfl) | (rw [if_neg (by decide +kernel)]; exact ⟨rfl, rfl⟩))
    (fun os started H enc _ => lifted os started H enc)
theorem proved : Rows.FnExactSureLossesSaid := over
end Go.Proofs.YtgjakcpbfbfejaaGreat.fnExactSureLosses
namespace Go.Proofs.YtgjakcpbfbfejaaGreat
theorem fnExactSureLosses_holds : Rows.FnExactSureLossesSaid := fnExactSureLosses.proved
end Go.Proofs.YtgjakcpbfbfejaaGreat
end
#print axioms Go.Proofs.YtgjakcpbfbfejaaGreat.fnExactSureLosses_holds

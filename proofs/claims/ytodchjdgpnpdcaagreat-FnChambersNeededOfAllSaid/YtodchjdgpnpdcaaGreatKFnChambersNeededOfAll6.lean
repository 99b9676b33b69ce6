/- Part 6 of the proof of FnChambersNeededOfAll: what it leans on (no condition). -/
import Derived.Test.YtodchjdgpnpdcaaGreatKFnChambersNeededOfAll5
import Derived.ProofKit
import Derived.OpenShut
import Derived.ShutString
import Derived.ChangeOld
import Derived.SizedLaws
import Derived.Deep.Slices
import Derived.Deep.Strs
section
namespace Go.Proofs.YtodchjdgpnpdcaaGreat.Q
open Go.RowKit Go.Proofs.YtodchjdgpnpdcaaGreatW.PrintWords Go.Proofs.YtodchjdgpnpdcaaGreatW.PrintLast Go.Proofs.YtodchjdgpnpdcaaGreatW.PrintMore
attribute [local go_sem] Xm Um Pp Qp ql yl Gm Mm
set_option linter.unusedVariables false
set_option linter.unusedSimpArgs false
set_option maxHeartbeats 8000000
set_option maxRecDepth 100000
section
mutual
def Ga.l0 : Nat → List (S62) → List Int → Int → List (S24) → Int → Int → Int → List Bool → Option ((List (S62)))
 | 0, _, _, _, _, _, _, _, _ => none
 | k + 1, x3, x4, x5, x24, x25, x26, x440000, x440001 => if x26 < x25 then (if 0 ≤ x26 then (if x26 < (x24.length : Int) then ((Gc.f k ((Pf x24 x26).f0) ((Pf x24 x26).f1)).bind fun bt452 => ((Xc.f k bt452.1 bt452.2).bind fun t457 => (if (Go.bits .and .i64 t457 x5) = x5 then ((Bb.f k bt452.1 bt452.2).bind fun bt458 => (if bt458.2.2 = true then (Ga.l0 k x3 x4 x5 x24 x25 (wrap64 (x26 + 1)) x440000 x440001) else (if x3.length < 4398046511104 then (if x4.length < 17592186044416 then (Ga.l0 k (x3 ++ [(⟨bt452.1, bt452.2⟩ : S62)]) (x4 ++ [t457]) x5 x24 x25 (wrap64 (x26 + 1)) x440000 x440001) else (none)) else (none)))) else (Ga.l0 k x3 x4 x5 x24 x25 (wrap64 (x26 + 1)) x440000 x440001)))) else (none)) else (none)) else (Ga.l1 k x3 x4 x5 1 x440000 x440001)
def Ga.l1 : Nat → List (S62) → List Int → Int → Int → Int → List Bool → Option ((List (S62)))
 | 0, _, _, _, _, _, _ => none
 | k + 1, x3, x4, x5, x12, x440000, x440001 => (Od.f k x4 0 x12 (wrap64 ((shl .i64 1 (x440001.length : Int)) - 1)) x5).bind fun bt472 => (if bt472.2 = true then (Ga.l2 k x3 (([] : List (S62))) bt472.1 (bt472.1.length : Int) 0) else (Ga.l1 k x3 x4 x5 (wrap64 (x12 + 1)) x440000 x440001))
def Ga.l2 : Nat → List (S62) → List (S62) → List Int → Int → Int → Option ((List (S62)))
 | 0, _, _, _, _, _ => none
 | k + 1, x3, x15, x72, x73, x74 => if x74 < x73 then (if 0 ≤ x74 then (if x74 < (x72.length : Int) then (if 0 ≤ (rd x72 x74) then (if (rd x72 x74) < (x3.length : Int) then (if x15.length < 4398046511104 then (Ga.l2 k x3 (x15 ++ [(⟨(Oe x3 (rd x72 x74)).f0, (Oe x3 (rd x72 x74)).f1⟩ : S62)]) x72 x73 (wrap64 (x74 + 1))) else (none)) else (none)) else (none)) else (none)) else (none)) else (some x15)
end
def Ga.f (k : Nat) (a0_0 : Int) (l0_1 : List Bool) : Option ((List (S62))) := (Xc.f k a0_0 l0_1).bind fun t446 => ((Fa.f k a0_0).bind fun t447 => (Ga.l0 k (([] : List (S62))) (([] : List Int)) t446 t447 (t447.length : Int) 0 a0_0 l0_1))
structure Cn (gb b0 b1 : Nat) (X : Array Value) (Ag : Option Addr) (gl : List S24) (u wr : World) (u3 u4 : Value) (x3 : List S62) (x4 : List Int) : Prop where
 N3 : Kd.N k62 62 wr u.heap.size (fun z => u.heap.size ≤ z ∧ z ≠ gb ∧ some z ≠ u4.ownBlock ∧ (z < b0 ∨ b1 ≤ z)) u3 x3
 R4 : Kd.R (Kd.int .i64) 3 wr u.heap.size (fun z => z ≠ gb ∧ (z < b0 ∨ b1 ≤ z)) u4 x4
 F5 : Kd.F k24 wr (fun z => b0 ≤ z ∧ z < b1) Ag gl.length gl
 X : wr.heap[gb]? = some (.cells X 62 (0, 0))
 B : Below u.heap.size u wr
 W : b1 ≤ wr.heap.size
section
variable {gb b0 b1 : Nat} {X : Array Value} {Ag : Option Addr} {gl : List S24} {u W w1 : World} {u3 u4 v3 v4 : Value} {x3 y3 : List S62} {x4 y4 : List Int}
theorem Cn.below (h : Cn gb b0 b1 X Ag gl u W u3 u4 x3 x4) (hb : Below W.heap.size W w1) : Cn gb b0 b1 X Ag gl u w1 u3 u4 x3 x4 :=
 ⟨Kd.N_below h.N3 hb, Kd.R_below h.R4 hb, Kd.F_below h.F5 hb, Na h.X hb, h.B.trans (hb.mono h.B.size), Nat.le_trans h.W hb.size⟩
theorem Cn.app3 (h : Cn gb b0 b1 X Ag gl u W u3 u4 x3 x4) (hN : Kd.N k62 62 w1 u.heap.size (fun z => u.heap.size ≤ z ∧ z ≠ gb ∧ some z ≠ u4.ownBlock ∧ (z < b0 ∨ b1 ≤ z)) v3 y3) (hb : Below u.heap.size W w1) (hg : W.grownBy w1 u3.ownBlock) : Cn gb b0 b1 X Ag gl u w1 v3 u4 y3 x4 :=
 ⟨hN, Kd.R_mono (Kd.R_step (Kd.R_apart' h.R4 (Kd.N_typed h.N3) (by decide)) (fun z hz hlt => hg.block z hlt hz.2)) (fun _ hz => hz.1),
  Kd.F_step h.F5 (fun z hz hlt => hg.block z hlt (fun he => by have := (h.N3.1 z he.symm).2.2.2; omega)), Qe h.X hg (Kd.N_away h.N3 (fun z hz => hz.2.1)), h.B.trans hb, Nat.le_trans h.W hb.size⟩
theorem Cn.app4 (h : Cn gb b0 b1 X Ag gl u W u3 u4 x3 x4) (hR : Kd.R (Kd.int .i64) 3 w1 u.heap.size (fun z => z ≠ gb ∧ (z < b0 ∨ b1 ≤ z)) v4 y4) (hb : Below u.heap.size W w1) (hg : W.grownBy w1 u4.ownBlock) (hat : v4.ownBlock = u4.ownBlock ∨ ∃ b, v4.ownBlock = some b ∧ W.heap.size ≤ b) : Cn gb b0 b1 X Ag gl u w1 u3 v4 x3 y4 :=
 ⟨Kd.N_mono (Kd.N_step (Kd.N_bound h.N3) (fun z hz hlt => hg.block z hlt hz.1.2.2.1)) (fun z hz => ⟨hz.1.1, hz.1.2.1, fun he => by
  rcases hat with ha | ⟨b, ha, hle⟩
  ·exact hz.1.2.2.1 (he.trans ha)
  ·rw [ha] at he; injection he with he; have := hz.2; omega, hz.1.2.2.2⟩), hR,
  Kd.F_step h.F5 (fun z hz hlt => hg.block z hlt (fun he => by have := (h.R4.1 z he.symm).2; omega)), Qe h.X hg (fun he => (h.R4.1 gb he.symm).1 rfl), h.B.trans hb, Nat.le_trans h.W hb.size⟩
end
theorem Cn.fresh {gb b0 b1 : Nat} {X : Array Value} {Ag : Option Addr} {gl : List S24} {u W : World} {u3 u4 : Value} {x3 : List S62} {x4 : List Int} (h : Cn gb b0 b1 X Ag gl u W u3 u4 x3 x4) (z : Nat) (hz : W.heap.size ≤ z) : (u.heap.size ≤ z ∧ z ≠ gb ∧ some z ≠ u4.ownBlock ∧ (z < b0 ∨ b1 ≤ z)) ∧ some z ≠ u3.ownBlock := by
 have h1 := h.B.size;have h2 := Lf h.X;have h3 := h.W;exact ⟨⟨by omega, by omega, fun he => by have := Kd.R_lt h.R4 z he.symm; omega, by omega⟩, fun he => by have := Kd.N_lt h.N3 z he.symm; omega⟩
theorem WL {n : Nat} (h : n < 4398046511104) : (n + 1) * 32 ≤ 140737488355328 := by omega
theorem len8 {n : Nat} (h : n < 17592186044416) : (n + 1) * 8 ≤ 140737488355328 := by omega
theorem QF {u v : Value} {D : Nat} {W : World} (h : ∀ z, u.ownBlock = some z → D ≤ z) (hat : v.ownBlock = u.ownBlock ∨ ∃ b, v.ownBlock = some b ∧ W.heap.size ≤ b) (hW : D ≤ W.heap.size) : ∀ z, v.ownBlock = some z → D ≤ z := fun z he => by
 rcases hat with ha | ⟨b, ha, hle⟩
 ·exact h z (ha ▸ he)
 ·rw [ha] at he; injection he with he; omega
theorem Nv {u : Value} {B D : Nat} {W w1 : World} (hb : Below B W w1) (hg : W.grownBy w1 u.ownBlock) (h : ∀ z, u.ownBlock = some z → D ≤ z) (hW : D ≤ W.heap.size) : Below D W w1 := ⟨hb.os, hb.tape, hb.output, hb.size, fun z hz => hg.block z (Nat.lt_of_lt_of_le hz hW) (fun he => Nat.lt_irrefl _ (Nat.lt_of_lt_of_le hz (h z he.symm)))⟩
theorem SN {α : Type} {d : Kd α} {e base : Nat} {W : World} {ok : Nat → Prop} {v : Value} {xs : List α} (h : Kd.N d e W base ok v xs) : Kd.V d e W base ok v xs := by
 obtain ⟨A, c, rfl⟩ := Kd.N_slice h;exact Kd.V_mk (Kd.N_reads' h).2.1 (Kd.N_F h)
theorem PN {α : Type} {d : Kd α} {e base : Nat} {W : World} {ok ok' : Nat → Prop} {v : Value} (h : Kd.N d e W base ok v []) (hk : ∀ k, v.ownBlock = some k → ok' k) : Kd.N d e W base ok' v [] := by
 obtain ⟨_, rows, hl, hR, _⟩ := h;exact ⟨hk, rows, hl, hR, fun j x c hx => by simp at hx⟩
theorem Ga.calls (k : Nat) (a0_0 : Int) (A0_1 : Option Addr) (c0_1 : Nat) (l0_1 : List Bool) (r : List (S62)) (w : World) (hr0_1 : Kd.C Kd.bool w A0_1 l0_1.length l0_1) (hc0_1 : l0_1.length ≤ c0_1) (h : Ga.f k a0_0 l0_1 = some r) :
 Calls Tryz.prog 26 #[.agg #[.int .i64 a0_0, .slice A0_1 l0_1.length c0_1]] w fun e w' => ∃ v0_ : Value, e = .returned (v0_) ∧ Kd.V k62 62 w' w.heap.size (fun k_ => (w.heap.size ≤ k_)) v0_ r ∧ Below w.heap.size w w' := by
 unfold Ga.f at h;replace h := zB0 h;obtain ⟨want, ht, h⟩ := h;replace h := zB0 h;obtain ⟨gl, hg, h⟩ := h;have HC := qa.mk hr0_1;have HT := qa.mk ht;have HG := qa.mk hg;have HH := qa.mk h;have u1 := Tryz.underlying24;have u2 := Tryz.underlying62;have u3_ := Tryz.underlying71;clear hr0_1 ht hg h;go_enter Tryz.func26, Tryz.ntmps26;go_wp2_with (first
  | ((with_reducible refine Ma (N := 1) rfl ?_); refine Bg ?hg (N := 1) ?hd (cs := #[.int .i64 a0_0, .slice A0_1 l0_1.length c0_1]) (t := 62) ?hr ?_; (case hd => rfl); (case hg => rfl); (case hr => first | (go_simp; done) | (go_simp; rfl)); intro gb hgb w1 hbox hb1; have HX1 := qa.mk hbox; have HB1 := qa.mk hb1; have HGW := qa.mk (Nat.le_of_eq hgb.symm : w.heap.size ≤ gb); clear hbox hb1 hgb)
  | ((with_reducible refine Ma (N := 18) rfl ?_); refine Kd.N_lit k62 _ 62 ?hg (N' := 18) ?hd (xs := ([] : List S62)) (inner := []) (ok := fun _ => True) (okp := fun _ => False) ?hr ?hp (fun _ hk => hk.elim) trivial (Below.refl _ _) (Nat.le_refl _) (by simp) ?_; (case hd => rfl); (case hg => rfl); (case hr => first | (go_simp; done) | (go_simp; rfl)); (case hp => exact qg.none _ _); intro v3 w2 ho hb _ _; have HN2 := qa.mk ho; have HB2 := qa.mk hb; have HX2 := qa.mk (Na HX1.out hb); clear ho hb)
  | ((with_reducible refine Ma (N := 19) rfl ?_); refine Kd.R_lit (Kd.int .i64) _ 3 ?hg (N := 19) ?hd (xs := ([] : List Int)) (inner := []) (ok := fun _ => True) (okp := fun _ => True) ?hr ?hp (fun _ hk => hk) trivial (Below.refl _ _) (Nat.le_refl _) (by simp) ?_; (case hd => rfl); (case hg => rfl); (case hr => first | (go_simp; done) | (go_simp; rfl)); (case hp => exact qg.none _ _); intro v4 w3 ho hb _ _; have HR3 := qa.mk ho; have HB3 := qa.mk hb; have HX3 := qa.mk (Na HX2.out hb); clear ho hb; have z0_ := (Ya HX3.out 0).trans rfl; have z1_ := (Ya HX3.out 1).trans rfl; have f0_ := Ea HX3.out 0; have f1_ := Ea HX3.out 1)
  | (go_at_call 58; refine (Xc.calls k a0_0 A0_1 c0_1 l0_1 want _ (Kd.C_below HC.out (HB1.out.trans ((HB2.out.trans (HB3.out.mono HB2.out.size)).mono HB1.out.size))) hc0_1 HT.out).mono ?_; rintro e w4 ⟨rfl, hb⟩; have HB4 := qa.mk hb; have HX4 := qa.mk (Na HX3.out hb); clear hb z0_ z1_ f0_ f1_; have z0_ := (Ya HX4.out 0).trans rfl; have z1_ := (Ya HX4.out 1).trans rfl; have f0_ := Ea HX4.out 0; have f1_ := Ea HX4.out 1)
  | (go_at_call 59; refine (Fa.calls k a0_0 gl _ HG.out).mono ?_; rintro e w5 ⟨v5, rfl, hR, hb⟩; obtain ⟨Ag, cg, rfl⟩ := Kd.R_slice hR; have HR5 := qa.mk hR; have HB5 := qa.mk hb; have HX5 := qa.mk (Na HX4.out hb); clear hR hb z0_ z1_ f0_ f1_))
 have s12 := HB2.out.size;have s23 := HB3.out.size;have s34 := HB4.out.size;have s45 := HB5.out.size;have hS0 : Cn gb w4.heap.size w5.heap.size #[.int .i64 a0_0, .slice A0_1 l0_1.length c0_1] Ag gl w w5 v3 v4 [] [] := by
  have n1 := fun z he => Kd.N_base HN2.out z he;have n2 := fun z he => Kd.N_lt HN2.out z he;have m1 := fun z he => Kd.R_base HR3.out z he;have m2 := fun z he => Kd.R_lt HR3.out z he;have g1 := Lf HX1.out;refine ⟨PN (ok := fun _ => True) (Kd.N_lower (Kd.N_below (Kd.N_below (Kd.N_below HN2.out HB3.out) HB4.out) HB5.out) HB1.out.size) (fun z he => ⟨Nat.le_trans HB1.out.size (n1 z he), ?_, fun h2 => ?_, .inl ?_⟩), Kd.R_reok rfl (Kd.R_lower (Kd.R_below (Kd.R_below HR3.out HB4.out) HB5.out) (Nat.le_trans HB1.out.size s12)) (fun z he => ⟨?_, .inl ?_⟩), Kd.F_mono (Kd.R_F (Kd.R_bound HR5.out)) (fun z hz => ⟨hz.2.1, hz.2.2.1⟩), HX5.out, HB1.out.trans ((HB2.out.trans ((HB3.out.trans ((HB4.out.trans (HB5.out.mono s34)).mono s23)).mono s12)).mono HB1.out.size), Nat.le_refl _⟩
  ·have := n1 z he; omega
  ·have := n2 z he; have := m1 z h2.symm; omega
  ·have := n2 z he; omega
  ·have := m1 z he; omega
  ·have := m2 z he; omega
 have HS0 := qa.mk hS0;have hlg : gl.length ≤ 9223372036854775807 := Kd.F_max hS0.F5;clear hS0 s12 s23 s34 s45 HN2 HR3 HR5 HX1 HX2 HX3 HX4 HX5 HB2 HB3 HB4 HB5;go_loopg [3, 4, 26] k (fun kq v3 v4 v26 wr => ∃ (x3 : List S62) (x4 : List Int) (j : Nat), v26 = .int .i64 j ∧ qa (Ga.l0 kq x3 x4 want gl (gl.length : Int) (j : Int) a0_0 l0_1 = some r) ∧ qa (kq ≤ k) ∧ qa (Cn gb w4.heap.size w5.heap.size #[.int .i64 a0_0, .slice A0_1 l0_1.length c0_1] Ag gl w wr v3 v4 x3 x4));case atStart => exact ⟨[], [], 0, rfl, HH, ⟨Nat.le_refl _⟩, HS0⟩
 case round =>
  clear HH HS0;obtain ⟨x3, x4, j, rfl, HA, HK, HS⟩ := hrel;cases gk with
  | zero => exact absurd HA.out (by simp [Ga.l0])
  | succ k1 =>
   have h := HA.out;clear HA;simp only [Ga.l0] at h;by_cases hlt : j < gl.length
   ·have hltz : (j : Int) < (gl.length : Int) := Int.ofNat_lt.2 hlt;have hltb : decide ((j : Int) < (gl.length : Int)) = true := decide_eq_true hltz;have hw1 : wrap64 ((j : Int) + 1) = ((j + 1 : Nat) : Int) := om3 hlt hlg;have hrd : Pf gl (j : Int) = gl.getD j z24 := by unfold Pf; rw [Int.toNat_natCast]
    rw [if_pos hltz, if_pos (Int.natCast_nonneg _), if_pos hltz, hw1, hrd] at h;replace h := zB0 h;obtain ⟨⟨m, tb⟩, hv, h⟩ := h;replace h := zB0 h;obtain ⟨t, htb, h⟩ := h;dsimp only at htb h;obtain ⟨ad, cs, e, hcl, hK, hcc, _⟩ := Kd.F_get HS.out.F5 z24 (j : Int) (Int.natCast_nonneg _) hltz;subst e;rw [Int.toNat_natCast] at hK hcc;generalize gl.getD j z24 = g at hK hv;obtain ⟨A0, c0, rfl, hl0, hgF⟩ := Yl hK;have x0 : wr.cell? (ad.add (j * 2)) = some (.int .i64 g.f0) := hcc 0 _ rfl;have x1 : wr.cell? ⟨(ad.add (j * 2)).block, (ad.add (j * 2)).off + 1, none⟩ = some (.slice A0 g.f1.length c0) := by rw [← Vh _ _ 1 (by decide)]; exact hcc 1 _ rfl
    have HV := qa.mk hv;have HTB := qa.mk htb;have HGC := qa.mk (Kd.C_alloc (Kd.F_now hgF) (.cells #[.int .i64 g.f0, .slice A0 g.f1.length c0] 24));have hnew := Ph wr (.cells #[.int .i64 g.f0, .slice A0 g.f1.length c0] 24);have y0 := (Ya hnew 0).trans rfl;have y1 := (Ya hnew 1).trans rfl;have HBa := qa.mk ((Below.refl wr.heap.size wr).alloc (Nat.le_refl _) (.cells #[.int .i64 g.f0, .slice A0 g.f1.length c0] 24));clear hK hcc hcl hv htb hgF hnew hrd;by_cases hcov : Go.bits .and .i64 t want = want
    case neg =>
     rw [if_neg hcov] at h;have HH := qa.mk h;have cb : (Go.bits .and .i64 t want != want) = true := bne_iff_ne.2 hcov;clear h;go_wp2_with (first
      | (go_at_call 25; refine (Gc.calls k1 g.f0 A0 c0 g.f1 m tb _ HGC.out hl0 HV.out).mono ?_; rintro e w6 ⟨v7, rfl, hR, hb⟩; obtain ⟨A7, c7, rfl⟩ := Kd.R_slice hR; have HR6 := qa.mk (Kd.R_bound hR); have HB6 := qa.mk (HBa.out.trans (hb.mono HBa.out.size)); clear hR hb x0 x1 y0 y1)
      | ((with_reducible refine Ma (N := 8) rfl ?_); refine Bg ?hg (N := 8) ?hd (cs := #[.int .i64 0, .slice none 0 0]) (t := 62) ?hr ?_; (case hd => rfl); (case hg => rfl); (case hr => first | (go_simp; done) | (go_simp; rfl)); intro g8 hg8 w7 hbox hb; have HX7 := qa.mk hbox; have HG8 := qa.mk (Nat.le_of_eq hg8.symm : w6.heap.size ≤ g8); have HB7 := qa.mk (HB6.out.trans (hb.mono HB6.out.size)); have HR7 := qa.mk (Kd.R_below HR6.out hb); have z0_ := (Ya hbox 0).trans rfl; have z1_ := (Ya hbox 1).trans rfl; have f0_ := Ea hbox 0; have f1_ := Ea hbox 1; clear hbox hb hg8)
      | ((with_reducible refine Fh (t := 62) (p := 8) rfl ?_); refine Yh (t := 62) (p := 8) (v := ?vo_w8a) (w1 := ((w7.setCell ⟨g8, 0, none⟩ (.int .i64 m)).setCell ⟨g8, 1, none⟩ (.slice A7 tb.length c7))) ?hg ?ho ?hn ?hr ?_; (case ho => rfl); (case hg => rfl); (case hn => rfl); (case hr => first | (go_simp; done) | (go_simp; rfl)); intro w8 hw; have HX8 : qa (w8.heap[g8]? = some (.cells #[.int .i64 m, .slice A7 tb.length c7] 62 (0, 0))) := ⟨by rw [hw]; exact Yb (Yb HX7.out 0 _ rfl) 1 _ rfl⟩; have HB8 : qa (Below wr.heap.size wr w8) := ⟨by rw [hw]; exact Re (Re HB7.out (Nat.le_trans HB6.out.size HG8.out)) (Nat.le_trans HB6.out.size HG8.out)⟩; have HR8 : qa (Kd.R Kd.bool 4 w8 (wr.alloc (.cells #[.int .i64 g.f0, .slice A0 g.f1.length c0] 24)).heap.size (fun z => wr.heap.size ≤ z) (.slice A7 tb.length c7) tb) := ⟨by rw [hw]; exact Kd.R_mono (Kd.R_far (p := ⟨g8, 1, none⟩) (Kd.R_far (p := ⟨g8, 0, none⟩) HR7.out (fun z hz => Nat.ne_of_lt (Nat.lt_of_lt_of_le hz.2.2.1 HG8.out)) _) (fun z hz => Nat.ne_of_lt (Nat.lt_of_lt_of_le hz.2.2.1 HG8.out)) _) (fun z hz => Nat.le_trans HBa.out.size hz.2.1)⟩; clear hw z0_ z1_ f0_ f1_; have z0_ := (Ya HX8.out 0).trans rfl; have z1_ := (Ya HX8.out 1).trans rfl; have f0_ := Ea HX8.out 0; have f1_ := Ea HX8.out 1)
      | (go_at_call 58; refine (Xc.calls k1 m A7 c7 tb t _ (Kd.R_reads' HR8.out).2.2 (Kd.R_reads' HR8.out).2.1 HTB.out).mono ?_; rintro e w9 ⟨rfl, hb⟩; have HB9 := qa.mk (HB8.out.trans (hb.mono HB8.out.size)); have HX9 := qa.mk (Na HX8.out hb); have HR9 := qa.mk (Kd.R_below HR8.out hb); clear hb z0_ z1_ f0_ f1_; have z0_ := (Ya HX9.out 0).trans rfl; have z1_ := (Ya HX9.out 1).trans rfl; have f0_ := Ea HX9.out 0; have f1_ := Ea HX9.out 1))
     go_roundg k1;case measure => have := HK.out; omega
     case rel => exact ⟨x3, x4, j + 1, by congr 1, HH, zO HK, ⟨HS.out.below HB9.out⟩⟩
    rw [if_pos hcov] at h;have cb : (Go.bits .and .i64 t want != want) = false := by rw [hcov, bne_self_eq_false]
    replace h := zB0 h;obtain ⟨⟨f1, f2, has⟩, hf, h⟩ := h;have HF := qa.mk hf;clear hf;cases has;case true =>
     have HH := qa.mk (show Ga.l0 k1 x3 x4 want gl (gl.length : Int) ((j + 1 : Nat) : Int) a0_0 l0_1 = some r from h);clear h;go_wp2_with (first
      | (go_at_call 25; refine (Gc.calls k1 g.f0 A0 c0 g.f1 m tb _ HGC.out hl0 HV.out).mono ?_; rintro e w6 ⟨v7, rfl, hR, hb⟩; obtain ⟨A7, c7, rfl⟩ := Kd.R_slice hR; have HR6 := qa.mk (Kd.R_bound hR); have HB6 := qa.mk (HBa.out.trans (hb.mono HBa.out.size)); clear hR hb x0 x1 y0 y1)
      | ((with_reducible refine Ma (N := 8) rfl ?_); refine Bg ?hg (N := 8) ?hd (cs := #[.int .i64 0, .slice none 0 0]) (t := 62) ?hr ?_; (case hd => rfl); (case hg => rfl); (case hr => first | (go_simp; done) | (go_simp; rfl)); intro g8 hg8 w7 hbox hb; have HX7 := qa.mk hbox; have HG8 := qa.mk (Nat.le_of_eq hg8.symm : w6.heap.size ≤ g8); have HB7 := qa.mk (HB6.out.trans (hb.mono HB6.out.size)); have HR7 := qa.mk (Kd.R_below HR6.out hb); have z0_ := (Ya hbox 0).trans rfl; have z1_ := (Ya hbox 1).trans rfl; have f0_ := Ea hbox 0; have f1_ := Ea hbox 1; clear hbox hb hg8)
      | ((with_reducible refine Fh (t := 62) (p := 8) rfl ?_); refine Yh (t := 62) (p := 8) (v := ?vo_w8b) (w1 := ((w7.setCell ⟨g8, 0, none⟩ (.int .i64 m)).setCell ⟨g8, 1, none⟩ (.slice A7 tb.length c7))) ?hg ?ho ?hn ?hr ?_; (case ho => rfl); (case hg => rfl); (case hn => rfl); (case hr => first | (go_simp; done) | (go_simp; rfl)); intro w8 hw; have HX8 : qa (w8.heap[g8]? = some (.cells #[.int .i64 m, .slice A7 tb.length c7] 62 (0, 0))) := ⟨by rw [hw]; exact Yb (Yb HX7.out 0 _ rfl) 1 _ rfl⟩; have HB8 : qa (Below wr.heap.size wr w8) := ⟨by rw [hw]; exact Re (Re HB7.out (Nat.le_trans HB6.out.size HG8.out)) (Nat.le_trans HB6.out.size HG8.out)⟩; have HR8 : qa (Kd.R Kd.bool 4 w8 (wr.alloc (.cells #[.int .i64 g.f0, .slice A0 g.f1.length c0] 24)).heap.size (fun z => wr.heap.size ≤ z) (.slice A7 tb.length c7) tb) := ⟨by rw [hw]; exact Kd.R_mono (Kd.R_far (p := ⟨g8, 1, none⟩) (Kd.R_far (p := ⟨g8, 0, none⟩) HR7.out (fun z hz => Nat.ne_of_lt (Nat.lt_of_lt_of_le hz.2.2.1 HG8.out)) _) (fun z hz => Nat.ne_of_lt (Nat.lt_of_lt_of_le hz.2.2.1 HG8.out)) _) (fun z hz => Nat.le_trans HBa.out.size hz.2.1)⟩; clear hw z0_ z1_ f0_ f1_; have z0_ := (Ya HX8.out 0).trans rfl; have z1_ := (Ya HX8.out 1).trans rfl; have f0_ := Ea HX8.out 0; have f1_ := Ea HX8.out 1)
      | (go_at_call 58; refine (Xc.calls k1 m A7 c7 tb t _ (Kd.R_reads' HR8.out).2.2 (Kd.R_reads' HR8.out).2.1 HTB.out).mono ?_; rintro e w9 ⟨rfl, hb⟩; have HB9 := qa.mk (HB8.out.trans (hb.mono HB8.out.size)); have HX9 := qa.mk (Na HX8.out hb); have HR9 := qa.mk (Kd.R_below HR8.out hb); clear hb z0_ z1_ f0_ f1_; have z0_ := (Ya HX9.out 0).trans rfl; have z1_ := (Ya HX9.out 1).trans rfl; have f0_ := Ea HX9.out 0; have f1_ := Ea HX9.out 1)
      | (go_at_call 33; refine (Bb.calls k1 m A7 c7 tb f1 f2 true _ (Kd.R_reads' HR9.out).2.2 (Kd.R_reads' HR9.out).2.1 HF.out).mono ?_; rintro e w10 ⟨vA, vB, rfl, ow, hS1, hS2, hb⟩; obtain ⟨AA, cA, rfl⟩ := Kd.S_slice hS1; obtain ⟨AB, cB, rfl⟩ := Kd.S_slice hS2; have HB10 := qa.mk (HB9.out.trans (hb.mono HB9.out.size)); have HX10 := qa.mk (Na HX9.out hb); have HR10 := qa.mk (Kd.R_below HR9.out hb); clear hS1 hS2 hb z0_ z1_ f0_ f1_)
      | ((with_reducible refine Ma (N := 10) rfl ?_); refine Bg ?hg (N := 10) ?hd (cs := #[.slice none 0 0, .slice none 0 0]) (t := 71) ?hr ?_; (case hd => rfl); (case hg => rfl); (case hr => first | (go_simp; done) | (go_simp; rfl)); intro g10 hg10 w11 hbox hb; have HXT := qa.mk hbox; have HG10 := qa.mk (Nat.le_of_eq hg10.symm : w10.heap.size ≤ g10); have HB11 := qa.mk (HB10.out.trans (hb.mono HB10.out.size)); have HX11 := qa.mk (Na HX10.out hb); have HR11 := qa.mk (Kd.R_below (Kd.R_bound HR10.out) hb); have HNE := qa.mk (Nat.ne_of_lt (Nat.lt_of_lt_of_le (Lf HX10.out) HG10.out) : g8 ≠ g10); have z0_ := (Ya hbox 0).trans rfl; have z1_ := (Ya hbox 1).trans rfl; have f0_ := Ea hbox 0; have f1_ := Ea hbox 1; clear hbox hb hg10)
      | ((with_reducible refine Fh (t := 71) (p := 10) rfl ?_); refine Yh (t := 71) (p := 10) (v := ?vo_w12b) (w1 := ((w11.setCell ⟨g10, 0, none⟩ (.slice AA f1.length cA)).setCell ⟨g10, 1, none⟩ (.slice AB f2.length cB))) ?hg ?ho ?hn ?hr ?_; (case ho => rfl); (case hg => rfl); (case hn => rfl); (case hr => first | (go_simp; done) | (go_simp; rfl)); intro w12 hw; have HX12 : qa (w12.heap[g8]? = some (.cells #[.int .i64 m, .slice A7 tb.length c7] 62 (0, 0))) := ⟨by rw [hw]; exact Nh (Nh HX11.out HNE.out _) HNE.out _⟩; have HB12 : qa (Below wr.heap.size wr w12) := ⟨by rw [hw]; exact Re (Re HB11.out (Nat.le_trans HB10.out.size HG10.out)) (Nat.le_trans HB10.out.size HG10.out)⟩; have HR12 : qa (Kd.R Kd.bool 4 w12 (wr.alloc (.cells #[.int .i64 g.f0, .slice A0 g.f1.length c0] 24)).heap.size (fun z => wr.heap.size ≤ z) (.slice A7 tb.length c7) tb) := ⟨by rw [hw]; exact Kd.R_mono (Kd.R_far (p := ⟨g10, 1, none⟩) (Kd.R_far (p := ⟨g10, 0, none⟩) HR11.out (fun z hz => Nat.ne_of_lt (Nat.lt_of_lt_of_le hz.2.2.1 HG10.out)) _) (fun z hz => Nat.ne_of_lt (Nat.lt_of_lt_of_le hz.2.2.1 HG10.out)) _) (fun z hz => hz.1)⟩; clear hw z0_ z1_ f0_ f1_; have z0_ := (Ya HX12.out 0).trans rfl; have z1_ := (Ya HX12.out 1).trans rfl; have f0_ := Ea HX12.out 0; have f1_ := Ea HX12.out 1))
     go_roundg k1;case measure => have := HK.out; omega
     case rel => exact ⟨x3, x4, j + 1, by congr 1, HH, zO HK, ⟨HS.out.below HB12.out⟩⟩
    rw [if_neg Bool.false_ne_true] at h;by_cases cl3 : x3.length < 4398046511104
    case neg => rw [if_neg cl3] at h; cases h
    rw [if_pos cl3] at h;by_cases cl4 : x4.length < 17592186044416
    case neg => rw [if_neg cl4] at h; cases h
    rw [if_pos cl4] at h;have HH := qa.mk h;have CL3 := qa.mk (WL cl3);have CL4 := qa.mk (len8 cl4);clear h cl3 cl4;go_wp2_with (first
     | (go_at_call 25; refine (Gc.calls k1 g.f0 A0 c0 g.f1 m tb _ HGC.out hl0 HV.out).mono ?_; rintro e w6 ⟨v7, rfl, hR, hb⟩; obtain ⟨A7, c7, rfl⟩ := Kd.R_slice hR; have HR6 := qa.mk (Kd.R_bound hR); have HB6 := qa.mk (HBa.out.trans (hb.mono HBa.out.size)); clear hR hb x0 x1 y0 y1)
     | ((with_reducible refine Ma (N := 8) rfl ?_); refine Bg ?hg (N := 8) ?hd (cs := #[.int .i64 0, .slice none 0 0]) (t := 62) ?hr ?_; (case hd => rfl); (case hg => rfl); (case hr => first | (go_simp; done) | (go_simp; rfl)); intro g8 hg8 w7 hbox hb; have HX7 := qa.mk hbox; have HG8 := qa.mk (Nat.le_of_eq hg8.symm : w6.heap.size ≤ g8); have HB7 := qa.mk (HB6.out.trans (hb.mono HB6.out.size)); have HR7 := qa.mk (Kd.R_below HR6.out hb); have z0_ := (Ya hbox 0).trans rfl; have z1_ := (Ya hbox 1).trans rfl; have f0_ := Ea hbox 0; have f1_ := Ea hbox 1; clear hbox hb hg8)
     | ((with_reducible refine Fh (t := 62) (p := 8) rfl ?_); refine Yh (t := 62) (p := 8) (v := ?vo_w8c) (w1 := ((w7.setCell ⟨g8, 0, none⟩ (.int .i64 m)).setCell ⟨g8, 1, none⟩ (.slice A7 tb.length c7))) ?hg ?ho ?hn ?hr ?_; (case ho => rfl); (case hg => rfl); (case hn => rfl); (case hr => first | (go_simp; done) | (go_simp; rfl)); intro w8 hw; have HX8 : qa (w8.heap[g8]? = some (.cells #[.int .i64 m, .slice A7 tb.length c7] 62 (0, 0))) := ⟨by rw [hw]; exact Yb (Yb HX7.out 0 _ rfl) 1 _ rfl⟩; have HB8 : qa (Below wr.heap.size wr w8) := ⟨by rw [hw]; exact Re (Re HB7.out (Nat.le_trans HB6.out.size HG8.out)) (Nat.le_trans HB6.out.size HG8.out)⟩; have HR8 : qa (Kd.R Kd.bool 4 w8 (wr.alloc (.cells #[.int .i64 g.f0, .slice A0 g.f1.length c0] 24)).heap.size (fun z => wr.heap.size ≤ z) (.slice A7 tb.length c7) tb) := ⟨by rw [hw]; exact Kd.R_mono (Kd.R_far (p := ⟨g8, 1, none⟩) (Kd.R_far (p := ⟨g8, 0, none⟩) HR7.out (fun z hz => Nat.ne_of_lt (Nat.lt_of_lt_of_le hz.2.2.1 HG8.out)) _) (fun z hz => Nat.ne_of_lt (Nat.lt_of_lt_of_le hz.2.2.1 HG8.out)) _) (fun z hz => Nat.le_trans HBa.out.size hz.2.1)⟩; clear hw z0_ z1_ f0_ f1_; have z0_ := (Ya HX8.out 0).trans rfl; have z1_ := (Ya HX8.out 1).trans rfl; have f0_ := Ea HX8.out 0; have f1_ := Ea HX8.out 1)
     | (go_at_call 58; refine (Xc.calls k1 m A7 c7 tb t _ (Kd.R_reads' HR8.out).2.2 (Kd.R_reads' HR8.out).2.1 HTB.out).mono ?_; rintro e w9 ⟨rfl, hb⟩; have HB9 := qa.mk (HB8.out.trans (hb.mono HB8.out.size)); have HX9 := qa.mk (Na HX8.out hb); have HR9 := qa.mk (Kd.R_below HR8.out hb); clear hb z0_ z1_ f0_ f1_; have z0_ := (Ya HX9.out 0).trans rfl; have z1_ := (Ya HX9.out 1).trans rfl; have f0_ := Ea HX9.out 0; have f1_ := Ea HX9.out 1)
     | (go_at_call 33; refine (Bb.calls k1 m A7 c7 tb f1 f2 false _ (Kd.R_reads' HR9.out).2.2 (Kd.R_reads' HR9.out).2.1 HF.out).mono ?_; rintro e w10 ⟨vA, vB, rfl, ow, hS1, hS2, hb⟩; obtain ⟨AA, cA, rfl⟩ := Kd.S_slice hS1; obtain ⟨AB, cB, rfl⟩ := Kd.S_slice hS2; have HB10 := qa.mk (HB9.out.trans (hb.mono HB9.out.size)); have HX10 := qa.mk (Na HX9.out hb); have HR10 := qa.mk (Kd.R_below HR9.out hb); clear hS1 hS2 hb z0_ z1_ f0_ f1_)
     | ((with_reducible refine Ma (N := 10) rfl ?_); refine Bg ?hg (N := 10) ?hd (cs := #[.slice none 0 0, .slice none 0 0]) (t := 71) ?hr ?_; (case hd => rfl); (case hg => rfl); (case hr => first | (go_simp; done) | (go_simp; rfl)); intro g10 hg10 w11 hbox hb; have HXT := qa.mk hbox; have HG10 := qa.mk (Nat.le_of_eq hg10.symm : w10.heap.size ≤ g10); have HB11 := qa.mk (HB10.out.trans (hb.mono HB10.out.size)); have HX11 := qa.mk (Na HX10.out hb); have HR11 := qa.mk (Kd.R_below (Kd.R_bound HR10.out) hb); have HNE := qa.mk (Nat.ne_of_lt (Nat.lt_of_lt_of_le (Lf HX10.out) HG10.out) : g8 ≠ g10); have z0_ := (Ya hbox 0).trans rfl; have z1_ := (Ya hbox 1).trans rfl; have f0_ := Ea hbox 0; have f1_ := Ea hbox 1; clear hbox hb hg10)
     | ((with_reducible refine Fh (t := 71) (p := 10) rfl ?_); refine Yh (t := 71) (p := 10) (v := ?vo_w12c) (w1 := ((w11.setCell ⟨g10, 0, none⟩ (.slice AA f1.length cA)).setCell ⟨g10, 1, none⟩ (.slice AB f2.length cB))) ?hg ?ho ?hn ?hr ?_; (case ho => rfl); (case hg => rfl); (case hn => rfl); (case hr => first | (go_simp; done) | (go_simp; rfl)); intro w12 hw; have HX12 : qa (w12.heap[g8]? = some (.cells #[.int .i64 m, .slice A7 tb.length c7] 62 (0, 0))) := ⟨by rw [hw]; exact Nh (Nh HX11.out HNE.out _) HNE.out _⟩; have HB12 : qa (Below wr.heap.size wr w12) := ⟨by rw [hw]; exact Re (Re HB11.out (Nat.le_trans HB10.out.size HG10.out)) (Nat.le_trans HB10.out.size HG10.out)⟩; have HR12 : qa (Kd.R Kd.bool 4 w12 (wr.alloc (.cells #[.int .i64 g.f0, .slice A0 g.f1.length c0] 24)).heap.size (fun z => wr.heap.size ≤ z) (.slice A7 tb.length c7) tb) := ⟨by rw [hw]; exact Kd.R_mono (Kd.R_far (p := ⟨g10, 1, none⟩) (Kd.R_far (p := ⟨g10, 0, none⟩) HR11.out (fun z hz => Nat.ne_of_lt (Nat.lt_of_lt_of_le hz.2.2.1 HG10.out)) _) (fun z hz => Nat.ne_of_lt (Nat.lt_of_lt_of_le hz.2.2.1 HG10.out)) _) (fun z hz => hz.1)⟩; clear hw z0_ z1_ f0_ f1_; have z0_ := (Ya HX12.out 0).trans rfl; have z1_ := (Ya HX12.out 1).trans rfl; have f0_ := Ea HX12.out 0; have f1_ := Ea HX12.out 1)
     | ((with_reducible refine Uc (b := .append) (xs := #[.tmp 46, .tmp 48]) rfl ?_); at_builtin; have HS12 := qa.mk (HS.out.below HB12.out); refine Kd.N_append k62 (w0 := w12) w.heap.size rfl (.tmp 46) (.tmp 48) 59 62 (.agg #[(.int .i64 0), (.slice none 0 0)]) 32 rfl Tryz.underlying59 TB rfl (by decide) (by decide) u3 x3 ⟨m, tb⟩ [.int .i64 m, .slice A7 tb.length c7] (fun z => w.heap.size ≤ z ∧ z ≠ gb ∧ some z ≠ u4.ownBlock ∧ (z < w4.heap.size ∨ w5.heap.size ≤ z)) (fun z => wr.heap.size ≤ z) rfl rfl (yI _ _ ⟨m, tb⟩ (Kd.R_reads' HR12.out).2.1 (Kd.R_F HR12.out)) (fun z hz => HS.out.fresh z hz) (fun z hz => (HS12.out.fresh z hz).1) HS12.out.N3 (Below.refl _ _) HS12.out.B.size CL3.out ?_; intro v8 w13 ho hb hg hat; have HS13 := qa.mk (HS12.out.app3 ho hb hg); clear ho hb hg hat)
     | ((with_reducible refine Uc (b := .append) (xs := #[.tmp 50, .tmp 52]) rfl ?_); at_builtin; refine Kd.R_append (Kd.int .i64) (w0 := w13) w.heap.size rfl (.tmp 50) (.tmp 52) 35 3 (.int .i64 0) 8 rfl Tryz.underlying35 info3 rfl (by decide) (by decide) u4 x4 t [.int .i64 t] (fun z => z ≠ gb ∧ (z < w4.heap.size ∨ w5.heap.size ≤ z)) (fun _ => False) rfl rfl rfl (fun _ hk => hk.elim) (fun z hz => ⟨(HS13.out.fresh z hz).1.2.1, (HS13.out.fresh z hz).1.2.2.2⟩) HS13.out.R4 (Below.refl _ _) HS13.out.B.size CL4.out ?_; intro v9 w14 ho hb hg hat; have HS14 := qa.mk (HS13.out.app4 ho hb hg hat); clear ho hb hg hat))
    go_roundg k1;case measure => have := HK.out; omega
    case rel => exact ⟨x3 ++ [⟨m, tb⟩], x4 ++ [t], j + 1, by congr 1, HH, zO HK, HS14⟩
   ·have hltz : ¬ (j : Int) < (gl.length : Int) := fun e => hlt (Int.ofNat_lt.1 e);rw [if_neg hltz] at h;have hltb : decide ((j : Int) < (gl.length : Int)) = false := decide_eq_false hltz;have HH := qa.mk h;clear h;obtain ⟨A4, c4, e4⟩ := Kd.R_slice HS.out.R4;subst e4;obtain ⟨A3, c3, e3⟩ := Kd.N_slice HS.out.N3;subst e3;obtain ⟨ji, hji⟩ : ∃ j_ : Int, (shl .i64 1 (l0_1.length : Int)) = j_ := ⟨_, rfl⟩;have hji_ : (IntKind.i64.wrap (1 * 2 ^ min (l0_1.length : Int).toNat 64)) = ji := hji;have hjiz : (l0_1.length : Int) ≤ 64 → (IntKind.i64.wrap (1 * 2 ^ (l0_1.length : Int).toNat)) = ji := Pm hji;have hjip : (IntKind.i64.wrap (1 * 2 ^ min l0_1.length 64)) = ji := hji_;have hjiq : (l0_1.length : Int) ≤ 64 → (IntKind.i64.wrap (1 * 2 ^ l0_1.length)) = ji := hjiz;have hjir : (IntKind.i64.wrap (2 ^ min l0_1.length 64)) = ji := by have h_ := hjip; rw [Int.one_mul] at h_; exact h_
    have hjis : (l0_1.length : Int) ≤ 64 → (IntKind.i64.wrap (2 ^ l0_1.length)) = ji := fun hle_ => by have h_ := hjiq hle_; rw [Int.one_mul] at h_; exact h_
    have hjiu : (IntKind.i64.wrap (2 ^ min (l0_1.length : Int).toNat 64)) = ji := by have h_ := hji_; rw [Int.one_mul] at h_; exact h_
    have hjiv : (l0_1.length : Int) ≤ 64 → (IntKind.i64.wrap (2 ^ (l0_1.length : Int).toNat)) = ji := fun hle_ => by have h_ := hjiz hle_; rw [Int.one_mul] at h_; exact h_
    have hjiy : (wrap64 (1 * 2 ^ min (l0_1.length : Int).toNat 64)) = ji := (Ff _).symm.trans hji_;have hjix : (l0_1.length : Int) ≤ 64 → (wrap64 (1 * 2 ^ (l0_1.length : Int).toNat)) = ji := fun h_ => (Ff _).symm.trans (hjiz h_);obtain ⟨wo, rfl⟩ : ∃ wo, wo = wr := ⟨wr, rfl⟩;go_wp2;go_loopg [12] k1 (fun kq v12 wr => ∃ q : Int, v12 = .int .i64 q ∧ qa (Ga.l1 kq x3 x4 want q a0_0 l0_1 = some r) ∧ qa (kq ≤ k1) ∧ qa (Below wo.heap.size wo wr));case atStart => exact ⟨1, rfl, HH, ⟨Nat.le_refl _⟩, ⟨Below.refl _ _⟩⟩
    case round =>
     clear HH;obtain ⟨q, rfl, HA, HK1, HBo⟩ := hrel;cases gk with
     | zero => exact absurd HA.out (by simp [Ga.l1])
     | succ k2 =>
      have h := HA.out;clear HA;simp only [Ga.l1] at h;rw [hji] at h;replace h := zB0 h;obtain ⟨⟨ix, okb⟩, hch, h⟩ := h;have HCH := qa.mk hch;have HS1 := qa.mk (HS.out.below HBo.out);have z0_ := (Ya HS1.out.X 0).trans rfl;have z1_ := (Ya HS1.out.X 1).trans rfl;have f0_ := Ea HS1.out.X 0;have f1_ := Ea HS1.out.X 1;clear hch;cases okb;case false =>
       have HH := qa.mk (show Ga.l1 k2 x3 x4 want (wrap64 (q + 1)) a0_0 l0_1 = some r from h);clear h;go_wp2_with ((with_reducible refine Va (f := 60) rfl ?_); refine YB (some 66) rfl rfl Tryz.func60 (by kernel_rfl) rfl #[.slice A4 x4.length c4, .int .i64 0, .int .i64 q, .int .i64 (wrap64 (ji - 1)), .int .i64 want] rfl (by (try simp only [List.map_toArray, List.map_cons, List.map_nil]); first | done | (simp only [hji]; rfl) | rfl) ?_; (with_reducible refine (Od.calls k2 A4 c4 x4 0 q (wrap64 (ji - 1)) want ix false _ ?side1 ?side2 HCH.out).mono ?_); (case side1 => exact (Kd.R_reads' HS1.out.R4).2.2); (case side2 => exact (Kd.R_reads' HS1.out.R4).2.1); rintro e w20 ⟨v20, rfl, hR, hb⟩; refine ⟨_, rfl, ?_⟩; obtain ⟨A20, c20, rfl⟩ := Kd.R_slice hR; have HR20 := qa.mk hR; have HB20 := qa.mk (HBo.out.trans (hb.mono HBo.out.size)); have HS20 := qa.mk (HS1.out.below hb); clear hR hb z0_ z1_ f0_ f1_);go_roundg k2;case measure => have := HK1.out; omega
       case rel => exact ⟨wrap64 (q + 1), by first | rfl | (simp; done) | (simp [*]; done), HH, zO HK1, HB20⟩
      case true =>
       have HH := qa.mk (show Ga.l2 k2 x3 [] ix (ix.length : Int) 0 = some r from h);clear h;go_wp2_with (first
        | ((with_reducible refine Va (f := 60) rfl ?_); refine YB (some 66) rfl rfl Tryz.func60 (by kernel_rfl) rfl #[.slice A4 x4.length c4, .int .i64 0, .int .i64 q, .int .i64 (wrap64 (ji - 1)), .int .i64 want] rfl (by (try simp only [List.map_toArray, List.map_cons, List.map_nil]); first | done | (simp only [hji]; rfl) | rfl) ?_; (with_reducible refine (Od.calls k2 A4 c4 x4 0 q (wrap64 (ji - 1)) want ix true _ ?side1 ?side2 HCH.out).mono ?_); (case side1 => exact (Kd.R_reads' HS1.out.R4).2.2); (case side2 => exact (Kd.R_reads' HS1.out.R4).2.1); rintro e w20 ⟨v20, rfl, hR, hb⟩; refine ⟨_, rfl, ?_⟩; obtain ⟨A20, c20, rfl⟩ := Kd.R_slice hR; have HR20 := qa.mk hR; have HB20 := qa.mk (HBo.out.trans (hb.mono HBo.out.size)); have HS20 := qa.mk (HS1.out.below hb); clear hR hb z0_ z1_ f0_ f1_)
        | ((with_reducible refine Ma (N := 71) rfl ?_); refine Kd.N_lit k62 _ 62 ?hg (N' := 71) ?hd (xs := ([] : List S62)) (inner := []) (ok := fun _ => True) (okp := fun _ => False) ?hr ?hp (fun _ hk => hk.elim) trivial (Below.refl _ _) (Nat.le_refl _) (by simp) ?_; (case hd => rfl); (case hg => rfl); (case hr => first | (go_simp; done) | (go_simp; rfl)); (case hp => exact qg.none _ _); intro v15 w21 ho hb _ _; have HN21 := qa.mk ho; have HB21 := qa.mk hb; clear ho hb))
       have HF3 := qa.mk (Kd.F_mono (Kd.F_bound (Kd.N_F HS20.out.N3)) (ok' := fun z => w.heap.size ≤ z ∧ z < w20.heap.size) (fun z hz => ⟨hz.1.1, hz.2⟩));have HCI := qa.mk (Kd.R_reads' HR20.out).2.2;have hxl := Kd.C_max HCI.out;have HO0 := qa.mk (fun z he => Kd.N_base HN21.out z he : ∀ z, v15.ownBlock = some z → w20.heap.size ≤ z);have HN0 := qa.mk (PN (ok' := fun z => w.heap.size ≤ z) (Kd.N_lower HN21.out HS20.out.B.size) (fun z he => Nat.le_trans HS20.out.B.size (HO0.out z he)));clear HR20 HN21 hji hji_ hjiz hjip hjiq hjir hjis hjiu hjiv hjiy hjix;go_loopg [15, 74] k2 (fun kq v15 v74 wr => ∃ (y : List S62) (i : Nat), v74 = .int .i64 i ∧ qa (Ga.l2 kq x3 y ix (ix.length : Int) (i : Int) = some r) ∧ qa (kq ≤ k2) ∧ qa (Kd.N k62 62 wr w.heap.size (fun z => w.heap.size ≤ z) v15 y) ∧ qa (∀ z, v15.ownBlock = some z → w20.heap.size ≤ z) ∧ qa (Below w20.heap.size w20 wr));case atStart => exact ⟨[], 0, rfl, HH, ⟨Nat.le_refl _⟩, HN0, HO0, HB21⟩
       case round =>
        clear HH HN0 HO0 HB21;obtain ⟨y, i, rfl, HA, HK2, HN15, HO15, HBi⟩ := hrel;cases gk with
        | zero => exact absurd HA.out (by simp [Ga.l2])
        | succ k3 =>
         have h := HA.out;clear HA;simp only [Ga.l2] at h;by_cases hil : i < ix.length
         ·have hiz : (i : Int) < (ix.length : Int) := Int.ofNat_lt.2 hil;have hizb : decide ((i : Int) < (ix.length : Int)) = true := decide_eq_true hiz;have hw1 : wrap64 ((i : Int) + 1) = ((i + 1 : Nat) : Int) := om3 hil hxl;rw [if_pos hiz, if_pos (Int.natCast_nonneg _), if_pos hiz, hw1] at h;obtain ⟨ai, e, xi⟩ := Kd.at_int (Kd.C_below HCI.out HBi.out) (i : Int) (Int.natCast_nonneg _) hiz;subst e;rw [Int.toNat_natCast] at xi;generalize rd ix (i : Int) = p at h xi;by_cases p0 : 0 ≤ p
          case neg => rw [if_neg p0] at h; cases h
          rw [if_pos p0] at h;by_cases p1 : p < (x3.length : Int)
          case neg => rw [if_neg p1] at h; cases h
          rw [if_pos p1] at h;by_cases cl : y.length < 4398046511104
          case neg => rw [if_neg cl] at h; cases h
          rw [if_pos cl] at h;obtain ⟨ad, cs, e, hcl, hK, hcc, _⟩ := Kd.F_get (Kd.F_below HF3.out HBi.out) z62 p p0 p1;subst e;have hrd : Oe x3 p = x3.getD p.toNat z62 := rfl;rw [hrd] at h;generalize x3.getD p.toNat z62 = g at hK h;obtain ⟨A0, c0, rfl, hl0, hgF⟩ := Iu hK;have x0 : wr.cell? (ad.add (p.toNat * 2)) = some (.int .i64 g.f0) := hcc 0 _ rfl;have x1 : wr.cell? ⟨(ad.add (p.toNat * 2)).block, (ad.add (p.toNat * 2)).off + 1, none⟩ = some (.slice A0 g.f1.length c0) := by rw [← Vh _ _ 1 (by decide)]; exact hcc 1 _ rfl
          have p0b : decide (0 ≤ p) = true := decide_eq_true p0;have p1b : decide (p < (x3.length : Int)) = true := decide_eq_true p1;have HH := qa.mk h;have HK := qa.mk hK;have CL := qa.mk (WL cl);have HSZ := qa.mk (Nat.le_trans HS20.out.B.size HBi.out.size);clear h hK hcc hcl cl hgF hrd;go_wp2_with ((with_reducible refine Uc (b := .append) (xs := #[.tmp 78, .tmp 83]) rfl ?_); at_builtin; refine Kd.N_append k62 (w0 := wr) w.heap.size rfl (.tmp 78) (.tmp 83) 59 62 (.agg #[(.int .i64 0), (.slice none 0 0)]) 32 rfl Tryz.underlying59 TB rfl (by decide) (by decide) u15 y g [.int .i64 g.f0, .slice A0 g.f1.length c0] (fun z => w.heap.size ≤ z) (fun z => w.heap.size ≤ z ∧ z < w20.heap.size) rfl rfl HK.out (fun z hz => ⟨hz.1, fun he => Nat.lt_irrefl _ (Nat.lt_of_lt_of_le hz.2 (HO15.out z he.symm))⟩) (fun z hz => Nat.le_trans HSZ.out hz) HN15.out (Below.refl _ _) HSZ.out CL.out ?_; intro v16 w22 ho hb hg hat; have HN16 := qa.mk ho; have HB16 := qa.mk hb; have HG16 := qa.mk hg; have HAT := qa.mk hat; clear ho hb hg hat);go_roundg k3;case measure => have := HK2.out; omega
          case rel => exact ⟨y ++ [⟨g.f0, g.f1⟩], i + 1, by congr 1, HH, zO HK2, HN16, ⟨QF HO15.out HAT.out HBi.out.size⟩, ⟨HBi.out.trans (Nv HB16.out HG16.out HO15.out HBi.out.size)⟩⟩
         ·have hiz : ¬ (i : Int) < (ix.length : Int) := fun e => hil (Int.ofNat_lt.1 e);have hizb : decide ((i : Int) < (ix.length : Int)) = false := decide_eq_false hiz;rw [if_neg hiz] at h;obtain rfl := Option.some.inj h;clear h;go_wp2;go_ret;exact ⟨_, rfl, SN HN15.out, HS20.out.B.trans (HBi.out.mono HS20.out.B.size)⟩
theorem XL {w : World} {base : Nat} {ok : Nat → Prop} (x : Int) (cs : List Value) (h : (Kd.int .i64).K w x cs) : (Kd.int .i64).M w base ok x cs := h
def Tf.f (l0 : List Int) : Option (List Int) := if l0.length < 17592186044416 then some l0 else none
theorem Tf.calls (A0 : Option Addr) (c0 : Nat) (l0 : List Int) (r : List Int) (w : World) (hr0 : Kd.C (Kd.int .i64) w A0 l0.length l0) (hc0 : l0.length ≤ c0)
 (h : Tf.f l0 = some r) :
 Calls Tryz.prog 115 #[.slice A0 l0.length c0] w fun e w' => ∃ v0_ : Value, e = .returned (v0_) ∧ Kd.R (Kd.int .i64) 3 w' w.heap.size (fun _ => True) v0_ r ∧ Below w.heap.size w w' := by
 unfold Tf.f at h;split at h
 case isFalse => cases h
 case isTrue hl =>
  obtain rfl := Option.some.inj h;clear h;have he : ∀ w, (binOp .eql 35 (.slice A0 l0.length c0) (.slice none 0 0)).run Tryz.prog w = .ok (.bool A0.isNone) w := fun w => run_eql_slice_nil w 35 3 A0 _ _ Tryz.underlying35;have HL := qa.mk hl;have HR := qa.mk hr0;clear hl;cases A0 with
  | none =>
   have h0 : l0 = [] := by
    cases l0 with
    | nil => rfl
    | cons x l => obtain ⟨ad, e, _⟩ := hr0.2.2 (by simp); cases e
   subst h0;clear hr0 he;have he : ∀ w, (binOp .eql 35 (.slice none 0 c0) (.slice none 0 0)).run Tryz.prog w = .ok (.bool true) w := fun w => run_eql_slice_nil w 35 3 none _ _ Tryz.underlying35;go_enter Tryz.func115, Tryz.ntmps115;go_wp2;go_ret;exact ⟨_, rfl, Kd.R_nil _ _ _ _ _, Below.refl _ _⟩
  | some ad =>
   clear hr0;go_enter Tryz.func115, Tryz.ntmps115;go_wp2_with (first | ((with_reducible refine Ma (N := 5) rfl ?_); refine Kd.R_lit (Kd.int .i64) (w0 := w) w.heap.size 3 ?hg (N := 5) ?hd (xs := ([] : List Int)) (inner := []) (ok := fun _ => True) (okp := fun _ => True) ?hr ?hp (fun _ hk => hk) trivial (Below.refl _ _) (Nat.le_refl _) (by simp) ?_; (case hd => rfl); (case hg => rfl); (case hr => first | (go_simp; done) | (go_simp; rfl)); (case hp => exact (qg.none _ _)); intro v5 w2 ho hb hg_ hnew_; clear hg_ hnew_; have HO := qa.mk ho; have HB := qa.mk hb; clear ho hb) | ((with_reducible refine Uc (b := .append) (xs := #[.tmp 5, .tmp 6]) rfl ?_); refine Kd.R_append_rows (Kd.int .i64) (Rr := (Kd.int .i64).K w2) (w0 := w) w.heap.size rfl (.tmp 5) (.tmp 6) 35 3 (.int .i64 0) 8 rfl Tryz.underlying35 info3 rfl (by decide) (by omega) v5 [] l0 (some ad) l0.length c0 (fun _ => True) (fun _ => False) rfl rfl ?aO ?aR ?aK (fun _ hk => hk.elim) (fun _ _ => trivial) HB.out HB.out.size ?aL ?_; (case aO => exact HO.out); (case aR => exact Kd.C_below HR.out HB.out); (case aK => exact fun x cs hx => XL x cs hx); (case aL => have := HL.out; simp; omega); intro v7 w3 ho2 hb2 hg2 hat2; clear hg2 hat2; have HO2 := qa.mk ho2; have HB2 := qa.mk hb2; clear ho2 hb2));refine bodyPost_ret (v := v7) (by simp [results, Tryz.results115, go_sem]) rfl ?_;exact ⟨_, rfl, by simpa using HO2.out, HB2.out⟩
structure FSt (bv bo : Nat) (n : Int) (T : Option Addr) (ct : Nat) (t : List Bool) (w0 w : World) (old : Array Value) : Prop where
 V : w.heap[bv]? = some (.cells #[.int .i64 n, .slice T t.length ct] 62 (0, 0))
 O : w.heap[bo]? = some (.cells old 40 (0, 0))
 B : Below w0.heap.size w0 w
theorem FSt.below {bv bo : Nat} {n : Int} {T : Option Addr} {ct : Nat} {t : List Bool} {w0 w w1 : World} {old : Array Value} (h : FSt bv bo n T ct t w0 w old) (hb : Below w.heap.size w w1) : FSt bv bo n T ct t w0 w1 old := ⟨Na h.V hb, Na h.O hb, h.B.trans (hb.mono h.B.size)⟩
theorem DI.calls (k : Nat) (n : Int) (T : Option Addr) (ct : Nat) (t : List Bool) (hct : t.length ≤ ct) (bv bo : Nat) (hne : bv ≠ bo) (A : Option Addr) (c : Nat) (l : List Int) (hlc : l.length ≤ c) (q0 : Int) (v0 : Value) (w0 w : World) (hT : Kd.C Kd.bool w0 T t.length t) (hbo : w0.heap.size ≤ bo) (hS : FSt bv bo n T ct t w0 w #[.int .i64 q0, v0]) (hl : Kd.C (Kd.int .i64) w A l.length l) (win lose : Int) (h : Oa.f k n t l = some (win, lose)) :
 Calls Tryz.prog 62 #[.slice A l.length c, .pointer (some ⟨bv, 0, none⟩), .pointer (some ⟨bo, 0, none⟩)] w fun e w' => e = .returned (.bool (!decide (win ≤ lose))) ∧ FSt bv bo n T ct t w0 w' (if win ≤ lose then #[.int .i64 q0, v0] else #[.int .i64 (wrap64 (lose + 1)), .slice A l.length c]) ∧ Kept w w' (fun z => z = bo) := by
 have HT := qa.mk hT;have HS := qa.mk hS;have HL := qa.mk hl;have HH := qa.mk h;have HN := qa.mk hne;have HBO := qa.mk hbo;have q0_ := (Ya hS.V 0).trans rfl;have q1_ := (Ya hS.V 1).trans rfl;have hu1 := Tryz.underlying62;have hu2 := Tryz.underlying40;clear hT hS hl h hne hbo;by_cases c1 : win ≤ lose
 ·rw [if_pos c1];have c1b : decide (win ≤ lose) = true := decide_eq_true c1;rw [c1b];clear c1;go_enter Tryz.func62, Tryz.ntmps62;go_wp2_with (go_at_call 63; refine (Oa.calls k n T ct t A c l win lose _ (Kd.C_below HT.out HS.out.B) hct HL.out hlc HH.out).mono ?_; rintro e w1 ⟨rfl, hb⟩; have HS1 := qa.mk (HS.out.below hb); have HK1 := qa.mk (Kept.of_below hb (fun z => z = bo)); clear hb q0_ q1_);go_ret;exact ⟨rfl, HS1.out, HK1.out⟩
 ·rw [if_neg c1];have c1b : decide (win ≤ lose) = false := decide_eq_false c1;rw [c1b];clear c1;go_enter Tryz.func62, Tryz.ntmps62;go_wp2_with (go_at_call 63; refine (Oa.calls k n T ct t A c l win lose _ (Kd.C_below HT.out HS.out.B) hct HL.out hlc HH.out).mono ?_; rintro e w1 ⟨rfl, hb⟩; have HS1 := qa.mk (HS.out.below hb); have HK1 := qa.mk (Kept.of_below hb (fun z => z = bo)); clear hb q0_ q1_; have p0_ : w1.cell? ⟨bo, 0, none⟩ = some (.int .i64 q0) := (Ya HS1.out.O 0).trans rfl; have p1_ : w1.cell? ⟨bo, 1, none⟩ = some v0 := (Ya HS1.out.O 1).trans rfl; have f0_ := Ea HS1.out.O 0; have f1_ := Ea HS1.out.O 1);go_ret;refine ⟨rfl, ⟨Nh (Nh HS1.out.V HN.out _) HN.out _, ?_, Re (Re HS1.out.B HBO.out) HBO.out⟩, (HK1.out.setCell (.inl rfl) _).setCell (.inl rfl) _⟩;refine Yb (cs := #[.int .i64 (wrap64 (lose + 1)), v0]) ?_ 1 _ rfl;refine Yb (cs := #[.int .i64 q0, v0]) ?_ 0 _ rfl;exact HS1.out.O
mutual
def Rk.f : Nat → Int → List Bool → List Int → Int → Option (Option (Int × List Int))
 | 0, _, _, _, _ => none
 | k + 1, n, t, b, s => if (b.length : Int) = wrap64 (n - 1) then (if b.length < 17592186044416 then (Oa.f k n t (b ++ [s])).bind fun p => if p.1 ≤ p.2 then some none else some (some (wrap64 (p.2 + 1), b ++ [s])) else none) else Rk.l k n t b s 0
def Rk.l : Nat → Int → List Bool → List Int → Int → Int → Option (Option (Int × List Int))
 | 0, _, _, _, _, _ => none
 | k + 1, n, t, b, s, x => if x < wrap64 (s + 1) then (if b.length < 17592186044416 then (Rk.f k n t (b ++ [x]) (wrap64 (s - x))).bind fun r => (match r with
  | some q => some (some q)
  | none => Rk.l k n t b s (wrap64 (x + 1))) else none) else some none
end
def RF (bv bo : Nat) (n : Int) (T : Option Addr) (ct : Nat) (t : List Bool) (w0 w w' : World) (q0 : Int) (v0 : Value) : Option (Int × List Int) → Prop
 | none => FSt bv bo n T ct t w0 w' #[.int .i64 q0, v0]
 | some q => ∃ v, FSt bv bo n T ct t w0 w' #[.int .i64 q.1, v] ∧ Kd.R (Kd.int .i64) 3 w' w0.heap.size (fun z => w.heap.size ≤ z) v q.2
theorem Rk.calls (n : Int) (T : Option Addr) (ct : Nat) (t : List Bool) (hct : t.length ≤ ct) (bv bo : Nat) (hne : bv ≠ bo) (w0 : World) (hT : Kd.C Kd.bool w0 T t.length t) (hbo : w0.heap.size ≤ bo) (q0 : Int) (v0 : Value) :
 ∀ (k : Nat) (A : Option Addr) (c : Nat) (b : List Int) (s : Int) (r : Option (Int × List Int)) (w : World), b.length ≤ c → FSt bv bo n T ct t w0 w #[.int .i64 q0, v0] → (∀ W, Kept w W (fun z => z = bo) → Kd.C (Kd.int .i64) W A b.length b) → Rk.f k n t b s = some r →
 Calls Tryz.prog 61 #[.slice A b.length c, .int .i64 n, .int .i64 s, .func (.func 62) #[] #[.pointer (some ⟨bv, 0, none⟩), .pointer (some ⟨bo, 0, none⟩)]] w fun e w' => e = .returned (.bool r.isSome) ∧ Kept w w' (fun z => z = bo) ∧ RF bv bo n T ct t w0 w w' q0 v0 r := by
 have HT := qa.mk hT;have HN := qa.mk hne;have HBO := qa.mk hbo;clear hT hne hbo;intro k;induction k using Nat.strongRecOn with
 | _ k IH =>
  intro A c b s r w hbc hS hb h;cases k with
  | zero => exact absurd h (by simp [Rk.f])
  | succ k1 =>
   have IH := qa.mk IH;have HS := qa.mk hS;have HC := qa.mk hb;have HB := qa.mk (Below.refl w.heap.size w);have hbl : bo < w.heap.size := Lf hS.O;clear hS hb;rw [Rk.f] at h;by_cases c1 : (b.length : Int) = wrap64 (n - 1)
   ·rw [if_pos c1] at h;have c1b : ((b.length : Int) == wrap64 (n - 1)) = true := beq_iff_eq.2 c1;by_cases c2 : b.length < 17592186044416
    case neg => rw [if_neg c2] at h; cases h
    rw [if_pos c2] at h;replace h := zB0 h;obtain ⟨⟨win, lose⟩, hp, h⟩ := h;have HP := qa.mk hp;have L2 := qa.mk c2;clear hp c1 c2;go_enter Tryz.func61, Tryz.ntmps61;go_wp2_with (first
     | (go_at_call 115; refine (Tf.calls A c b b _ (HC.out _ (Kept.refl _ _)) hbc (if_pos L2.out)).mono ?_; rintro e w1 ⟨v, rfl, hR, hb⟩; have HO1 := qa.mk hR; have HB1 := qa.mk hb; clear hR hb)
     | ((with_reducible refine Uc (b := .append) (xs := #[.tmp 17, .tmp 19]) rfl ?_); at_builtin; refine Kd.R_append (Kd.int .i64) (w0 := w) w.heap.size rfl (.tmp 17) (.tmp 19) 35 3 (.int .i64 0) 8 rfl Tryz.underlying35 info3 rfl (by decide) (by omega) v b s [.int .i64 s] (fun _ => True) (fun _ => False) rfl rfl ?aP (fun _ hk => hk.elim) ?aF ?aO ?aB ?aS ?aL ?_; (case aP => exact rfl); (case aB => exact HB1.out); (case aF => exact (fun _ _ => trivial)); (case aO => exact HO1.out); (case aS => exact HB1.out.size); (case aL => have := L2.out; omega); intro v2 w2 ho hb hg hat; obtain ⟨A2, c2, rfl⟩ := Kd.R_slice ho; have HO2 := qa.mk ho; have HB2 := qa.mk hb; clear ho hb hg hat HO1 HB1)
     | ((with_reducible refine Ma (N := 21) rfl ?_); refine Rp (some 21) rfl rfl (enters_of Tryz.func62 (by kernel_rfl) rfl) (by rfl) #[.slice A2 (b ++ [s]).length c2] rfl (by (try simp only [List.map_toArray, List.map_cons, List.map_nil]); first | done | rfl) ?_; refine (DI.calls k1 n T ct t hct bv bo HN.out A2 c2 (b ++ [s]) (Kd.R_reads' HO2.out).2.1 q0 v0 w0 _ HT.out HBO.out (HS.out.below HB2.out) (Kd.R_reads' HO2.out).2.2 win lose HP.out).mono ?_; rintro e w3 ⟨rfl, hS3, hK3⟩; refine ⟨_, rfl, ?_⟩; have HS3 := qa.mk hS3; have HK3 := qa.mk hK3; clear hS3 hK3))
    go_ret;have hK := (Kept.of_below HB2.out (fun z => z = bo)).then_ HK3.out (fun z hz => .inl hz);have hO3 := Kd.R_kept (Kd.R_mono (Kd.R_bound HO2.out) (ok' := fun z => w.heap.size ≤ z) (fun z hz => hz.2.1)) HK3.out (fun z hz he => absurd hbl (by omega));have hS3 := HS3.out;by_cases c3 : win ≤ lose
    ·rw [if_pos c3] at h hS3;obtain rfl := Option.some.inj h;exact ⟨by rw [decide_eq_true c3]; rfl, hK, hS3⟩
    ·rw [if_neg c3] at h hS3;obtain rfl := Option.some.inj h;exact ⟨by rw [decide_eq_false c3]; rfl, hK, _, hS3, Kd.R_lower hO3 HS.out.B.size⟩
   ·rw [if_neg c1] at h;have c1b : ((b.length : Int) == wrap64 (n - 1)) = false := beq_eq_false_iff_ne.2 c1;have HH := qa.mk h;clear h c1;go_enter Tryz.func61, Tryz.ntmps61;go_wp2;go_loopg [24] k1 (fun kq v24 wr => ∃ x : Int, v24 = .int .i64 x ∧ qa (Rk.l kq n t b s x = some r) ∧ qa (kq ≤ k1) ∧ qa (FSt bv bo n T ct t w0 wr #[.int .i64 q0, v0]) ∧ qa (Kept w wr (fun z => z = bo)));case atStart => exact ⟨0, rfl, HH, ⟨Nat.le_refl _⟩, HS, ⟨Kept.refl _ _⟩⟩
    case round =>
     clear HH HS;obtain ⟨x, rfl, HA, HKq, HS, HK⟩ := hrel;cases gk with
     | zero => exact absurd HA.out (by simp [Rk.l])
     | succ k2 =>
      have h := HA.out;clear HA;rw [Rk.l] at h;by_cases c1 : x < wrap64 (s + 1)
      ·rw [if_pos c1] at h;have c1b2 := decide_eq_true c1;by_cases c2 : b.length < 17592186044416
       case neg => rw [if_neg c2] at h; cases h
       rw [if_pos c2] at h;replace h := zB0 h;obtain ⟨r1, hr1, h⟩ := h;have H1 := qa.mk hr1;have L2 := qa.mk c2;have HX := qa.mk h;have HBr := qa.mk (Below.refl wr.heap.size wr);have hbr : bo < wr.heap.size := Lf HS.out.O;clear hr1 c1 c2 h;have hcall := fun (A2 : Option Addr) (c2 : Nat) (W : World) (hb : Below wr.heap.size wr W) (hO : Kd.R (Kd.int .i64) 3 W wr.heap.size (fun _ => True) (.slice A2 (b ++ [x]).length c2) (b ++ [x])) => IH.out k2 (by have := HKq.out; omega) A2 c2 (b ++ [x]) (wrap64 (s - x)) r1 W (Kd.R_reads' hO).2.1 (HS.out.below hb) (fun W' hk => Kd.C_kept_own (Kd.R_mono (Kd.R_bound hO) (ok' := fun z => wr.heap.size ≤ z) (fun z hz => hz.2.1)) (fun z hz he => absurd hbr (by omega)) W' hk) H1.out;have HCL := qa.mk hcall;clear hcall;cases r1 with
       | none =>
        go_wp2_with (first
         | (go_at_call 115; refine (Tf.calls A c b b _ (HC.out _ HK.out) hbc (if_pos L2.out)).mono ?_; rintro e w1 ⟨v, rfl, hR, hb⟩; have HO1 := qa.mk hR; have HB1 := qa.mk hb; clear hR hb)
         | ((with_reducible refine Uc (b := .append) (xs := #[.tmp 28, .tmp 30]) rfl ?_); at_builtin; refine Kd.R_append (Kd.int .i64) (w0 := wr) wr.heap.size rfl (.tmp 28) (.tmp 30) 35 3 (.int .i64 0) 8 rfl Tryz.underlying35 info3 rfl (by decide) (by omega) v b x [.int .i64 x] (fun _ => True) (fun _ => False) rfl rfl ?aP (fun _ hk => hk.elim) ?aF ?aO ?aB ?aS ?aL ?_; (case aP => exact rfl); (case aB => exact HB1.out); (case aF => exact (fun _ _ => trivial)); (case aO => exact HO1.out); (case aS => exact HB1.out.size); (case aL => have := L2.out; omega); intro v2 w2 ho hb hg hat; obtain ⟨A2, c2, rfl⟩ := Kd.R_slice ho; have HO2 := qa.mk ho; have HB2 := qa.mk hb; clear ho hb hg hat HO1 HB1)
         | (go_at_call 61; have hq := HCL.out A2 c2 _ HB2.out HO2.out; rw [List.length_append, List.length_singleton] at hq; refine hq.mono ?_; clear hq; rintro e w3 ⟨rfl, hK3, hS3⟩; have HS3 := qa.mk hS3; have HK3 := qa.mk ((HK.out.below HB2.out).then_ hK3 (fun z hz => .inl hz)); clear hS3 hK3))
        go_roundg k2;case measure => have := HKq.out; omega
        case rel => exact ⟨wrap64 (x + 1), by first | rfl | (simp; done) | (simp [*]; done), HX, zO HKq, HS3, HK3⟩
       | some q =>
        have hx := HX.out;obtain rfl := Option.some.inj hx;clear hx HX;go_wp2_with (first
         | (go_at_call 115; refine (Tf.calls A c b b _ (HC.out _ HK.out) hbc (if_pos L2.out)).mono ?_; rintro e w1 ⟨v, rfl, hR, hb⟩; have HO1 := qa.mk hR; have HB1 := qa.mk hb; clear hR hb)
         | ((with_reducible refine Uc (b := .append) (xs := #[.tmp 28, .tmp 30]) rfl ?_); at_builtin; refine Kd.R_append (Kd.int .i64) (w0 := wr) wr.heap.size rfl (.tmp 28) (.tmp 30) 35 3 (.int .i64 0) 8 rfl Tryz.underlying35 info3 rfl (by decide) (by omega) v b x [.int .i64 x] (fun _ => True) (fun _ => False) rfl rfl ?aP (fun _ hk => hk.elim) ?aF ?aO ?aB ?aS ?aL ?_; (case aP => exact rfl); (case aB => exact HB1.out); (case aF => exact (fun _ _ => trivial)); (case aO => exact HO1.out); (case aS => exact HB1.out.size); (case aL => have := L2.out; omega); intro v2 w2 ho hb hg hat; obtain ⟨A2, c2, rfl⟩ := Kd.R_slice ho; have HO2 := qa.mk ho; have HB2 := qa.mk hb; clear ho hb hg hat HO1 HB1)
         | (go_at_call 61; have hq := HCL.out A2 c2 _ HB2.out HO2.out; rw [List.length_append, List.length_singleton] at hq; refine hq.mono ?_; clear hq; rintro e w3 ⟨rfl, hK3, hS3⟩; have HS3 := qa.mk hS3; have HK3 := qa.mk ((HK.out.below HB2.out).then_ hK3 (fun z hz => .inl hz)); clear hS3 hK3))
        go_ret;obtain ⟨v3, h3, h4⟩ := HS3.out;exact ⟨rfl, HK3.out, v3, h3, Kd.R_mono h4 (fun z hz => Nat.le_trans HK.out.1 (Nat.le_trans HB2.out.size hz))⟩
      ·rw [if_neg c1] at h;have c1b2 := decide_eq_false c1;obtain rfl := Option.some.inj h;clear h c1;go_wp2;go_ret;exact ⟨rfl, HK.out, HS.out⟩
def fnd.l : Nat → Int → List Bool → Int → List Int → Int → Option (Int × List Int)
 | 0, _, _, _, _, _ => none
 | k + 1, n, t, q, v, s => if q = 0 then (Rk.f k n t [] s).bind fun r => (match r with
  | some p => fnd.l k n t p.1 p.2 (wrap64 (s + 1))
  | none => fnd.l k n t q v (wrap64 (s + 1))) else some (q, v)
def Yd.f (k : Nat) (n : Int) (t : List Bool) : Option (Int × List Int × Bool) := (Bb.f k n t).bind fun p => if p.2.2 = true then some (0, [], false) else (fnd.l k n t 0 [] 1).bind fun q => some (q.1, q.2, true)
theorem Yd.calls (k : Nat) (a0_0 : Int) (A0_1 : Option Addr) (c0_1 : Nat) (l0_1 : List Bool) (r1 : Int) (r2 : List Int) (r3 : Bool) (w : World) (hr0_1 : Kd.C Kd.bool w A0_1 l0_1.length l0_1) (hc0_1 : l0_1.length ≤ c0_1) (h : Yd.f k a0_0 l0_1 = some (r1, r2, r3)) :
 Calls Tryz.prog 27 #[.agg #[.int .i64 a0_0, .slice A0_1 l0_1.length c0_1]] w fun e w' => ∃ v1_ : Value, e = .returned (.tuple #[.agg #[.int .i64 r1, v1_], .bool r3]) ∧ Kd.R (Kd.int .i64) 3 w' w.heap.size (fun _ => True) v1_ r2 ∧ Below w.heap.size w w' := by
 have HR := qa.mk hr0_1;have HC := qa.mk hc0_1;have HB := qa.mk (Below.refl w.heap.size w);have hu1 := Tryz.underlying40;have hu2 := Tryz.underlying62;have hu3 := Tryz.underlying71;rw [Yd.f] at h;replace h := zB0 h;obtain ⟨⟨p1, p2, p3⟩, hp, h⟩ := h;have HP := qa.mk hp;clear hr0_1 hc0_1 hp;cases p3 with
 | true =>
  rw [if_pos rfl] at h;obtain ⟨rfl, rfl, rfl⟩ : 0 = r1 ∧ [] = r2 ∧ false = r3 := by simpa using h
  clear h;go_enter Tryz.func27, Tryz.ntmps27;go_wp2_with (first
   | ((with_reducible refine Ma (N := 1) rfl ?_); refine Bg ?hg (N := 1) ?hd (cs := #[.int .i64 a0_0, .slice A0_1 l0_1.length c0_1]) (t := 62) ?hr ?_; (case hd => rfl); (case hg => rfl); (case hr => first | (go_simp; done) | (go_simp; rfl)); intro g1 hg w1 hbox hb; have B1 := qa.mk (Rc HB.out hb); have K1 := qa.mk hbox; clear hb hbox hg HB)
   | ((with_reducible refine Ma (N := 2) rfl ?_); refine Bg ?hg (N := 2) ?hd (cs := #[.int .i64 0, .slice none 0 0]) (t := 40) ?hr ?_; (case hd => rfl); (case hg => rfl); (case hr => first | (go_simp; done) | (go_simp; rfl)); intro g2 hg w2 hbox hb; have GE2 := qa.mk ((by rw [hg]; exact Ua B1.out) : w.heap.size ≤ g2); have K1' := qa.mk (Na K1.out hb); have B2 := qa.mk (Rc B1.out hb); have K2 := qa.mk hbox; clear K1 B1 hb hbox hg; have q10 : w2.cell? ⟨g1, 0, none⟩ = some (.int .i64 a0_0) := (Ya K1'.out 0).trans rfl; have q11 : w2.cell? ⟨g1, 1, none⟩ = some (.slice A0_1 l0_1.length c0_1) := (Ya K1'.out 1).trans rfl)
   | (go_at_call 33; refine (Bb.calls k a0_0 A0_1 c0_1 l0_1 p1 p2 true _ (Kd.C_below HR.out B2.out) HC.out HP.out).mono ?_; rintro e w3 ⟨v0, v1, rfl, ow, hz0, hz1, hb⟩; obtain ⟨Az0, cz0, rfl⟩ := Kd.S_slice hz0; obtain ⟨Az1, cz1, rfl⟩ := Kd.S_slice hz1; clear hz0 hz1 ow; have K3 := qa.mk (Na K2.out hb); have B3 := qa.mk (Rc B2.out hb); clear K1' K2 B2 q10 q11; have K3' := qa.mk (Qa K3.out (.cells #[.slice Az0 p1.length cz0, .slice Az1 p2.length cz1] 71 (0, 0))); have q20 := (Ya K3'.out 0).trans rfl; have q21 := (Ya K3'.out 1).trans rfl; have f20 := Ea K3'.out 0; have f21 := Ea K3'.out 1; clear hb))
  refine bodyPost_ret (Og rfl _ _ g2 40 #[.int .i64 0, .slice none 0 0] (0, 0) _ rfl (by refine Yb (cs := #[.int .i64 0, .slice none 0 0]) ?_ 1 _ rfl; refine Yb (cs := #[.int .i64 0, .slice none 0 0]) ?_ 0 _ rfl; exact K3'.out) Tryz.underlying40 rfl (by kernel_rfl)) rfl ?_;exact ⟨_, rfl, Kd.R_nil _ _ _ _ _, Re (Re (Yf B3.out _) GE2.out) GE2.out⟩
 | false =>
  rw [if_neg (by simp)] at h;replace h := zB0 h;obtain ⟨⟨q1, q2⟩, hq, h⟩ := h;obtain ⟨rfl, rfl, rfl⟩ : q1 = r1 ∧ q2 = r2 ∧ true = r3 := by simpa using h
  have HQ := qa.mk hq;clear h hq;go_enter Tryz.func27, Tryz.ntmps27;go_wp2_with (first
   | ((with_reducible refine Ma (N := 1) rfl ?_); refine Bg ?hg (N := 1) ?hd (cs := #[.int .i64 a0_0, .slice A0_1 l0_1.length c0_1]) (t := 62) ?hr ?_; (case hd => rfl); (case hg => rfl); (case hr => first | (go_simp; done) | (go_simp; rfl)); intro g1 hg w1 hbox hb; have B1 := qa.mk (Rc HB.out hb); have K1 := qa.mk hbox; clear hb hbox hg HB)
   | ((with_reducible refine Ma (N := 2) rfl ?_); refine Bg ?hg (N := 2) ?hd (cs := #[.int .i64 0, .slice none 0 0]) (t := 40) ?hr ?_; (case hd => rfl); (case hg => rfl); (case hr => first | (go_simp; done) | (go_simp; rfl)); intro g2 hg w2 hbox hb; have GE2 := qa.mk ((by rw [hg]; exact Ua B1.out) : w.heap.size ≤ g2); have K1' := qa.mk (Na K1.out hb); have B2 := qa.mk (Rc B1.out hb); have K2 := qa.mk hbox; clear K1 B1 hb hbox hg; have q10 : w2.cell? ⟨g1, 0, none⟩ = some (.int .i64 a0_0) := (Ya K1'.out 0).trans rfl; have q11 : w2.cell? ⟨g1, 1, none⟩ = some (.slice A0_1 l0_1.length c0_1) := (Ya K1'.out 1).trans rfl)
   | (go_at_call 33; refine (Bb.calls k a0_0 A0_1 c0_1 l0_1 p1 p2 false _ (Kd.C_below HR.out B2.out) HC.out HP.out).mono ?_; rintro e w3 ⟨v0, v1, rfl, ow, hz0, hz1, hb⟩; obtain ⟨Az0, cz0, rfl⟩ := Kd.S_slice hz0; obtain ⟨Az1, cz1, rfl⟩ := Kd.S_slice hz1; clear hz0 hz1 ow; have K1 := qa.mk (Na K1'.out hb); have K3 := qa.mk (Na K2.out hb); have B3 := qa.mk (Rc B2.out hb); clear K1' K2 B2 q10 q11; clear hb))
  obtain ⟨g6, hg6⟩ : ∃ g6, g6 = w3.heap.size + 1 := ⟨_, rfl⟩;rw [← hg6];have K16 := qa.mk (Qa (Qa K1.out (.cells #[.slice Az0 p1.length cz0, .slice Az1 p2.length cz1] 71 (0, 0))) (.cells #[.int .i64 0, .slice none 0 0] 40 (0, 0)));have K26 := qa.mk (Qa (Qa K3.out (.cells #[.slice Az0 p1.length cz0, .slice Az1 p2.length cz1] 71 (0, 0))) (.cells #[.int .i64 0, .slice none 0 0] 40 (0, 0)));have hs6 : (w3.alloc (.cells #[.slice Az0 p1.length cz0, .slice Az1 p2.length cz1] 71 (0, 0))).heap.size = w3.heap.size + 1 := by simp
  have K6 := qa.mk (by rw [hg6, ← hs6]; exact Ph _ _ : ((w3.alloc (.cells #[.slice Az0 p1.length cz0, .slice Az1 p2.length cz1] 71 (0, 0))).alloc (.cells #[.int .i64 0, .slice none 0 0] 40 (0, 0))).heap[g6]? = some (.cells #[.int .i64 0, .slice none 0 0] 40 (0, 0)));clear hs6;have B6 := qa.mk (Yf (Yf B3.out (.cells #[.slice Az0 p1.length cz0, .slice Az1 p2.length cz1] 71 (0, 0))) (.cells #[.int .i64 0, .slice none 0 0] 40 (0, 0)));have GE6 := qa.mk (by have := Ua B3.out; omega : w.heap.size ≤ g6);have NE16 := qa.mk (by have := Lf K1.out; omega : g1 ≠ g6);have NE26 := qa.mk (by have := Lf K3.out; omega : g2 ≠ g6);clear K1 K3 B3 hg6;go_loopg [7] k (fun kq v7 wr => ∃ (s q : Int) (v : List Int) (vv : Value), v7 = .int .i64 s ∧ qa (fnd.l kq a0_0 l0_1 q v s = some (q1, q2)) ∧ qa (kq ≤ k) ∧ qa (FSt g1 g6 a0_0 A0_1 c0_1 l0_1 w wr #[.int .i64 q, vv]) ∧ qa (Kd.R (Kd.int .i64) 3 wr w.heap.size (fun z => z ≠ g2 ∧ z ≠ g6) vv v) ∧ qa (wr.heap[g2]? = some (.cells #[.int .i64 0, .slice none 0 0] 40 (0, 0))));case atStart =>
   exact ⟨1, 0, [], .slice none 0 0, rfl, HQ, ⟨Nat.le_refl _⟩, ⟨⟨K16.out, K6.out, B6.out⟩⟩, ⟨Kd.R_nil _ _ _ _ _⟩, K26⟩
  case round =>
   clear HQ K16 K26 B6 K6;obtain ⟨s, q, v, vv, rfl, HA, HKq, HS, HV, HG⟩ := hrel;cases gk with
   | zero => exact absurd HA.out (by simp [fnd.l])
   | succ k2 =>
    have h := HA.out;clear HA;rw [fnd.l] at h;have q60 : wr.cell? ⟨g6, 0, none⟩ = some (.int .i64 q) := (Ya HS.out.O 0).trans rfl;by_cases c1 : q = 0
    ·rw [if_pos c1] at h;have c1b : (q == 0) = true := beq_iff_eq.2 c1;replace h := zB0 h;obtain ⟨r, hr, h⟩ := h;have HX := qa.mk h;have hq := Rk.calls a0_0 A0_1 c0_1 l0_1 HC.out g1 g6 NE16.out w HR.out GE6.out q vv k2 none 0 [] s r wr (Nat.le_refl _) HS.out (fun W _ => Kd.C_nil _ _) hr;rw [List.length_nil] at hq;have HE := qa.mk hq;have q10 : wr.cell? ⟨g1, 0, none⟩ = some (.int .i64 a0_0) := (Ya HS.out.V 0).trans rfl;clear hr h c1 hq;go_wp2_with (go_at_call 61; refine HE.out.mono ?_; rintro e w7 ⟨rfl, hK, hS⟩; have HS7 := qa.mk hS; have HK7 := qa.mk hK; clear hS hK q60 q10);go_roundg k2;case measure => have := HKq.out; omega
     case rel =>
      have hx := HX.out;have hs := HS7.out;have hg := Vt HG.out HK7.out (fun e => NE26.out e);cases r with
      | none => exact ⟨wrap64 (s + 1), q, v, vv, by first | rfl | (simp; done) | (simp [*]; done), ⟨hx⟩, ⟨by have := HKq.out; omega⟩, ⟨hs⟩, ⟨Kd.R_kept HV.out HK7.out (fun z hz he => hz.2 he)⟩, ⟨hg⟩⟩
      | some p =>
       obtain ⟨v3, h3, h4⟩ := hs;have l2 := Lf HG.out;have l6 := Lf HS.out.O;exact ⟨wrap64 (s + 1), p.1, p.2, v3, by first | rfl | (simp; done) | (simp [*]; done), ⟨hx⟩, ⟨by have := HKq.out; omega⟩, ⟨h3⟩, ⟨Kd.R_mono h4 (fun z hz => ⟨by omega, by omega⟩)⟩, ⟨hg⟩⟩
    ·rw [if_neg c1] at h;have c1b : (q == 0) = false := beq_eq_false_iff_ne.2 c1;obtain ⟨rfl, rfl⟩ : q = q1 ∧ v = q2 := by simpa using h
     clear h c1;obtain ⟨Av, cv, rfl⟩ := Kd.R_slice HV.out;have q61 : wr.cell? ⟨g6, 1, none⟩ = some (.slice Av v.length cv) := (Ya HS.out.O 1).trans rfl;have q20 : wr.cell? ⟨g2, 0, none⟩ = some (.int .i64 0) := (Ya HG.out 0).trans rfl;have q21 : wr.cell? ⟨g2, 1, none⟩ = some (.slice none 0 0) := (Ya HG.out 1).trans rfl;have f20 := Ea HG.out 0;have f21 := Ea HG.out 1;go_wp2;refine bodyPost_ret (Og rfl _ _ g2 40 #[.int .i64 q, .slice Av v.length cv] (0, 0) _ rfl (by refine Yb (cs := #[.int .i64 q, .slice none 0 0]) ?_ 1 _ rfl; refine Yb (cs := #[.int .i64 0, .slice none 0 0]) ?_ 0 _ rfl; exact HG.out) Tryz.underlying40 rfl (by kernel_rfl)) rfl ?_;exact ⟨_, rfl, Kd.R_mono (Kd.R_far (p := ⟨g2, 1, none⟩) (Kd.R_far (p := ⟨g2, 0, none⟩) HV.out (fun _ hk => hk.1) _) (fun _ hk => hk.1) _) (fun _ _ => trivial), Re (Re HS.out.B GE2.out) GE2.out⟩
end
def Ob.l0 : Nat → List (S40) → List (S62) → Int → Int → Option ((List (S40)) × Bool)
 | 0, _, _, _, _ => none
 | k + 1, x4, x15, x16, x17 => if x17 < x16 then (if 0 ≤ x17 then (if x17 < (x15.length : Int) then ((Yd.f k ((Oe x15 x17).f0) ((Oe x15 x17).f1)).bind fun bt322 => (if x4.length < 4398046511104 then (Ob.l0 k (x4 ++ [(⟨bt322.1, bt322.2.1⟩ : S40)]) x15 x16 (wrap64 (x17 + 1))) else (none))) else (none)) else (none)) else (some (x4, true))
def Ob.f (k : Nat) (a0_0 : Int) (l0_1 : List (List Int)) : Option ((List (S40)) × Bool) := (Sd.f k a0_0 l0_1).bind fun t309 => (if t309 = true then ((Gc.f k a0_0 l0_1).bind fun bt313 => ((Ga.f k bt313.1 bt313.2).bind fun t317 => (Ob.l0 k (([] : List (S40))) t317 (t317.length : Int) 0))) else (some (([] : List (S40)), false)))
theorem Ob.calls (k : Nat) (a0_0 : Int) (A0_1 : Option Addr) (c0_1 : Nat) (l0_1 : List (List Int)) (r1 : List (S40)) (r2 : Bool) (w : World) (hr0_1 : Kd.C (Kd.slice 3 (Kd.int .i64)) w A0_1 l0_1.length l0_1) (hc0_1 : l0_1.length ≤ c0_1) (h : Ob.f k a0_0 l0_1 = some (r1, r2)) :
 Calls Tryz.prog 5 #[.agg #[.int .i64 a0_0, .slice A0_1 l0_1.length c0_1]] w fun e w' => ∃ v0_ : Value, e = .returned (.tuple #[v0_, .bool r2]) ∧ Kd.S k40 40 w' w.heap.size (fun _ => True) v0_ r1 ∧ Below w.heap.size w w' := by
 have hu24 := Tryz.underlying24;have hu62 := Tryz.underlying62;have hu40 := Tryz.underlying40;have HR0_1 := qa.mk hr0_1;have HC0_1 := qa.mk hc0_1;clear hr0_1 hc0_1;have HB := qa.mk (Below.refl w.heap.size w);have H : ((Sd.f k a0_0 l0_1).bind fun t309 => (if t309 = true then ((Gc.f k a0_0 l0_1).bind fun bt313 => ((Ga.f k bt313.1 bt313.2).bind fun t317 => (Ob.l0 k (([] : List (S40))) t317 (t317.length : Int) 0))) else (some (([] : List (S40)), false)))) = some (r1, r2) := h;clear h;replace H := zB0 H;obtain ⟨t309, A20, H⟩ := H;replace H : (if t309 = true then ((Gc.f k a0_0 l0_1).bind fun bt313 => ((Ga.f k bt313.1 bt313.2).bind fun t317 => (Ob.l0 k (([] : List (S40))) t317 (t317.length : Int) 0))) else (some (([] : List (S40)), false))) = some (r1, r2) := H;have A2 := qa.mk A20;clear A20;by_cases c3 : t309 = true
 rotate_left
 ·replace c3 := Bool.eq_false_iff.mpr c3;subst c3;rw [if_neg zF] at H;simp only [Option.some.injEq, Prod.mk.injEq] at H;obtain ⟨rfl, rfl⟩ := H;go_enter Tryz.func5, Tryz.ntmps5;go_wp2_with (first | ((with_reducible refine Ma (N := 1) rfl ?_); refine zq 1 #[.int .i64 a0_0, .slice A0_1 l0_1.length c0_1] 24 ?_; intro gb308 hg w33 hbox hb; have GW308 := zG hg HB; replace HB := zH hb HB; have BK308 := qa.mk hbox; have GE308 := GW308; clear hb hbox hg; obtain ⟨hcz34_0, hcz34_1, hfz34_0, hfz34_1⟩ := zC2 BK308) | ((with_reducible refine Va (f := 24) rfl ?_); refine zl 10 Tryz.func24 #[.agg #[.int .i64 a0_0, .slice A0_1 l0_1.length c0_1]] ?_; (with_reducible refine (Sd.calls k a0_0 _ _ l0_1 false _ ?side1 ?side2 A2.out).mono ?_); (case side1 => exact zQ (Kd.C_below HR0_1.out HB.out)); (case side2 => exact HC0_1.out); rintro e w35 ⟨rfl, hb⟩; refine ⟨_, rfl, ?_⟩; replace BK308 := zK BK308 hb; replace HB := zH hb HB; clear hb));go_ret2
  exact ⟨_, zL0, by first | exact Kd.S_nil _ _ _ _ _ | exact Kd.N_nil _ _ _ _ _ | exact Kd.V_nil _ _ _ _ _ | exact Kd.Q_nil _ _ _ _ _ | exact Kd.R_nil _ _ _ _ _, zh HB.out⟩
 subst c3;rw [if_pos rfl] at H;obtain ⟨y310, hy310⟩ : ∃ y_ : List (S40), y_ = (([] : List (S40))) := ⟨_, rfl⟩;rw [← hy310] at H;have Ny310 := qa.mk hy310;clear hy310;replace H := zB0 H;obtain ⟨⟨t313, t314⟩, A40, H⟩ := H;replace H : ((Ga.f k t313 t314).bind fun t317 => (Ob.l0 k y310 t317 (t317.length : Int) 0)) = some (r1, r2) := H;have A4 := qa.mk A40;clear A40;replace H := zB0 H;obtain ⟨t317, A50, H⟩ := H;replace H : (Ob.l0 k y310 t317 (t317.length : Int) 0) = some (r1, r2) := H;have A5 := qa.mk A50;clear A50;have H' := qa.mk H;clear H;go_enter Tryz.func5, Tryz.ntmps5;go_wp2_with (first | ((with_reducible refine Ma (N := 1) rfl ?_); refine zq 1 #[.int .i64 a0_0, .slice A0_1 l0_1.length c0_1] 24 ?_; intro gb308 hg w6 hbox hb; have GW308 := zG hg HB; replace HB := zH hb HB; have BK308 := qa.mk hbox; have GE308 := GW308; clear hb hbox hg; obtain ⟨hcz7_0, hcz7_1, hfz7_0, hfz7_1⟩ := zC2 BK308) | ((with_reducible refine Va (f := 24) rfl ?_); refine zl 10 Tryz.func24 #[.agg #[.int .i64 a0_0, .slice A0_1 l0_1.length c0_1]] ?_; (with_reducible refine (Sd.calls k a0_0 _ _ l0_1 true _ ?side1 ?side2 A2.out).mono ?_); (case side1 => exact zQ (Kd.C_below HR0_1.out HB.out)); (case side2 => exact HC0_1.out); rintro e w8 ⟨rfl, hb⟩; refine ⟨_, rfl, ?_⟩; replace BK308 := zK BK308 hb; replace HB := zH hb HB; clear hb) | ((with_reducible refine Ma (N := 12) rfl ?_); refine Kd.S_lit k40 _ 40 ?hg (N := 12) ?hd (xs := ([] : List (S40))) (inner := []) (ok := fun _ => True) (okp := fun _ => True) ?hr ?hp (fun _ hk => hk) trivial (Below.refl _ _) (Nat.le_refl _) (by simp) ?_; (case hd => rfl); (case hg => rfl); (case hr => first | (go_simp; done) | (go_simp; rfl)); (case hp => exact (qg.none _ _)); intro v311 w9 ho10 hb hg_ hnew_; clear hg_ hnew_; (first | rw [← Ny310.out] at ho10 | (simp only [Int.reduceToNat] at ho10; rw [← Ny310.out] at ho10)); have HO312 := qa.mk (Kd.S_lower ho10 (Ua (zh HB.out))); replace BK308 := zK BK308 hb; replace HB := zH hb HB; clear hb ho10; obtain ⟨hcz11_0, hcz11_1, hfz11_0, hfz11_1⟩ := zC2 BK308) | ((with_reducible refine Va (f := 25) rfl ?_); refine zl 14 Tryz.func25 #[.agg #[.int .i64 a0_0, .slice A0_1 l0_1.length c0_1]] ?_; (with_reducible refine (Gc.calls k a0_0 _ _ l0_1 t313 t314 _ ?side1 ?side2 A4.out).mono ?_); (case side1 => exact zQ (Kd.C_below HR0_1.out HB.out)); (case side2 => exact HC0_1.out); rintro e w12 ⟨v315, rfl, ho0, hb⟩; refine ⟨_, rfl, ?_⟩; have HO316 := qa.mk (Kd.R_lower ho0 (Ua (zh HB.out))); replace HO312 := qa.mk (Kd.S_below (by (with_reducible repeat (first | apply Kd.S_alloc | apply Kd.S_drewN | apply Kd.S_drew)); exact HO312.out) hb); replace BK308 := zK BK308 hb; replace HB := zH hb HB; clear hb; (try clear ho0); obtain ⟨Ao13, co13, eo13⟩ := Kd.R_slice HO316.out; subst eo13) | ((with_reducible refine Va (f := 26) rfl ?_); refine zl 15 Tryz.func26 #[.agg #[.int .i64 t313, .slice Ao13 t314.length co13]] ?_; (with_reducible refine (Ga.calls k t313 _ _ t314 t317 _ ?side1 ?side2 A5.out).mono ?_); (case side1 => exact zQ ((Kd.R_reads' HO316.out).2.2)); (case side2 => exact (Kd.R_reads' HO316.out).2.1); rintro e w14 ⟨v318, rfl, ho0, hb⟩; refine ⟨_, rfl, ?_⟩; have HO319 := qa.mk (Kd.V_lower (Kd.V_mono (ok' := fun k_ => some k_ ≠ (v311 : Value).ownBlock ∧ some k_ ≠ (.slice Ao13 t314.length co13 : Value).ownBlock ∧ k_ ≠ gb308) ho0 (fun k_ hk_ => ⟨(Kd.fresh' (Kd.S_lt (by (with_reducible repeat (first | apply Kd.S_alloc | apply Kd.S_drewN | apply Kd.S_drew)); exact HO312.out)) k_ hk_), (Kd.fresh' (Kd.R_lt (zr HO316.out)) k_ hk_), (Kd.freshB (g := gb308) (o := .cells #[.int .i64 a0_0, .slice A0_1 l0_1.length c0_1] 24 (0, 0)) (zb BK308.out) k_ hk_)⟩)) (Ua (zh HB.out))); replace HO312 := qa.mk (Kd.S_below (by (with_reducible repeat (first | apply Kd.S_alloc | apply Kd.S_drewN | apply Kd.S_drew)); exact HO312.out) hb); replace HO316 := qa.mk (Kd.R_below (zr HO316.out) hb); replace BK308 := zK BK308 hb; replace HB := zH hb HB; clear hb; (try clear ho0); obtain ⟨Ao15, co15, eo15⟩ := Kd.V_slice HO319.out; subst eo15));go_loopg [4, 17] k (fun kq v4 v17 w' => ∃ (x4_1 : List (S40)) (x17_1 : Int), v17 = .int .i64 x17_1 ∧ qa (Ob.l0 kq x4_1 t317 (t317.length : Int) x17_1 = some (r1, r2)) ∧ qa (kq ≤ k) ∧ qa (Kd.S k40 40 w' w.heap.size (fun _ => True) v4 x4_1) ∧ qa (Kd.V k62 62 w' w.heap.size (fun k_ => some k_ ≠ (v4 : Value).ownBlock ∧ k_ ≠ gb308) (.slice Ao15 t317.length co15) t317) ∧ qa (w'.heap[gb308]? = some (.cells #[.int .i64 a0_0, (.slice A0_1 l0_1.length c0_1)] 24 (0, 0))) ∧ qa (Below w.heap.size w w'));case atStart => exact ⟨(y310), (0), zE, H', ⟨Nat.le_refl _⟩, ⟨zS HO312.out⟩, ⟨by (with_reducible repeat (first | apply Kd.V_alloc | apply Kd.V_drewN | apply Kd.V_drew)); exact Kd.V_mono HO319.out (fun _ hk => ⟨hk.1, hk.2.2⟩)⟩, ⟨zb BK308.out⟩, ⟨zh HB.out⟩⟩
 case round =>
  clear H';try clear c2
  try clear p2
  try clear c3
  try clear c5
  try clear hcz11_0
  try clear hcz11_1
  try clear hcz7_0
  try clear hcz7_1
  try clear hfz11_0
  try clear hfz11_1
  try clear hfz7_0
  try clear hfz7_1
  obtain ⟨x4_1, x17_1, rfl, HA, HK1, HO_4, HO_15, BK308, HB⟩ := hrel;cases gk with
  | zero => exact absurd HA.out (by simp [Ob.l0])
  | succ k1 =>
   have H := HA.out;clear HA;simp only [Ob.l0] at H;by_cases c16 : x17_1 < (t317.length : Int)
   rotate_left
   ·rw [if_neg c16] at H;have c16b0 := decide_eq_false c16;clear c16;simp only [Option.some.injEq, Prod.mk.injEq] at H;obtain ⟨rfl, rfl⟩ := H;go_wp2;go_ret2
    exact ⟨_, zL0, by (with_reducible repeat (first | apply Kd.S_alloc | apply Kd.S_drewN | apply Kd.S_drew)); exact HO_4.out, zh HB.out⟩
   rw [if_pos c16] at H;have c16b0 := decide_eq_true c16;clear c16;by_cases c17 : 0 ≤ x17_1
   rotate_left
   ·rw [if_neg c17] at H;cases H
   rw [if_pos c17] at H;have c17b0 := decide_eq_true c17;clear c17;by_cases c18 : x17_1 < (t317.length : Int)
   rotate_left
   ·rw [if_neg c18] at H;cases H
   rw [if_pos c18] at H;have c18b0 := decide_eq_true c18;clear c18;replace H := zB0 H;obtain ⟨⟨t322, t323, t326⟩, A190, H⟩ := H;replace H : (if x4_1.length < 4398046511104 then (Ob.l0 k1 (x4_1 ++ [(⟨t322, t323⟩ : S40)]) t317 (t317.length : Int) (wrap64 (x17_1 + 1))) else (none)) = some (r1, r2) := H;have A19 := qa.mk A190;clear A190;by_cases c20 : x4_1.length < 4398046511104
   rotate_left
   ·rw [if_neg c20] at H;cases H
   rw [if_pos c20] at H;have LMc20 := qa.mk c20;clear c20;obtain ⟨y328, hy328⟩ : ∃ y_ : List (S40), y_ = (x4_1 ++ [(⟨t322, t323⟩ : S40)]) := ⟨_, rfl⟩;rw [← hy328] at H;have Ny328 := qa.mk hy328;clear hy328;have H' := qa.mk H;clear H;have p320 : 0 ≤ (x17_1 : Int) := zk;have q320 : x17_1 < (t317.length : Int) := zk;obtain ⟨ad320, A320_1, c320_1, e320, hx320_0, hx320_1, hl320_1, hi320_1⟩ := CB (Kd.V_reads' HO_15.out).2.2 x17_1 p320 q320;cases e320;obtain ⟨ce320, hce320, hMe320, hcc320⟩ := Kd.V_get HO_15.out z62 x17_1 p320 (by first | exact q320 | exact zk | (have e_ := (Kd.V_reads' HO_15.out).1; omega));obtain ⟨ua320_1, uc320_1, rfl, ul320_1, ge320_1⟩ := Iu hMe320;have hv320_1 := hcc320 1 _ rfl;rw [Vh _ _ 1 (by omega)] at hv320_1;replace hv320_1 := Option.some.inj (hv320_1.symm.trans hx320_1);injection hv320_1 with hva_ hvn_ hvc_;rw [hva_] at ge320_1;rw [hvc_] at ul320_1;have HL320_1 := qa.mk (show Kd.V Kd.bool 4 _ w.heap.size _ _ ((Oe t317 x17_1).f1) from Kd.V_mk ul320_1 ge320_1);clear hva_ hvn_ hvc_ ge320_1 ul320_1 hcc320 hce320;have HR320_1 := qa.mk hi320_1;have HC320_1 := qa.mk hl320_1;clear hi320_1 hl320_1;replace p320 := eq_true p320;replace q320 := eq_true q320;go_wp2_with (first | ((with_reducible refine Ma (N := 6) rfl ?_); refine zq 6 #[.int .i64 0, .slice none 0 0] 62 ?_; intro gb321 hg w21 hbox hb; have BK321 := qa.mk hbox; have GW321 := zG hg HB; have GE321 := zG hg HB; have NB308_321 := zNa hg BK308; have NB321_308 := zNb hg BK308; replace HO_4 := qa.mk (Kd.S_below (by (with_reducible repeat (first | apply Kd.S_alloc | apply Kd.S_drewN | apply Kd.S_drew)); exact HO_4.out) hb); replace HO_15 := qa.mk (Kd.V_below (Kd.V_elderB (by (with_reducible repeat (first | apply Kd.V_alloc | apply Kd.V_drewN | apply Kd.V_drew)); exact HO_15.out) gb321 (Nat.le_of_eq hg.symm)) hb); replace HL320_1 := qa.mk (Kd.V_below (Kd.V_elderB (by (with_reducible repeat (first | apply Kd.V_alloc | apply Kd.V_drewN | apply Kd.V_drew)); exact HL320_1.out) gb321 (Nat.le_of_eq hg.symm)) hb); replace BK308 := zK BK308 hb; replace HR320_1 := qa.mk (Kd.C_below (by repeat (first | (with_reducible exact HR320_1.out) | (with_reducible refine Kd.C_alloc ?_ _) | (with_reducible refine Kd.C_drewN ?_ _) | (with_reducible refine Kd.C_drew ?_) | exact HR320_1.out)) hb); replace HB := zH hb HB; clear hb hbox hg; have hnb22 := NB321_308.out; have hnc22 := NB308_321.out; obtain ⟨hcz23_0, hcz23_1, hfz23_0, hfz23_1⟩ := zC2 BK321) | ((with_reducible refine Va (f := 27) rfl ?_); refine zl 23 Tryz.func27 #[.agg #[.int .i64 ((Oe t317 x17_1).f0), .slice A320_1 ((Oe t317 x17_1).f1).length c320_1]] ?_; (with_reducible refine (Yd.calls k1 ((Oe t317 x17_1).f0) _ _ ((Oe t317 x17_1).f1) t322 t323 t326 _ ?side1 ?side2 A19.out).mono ?_); (case side1 => repeat (first | exact ((Kd.V_reads' (by (with_reducible repeat (first | apply Kd.V_alloc | apply Kd.V_drewN | apply Kd.V_drew)); exact (Kd.V_mono (Kd.V_far (p := ⟨gb321, 1, none⟩) (Kd.V_far (p := ⟨gb321, 0, none⟩) (Kd.V_mono HL320_1.out (fun k_ hk => (⟨hk, hk.2⟩ : _ ∧ k_ ≠ gb321))) (fun _ hk => hk.2) (.int .i64 ((Oe t317 x17_1).f0))) (fun _ hk => hk.2) (.slice A320_1 ((Oe t317 x17_1).f1).length c320_1)) (fun _ h_ => h_.1)))).2.2) | (with_reducible refine Kd.C_alloc ?_ _) | (with_reducible refine Kd.C_drewN ?_ _) | (with_reducible refine Kd.C_drew ?_))); (case side2 => exact HC320_1.out); rintro e w24 ⟨v324, rfl, ho0, hb⟩; refine ⟨_, rfl, ?_⟩; have HO325 := qa.mk (Kd.R_lower ho0 (Ua (zh HB.out))); replace HO_4 := qa.mk (Kd.S_elder' (by (with_reducible repeat (first | apply Kd.S_alloc | apply Kd.S_drewN | apply Kd.S_drew)); exact (Kd.S_mono (Kd.S_far (p := ⟨gb321, 1, none⟩) (Kd.S_far (p := ⟨gb321, 0, none⟩) (Kd.S_types HO_4.out BK321.out (by decide)) (fun _ hk => hk.2) (.int .i64 ((Oe t317 x17_1).f0))) (fun _ hk => hk.2) (.slice A320_1 ((Oe t317 x17_1).f1).length c320_1)) (fun _ h_ => h_.1))) (Kd.R_base ho0) hb); replace HO_15 := qa.mk (Kd.V_elder' (by (with_reducible repeat (first | apply Kd.V_alloc | apply Kd.V_drewN | apply Kd.V_drew)); exact (Kd.V_mono (Kd.V_far (p := ⟨gb321, 1, none⟩) (Kd.V_far (p := ⟨gb321, 0, none⟩) (Kd.V_mono HO_15.out (fun k_ hk => (⟨hk, hk.2⟩ : _ ∧ k_ ≠ gb321))) (fun _ hk => hk.2) (.int .i64 ((Oe t317 x17_1).f0))) (fun _ hk => hk.2) (.slice A320_1 ((Oe t317 x17_1).f1).length c320_1)) (fun _ h_ => h_.1))) (Kd.R_base ho0) hb); replace BK308 := qa.mk (Na (g := gb308) (o := .cells #[.int .i64 a0_0, .slice A0_1 l0_1.length c0_1] 24 (0, 0)) (zf2 BK308.out NB308_321.out NB308_321.out) hb); replace HR320_1 := qa.mk (Kd.C_below ((Kd.V_reads' (by (with_reducible repeat (first | apply Kd.V_alloc | apply Kd.V_drewN | apply Kd.V_drew)); exact (Kd.V_mono (Kd.V_far (p := ⟨gb321, 1, none⟩) (Kd.V_far (p := ⟨gb321, 0, none⟩) (Kd.V_mono HL320_1.out (fun k_ hk => (⟨hk, hk.2⟩ : _ ∧ k_ ≠ gb321))) (fun _ hk => hk.2) (.int .i64 ((Oe t317 x17_1).f0))) (fun _ hk => hk.2) (.slice A320_1 ((Oe t317 x17_1).f1).length c320_1)) (fun _ h_ => h_.1)))).2.2) hb); replace HL320_1 := qa.mk (Kd.V_elder' (by (with_reducible repeat (first | apply Kd.V_alloc | apply Kd.V_drewN | apply Kd.V_drew)); exact (Kd.V_mono (Kd.V_far (p := ⟨gb321, 1, none⟩) (Kd.V_far (p := ⟨gb321, 0, none⟩) (Kd.V_mono HL320_1.out (fun k_ hk => (⟨hk, hk.2⟩ : _ ∧ k_ ≠ gb321))) (fun _ hk => hk.2) (.int .i64 ((Oe t317 x17_1).f0))) (fun _ hk => hk.2) (.slice A320_1 ((Oe t317 x17_1).f1).length c320_1)) (fun _ h_ => h_.1))) (Kd.R_base ho0) hb); replace BK321 := qa.mk (Na (g := gb321) (o := .cells #[.int .i64 ((Oe t317 x17_1).f0), .slice A320_1 ((Oe t317 x17_1).f1).length c320_1] 62 (0, 0)) (by (with_reducible repeat (first | refine Ca ?_ _ | refine Ra ?_ | refine Qa ?_ _)); refine Yb (cs := #[.int .i64 ((Oe t317 x17_1).f0), .slice none 0 0]) ?_ 1 _ rfl; (with_reducible repeat (first | refine Ca ?_ _ | refine Ra ?_ | refine Qa ?_ _)); refine Yb (cs := #[.int .i64 0, .slice none 0 0]) ?_ 0 _ rfl; exact zb BK321.out) hb); replace HB := zH hb HB; clear hb; (try clear ho0)) | ((with_reducible refine Ma (N := 7) rfl ?_); refine zq 7 #[.int .i64 0, .slice none 0 0] 40 ?_; intro gb327 hg w25 hbox hb; have BK327 := qa.mk hbox; have GW327 := zG hg HB; have GE327 := zG hg HB; have NB308_327 := zNa hg BK308; have NB327_308 := zNb hg BK308; have NB321_327 := zNa hg BK321; have NB327_321 := zNb hg BK321; replace HO_4 := qa.mk (Kd.S_below (Kd.S_elderB (by (with_reducible repeat (first | apply Kd.S_alloc | apply Kd.S_drewN | apply Kd.S_drew)); exact HO_4.out) gb327 (Nat.le_of_eq hg.symm)) hb); replace HO_15 := qa.mk (Kd.V_below (Kd.V_elderB (by (with_reducible repeat (first | apply Kd.V_alloc | apply Kd.V_drewN | apply Kd.V_drew)); exact HO_15.out) gb327 (Nat.le_of_eq hg.symm)) hb); replace HL320_1 := qa.mk (Kd.V_below (Kd.V_elderB (by (with_reducible repeat (first | apply Kd.V_alloc | apply Kd.V_drewN | apply Kd.V_drew)); exact HL320_1.out) gb327 (Nat.le_of_eq hg.symm)) hb); replace HO325 := qa.mk (Kd.R_below (zr HO325.out) hb); replace BK308 := zK BK308 hb; replace HR320_1 := qa.mk (Kd.C_below (by repeat (first | (with_reducible exact HR320_1.out) | (with_reducible refine Kd.C_alloc ?_ _) | (with_reducible refine Kd.C_drewN ?_ _) | (with_reducible refine Kd.C_drew ?_) | exact HR320_1.out)) hb); replace BK321 := zK BK321 hb; replace HB := zH hb HB; clear hb hbox hg; have hnb26 := NB327_308.out; have hnc26 := NB308_327.out; have hnb27 := NB327_321.out; have hnc27 := NB321_327.out; obtain ⟨hcz28_0, hcz28_1, hfz28_0, hfz28_1⟩ := zC2 BK327; obtain ⟨Ao29, co29, eo29⟩ := Kd.R_slice HO325.out; subst eo29) | ((with_reducible refine Fh (t := 40) (p := 7) rfl ?_); refine Yh (t := 40) (p := 7) (v := ?vo_w30) (w1 := ((w25.setCell ⟨gb327, 0, none⟩ (.int .i64 t322)).setCell ⟨gb327, 1, none⟩ (.slice Ao29 t323.length co29))) ?hg ?ho ?hn ?hr ?_; (case ho => rfl); (case hg => rfl); (case hn => rfl); (case hr => first | (go_simp; done) | (go_simp; rfl)); intro w30 hw; replace HO_4 : qa (Kd.S k40 40 w30 w.heap.size (fun k_ => some k_ ≠ (.slice Ao29 t323.length co29 : Value).ownBlock ∧ k_ ≠ gb327) u4 x4_1) := ⟨(by rw [hw]; exact (by (with_reducible repeat (first | apply Kd.S_alloc | apply Kd.S_drewN | apply Kd.S_drew)); exact Kd.S_mono (Kd.S_far (p := ⟨gb327, 1, none⟩) (Kd.S_far (p := ⟨gb327, 0, none⟩) (Kd.S_mono HO_4.out (fun k_ hk => (⟨hk, hk.2⟩ : _ ∧ k_ ≠ gb327))) (fun _ hk => hk.2) (.int .i64 t322)) (fun _ hk => hk.2) (.slice Ao29 t323.length co29)) (fun _ hk => ⟨hk.1.1.2, hk.1.2⟩)))⟩; replace HO_15 : qa (Kd.V k62 62 w30 w.heap.size (fun k_ => some k_ ≠ (u4 : Value).ownBlock ∧ some k_ ≠ (.slice Ao29 t323.length co29 : Value).ownBlock ∧ k_ ≠ gb308 ∧ k_ ≠ gb321 ∧ k_ ≠ gb327) (.slice (some ad320) t317.length co15) t317) := ⟨(by rw [hw]; exact (by (with_reducible repeat (first | apply Kd.V_alloc | apply Kd.V_drewN | apply Kd.V_drew)); exact Kd.V_mono (Kd.V_far (p := ⟨gb327, 1, none⟩) (Kd.V_far (p := ⟨gb327, 0, none⟩) (Kd.V_mono HO_15.out (fun k_ hk => (⟨hk, hk.2⟩ : _ ∧ k_ ≠ gb327))) (fun _ hk => hk.2) (.int .i64 t322)) (fun _ hk => hk.2) (.slice Ao29 t323.length co29)) (fun _ hk => ⟨hk.1.1.1.1.1, ⟨hk.1.1.2, ⟨hk.1.1.1.1.2, ⟨hk.1.1.1.2, hk.1.2⟩⟩⟩⟩)))⟩; replace HL320_1 : qa (Kd.V Kd.bool 4 w30 w.heap.size (fun k_ => some k_ ≠ (u4 : Value).ownBlock ∧ some k_ ≠ (.slice Ao29 t323.length co29 : Value).ownBlock ∧ k_ ≠ gb308 ∧ k_ ≠ gb321 ∧ k_ ≠ gb327) (.slice A320_1 ((Oe t317 x17_1).f1).length c320_1) ((Oe t317 x17_1).f1)) := ⟨(by rw [hw]; exact (by (with_reducible repeat (first | apply Kd.V_alloc | apply Kd.V_drewN | apply Kd.V_drew)); exact Kd.V_mono (Kd.V_far (p := ⟨gb327, 1, none⟩) (Kd.V_far (p := ⟨gb327, 0, none⟩) (Kd.V_mono HL320_1.out (fun k_ hk => (⟨hk, hk.2⟩ : _ ∧ k_ ≠ gb327))) (fun _ hk => hk.2) (.int .i64 t322)) (fun _ hk => hk.2) (.slice Ao29 t323.length co29)) (fun _ hk => ⟨hk.1.1.1.1.1, ⟨hk.1.1.2, ⟨hk.1.1.1.1.2, ⟨hk.1.1.1.2, hk.1.2⟩⟩⟩⟩)))⟩; replace HO325 : qa (Kd.R (Kd.int .i64) 3 w30 w.heap.size (fun _ => True) (.slice Ao29 t323.length co29) t323) := ⟨(by rw [hw]; exact (by (with_reducible repeat (first | apply Kd.R_alloc | apply Kd.R_drewN | apply Kd.R_drew)); exact Kd.R_mono (Kd.R_far (p := ⟨gb327, 1, none⟩) (Kd.R_far (p := ⟨gb327, 0, none⟩) (Kd.R_types HO325.out BK327.out (by decide)) (fun _ hk => hk.2) (.int .i64 t322)) (fun _ hk => hk.2) (.slice Ao29 t323.length co29)) (fun _ hk => trivial)))⟩; replace BK308 : qa (w30.heap[gb308]? = some (.cells #[.int .i64 a0_0, .slice A0_1 l0_1.length c0_1] 24 (0, 0))) := ⟨(by rw [hw]; exact (zf2 BK308.out NB308_327.out NB308_327.out))⟩; replace BK321 : qa (w30.heap[gb321]? = some (.cells #[.int .i64 ((Oe t317 x17_1).f0), .slice A320_1 ((Oe t317 x17_1).f1).length c320_1] 62 (0, 0))) := ⟨(by rw [hw]; exact (zf2 BK321.out NB321_327.out NB321_327.out))⟩; replace BK327 : qa (w30.heap[gb327]? = some (.cells #[.int .i64 t322, .slice Ao29 t323.length co29] 40 (0, 0))) := ⟨(by rw [hw]; exact (by (with_reducible repeat (first | refine Ca ?_ _ | refine Ra ?_ | refine Qa ?_ _)); refine Yb (cs := #[.int .i64 t322, .slice none 0 0]) ?_ 1 _ rfl; (with_reducible repeat (first | refine Ca ?_ _ | refine Ra ?_ | refine Qa ?_ _)); refine Yb (cs := #[.int .i64 0, .slice none 0 0]) ?_ 0 _ rfl; exact zb BK327.out))⟩; replace HB : qa (Below w.heap.size w w30) := ⟨(by rw [hw]; exact (zh HB.out))⟩; clear hw; obtain ⟨hcz31_0, hcz31_1, hfz31_0, hfz31_1⟩ := zC2 BK327) | ((with_reducible refine Uc (b := .append) (xs := #[.tmp 26, .tmp 28]) rfl ?_); at_builtin; refine Kd.S_append k40 (w0 := w) w.heap.size rfl (.tmp 26) (.tmp 28) 25 40 (.agg #[(.int .i64 0), (.slice none 0 0)]) 32 rfl Tryz.underlying25 Vy rfl (by decide) (by omega) u4 x4_1 (⟨t322, t323⟩ : S40) [.int .i64 t322, .slice Ao29 t323.length co29] (fun k_ => k_ ≠ gb327) (fun k_ => some k_ = (.slice Ao29 t323.length co29 : Value).ownBlock) rfl rfl ?aP (fun k_ hk_ => ((Kd.R_mono (ok' := fun k_ => ((fun k_ => k_ ≠ gb327)) k_ ∧ some k_ ≠ (u4 : Value).ownBlock) (Kd.R_types (Kd.R_apart' (HO325.out) (Kd.S_typed HO_4.out) (by decide)) BK327.out (by decide)) (fun k_ hk => ⟨hk.2, hk.1.2⟩))).1 k_ hk_.symm) ?aF ?aO ?aB ?aS ?aL ?_; (case aP => exact LB _ _ _ (⟨t322, t323⟩ : S40) (Kd.R_mono (Kd.R_tight rfl (Kd.R_mono (ok' := fun k_ => ((fun k_ => k_ ≠ gb327)) k_ ∧ some k_ ≠ (u4 : Value).ownBlock) (Kd.R_types (Kd.R_apart' (HO325.out) (Kd.S_typed HO_4.out) (by decide)) BK327.out (by decide)) (fun k_ hk => ⟨hk.2, hk.1.2⟩))) (fun _ h_ => h_))); (case aB => exact (zh HB.out)); (case aF => exact (fun k_ hk => Kd.freshB (g := gb327) (o := .cells #[.int .i64 t322, .slice Ao29 t323.length co29] 40 (0, 0)) (zb BK327.out) k_ hk)); (case aO => exact (by (with_reducible repeat (first | apply Kd.S_alloc | apply Kd.S_drewN | apply Kd.S_drew)); exact Kd.S_mono HO_4.out (fun k_ hk => ⟨hk.2, fun e_ => hk.1 e_⟩))); (case aS => exact (Ua (zh HB.out))); (case aL => have := LMc20.out; omega); intro v329 w32 ho hb hg hat; rw [← Ny328.out] at ho; have HO330 := qa.mk (ho); replace HO_15 := qa.mk (Kd.V_afterv (ok := (fun k_ => some k_ ≠ (.slice Ao29 t323.length co29 : Value).ownBlock ∧ k_ ≠ gb308 ∧ k_ ≠ gb321 ∧ k_ ≠ gb327)) (by (with_reducible repeat (first | apply Kd.V_alloc | apply Kd.V_drewN | apply Kd.V_drew)); exact Kd.V_mono HO_15.out (fun _ hk => ⟨⟨hk.2.1, ⟨hk.2.2.1, ⟨hk.2.2.2.1, hk.2.2.2.2⟩⟩⟩, hk.1⟩)) hg hat); replace BK308 := qa.mk (Qe (g := gb308) (o := .cells #[.int .i64 a0_0, .slice A0_1 l0_1.length c0_1] 24 (0, 0)) (zb BK308.out) hg (Kd.S_ne HO_4.out BK308.out (by decide))); replace HL320_1 := qa.mk (Kd.V_afterv (ok := (fun k_ => some k_ ≠ (.slice Ao29 t323.length co29 : Value).ownBlock ∧ k_ ≠ gb308 ∧ k_ ≠ gb321 ∧ k_ ≠ gb327)) (by (with_reducible repeat (first | apply Kd.V_alloc | apply Kd.V_drewN | apply Kd.V_drew)); exact Kd.V_mono HL320_1.out (fun _ hk => ⟨⟨hk.2.1, ⟨hk.2.2.1, ⟨hk.2.2.2.1, hk.2.2.2.2⟩⟩⟩, hk.1⟩)) hg hat); replace BK321 := qa.mk (Qe (g := gb321) (o := .cells #[.int .i64 ((Oe t317 x17_1).f0), .slice A320_1 ((Oe t317 x17_1).f1).length c320_1] 62 (0, 0)) (zb BK321.out) hg (Kd.S_ne HO_4.out BK321.out (by decide))); replace BK327 := qa.mk (Qe (g := gb327) (o := .cells #[.int .i64 t322, .slice Ao29 t323.length co29] 40 (0, 0)) (zb BK327.out) hg (Kd.S_away HO_4.out (fun _ hk => hk.2))); replace HB := qa.mk (hb); clear HO_4 HO325 ho hb hg hat));go_roundg k1;case measure => have := HK1.out; omega
   case rel => exact ⟨(y328), (wrap64 (x17_1 + 1)), zE, H', zO HK1, ⟨zS (Kd.S_mono HO330.out (fun _ hk => trivial))⟩, ⟨by (with_reducible repeat (first | apply Kd.V_alloc | apply Kd.V_drewN | apply Kd.V_drew)); exact Kd.V_mono HO_15.out (fun _ hk => ⟨hk.2, hk.1.2.1⟩)⟩, ⟨zb BK308.out⟩, ⟨zh HB.out⟩⟩
def Pd.f (k : Nat) (a0_0 : Int) (l0_1 : List (List Int)) : Option (Int × Bool) := (Sd.f k a0_0 l0_1).bind fun t499 => (if t499 = true then ((Gc.f k a0_0 l0_1).bind fun bt500 => ((Ga.f k bt500.1 bt500.2).bind fun t504 => (some ((t504.length : Int), true)))) else (some (0, false)))
theorem Pd.calls (k : Nat) (a0_0 : Int) (A0_1 : Option Addr) (c0_1 : Nat) (l0_1 : List (List Int)) (r1 : Int) (r2 : Bool) (w : World) (hr0_1 : Kd.C (Kd.slice 3 (Kd.int .i64)) w A0_1 l0_1.length l0_1) (hc0_1 : l0_1.length ≤ c0_1) (h : Pd.f k a0_0 l0_1 = some (r1, r2)) :
 Calls Tryz.prog 7 #[.agg #[.int .i64 a0_0, .slice A0_1 l0_1.length c0_1]] w fun e w' => e = .returned (.tuple #[.int .i64 r1, .bool r2]) ∧ Below w.heap.size w w' := by
 have hu24 := Tryz.underlying24;have HR0_1 := qa.mk hr0_1;have HC0_1 := qa.mk hc0_1;clear hr0_1 hc0_1;have HB := qa.mk (Below.refl w.heap.size w);have H : ((Sd.f k a0_0 l0_1).bind fun t499 => (if t499 = true then ((Gc.f k a0_0 l0_1).bind fun bt500 => ((Ga.f k bt500.1 bt500.2).bind fun t504 => (some ((t504.length : Int), true)))) else (some (0, false)))) = some (r1, r2) := h;clear h;replace H := zB0 H;obtain ⟨t499, A20, H⟩ := H;replace H : (if t499 = true then ((Gc.f k a0_0 l0_1).bind fun bt500 => ((Ga.f k bt500.1 bt500.2).bind fun t504 => (some ((t504.length : Int), true)))) else (some (0, false))) = some (r1, r2) := H;have A2 := qa.mk A20;clear A20;by_cases c3 : t499 = true
 rotate_left
 ·replace c3 := Bool.eq_false_iff.mpr c3;subst c3;rw [if_neg zF] at H;simp only [Option.some.injEq, Prod.mk.injEq] at H;obtain ⟨rfl, rfl⟩ := H;go_enter Tryz.func7, Tryz.ntmps7;go_wp2_with (first | ((with_reducible refine Ma (N := 1) rfl ?_); refine zq 1 #[.int .i64 a0_0, .slice A0_1 l0_1.length c0_1] 24 ?_; intro gb498 hg w14 hbox hb; have GW498 := zG hg HB; replace HB := zH hb HB; have BK498 := qa.mk hbox; have GE498 := GW498; clear hb hbox hg; obtain ⟨hcz15_0, hcz15_1, hfz15_0, hfz15_1⟩ := zC2 BK498) | ((with_reducible refine Va (f := 24) rfl ?_); refine zl 5 Tryz.func24 #[.agg #[.int .i64 a0_0, .slice A0_1 l0_1.length c0_1]] ?_; (with_reducible refine (Sd.calls k a0_0 _ _ l0_1 false _ ?side1 ?side2 A2.out).mono ?_); (case side1 => exact zQ (Kd.C_below HR0_1.out HB.out)); (case side2 => exact HC0_1.out); rintro e w16 ⟨rfl, hb⟩; refine ⟨_, rfl, ?_⟩; replace BK498 := zK BK498 hb; replace HB := zH hb HB; clear hb));go_ret2
  exact ⟨zL0, zh HB.out⟩
 subst c3;rw [if_pos rfl] at H;replace H := zB0 H;obtain ⟨⟨t500, t501⟩, A40, H⟩ := H;replace H : ((Ga.f k t500 t501).bind fun t504 => (some ((t504.length : Int), true))) = some (r1, r2) := H;have A4 := qa.mk A40;clear A40;replace H := zB0 H;obtain ⟨t504, A50, H⟩ := H;replace H : (some ((t504.length : Int), true)) = some (r1, r2) := H;have A5 := qa.mk A50;clear A50;simp only [Option.some.injEq, Prod.mk.injEq] at H;obtain ⟨rfl, rfl⟩ := H;go_enter Tryz.func7, Tryz.ntmps7;go_wp2_with (first | ((with_reducible refine Ma (N := 1) rfl ?_); refine zq 1 #[.int .i64 a0_0, .slice A0_1 l0_1.length c0_1] 24 ?_; intro gb498 hg w6 hbox hb; have GW498 := zG hg HB; replace HB := zH hb HB; have BK498 := qa.mk hbox; have GE498 := GW498; clear hb hbox hg; obtain ⟨hcz7_0, hcz7_1, hfz7_0, hfz7_1⟩ := zC2 BK498) | ((with_reducible refine Va (f := 24) rfl ?_); refine zl 5 Tryz.func24 #[.agg #[.int .i64 a0_0, .slice A0_1 l0_1.length c0_1]] ?_; (with_reducible refine (Sd.calls k a0_0 _ _ l0_1 true _ ?side1 ?side2 A2.out).mono ?_); (case side1 => exact zQ (Kd.C_below HR0_1.out HB.out)); (case side2 => exact HC0_1.out); rintro e w8 ⟨rfl, hb⟩; refine ⟨_, rfl, ?_⟩; replace BK498 := zK BK498 hb; replace HB := zH hb HB; clear hb; obtain ⟨hcz9_0, hcz9_1, hfz9_0, hfz9_1⟩ := zC2 BK498) | ((with_reducible refine Va (f := 25) rfl ?_); refine zl 8 Tryz.func25 #[.agg #[.int .i64 a0_0, .slice A0_1 l0_1.length c0_1]] ?_; (with_reducible refine (Gc.calls k a0_0 _ _ l0_1 t500 t501 _ ?side1 ?side2 A4.out).mono ?_); (case side1 => exact zQ (Kd.C_below HR0_1.out HB.out)); (case side2 => exact HC0_1.out); rintro e w10 ⟨v502, rfl, ho0, hb⟩; refine ⟨_, rfl, ?_⟩; have HO503 := qa.mk (Kd.R_lower ho0 (Ua (zh HB.out))); replace BK498 := zK BK498 hb; replace HB := zH hb HB; clear hb; (try clear ho0); obtain ⟨Ao11, co11, eo11⟩ := Kd.R_slice HO503.out; subst eo11) | ((with_reducible refine Va (f := 26) rfl ?_); refine zl 9 Tryz.func26 #[.agg #[.int .i64 t500, .slice Ao11 t501.length co11]] ?_; (with_reducible refine (Ga.calls k t500 _ _ t501 t504 _ ?side1 ?side2 A5.out).mono ?_); (case side1 => exact zQ ((Kd.R_reads' HO503.out).2.2)); (case side2 => exact (Kd.R_reads' HO503.out).2.1); rintro e w12 ⟨v505, rfl, ho0, hb⟩; refine ⟨_, rfl, ?_⟩; have HO506 := qa.mk (Kd.V_lower (Kd.V_mono (ok' := fun k_ => some k_ ≠ (.slice Ao11 t501.length co11 : Value).ownBlock ∧ k_ ≠ gb498) ho0 (fun k_ hk_ => ⟨(Kd.fresh' (Kd.R_lt (zr HO503.out)) k_ hk_), (Kd.freshB (g := gb498) (o := .cells #[.int .i64 a0_0, .slice A0_1 l0_1.length c0_1] 24 (0, 0)) (zb BK498.out) k_ hk_)⟩)) (Ua (zh HB.out))); replace HO503 := qa.mk (Kd.R_below (zr HO503.out) hb); replace BK498 := zK BK498 hb; replace HB := zH hb HB; clear hb; (try clear ho0); obtain ⟨Ao13, co13, eo13⟩ := Kd.V_slice HO506.out; subst eo13));go_ret2
 exact ⟨zL0, zh HB.out⟩
def qc.j0 : Nat → Bool → Int → List Int → Option (Int × List Int × Bool)
 | 0, _, _, _ => none
 | k + 1, x12, x603000, x603001 => if x12 = true then (some (0, ([] : List Int), false)) else ((Ic.f k x603000 x603001).bind fun bt605 => ((Yd.f k bt605.1 bt605.2).bind fun bt609 => (some (bt609.1, bt609.2.1, bt609.2.2))))
def qc.f (k : Nat) (a0_0 : Int) (l0_1 : List Int) : Option (Int × List Int × Bool) := (Nb.f k a0_0 l0_1).bind fun t604 => (if t604 = true then (qc.j0 k (decide ((l0_1.length : Int) > 5)) a0_0 l0_1) else (qc.j0 k true a0_0 l0_1))
theorem qc.calls (k : Nat) (a0_0 : Int) (A0_1 : Option Addr) (c0_1 : Nat) (l0_1 : List Int) (r1 : Int) (r2 : List Int) (r3 : Bool) (w : World) (hr0_1 : Kd.C (Kd.int .i64) w A0_1 l0_1.length l0_1) (hc0_1 : l0_1.length ≤ c0_1) (h : qc.f k a0_0 l0_1 = some (r1, r2, r3)) :
 Calls Tryz.prog 43 #[.agg #[.int .i64 a0_0, .slice A0_1 l0_1.length c0_1]] w fun e w' => ∃ v1_ : Value, e = .returned (.tuple #[.agg #[.int .i64 r1, v1_], .bool r3]) ∧ Kd.R (Kd.int .i64) 3 w' w.heap.size (fun _ => True) v1_ r2 ∧ Below w.heap.size w w' := by
 have hu40 := Tryz.underlying40;have HR0_1 := qa.mk hr0_1;have HC0_1 := qa.mk hc0_1;clear hr0_1 hc0_1;have HB := qa.mk (Below.refl w.heap.size w);have H : ((Nb.f k a0_0 l0_1).bind fun t604 => (if t604 = true then (qc.j0 k (decide ((l0_1.length : Int) > 5)) a0_0 l0_1) else (qc.j0 k true a0_0 l0_1))) = some (r1, r2, r3) := h;clear h;have HC2 := qa.mk H;clear H;go_enter Tryz.func43, Tryz.ntmps43;go_upto_region 1 with (first | ((with_reducible refine Ma (N := 1) rfl ?_); (try (refine Qg (by rfl) ?_; dsimp only)); refine zq 1 #[.int .i64 a0_0, .slice A0_1 l0_1.length c0_1] 40 ?_; intro gb602 hg w3 hbox hb; have n2_ := qa.mk ((by rw [hg]; exact (Ua (zh HB.out)) : w.heap.size ≤ gb602)); replace HB := qa.mk (Rc (zh HB.out) hb); have BK602 := qa.mk hbox; have GW602 := n2_; have GE602 := n2_; clear n2_ hb hbox hg) | ((with_reducible refine Ma (N := 2) rfl ?_); (try (refine Qg (by rfl) ?_; dsimp only)); refine zq 2 #[.int .i64 0, .slice none 0 0] 40 ?_; intro gb603 hg w4 hbox hb; have n0_ := qa.mk (Na (g := gb602) (o := .cells #[.int .i64 a0_0, .slice A0_1 l0_1.length c0_1] 40 (0, 0)) (zb BK602.out) hb); have n1_ := qa.mk (Rc (zh HB.out) hb); have n2_ := qa.mk (hbox); have n3_ := qa.mk ((by rw [hg]; exact (Ua (zh HB.out)) : w.heap.size ≤ gb603)); have n4_ := qa.mk ((by rw [hg]; exact (Ua (zh HB.out)) : w.heap.size ≤ gb603)); have n5_ := qa.mk ((by rw [hg]; exact Nat.ne_of_lt (Lf (g := gb602) (o := .cells #[.int .i64 a0_0, .slice A0_1 l0_1.length c0_1] 40 (0, 0)) (zb BK602.out)) : gb602 ≠ gb603)); have n6_ := qa.mk ((by rw [hg]; exact Nat.ne_of_gt (Lf (g := gb602) (o := .cells #[.int .i64 a0_0, .slice A0_1 l0_1.length c0_1] 40 (0, 0)) (zb BK602.out)) : gb603 ≠ gb602)); clear BK602; clear HB; have BK602 := n0_; have HB := n1_; have BK603 := n2_; have GW603 := n3_; have GE603 := n4_; have NB602_603 := n5_; have NB603_602 := n6_; clear n0_ n1_ n2_ n3_ n4_ n5_ n6_; clear hb hbox hg))
 (try simp only [Act.put, List.setIfInBounds_toArray, List.set_cons_zero, List.set_cons_succ])
 go_cut [12] (fun v12 wc => ∃ (kq : Nat) (x12_1 : Bool), v12 = .bool x12_1 ∧ qa (qc.j0 kq x12_1 a0_0 l0_1 = some (r1, r2, r3)) ∧ qa (kq ≤ k) ∧ qa (wc.heap[gb602]? = some (.cells #[.int .i64 a0_0, (.slice A0_1 l0_1.length c0_1)] 40 (0, 0))) ∧ qa (wc.heap[gb603]? = some (.cells #[.int .i64 0, (.slice none 0 0)] 40 (0, 0))) ∧ qa (Below w.heap.size w wc));case first =>
  have H := HC2.out;clear HC2;replace H := zB0 H;obtain ⟨t604, A50, H⟩ := H;replace H : (if t604 = true then (qc.j0 k (decide ((l0_1.length : Int) > 5)) a0_0 l0_1) else (qc.j0 k true a0_0 l0_1)) = some (r1, r2, r3) := H;have A5 := qa.mk A50;clear A50;by_cases c6 : t604 = true
  ·subst c6;rw [if_pos rfl] at H;have H' := qa.mk H;clear H;have hnb7 := NB602_603.out;have hnc7 := NB603_602.out;obtain ⟨hcz8_0, hcz8_1, hfz8_0, hfz8_1⟩ := zC2 BK602;go_wp2_with (first | ((with_reducible refine Va (f := 77) rfl ?_); refine zl 5 Tryz.func77 #[.agg #[.int .i64 a0_0, .slice A0_1 l0_1.length c0_1]] ?_; (with_reducible refine (Nb.calls k a0_0 _ _ l0_1 true _ ?side1 ?side2 A5.out).mono ?_); (case side1 => exact zQ (Kd.C_below HR0_1.out HB.out)); (case side2 => exact HC0_1.out); rintro e w9 ⟨rfl, hb⟩; refine ⟨_, rfl, ?_⟩; replace BK602 := zK BK602 hb; replace BK603 := zK BK603 hb; replace HB := zH hb HB; clear hb; obtain ⟨hcz10_0, hcz10_1, hfz10_0, hfz10_1⟩ := zC2 BK602));go_meet
   case rel => exact ⟨_, (decide ((l0_1.length : Int) > 5)), zE, H', ⟨by first | omega | exact Nat.le_refl _⟩, ⟨zb BK602.out⟩, ⟨zb BK603.out⟩, ⟨zh HB.out⟩⟩
  ·replace c6 := Bool.eq_false_iff.mpr c6;subst c6;rw [if_neg zF] at H;have H' := qa.mk H;clear H;have hnb11 := NB602_603.out;have hnc11 := NB603_602.out;obtain ⟨hcz12_0, hcz12_1, hfz12_0, hfz12_1⟩ := zC2 BK602;go_wp2_with (first | ((with_reducible refine Va (f := 77) rfl ?_); refine zl 5 Tryz.func77 #[.agg #[.int .i64 a0_0, .slice A0_1 l0_1.length c0_1]] ?_; (with_reducible refine (Nb.calls k a0_0 _ _ l0_1 false _ ?side1 ?side2 A5.out).mono ?_); (case side1 => exact zQ (Kd.C_below HR0_1.out HB.out)); (case side2 => exact HC0_1.out); rintro e w13 ⟨rfl, hb⟩; refine ⟨_, rfl, ?_⟩; replace BK602 := zK BK602 hb; replace BK603 := zK BK603 hb; replace HB := zH hb HB; clear hb));go_meet
   case rel => exact ⟨_, (true), zE, H', ⟨by first | omega | exact Nat.le_refl _⟩, ⟨zb BK602.out⟩, ⟨zb BK603.out⟩, ⟨zh HB.out⟩⟩
 case rest =>
  clear HC2;try clear c1
  try clear p2
  try clear c4
  try clear c6
  try clear c7
  try clear c11
  try clear hcz10_0
  try clear hcz10_1
  try clear hcz12_0
  try clear hcz12_1
  try clear hcz8_0
  try clear hcz8_1
  try clear hfz10_0
  try clear hfz10_1
  try clear hfz12_0
  try clear hfz12_1
  try clear hfz8_0
  try clear hfz8_1
  obtain ⟨kq, x12_1, rfl, HA, HJ1, BK602, BK603, HB⟩ := hcut;cases kq with
  | zero => exact absurd HA.out (by simp [qc.j0])
  | succ kj1 =>
   have H := HA.out;clear HA;simp only [qc.j0] at H;by_cases c14 : x12_1 = true
   ·subst c14;rw [if_pos rfl] at H;simp only [Option.some.injEq, Prod.mk.injEq] at H;obtain ⟨rfl, rfl, rfl⟩ := H;have hnb15 := NB603_602.out;have hnc15 := NB602_603.out;obtain ⟨hcz16_0, hcz16_1, hfz16_0, hfz16_1⟩ := zC2 BK603;go_wp2;refine bodyPost_ret (Og rfl _ _ gb603 40 #[.int .i64 0, .slice none 0 0] (0, 0) _ rfl (by (with_reducible repeat (first | refine Ca ?_ _ | refine Ra ?_ | refine Qa ?_ _)); refine Yb (cs := #[.int .i64 0, .slice none 0 0]) ?_ 1 _ rfl; (with_reducible repeat (first | refine Ca ?_ _ | refine Ra ?_ | refine Qa ?_ _)); refine Yb (cs := #[.int .i64 0, .slice none 0 0]) ?_ 0 _ rfl; exact zb BK603.out) Tryz.underlying40 rfl (by kernel_rfl)) rfl ?_;exact ⟨_, zL0, by first | exact Kd.R_nil _ _ _ _ _ | exact Kd.N_nil _ _ _ _ _ | exact Kd.V_nil _ _ _ _ _ | exact Kd.Q_nil _ _ _ _ _ | exact Kd.S_nil _ _ _ _ _, zh HB.out⟩
   replace c14 := Bool.eq_false_iff.mpr c14;subst c14;rw [if_neg zF] at H;replace H := zB0 H;obtain ⟨⟨t605, t606⟩, A170, H⟩ := H;replace H : ((Yd.f kj1 t605 t606).bind fun bt609 => (some (bt609.1, bt609.2.1, bt609.2.2))) = some (r1, r2, r3) := H;have A17 := qa.mk A170;clear A170;replace H := zB0 H;obtain ⟨⟨t609, t610, t613⟩, A180, H⟩ := H;replace H : (some (t609, t610, t613)) = some (r1, r2, r3) := H;have A18 := qa.mk A180;clear A180;simp only [Option.some.injEq, Prod.mk.injEq] at H;obtain ⟨rfl, rfl, rfl⟩ := H;have hnb19 := NB602_603.out;have hnc19 := NB603_602.out;obtain ⟨hcz20_0, hcz20_1, hfz20_0, hfz20_1⟩ := zC2 BK602;go_wp2_with (first | ((with_reducible refine Va (f := 78) rfl ?_); refine zl 15 Tryz.func78 #[.agg #[.int .i64 a0_0, .slice A0_1 l0_1.length c0_1]] ?_; (with_reducible refine (Ic.calls kj1 a0_0 _ _ l0_1 t605 t606 _ ?side1 ?side2 A17.out).mono ?_); (case side1 => exact zQ (Kd.C_below HR0_1.out HB.out)); (case side2 => exact HC0_1.out); rintro e w21 ⟨v607, rfl, ho0, hb⟩; refine ⟨_, rfl, ?_⟩; have HO608 := qa.mk (Kd.R_lower ho0 (Ua (zh HB.out))); replace BK602 := zK BK602 hb; replace BK603 := zK BK603 hb; replace HB := zH hb HB; clear hb; (try clear ho0); obtain ⟨Ao22, co22, eo22⟩ := Kd.R_slice HO608.out; subst eo22) | ((with_reducible refine Va (f := 27) rfl ?_); refine zl 16 Tryz.func27 #[.agg #[.int .i64 t605, .slice Ao22 t606.length co22]] ?_; (with_reducible refine (Yd.calls kj1 t605 _ _ t606 t609 t610 t613 _ ?side1 ?side2 A18.out).mono ?_); (case side1 => exact zQ ((Kd.R_reads' HO608.out).2.2)); (case side2 => exact (Kd.R_reads' HO608.out).2.1); rintro e w23 ⟨v611, rfl, ho0, hb⟩; refine ⟨_, rfl, ?_⟩; have HO612 := qa.mk (Kd.R_lower ho0 (Ua (zh HB.out))); replace HO608 := qa.mk (Kd.R_below (zr HO608.out) hb); replace BK602 := zK BK602 hb; replace BK603 := zK BK603 hb; replace HB := zH hb HB; clear hb; (try clear ho0); obtain ⟨hcz24_0, hcz24_1, hfz24_0, hfz24_1⟩ := zC2 BK603; obtain ⟨Ao25, co25, eo25⟩ := Kd.R_slice HO612.out; subst eo25));refine bodyPost_ret (Og rfl _ _ gb603 40 #[.int .i64 t609, .slice Ao25 t610.length co25] (0, 0) _ rfl (by (with_reducible repeat (first | refine Ca ?_ _ | refine Ra ?_ | refine Qa ?_ _)); refine Yb (cs := #[.int .i64 t609, .slice none 0 0]) ?_ 1 _ rfl; (with_reducible repeat (first | refine Ca ?_ _ | refine Ra ?_ | refine Qa ?_ _)); refine Yb (cs := #[.int .i64 0, .slice none 0 0]) ?_ 0 _ rfl; exact zb BK603.out) Tryz.underlying40 rfl (by kernel_rfl)) rfl ?_;exact ⟨_, zL0, by (with_reducible repeat (first | apply Kd.R_alloc | apply Kd.R_drewN | apply Kd.R_drew)); exact Kd.R_mono (Kd.R_far (p := ⟨gb603, 1, none⟩) (Kd.R_far (p := ⟨gb603, 0, none⟩) (Kd.R_types HO612.out BK603.out (by decide)) (fun _ hk => hk.2) (.int .i64 t609)) (fun _ hk => hk.2) (.slice Ao25 t610.length co25)) (fun _ hk => trivial), zh HB.out⟩
def Gf.f (k : Nat) (a0_0 : Int) (l0_1 : List Int) : Option (Bool × Bool) := (qc.f k a0_0 l0_1).bind fun bt620 => (if bt620.2.2 = true then ((Qf.f k a0_0 l0_1 bt620.1 bt620.2.1).bind fun t626 => (some (t626, bt620.2.2))) else (some (false, bt620.2.2)))
theorem Gf.calls (k : Nat) (a0_0 : Int) (A0_1 : Option Addr) (c0_1 : Nat) (l0_1 : List Int) (r1 : Bool) (r2 : Bool) (w : World) (hr0_1 : Kd.C (Kd.int .i64) w A0_1 l0_1.length l0_1) (hc0_1 : l0_1.length ≤ c0_1) (h : Gf.f k a0_0 l0_1 = some (r1, r2)) :
 Calls Tryz.prog 14 #[.agg #[.int .i64 a0_0, .slice A0_1 l0_1.length c0_1]] w fun e w' => e = .returned (.tuple #[.bool r1, .bool r2]) ∧ Below w.heap.size w w' := by
 have hu40 := Tryz.underlying40;have HR0_1 := qa.mk hr0_1;have HC0_1 := qa.mk hc0_1;clear hr0_1 hc0_1;have HB := qa.mk (Below.refl w.heap.size w);have H : ((qc.f k a0_0 l0_1).bind fun bt620 => (if bt620.2.2 = true then ((Qf.f k a0_0 l0_1 bt620.1 bt620.2.1).bind fun t626 => (some (t626, bt620.2.2))) else (some (false, bt620.2.2)))) = some (r1, r2) := h;clear h;replace H := zB0 H;obtain ⟨⟨t620, t621, t624⟩, A20, H⟩ := H;replace H : (if t624 = true then ((Qf.f k a0_0 l0_1 t620 t621).bind fun t626 => (some (t626, t624))) else (some (false, t624))) = some (r1, r2) := H;have A2 := qa.mk A20;clear A20;by_cases c3 : t624 = true
 rotate_left
 ·replace c3 := Bool.eq_false_iff.mpr c3;subst c3;rw [if_neg zF] at H;simp only [Option.some.injEq, Prod.mk.injEq] at H;obtain ⟨rfl, rfl⟩ := H;go_enter Tryz.func14, Tryz.ntmps14;go_wp2_with (first | ((with_reducible refine Ma (N := 1) rfl ?_); refine zq 1 #[.int .i64 a0_0, .slice A0_1 l0_1.length c0_1] 40 ?_; intro gb619 hg w14 hbox hb; have GW619 := zG hg HB; replace HB := zH hb HB; have BK619 := qa.mk hbox; have GE619 := GW619; clear hb hbox hg; obtain ⟨hcz15_0, hcz15_1, hfz15_0, hfz15_1⟩ := zC2 BK619) | ((with_reducible refine Va (f := 43) rfl ?_); refine zl 8 Tryz.func43 #[.agg #[.int .i64 a0_0, .slice A0_1 l0_1.length c0_1]] ?_; (with_reducible refine (qc.calls k a0_0 _ _ l0_1 t620 t621 false _ ?side1 ?side2 A2.out).mono ?_); (case side1 => exact zQ (Kd.C_below HR0_1.out HB.out)); (case side2 => exact HC0_1.out); rintro e w16 ⟨v622, rfl, ho0, hb⟩; refine ⟨_, rfl, ?_⟩; have HO623 := qa.mk (Kd.R_lower ho0 (Ua (zh HB.out))); replace BK619 := zK BK619 hb; replace HB := zH hb HB; clear hb; (try clear ho0)) | ((with_reducible refine Ma (N := 4) rfl ?_); refine zq 4 #[.int .i64 0, .slice none 0 0] 40 ?_; intro gb625 hg w17 hbox hb; have BK625 := qa.mk hbox; have GW625 := zG hg HB; have GE625 := zG hg HB; have NB619_625 := zNa hg BK619; have NB625_619 := zNb hg BK619; replace HO623 := qa.mk (Kd.R_below (zr HO623.out) hb); replace BK619 := zK BK619 hb; replace HB := zH hb HB; clear hb hbox hg; have hnb18 := NB625_619.out; have hnc18 := NB619_625.out; obtain ⟨hcz19_0, hcz19_1, hfz19_0, hfz19_1⟩ := zC2 BK625; obtain ⟨Ao20, co20, eo20⟩ := Kd.R_slice HO623.out; subst eo20));go_ret2
  exact ⟨zL0, zh HB.out⟩
 subst c3;rw [if_pos rfl] at H;replace H := zB0 H;obtain ⟨t626, A40, H⟩ := H;replace H : (some (t626, true)) = some (r1, r2) := H;have A4 := qa.mk A40;clear A40;simp only [Option.some.injEq, Prod.mk.injEq] at H;obtain ⟨rfl, rfl⟩ := H;go_enter Tryz.func14, Tryz.ntmps14;go_wp2_with (first | ((with_reducible refine Ma (N := 1) rfl ?_); refine zq 1 #[.int .i64 a0_0, .slice A0_1 l0_1.length c0_1] 40 ?_; intro gb619 hg w5 hbox hb; have GW619 := zG hg HB; replace HB := zH hb HB; have BK619 := qa.mk hbox; have GE619 := GW619; clear hb hbox hg; obtain ⟨hcz6_0, hcz6_1, hfz6_0, hfz6_1⟩ := zC2 BK619) | ((with_reducible refine Va (f := 43) rfl ?_); refine zl 8 Tryz.func43 #[.agg #[.int .i64 a0_0, .slice A0_1 l0_1.length c0_1]] ?_; (with_reducible refine (qc.calls k a0_0 _ _ l0_1 t620 t621 true _ ?side1 ?side2 A2.out).mono ?_); (case side1 => exact zQ (Kd.C_below HR0_1.out HB.out)); (case side2 => exact HC0_1.out); rintro e w7 ⟨v622, rfl, ho0, hb⟩; refine ⟨_, rfl, ?_⟩; have HO623 := qa.mk (Kd.R_lower ho0 (Ua (zh HB.out))); replace BK619 := zK BK619 hb; replace HB := zH hb HB; clear hb; (try clear ho0)) | ((with_reducible refine Ma (N := 4) rfl ?_); refine zq 4 #[.int .i64 0, .slice none 0 0] 40 ?_; intro gb625 hg w8 hbox hb; have BK625 := qa.mk hbox; have GW625 := zG hg HB; have GE625 := zG hg HB; have NB619_625 := zNa hg BK619; have NB625_619 := zNb hg BK619; replace HO623 := qa.mk (Kd.R_below (zr HO623.out) hb); replace BK619 := zK BK619 hb; replace HB := zH hb HB; clear hb hbox hg; have hnb9 := NB625_619.out; have hnc9 := NB619_625.out; obtain ⟨hcz10_0, hcz10_1, hfz10_0, hfz10_1⟩ := zC2 BK625; obtain ⟨Ao11, co11, eo11⟩ := Kd.R_slice HO623.out; subst eo11; obtain ⟨hcz12_0, hcz12_1, hfz12_0, hfz12_1⟩ := zC2 BK619) | (go_at_call 44; (with_reducible refine (Qf.calls k a0_0 _ _ l0_1 t620 _ _ t621 t626 _ ?side1 ?side2 ?side3 ?side4 A4.out).mono ?_); (case side1 => exact Kd.C_below HR0_1.out (zh HB.out)); (case side2 => exact HC0_1.out); (case side3 => refine (Kd.R_reads' (e := 3) (base := w.heap.size) (ok := fun k_ => True) (n := t621.length) (c := co11) ?_).2.2; exact (by (with_reducible repeat (first | apply Kd.R_alloc | apply Kd.R_drewN | apply Kd.R_drew)); exact (Kd.R_mono (Kd.R_far (p := ⟨gb625, 1, none⟩) (Kd.R_far (p := ⟨gb625, 0, none⟩) (Kd.R_types HO623.out BK625.out (by decide)) (fun _ hk => hk.2) (.int .i64 t620)) (fun _ hk => hk.2) (.slice Ao11 t621.length co11)) (fun _ h_ => h_.1)))); (case side4 => exact (Kd.R_reads' HO623.out).2.1); rintro e w13 ⟨rfl, hb⟩; replace HO623 := qa.mk (Kd.R_below (by (with_reducible repeat (first | apply Kd.R_alloc | apply Kd.R_drewN | apply Kd.R_drew)); exact (Kd.R_mono (Kd.R_far (p := ⟨gb625, 1, none⟩) (Kd.R_far (p := ⟨gb625, 0, none⟩) (Kd.R_types HO623.out BK625.out (by decide)) (fun _ hk => hk.2) (.int .i64 t620)) (fun _ hk => hk.2) (.slice Ao11 t621.length co11)) (fun _ h_ => h_.1))) hb); replace BK619 := qa.mk (Na (g := gb619) (o := .cells #[.int .i64 a0_0, .slice A0_1 l0_1.length c0_1] 40 (0, 0)) (zf2 BK619.out NB619_625.out NB619_625.out) hb); replace BK625 := qa.mk (Na (g := gb625) (o := .cells #[.int .i64 t620, .slice Ao11 t621.length co11] 40 (0, 0)) (by (with_reducible repeat (first | refine Ca ?_ _ | refine Ra ?_ | refine Qa ?_ _)); refine Yb (cs := #[.int .i64 t620, .slice none 0 0]) ?_ 1 _ rfl; (with_reducible repeat (first | refine Ca ?_ _ | refine Ra ?_ | refine Qa ?_ _)); refine Yb (cs := #[.int .i64 0, .slice none 0 0]) ?_ 0 _ rfl; exact zb BK625.out) hb); replace HB := zH hb HB; clear hb));go_ret2
 exact ⟨zL0, zh HB.out⟩
def laws_FnChambersNeededOfAll.l0 : Nat → List (S40) → Int → Int → Option (Bool)
 | 0, _, _, _ => none
 | k + 1, x122, x123, x124 => if x124 < x123 then (if 0 ≤ x124 then (if x124 < (x122.length : Int) then ((Gf.f k ((yc x122 x124).f0) ((yc x122 x124).f1)).bind fun bt656 => (if bt656.2 = true then (if bt656.1 = true then (laws_FnChambersNeededOfAll.l0 k x122 x123 (wrap64 (x124 + 1))) else (none)) else (none))) else (none)) else (none)) else (some true)
def laws_FnChambersNeededOfAll.f (k : Nat) (a0_0 : Int) (l0_1 : List (List Int)) : Option (Bool) := (Ob.f k a0_0 l0_1).bind fun bt628 => ((Lb.f k a0_0 l0_1).bind fun bt632 => ((Pd.f k a0_0 l0_1).bind fun bt636 => ((qd.f k a0_0 l0_1).bind fun bt638 => (if (bt628.2 != bt632.2) = true then (none) else ((La.f k bt628.1 bt632.1).bind fun t640 => (if t640 = true then (if (bt636.2 != bt638.2) = true then (none) else (if bt636.1 = bt638.1 then (if (bt636.2 != bt628.2) = true then (none) else (if bt628.2 = true then ((Le.f k a0_0 l0_1).bind fun bt641 => ((Df.f k bt628.1).bind fun bt643 => ((Cc.f k bt628.1).bind fun bt649 => (if (bt628.1.length : Int) = bt636.1 then (if bt636.1 < 1 then (none) else (if bt636.1 > 4 then (none) else (if bt641.2 = true then (if (bt641.1 != (bt636.1 == 1)) = true then (none) else (if bt643.2.2 = true then ((Yg.f k bt643.1 bt643.2.1 a0_0 l0_1).bind fun t653 => (if t653 = true then (if bt649.2 = true then (if (bt649.1.length : Int) = 0 then (laws_FnChambersNeededOfAll.l0 k bt628.1 (bt628.1.length : Int) 0) else (none)) else (none)) else (none))) else (none))) else (none)))) else (none))))) else (some true))) else (none))) else (none)))))))
theorem laws_FnChambersNeededOfAll.calls (k : Nat) (a0_0 : Int) (A0_1 : Option Addr) (c0_1 : Nat) (l0_1 : List (List Int)) (r : Bool) (w : World) (hr0_1 : Kd.C (Kd.slice 3 (Kd.int .i64)) w A0_1 l0_1.length l0_1) (hc0_1 : l0_1.length ≤ c0_1) (h : laws_FnChambersNeededOfAll.f k a0_0 l0_1 = some r) :
 Calls Tryz.prog 3 #[.agg #[.int .i64 a0_0, .slice A0_1 l0_1.length c0_1]] w fun e w' => e = .returned (.bool r) ∧ Below w.heap.size w w' := by
 have hu24 := Tryz.underlying24;have hu40 := Tryz.underlying40;have HR0_1 := qa.mk hr0_1;have HC0_1 := qa.mk hc0_1;clear hr0_1 hc0_1;have HB := qa.mk (Below.refl w.heap.size w);have H : ((Ob.f k a0_0 l0_1).bind fun bt628 => ((Lb.f k a0_0 l0_1).bind fun bt632 => ((Pd.f k a0_0 l0_1).bind fun bt636 => ((qd.f k a0_0 l0_1).bind fun bt638 => (if (bt628.2 != bt632.2) = true then (none) else ((La.f k bt628.1 bt632.1).bind fun t640 => (if t640 = true then (if (bt636.2 != bt638.2) = true then (none) else (if bt636.1 = bt638.1 then (if (bt636.2 != bt628.2) = true then (none) else (if bt628.2 = true then ((Le.f k a0_0 l0_1).bind fun bt641 => ((Df.f k bt628.1).bind fun bt643 => ((Cc.f k bt628.1).bind fun bt649 => (if (bt628.1.length : Int) = bt636.1 then (if bt636.1 < 1 then (none) else (if bt636.1 > 4 then (none) else (if bt641.2 = true then (if (bt641.1 != (bt636.1 == 1)) = true then (none) else (if bt643.2.2 = true then ((Yg.f k bt643.1 bt643.2.1 a0_0 l0_1).bind fun t653 => (if t653 = true then (if bt649.2 = true then (if (bt649.1.length : Int) = 0 then (laws_FnChambersNeededOfAll.l0 k bt628.1 (bt628.1.length : Int) 0) else (none)) else (none)) else (none))) else (none))) else (none)))) else (none))))) else (some true))) else (none))) else (none)))))))) = some r := h;clear h;replace H := zB0 H;obtain ⟨⟨t628, t631⟩, A20, H⟩ := H;replace H : ((Lb.f k a0_0 l0_1).bind fun bt632 => ((Pd.f k a0_0 l0_1).bind fun bt636 => ((qd.f k a0_0 l0_1).bind fun bt638 => (if (t631 != bt632.2) = true then (none) else ((La.f k t628 bt632.1).bind fun t640 => (if t640 = true then (if (bt636.2 != bt638.2) = true then (none) else (if bt636.1 = bt638.1 then (if (bt636.2 != t631) = true then (none) else (if t631 = true then ((Le.f k a0_0 l0_1).bind fun bt641 => ((Df.f k t628).bind fun bt643 => ((Cc.f k t628).bind fun bt649 => (if (t628.length : Int) = bt636.1 then (if bt636.1 < 1 then (none) else (if bt636.1 > 4 then (none) else (if bt641.2 = true then (if (bt641.1 != (bt636.1 == 1)) = true then (none) else (if bt643.2.2 = true then ((Yg.f k bt643.1 bt643.2.1 a0_0 l0_1).bind fun t653 => (if t653 = true then (if bt649.2 = true then (if (bt649.1.length : Int) = 0 then (laws_FnChambersNeededOfAll.l0 k t628 (t628.length : Int) 0) else (none)) else (none)) else (none))) else (none))) else (none)))) else (none))))) else (some true))) else (none))) else (none))))))) = some r := H;have A2 := qa.mk A20;clear A20;replace H := zB0 H;obtain ⟨⟨t632, t635⟩, A30, H⟩ := H;replace H : ((Pd.f k a0_0 l0_1).bind fun bt636 => ((qd.f k a0_0 l0_1).bind fun bt638 => (if (t631 != t635) = true then (none) else ((La.f k t628 t632).bind fun t640 => (if t640 = true then (if (bt636.2 != bt638.2) = true then (none) else (if bt636.1 = bt638.1 then (if (bt636.2 != t631) = true then (none) else (if t631 = true then ((Le.f k a0_0 l0_1).bind fun bt641 => ((Df.f k t628).bind fun bt643 => ((Cc.f k t628).bind fun bt649 => (if (t628.length : Int) = bt636.1 then (if bt636.1 < 1 then (none) else (if bt636.1 > 4 then (none) else (if bt641.2 = true then (if (bt641.1 != (bt636.1 == 1)) = true then (none) else (if bt643.2.2 = true then ((Yg.f k bt643.1 bt643.2.1 a0_0 l0_1).bind fun t653 => (if t653 = true then (if bt649.2 = true then (if (bt649.1.length : Int) = 0 then (laws_FnChambersNeededOfAll.l0 k t628 (t628.length : Int) 0) else (none)) else (none)) else (none))) else (none))) else (none)))) else (none))))) else (some true))) else (none))) else (none)))))) = some r := H;have A3 := qa.mk A30;clear A30;replace H := zB0 H;obtain ⟨⟨t636, t637⟩, A40, H⟩ := H;replace H : ((qd.f k a0_0 l0_1).bind fun bt638 => (if (t631 != t635) = true then (none) else ((La.f k t628 t632).bind fun t640 => (if t640 = true then (if (t637 != bt638.2) = true then (none) else (if t636 = bt638.1 then (if (t637 != t631) = true then (none) else (if t631 = true then ((Le.f k a0_0 l0_1).bind fun bt641 => ((Df.f k t628).bind fun bt643 => ((Cc.f k t628).bind fun bt649 => (if (t628.length : Int) = t636 then (if t636 < 1 then (none) else (if t636 > 4 then (none) else (if bt641.2 = true then (if (bt641.1 != (t636 == 1)) = true then (none) else (if bt643.2.2 = true then ((Yg.f k bt643.1 bt643.2.1 a0_0 l0_1).bind fun t653 => (if t653 = true then (if bt649.2 = true then (if (bt649.1.length : Int) = 0 then (laws_FnChambersNeededOfAll.l0 k t628 (t628.length : Int) 0) else (none)) else (none)) else (none))) else (none))) else (none)))) else (none))))) else (some true))) else (none))) else (none))))) = some r := H;have A4 := qa.mk A40;clear A40;replace H := zB0 H;obtain ⟨⟨t638, t639⟩, A50, H⟩ := H;replace H : (if (t631 != t635) = true then (none) else ((La.f k t628 t632).bind fun t640 => (if t640 = true then (if (t637 != t639) = true then (none) else (if t636 = t638 then (if (t637 != t631) = true then (none) else (if t631 = true then ((Le.f k a0_0 l0_1).bind fun bt641 => ((Df.f k t628).bind fun bt643 => ((Cc.f k t628).bind fun bt649 => (if (t628.length : Int) = t636 then (if t636 < 1 then (none) else (if t636 > 4 then (none) else (if bt641.2 = true then (if (bt641.1 != (t636 == 1)) = true then (none) else (if bt643.2.2 = true then ((Yg.f k bt643.1 bt643.2.1 a0_0 l0_1).bind fun t653 => (if t653 = true then (if bt649.2 = true then (if (bt649.1.length : Int) = 0 then (laws_FnChambersNeededOfAll.l0 k t628 (t628.length : Int) 0) else (none)) else (none)) else (none))) else (none))) else (none)))) else (none))))) else (some true))) else (none))) else (none)))) = some r := H;have A5 := qa.mk A50;clear A50;by_cases c6 : (t631 != t635) = true
 ·rw [if_pos c6] at H;cases H
 rw [if_neg c6] at H;have c6b0 : (t631 != t635) = false := by simpa using c6
 (try (have c6b1 : decide (t631 = t635) = true := by simpa using c6))
 (try (have c6b2 : (t631 == t635) = true := by simpa using c6))
 clear c6;replace H := zB0 H;obtain ⟨t640, A70, H⟩ := H;have A7 := qa.mk A70;clear A70;by_cases c8 : t640 = true
 rotate_left
 ·replace c8 := Bool.eq_false_iff.mpr c8;subst c8;rw [if_neg zF] at H;exact absurd H (by simp)
 subst c8;rw [if_pos rfl] at H;by_cases c9 : (t637 != t639) = true
 ·rw [if_pos c9] at H;cases H
 rw [if_neg c9] at H;have c9b0 : (t637 != t639) = false := by simpa using c9
 (try (have c9b1 : decide (t637 = t639) = true := by simpa using c9))
 (try (have c9b2 : (t637 == t639) = true := by simpa using c9))
 clear c9;by_cases c10 : t636 = t638
 rotate_left
 ·rw [if_neg c10] at H;cases H
 rw [if_pos c10] at H;have c10b0 := beq_iff_eq.mpr c10;have c10b1 := bne_eq_false_iff_eq.mpr c10;clear c10;by_cases c11 : (t637 != t631) = true
 ·rw [if_pos c11] at H;cases H
 rw [if_neg c11] at H;have c11b0 : (t637 != t631) = false := by simpa using c11
 (try (have c11b1 : decide (t637 = t631) = true := by simpa using c11))
 (try (have c11b2 : (t637 == t631) = true := by simpa using c11))
 clear c11;by_cases c12 : t631 = true
 rotate_left
 ·replace c12 := Bool.eq_false_iff.mpr c12;subst c12;rw [if_neg zF] at H;obtain rfl := Option.some.inj H;go_enter Tryz.func3, Tryz.ntmps3;go_wp2_with (first | ((with_reducible refine Ma (N := 1) rfl ?_); (try (refine Qg (by rfl) ?_; dsimp only)); refine zq 1 #[.int .i64 a0_0, .slice A0_1 l0_1.length c0_1] 24 ?_; intro gb627 hg w61 hbox hb; have GW627 := zG hg HB; replace HB := zH hb HB; have BK627 := qa.mk hbox; have GE627 := GW627; clear hb hbox hg; obtain ⟨hcz62_0, hcz62_1, hfz62_0, hfz62_1⟩ := zC2 BK627) | ((with_reducible refine Va (f := 5) rfl ?_); refine zl 23 Tryz.func5 #[.agg #[.int .i64 a0_0, .slice A0_1 l0_1.length c0_1]] ?_; (with_reducible refine (Ob.calls k a0_0 _ _ l0_1 t628 false _ ?side1 ?side2 A2.out).mono ?_); (case side1 => exact zQ (Kd.C_below HR0_1.out HB.out)); (case side2 => exact HC0_1.out); rintro e w63 ⟨v629, rfl, ho0, hb⟩; refine ⟨_, rfl, ?_⟩; have HO630 := qa.mk (Kd.S_lower ho0 (Ua (zh HB.out))); replace BK627 := zK BK627 hb; replace HB := zH hb HB; clear hb; (try clear ho0); obtain ⟨hcz64_0, hcz64_1, hfz64_0, hfz64_1⟩ := zC2 BK627) | ((with_reducible refine Va (f := 6) rfl ?_); refine zl 28 Tryz.func6 #[.agg #[.int .i64 a0_0, .slice A0_1 l0_1.length c0_1]] ?_; (with_reducible refine (Lb.calls k a0_0 _ _ l0_1 t632 t635 _ ?side1 ?side2 A3.out).mono ?_); (case side1 => exact zQ (Kd.C_below HR0_1.out HB.out)); (case side2 => exact HC0_1.out); rintro e w65 ⟨v633, rfl, ho0, hb⟩; refine ⟨_, rfl, ?_⟩; have HO634 := qa.mk (Kd.S_lower (Kd.S_new' ho0 (Kd.S_lt (by (with_reducible repeat (first | apply Kd.S_alloc | apply Kd.S_drewN | apply Kd.S_drew)); exact HO630.out))) (Ua (zh HB.out))); replace HO630 := qa.mk (Kd.S_elder' (by (with_reducible repeat (first | apply Kd.S_alloc | apply Kd.S_drewN | apply Kd.S_drew)); exact HO630.out) (Kd.S_base ho0) hb); replace BK627 := zK BK627 hb; replace HB := zH hb HB; clear hb; (try clear ho0); obtain ⟨hcz66_0, hcz66_1, hfz66_0, hfz66_1⟩ := zC2 BK627) | ((with_reducible refine Va (f := 7) rfl ?_); refine zl 33 Tryz.func7 #[.agg #[.int .i64 a0_0, .slice A0_1 l0_1.length c0_1]] ?_; (with_reducible refine (Pd.calls k a0_0 _ _ l0_1 t636 t637 _ ?side1 ?side2 A4.out).mono ?_); (case side1 => exact zQ (Kd.C_below HR0_1.out HB.out)); (case side2 => exact HC0_1.out); rintro e w67 ⟨rfl, hb⟩; refine ⟨_, rfl, ?_⟩; replace HO630 := qa.mk (Kd.S_below (by (with_reducible repeat (first | apply Kd.S_alloc | apply Kd.S_drewN | apply Kd.S_drew)); exact HO630.out) hb); replace HO634 := qa.mk (Kd.S_below (by (with_reducible repeat (first | apply Kd.S_alloc | apply Kd.S_drewN | apply Kd.S_drew)); exact HO634.out) hb); replace BK627 := zK BK627 hb; replace HB := zH hb HB; clear hb; obtain ⟨hcz68_0, hcz68_1, hfz68_0, hfz68_1⟩ := zC2 BK627) | ((with_reducible refine Va (f := 8) rfl ?_); refine zl 38 Tryz.func8 #[.agg #[.int .i64 a0_0, .slice A0_1 l0_1.length c0_1]] ?_; (with_reducible refine (qd.calls k a0_0 _ _ l0_1 t638 t639 _ ?side1 ?side2 A5.out).mono ?_); (case side1 => exact zQ (Kd.C_below HR0_1.out HB.out)); (case side2 => exact HC0_1.out); rintro e w69 ⟨rfl, hb⟩; refine ⟨_, rfl, ?_⟩; replace HO630 := qa.mk (Kd.S_below (by (with_reducible repeat (first | apply Kd.S_alloc | apply Kd.S_drewN | apply Kd.S_drew)); exact HO630.out) hb); replace HO634 := qa.mk (Kd.S_below (by (with_reducible repeat (first | apply Kd.S_alloc | apply Kd.S_drewN | apply Kd.S_drew)); exact HO634.out) hb); replace BK627 := zK BK627 hb; replace HB := zH hb HB; clear hb; obtain ⟨Ao70, co70, eo70⟩ := Kd.S_slice HO630.out; subst eo70; obtain ⟨Ao71, co71, eo71⟩ := Kd.S_slice HO634.out; subst eo71) | (go_at_call 9; (with_reducible refine (La.calls k _ _ t628 _ _ t632 true _ ?side1 ?side2 ?side3 ?side4 A7.out).mono ?_); (case side1 => exact zQ ((Kd.S_reads' HO630.out).2.2)); (case side2 => exact (Kd.S_reads' HO630.out).2.1); (case side3 => exact zQ ((Kd.S_reads' HO634.out).2.2)); (case side4 => exact (Kd.S_reads' HO634.out).2.1); rintro e w72 ⟨rfl, hb⟩; replace HO630 := qa.mk (Kd.S_below (by (with_reducible repeat (first | apply Kd.S_alloc | apply Kd.S_drewN | apply Kd.S_drew)); exact HO630.out) hb); replace HO634 := qa.mk (Kd.S_below (by (with_reducible repeat (first | apply Kd.S_alloc | apply Kd.S_drewN | apply Kd.S_drew)); exact HO634.out) hb); replace BK627 := zK BK627 hb; replace HB := zH hb HB; clear hb));go_ret;exact ⟨zL0, zh HB.out⟩
 subst c12;rw [if_pos rfl] at H;replace H := zB0 H;obtain ⟨⟨t641, t642⟩, A130, H⟩ := H;replace H : ((Df.f k t628).bind fun bt643 => ((Cc.f k t628).bind fun bt649 => (if (t628.length : Int) = t636 then (if t636 < 1 then (none) else (if t636 > 4 then (none) else (if t642 = true then (if (t641 != (t636 == 1)) = true then (none) else (if bt643.2.2 = true then ((Yg.f k bt643.1 bt643.2.1 a0_0 l0_1).bind fun t653 => (if t653 = true then (if bt649.2 = true then (if (bt649.1.length : Int) = 0 then (laws_FnChambersNeededOfAll.l0 k t628 (t628.length : Int) 0) else (none)) else (none)) else (none))) else (none))) else (none)))) else (none)))) = some r := H;have A13 := qa.mk A130;clear A130;replace H := zB0 H;obtain ⟨⟨t643, t644, t647⟩, A140, H⟩ := H;replace H : ((Cc.f k t628).bind fun bt649 => (if (t628.length : Int) = t636 then (if t636 < 1 then (none) else (if t636 > 4 then (none) else (if t642 = true then (if (t641 != (t636 == 1)) = true then (none) else (if t647 = true then ((Yg.f k t643 t644 a0_0 l0_1).bind fun t653 => (if t653 = true then (if bt649.2 = true then (if (bt649.1.length : Int) = 0 then (laws_FnChambersNeededOfAll.l0 k t628 (t628.length : Int) 0) else (none)) else (none)) else (none))) else (none))) else (none)))) else (none))) = some r := H;have A14 := qa.mk A140;clear A140;replace H := zB0 H;obtain ⟨⟨t649, t650⟩, A150, H⟩ := H;replace H : (if (t628.length : Int) = t636 then (if t636 < 1 then (none) else (if t636 > 4 then (none) else (if t642 = true then (if (t641 != (t636 == 1)) = true then (none) else (if t647 = true then ((Yg.f k t643 t644 a0_0 l0_1).bind fun t653 => (if t653 = true then (if t650 = true then (if (t649.length : Int) = 0 then (laws_FnChambersNeededOfAll.l0 k t628 (t628.length : Int) 0) else (none)) else (none)) else (none))) else (none))) else (none)))) else (none)) = some r := H;have A15 := qa.mk A150;clear A150;by_cases c16 : (t628.length : Int) = t636
 rotate_left
 ·rw [if_neg c16] at H;cases H
 rw [if_pos c16] at H;have c16b0 := beq_iff_eq.mpr c16;have c16b1 := bne_eq_false_iff_eq.mpr c16;clear c16;by_cases c17 : t636 < 1
 ·rw [if_pos c17] at H;cases H
 rw [if_neg c17] at H;have c17b0 := decide_eq_false c17;clear c17;by_cases c18 : t636 > 4
 ·rw [if_pos c18] at H;cases H
 rw [if_neg c18] at H;have c18b0 := decide_eq_false c18;clear c18;by_cases c19 : t642 = true
 rotate_left
 ·replace c19 := Bool.eq_false_iff.mpr c19;subst c19;rw [if_neg zF] at H;exact absurd H (by simp)
 subst c19;rw [if_pos rfl] at H;by_cases c20 : (t641 != (t636 == 1)) = true
 ·rw [if_pos c20] at H;cases H
 rw [if_neg c20] at H;have c20b0 : (t641 != (t636 == 1)) = false := by simpa using c20
 (try (have c20b1 : decide (t641 = (t636 == 1)) = true := by simpa using c20))
 (try (have c20b2 : (t641 == (t636 == 1)) = true := by simpa using c20))
 clear c20;by_cases c21 : t647 = true
 rotate_left
 ·replace c21 := Bool.eq_false_iff.mpr c21;subst c21;rw [if_neg zF] at H;exact absurd H (by simp)
 subst c21;rw [if_pos rfl] at H;replace H := zB0 H;obtain ⟨t653, A220, H⟩ := H;have A22 := qa.mk A220;clear A220;by_cases c23 : t653 = true
 rotate_left
 ·replace c23 := Bool.eq_false_iff.mpr c23;subst c23;rw [if_neg zF] at H;exact absurd H (by simp)
 subst c23;rw [if_pos rfl] at H;by_cases c24 : t650 = true
 rotate_left
 ·replace c24 := Bool.eq_false_iff.mpr c24;subst c24;rw [if_neg zF] at H;exact absurd H (by simp)
 subst c24;rw [if_pos rfl] at H;by_cases c25 : (t649.length : Int) = 0
 rotate_left
 ·rw [if_neg c25] at H;cases H
 rw [if_pos c25] at H;have c25b0 := beq_iff_eq.mpr c25;have c25b1 := bne_eq_false_iff_eq.mpr c25;clear c25;have H' := qa.mk H;clear H;go_enter Tryz.func3, Tryz.ntmps3;go_wp2_with (first | ((with_reducible refine Ma (N := 1) rfl ?_); (try (refine Qg (by rfl) ?_; dsimp only)); refine zq 1 #[.int .i64 a0_0, .slice A0_1 l0_1.length c0_1] 24 ?_; intro gb627 hg w26 hbox hb; have GW627 := zG hg HB; replace HB := zH hb HB; have BK627 := qa.mk hbox; have GE627 := GW627; clear hb hbox hg; obtain ⟨hcz27_0, hcz27_1, hfz27_0, hfz27_1⟩ := zC2 BK627) | ((with_reducible refine Va (f := 5) rfl ?_); refine zl 23 Tryz.func5 #[.agg #[.int .i64 a0_0, .slice A0_1 l0_1.length c0_1]] ?_; (with_reducible refine (Ob.calls k a0_0 _ _ l0_1 t628 true _ ?side1 ?side2 A2.out).mono ?_); (case side1 => exact zQ (Kd.C_below HR0_1.out HB.out)); (case side2 => exact HC0_1.out); rintro e w28 ⟨v629, rfl, ho0, hb⟩; refine ⟨_, rfl, ?_⟩; have HO630 := qa.mk (Kd.S_lower ho0 (Ua (zh HB.out))); replace BK627 := zK BK627 hb; replace HB := zH hb HB; clear hb; (try clear ho0); obtain ⟨hcz29_0, hcz29_1, hfz29_0, hfz29_1⟩ := zC2 BK627) | ((with_reducible refine Va (f := 6) rfl ?_); refine zl 28 Tryz.func6 #[.agg #[.int .i64 a0_0, .slice A0_1 l0_1.length c0_1]] ?_; (with_reducible refine (Lb.calls k a0_0 _ _ l0_1 t632 t635 _ ?side1 ?side2 A3.out).mono ?_); (case side1 => exact zQ (Kd.C_below HR0_1.out HB.out)); (case side2 => exact HC0_1.out); rintro e w30 ⟨v633, rfl, ho0, hb⟩; refine ⟨_, rfl, ?_⟩; have HO634 := qa.mk (Kd.S_lower (Kd.S_new' ho0 (Kd.S_lt (by (with_reducible repeat (first | apply Kd.S_alloc | apply Kd.S_drewN | apply Kd.S_drew)); exact HO630.out))) (Ua (zh HB.out))); replace HO630 := qa.mk (Kd.S_elder' (by (with_reducible repeat (first | apply Kd.S_alloc | apply Kd.S_drewN | apply Kd.S_drew)); exact HO630.out) (Kd.S_base ho0) hb); replace BK627 := zK BK627 hb; replace HB := zH hb HB; clear hb; (try clear ho0); obtain ⟨hcz31_0, hcz31_1, hfz31_0, hfz31_1⟩ := zC2 BK627) | ((with_reducible refine Va (f := 7) rfl ?_); refine zl 33 Tryz.func7 #[.agg #[.int .i64 a0_0, .slice A0_1 l0_1.length c0_1]] ?_; (with_reducible refine (Pd.calls k a0_0 _ _ l0_1 t636 t637 _ ?side1 ?side2 A4.out).mono ?_); (case side1 => exact zQ (Kd.C_below HR0_1.out HB.out)); (case side2 => exact HC0_1.out); rintro e w32 ⟨rfl, hb⟩; refine ⟨_, rfl, ?_⟩; replace HO630 := qa.mk (Kd.S_below (by (with_reducible repeat (first | apply Kd.S_alloc | apply Kd.S_drewN | apply Kd.S_drew)); exact HO630.out) hb); replace HO634 := qa.mk (Kd.S_below (by (with_reducible repeat (first | apply Kd.S_alloc | apply Kd.S_drewN | apply Kd.S_drew)); exact HO634.out) hb); replace BK627 := zK BK627 hb; replace HB := zH hb HB; clear hb; obtain ⟨hcz33_0, hcz33_1, hfz33_0, hfz33_1⟩ := zC2 BK627) | ((with_reducible refine Va (f := 8) rfl ?_); refine zl 38 Tryz.func8 #[.agg #[.int .i64 a0_0, .slice A0_1 l0_1.length c0_1]] ?_; (with_reducible refine (qd.calls k a0_0 _ _ l0_1 t638 t639 _ ?side1 ?side2 A5.out).mono ?_); (case side1 => exact zQ (Kd.C_below HR0_1.out HB.out)); (case side2 => exact HC0_1.out); rintro e w34 ⟨rfl, hb⟩; refine ⟨_, rfl, ?_⟩; replace HO630 := qa.mk (Kd.S_below (by (with_reducible repeat (first | apply Kd.S_alloc | apply Kd.S_drewN | apply Kd.S_drew)); exact HO630.out) hb); replace HO634 := qa.mk (Kd.S_below (by (with_reducible repeat (first | apply Kd.S_alloc | apply Kd.S_drewN | apply Kd.S_drew)); exact HO634.out) hb); replace BK627 := zK BK627 hb; replace HB := zH hb HB; clear hb; obtain ⟨Ao35, co35, eo35⟩ := Kd.S_slice HO630.out; subst eo35; obtain ⟨Ao36, co36, eo36⟩ := Kd.S_slice HO634.out; subst eo36) | (go_at_call 9; (with_reducible refine (La.calls k _ _ t628 _ _ t632 true _ ?side1 ?side2 ?side3 ?side4 A7.out).mono ?_); (case side1 => exact zQ ((Kd.S_reads' HO630.out).2.2)); (case side2 => exact (Kd.S_reads' HO630.out).2.1); (case side3 => exact zQ ((Kd.S_reads' HO634.out).2.2)); (case side4 => exact (Kd.S_reads' HO634.out).2.1); rintro e w37 ⟨rfl, hb⟩; replace HO630 := qa.mk (Kd.S_below (by (with_reducible repeat (first | apply Kd.S_alloc | apply Kd.S_drewN | apply Kd.S_drew)); exact HO630.out) hb); replace HO634 := qa.mk (Kd.S_below (by (with_reducible repeat (first | apply Kd.S_alloc | apply Kd.S_drewN | apply Kd.S_drew)); exact HO634.out) hb); replace BK627 := zK BK627 hb; replace HB := zH hb HB; clear hb; obtain ⟨hcz38_0, hcz38_1, hfz38_0, hfz38_1⟩ := zC2 BK627) | ((with_reducible refine Va (f := 10) rfl ?_); refine zl 68 Tryz.func10 #[.agg #[.int .i64 a0_0, .slice A0_1 l0_1.length c0_1]] ?_; (with_reducible refine (Le.calls k a0_0 _ _ l0_1 t641 true _ ?side1 ?side2 A13.out).mono ?_); (case side1 => exact zQ (Kd.C_below HR0_1.out HB.out)); (case side2 => exact HC0_1.out); rintro e w39 ⟨rfl, hb⟩; refine ⟨_, rfl, ?_⟩; replace HO630 := qa.mk (Kd.S_below (by (with_reducible repeat (first | apply Kd.S_alloc | apply Kd.S_drewN | apply Kd.S_drew)); exact HO630.out) hb); replace HO634 := qa.mk (Kd.S_below (by (with_reducible repeat (first | apply Kd.S_alloc | apply Kd.S_drewN | apply Kd.S_drew)); exact HO634.out) hb); replace BK627 := zK BK627 hb; replace HB := zH hb HB; clear hb) | ((with_reducible refine Va (f := 11) rfl ?_); refine zl 73 Tryz.func11 #[.slice Ao35 t628.length co35] ?_; (with_reducible refine (Df.calls k _ _ t628 t643 t644 true _ ?side1 ?side2 A14.out).mono ?_); (case side1 => exact zQ ((Kd.S_reads' HO630.out).2.2)); (case side2 => exact (Kd.S_reads' HO630.out).2.1); rintro e w40 ⟨v645, rfl, ho0, hb⟩; refine ⟨_, rfl, ?_⟩; have HO646 := qa.mk (Kd.S_lower ho0 (Ua (zh HB.out))); replace HO630 := qa.mk (Kd.S_below (by (with_reducible repeat (first | apply Kd.S_alloc | apply Kd.S_drewN | apply Kd.S_drew)); exact HO630.out) hb); replace HO634 := qa.mk (Kd.S_below (by (with_reducible repeat (first | apply Kd.S_alloc | apply Kd.S_drewN | apply Kd.S_drew)); exact HO634.out) hb); replace BK627 := zK BK627 hb; replace HB := zH hb HB; clear hb; (try clear ho0)) | ((with_reducible refine Ma (N := 13) rfl ?_); (try (refine Qg (by rfl) ?_; dsimp only)); refine zq 13 #[.int .i64 0, .slice none 0 0] 24 ?_; intro gb648 hg w41 hbox hb; have BK648 := qa.mk hbox; have GW648 := zG hg HB; have GE648 := zG hg HB; have NB627_648 := zNa hg BK627; have NB648_627 := zNb hg BK627; replace HO630 := qa.mk (Kd.S_below (by (with_reducible repeat (first | apply Kd.S_alloc | apply Kd.S_drewN | apply Kd.S_drew)); exact HO630.out) hb); replace HO634 := qa.mk (Kd.S_below (by (with_reducible repeat (first | apply Kd.S_alloc | apply Kd.S_drewN | apply Kd.S_drew)); exact HO634.out) hb); replace HO646 := qa.mk (Kd.S_below (by (with_reducible repeat (first | apply Kd.S_alloc | apply Kd.S_drewN | apply Kd.S_drew)); exact HO646.out) hb); replace BK627 := zK BK627 hb; replace HB := zH hb HB; clear hb hbox hg; have hnb42 := NB648_627.out; have hnc42 := NB627_648.out; obtain ⟨hcz43_0, hcz43_1, hfz43_0, hfz43_1⟩ := zC2 BK648; obtain ⟨Ao44, co44, eo44⟩ := Kd.S_slice HO646.out; subst eo44) | ((with_reducible refine Va (f := 12) rfl ?_); refine zl 78 Tryz.func12 #[.slice Ao35 t628.length co35] ?_; (with_reducible refine (Cc.calls k _ _ t628 t649 true _ ?side1 ?side2 A15.out).mono ?_); (case side1 => refine (Kd.S_reads' (e := 40) (base := w.heap.size) (ok := fun k_ => (True ∧ some k_ ≠ (.slice Ao36 t632.length co36 : Value).ownBlock)) (n := t628.length) (c := co35) ?_).2.2; exact (by (with_reducible repeat (first | apply Kd.S_alloc | apply Kd.S_drewN | apply Kd.S_drew)); exact (Kd.S_mono (Kd.S_far (p := ⟨gb648, 1, none⟩) (Kd.S_far (p := ⟨gb648, 0, none⟩) (Kd.S_types HO630.out BK648.out (by decide)) (fun _ hk => hk.2) (.int .i64 t643)) (fun _ hk => hk.2) (.slice Ao44 t644.length co44)) (fun _ h_ => h_.1)))); (case side2 => exact (Kd.S_reads' HO630.out).2.1); rintro e w45 ⟨v651, rfl, ho0, hb⟩; refine ⟨_, rfl, ?_⟩; have HO652 := qa.mk (Kd.R_lower ho0 (Ua (zh HB.out))); replace HO630 := qa.mk (Kd.S_elder' (by (with_reducible repeat (first | apply Kd.S_alloc | apply Kd.S_drewN | apply Kd.S_drew)); exact (Kd.S_mono (Kd.S_far (p := ⟨gb648, 1, none⟩) (Kd.S_far (p := ⟨gb648, 0, none⟩) (Kd.S_types HO630.out BK648.out (by decide)) (fun _ hk => hk.2) (.int .i64 t643)) (fun _ hk => hk.2) (.slice Ao44 t644.length co44)) (fun _ h_ => h_.1))) (Kd.R_base ho0) hb); replace HO634 := qa.mk (Kd.S_elder' (by (with_reducible repeat (first | apply Kd.S_alloc | apply Kd.S_drewN | apply Kd.S_drew)); exact (Kd.S_mono (Kd.S_far (p := ⟨gb648, 1, none⟩) (Kd.S_far (p := ⟨gb648, 0, none⟩) (Kd.S_types HO634.out BK648.out (by decide)) (fun _ hk => hk.2) (.int .i64 t643)) (fun _ hk => hk.2) (.slice Ao44 t644.length co44)) (fun _ h_ => h_.1))) (Kd.R_base ho0) hb); replace HO646 := qa.mk (Kd.S_elder' (by (with_reducible repeat (first | apply Kd.S_alloc | apply Kd.S_drewN | apply Kd.S_drew)); exact (Kd.S_mono (Kd.S_far (p := ⟨gb648, 1, none⟩) (Kd.S_far (p := ⟨gb648, 0, none⟩) (Kd.S_types HO646.out BK648.out (by decide)) (fun _ hk => hk.2) (.int .i64 t643)) (fun _ hk => hk.2) (.slice Ao44 t644.length co44)) (fun _ h_ => h_.1))) (Kd.R_base ho0) hb); replace BK627 := qa.mk (Na (g := gb627) (o := .cells #[.int .i64 a0_0, .slice A0_1 l0_1.length c0_1] 24 (0, 0)) (zf2 BK627.out NB627_648.out NB627_648.out) hb); replace BK648 := qa.mk (Na (g := gb648) (o := .cells #[.int .i64 t643, .slice Ao44 t644.length co44] 24 (0, 0)) (by (with_reducible repeat (first | refine Ca ?_ _ | refine Ra ?_ | refine Qa ?_ _)); refine Yb (cs := #[.int .i64 t643, .slice none 0 0]) ?_ 1 _ rfl; (with_reducible repeat (first | refine Ca ?_ _ | refine Ra ?_ | refine Qa ?_ _)); refine Yb (cs := #[.int .i64 0, .slice none 0 0]) ?_ 0 _ rfl; exact zb BK648.out) hb); replace HB := zH hb HB; clear hb; (try clear ho0); obtain ⟨hcz46_0, hcz46_1, hfz46_0, hfz46_1⟩ := zC2 BK648; obtain ⟨hcz47_0, hcz47_1, hfz47_0, hfz47_1⟩ := zC2 BK627) | (go_at_call 13; (with_reducible refine (Yg.calls k t643 _ _ t644 a0_0 _ _ l0_1 true _ ?side1 ?side2 ?side3 ?side4 A22.out).mono ?_); (case side1 => exact zQ ((Kd.S_reads' HO646.out).2.2)); (case side2 => exact (Kd.S_reads' HO646.out).2.1); (case side3 => exact zQ (Kd.C_below HR0_1.out HB.out)); (case side4 => exact HC0_1.out); rintro e w48 ⟨rfl, hb⟩; replace HO630 := qa.mk (Kd.S_below (by (with_reducible repeat (first | apply Kd.S_alloc | apply Kd.S_drewN | apply Kd.S_drew)); exact HO630.out) hb); replace HO634 := qa.mk (Kd.S_below (by (with_reducible repeat (first | apply Kd.S_alloc | apply Kd.S_drewN | apply Kd.S_drew)); exact HO634.out) hb); replace HO646 := qa.mk (Kd.S_below (by (with_reducible repeat (first | apply Kd.S_alloc | apply Kd.S_drewN | apply Kd.S_drew)); exact HO646.out) hb); replace HO652 := qa.mk (Kd.R_below (zr HO652.out) hb); replace BK627 := zK BK627 hb; replace BK648 := zK BK648 hb; replace HB := zH hb HB; clear hb; obtain ⟨Ao49, co49, eo49⟩ := Kd.R_slice HO652.out; subst eo49));go_loopg [124] k (fun kq v124 w' => ∃ (x124_1 : Int), v124 = .int .i64 x124_1 ∧ qa (laws_FnChambersNeededOfAll.l0 kq t628 (t628.length : Int) x124_1 = some r) ∧ qa (kq ≤ k) ∧ qa (Kd.S k40 40 w' w.heap.size (fun _ => True) (.slice Ao35 t628.length co35) t628) ∧ qa (Kd.S (Kd.slice 3 (Kd.int .i64)) 35 w' w.heap.size (fun _ => True) (.slice Ao44 t644.length co44) t644) ∧ qa (w'.heap[gb627]? = some (.cells #[.int .i64 a0_0, (.slice A0_1 l0_1.length c0_1)] 24 (0, 0))) ∧ qa (w'.heap[gb648]? = some (.cells #[.int .i64 t643, (.slice Ao44 t644.length co44)] 24 (0, 0))) ∧ qa (Below w.heap.size w w'));case atStart => exact ⟨(0), zE, H', ⟨Nat.le_refl _⟩, ⟨zS (Kd.S_mono HO630.out (fun _ hk => trivial))⟩, ⟨zS (Kd.S_mono HO646.out (fun _ hk => trivial))⟩, ⟨zb BK627.out⟩, ⟨zb BK648.out⟩, ⟨zh HB.out⟩⟩
 case round =>
  clear H';try clear c1
  try clear c2
  try clear p2
  try clear c3
  try clear c4
  try clear c5
  try clear c6
  try clear c6b0
  try clear c6b1
  try clear c6b2
  try clear c7
  try clear c8
  try clear c9
  try clear c9b0
  try clear c9b1
  try clear c9b2
  try clear c10
  try clear c10b0
  try clear c10b1
  try clear c11
  try clear c11b0
  try clear c11b1
  try clear c11b2
  try clear c12
  try clear c16
  try clear c16b0
  try clear c16b1
  try clear c17
  try clear c17b0
  try clear c18
  try clear c18b0
  try clear c19
  try clear c20
  try clear c20b0
  try clear c20b1
  try clear c20b2
  try clear c21
  try clear c23
  try clear c24
  try clear c25
  try clear c25b0
  try clear c25b1
  try clear c42
  try clear hcz27_0
  try clear hcz27_1
  try clear hcz29_0
  try clear hcz29_1
  try clear hcz31_0
  try clear hcz31_1
  try clear hcz33_0
  try clear hcz33_1
  try clear hcz38_0
  try clear hcz38_1
  try clear hcz43_0
  try clear hcz43_1
  try clear hcz46_0
  try clear hcz46_1
  try clear hcz47_0
  try clear hcz47_1
  try clear hfz27_0
  try clear hfz27_1
  try clear hfz29_0
  try clear hfz29_1
  try clear hfz31_0
  try clear hfz31_1
  try clear hfz33_0
  try clear hfz33_1
  try clear hfz38_0
  try clear hfz38_1
  try clear hfz43_0
  try clear hfz43_1
  try clear hfz46_0
  try clear hfz46_1
  try clear hfz47_0
  try clear hfz47_1
  obtain ⟨x124_1, rfl, HA, HK1, HO_122, HO_649001, BK627, BK648, HB⟩ := hrel;cases gk with
  | zero => exact absurd HA.out (by simp [laws_FnChambersNeededOfAll.l0])
  | succ k1 =>
   have H := HA.out;clear HA;simp only [laws_FnChambersNeededOfAll.l0] at H;by_cases c50 : x124_1 < (t628.length : Int)
   rotate_left
   ·rw [if_neg c50] at H;have c50b0 := decide_eq_false c50;clear c50;obtain rfl := Option.some.inj H;go_wp2;go_ret;exact ⟨zL0, zh HB.out⟩
   rw [if_pos c50] at H;have c50b0 := decide_eq_true c50;clear c50;by_cases c51 : 0 ≤ x124_1
   rotate_left
   ·rw [if_neg c51] at H;cases H
   rw [if_pos c51] at H;have c51b0 := decide_eq_true c51;clear c51;by_cases c52 : x124_1 < (t628.length : Int)
   rotate_left
   ·rw [if_neg c52] at H;cases H
   rw [if_pos c52] at H;have c52b0 := decide_eq_true c52;clear c52;replace H := zB0 H;obtain ⟨⟨t656, t657⟩, A530, H⟩ := H;replace H : (if t657 = true then (if t656 = true then (laws_FnChambersNeededOfAll.l0 k1 t628 (t628.length : Int) (wrap64 (x124_1 + 1))) else (none)) else (none)) = some r := H;have A53 := qa.mk A530;clear A530;by_cases c54 : t657 = true
   rotate_left
   ·replace c54 := Bool.eq_false_iff.mpr c54;subst c54;rw [if_neg zF] at H;exact absurd H (by simp)
   subst c54;rw [if_pos rfl] at H;by_cases c55 : t656 = true
   rotate_left
   ·replace c55 := Bool.eq_false_iff.mpr c55;subst c55;rw [if_neg zF] at H;exact absurd H (by simp)
   subst c55;rw [if_pos rfl] at H;have H' := qa.mk H;clear H;have p654 : 0 ≤ (x124_1 : Int) := zk;have q654 : x124_1 < (t628.length : Int) := zk;obtain ⟨ad654, A654_1, c654_1, e654, hx654_0, hx654_1, hl654_1, hi654_1⟩ := Jo (Kd.S_reads' HO_122.out).2.2 x124_1 p654 q654;cases e654;obtain ⟨ce654, hce654, hMe654, hcc654⟩ := Kd.S_get HO_122.out z40 x124_1 p654 (by first | exact q654 | exact zk | (have e_ := (Kd.S_reads' HO_122.out).1; omega));obtain ⟨ve654_1, rfl, ge654_1⟩ := IB hMe654;have hv654_1 := hcc654 1 _ rfl;rw [Vh _ _ 1 (by omega)] at hv654_1;replace hv654_1 := Option.some.inj (hv654_1.symm.trans hx654_1);rw [hv654_1] at ge654_1;have HL654_1 := qa.mk (show Kd.R (Kd.int .i64) 3 _ _ _ _ ((yc t628 x124_1).f1) from ge654_1);clear hv654_1 ge654_1 hcc654 hce654;have HR654_1 := qa.mk hi654_1;have HC654_1 := qa.mk hl654_1;clear hi654_1 hl654_1;replace p654 := eq_true p654;replace q654 := eq_true q654;go_wp2_with (first | ((with_reducible refine Ma (N := 18) rfl ?_); (try (refine Qg (by rfl) ?_; dsimp only)); refine zq 18 #[.int .i64 0, .slice none 0 0] 40 ?_; intro gb655 hg w56 hbox hb; have BK655 := qa.mk hbox; have GW655 := zG hg HB; have GE655 := zG hg HB; have NB627_655 := zNa hg BK627; have NB655_627 := zNb hg BK627; have NB648_655 := zNa hg BK648; have NB655_648 := zNb hg BK648; replace HO_122 := qa.mk (Kd.S_below (Kd.S_elderB (by (with_reducible repeat (first | apply Kd.S_alloc | apply Kd.S_drewN | apply Kd.S_drew)); exact HO_122.out) gb655 (Nat.le_of_eq hg.symm)) hb); replace HO_649001 := qa.mk (Kd.S_below (by (with_reducible repeat (first | apply Kd.S_alloc | apply Kd.S_drewN | apply Kd.S_drew)); exact HO_649001.out) hb); replace HL654_1 := qa.mk (Kd.R_below (zr HL654_1.out) hb); replace BK627 := zK BK627 hb; replace BK648 := zK BK648 hb; replace HR654_1 := qa.mk (Kd.C_below (by repeat (first | (with_reducible exact HR654_1.out) | (with_reducible refine Kd.C_alloc ?_ _) | (with_reducible refine Kd.C_drewN ?_ _) | (with_reducible refine Kd.C_drew ?_) | exact HR654_1.out)) hb); replace HB := zH hb HB; clear hb hbox hg; have hnb57 := NB655_627.out; have hnc57 := NB627_655.out; have hnb58 := NB655_648.out; have hnc58 := NB648_655.out; obtain ⟨hcz59_0, hcz59_1, hfz59_0, hfz59_1⟩ := zC2 BK655) | ((with_reducible refine Va (f := 14) rfl ?_); refine zl 130 Tryz.func14 #[.agg #[.int .i64 ((yc t628 x124_1).f0), .slice A654_1 ((yc t628 x124_1).f1).length c654_1]] ?_; (with_reducible refine (Gf.calls k1 ((yc t628 x124_1).f0) _ _ ((yc t628 x124_1).f1) true true _ ?side1 ?side2 A53.out).mono ?_); (case side1 => repeat (first | exact ((Kd.R_reads' (by (with_reducible repeat (first | apply Kd.R_alloc | apply Kd.R_drewN | apply Kd.R_drew)); exact (Kd.R_mono (Kd.R_far (p := ⟨gb655, 1, none⟩) (Kd.R_far (p := ⟨gb655, 0, none⟩) (Kd.R_types HL654_1.out BK655.out (by decide)) (fun _ hk => hk.2) (.int .i64 ((yc t628 x124_1).f0))) (fun _ hk => hk.2) (.slice A654_1 ((yc t628 x124_1).f1).length c654_1)) (fun _ h_ => h_.1)))).2.2) | (with_reducible refine Kd.C_alloc ?_ _) | (with_reducible refine Kd.C_drewN ?_ _) | (with_reducible refine Kd.C_drew ?_))); (case side2 => exact HC654_1.out); rintro e w60 ⟨rfl, hb⟩; refine ⟨_, rfl, ?_⟩; replace HO_122 := qa.mk (Kd.S_below (by (with_reducible repeat (first | apply Kd.S_alloc | apply Kd.S_drewN | apply Kd.S_drew)); exact (Kd.S_mono (Kd.S_far (p := ⟨gb655, 1, none⟩) (Kd.S_far (p := ⟨gb655, 0, none⟩) (Kd.S_mono HO_122.out (fun k_ hk => (⟨hk, hk.2⟩ : _ ∧ k_ ≠ gb655))) (fun _ hk => hk.2) (.int .i64 ((yc t628 x124_1).f0))) (fun _ hk => hk.2) (.slice A654_1 ((yc t628 x124_1).f1).length c654_1)) (fun _ h_ => h_.1))) hb); replace HO_649001 := qa.mk (Kd.S_below (by (with_reducible repeat (first | apply Kd.S_alloc | apply Kd.S_drewN | apply Kd.S_drew)); exact (Kd.S_mono (Kd.S_far (p := ⟨gb655, 1, none⟩) (Kd.S_far (p := ⟨gb655, 0, none⟩) (Kd.S_types HO_649001.out BK655.out (by decide)) (fun _ hk => hk.2) (.int .i64 ((yc t628 x124_1).f0))) (fun _ hk => hk.2) (.slice A654_1 ((yc t628 x124_1).f1).length c654_1)) (fun _ h_ => h_.1))) hb); replace BK627 := qa.mk (Na (g := gb627) (o := .cells #[.int .i64 a0_0, .slice A0_1 l0_1.length c0_1] 24 (0, 0)) (zf2 BK627.out NB627_655.out NB627_655.out) hb); replace BK648 := qa.mk (Na (g := gb648) (o := .cells #[.int .i64 t643, .slice Ao44 t644.length co44] 24 (0, 0)) (zf2 BK648.out NB648_655.out NB648_655.out) hb); replace HR654_1 := qa.mk (Kd.C_below ((Kd.R_reads' (by (with_reducible repeat (first | apply Kd.R_alloc | apply Kd.R_drewN | apply Kd.R_drew)); exact (Kd.R_mono (Kd.R_far (p := ⟨gb655, 1, none⟩) (Kd.R_far (p := ⟨gb655, 0, none⟩) (Kd.R_types HL654_1.out BK655.out (by decide)) (fun _ hk => hk.2) (.int .i64 ((yc t628 x124_1).f0))) (fun _ hk => hk.2) (.slice A654_1 ((yc t628 x124_1).f1).length c654_1)) (fun _ h_ => h_.1)))).2.2) hb); replace HL654_1 := qa.mk (Kd.R_below (by (with_reducible repeat (first | apply Kd.R_alloc | apply Kd.R_drewN | apply Kd.R_drew)); exact (Kd.R_mono (Kd.R_far (p := ⟨gb655, 1, none⟩) (Kd.R_far (p := ⟨gb655, 0, none⟩) (Kd.R_types HL654_1.out BK655.out (by decide)) (fun _ hk => hk.2) (.int .i64 ((yc t628 x124_1).f0))) (fun _ hk => hk.2) (.slice A654_1 ((yc t628 x124_1).f1).length c654_1)) (fun _ h_ => h_.1))) hb); replace BK655 := qa.mk (Na (g := gb655) (o := .cells #[.int .i64 ((yc t628 x124_1).f0), .slice A654_1 ((yc t628 x124_1).f1).length c654_1] 40 (0, 0)) (by (with_reducible repeat (first | refine Ca ?_ _ | refine Ra ?_ | refine Qa ?_ _)); refine Yb (cs := #[.int .i64 ((yc t628 x124_1).f0), .slice none 0 0]) ?_ 1 _ rfl; (with_reducible repeat (first | refine Ca ?_ _ | refine Ra ?_ | refine Qa ?_ _)); refine Yb (cs := #[.int .i64 0, .slice none 0 0]) ?_ 0 _ rfl; exact zb BK655.out) hb); replace HB := zH hb HB; clear hb));go_roundg k1;case measure => have := HK1.out; omega
   case rel => exact ⟨(wrap64 (x124_1 + 1)), zE, H', zO HK1, ⟨zS (Kd.S_mono HO_122.out (fun _ hk => trivial))⟩, ⟨zS HO_649001.out⟩, ⟨zb BK627.out⟩, ⟨zb BK648.out⟩, ⟨zh HB.out⟩⟩
section
open Go.ChangeShapes Go.WideShapes Go.ChangeAt Go.Deep
section
variable {H : Type} {enc : TypeId × Value → H} {P : Program} {W : World} {α β γ : Type}
def Et (enc : TypeId × Value → H) (P : Program) (W : World) (t : TypeId) (d : Kd α) (G : α → Prop) : Prop :=
 ∀ (fuel : Nat) (cs : List Value) (y : DataW H × List MemPlace), DataW.trod enc P W 0 (fun _ => true) true fuel t cs = some y → ∃ x, d.K W x cs ∧ G x
def I64 (x : Int) : Prop := -9223372036854775808 ≤ x ∧ x ≤ 9223372036854775807
theorem Mv {t : TypeId} (ht : P.underlying t = some (.int .i64)) : Et enc P W t (Kd.int .i64) I64 := by
 intro fuel cs y h;obtain ⟨n, rfl, _, hw⟩ := DataW.trod_int ht h;exact ⟨n, rfl, Go.bounds_i64 hw⟩
theorem Rq [Inhabited α] {t e : TypeId} {d : Kd α} {G : α → Prop} (ht : P.underlying t = some (.slice e)) (he : P.cellsOf e = d.sz) (h : Et enc P W e d G) :
 Et enc P W t (Kd.slice e d) (fun xs => ∀ x ∈ xs, G x) := by
 intro fuel cs y hr;rcases Deep.open_slice ht hr with ⟨rfl, _⟩ | ⟨a, len, cap, m, n, D, Pl, rfl, _, hlc, hcm, hm, _, hel⟩
 ·exact ⟨[], ⟨none, 0, rfl, Nat.le_refl _, rfl, by simp, fun hp => absurd hp (by simp)⟩, fun x hx => by cases hx⟩
 ·have hm' : len ≤ m := by rw [hm]; simp; omega
  have key : ∀ i, i < len → ∃ x, (∃ cs', d.K W x cs' ∧ ∀ j u, cs'[j]? = some u → W.cell? (a.add (i * d.sz + j)) = some u) ∧ G x := by
   intro i hi;obtain ⟨cs', h1, h2⟩ := hel i (by omega);obtain ⟨x, hx, hG⟩ := h _ _ _ h2;obtain ⟨_, hl, hc⟩ := World.cells?_some h1;refine ⟨x, ⟨cs', hx, fun j u hu => ?_⟩, hG⟩;have hj : j < P.cellsOf e := by rw [← hl]; exact (List.getElem?_eq_some_iff.1 hu).1
   have h3 := hc j hj;rw [Deep.add_add, he] at h3;rw [h3, hu]
  obtain ⟨f, hf⟩ := Deep.choose_lt key;have hlen : ((List.range len).map f).length = len := by simp
  refine ⟨(List.range len).map f, ⟨some a, cap, by rw [hlen], by rw [hlen]; exact hlc, rfl, ?_, fun _ => ⟨a, rfl, fun j p hj => ?_⟩⟩, fun x hx => ?_⟩
  ·rw [hlen]; unfold maxLen at hcm; omega
  ·obtain ⟨hj1, hj2⟩ := List.getElem?_eq_some_iff.1 hj;have hjl : j < len := by rw [hlen] at hj1; exact hj1
   have : p = f j := by rw [← hj2]; simp
   subst this;obtain ⟨⟨cs', hK, hc⟩, _⟩ := hf j hjl;exact ⟨cs', d.K_len hK, hK, hc⟩
  ·obtain ⟨i, hi, rfl⟩ := List.mem_map.1 hx;exact (hf i (List.mem_range.1 hi)).2
theorem Fz {t : TypeId} {f0 f1 : Field} {d0 : Kd α} {d1 : Kd β} {G0 : α → Prop} {G1 : β → Prop} (ht : P.underlying t = some (.struct #[f0, f1])) (hC : P.cellsOf t = d0.sz + d1.sz)
 (o0 : f0.offset = 0) (o1 : f1.offset = d0.sz) (c0 : P.cellsOf f0.type = d0.sz) (c1 : P.cellsOf f1.type = d1.sz) (h0 : Et enc P W f0.type d0 G0) (h1 : Et enc P W f1.type d1 G1) :
 Et enc P W t (Kd.pair d0 d1) (fun x => G0 x.1 ∧ G1 x.2) := by
 intro fuel cs y hr;obtain ⟨y0, y1, n, _, hl, r0, r1⟩ := trod_struct2 ht hr;rw [o0, c0] at r0;rw [o1, c1] at r1;obtain ⟨x0, k0, g0⟩ := h0 _ _ _ r0;obtain ⟨x1, k1, g1⟩ := h1 _ _ _ r1;refine ⟨(x0, x1), ⟨_, _, ?_, k0, k1⟩, g0, g1⟩;rw [List.drop_zero, List.take_of_length_le (l := cs.drop d0.sz) (by rw [List.length_drop, hl, hC]; omega), List.take_append_drop]
theorem Sw {r : Reach} {b0 : Nat} {t : TypeId} {fs : Array Field} {d : Kd α} {G : α → Prop} {v : Value} {y : DataW H} {p : List MemPlace} (ht : P.underlying t = some (.struct fs)) (hv : Value.okWide P W r b0 t v)
 (hr : DataW.Trod enc P W 0 (fun _ => true) true t v y p) (h : Et enc P W t d G) : ∃ x cs, v = .agg cs ∧ d.K W x cs.toList ∧ G x := by
 obtain ⟨cs, rfl, _⟩ := okWide_struct ht hv;obtain ⟨fuel, hf⟩ := hr;obtain ⟨x, k, g⟩ := h _ _ _ hf;exact ⟨x, cs, rfl, k, g⟩
end
end
theorem qx {α : Type} (p : Nat → α → Option Bool) (q : α → Bool) : ∀ l : List α, (∀ x ∈ l, Ev (fun k => p k x) (q x)) → Ev (fun k => Ru (p k) l) (l.any q)
 | [], _ => Ev.now _
 | x :: xs, h => by
  simp only [Ru, List.any_cons];refine Ev.bind (h x (List.mem_cons_self ..)) (Ie (fun e => ?_) (fun e => ?_))
  ·rw [e]; exact Ev.now _
  ·rw [e]; exact qx p q xs (fun y hy => h y (List.mem_cons_of_mem _ hy))
def Mo (P : Nat → Bool) (n i : Nat) : Bool := ((List.range n).drop i).all P
theorem Oo (P : Nat → Bool) (n : Nat) : Mo P n n = true := by
 unfold Mo;rw [List.drop_of_length_le (by simp)]; rfl
theorem Om (P : Nat → Bool) (n i : Nat) (h : i < n) : Mo P n i = (P i && Mo P n (i + 1)) := by
 unfold Mo;rw [Uy P (List.range n) i (by simpa using h), List.getElem_range]
theorem Kh (P : Nat → Bool) (n : Nat) : Mo P n 0 = true ↔ ∀ i, i < n → P i = true := by
 unfold Mo;rw [List.drop_zero, List.all_eq_true];exact ⟨fun h i hi => h i (List.mem_range.2 hi), fun h i hi => h i (List.mem_range.1 hi)⟩
def mk (l : List (List Int)) (i : Nat) : Nat := maskN 0 (l.getD i [])
def rises (l : List (List Int)) (i : Nat) : Bool := decide (i = 0) || lexB (l.getD (i - 1) []) (l.getD i [])
def Po (l : List (List Int)) (i : Nat) : Bool := Mo (fun h => !(mk l i &&& mk l h == mk l i) && !(mk l i &&& mk l h == mk l h)) i 0
def Bl (l : List (List Int)) (i : Nat) : Bool := Mo (fun h => decide (h = i) || !(mk l i &&& mk l h == mk l h)) l.length 0
theorem Jk (n : Nat) (l : List Int) : ∀ m, m < 2 ^ n → (∀ x ∈ l, 0 ≤ x ∧ x ≤ (n : Int) - 1) → maskN m l < 2 ^ n := by
 induction l with
 | nil => intro m hm _; exact hm
 | cons x l ih =>
  intro m hm h;refine ih _ ?_ (fun y hy => h y (List.mem_cons_of_mem _ hy));have hx := h x (List.mem_cons_self ..);exact Nat.or_lt_two_pow hm (Nat.pow_lt_pow_right (by decide) (by omega))
def Jg (m : Int) (l : List (List Int)) : Prop := (1 ≤ m ∧ m ≤ 9) ∧ ∀ x ∈ l, Ji x m = true ∧ x.length ≤ 1048576
theorem Jg.elem {m : Int} {l : List (List Int)} (h : Jg m l) {x : List Int} (hx : x ∈ l) : ∀ y ∈ x, 0 ≤ y ∧ y ≤ (9 : Nat) - 1 := fun y hy => by
 have := Qj (h.2 x hx).1 y hy;have := h.1;omega
theorem Jg.lt {m : Int} {l : List (List Int)} (h : Jg m l) {i : Nat} (hi : i < l.length) : mk l i < 512 := by
 unfold mk;rw [Mg hi];exact Jk 9 _ 0 (by decide) (h.elem (List.getElem_mem hi))
theorem Jg.masks {m : Int} {l : List (List Int)} (h : Jg m l) {i : Nat} (hi : i < l.length) : Ev (fun k => Gd.f k l[i]) (mk l i : Int) ∧ Ev (fun k => Qd.f k l[i]) (mk l i : Int) := by
 have hx := List.getElem_mem hi;have := Wv l[i] (Nat.le_trans (h.2 _ hx).2 (by decide)) (fun y hy => by have := h.elem hx y hy; omega);unfold mk;rw [Mg hi];exact this
theorem qj {a b c : Nat} (ha : a < 512) (hb : b < 512) : (Go.bits .and .i64 (a : Int) (b : Int) = (c : Int)) ↔ ((a &&& b == c) = true) := by
 rw [El a b (by omega) (by omega), beq_iff_eq];omega
theorem Js {i : Nat} (h : i < 9223372036854775808) (h0 : 0 < i) : wrap64 ((i : Int) - 1) = ((i - 1 : Nat) : Int) := by unfold wrap64; omega
def EC (m : Int) (l : List (List Int)) : Bool := inB m 1 9 && (decide (l ≠ []) && ((l.all fun s => decide (s ≠ []) && Ji s m) && Mo (fun i => rises l i && Bl l i) l.length 0))
theorem Jg.of {m : Int} {l : List (List Int)} (hm : inB m 1 9 = true) (hs : (l.all fun s => decide (s ≠ []) && Ji s m) = true) (hb : ∀ x ∈ l, x.length ≤ 1048576) : Jg m l := by
 refine ⟨Ki.1 hm, fun x hx => ⟨?_, hb x hx⟩⟩;have := List.all_eq_true.1 hs x hx;rw [Bool.and_eq_true] at this;exact this.2
theorem Tq : ∀ (l : List Int) (p hi : Int), Ch (some p) l = true → (∀ x ∈ l, x ≤ hi) → (l.length : Int) + p ≤ max p hi
 | [], p, hi, _, _ => by simp only [List.length_nil]; omega
 | x :: l, p, hi, h, hx => by
  simp only [Ch, Bool.and_eq_true, decide_eq_true_eq] at h;have h1 := hx x (List.mem_cons_self ..);have h2 := Tq l x hi h.2 (fun y hy => hx y (List.mem_cons_of_mem _ hy));rw [List.length_cons];omega
theorem Hz {x : List Int} {m : Int} (h : Ji x m = true) (hm : m ≤ 9) : x.length ≤ 9 := by
 unfold Ji PI at h;rw [Bool.and_eq_true, List.all_eq_true] at h;obtain ⟨ha, hi⟩ := h;cases x with
 | nil => simp
 | cons a l =>
  have h0 := Ki.1 (ha a (List.mem_cons_self ..));simp only [Ch] at hi;have := Tq l a (m - 1) (by simpa using hi) (fun y hy => (Ki.1 (ha y (List.mem_cons_of_mem _ hy))).2);rw [List.length_cons];omega
theorem Jg.ofB {m : Int} {l : List (List Int)} (hm : inB m 1 9 = true) (hs : (l.all fun s => decide (s ≠ []) && Ji s m) = true) : Jg m l := by
 refine Jg.of hm hs (fun x hx => ?_);have := List.all_eq_true.1 hs x hx;rw [Bool.and_eq_true] at this;exact Nat.le_trans (Hz this.2 (Ki.1 hm).2) (by decide)
theorem Nl {xs : List Bool} {i : Nat} (h : i < xs.length) : yf false xs (i : Int) = xs[i] := by unfold yf; rw [Int.toNat_natCast]; exact Mg h
def Vf (g : Nat → Bool) (n : Nat) : List Bool := (List.range n).map g
theorem Lc (g : Nat → Bool) (n : Nat) : (Vf g n).length = n := by simp [Vf]
theorem Yj (g : Nat → Bool) (n i : Nat) (h : i < (Vf g n).length) : (Vf g n)[i] = g i := by simp [Vf]
theorem FC (g : Nat → Bool) (n : Nat) : Vf g (n + 1) = Vf g n ++ [g n] := by simp [Vf, List.range_succ]
theorem Ht (g : Nat → Bool) (i : Nat) (b b' : Bool) (l : List Bool) : (Vf g i ++ b :: l).set i b' = Vf g i ++ b' :: l := by
 rw [List.set_append_right _ _ (by rw [Lc]; omega), Lc, Nat.sub_self]; rfl
theorem EI (g : Nat → Bool) (i : Nat) (b : Bool) (l : List Bool) : yf false (Vf g i ++ b :: l) (i : Int) = b := by
 rw [Nl (by rw [List.length_append, Lc, List.length_cons]; omega), List.getElem_append_right (by rw [Lc]; omega)];simp [Lc]
theorem Pv (g : Nat → Bool) (i : Nat) (l : List Bool) : Vf g i ++ g i :: l = Vf g (i + 1) ++ l := by rw [FC, List.append_assoc]; rfl
def Vg (l : List (List Int)) (i : Nat) : Bool := l.any fun s => i &&& maskN 0 s == maskN 0 s
def Tu (m : Int) (l : List (List Int)) : List Bool := Vf (Vg l) (2 ^ m.toNat)
theorem Qo {a b : Nat} (ha : a < 512) (hb : b < 512) : (Go.bits .and .i64 (a : Int) (b : Int) == (b : Int)) = (a &&& b == b) := by
 rw [Bool.eq_iff_iff, ← qj ha hb, beq_iff_eq]
theorem Qv {m : Int} (h : 1 ≤ m ∧ m ≤ 9) : 2 ^ m.toNat ≤ 512 := Nat.pow_le_pow_right (n := 2) (by decide) (show m.toNat ≤ 9 by omega)
theorem IC {m : Int} (h : 1 ≤ m ∧ m ≤ 9) : Gi.f m = some (((2 ^ m.toNat - 1 : Nat) : Int)) := by
 rw [KE m (by omega)];have : 1 ≤ 2 ^ m.toNat := Nat.one_le_two_pow;congr 1;rw [Int.ofNat_sub this]; simp
theorem KC (n i : Nat) (m : Int) (l : List (List Int)) (hl : l.length ≤ 1048576) (h : Jg m l) (hi : i < n) (hn : n ≤ 512) (r : List Bool) (ih : Ev (fun k => Ec.l0 k l (Vf (Vg l) (i + 1) ++ List.replicate (n - (i + 1)) false) (n : Int) ((i + 1 : Nat) : Int)) r) :
 ∀ j, j ≤ l.length → Ev (fun k => Ec.l1 k l (Vf (Vg l) i ++ ((l.take j).any fun s => i &&& maskN 0 s == maskN 0 s) :: List.replicate (n - (i + 1)) false) (i : Int) (n : Int) (i : Int) l (l.length : Int) (j : Int)) r := by
 have hlen : ∀ b : Bool, (Vf (Vg l) i ++ b :: List.replicate (n - (i + 1)) false).length = n := fun b => by rw [List.length_append, Lc, List.length_cons, List.length_replicate]; omega
 refine Ld l.length (fun k j => Ec.l1 k l (Vf (Vg l) i ++ ((l.take j).any fun s => i &&& maskN 0 s == maskN 0 s) :: List.replicate (n - (i + 1)) false) (i : Int) (n : Int) (i : Int) l (l.length : Int) (j : Int)) (fun _ => r) ?_ ?_
 ·refine Ba ?_;simp only [Ec.l1];refine Vb (Int.lt_irrefl _) ?_;rw [List.take_length, Eb hi (Nat.le_trans hn (by decide))];have e : (l.any fun s => i &&& maskN 0 s == maskN 0 s) = Vg l i := by unfold Vg; rfl
  rw [e, Pv];exact ih
 ·intro j hj ihj;refine Ba ?_;simp only [Ec.l1];refine Xa (by omega) (Xa (by omega) (Xa (by omega) ?_));rw [Ih hj, Eb hj (Nat.le_trans hl (by decide))];have hm := (h.masks hj).2;have hk : mk l j = maskN 0 l[j] := by unfold mk; rw [Mg hj]
  have hlt := h.lt hj;rw [hk] at hm hlt;refine Ev.bind hm (Xa (by omega) (Xa (by rw [hlen]; omega) ?_));rw [EI, Int.toNat_natCast, Ht, Ht, Qo (by omega) hlt];rw [List.take_succ_eq_append_getElem hj, List.any_append] at ihj;simp only [List.any_cons, List.any_nil, Bool.or_false] at ihj;refine Ie (fun e => ?_) (fun e => ?_)
  ·rw [e, Bool.true_or] at ihj; exact ihj
  ·rw [e, Bool.false_or] at ihj; exact ihj
theorem LC (n : Nat) (m : Int) (l : List (List Int)) (hl : l.length ≤ 1048576) (h : Jg m l) (hn : n ≤ 512) :
 Ev (fun k => Ec.l0 k l (List.replicate n false) (n : Int) 0) (Vf (Vg l) n) := by
 have := Ld n (fun k i => Ec.l0 k l (Vf (Vg l) i ++ List.replicate (n - i) false) (n : Int) (i : Int)) (fun _ => Vf (Vg l) n) ?_ ?_ 0 (Nat.zero_le _)
 ·simpa [Vf] using this
 ·refine Ba ?_;simp only [Ec.l0];exact Vb (Int.lt_irrefl _) (Rb (Ev.now _) (by simp))
 ·intro i hi ih;refine Ba ?_;simp only [Ec.l0];refine Xa (by omega) ?_;have := KC n i m l hl h hi hn _ ih 0 (Nat.zero_le _);rw [show n - i = (n - (i + 1)) + 1 by omega, List.replicate_succ];simpa using this
theorem Bq (m : Int) (l : List (List Int)) (hl : l.length ≤ 1048576) (h : Jg m l) : Ev (fun k => Ec.f k m l) (Tu m l) := by
 have hp := Qv h.1;have h1 : 1 ≤ 2 ^ m.toNat := Nat.one_le_two_pow;have hw : wrap64 (((2 ^ m.toNat - 1 : Nat) : Int) + 1) = ((2 ^ m.toNat : Nat) : Int) := by
  generalize 2 ^ m.toNat = n at hp h1;unfold wrap64; omega
 have hl0 := LC (2 ^ m.toNat) m l hl h hp;unfold Ec.f Tu;refine Lg (IC h.1) ?_;generalize 2 ^ m.toNat = n at *
 rw [hw];have hn2 : (n : Int).toNat ≤ 281474976710656 := by rw [Int.toNat_natCast]; exact Nat.le_trans hp (by decide)
 refine Xa (Int.natCast_nonneg n) (Xa hn2 (Lg rfl ?_));simp only [Int.toNat_natCast, List.length_replicate];exact hl0
theorem Dn (a b : Nat) (ha : a < 2 ^ 62) (hb : b < 2 ^ 62) : Go.bits .andNot .i64 (a : Int) (b : Int) = ((a ^^^ (a &&& b) : Nat) : Int) := by
 have ha' : a % 2 ^ 64 = a := Nat.mod_eq_of_lt (by omega);have hb' : b % 2 ^ 64 = b := Nat.mod_eq_of_lt (by omega);have e : a &&& (2 ^ 64 - (b + 1)) = a ^^^ (a &&& b) := by
  refine Nat.eq_of_testBit_eq fun i => ?_;rw [Nat.testBit_and, Nat.testBit_xor, Nat.testBit_and, Nat.testBit_two_pow_sub_succ (by omega)];by_cases hi : i < 64
  ·cases a.testBit i <;> cases b.testBit i <;> simp [hi]
  ·have : a.testBit i = false := Nat.testBit_lt_two_pow (Nat.lt_of_lt_of_le (show a < 2 ^ 64 by omega) (Nat.pow_le_pow_right (by decide) (by omega)));simp [this]
 have h : Go.bits .andNot .i64 (a : Int) (b : Int) = IntKind.i64.wrap ((a &&& (2 ^ 64 - 1 - b % 2 ^ 64) : Nat) : Int) := by
  show IntKind.i64.wrap ((BitVec.ofInt 64 (a : Int) &&& ~~~ (BitVec.ofInt 64 (b : Int))).toNat : Int) = _;rw [BitVec.ofInt_natCast, BitVec.ofInt_natCast, BitVec.toNat_and, BitVec.toNat_not, BitVec.toNat_ofNat, BitVec.toNat_ofNat, ha']
 rw [h, hb', show 2 ^ 64 - 1 - b = 2 ^ 64 - (b + 1) by omega, e];have : a ^^^ (a &&& b) < 2 ^ 62 := Nat.xor_lt_two_pow ha (Nat.and_lt_two_pow _ hb);exact Jq _ (by omega) (by exact_mod_cast this)
def Kk (m i : Nat) : Bool := m >>> i % 2 == 1
theorem has_eq (m i : Nat) (hm : m < 65536) (hi : i ≤ 64) : yg.f (m : Int) (i : Int) = some (Kk m i) := by
 unfold yg.f Kk;have h2 : m >>> i < 2 ^ 62 := yH _ _ (by omega);rw [if_pos (by omega), Vq _ _ hi, Wq _ h2];congr 1;rw [Bool.eq_iff_iff, beq_iff_eq, beq_iff_eq];omega
theorem qp (m i : Nat) (hi : i ≤ 64) : Int.tmod (shr .i64 (m : Int) (i : Int)) 2 = 0 ↔ Kk m i = false := by
 rw [Vq _ _ hi, Wy];unfold Kk;rw [beq_eq_false_iff_ne];omega
theorem Rv (m i : Nat) (hi : i ≤ 64) : Int.tmod (shr .i64 (m : Int) (i : Int)) 2 = 1 ↔ Kk m i = true := by
 rw [Vq _ _ hi, Wy];unfold Kk;rw [beq_iff_eq];omega
theorem JH {P : Nat → Nat → Prop} [∀ m i, Decidable (P m i)] (h : ((List.range 512).all fun m => (List.range 9).all fun i => decide (P m i)) = true) : ∀ m i, m < 512 → i < 9 → P m i := fun m i hm hi =>
 of_decide_eq_true (List.all_eq_true.1 (List.all_eq_true.1 h m (List.mem_range.2 hm)) i (List.mem_range.2 hi))
theorem or_bit : ∀ m i, m < 512 → i < 9 → m ||| 2 ^ i = if Kk m i = true then m else m + 2 ^ i := JH (by decide +kernel)
theorem Iz : ∀ m i, m < 512 → i < 9 → m ^^^ (m &&& 2 ^ i) = if Kk m i = true then m - 2 ^ i else m := JH (by decide +kernel)
theorem Ti {g : Nat → Bool} {N i : Nat} (h : i < N) : yf false (Vf g N) (i : Int) = g i := by
 rw [Nl (by rw [Lc]; exact h), Yj]
theorem Kt {i n : Nat} (h : i < n) (hn : n ≤ 9) : 2 ^ i < 2 ^ n ∧ 2 ^ n ≤ 512 :=
 ⟨Nat.pow_lt_pow_right (by decide) h, Nat.pow_le_pow_right (n := 2) (by decide) hn⟩
def EM (m : Nat) : List Int := ((List.range 4).filter fun i => m >>> i % 2 == 1).map fun (i : Nat) => (i : Int)
def Eo : Nat → List Bool → Option (List (List Bool))
 | 0, p => some (if yf false p ((p.length - 1 : Nat) : Int) = false then [] else if yf false p 0 = true then [] else [p])
 | d + 1, p => (Fp p (EM p.length) false).bind fun m => (Eo d (p ++ [true])).bind fun l1 => if m = true then some l1 else (Eo d (p ++ [false])).bind fun l2 => some (l1 ++ l2)
def Ij (n : Nat) : List (List Bool) := (Eo (2 ^ n) []).getD []
def Wh (t : List Bool) : List (List Int) := Ci lexB (((List.range t.length).filter fun m => t.getD m false && (List.range 4).all fun i => !(m >>> i % 2 == 1 && t.getD (m - 2 ^ i) false)).map EM)
def Ed (n : Nat) : List (List (List Int)) := Ci Yk ((Ij n).map Wh)
theorem TF : ∀ m : Nat, m < 16 → Jc.f 40 (m : Int) = some (EM m) := by decide +kernel
theorem UL : ∀ n, n < 5 → (Eo (2 ^ n) []).isSome = true := by decide +kernel
theorem GL : ∀ n : Nat, n < 5 → 1 ≤ n → ∀ t ∈ Ij n, (Yi.f 100 n t) = some ((n : Int), Wh t) := by decide +kernel
theorem FI : ∀ n : Nat, n < 5 → 1 ≤ n → ∀ t ∈ Ij n, Tu n (Wh t) = t := by decide +kernel
theorem BF : (Fa.f 1200 1).map (·.map fun g => (g.f0, g.f1)) = some ((Ed 1).map fun s => (1, s)) := by decide +kernel
theorem CF : (Fa.f 1200 2).map (·.map fun g => (g.f0, g.f1)) = some ((Ed 2).map fun s => (2, s)) := by decide +kernel
theorem DF : (Fa.f 1200 3).map (·.map fun g => (g.f0, g.f1)) = some ((Ed 3).map fun s => (3, s)) := by decide +kernel
theorem EF : (Fa.f 1200 4).map (·.map fun g => (g.f0, g.f1)) = some ((Ed 4).map fun s => (4, s)) := by decide +kernel
theorem OC : ∀ n : Nat, n < 5 → 1 ≤ n → ((Ij n).length ≤ 1000000 ∧ ∀ t ∈ Ij n, t.length = 2 ^ n) := by decide +kernel
theorem VH : ∀ n : Nat, n < 5 → 1 ≤ n → ∀ t ∈ Ij n, (Wh t).length ≤ 16 ∧ ∀ s ∈ Wh t, Ji s n = true ∧ s.length ≤ 16 := by decide +kernel
theorem II : ∀ n : Nat, n < 5 → 1 ≤ n → (Fa.f 1200 n).map (·.map fun g => (g.f0, g.f1)) = some ((Ed n).map fun s => ((n : Int), s))
 | 1, _, _ => BF
 | 2, _, _ => CF
 | 3, _, _ => DF
 | 4, _, _ => EF
 | n + 5, h, _ => absurd h (by omega)
 | 0, _, h => absurd h (by decide)
def Dj (q : Nat → Bool) (N : Nat) : List (List Int) := ((List.range N).filter q).map Xy
theorem Cq (q : Nat → Bool) (N : Nat) : (Dj q N).length ≤ N := by unfold Dj; rw [List.length_map]; exact Nat.le_trans (List.length_filter_le _ _) (by simp)
theorem SC {q : Nat → Bool} {N : Nat} {x : List Int} (h : x ∈ Dj q N) : x.length ≤ 16 := by
 obtain ⟨m, _, rfl⟩ := List.mem_map.1 h;exact Vv _ _ _
theorem Kz (q : Nat → Bool) (i : Nat) : Dj q (i + 1) = Dj q i ++ if q i = true then [Xy i] else [] := by
 unfold Dj;rw [List.range_succ, List.filter_append, List.map_append];congr 1;by_cases h : q i = true
 ·rw [if_pos h, List.filter_cons_of_pos h]; rfl
 ·rw [if_neg h, List.filter_cons_of_neg h]; rfl
theorem Ll {p q : Int → Option Bool} (h : ∀ x, LeO (p x) (q x)) : ∀ k x5 x10 x11, LeO (Da.l0 p k x5 x10 x11) (Da.l0 q k x5 x10 x11)
 | 0, _, _, _ => fun r h => by simp [Da.l0] at h
 | k + 1, x5, x10, x11 => by
  unfold Da.l0;refine LeO.ite (LeO.bind (h _) fun _ => LeO.ite (LeO.bind (LeO.refl _) fun _ => LeO.ite (Ll h k _ _ _) (LeO.refl _)) (Ll h k _ _ _)) (LeO.refl _)
theorem Py (n : Int) (l : List Bool) (N : Nat) (hN : l.length = N) (hN2 : N ≤ 512) (p : Int → Option Bool) (q : Nat → Bool) (h : ∀ m, m < N → p (m : Int) = some (q m)) : Ev (fun k => Da.f k n l p) (Ci lexB (Dj q N)) := by
 unfold Da.f;rw [hN];refine Ld N (fun k i => Da.l0 p k (Dj q i) (N : Int) (i : Int)) (fun _ => Ci lexB (Dj q N)) ?_ ?_ 0 (Nat.zero_le _)
 ·refine Ba ?_;simp only [Da.l0];refine Vb (by omega) (Lg (show Qk.f (Dj q N) = some (Ci lexB (Dj q N)) by
   unfold Qk.f;rw [if_pos];rw [Bool.and_eq_true];exact ⟨decide_eq_true (by have := Cq q N; omega), List.all_eq_true.2 fun x hx => decide_eq_true (Nat.le_trans (SC hx) (by decide))⟩) (Ev.now _))
 ·intro i hi ih;refine Ba ?_;simp only [Da.l0];rw [Eb hi (by omega)];rw [Kz] at ih;refine Xa (by omega) (Lg (h i hi) (Ie (fun e => ?_) (fun e => ?_)))
  ·rw [if_pos e] at ih;exact Ev.bind (Hm i (by omega)) (Xa (by have := Cq q i; omega) ih)
  ·rw [if_neg (by rw [e]; decide), List.append_nil] at ih;exact ih
theorem yx {p : Nat → Int → Option Bool} {q : Nat → Bool} : ∀ (N : Nat), (∀ m, m < N → Ev (fun k => p k (m : Int)) (q m)) → ∃ K, ∀ k, K ≤ k → ∀ m, m < N → p k (m : Int) = some (q m)
 | 0, _ => ⟨0, fun _ _ m hm => absurd hm (Nat.not_lt_zero m)⟩
 | N + 1, h => by
  obtain ⟨K, hK⟩ := yx N (fun m hm => h m (Nat.lt_succ_of_lt hm));obtain ⟨K2, hK2⟩ := h N (Nat.lt_succ_self N);refine ⟨max K K2, fun k hk m hm => ?_⟩;by_cases e : m < N
  ·exact hK k (by omega) m e
  ·obtain rfl : m = N := by omega
   exact hK2 k (by omega)
theorem KI (n : Int) (l : List Bool) (N : Nat) (hN : l.length = N) (hN2 : N ≤ 512) (p : Nat → Int → Option Bool) (q : Nat → Bool) (h : ∀ m, m < N → Ev (fun k => p k (m : Int)) (q m)) : Ev (fun k => Da.f k n l (p k)) (Ci lexB (Dj q N)) := by
 obtain ⟨K, hK⟩ := yx N h;obtain ⟨K2, hK2⟩ := Py n l N hN hN2 (fun x => if 0 ≤ x ∧ x < (N : Int) then some (q x.toNat) else none) q (fun m hm => by rw [if_pos ⟨by omega, by omega⟩, Int.toNat_natCast]);refine ⟨max K K2, fun k hk => ?_⟩;have h2 := hK2 k (by omega);unfold Da.f at *
 refine Ll (fun x => ?_) k _ _ _ _ h2;intro r hr;by_cases hx : 0 ≤ x ∧ x < (N : Int)
 ·rw [if_pos hx] at hr;have := hK k (by omega) x.toNat (by omega);rw [Int.toNat_of_nonneg hx.1] at this;rw [this]; exact hr
 ·rw [if_neg hx] at hr; cases hr
def aN (a b : Nat) : Nat := a ^^^ (a &&& b)
def wOf (s t u : Nat) : Nat := (s &&& t) ||| aN (s ||| t) u
def Jr (s t u : Nat) : Bool := u &&& (s &&& t) == s &&& t && aN u (s ||| t) == 0
theorem Yx : ((List.range 512).all fun m => maskN 0 (Xy m) == m) = true := by decide +kernel
def Qy (N : Nat) : List Nat := (Ci lexB (Dj (fun _ => true) N)).map (maskN 0)
theorem qD : ((List.range 512).all fun m => (Xy m).all fun x => decide (0 ≤ x ∧ x ≤ 15)) = true := by decide +kernel
theorem Dq (m : Nat) (hm : m < 512) : maskN 0 (Xy m) = m := by
 have := List.all_eq_true.1 Yx m (List.mem_range.2 hm);simpa using this
theorem Fq (N : Nat) (hN : N ≤ 512) : (Qy N).Perm (List.range N) := by
 unfold Qy;refine ((Hg lexB _).map (maskN 0)).trans ?_;unfold Dj;rw [List.filter_eq_self.2 (fun _ _ => rfl), List.map_map, show (List.range N).map (maskN 0 ∘ Xy) = (List.range N).map id from List.map_congr_left fun m hm => Dq m (by have := List.mem_range.1 hm; omega), List.map_id]
theorem KF (N : Nat) (hN : N ≤ 512) : (Qy N).length = N := by rw [(Fq N hN).length_eq, List.length_range]
theorem OI (N : Nat) (hN : N ≤ 512) {x : Nat} (h : x ∈ Qy N) : x < N := List.mem_range.1 ((Fq N hN).mem_iff.1 h)
def cI (l : List Nat) : List Int := l.map fun (m : Nat) => (m : Int)
theorem Ro (l : List Nat) : (cI l).length = l.length := by unfold cI; rw [List.length_map]
theorem SI {l : List Nat} {i : Nat} (h : i < l.length) : rd (cI l) (i : Int) = (l[i] : Int) := by
 rw [Mi (by rw [Ro]; exact h)];unfold cI;rw [List.getElem_map]
theorem Oz (g : Nat → Bool) (n : Nat) (hn : n ≤ 9) : Ev (fun k => Qc.f k (n : Int) (Vf g (2 ^ n))) (cI (Qy (2 ^ n))) := by
 have hN : 2 ^ n ≤ 512 := Nat.pow_le_pow_right (by decide) hn;unfold Qc.f Bn.f;refine Ev.bind (Py (n : Int) (Vf g (2 ^ n)) (2 ^ n) (Lc _ _) hN (fun _ => some true) (fun _ => true) (fun _ _ => rfl)) ?_;have hp := Hg lexB (Dj (fun _ => true) (2 ^ n));have hin : ∀ x ∈ Ci lexB (Dj (fun _ => true) (2 ^ n)), x.length ≤ 16 ∧ ∀ y ∈ x, 0 ≤ y ∧ y ≤ 15 := by
  intro x hx;obtain ⟨m, hm, rfl⟩ := List.mem_map.1 (hp.mem_iff.1 hx);have hm2 := List.mem_range.1 (List.mem_filter.1 hm).1;refine ⟨Vv _ _ _, fun y hy => ?_⟩;exact of_decide_eq_true (List.all_eq_true.1 (List.all_eq_true.1 qD m (List.mem_range.2 (by omega))) y hy)
 have hl : (Ci lexB (Dj (fun _ => true) (2 ^ n))).length ≤ 512 := by rw [hp.length_eq]; exact Nat.le_trans (Cq _ _) hN
 unfold Qy cI;generalize Ci lexB (Dj (fun _ => true) (2 ^ n)) = S at hin hl;rw [List.map_map];refine Ld S.length (fun k i => Qc.l0 k ((S.take i).map ((fun (m : Nat) => (m : Int)) ∘ maskN 0)) S (S.length : Int) (i : Int)) (fun _ => S.map ((fun (m : Nat) => (m : Int)) ∘ maskN 0)) ?_ ?_ 0 (Nat.zero_le _)
 ·refine Ba ?_;simp only [Qc.l0, List.take_length];exact Vb (by omega) (Ev.now _)
 ·intro i hi ih;obtain ⟨h1, h2⟩ := hin _ (List.getElem_mem hi);refine Ba ?_;simp only [Qc.l0];rw [Ih hi, Eb hi (by omega)];rw [List.take_succ_eq_append_getElem hi, List.map_append] at ih;exact Xa (by omega) (Xa (by omega) (Xa (by omega) (Ev.bind (Wv S[i] (by omega) h2).1 (Xa (by rw [List.length_map, List.length_take]; omega) ih))))
theorem LF (l : List Int) (x : Int) (hl : l.length ≤ 1000) : ∃ v : Int, (v ≥ 0 ↔ x ∈ l) ∧ Ev (fun k => Fb.f k l x) v := by
 unfold Fb.f;have key : ∀ d i : Nat, i + d = l.length → ∃ v : Int, (v ≥ 0 ↔ x ∈ l.drop i) ∧ Ev (fun k => Fb.l0 k l x (l.length : Int) (i : Int)) v := by
  intro d;induction d with
  | zero =>
   intro i hi;refine ⟨-1, ?_, Ba ?_⟩
   ·rw [List.drop_of_length_le (by omega)]; simp
   ·simp only [Fb.l0];exact Vb (by omega) (Ev.now _)
  | succ d ih =>
   intro i hi;have hil : i < l.length := by omega
   obtain ⟨v, h1, h2⟩ := ih (i + 1) (by omega);rw [List.drop_eq_getElem_cons hil];by_cases e : x = l[i]
   ·refine ⟨(i : Int), ?_, Ba ?_⟩
    ·rw [e]; exact ⟨fun _ => List.mem_cons_self .., fun _ => by omega⟩
    ·simp only [Fb.l0];rw [Mi hil];exact Xa (by omega) (Xa (by omega) (Xa (by omega) (Xa e (Ev.now _))))
   ·refine ⟨v, ?_, Ba ?_⟩
    ·rw [h1, List.mem_cons]; simp [e]
    ·simp only [Fb.l0];rw [Mi hil, Eb hil (by omega)];exact Xa (by omega) (Xa (by omega) (Xa (by omega) (Vb e h2)))
 obtain ⟨v, h1, h2⟩ := key l.length 0 (Nat.zero_add _);exact ⟨v, by simpa using h1, h2⟩
theorem Vx (l : List Nat) (x : Nat) (hl : l.length ≤ 1000) : Ev (fun k => Ve.f k (cI l) (x : Int)) (l.contains x) := by
 obtain ⟨v, h1, h2⟩ := LF (cI l) (x : Int) (by rw [Ro]; exact hl);unfold Ve.f;refine Ev.bind h2 (Rb (Ev.now _) ?_);rw [Bool.eq_iff_iff, decide_eq_true_eq, h1, List.contains_iff_mem];unfold cI;rw [List.mem_map];constructor
 ·rintro ⟨a, ha, h⟩;have e : a = x := by omega
  rw [← e]; exact ha
 ·intro h;exact ⟨x, h, rfl⟩
theorem NL {n s t u : Nat} (hs : s < 2 ^ n) (ht : t < 2 ^ n) : wOf s t u < 2 ^ n := by
 unfold wOf aN;exact Nat.or_lt_two_pow (Nat.and_lt_two_pow _ ht) (Nat.xor_lt_two_pow (Nat.or_lt_two_pow hs ht) (Nat.lt_of_le_of_lt Nat.and_le_left (Nat.or_lt_two_pow hs ht)))
theorem add_lt (m i n : Nat) (hn : n ≤ 9) (hm : m < 2 ^ n) (hi : i < n) (hb : Kk m i = false) : m + 2 ^ i < 2 ^ n := by
 have hp := (Kt hi hn).2;have := Nat.or_lt_two_pow hm (Kt hi hn).1;rw [or_bit m i (by omega) (by omega), if_neg (by simp [hb])] at this;exact this
def Xn (p : Nat → Bool) (n m : Nat) : Bool := (List.range (n - m)).all fun j => p (m + j)
theorem Ry (p : Nat → Bool) (n : Nat) : Xn p n n = true := by simp [Xn]
theorem Tv (p : Nat → Bool) (n m : Nat) (h : m < n) : Xn p n m = (p m && Xn p n (m + 1)) := by
 obtain ⟨d, rfl⟩ := Nat.exists_eq_add_of_lt h;unfold Xn;rw [show m + d + 1 - m = d + 1 by omega, show m + d + 1 - (m + 1) = d by omega, List.range_succ_eq_map, List.all_cons, List.all_map];simp only [Nat.add_zero, Function.comp_def, Nat.succ_eq_add_one, Nat.add_assoc, Nat.add_comm, Nat.add_left_comm]
def wsB (g : Nat → Bool) (i j m : Nat) : Bool := !(!Kk m i && !Kk m j && g (m + 2 ^ j) && !g (m + 2 ^ i))
theorem Ty (x : Nat) (h : x < 1152921504606846976) : wrap64 (x : Int) = (x : Int) := Uf (by omega)
theorem Vk (g : Nat → Bool) (n i j : Nat) (hn : n ≤ 9) (hi : i < n) (hj : j < n) : Ev (fun k => Sc.f k (Vf g (2 ^ n)) (i : Int) (j : Int)) (Xn (wsB g i j) (2 ^ n) 0) := by
 have hp := (Kt hi hn).2;unfold Sc.f;rw [Lc];have := Ld (2 ^ n) (fun k m => Sc.l0 k (Vf g (2 ^ n)) (i : Int) (j : Int) ((2 ^ n : Nat) : Int) (m : Int)) (fun m => Xn (wsB g i j) (2 ^ n) m) ?_ ?_ 0 (Nat.zero_le _)
 ·exact this
 ·refine Ba ?_;simp only [Sc.l0];rw [Ry];exact Vb (Int.lt_irrefl _) (Ev.now _)
 ·intro m hm ih;refine Ba ?_;simp only [Sc.l0];rw [Tv _ _ _ hm];refine Xa (by omega) (Xa (by omega) ?_);rw [Eb hm (by omega)];by_cases e0 : Kk m i = false
  case neg => exact Vb (fun h => e0 ((qp m i (by omega)).1 h)) (by have e := eq_true_of_ne_false e0; simpa [wsB, e] using ih)
  refine Xa ((qp m i (by omega)).2 e0) (Xa (by omega) ?_);by_cases e2 : Kk m j = false
  case neg => exact Vb (fun h => e2 ((qp m j (by omega)).1 h)) (by have e := eq_true_of_ne_false e2; simpa [wsB, e] using ih)
  refine Xa ((qp m j (by omega)).2 e2) ?_;have l1 := add_lt m j n hn hm hj e2;have l2 := add_lt m i n hn hm hi e0;have w1 : wrap64 ((m : Int) + shl .i64 1 (j : Int)) = ((m + 2 ^ j : Nat) : Int) := by rw [Oi j (by omega), ← Int.natCast_add]; exact Ty _ (by omega)
  have w2 : wrap64 ((m : Int) + shl .i64 1 (i : Int)) = ((m + 2 ^ i : Nat) : Int) := by rw [Oi i (by omega), ← Int.natCast_add]; exact Ty _ (by omega)
  rw [w1, w2, Lc, Ti l1, Ti l2];refine Xa (Int.natCast_nonneg _) (Xa (Int.ofNat_lt.2 l1) ?_);refine Ie (fun e3 => ?_) (fun e3 => by simpa [wsB, e3] using ih);refine Xa (Int.natCast_nonneg _) (Xa (Int.ofNat_lt.2 l2) ?_);refine Ie (fun e4 => by simpa [wsB, e4] using ih) (fun e4 => ?_);simpa [wsB, e0, e2, e3, e4] using (Ev.now _)
def SF (o : Option (List (List Int) × List (List Int))) : List (List Int) × List (List Int) × Bool := match o with
 | some p => (p.1, p.2, true)
 | none => ([], [], false)
def prT (s t u w : Nat) : List (List Int) × List (List Int) := ([Xy s, Xy t], [Xy u, Xy w])
def inQ (g : Nat → Bool) (Q : Nat → Nat → Nat → Nat → Bool) (s t u : Nat) (r : List Nat) : Bool := (!g u && Jr s t u) && (!g (wOf s t u) && ((u :: r).contains (wOf s t u) && Q s t u (wOf s t u)))
def inT (g : Nat → Bool) (Q : Nat → Nat → Nat → Nat → Bool) (s t : Nat) (rest : Option (List (List Int) × List (List Int))) : List Nat → Option (List (List Int) × List (List Int))
 | [] => rest
 | u :: r => if inQ g Q s t u r = true then some (prT s t u (wOf s t u)) else inT g Q s t rest r
def outT (g : Nat → Bool) (Q : Nat → Nat → Nat → Nat → Bool) (O : List Nat) (s : Nat) (rest : Option (List (List Int) × List (List Int))) : List Nat → Option (List (List Int) × List (List Int))
 | [] => rest
 | t :: r => if (g s && g t) = true then inT g Q s t (outT g Q O s rest r) O else outT g Q O s rest r
def allT (g : Nat → Bool) (Q : Nat → Nat → Nat → Nat → Bool) (O : List Nat) : List Nat → Option (List (List Int) × List (List Int))
 | [] => none
 | s :: r => outT g Q O s (allT g Q O r) (s :: r)
theorem qG (s t u w : Nat) (h : s < 512 ∧ t < 512 ∧ u < 512 ∧ w < 512) : Ev (fun k => Nc.f k [(s : Int), (t : Int)] [(u : Int), (w : Int)]) (prT s t u w) := by
 have w1 : wrap64 (0 + 1) = 1 := by unfold wrap64; omega
 have w2 : wrap64 (1 + 1) = 2 := by unfold wrap64; omega
 have r1 : rd [(s : Int), (t : Int)] 0 = (s : Int) := rfl;have r2 : rd [(u : Int), (w : Int)] 0 = (u : Int) := rfl;have r3 : rd [(s : Int), (t : Int)] 1 = (t : Int) := rfl;have r4 : rd [(u : Int), (w : Int)] 1 = (w : Int) := rfl;unfold Nc.f;refine Ba ?_;simp only [Nc.l0, w1, r1, r2];refine Xa (by simp) (Xa (by simp) (Xa (by simp) (Ev.bind (Hm s (by omega)) (Xa (by simp) (Xa (by simp) (Ev.bind (Hm u (by omega)) (Xa (by simp) (Ba ?_))))))));simp only [Nc.l0, w2, r3, r4];refine Xa (by simp) (Xa (by simp) (Xa (by simp) (Ev.bind (Hm t (by omega)) (Xa (by simp) (Xa (by simp) (Ev.bind (Hm w (by omega)) (Xa (by simp) (Ba ?_))))))));simp only [Nc.l0];exact Vb (by simp) (Rb (Ev.now _) rfl)
section
variable (P : Int → Int → Int → Int → Option Bool) (Q : Nat → Nat → Nat → Nat → Bool) (hP : ∀ s t u w : Nat, s < 64 ∧ t < 64 ∧ u < 64 ∧ w < 64 → P s t u w = some (Q s t u w)) (g : Nat → Bool) (n : Nat) (hn : n ≤ 6) (O : List Nat) (hO : O.length ≤ 64) (hOl : ∀ x ∈ O, x < 2 ^ n)
section
variable (s t : Nat) (hs : s < 2 ^ n) (ht : t < 2 ^ n) (x18 x27 x26 : Int) (x25 : List Int)
include hP hn hO hOl hs ht
theorem FM (k : Nat) (hk : k < O.length) (x75 : Bool) (h75 : x75 = !(!g O[k] && Jr s t O[k])) (rs : Option (List (List Int) × List (List Int)))
 (hnx : Ev (fun r => Ja.l2 P r (cI O) (s : Int) (t : Int) (cI O) (O.length : Int) x18 x25 x26 x27 (cI O) (O.length : Int) (wrap64 ((k : Int) + 1)) (n : Int) (Vf g (2 ^ n))) (SF rs)) :
 Ev (fun r => Ja.j4 P r (cI O) (s : Int) (t : Int) (k : Int) ((O[k] : Nat) : Int) (cI O) (O.length : Int) x18 x25 x26 x27 (cI O) (O.length : Int) (k : Int) x75 (n : Int) (Vf g (2 ^ n))) (SF (if inQ g Q s t O[k] (O.drop (k + 1)) = true then some (prT s t O[k] (wOf s t O[k])) else rs)) := by
 have hp : 2 ^ n ≤ 64 := Nat.le_trans (Nat.pow_le_pow_right (n := 2) (by decide) hn) (by decide);have hu : O[k] < 2 ^ n := hOl _ (List.getElem_mem hk);have hdr : O.drop k = O[k] :: O.drop (k + 1) := List.drop_eq_getElem_cons hk;have hlen : (O.drop k).length ≤ 64 := by rw [List.length_drop]; omega
 have hd : (cI O).drop (k : Int).toNat = cI (O.drop k) := by unfold cI; rw [Int.toNat_natCast, List.map_drop]
 rw [hdr] at hd hlen;unfold inQ;generalize O[k] = u at hu h75 hd hlen;have hw := NL (u := u) hs ht;have hst : s ||| t < 2 ^ n := Nat.or_lt_two_pow hs ht;have hsa : s &&& t < 2 ^ n := Nat.and_lt_two_pow _ ht;have hx : aN (s ||| t) u < 2 ^ n := Nat.xor_lt_two_pow hst (Nat.lt_of_le_of_lt Nat.and_le_left hst);have e : Go.bits .or .i64 (Go.bits .and .i64 (s : Int) (t : Int)) (Go.bits .andNot .i64 (Go.bits .or .i64 (s : Int) (t : Int)) (u : Int)) = ((wOf s t u : Nat) : Int) := by
  rw [El s t (by omega) (by omega), Jv s t (by omega) (by omega), Dn (s ||| t) u (by omega) (by omega)];exact Jv (s &&& t) (aN (s ||| t) u) (by omega) (by omega)
 refine Ba ?_;simp only [Ja.j4, e];refine Ie (fun e1 => ?_) (fun e1 => ?_)
 ·refine Rb hnx ?_;rw [h75] at e1;rw [show (!g u && Jr s t u) = false from by cases h : (!g u && Jr s t u) with
   | false => rfl
   | true => rw [h] at e1; cases e1]
  simp
 ·have hb : (!g u && Jr s t u) = true := by
   rw [h75] at e1;cases h : (!g u && Jr s t u) with
   | true => rfl
   | false => rw [h] at e1; cases e1
  rw [hb, Bool.true_and, Lc, Ti hw];refine Xa (Int.natCast_nonneg _) (Xa (Int.ofNat_lt.2 hw) (Ie (fun e2 => ?_) (fun e2 => ?_)))
  ·exact Rb hnx (by rw [e2]; simp)
  ·rw [e2, Bool.not_false, Bool.true_and];refine Xa (by omega) (Xa (by rw [Ro]; omega) ?_);rw [hd];refine Ev.bind (Vx (u :: O.drop (k + 1)) (wOf s t u) (by omega)) (Ie (fun e3 => ?_) (fun e3 => ?_))
   ·rw [e3, Bool.true_and];refine Lg (hP s t u (wOf s t u) ⟨by omega, by omega, by omega, by omega⟩) (Ie (fun e4 => ?_) (fun e4 => ?_))
    ·rw [e4, if_pos rfl];exact Ev.bind (qG s t u (wOf s t u) ⟨by omega, by omega, by omega, by omega⟩) (Ev.now _)
    ·exact Rb hnx (by rw [e4]; simp)
   ·exact Rb hnx (by rw [e3]; simp)
theorem IM (rest : Option (List (List Int) × List (List Int))) (hnx : Ev (fun r => Ja.l1 P r (cI O) (s : Int) (cI O) (O.length : Int) x18 x25 x26 (wrap64 (x27 + 1)) (n : Int) (Vf g (2 ^ n))) (SF rest)) :
 ∀ d k : Nat, k + d = O.length → Ev (fun r => Ja.l2 P r (cI O) (s : Int) (t : Int) (cI O) (O.length : Int) x18 x25 x26 x27 (cI O) (O.length : Int) (k : Int) (n : Int) (Vf g (2 ^ n))) (SF (inT g Q s t rest (O.drop k))) := by
 have hp : 2 ^ n ≤ 64 := Nat.le_trans (Nat.pow_le_pow_right (n := 2) (by decide) hn) (by decide);intro d;induction d with
 | zero =>
  intro k hk;obtain rfl : k = O.length := by omega
  refine Ba ?_;simp only [Ja.l2];rw [List.drop_length];exact Vb (Int.lt_irrefl _) hnx
 | succ d ih =>
  intro k hk;have hkl : k < O.length := by omega
  have hih := ih (k + 1) (by omega);have hw : wrap64 ((k : Int) + 1) = ((k + 1 : Nat) : Int) := Eb hkl (by omega);rw [← hw] at hih;have hj := fun x75 h75 => FM P Q hP g n hn O hO hOl s t hs ht x18 x27 x26 x25 k hkl x75 h75 _ hih;have hu : O[k] < 2 ^ n := hOl _ (List.getElem_mem hkl);have hr : rd (cI O) (k : Int) = ((O[k] : Nat) : Int) := SI hkl;rw [List.drop_eq_getElem_cons hkl];refine Ba ?_;simp only [Ja.l2, hr, inT];generalize O[k] = u at hu hj;have hst : s ||| t < 2 ^ n := Nat.or_lt_two_pow hs ht;have hsa : s &&& t < 2 ^ n := Nat.and_lt_two_pow _ ht;rw [Lc, Ti hu, Ro];refine Xa (by omega) (Xa (by omega) (Xa (by omega) (Xa (Int.natCast_nonneg _) (Xa (Int.ofNat_lt.2 hu) (Ie (fun e1 => ?_) (fun e1 => ?_))))))
  ·exact hj true (by rw [e1]; rfl)
  ·rw [El s t (by omega) (by omega), El u (s &&& t) (by omega) (by omega), Jv s t (by omega) (by omega), Dn u (s ||| t) (by omega) (by omega)];by_cases e2 : u &&& (s &&& t) = s &&& t
   ·refine Xa (by rw [e2]) (hj _ ?_);rw [e1];unfold Jr aN;rw [e2];simp only [Bool.not_false, Bool.true_and, beq_self_eq_true];rw [Bool.eq_iff_iff];simp
   ·refine Vb (by omega) (hj true ?_);rw [e1];unfold Jr;rw [show (u &&& (s &&& t) == s &&& t) = false from by simpa using e2];rfl
end
include hP hn hO hOl
theorem KM (s : Nat) (hs : s < 2 ^ n) (x18 : Int) (T : List Nat) (hT : T.length ≤ 64) (hTl : ∀ x ∈ T, x < 2 ^ n) (rest : Option (List (List Int) × List (List Int)))
 (hnx : Ev (fun r => Ja.l0 P r (cI O) (cI O) (O.length : Int) (wrap64 (x18 + 1)) (n : Int) (Vf g (2 ^ n))) (SF rest)) :
 ∀ d j : Nat, j + d = T.length → Ev (fun r => Ja.l1 P r (cI O) (s : Int) (cI O) (O.length : Int) x18 (cI T) (T.length : Int) (j : Int) (n : Int) (Vf g (2 ^ n))) (SF (outT g Q O s rest (T.drop j))) := by
 intro d;induction d with
 | zero =>
  intro j hj;obtain rfl : j = T.length := by omega
  refine Ba ?_;simp only [Ja.l1];rw [List.drop_length];exact Vb (Int.lt_irrefl _) hnx
 | succ d ih =>
  intro j hj;have hjl : j < T.length := by omega
  have hih := ih (j + 1) (by omega);have hw : wrap64 ((j : Int) + 1) = ((j + 1 : Nat) : Int) := Eb hjl (by omega);rw [← hw] at hih;have ht : T[j] < 2 ^ n := hTl _ (List.getElem_mem hjl);have hr : rd (cI T) (j : Int) = ((T[j] : Nat) : Int) := SI hjl;have h2 : ∀ x44 : Bool, x44 = !(g s && g T[j]) → Ev (fun r => Ja.j2 P r (cI O) (s : Int) ((T[j] : Nat) : Int) (cI O) (O.length : Int) x18 (cI T) (T.length : Int) (j : Int) x44 (n : Int) (Vf g (2 ^ n))) (SF (outT g Q O s rest (T[j] :: T.drop (j + 1)))) := by
   intro x44 hx;refine Ba ?_;simp only [Ja.j2, outT];refine Ie (fun e => ?_) (fun e => ?_)
   ·refine Rb hih ?_;have : (g s && g T[j]) = false := by
     rw [hx] at e;cases h : (g s && g T[j]) with
     | false => rfl
     | true => rw [h] at e; cases e
    rw [this]; rfl
   ·have : (g s && g T[j]) = true := by
     rw [hx] at e;cases h : (g s && g T[j]) with
     | true => rfl
     | false => rw [h] at e; cases e
    rw [Ro];refine Rb (IM P Q hP g n hn O hO hOl s T[j] hs ht x18 (j : Int) (T.length : Int) (cI T) _ hih O.length 0 (Nat.zero_add _)) ?_;rw [this, if_pos rfl, List.drop_zero]
  rw [List.drop_eq_getElem_cons hjl];refine Ba ?_;simp only [Ja.l1, hr];rw [Lc, Ti hs, Ti ht, Ro];refine Xa (by omega) (Xa (by omega) (Xa (by omega) (Xa (Int.natCast_nonneg _) (Xa (Int.ofNat_lt.2 hs) (Ie (fun e => ?_) (fun e => ?_))))))
  ·exact Xa (Int.natCast_nonneg _) (Xa (Int.ofNat_lt.2 ht) (h2 _ (by rw [e]; simp)))
  ·exact h2 _ (by rw [e]; simp)
theorem LM : ∀ d i : Nat, i + d = O.length → Ev (fun k => Ja.l0 P k (cI O) (cI O) (O.length : Int) (i : Int) (n : Int) (Vf g (2 ^ n))) (SF (allT g Q O (O.drop i))) := by
 intro d;induction d with
 | zero =>
  intro i hi;obtain rfl : i = O.length := by omega
  refine Ba ?_;simp only [Ja.l0];rw [List.drop_length];exact Vb (Int.lt_irrefl _) (Ev.now _)
 | succ d ih =>
  intro i hi;have hil : i < O.length := by omega
  have hih := ih (i + 1) (by omega);have hw : wrap64 ((i : Int) + 1) = ((i + 1 : Nat) : Int) := Eb hil (by omega);rw [← hw] at hih;have hr : rd (cI O) (i : Int) = ((O[i] : Nat) : Int) := SI hil;have hd : (cI O).drop (i : Int).toNat = cI (O.drop i) := by unfold cI; rw [Int.toNat_natCast, List.map_drop]
  have h1 := KM P Q hP g n hn O hO hOl O[i] (hOl _ (List.getElem_mem hil)) (i : Int) (O.drop i) (by rw [List.length_drop]; omega) (fun x hx => hOl x (List.mem_of_mem_drop hx)) _ hih (O.drop i).length 0 (Nat.zero_add _);refine Ba ?_;simp only [Ja.l0, hr, hd, Option.bind_some, Ro];refine Xa (by omega) (Xa (by omega) (Xa (by omega) (Xa (by omega) (Rb h1 ?_))));rw [List.drop_zero, List.drop_eq_getElem_cons hil];rfl
end
theorem Vs (P : Int → Int → Int → Int → Option Bool) (Q : Nat → Nat → Nat → Nat → Bool) (hP : ∀ s t u w : Nat, s < 64 ∧ t < 64 ∧ u < 64 ∧ w < 64 → P s t u w = some (Q s t u w)) (g : Nat → Bool) (n : Nat) (hn : n ≤ 6) :
 Ev (fun k => Ja.f k (n : Int) (Vf g (2 ^ n)) P) (SF (allT g Q (Qy (2 ^ n)) (Qy (2 ^ n)))) := by
 have hp : 2 ^ n ≤ 64 := Nat.le_trans (Nat.pow_le_pow_right (n := 2) (by decide) hn) (by decide);have hO : (Qy (2 ^ n)).length ≤ 64 := by rw [KF _ (by omega)]; omega
 have hOl : ∀ x ∈ Qy (2 ^ n), x < 2 ^ n := fun x hx => OI _ (by omega) hx;unfold Ja.f;refine Ev.bind (Oz g n (by omega)) ?_;rw [Ro];generalize Qy (2 ^ n) = O at hO hOl;have := LM P Q hP g n hn O hO hOl O.length 0 (Nat.zero_add _);rw [List.drop_zero] at this;exact this
def liI (g : Nat → Bool) (Q : Nat → Nat → Nat → Nat → Bool) (s t : Nat) : List Nat → List (List (List Int) × List (List Int))
 | [] => []
 | u :: r => (if inQ g Q s t u r = true then [prT s t u (wOf s t u)] else []) ++ liI g Q s t r
def liO (g : Nat → Bool) (Q : Nat → Nat → Nat → Nat → Bool) (O : List Nat) (s : Nat) : List Nat → List (List (List Int) × List (List Int))
 | [] => []
 | t :: r => (if (g s && g t) = true then liI g Q s t O else []) ++ liO g Q O s r
def liA (g : Nat → Bool) (Q : Nat → Nat → Nat → Nat → Bool) (O : List Nat) : List Nat → List (List (List Int) × List (List Int))
 | [] => []
 | s :: r => liO g Q O s (s :: r) ++ liA g Q O r
section
variable (g : Nat → Bool) (Q : Nat → Nat → Nat → Nat → Bool) (O : List Nat)
theorem Cy (s t : Nat) (rest : Option (List (List Int) × List (List Int))) : ∀ l, inT g Q s t rest l = ((liI g Q s t l).head?).or rest
 | [] => by simp [inT, liI]
 | u :: r => by
  unfold inT liI;by_cases e : inQ g Q s t u r = true
  ·rw [if_pos e, if_pos e]; rfl
  ·rw [if_neg e, if_neg e, List.nil_append]; exact Cy s t rest r
theorem Bv (s : Nat) (rest : Option (List (List Int) × List (List Int))) : ∀ l, outT g Q O s rest l = ((liO g Q O s l).head?).or rest
 | [] => by simp [outT, liO]
 | t :: r => by
  unfold outT liO;have ih := Bv s rest r;by_cases e : (g s && g t) = true
  ·rw [if_pos e, if_pos e, Cy, ih, List.head?_append, Option.or_assoc]
  ·rw [if_neg e, if_neg e, List.nil_append]; exact ih
theorem Hq : ∀ l, allT g Q O l = (liA g Q O l).head?
 | [] => rfl
 | s :: r => by
  unfold allT liA;rw [Bv, Hq r, List.head?_append]
theorem Lt {s t : Nat} {c : List (List Int) × List (List Int)} : ∀ l, c ∈ liI g Q s t l ↔ ∃ a u r, l = a ++ u :: r ∧ inQ g Q s t u r = true ∧ c = prT s t u (wOf s t u)
 | [] => by simp [liI]
 | v :: l => by
  have ih := Lt (s := s) (t := t) (c := c) l;unfold liI;rw [List.mem_append, ih];constructor
  ·rintro (h | ⟨a, u, r, h1, h2, h3⟩)
   ·by_cases e : inQ g Q s t v l = true
    ·rw [if_pos e, List.mem_singleton] at h; exact ⟨[], v, l, rfl, e, h⟩
    ·rw [if_neg e] at h; cases h
   ·exact ⟨v :: a, u, r, by rw [h1]; rfl, h2, h3⟩
  ·rintro ⟨a, u, r, h1, h2, h3⟩;cases a with
   | nil =>
    injection h1 with h4 h5; subst h4; subst h5;left; rw [if_pos h2, h3]; exact List.mem_cons_self ..
   | cons b a =>
    injection h1 with h4 h5;exact .inr ⟨a, u, r, h5, h2, h3⟩
theorem Wx {s : Nat} {c : List (List Int) × List (List Int)} : ∀ l, c ∈ liO g Q O s l ↔ g s = true ∧ ∃ t ∈ l, g t = true ∧ c ∈ liI g Q s t O
 | [] => by simp [liO]
 | v :: l => by
  have ih := Wx (s := s) (c := c) l;unfold liO;rw [List.mem_append, ih];constructor
  ·rintro (h | ⟨h1, t, h2, h3⟩)
   ·by_cases e : (g s && g v) = true
    ·rw [if_pos e] at h;rw [Bool.and_eq_true] at e;exact ⟨e.1, v, List.mem_cons_self .., e.2, h⟩
    ·rw [if_neg e] at h; cases h
   ·exact ⟨h1, t, List.mem_cons_of_mem _ h2, h3⟩
  ·rintro ⟨h1, t, h2, h3, h4⟩;rcases List.mem_cons.1 h2 with rfl | h2
   ·left; rw [if_pos (by rw [h1, h3]; rfl)]; exact h4
   ·exact .inr ⟨h1, t, h2, h3, h4⟩
theorem Xx {c : List (List Int) × List (List Int)} : ∀ l, c ∈ liA g Q O l ↔ ∃ a s r, l = a ++ s :: r ∧ c ∈ liO g Q O s (s :: r)
 | [] => by simp [liA]
 | v :: l => by
  have ih := Xx (c := c) l;unfold liA;rw [List.mem_append, ih];constructor
  ·rintro (h | ⟨a, u, r, h1, h2⟩)
   ·exact ⟨[], v, l, rfl, h⟩
   ·exact ⟨v :: a, u, r, by rw [h1]; rfl, h2⟩
  ·rintro ⟨a, u, r, h1, h2⟩;cases a with
   | nil => injection h1 with h4 h5; subst h4; subst h5; exact .inl h2
   | cons b a => injection h1 with h4 h5; exact .inr ⟨a, u, r, h5, h2⟩
end
theorem Ig (m i : Nat) : Kk m i = m.testBit i := by
 unfold Kk;rw [Nat.testBit_eq_decide_div_mod_eq, Nat.shiftRight_eq_div_pow, Bool.eq_iff_iff, beq_iff_eq, decide_eq_true_eq]
def wtF : List Int → Nat → Nat → Int
 | [], _, _ => 0
 | w :: ws, m, i => (if Kk m i = true then w else 0) + wtF ws m (i + 1)
theorem yG {s t u : Nat} (h : Jr s t u = true) (i : Nat) :
 (if Kk u i = true then 1 else 0) + (if Kk (wOf s t u) i = true then 1 else 0) = (if Kk s i = true then 1 else 0) + (if Kk t i = true then (1 : Int) else 0) := by
 unfold Jr at h;rw [Bool.and_eq_true, beq_iff_eq, beq_iff_eq] at h;have h1 := congrArg (fun n => Nat.testBit n i) h.1;have h2 := congrArg (fun n => Nat.testBit n i) h.2;unfold aN at h2;simp only [Nat.testBit_and, Nat.testBit_or, Nat.testBit_xor, Nat.zero_testBit] at h1 h2;simp only [Ig];unfold wOf aN;simp only [Nat.testBit_and, Nat.testBit_or, Nat.testBit_xor];revert h1 h2
 cases s.testBit i <;> cases t.testBit i <;> cases u.testBit i <;> simp
theorem yD {s t u : Nat} (h : Jr s t u = true) : ∀ (W : List Int) (i : Nat), wtF W u i + wtF W (wOf s t u) i = wtF W s i + wtF W t i
 | [], _ => rfl
 | w :: ws, i => by
  have h1 := yD h ws (i + 1);have h2 := yG h i;unfold wtF;revert h2
  cases Kk s i <;> cases Kk t i <;> cases Kk u i <;> cases Kk (wOf s t u) i <;> simp <;> omega
def gW (W : List Int) (q : Int) (m : Nat) : Bool := decide (q ≤ wtF W m 0)
theorem YG (W : List Int) (q : Int) (Q : Nat → Nat → Nat → Nat → Bool) (O : List Nat) : allT (gW W q) Q O O = none := by
 rw [Hq];cases h : (liA (gW W q) Q O O).head? with
 | none => rfl
 | some c =>
  exfalso;have hm : c ∈ liA (gW W q) Q O O := List.mem_of_mem_head? h;obtain ⟨p, s, r, e1, h⟩ := (Xx (gW W q) Q O O).1 hm;obtain ⟨h1, t, ht, h2, h⟩ := (Wx (gW W q) Q O _).1 h;obtain ⟨p', u, r', e2, hq, rfl⟩ := (Lt (gW W q) Q O).1 h;unfold inQ at hq;simp only [Bool.and_eq_true, Bool.not_eq_true'] at hq;obtain ⟨⟨h3, h4⟩, h5, _⟩ := hq;have h6 := yD h4 W 0;unfold gW at h1 h2 h3 h5;rw [decide_eq_true_eq] at h1 h2;rw [decide_eq_false_iff_not] at h3 h5;omega
theorem ML (j : Nat) : ∀ (W : List Int) (m o : Nat), m.testBit j = false → wtF W (m ||| 2 ^ j) o = wtF W m o + (if o ≤ j then W.getD (j - o) 0 else 0)
 | [], _, _, _ => by simp [wtF]
 | w :: ws, m, o, h => by
  have ih := ML j ws m (o + 1) h;unfold wtF;rw [ih, Ig, Ig, Nat.testBit_or, Nat.testBit_two_pow];by_cases e : j = o
  ·subst e;rw [h];simp;omega
  ·by_cases e2 : o ≤ j
   ·have e3 : j - o = (j - (o + 1)) + 1 := by omega
    rw [if_pos e2, if_pos (show o + 1 ≤ j by omega), e3, List.getD_cons_succ];simp [e];omega
   ·rw [if_neg e2, if_neg (show ¬ o + 1 ≤ j by omega)];simp [e]
theorem WH {W : List Int} {m j : Nat} (hm : m < 512) (hj : j < 9) (h : Kk m j = false) : wtF W (m + 2 ^ j) 0 = wtF W m 0 + W.getD j 0 := by
 have h1 := or_bit m j hm hj;rw [if_neg (by rw [h]; decide)] at h1;have h2 := ML j W m 0 (by rw [← Ig]; exact h);rw [h1] at h2;simpa using h2
theorem YD {W : List Int} {q : Int} {n i j : Nat} (hn : n ≤ 9) (hi : i < n) (hj : j < n) (h : W.getD j 0 ≤ W.getD i 0) : Xn (wsB (gW W q) i j) (2 ^ n) 0 = true := by
 unfold Xn;rw [List.all_eq_true];intro m hm;have hm1 : m < 2 ^ n := by have := List.mem_range.1 hm; omega
 have hp : 2 ^ n ≤ 512 := Nat.pow_le_pow_right (n := 2) (by decide) hn;rw [Nat.zero_add];unfold wsB;cases e1 : Kk m i with
 | true => simp
 | false =>
  cases e2 : Kk m j with
  | true => simp
  | false =>
   have h1 := WH (W := W) (show m < 512 by omega) (show i < 9 by omega) e1;have h2 := WH (W := W) (show m < 512 by omega) (show j < 9 by omega) e2;unfold gW;by_cases e3 : q ≤ wtF W (m + 2 ^ j) 0
   ·rw [decide_eq_true e3, decide_eq_true (show q ≤ wtF W (m + 2 ^ i) 0 by omega)]; rfl
   ·rw [decide_eq_false e3]; rfl
def Vi (g : Nat → Bool) : Nat → Nat
 | 0 => 0
 | N + 1 => Vi g N + (if g N = true then 2 ^ N else 0)
def Oh : Nat → List Nat
 | 0 => [0, 1]
 | k + 1 => (Oh k).flatMap fun a => ((Oh k).filter fun b => a &&& b == a).map fun b => a + b * 2 ^ 2 ^ k
def GM (n i j : Nat) : Nat := Vi (fun m => !m.testBit i && !m.testBit j) (2 ^ n)
def wK (n t i j : Nat) : Bool := ((t >>> 2 ^ j) &&& GM n i j) &&& (t >>> 2 ^ i) == (t >>> 2 ^ j) &&& GM n i j
def JD (n t : Nat) : Bool := (List.range n).all fun i => (List.range i).all fun j => wK n t i j || wK n t j i
def QN : Nat → Nat → Nat
 | 0, _ => 0
 | k + 1, x => x % 2 + QN k (x / 2)
def qO (n t i : Nat) : Nat := QN 32 (((t >>> 2 ^ i) ^^^ t) &&& GM n i i) * 2 ^ (5 - n)
def PL : List Int := [0, 2, 3, 4, 5, 6, 7, 9, 9, 10, 9, 11, 12, 9, 8, 7, 8]
def NM (n t : Nat) : List Int := (List.range n).map fun i => PL.getD (qO n t i) 0
def MM (W : List Int) (t : Nat) : Nat → Int
 | 0 => 0
 | m + 1 => if t.testBit m = true then MM W t m else mx (MM W t m) (wtF W m 0)
def QL (n t : Nat) (W : List Int) (q : Int) : Bool := decide (1 ≤ q) && (List.range (2 ^ n)).all fun m => t.testBit m == decide (q ≤ wtF W m 0)
def PM (n t : Nat) : Bool := !JD n t || t.testBit 0 || !t.testBit (2 ^ n - 1) || QL n t (NM n t) (MM (NM n t) t (2 ^ n) + 1)
def RL (k : Nat) : Bool := (Oh k).all fun a => (Oh k).all fun b => !(a &&& b == a) || PM (k + 1) (a + b * 2 ^ 2 ^ k)
theorem Kj (g : Nat → Bool) : ∀ N, Vi g N < 2 ^ N
 | 0 => by simp [Vi]
 | N + 1 => by
  have h := Kj g N;rw [Vi, Nat.pow_succ];split <;> omega
theorem Nf (g : Nat → Bool) : ∀ N m, (Vi g N).testBit m = (decide (m < N) && g m)
 | 0, m => by simp [Vi]
 | N + 1, m => by
  have hl := Kj g N;rw [Vi];by_cases c : g N = true
  ·have e1 := Nat.two_pow_add_eq_or_of_lt hl 1;rw [Nat.mul_one] at e1;rw [if_pos c, Nat.add_comm, e1, Nat.testBit_or, Nat.testBit_two_pow, Nf g N m];by_cases e : N = m
   ·subst e; simp [c]
   ·have : (decide (m < N + 1)) = decide (m < N) := decide_eq_decide.2 (by omega);simp [e, this]
  ·rw [if_neg c, Nat.add_zero, Nf g N m];by_cases e : m = N
   ·subst e; simp [eq_false_of_ne_true c]
   ·have : (decide (m < N + 1)) = decide (m < N) := decide_eq_decide.2 (by omega);rw [this]
theorem En (g : Nat → Bool) (N : Nat) : ∀ M, Vi g (N + M) = Vi g N + Vi (fun m => g (m + N)) M * 2 ^ N
 | 0 => by simp [Vi]
 | M + 1 => by
  rw [show N + (M + 1) = N + M + 1 from rfl, Vi, En g N M, Vi, Nat.add_mul, Nat.add_assoc, Nat.add_comm N M];congr 2;split
  ·rw [Nat.pow_add]
  ·simp
def JG (g : Nat → Bool) (N : Nat) : Prop := ∀ m m', m < N → m' < N → m &&& m' = m' → g m' = true → g m = true
theorem VD {m m' k : Nat} (h : m < 2 ^ k) (h' : m' < 2 ^ k) (e : m &&& m' = m') : (m + 2 ^ k) &&& (m' + 2 ^ k) = m' + 2 ^ k := by
 have e1 := Nat.two_pow_add_eq_or_of_lt h 1;have e2 := Nat.two_pow_add_eq_or_of_lt h' 1;rw [Nat.mul_one] at e1 e2;rw [Nat.add_comm m, Nat.add_comm m', e1, e2, ← Nat.or_and_distrib_left, e]
theorem TL {m k : Nat} (h : m < 2 ^ k) : (m + 2 ^ k) &&& m = m := by
 have e1 := Nat.two_pow_add_eq_or_of_lt h 1;rw [Nat.mul_one] at e1;rw [Nat.add_comm m, e1, Nat.and_comm, Nat.and_or_distrib_left, Nat.and_self];refine Nat.eq_of_testBit_eq fun i => ?_;rw [Nat.testBit_or, Nat.testBit_and, Nat.testBit_two_pow];cases m.testBit i <;> simp
theorem Tk : ∀ (k : Nat) (g : Nat → Bool), JG g (2 ^ k) → Vi g (2 ^ k) ∈ Oh k
 | 0, g, _ => by
  show Vi g 1 ∈ [0, 1];rw [Vi, Vi];cases g 0 <;> simp
 | k + 1, g, h => by
  have hk : 2 ^ (k + 1) = 2 ^ k + 2 ^ k := by rw [Nat.pow_succ]; omega
  have h1 : JG g (2 ^ k) := fun m m' a b => h m m' (by omega) (by omega);have h2 : JG (fun m => g (m + 2 ^ k)) (2 ^ k) := fun m m' a b e => h _ _ (by omega) (by omega) (VD a b e);rw [hk, En, Oh, List.mem_flatMap];refine ⟨_, Tk k g h1, List.mem_map.2 ⟨_, List.mem_filter.2 ⟨Tk k _ h2, ?_⟩, rfl⟩⟩;rw [beq_iff_eq];exact mono_le k g h
where
 mono_le (k : Nat) (g : Nat → Bool) (h : JG g (2 ^ (k + 1))) : Vi g (2 ^ k) &&& Vi (fun m => g (m + 2 ^ k)) (2 ^ k) = Vi g (2 ^ k) := by
  have hk : 2 ^ (k + 1) = 2 ^ k + 2 ^ k := by rw [Nat.pow_succ]; omega
  refine Nat.eq_of_testBit_eq fun m => ?_;rw [Nat.testBit_and, Nf, Nf];by_cases c : m < 2 ^ k
  ·rw [decide_eq_true c, Bool.true_and, Bool.true_and];cases e : g m with
   | false => rfl
   | true => rw [h (m + 2 ^ k) m (by omega) (by omega) (TL c) e]; rfl
  ·rw [decide_eq_false c]; rfl
theorem qJ {k : Nat} (hc : RL k = true) (g : Nat → Bool) (h : JG g (2 ^ (k + 1))) : PM (k + 1) (Vi g (2 ^ (k + 1))) = true := by
 have hk : 2 ^ (k + 1) = 2 ^ k + 2 ^ k := by rw [Nat.pow_succ]; omega
 have h1 : JG g (2 ^ k) := fun m m' a b => h m m' (by omega) (by omega);have h2 : JG (fun m => g (m + 2 ^ k)) (2 ^ k) := fun m m' a b e => h _ _ (by omega) (by omega) (VD a b e);have h3 := List.all_eq_true.1 (List.all_eq_true.1 hc _ (Tk k g h1)) _ (Tk k _ h2);rw [Tk.mono_le k g h, ← En, ← hk] at h3;simpa using h3
theorem Ws {α : Type} {p q : α → Bool} : ∀ {l : List α}, (∀ x ∈ l, p x = q x) → l.any p = l.any q
 | [], _ => rfl
 | x :: xs, h => by rw [List.any_cons, List.any_cons, h x (List.mem_cons_self ..), Ws fun y hy => h y (List.mem_cons_of_mem _ hy)]
theorem Sz (p : Int → Option Bool) (q : Nat → Bool) (a n : Nat) (m : Int) (hn : n ≤ 1048576) (h : ∀ i, i < n → p (i : Int) = some (q i)) : Ev (fun k => Ka.l0 p k (n : Int) 0 m (List.replicate n false)) (m, Vf q n) := by
 have := Ld n (fun k i => Ka.l0 p k (n : Int) (i : Int) m (Vf q i ++ List.replicate (n - i) false)) (fun _ => (m, Vf q n)) ?_ ?_ 0 (Nat.zero_le _)
 ·simpa [Vf] using this
 ·refine Ba ?_;simp only [Ka.l0];exact Vb (Int.lt_irrefl _) (Rb (Ev.now _) (by simp))
 ·intro i hi ih;refine Ba ?_;simp only [Ka.l0];have hlen : (Vf q i ++ List.replicate (n - i) false).length = n := by rw [List.length_append, Lc, List.length_replicate]; omega
  refine Xa (by omega) (Lg (h i hi) (Xa (by omega) (Xa (by rw [hlen]; omega) ?_)));rw [Eb hi (Nat.le_trans hn (by decide)), Int.toNat_natCast, show n - i = (n - (i + 1)) + 1 by omega, List.replicate_succ, Ht, Pv];exact ih
theorem Kn (p : Int → Option Bool) (q : Nat → Bool) (m : Int) (hm : 0 ≤ m ∧ m ≤ 9) (h : ∀ i : Nat, i < 2 ^ m.toNat → p (i : Int) = some (q i)) : Ev (fun k => Ka.f k m p) (m, Vf q (2 ^ m.toNat)) := by
 have hp : 2 ^ m.toNat ≤ 512 := Nat.pow_le_pow_right (n := 2) (by decide) (show m.toNat ≤ 9 by omega);have hs : shl .i64 1 m = ((2 ^ m.toNat : Nat) : Int) := by rw [Ip m (by omega)]; simp
 have hl0 := Sz p q 0 (2 ^ m.toNat) m (by omega) h;unfold Ka.f;refine Xa hm.1 ?_;rw [hs];generalize 2 ^ m.toNat = n at *
 have hn2 : (n : Int).toNat ≤ 281474976710656 := by rw [Int.toNat_natCast]; exact Nat.le_trans hp (by decide)
 refine Xa (Int.natCast_nonneg n) (Xa hn2 (Lg rfl ?_));simp only [Int.toNat_natCast, List.length_replicate];exact hl0
theorem qA (m : Int) (l : List (List Int)) (hl : l.length ≤ 1048576) (h : Jg m l) : Ev (fun k => Ue.l0 k m l (l.length : Int) 0 []) (m, Tu m l) := by
 have := Ld l.length (fun k i => Ue.l0 k m l (l.length : Int) (i : Int) ((l.take i).map fun s => ((maskN 0 s : Nat) : Int))) (fun _ => (m, Tu m l)) ?_ ?_ 0 (Nat.zero_le _)
 ·simpa using this
 ·refine Ba ?_;simp only [Ue.l0];refine Vb (Int.lt_irrefl _) ?_;rw [List.take_length];unfold Dh.f;refine Ev.bind (Kn _ (Vg l) m (by have := h.1; omega) (fun i hi => ?_)) (Ev.now _);have hp := Qv h.1;rw [Tp (q := fun x => Go.bits .and .i64 (i : Int) x == x) (fun _ _ => rfl), List.any_map];congr 1;unfold Vg;refine Ws fun s hs => ?_;obtain ⟨j, hj, rfl⟩ := List.mem_iff_getElem.1 hs;have hlt := h.lt hj;unfold mk at hlt;rw [Mg hj] at hlt;exact Qo (by omega) hlt
 ·intro i hi ih;refine Ba ?_;simp only [Ue.l0];refine Xa (by omega) (Xa (by omega) (Xa (by omega) ?_));rw [Ih hi, Eb hi (Nat.le_trans hl (by decide))];have hm := (h.masks hi).1;have hk : mk l i = maskN 0 l[i] := by unfold mk; rw [Mg hi]
  rw [hk] at hm;refine Ev.bind hm (Xa (by rw [List.length_map, List.length_take]; omega) ?_);rw [List.take_succ_eq_append_getElem hi, List.map_append] at ih;exact ih
theorem yA (m : Int) (l : List (List Int)) (hl : l.length ≤ 1048576) (h : Jg m l) : Ev (fun k => Ue.f k m l) (m, Tu m l) := by
 unfold Ue.f;exact qA m l hl h
theorem Sm (m : Int) (l : List (List Int)) (hl : l.length ≤ 1048576) (h : Jg m l) : Ev (fun k => Gc.f k m l) (m, Tu m l) := by
 unfold Gc.f;exact Ev.bind (yA m l hl h) (Ev.now _)
theorem Bo {α : Type} {c : Prop} [Decidable c] {f g : Nat → Option α} {r : α} (h1 : c → Ev f r) (h2 : ¬ c → Ev g r) : Ev (fun n => if c then f n else g n) r := by
 by_cases h : c
 ·exact Xa h (h1 h)
 ·exact Vb h (h2 h)
def Wok (W : List Int) : Prop := W.length ≤ 9 ∧ ∀ w ∈ W, 0 ≤ w ∧ w ≤ 5000
theorem Cv : ∀ (W : List Int) (m i : Nat), (∀ w ∈ W, 0 ≤ w ∧ w ≤ 5000) → 0 ≤ wtF W m i
 | [], _, _, _ => Int.le_refl 0
 | w :: ws, m, i, h => by
  have h1 := Cv ws m (i + 1) (fun x hx => h x (List.mem_cons_of_mem _ hx));have h2 := h w (List.mem_cons_self ..);unfold wtF;split <;> omega
theorem Ux (q : Int) (W : List Int) (h : Wok W) (m : Nat) : Ev (fun k => Xe.f k q W (m : Int)) (wtF W m 0) := by
 unfold Xe.f;have := Jl W.length (fun k i s => Xe.l0 k (m : Int) s W (W.length : Int) (i : Int)) (fun i s => s + wtF (W.drop i) m i) (fun i s => 0 ≤ s ∧ s ≤ (i : Int) * 5000) ?_ ?_ 0 0 (Nat.zero_le _) ⟨by omega, by omega⟩
 ·simpa using this
 ·intro s hs;refine Ba ?_;simp only [Xe.l0];exact Vb (Int.lt_irrefl _) (Rb (Ev.now _) (by simp [wtF]))
 ·intro i s hi hs ih;refine Ba ?_;simp only [Xe.l0];have h9 := h.1;have hw := h.2 W[i] (List.getElem_mem hi);refine Xa (by omega) (Xa (by omega) (Xa (by omega) ?_));rw [Mi hi, Eb hi (by omega), List.drop_eq_getElem_cons hi];rw [wtF];cases e : Kk m i with
  | true =>
   refine Xa ((Rv m i (by omega)).2 e) ?_;rw [Uf (by omega)];exact Rb (ih (s + W[i]) ⟨by omega, by omega⟩) (by simp [Int.add_assoc])
  | false => exact Vb (fun h => by rw [(Rv m i (by omega)).1 h] at e; cases e) (Rb (ih s ⟨by omega, by omega⟩) (by simp))
theorem Us (q : Int) (W : List Int) (h : Wok W) (m : Nat) (hm : m < 65536) : Ev (fun k => Ub.f k q W (m : Int)) (wtF W m 0) := by
 unfold Ub.f;have := Jl W.length (fun k i s => Ub.l0 k (m : Int) s W (W.length : Int) (i : Int)) (fun i s => s + wtF (W.drop i) m i) (fun i s => 0 ≤ s ∧ s ≤ (i : Int) * 5000) ?_ ?_ 0 0 (Nat.zero_le _) ⟨by omega, by omega⟩
 ·simpa using this
 ·intro s hs;refine Ba ?_;simp only [Ub.l0];exact Vb (Int.lt_irrefl _) (Rb (Ev.now _) (by simp [wtF]))
 ·intro i s hi hs ih;refine Ba ?_;simp only [Ub.l0];have h9 := h.1;have hw := h.2 W[i] (List.getElem_mem hi);refine Xa (by omega) (Xa (by omega) (Xa (by omega) (Lg (has_eq m i hm (by omega)) ?_)));rw [Mi hi, Eb hi (by omega), List.drop_eq_getElem_cons hi];rw [wtF];refine Ie (fun e => ?_) (fun e => ?_)
  ·rw [Uf (by omega)];exact Rb (ih (s + W[i]) ⟨by omega, by omega⟩) (by simp [e, Int.add_assoc])
  ·exact Rb (ih s ⟨by omega, by omega⟩) (by simp [e])
theorem YA (q : Int) (W : List Int) (h : Wok W) : Ev (fun k => Ic.f k q W) ((W.length : Int), Vf (gW W q) (2 ^ W.length)) := by
 have hp : 2 ^ W.length ≤ 512 := Nat.pow_le_pow_right (n := 2) (by decide) h.1;have he : ∀ m : Nat, m < 2 ^ W.length → Ev (fun k => Xd.f k (m : Int) q W) (gW W q m) := by
  intro m hm;unfold Xd.f;exact Ev.bind (Us q W h m (by omega)) (Rb (Ev.now _) rfl)
 obtain ⟨K, hK⟩ := yx (p := fun k x => Xd.f k x q W) (q := gW W q) (2 ^ W.length) he;obtain ⟨K', hK'⟩ := Kn (fun x => if 0 ≤ x ∧ x < ((2 ^ W.length : Nat) : Int) then some (gW W q x.toNat) else none) (gW W q) (W.length : Int) (by have := h.1; omega) (fun i hi => by rw [Int.toNat_natCast] at hi; rw [if_pos (by omega), Int.toNat_natCast]);refine ⟨max K K', fun k hk => ?_⟩;unfold Ic.f;have h1 := hK' k (by omega);rw [Int.toNat_natCast] at h1;refine Bt (fun x r hr => ?_) k (W.length : Int) _ h1;by_cases c : 0 ≤ x ∧ x < ((2 ^ W.length : Nat) : Int)
 ·rw [if_pos c] at hr;have := hK k (by omega) x.toNat (by omega);rw [Int.toNat_of_nonneg c.1] at this;rw [← hr]; exact this
 ·rw [if_neg c] at hr; cases hr
def stW (g : Nat → Bool) (W : List Int) (st : Int × Int) (m : Nat) : Int × Int :=
 if g m = true then (if st.1 < 0 ∨ wtF W m 0 < st.1 then (wtF W m 0, st.2) else st) else (st.1, if st.2 < wtF W m 0 then wtF W m 0 else st.2)
def wqR (g : Nat → Bool) (W : List Int) (N : Nat) : Int × Int := (List.range N).foldl (stW g W) (-1, -1)
theorem Pi (N i : Nat) (h : i < N) : (List.range N).drop i = i :: (List.range N).drop (i + 1) := by
 rw [List.drop_eq_getElem_cons (by rw [List.length_range]; exact h), List.getElem_range]
theorem VG (a : Int) (g : Nat → Bool) (N : Nat) (hN : N ≤ 512) (W : List Int) (h : Wok W) : Ev (fun k => Oa.f k a (Vf g N) W) (wqR g W N) := by
 unfold Oa.f wqR;rw [Lc];have := Jl N (fun k i (s : Int × Int) => Oa.l0 k s.1 s.2 (Vf g N) (N : Int) (i : Int) 0 W) (fun i s => ((List.range N).drop i).foldl (stW g W) s) (fun _ _ => True) ?_ ?_ 0 (-1, -1) (Nat.zero_le _) trivial
 ·simpa using this
 ·intro s _;refine Ba ?_;simp only [Oa.l0];exact Vb (Int.lt_irrefl _) (Rb (Ev.now _) (by simp [List.drop_eq_nil_of_le]))
 ·intro i s hi _ ih;refine Ba ?_;simp only [Oa.l0];have hr : yf false (Vf g N) (i : Int) = g i := by rw [Nl (by rw [Lc]; exact hi), Yj]
  refine Xa (by omega) (Xa (by omega) (Xa (by rw [Lc]; omega) (Ev.bind (Us 0 W h i (by omega)) ?_)));rw [Pi N i hi, List.foldl_cons, hr];refine Ie (fun e => ?_) (fun e => ?_)
  ·refine Bo (fun c => ?_) (fun c => ?_)
   ·refine Ba ?_;simp only [Oa.j1];refine Xa trivial (Xa e ?_);rw [Eb hi (by omega)];exact Rb (ih (wtF W i 0, s.2) trivial) (by rw [stW, if_pos e, if_pos (.inl c)])
   ·refine Ba ?_;simp only [Oa.j1];refine Bo (fun c2 => ?_) (fun c2 => ?_)
    ·refine Xa e ?_;rw [Eb hi (by omega)];exact Rb (ih (wtF W i 0, s.2) trivial) (by rw [stW, if_pos e, if_pos (.inr (of_decide_eq_true c2))])
    ·refine Xa e ?_;rw [Eb hi (by omega)];exact Rb (ih s trivial) (by rw [stW, if_pos e, if_neg (fun h => h.elim c (fun h => c2 (decide_eq_true h)))])
  ·refine Ba ?_;simp only [Oa.j1];refine Vb (by decide) (Vb (by rw [e]; decide) ?_);rw [Eb hi (by omega)];exact Rb (ih (s.1, mx s.2 (wtF W i 0)) trivial) (by rw [stW, if_neg (by rw [e]; decide)]; rfl)
theorem Gs (g : Nat → Bool) (N : Nat) (hN : N ≤ 512) (W : List Int) (h : Wok W) : Ev (fun k => Qb.f k (Vf g N) W) (wrap64 ((wqR g W N).2 + 1), decide ((wqR g W N).2 < (wqR g W N).1)) := by
 unfold Qb.f wqR;rw [Lc];have := Jl N (fun k i (s : Int × Int) => Qb.l0 k s.2 s.1 (Vf g N) (N : Int) (i : Int) 0 W) (fun i s => (wrap64 ((((List.range N).drop i).foldl (stW g W) s).2 + 1), decide ((((List.range N).drop i).foldl (stW g W) s).2 < (((List.range N).drop i).foldl (stW g W) s).1))) (fun _ _ => True) ?_ ?_ 0 (-1, -1) (Nat.zero_le _) trivial
 ·simpa using this
 ·intro s _;refine Ba ?_;simp only [Qb.l0];exact Vb (Int.lt_irrefl _) (Rb (Ev.now _) (by simp [List.drop_eq_nil_of_le]))
 ·intro i s hi _ ih;refine Ba ?_;simp only [Qb.l0];have hr : yf false (Vf g N) (i : Int) = g i := by rw [Nl (by rw [Lc]; exact hi), Yj]
  refine Xa (by omega) (Xa (by omega) (Xa (by rw [Lc]; omega) (Ev.bind (Ux 0 W h i) ?_)));rw [Pi N i hi, List.foldl_cons, hr];refine Ie (fun e => ?_) (fun e => ?_)
  ·refine Bo (fun c => ?_) (fun c => ?_)
   ·refine Ba ?_;simp only [Qb.j1];refine Xa trivial (Xa e ?_);rw [Eb hi (by omega)];exact Rb (ih (wtF W i 0, s.2) trivial) (by rw [stW, if_pos e, if_pos (.inl c)])
   ·refine Ba ?_;simp only [Qb.j1];refine Bo (fun c2 => ?_) (fun c2 => ?_)
    ·refine Xa e ?_;rw [Eb hi (by omega)];exact Rb (ih (wtF W i 0, s.2) trivial) (by rw [stW, if_pos e, if_pos (.inr (of_decide_eq_true c2))])
    ·refine Xa e ?_;rw [Eb hi (by omega)];exact Rb (ih s trivial) (by rw [stW, if_pos e, if_neg (fun h => h.elim c (fun h => c2 (decide_eq_true h)))])
  ·refine Ba ?_;simp only [Qb.j1];refine Vb (by decide) (Vb (by rw [e]; decide) ?_);rw [Eb hi (by omega)];refine Bo (fun c => ?_) (fun c => ?_)
   ·exact Rb (ih (s.1, wtF W i 0) trivial) (by rw [stW, if_neg (by rw [e]; decide), if_pos c])
   ·exact Rb (ih s trivial) (by rw [stW, if_neg (by rw [e]; decide), if_neg c])
def Ho (g : Nat → Bool) (N : Nat) (W : List Int) : Option Int := if (wqR g W N).1 ≤ (wqR g W N).2 then none else some (wrap64 ((wqR g W N).2 + 1))
def yj (fit : List Int → Option Int) : Nat → List Int → Nat → Option (Int × List Int)
 | 0, b, s => (fit (b ++ [(s : Int)])).map fun q => (q, b ++ [(s : Int)])
 | r + 1, b, s => (List.range (s + 1)).findSome? fun x : Nat => yj fit r (b ++ [(x : Int)]) (s - x)
theorem look_ok (fit : List Int → Option Int) : ∀ (r : Nat) (b : List Int) (s : Nat) (p : Int × List Int), s ≤ 5000 → (∀ w ∈ b, 0 ≤ w ∧ w ≤ 5000) → yj fit r b s = some p → fit p.2 = some p.1 ∧ p.2.length = b.length + r + 1 ∧ ∀ w ∈ p.2, 0 ≤ w ∧ w ≤ 5000
 | 0, b, s, p, hs, hb, h => by
  rw [yj, Option.map_eq_some_iff] at h;obtain ⟨q, h1, rfl⟩ := h;refine ⟨h1, by simp, fun w hw => ?_⟩;rcases List.mem_append.1 hw with h | h
  ·exact hb w h
  ·rw [List.mem_singleton] at h; omega
 | r + 1, b, s, p, hs, hb, h => by
  rw [yj, List.findSome?_eq_some_iff] at h;obtain ⟨l1, x, l2, e, h, _⟩ := h;have hx : x < s + 1 := List.mem_range.1 (by rw [e]; simp);obtain ⟨h1, h2, h3⟩ := look_ok fit r _ _ p (by omega) (fun w hw => by
   rcases List.mem_append.1 hw with h | h
   ·exact hb w h
   ·rw [List.mem_singleton] at h; omega) h
  exact ⟨h1, by rw [h2, List.length_append, List.length_singleton]; omega, h3⟩
theorem Dv (fit : List Int → Option Int) : ∀ (r : Nat) (b e : List Int) (s : Nat), e.length = r + 1 → (∀ w ∈ e, 0 ≤ w) → e.foldr (fun a c => a + c) 0 = (s : Int) → fit (b ++ e) ≠ none → yj fit r b s ≠ none
 | 0, b, e, s, h1, h2, h3, h4 => by
  match e, h1 with
  | [w], _ =>
   have : w = (s : Int) := by simpa using h3
   subst this;rw [yj];simpa using h4
 | r + 1, b, e, s, h1, h2, h3, h4 => by
  match e, h1 with
  | w :: ws, h1 =>
   have hw := h2 w (List.mem_cons_self ..);have hn : 0 ≤ ws.foldr (fun a c => a + c) 0 := by
    have : ∀ l : List Int, (∀ w ∈ l, 0 ≤ w) → 0 ≤ l.foldr (fun a c => a + c) 0 := fun l => by
     induction l with
     | nil => intro _; exact Int.le_refl _
     | cons y ys ih =>
      intro h;have h1 := ih (fun z hz => h z (List.mem_cons_of_mem _ hz));have h2 := h y (List.mem_cons_self ..);rw [List.foldr_cons]; omega
    exact this ws (fun z hz => h2 z (List.mem_cons_of_mem _ hz))
   rw [List.foldr_cons] at h3;have hx : (w.toNat : Int) = w := Int.toNat_of_nonneg hw;rw [yj];intro hc;rw [List.findSome?_eq_none_iff] at hc;have := hc w.toNat (List.mem_range.2 (by omega));rw [hx] at this;refine Dv fit r (b ++ [w]) ws (s - w.toNat) (by simpa using h1) (fun z hz => h2 z (List.mem_cons_of_mem _ hz)) (by omega) ?_ this;rw [List.append_assoc]; exact h4
def RN : Option (Int × List Int) → List Int × Bool
 | some p => (p.2, true)
 | none => ([], false)
theorem Dy (b : List Int) (h : b.length < 17592186044416) : Uh.f b = some b := by
 unfold Uh.f;simp [h]
section
variable (g : Nat → Bool) (N n : Nat) (hN : N ≤ 512) (hn : n ≤ 9)
include hN hn
theorem Iq : ∀ (r : Nat) (b : List Int) (s : Nat), b.length + r + 1 = n → (∀ w ∈ b, 0 ≤ w ∧ w ≤ 5000) → s ≤ 5000 → ∃ l, Ev (fun k => Td.f k (Vf g N) (n : Int) b (s : Int)) (l, (yj (Ho g N) r b s).isSome) ∧ ∀ p, yj (Ho g N) r b s = some p → l = p.2
 | 0, b, s, hb, hw, hs => by
  have hW : Wok (b ++ [(s : Int)]) := ⟨by simp; omega, fun w h => by
   rcases List.mem_append.1 h with h | h
   ·exact hw w h
   ·rw [List.mem_singleton] at h; omega⟩
  refine ⟨b ++ [(s : Int)], ?_, fun p hp => ?_⟩
  ·refine Ba ?_;simp only [Td.f];refine Xa (by rw [Uf (by omega)]; omega) (Lg (Dy b (by omega)) (Xa (by omega) (Lg rfl (Ev.bind (Gs g N hN _ hW) (Rb (Ev.now _) ?_)))));rw [yj, Option.isSome_map, Ho];by_cases c : (wqR g (b ++ [(s : Int)]) N).1 ≤ (wqR g (b ++ [(s : Int)]) N).2
   ·rw [if_pos c, decide_eq_false (by omega)]; rfl
   ·rw [if_neg c, decide_eq_true (by omega)]; rfl
  ·rw [yj, Option.map_eq_some_iff] at hp;obtain ⟨q, _, rfl⟩ := hp;rfl
 | r + 1, b, s, hb, hw, hs => by
  have hl := Ld (s + 1) (fun k i => Td.l0 k (Vf g N) (n : Int) b (s : Int) (i : Int)) (fun i => RN (((List.range (s + 1)).drop i).findSome? fun x : Nat => yj (Ho g N) r (b ++ [(x : Int)]) (s - x))) ?_ ?_ 0 (Nat.zero_le _)
  ·refine ⟨(RN (yj (Ho g N) (r + 1) b s)).1, ?_, fun p hp => by rw [hp]; rfl⟩;refine Ba ?_;simp only [Td.f];refine Vb (by rw [Uf (by omega)]; omega) (Rb hl ?_);rw [List.drop_zero, ← yj];cases yj (Ho g N) (r + 1) b s <;> rfl
  ·refine Ba ?_;simp only [Td.l0];refine Vb (by omega) (Rb (Ev.now _) ?_);rw [List.drop_eq_nil_of_le (by simp)]; rfl
  ·intro i hi ih;refine Ba ?_;simp only [Td.l0];have hr := Iq r (b ++ [(i : Int)]) (s - i) (by simp; omega) (fun w h => by
    rcases List.mem_append.1 h with h | h
    ·exact hw w h
    ·rw [List.mem_singleton] at h; omega) (by omega)
   obtain ⟨l, h1, h2⟩ := hr;refine Xa (by omega) (Lg (Dy b (by omega)) (Xa (by omega) ?_));have e1 : wrap64 ((s : Int) - (i : Int)) = ((s - i : Nat) : Int) := by rw [Uf (by omega)]; omega
   rw [e1, Eb hi (by omega), Pi (s + 1) i hi, List.findSome?_cons];refine Ev.bind h1 (Ie (fun e => ?_) (fun e => ?_))
   ·cases h3 : yj (Ho g N) r (b ++ [(i : Int)]) (s - i) with
    | none => rw [h3] at e; cases e
    | some p => exact Rb (Ev.now _) (by rw [h2 p h3]; rfl)
   ·cases h3 : yj (Ho g N) r (b ++ [(i : Int)]) (s - i) with
    | none => exact ih
    | some p => rw [h3] at e; cases e
theorem Ot : ∀ (r : Nat) (b : List Int) (s : Nat), b.length + r + 1 = n → (∀ w ∈ b, 0 ≤ w ∧ w ≤ 5000) → s ≤ 5000 → Ev (fun k => Rk.f k (n : Int) (Vf g N) b (s : Int)) (yj (Ho g N) r b s)
 | 0, b, s, hb, hw, hs => by
  have hW : Wok (b ++ [(s : Int)]) := ⟨by simp; omega, fun w h => by
   rcases List.mem_append.1 h with h | h
   ·exact hw w h
   ·rw [List.mem_singleton] at h; omega⟩
  refine Ba ?_;simp only [Rk.f];refine Xa (by rw [Uf (by omega)]; omega) (Xa (by omega) (Ev.bind (VG _ g N hN _ hW) ?_));rw [yj, Ho];exact Bo (fun c => Rb (Ev.now _) (by rw [if_pos c]; rfl)) (fun c => Rb (Ev.now _) (by rw [if_neg c]; rfl))
 | r + 1, b, s, hb, hw, hs => by
  have hl := Ld (s + 1) (fun k i => Rk.l k (n : Int) (Vf g N) b (s : Int) (i : Int)) (fun i => ((List.range (s + 1)).drop i).findSome? fun x : Nat => yj (Ho g N) r (b ++ [(x : Int)]) (s - x)) ?_ ?_ 0 (Nat.zero_le _)
  ·refine Ba ?_;simp only [Rk.f];exact Vb (by rw [Uf (by omega)]; omega) (Rb hl (by rw [List.drop_zero, ← yj]))
  ·refine Ba ?_;simp only [Rk.l];refine Vb (by rw [Uf (by omega)]; omega) (Rb (Ev.now _) ?_);rw [List.drop_eq_nil_of_le (by simp)]; rfl
  ·intro i hi ih;refine Ba ?_;simp only [Rk.l];have hr := Ot r (b ++ [(i : Int)]) (s - i) (by simp; omega) (fun w h => by
    rcases List.mem_append.1 h with h | h
    ·exact hw w h
    ·rw [List.mem_singleton] at h; omega) (by omega)
   have e1 : wrap64 ((s : Int) - (i : Int)) = ((s - i : Nat) : Int) := by rw [Uf (by omega)]; omega
   refine Xa (by rw [Uf (by omega)]; omega) (Xa (by omega) ?_);rw [e1, Eb hi (by omega), Pi (s + 1) i hi, List.findSome?_cons];refine Ev.bind hr ?_;cases h3 : yj (Ho g N) r (b ++ [(i : Int)]) (s - i) with
   | none => exact ih
   | some p => exact Ev.now _
end
theorem Sn {f g : Nat → Bool} {N : Nat} (h : ∀ m, m < N → f m = g m) : Vf f N = Vf g N := by
 unfold Vf;exact List.map_congr_left fun m hm => h m (List.mem_range.1 hm)
theorem Fv (W : List Int) (q : Int) (n i j : Nat) (hn : n ≤ 9) (hi : i < n) (hj : j < n) : Ev (fun k => Ng.f k (Vf (gW W q) (2 ^ n)) (i : Int) (j : Int)) false := by
 unfold Ng.f;by_cases h : W.getD j 0 ≤ W.getD i 0
 ·exact Ev.bind (Rb (Vk (gW W q) n i j hn hi hj) (YD hn hi hj h)) (Xa rfl (Ev.now _))
 ·refine Ev.bind (Vk (gW W q) n i j hn hi hj) (Ie (fun _ => Ev.now _) (fun _ => ?_));exact Ev.bind (Rb (Vk (gW W q) n j i hn hj hi) (YD hn hj hi (by omega))) (Ev.now _)
theorem Br (W : List Int) (q : Int) (n : Nat) (hn : n ≤ 9) : Ev (fun k => Ia.f k (Vf (gW W q) (2 ^ n)) (n : Int)) true := by
 unfold Ia.f;have := Ld n (fun k i => Ia.l0 k (Vf (gW W q) (2 ^ n)) (n : Int) (i : Int)) (fun _ => true) ?_ ?_ 0 (Nat.zero_le _)
 ·exact this
 ·refine Ba ?_;simp only [Ia.l0];exact Vb (Int.lt_irrefl _) (Ev.now _)
 ·intro i hi ih;refine Ba ?_;simp only [Ia.l0];refine Xa (by omega) ?_;have := Ld i (fun k j => Ia.l1 k (Vf (gW W q) (2 ^ n)) (n : Int) (i : Int) (j : Int)) (fun _ => true) ?_ ?_ 0 (Nat.zero_le _)
  ·exact this
  ·refine Ba ?_;simp only [Ia.l1];refine Vb (Int.lt_irrefl _) ?_;rw [Eb hi (by omega)];exact ih
  ·intro j hj ih2;refine Ba ?_;simp only [Ia.l1];refine Xa (by omega) (Ev.bind (Fv W q n i j hn hi (by omega)) (Vb (by decide) ?_));rw [Eb hj (by omega)];exact ih2
theorem XD : ∀ (W : List Int) (m i : Nat), (∀ w ∈ W, 0 ≤ w ∧ w ≤ 5000) → wtF W m i ≤ (W.length : Int) * 5000
 | [], _, _, _ => by simp [wtF]
 | w :: ws, m, i, h => by
  have h1 := XD ws m (i + 1) (fun x hx => h x (List.mem_cons_of_mem _ hx));have h2 := h w (List.mem_cons_self ..);rw [wtF, List.length_cons];split <;> omega
theorem Ey (g : Nat → Bool) (W : List Int) (hW : Wok W) : ∀ (l : List Nat) (st : Int × Int), (0 ≤ st.2 ∧ st.2 ≤ 45000) → 0 ≤ (l.foldl (stW g W) st).2 ∧ (l.foldl (stW g W) st).2 ≤ 45000
 | [], st, h => h
 | m :: l, st, h => by
  rw [List.foldl_cons];refine Ey g W hW l _ ?_;have h1 := Cv W m 0 hW.2;have h2 := XD W m 0 hW.2;have h3 := hW.1;unfold stW;split
  ·split
   ·exact h
   ·exact h
  ·dsimp only;split <;> omega
theorem UD (g : Nat → Bool) (N : Nat) (hN : 1 ≤ N) (h0 : g 0 = false) (W : List Int) (hW : Wok W) (p : Int) (h : Ho g N W = some p) : p ≠ 0 ∧ p = (wqR g W N).2 + 1 := by
 have hp : 0 ≤ (wqR g W N).2 ∧ (wqR g W N).2 ≤ 45000 := by
  unfold wqR;obtain ⟨d, rfl⟩ : ∃ d, N = d + 1 := ⟨N - 1, by omega⟩;rw [show List.range (d + 1) = 0 :: (List.range (d + 1)).drop 1 from by rw [← Pi (d + 1) 0 (by omega), List.drop_zero], List.foldl_cons];refine Ey g W hW _ _ ?_;have h1 := Cv W 0 0 hW.2;have h2 := XD W 0 0 hW.2;have h3 := hW.1;unfold stW;rw [h0, if_neg (by decide)];dsimp only;rw [if_pos (by omega)];omega
 unfold Ho at h;split at h
 ·cases h
 ·rw [Uf (by omega)] at h;have := Option.some.inj h;exact ⟨by omega, this.symm⟩
theorem yu (W : List Int) (q : Int) (hq : 1 ≤ q) : ∀ (l : List Nat) (st : Int × Int), st.2 < q → (st.1 = -1 ∨ q ≤ st.1) → (q ≤ st.1 ∨ ∃ m ∈ l, gW W q m = true) → (l.foldl (stW (gW W q) W) st).2 < q ∧ q ≤ (l.foldl (stW (gW W q) W) st).1
 | [], st, h1, h2, h3 => ⟨h1, h3.elim id (fun h => by obtain ⟨m, hm, _⟩ := h; cases hm)⟩
 | m :: l, st, h1, h2, h3 => by
  rw [List.foldl_cons];cases e : gW W q m with
  | true =>
   have e2 : q ≤ wtF W m 0 := by unfold gW at e; exact of_decide_eq_true e
   have hs : (stW (gW W q) W st m).2 = st.2 ∧ q ≤ (stW (gW W q) W st m).1 := by
    unfold stW;rw [if_pos e];split
    ·exact ⟨rfl, e2⟩
    ·exact ⟨rfl, by omega⟩
   exact yu W q hq l _ (by rw [hs.1]; exact h1) (.inr hs.2) (.inl hs.2)
  | false =>
   have e2 : wtF W m 0 < q := by unfold gW at e; have := of_decide_eq_false e; omega
   have hs : (stW (gW W q) W st m).1 = st.1 ∧ (stW (gW W q) W st m).2 < q := by
    unfold stW;rw [if_neg (by rw [e]; decide)];refine ⟨rfl, ?_⟩;dsimp only;split <;> omega
   refine yu W q hq l _ hs.2 (by rw [hs.1]; exact h2) ?_;rw [hs.1];rcases h3 with h | ⟨m', hm', h⟩
   ·exact .inl h
   ·rcases List.mem_cons.1 hm' with rfl | hm'
    ·rw [e] at h; cases h
    ·exact .inr ⟨m', hm', h⟩
theorem Yu : ∀ (W : List Int) (M i : Nat), (∀ j, j < W.length → Kk M (i + j) = true) → wtF W M i = W.foldr (fun a c => a + c) 0
 | [], _, _, _ => rfl
 | w :: ws, M, i, h => by
  rw [wtF, List.foldr_cons, Yu ws M (i + 1) (fun j hj => by have := h (j + 1) (by rw [List.length_cons]; omega); rwa [show i + 1 + j = i + (j + 1) by omega]), if_pos (by have := h 0 (by rw [List.length_cons]; omega); rwa [Nat.add_zero] at this)]
theorem yJ (W : List Int) (hW : Wok W) (q : Int) (hq : 1 ≤ q) (hs : q ≤ W.foldr (fun a c => a + c) 0) : Ho (gW W q) (2 ^ W.length) W ≠ none := by
 have hpos := Nat.two_pow_pos W.length;have hw : gW W q (2 ^ W.length - 1) = true := by
  unfold gW;rw [Yu W _ 0 (fun j hj => by rw [Ig, Nat.testBit_two_pow_sub_one, Nat.zero_add]; exact decide_eq_true hj)];exact decide_eq_true hs
 have := yu W q hq (List.range (2 ^ W.length)) (-1, -1) (by show -1 < q; omega) (.inl rfl) (.inr ⟨_, List.mem_range.2 (by omega), hw⟩);unfold Ho wqR;rw [if_neg (by omega)];exact Option.some_ne_none _
theorem Ns : ∀ (W : List Int) (s : Int), (∀ w ∈ W, 0 ≤ w ∧ w ≤ 1000) → 0 ≤ s → s + (W.length : Int) * 1000 ≤ 1000000 → QI s W = s + W.foldr (fun a c => a + c) 0
 | [], s, _, _, _ => by simp [QI]
 | w :: ws, s, h, h0, h1 => by
  have h2 := h w (List.mem_cons_self ..);rw [List.length_cons] at h1;rw [QI, Uf (by omega), Ns ws _ (fun x hx => h x (List.mem_cons_of_mem _ hx)) (by omega) (by omega), List.foldr_cons];omega
theorem GD (fit : List Int → Option Int) (B : Nat) : ∀ (r : Nat) (b : List Int) (s : Nat) (p : Int × List Int), s ≤ B → (∀ w ∈ b, w ≤ (B : Int)) → yj fit r b s = some p → ∀ w ∈ p.2, w ≤ (B : Int)
 | 0, b, s, p, hs, hb, h => by
  rw [yj, Option.map_eq_some_iff] at h;obtain ⟨q, h1, rfl⟩ := h;intro w hw;rcases List.mem_append.1 hw with h | h
  ·exact hb w h
  ·rw [List.mem_singleton] at h; omega
 | r + 1, b, s, p, hs, hb, h => by
  rw [yj, List.findSome?_eq_some_iff] at h;obtain ⟨l1, x, l2, e, h, _⟩ := h;have hx : x < s + 1 := List.mem_range.1 (by rw [e]; simp);exact GD fit B r _ _ p (by omega) (fun w hw => by
   rcases List.mem_append.1 hw with h | h
   ·exact hb w h
   ·rw [List.mem_singleton] at h; omega) h
theorem Fy (W : List Int) (hW : Wok W) (q : Int) (hn : 1 ≤ W.length) (hp : 2 ^ W.length ≤ 512) (hpos : 0 < 2 ^ W.length) (h0 : gW W q 0 = false) (L : List (List Int)) (x : Nat) (hx : x ≤ 5000) (p : Int × List Int) (hk : yj (Ho (gW W q) (2 ^ W.length)) (W.length - 1) [] x = some p) :
 ∃ p : Int × List Int, (p.2.length = W.length ∧ ∀ w ∈ p.2, 0 ≤ w ∧ w ≤ 5000) ∧ Ev (fun k => Md.l0 k (Vf (gW W q) (2 ^ W.length)) (x : Int) (W.length : Int) L) (p.1, p.2, true) ∧ Ev (fun k => fnd.l k (W.length : Int) (Vf (gW W q) (2 ^ W.length)) 0 [] (x : Int)) p ∧ (Ho (gW W q) (2 ^ W.length) p.2 = some p.1 ∧ ∀ w ∈ p.2, w ≤ (x : Int)) := by
 have f4 := GD _ x (W.length - 1) [] x p (Nat.le_refl _) (by simp) hk;obtain ⟨f1, f2, f3⟩ := look_ok _ (W.length - 1) [] x p hx (by simp) hk;rw [List.length_nil] at f2;have hWp : Wok p.2 := ⟨by have := hW.1; omega, f3⟩;obtain ⟨g1, g2⟩ := UD (gW W q) (2 ^ W.length) hpos h0 p.2 hWp p.1 f1;have ew : wrap64 ((x : Int) + 1) = ((x + 1 : Nat) : Int) := by rw [Uf (by omega)]; omega
 refine ⟨p, ⟨by omega, f3⟩, ?_, ?_, f1, f4⟩
 ·obtain ⟨l, e1, e2⟩ := Iq (gW W q) (2 ^ W.length) W.length hp hW.1 (W.length - 1) [] x (by simp; omega) (by simp) hx;rw [hk] at e1;obtain rfl := e2 p hk;refine Ba ?_;simp only [Md.l0];refine Ev.bind e1 (Xa rfl (Ev.bind (Gs (gW W q) _ hp p.2 hWp) (Rb (Ev.now _) ?_)));have hf := f1;unfold Ho at hf;split at hf
  ·cases hf
  ·rw [Option.some.inj hf]
 ·have e1 := Ot (gW W q) (2 ^ W.length) W.length hp hW.1 (W.length - 1) [] x (by simp; omega) (by simp) hx;rw [hk] at e1;refine Ba ?_;simp only [fnd.l];refine Xa trivial (Ev.bind e1 (Ba ?_));simp only [fnd.l];exact Vb g1 (Rb (Ev.now _) rfl)
theorem YJ (W : List Int) (hW : Wok W) (q : Int) (hq : 1 ≤ q) (hs : q ≤ W.foldr (fun a c => a + c) 0) (hn : 1 ≤ W.length) (T0 : Nat) (hT0 : W.foldr (fun a c => a + c) 0 = (T0 : Int)) (hT1 : T0 ≤ 5000) (L : List (List Int)) :
 ∀ d x, x + d = T0 → ∃ p : Int × List Int, (p.2.length = W.length ∧ ∀ w ∈ p.2, 0 ≤ w ∧ w ≤ 5000) ∧ Ev (fun k => Md.l0 k (Vf (gW W q) (2 ^ W.length)) (x : Int) (W.length : Int) L) (p.1, p.2, true) ∧ Ev (fun k => fnd.l k (W.length : Int) (Vf (gW W q) (2 ^ W.length)) 0 [] (x : Int)) p ∧ (Ho (gW W q) (2 ^ W.length) p.2 = some p.1 ∧ ∀ w ∈ p.2, w ≤ (T0 : Int)) := by
 have hp : 2 ^ W.length ≤ 512 := Nat.pow_le_pow_right (n := 2) (by decide) hW.1;have hpos := Nat.two_pow_pos W.length;have h0 : gW W q 0 = false := by
  unfold gW;have : ∀ (V : List Int) (i : Nat), wtF V 0 i = 0 := fun V => by
   induction V with
   | nil => intro i; rfl
   | cons v vs ih => intro i; rw [wtF, ih, Ig, Nat.zero_testBit, if_neg (by decide)]; rfl
  rw [this];exact decide_eq_false (by omega)
 intro d;induction d with
 | zero =>
  intro x hx;obtain rfl : x = T0 := by omega
  have hne := Dv (Ho (gW W q) (2 ^ W.length)) (W.length - 1) [] W x (by omega) (fun w h => (hW.2 w h).1) hT0 (by rw [List.nil_append]; exact yJ W hW q hq hs);obtain ⟨p, hk⟩ := Option.ne_none_iff_exists'.1 hne;exact Fy W hW q hn hp hpos h0 L x hT1 p hk
 | succ d ih =>
  intro x hx;cases hk : yj (Ho (gW W q) (2 ^ W.length)) (W.length - 1) [] x with
  | some p =>
   obtain ⟨p, h1, h2, h3, h4, h5⟩ := Fy W hW q hn hp hpos h0 L x (by omega) p hk;exact ⟨p, h1, h2, h3, h4, fun w hw => by have := h5 w hw; omega⟩
  | none =>
   obtain ⟨p, h1, h2, h3, h4⟩ := ih (x + 1) (by omega);have ew : wrap64 ((x : Int) + 1) = ((x + 1 : Nat) : Int) := by rw [Uf (by omega)]; omega
   refine ⟨p, h1, ?_, ?_, h4⟩
   ·obtain ⟨l, e1, e2⟩ := Iq (gW W q) (2 ^ W.length) W.length hp hW.1 (W.length - 1) [] x (by simp; omega) (by simp) (by omega);rw [hk] at e1;refine Ba ?_;simp only [Md.l0];refine Ev.bind e1 (Vb (by simp) ?_);rw [ew]; exact h2
   ·have e1 := Ot (gW W q) (2 ^ W.length) W.length hp hW.1 (W.length - 1) [] x (by simp; omega) (by simp) (by omega);rw [hk] at e1;refine Ba ?_;simp only [fnd.l];refine Xa trivial (Ev.bind e1 ?_);rw [ew]; exact h3
theorem BL (g : Nat → Bool) (n i j : Nat) (hn : n ≤ 9) (hi : i < n) (hj : j < n) (h : Xn (wsB g i j) (2 ^ n) 0 = true) : wK n (Vi g (2 ^ n)) i j = true := by
 unfold wK;rw [beq_iff_eq];refine Nat.eq_of_testBit_eq fun m => ?_;unfold GM;simp only [Nat.testBit_and, Nat.testBit_shiftRight, Nf];by_cases c : m < 2 ^ n
 ·rw [decide_eq_true c, Bool.true_and];unfold Xn at h;have h1 := List.all_eq_true.1 h m (List.mem_range.2 (by omega));rw [Nat.zero_add] at h1;unfold wsB at h1;rw [Ig, Ig] at h1;cases e1 : m.testBit i with
  | true => simp
  | false =>
   cases e2 : m.testBit j with
   | true => simp
   | false =>
    have l1 := add_lt m i n hn c hi (by rw [Ig]; exact e1);rw [e1, e2, Nat.add_comm m, Nat.add_comm m] at h1;rw [Nat.add_comm] at l1;rw [decide_eq_true l1];revert h1
    cases g (2 ^ j + m) <;> cases g (2 ^ i + m) <;> simp
 ·rw [decide_eq_false c]; simp
theorem OM (x : Nat) : 0 ≤ PL.getD x 0 ∧ PL.getD x 0 ≤ 12 := by
 by_cases h : x < 17
 ·have : ∀ y : Nat, y < 17 → 0 ≤ PL.getD y 0 ∧ PL.getD y 0 ≤ 12 := by decide
  exact this x h
 ·rw [List.getD_eq_getElem?_getD, List.getElem?_eq_none (by show 17 ≤ x; omega)]; decide
theorem DL (W : List Int) (h : ∀ w ∈ W, 0 ≤ w ∧ w ≤ 12) : 0 ≤ W.foldr (fun a c => a + c) 0 ∧ W.foldr (fun a c => a + c) 0 ≤ (W.length : Int) * 12 := by
 induction W with
 | nil => simp
 | cons v vs ih =>
  have h1 := ih (fun z hz => h z (List.mem_cons_of_mem _ hz));have h2 := h v (List.mem_cons_self ..);rw [List.foldr_cons, List.length_cons];omega
theorem yO (hK : ∀ k, k < 5 → RL k = true) (g : Nat → Bool) (n : Nat) (hn : 1 ≤ n ∧ n ≤ 5) (hm : JG g (2 ^ n)) (h0 : g 0 = false) (h1 : g (2 ^ n - 1) = true)
 (hc : ∀ i j, i < n → j < n → Xn (wsB g i j) (2 ^ n) 0 = true ∨ Xn (wsB g j i) (2 ^ n) 0 = true) :
 ∃ (W : List Int) (q : Int), Wok W ∧ W.length = n ∧ 1 ≤ q ∧ q ≤ W.foldr (fun a c => a + c) 0 ∧ W.foldr (fun a c => a + c) 0 ≤ 60 ∧ ∀ m, m < 2 ^ n → g m = gW W q m := by
 have hpos := Nat.two_pow_pos n;obtain ⟨k, rfl⟩ : ∃ k, n = k + 1 := ⟨n - 1, by omega⟩;have h := qJ (hK k (by omega)) g hm;have hcK : JD (k + 1) (Vi g (2 ^ (k + 1))) = true := by
  unfold JD;refine List.all_eq_true.2 fun i hi => List.all_eq_true.2 fun j hj => ?_;have hi := List.mem_range.1 hi;have hj := List.mem_range.1 hj;rw [Bool.or_eq_true];rcases hc i j hi (by omega) with h | h
  ·exact .inl (BL g (k + 1) i j (by omega) hi (by omega) h)
  ·exact .inr (BL g (k + 1) j i (by omega) (by omega) hi h)
 unfold PM at h;rw [hcK, Nf, Nf, h0, h1, decide_eq_true (show 2 ^ (k + 1) - 1 < 2 ^ (k + 1) by omega)] at h;simp only [Bool.not_true, Bool.and_false, Bool.and_true, Bool.false_or] at h;generalize hW : NM (k + 1) (Vi g (2 ^ (k + 1))) = W at h;generalize MM W (Vi g (2 ^ (k + 1))) (2 ^ (k + 1)) + 1 = q at h;have hb : ∀ w ∈ W, 0 ≤ w ∧ w ≤ 12 := by
  intro w hw;rw [← hW] at hw;obtain ⟨i, _, rfl⟩ := List.mem_map.1 hw;exact OM _
 have hl : W.length = k + 1 := by rw [← hW]; simp [NM]
 have hs := DL W hb;unfold QL at h;rw [Bool.and_eq_true, decide_eq_true_eq] at h;have hg : ∀ m, m < 2 ^ (k + 1) → g m = gW W q m := by
  intro m hm;have h2 := List.all_eq_true.1 h.2 m (List.mem_range.2 hm);rw [beq_iff_eq, Nf, decide_eq_true hm, Bool.true_and] at h2;rw [h2]; rfl
 refine ⟨W, q, ⟨by omega, fun w hw => by have := hb w hw; omega⟩, hl, h.1, ?_, by omega, hg⟩;have h3 := hg (2 ^ (k + 1) - 1) (by omega);rw [h1] at h3;have h4 : q ≤ wtF W (2 ^ (k + 1) - 1) 0 := of_decide_eq_true h3.symm;rw [Yu W _ 0 (fun j hj => by rw [Ig, Nat.testBit_two_pow_sub_one, Nat.zero_add]; exact decide_eq_true (by omega))] at h4;exact h4
theorem EL : ((List.range 5).all fun i => (List.range 5).all fun j => (List.range 32).all fun S => S.testBit i || S.testBit j || (List.range 32).all fun T => T.testBit i || T.testBit j || i == j ||
 (Jr (S + 2 ^ i) (T + 2 ^ j) (S + 2 ^ j) && wOf (S + 2 ^ i) (T + 2 ^ j) (S + 2 ^ j) == T + 2 ^ i && (Jr (S + 2 ^ i) (T + 2 ^ j) (T + 2 ^ i) && wOf (S + 2 ^ i) (T + 2 ^ j) (T + 2 ^ i) == S + 2 ^ j))) = true := by decide +kernel
theorem JJ {i j S T : Nat} (hi : i < 5) (hj : j < 5) (hS : S < 32) (hT : T < 32) (hij : i ≠ j) (a : S.testBit i = false) (b : S.testBit j = false) (c : T.testBit i = false) (d : T.testBit j = false) :
 (Jr (S + 2 ^ i) (T + 2 ^ j) (S + 2 ^ j) = true ∧ wOf (S + 2 ^ i) (T + 2 ^ j) (S + 2 ^ j) = T + 2 ^ i) ∧ (Jr (S + 2 ^ i) (T + 2 ^ j) (T + 2 ^ i) = true ∧ wOf (S + 2 ^ i) (T + 2 ^ j) (T + 2 ^ i) = S + 2 ^ j) := by
 have h := List.all_eq_true.1 (List.all_eq_true.1 (List.all_eq_true.1 EL i (List.mem_range.2 hi)) j (List.mem_range.2 hj)) S (List.mem_range.2 hS);rw [a, b, Bool.false_or, Bool.false_or] at h;have h := List.all_eq_true.1 h T (List.mem_range.2 hT);rw [c, d, Bool.false_or, Bool.false_or] at h;simpa [hij] using h
theorem ND {s t : Nat} : ∀ O : List Nat, s ∈ O → t ∈ O → (∃ a r, O = a ++ s :: r ∧ t ∈ s :: r) ∨ (∃ a r, O = a ++ t :: r ∧ s ∈ t :: r)
 | [], h, _ => by cases h
 | v :: O, hs, ht => by
  by_cases e1 : v = s
  ·subst e1;exact .inl ⟨[], O, rfl, ht⟩
  by_cases e2 : v = t
  ·subst e2;exact .inr ⟨[], O, rfl, hs⟩
  have hs : s ∈ O := (List.mem_cons.1 hs).resolve_left (fun h => e1 h.symm);have ht : t ∈ O := (List.mem_cons.1 ht).resolve_left (fun h => e2 h.symm);rcases ND O hs ht with ⟨a, r, e, h⟩ | ⟨a, r, e, h⟩
  ·exact .inl ⟨v :: a, r, by rw [e]; rfl, h⟩
  ·exact .inr ⟨v :: a, r, by rw [e]; rfl, h⟩
theorem Kv (s t u : Nat) : Jr s t u = Jr t s u := by
 unfold Jr aN;rw [Nat.or_comm, Nat.and_comm s t]
theorem Hy (s t u : Nat) : wOf s t u = wOf t s u := by
 unfold wOf aN;rw [Nat.or_comm s t, Nat.and_comm s t]
theorem WG (g : Nat → Bool) (O : List Nat) (s t u w : Nat) (hs : s ∈ O) (ht : t ∈ O) (hu : u ∈ O) (hw : w ∈ O) (gs : g s = true) (gt : g t = true) (gu : g u = false) (gw : g w = false)
 (b1 : Jr s t u = true) (w1 : wOf s t u = w) (b2 : Jr s t w = true) (w2 : wOf s t w = u) : allT g (fun _ _ _ _ => true) O O ≠ none := by
 have key : ∀ s t, g s = true → g t = true → Jr s t u = true → wOf s t u = w → Jr s t w = true → wOf s t w = u → (∃ a r, O = a ++ s :: r ∧ t ∈ s :: r) → allT g (fun _ _ _ _ => true) O O ≠ none := by
  rintro s t gs gt b1 w1 b2 w2 ⟨a, r, e, h⟩ hn;rw [Hq, List.head?_eq_none_iff] at hn;have hI : ∃ c, c ∈ liI g (fun _ _ _ _ => true) s t O := by
   rcases ND O hu hw with ⟨a', r', e', h'⟩ | ⟨a', r', e', h'⟩
   ·exact ⟨_, (Lt g _ O).2 ⟨a', u, r', e', by unfold inQ; rw [w1, gu, gw, b1]; simpa using h', rfl⟩⟩
   ·exact ⟨_, (Lt g _ O).2 ⟨a', w, r', e', by unfold inQ; rw [w2, gu, gw, b2]; simpa using h', rfl⟩⟩
  obtain ⟨c, hc⟩ := hI;have : c ∈ liA g (fun _ _ _ _ => true) O O := (Xx g _ O O).2 ⟨a, s, r, e, (Wx g _ O _).2 ⟨gs, t, h, gt, hc⟩⟩;rw [hn] at this;cases this
 rcases ND O hs ht with h | h
 ·exact key s t gs gt b1 w1 b2 w2 h
 ·exact key t s gt gs (by rw [Kv]; exact b1) (by rw [Hy]; exact w1) (by rw [Kv]; exact b2) (by rw [Hy]; exact w2) h
theorem Ms {p : Nat → Bool} {N : Nat} (h : ¬ Xn p N 0 = true) : ∃ m, m < N ∧ p m = false := by
 unfold Xn at h;rw [List.all_eq_true] at h;obtain ⟨m, hm⟩ := Classical.not_forall.1 h;obtain ⟨h1, h2⟩ := Classical.not_imp.1 hm;have := List.mem_range.1 h1;rw [Nat.zero_add] at h2;exact ⟨m, by omega, eq_false_of_ne_true h2⟩
theorem Lv {g : Nat → Bool} {i j m : Nat} (h : wsB g i j m = false) : m.testBit i = false ∧ m.testBit j = false ∧ g (m + 2 ^ j) = true ∧ g (m + 2 ^ i) = false := by
 unfold wsB at h;rw [Ig, Ig] at h;simpa [and_assoc] using h
theorem Ov (g : Nat → Bool) (n i j : Nat) (hn : n ≤ 5) (hi : i < n) (hj : j < n) (h1 : ¬ Xn (wsB g i j) (2 ^ n) 0 = true) (h2 : ¬ Xn (wsB g j i) (2 ^ n) 0 = true) :
 allT g (fun _ _ _ _ => true) (Qy (2 ^ n)) (Qy (2 ^ n)) ≠ none := by
 have hp : 2 ^ n ≤ 32 := Nat.pow_le_pow_right (n := 2) (by decide) hn;obtain ⟨T, hT, e1⟩ := Ms h1;obtain ⟨S, hS, e2⟩ := Ms h2;obtain ⟨t1, t2, t3, t4⟩ := Lv e1;obtain ⟨s1, s2, s3, s4⟩ := Lv e2;have hij : i ≠ j := fun e => by subst e; rw [t3] at t4; cases t4
 obtain ⟨⟨b1, w1⟩, b2, w2⟩ := JJ (show i < 5 by omega) (show j < 5 by omega) (show S < 32 by omega) (show T < 32 by omega) hij s2 s1 t1 t2;have mem : ∀ x k, x < 2 ^ n → k < n → x.testBit k = false → x + 2 ^ k ∈ Qy (2 ^ n) := fun x k hx hk hb =>
  (Fq (2 ^ n) (by omega)).mem_iff.2 (List.mem_range.2 (add_lt x k n (by omega) hx hk (by rw [Ig]; exact hb)))
 exact WG g _ (S + 2 ^ i) (T + 2 ^ j) (S + 2 ^ j) (T + 2 ^ i) (mem S i hS hi s2) (mem T j hT hj t2) (mem S j hS hj s1) (mem T i hT hi t1) s3 t3 s4 t4 b1 w1 b2 w2
end Go.Proofs.YtodchjdgpnpdcaaGreat.Q
end

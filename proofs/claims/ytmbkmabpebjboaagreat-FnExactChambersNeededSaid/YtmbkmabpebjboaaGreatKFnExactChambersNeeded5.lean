/- Part 5 of the proof of FnExactChambersNeeded: what it leans on (no condition). -/
import Derived.Test.YtmbkmabpebjboaaGreatKFnExactChambersNeeded4
section
namespace Go.Proofs.YtmbkmabpebjboaaGreat.Q
open Go.RowKit Go.Proofs.YtmbkmabpebjboaaGreatW.PrintWords Go.Proofs.YtmbkmabpebjboaaGreatW.PrintLast Go.Proofs.YtmbkmabpebjboaaGreatW.PrintMore
set_option linter.unusedVariables false
set_option linter.unusedSimpArgs false
mutual
def impl_votes_chambers.l0 : Nat → List (S61) → List Int → Int → List (S28) → Int → Int → Int → List Bool → Option ((List (S61)))
 | 0, _, _, _, _, _, _, _, _ => none
 | k + 1, x3, x4, x5, x24, x25, x26, x440000, x440001 => if x26 < x25 then (if 0 ≤ x26 then (if x26 < (x24.length : Int) then ((impl_Game_votes.f k ((rd_T28 x24 x26).f0) ((rd_T28 x24 x26).f1)).bind fun bt452 => ((impl_votes_table.f k bt452.1 bt452.2).bind fun t457 => (if (Go.bits .and .i64 t457 x5) = x5 then ((impl_votes_firstTrade.f k bt452.1 bt452.2).bind fun bt458 => (if bt458.2.2 = true then (impl_votes_chambers.l0 k x3 x4 x5 x24 x25 (wrap64 (x26 + 1)) x440000 x440001) else (if x3.length < 4398046511104 then (if x4.length < 17592186044416 then (impl_votes_chambers.l0 k (x3 ++ [(⟨bt452.1, bt452.2⟩ : S61)]) (x4 ++ [t457]) x5 x24 x25 (wrap64 (x26 + 1)) x440000 x440001) else (none)) else (none)))) else (impl_votes_chambers.l0 k x3 x4 x5 x24 x25 (wrap64 (x26 + 1)) x440000 x440001)))) else (none)) else (none)) else (impl_votes_chambers.l1 k x3 x4 x5 1 x440000 x440001)
def impl_votes_chambers.l1 : Nat → List (S61) → List Int → Int → Int → Int → List Bool → Option ((List (S61)))
 | 0, _, _, _, _, _, _ => none
 | k + 1, x3, x4, x5, x12, x440000, x440001 => (impl_chosen.f k x4 0 x12 (wrap64 ((shl .i64 1 (x440001.length : Int)) - 1)) x5).bind fun bt472 => (if bt472.2 = true then (impl_votes_chambers.l2 k x3 (([] : List (S61))) bt472.1 (bt472.1.length : Int) 0) else (impl_votes_chambers.l1 k x3 x4 x5 (wrap64 (x12 + 1)) x440000 x440001))
def impl_votes_chambers.l2 : Nat → List (S61) → List (S61) → List Int → Int → Int → Option ((List (S61)))
 | 0, _, _, _, _, _ => none
 | k + 1, x3, x15, x72, x73, x74 => if x74 < x73 then (if 0 ≤ x74 then (if x74 < (x72.length : Int) then (if 0 ≤ (rd x72 x74) then (if (rd x72 x74) < (x3.length : Int) then (if x15.length < 4398046511104 then (impl_votes_chambers.l2 k x3 (x15 ++ [(⟨(rd_T61 x3 (rd x72 x74)).f0, (rd_T61 x3 (rd x72 x74)).f1⟩ : S61)]) x72 x73 (wrap64 (x74 + 1))) else (none)) else (none)) else (none)) else (none)) else (none)) else (some x15)
end
def impl_votes_chambers.f (k : Nat) (a0_0 : Int) (l0_1 : List Bool) : Option ((List (S61))) := (impl_votes_table.f k a0_0 l0_1).bind fun t446 => ((impl_allGames.f k a0_0).bind fun t447 => (impl_votes_chambers.l0 k (([] : List (S61))) (([] : List Int)) t446 t447 (t447.length : Int) 0 a0_0 l0_1))
structure ChmSt (gb b0 b1 : Nat) (X : Array Value) (Ag : Option Addr) (gl : List S28) (u wr : World) (u3 u4 : Value) (x3 : List S61) (x4 : List Int) : Prop where
  N3 : Kd.N k61 61 wr u.heap.size (fun z => u.heap.size ≤ z ∧ z ≠ gb ∧ some z ≠ u4.ownBlock ∧ (z < b0 ∨ b1 ≤ z)) u3 x3
  R4 : Kd.R (Kd.int .i64) 3 wr u.heap.size (fun z => z ≠ gb ∧ (z < b0 ∨ b1 ≤ z)) u4 x4
  F5 : Kd.F k28 wr (fun z => b0 ≤ z ∧ z < b1) Ag gl.length gl
  X : wr.heap[gb]? = some (.cells X 61 (0, 0))
  B : Below u.heap.size u wr
  W : b1 ≤ wr.heap.size
section
variable {gb b0 b1 : Nat} {X : Array Value} {Ag : Option Addr} {gl : List S28} {u W w1 : World} {u3 u4 v3 v4 : Value} {x3 y3 : List S61} {x4 y4 : List Int}
theorem ChmSt.below (h : ChmSt gb b0 b1 X Ag gl u W u3 u4 x3 x4) (hb : Below W.heap.size W w1) : ChmSt gb b0 b1 X Ag gl u w1 u3 u4 x3 x4 :=
  ⟨Kd.N_below h.N3 hb, Kd.R_below h.R4 hb, Kd.F_below h.F5 hb, blk_below h.X hb, h.B.trans (hb.mono h.B.size), Nat.le_trans h.W hb.size⟩
theorem ChmSt.app3 (h : ChmSt gb b0 b1 X Ag gl u W u3 u4 x3 x4) (hN : Kd.N k61 61 w1 u.heap.size (fun z => u.heap.size ≤ z ∧ z ≠ gb ∧ some z ≠ u4.ownBlock ∧ (z < b0 ∨ b1 ≤ z)) v3 y3) (hb : Below u.heap.size W w1) (hg : W.grownBy w1 u3.ownBlock) : ChmSt gb b0 b1 X Ag gl u w1 v3 u4 y3 x4 :=
  ⟨hN, Kd.R_mono (Kd.R_step (Kd.R_apart' h.R4 (Kd.N_typed h.N3) (by decide)) (fun z hz hlt => hg.block z hlt hz.2)) (fun _ hz => hz.1),
    Kd.F_step h.F5 (fun z hz hlt => hg.block z hlt (fun he => by have := (h.N3.1 z he.symm).2.2.2; omega)), blk_grown h.X hg (Kd.N_away h.N3 (fun z hz => hz.2.1)), h.B.trans hb, Nat.le_trans h.W hb.size⟩
theorem ChmSt.app4 (h : ChmSt gb b0 b1 X Ag gl u W u3 u4 x3 x4) (hR : Kd.R (Kd.int .i64) 3 w1 u.heap.size (fun z => z ≠ gb ∧ (z < b0 ∨ b1 ≤ z)) v4 y4) (hb : Below u.heap.size W w1) (hg : W.grownBy w1 u4.ownBlock) (hat : v4.ownBlock = u4.ownBlock ∨ ∃ b, v4.ownBlock = some b ∧ W.heap.size ≤ b) : ChmSt gb b0 b1 X Ag gl u w1 u3 v4 x3 y4 :=
  ⟨Kd.N_mono (Kd.N_step (Kd.N_bound h.N3) (fun z hz hlt => hg.block z hlt hz.1.2.2.1)) (fun z hz => ⟨hz.1.1, hz.1.2.1, fun he => by
      rcases hat with ha | ⟨b, ha, hle⟩
      · exact hz.1.2.2.1 (he.trans ha)
      · rw [ha] at he; injection he with he; have := hz.2; omega, hz.1.2.2.2⟩), hR,
    Kd.F_step h.F5 (fun z hz hlt => hg.block z hlt (fun he => by have := (h.R4.1 z he.symm).2; omega)), blk_grown h.X hg (fun he => (h.R4.1 gb he.symm).1 rfl), h.B.trans hb, Nat.le_trans h.W hb.size⟩
end
theorem ChmSt.fresh {gb b0 b1 : Nat} {X : Array Value} {Ag : Option Addr} {gl : List S28} {u W : World} {u3 u4 : Value} {x3 : List S61} {x4 : List Int} (h : ChmSt gb b0 b1 X Ag gl u W u3 u4 x3 x4) (z : Nat) (hz : W.heap.size ≤ z) : (u.heap.size ≤ z ∧ z ≠ gb ∧ some z ≠ u4.ownBlock ∧ (z < b0 ∨ b1 ≤ z)) ∧ some z ≠ u3.ownBlock := by
  have h1 := h.B.size
  have h2 := blk_lt h.X
  have h3 := h.W
  exact ⟨⟨by omega, by omega, fun he => by have := Kd.R_lt h.R4 z he.symm; omega, by omega⟩, fun he => by have := Kd.N_lt h.N3 z he.symm; omega⟩
theorem len32 {n : Nat} (h : n < 4398046511104) : (n + 1) * 32 ≤ 140737488355328 := by omega
theorem len8 {n : Nat} (h : n < 17592186044416) : (n + 1) * 8 ≤ 140737488355328 := by omega
theorem own_next {u v : Value} {D : Nat} {W : World} (h : ∀ z, u.ownBlock = some z → D ≤ z) (hat : v.ownBlock = u.ownBlock ∨ ∃ b, v.ownBlock = some b ∧ W.heap.size ≤ b) (hW : D ≤ W.heap.size) : ∀ z, v.ownBlock = some z → D ≤ z := fun z he => by
  rcases hat with ha | ⟨b, ha, hle⟩
  · exact h z (ha ▸ he)
  · rw [ha] at he; injection he with he; omega
theorem below_grown_ {u : Value} {B D : Nat} {W w1 : World} (hb : Below B W w1) (hg : W.grownBy w1 u.ownBlock) (h : ∀ z, u.ownBlock = some z → D ≤ z) (hW : D ≤ W.heap.size) : Below D W w1 := ⟨hb.os, hb.tape, hb.output, hb.size, fun z hz => hg.block z (Nat.lt_of_lt_of_le hz hW) (fun he => Nat.lt_irrefl _ (Nat.lt_of_lt_of_le hz (h z he.symm)))⟩
theorem N_V_ {α : Type} {d : Kd α} {e base : Nat} {W : World} {ok : Nat → Prop} {v : Value} {xs : List α} (h : Kd.N d e W base ok v xs) : Kd.V d e W base ok v xs := by
  obtain ⟨A, c, rfl⟩ := Kd.N_slice h
  exact Kd.V_mk (Kd.N_reads' h).2.1 (Kd.N_F h)
theorem N_re {α : Type} {d : Kd α} {e base : Nat} {W : World} {ok ok' : Nat → Prop} {v : Value} (h : Kd.N d e W base ok v []) (hk : ∀ k, v.ownBlock = some k → ok' k) : Kd.N d e W base ok' v [] := by
  obtain ⟨_, rows, hl, hR, _⟩ := h
  exact ⟨hk, rows, hl, hR, fun j x c hx => by simp at hx⟩
set_option maxHeartbeats 16000000 in
set_option maxRecDepth 100000 in
theorem impl_votes_chambers.calls (k : Nat) (a0_0 : Int) (A0_1 : Option Addr) (c0_1 : Nat) (l0_1 : List Bool) (r : List (S61)) (w : World) (hr0_1 : Kd.C Kd.bool w A0_1 l0_1.length l0_1) (hc0_1 : l0_1.length ≤ c0_1) (h : impl_votes_chambers.f k a0_0 l0_1 = some r) :
    Calls Tryz.prog 32 #[.agg #[.int .i64 a0_0, .slice A0_1 l0_1.length c0_1]] w fun e w' => ∃ v0_ : Value, e = .returned (v0_) ∧ Kd.V k61 61 w' w.heap.size (fun k_ => (w.heap.size ≤ k_)) v0_ r ∧ Below w.heap.size w w' := by
  unfold impl_votes_chambers.f at h
  replace h := Option.bind_eq_some_iff.mp h
  obtain ⟨want, ht, h⟩ := h
  replace h := Option.bind_eq_some_iff.mp h
  obtain ⟨gl, hg, h⟩ := h
  have HC := Aside0.mk hr0_1
  have HT := Aside0.mk ht
  have HG := Aside0.mk hg
  have HH := Aside0.mk h
  have u1 := Tryz.underlying28
  have u2 := Tryz.underlying61
  have u3_ := Tryz.underlying86
  clear hr0_1 ht hg h
  go_enter Tryz.func32, Tryz.ntmps32
  go_wp2_with (first
    | ((with_reducible refine gate_dst (N := 1) rfl ?_); refine box_event ?hg (N := 1) ?hd (cs := #[.int .i64 a0_0, .slice A0_1 l0_1.length c0_1]) (t := 61) ?hr ?_; (case hd => rfl); (case hg => rfl); (case hr => first | (go_simp; done) | (go_simp; rfl)); intro gb hgb w1 hbox hb1; have HX1 := Aside0.mk hbox; have HB1 := Aside0.mk hb1; have HGW := Aside0.mk (Nat.le_of_eq hgb.symm : w.heap.size ≤ gb); clear hbox hb1 hgb)
    | ((with_reducible refine gate_dst (N := 18) rfl ?_); refine Kd.N_lit k61 _ 61 ?hg (N' := 18) ?hd (xs := ([] : List S61)) (inner := []) (ok := fun _ => True) (okp := fun _ => False) ?hr ?hp (fun _ hk => hk.elim) trivial (Below.refl _ _) (Nat.le_refl _) (by simp) ?_; (case hd => rfl); (case hg => rfl); (case hr => first | (go_simp; done) | (go_simp; rfl)); (case hp => exact Reps.none _ _); intro v3 w2 ho hb _ _; have HN2 := Aside0.mk ho; have HB2 := Aside0.mk hb; have HX2 := Aside0.mk (blk_below HX1.out hb); clear ho hb)
    | ((with_reducible refine gate_dst (N := 19) rfl ?_); refine Kd.R_lit (Kd.int .i64) _ 3 ?hg (N := 19) ?hd (xs := ([] : List Int)) (inner := []) (ok := fun _ => True) (okp := fun _ => True) ?hr ?hp (fun _ hk => hk) trivial (Below.refl _ _) (Nat.le_refl _) (by simp) ?_; (case hd => rfl); (case hg => rfl); (case hr => first | (go_simp; done) | (go_simp; rfl)); (case hp => exact Reps.none _ _); intro v4 w3 ho hb _ _; have HR3 := Aside0.mk ho; have HB3 := Aside0.mk hb; have HX3 := Aside0.mk (blk_below HX2.out hb); clear ho hb; have z0_ := (blk_cell HX3.out 0).trans rfl; have z1_ := (blk_cell HX3.out 1).trans rfl; have f0_ := blk_frozen HX3.out 0; have f1_ := blk_frozen HX3.out 1)
    | (go_at_call 57; refine (impl_votes_table.calls k a0_0 A0_1 c0_1 l0_1 want _ (Kd.C_below HC.out (HB1.out.trans ((HB2.out.trans (HB3.out.mono HB2.out.size)).mono HB1.out.size))) hc0_1 HT.out).mono ?_; rintro e w4 ⟨rfl, hb⟩; have HB4 := Aside0.mk hb; have HX4 := Aside0.mk (blk_below HX3.out hb); clear hb z0_ z1_ f0_ f1_; have z0_ := (blk_cell HX4.out 0).trans rfl; have z1_ := (blk_cell HX4.out 1).trans rfl; have f0_ := blk_frozen HX4.out 0; have f1_ := blk_frozen HX4.out 1)
    | (go_at_call 58; refine (impl_allGames.calls k a0_0 gl _ HG.out).mono ?_; rintro e w5 ⟨v5, rfl, hR, hb⟩; obtain ⟨Ag, cg, rfl⟩ := Kd.R_slice hR; have HR5 := Aside0.mk hR; have HB5 := Aside0.mk hb; have HX5 := Aside0.mk (blk_below HX4.out hb); clear hR hb z0_ z1_ f0_ f1_))
  have s12 := HB2.out.size
  have s23 := HB3.out.size
  have s34 := HB4.out.size
  have s45 := HB5.out.size
  have hS0 : ChmSt gb w4.heap.size w5.heap.size #[.int .i64 a0_0, .slice A0_1 l0_1.length c0_1] Ag gl w w5 v3 v4 [] [] := by
    have n1 := fun z he => Kd.N_base HN2.out z he
    have n2 := fun z he => Kd.N_lt HN2.out z he
    have m1 := fun z he => Kd.R_base HR3.out z he
    have m2 := fun z he => Kd.R_lt HR3.out z he
    have g1 := blk_lt HX1.out
    refine ⟨N_re (ok := fun _ => True) (Kd.N_lower (Kd.N_below (Kd.N_below (Kd.N_below HN2.out HB3.out) HB4.out) HB5.out) HB1.out.size) (fun z he => ⟨Nat.le_trans HB1.out.size (n1 z he), ?_, fun h2 => ?_, .inl ?_⟩), Kd.R_reok rfl (Kd.R_lower (Kd.R_below (Kd.R_below HR3.out HB4.out) HB5.out) (Nat.le_trans HB1.out.size s12)) (fun z he => ⟨?_, .inl ?_⟩), Kd.F_mono (Kd.R_F (Kd.R_bound HR5.out)) (fun z hz => ⟨hz.2.1, hz.2.2.1⟩), HX5.out, HB1.out.trans ((HB2.out.trans ((HB3.out.trans ((HB4.out.trans (HB5.out.mono s34)).mono s23)).mono s12)).mono HB1.out.size), Nat.le_refl _⟩
    · have := n1 z he; omega
    · have := n2 z he; have := m1 z h2.symm; omega
    · have := n2 z he; omega
    · have := m1 z he; omega
    · have := m2 z he; omega
  have HS0 := Aside0.mk hS0
  have hlg : gl.length ≤ 9223372036854775807 := Kd.F_max hS0.F5
  clear hS0 s12 s23 s34 s45 HN2 HR3 HR5 HX1 HX2 HX3 HX4 HX5 HB2 HB3 HB4 HB5
  go_loopg [3, 4, 26] k (fun kq v3 v4 v26 wr => ∃ (x3 : List S61) (x4 : List Int) (j : Nat), v26 = .int .i64 j ∧ Aside0 (impl_votes_chambers.l0 kq x3 x4 want gl (gl.length : Int) (j : Int) a0_0 l0_1 = some r) ∧ Aside0 (kq ≤ k) ∧ Aside0 (ChmSt gb w4.heap.size w5.heap.size #[.int .i64 a0_0, .slice A0_1 l0_1.length c0_1] Ag gl w wr v3 v4 x3 x4))
  case atStart => exact ⟨[], [], 0, rfl, HH, ⟨Nat.le_refl _⟩, HS0⟩
  case round =>
    clear HH HS0
    obtain ⟨x3, x4, j, rfl, HA, HK, HS⟩ := hrel
    cases gk with
    | zero => exact absurd HA.out (by simp [impl_votes_chambers.l0])
    | succ k1 =>
      have h := HA.out
      clear HA
      simp only [impl_votes_chambers.l0] at h
      by_cases hlt : j < gl.length
      · have hltz : (j : Int) < (gl.length : Int) := Int.ofNat_lt.2 hlt
        have hltb : decide ((j : Int) < (gl.length : Int)) = true := decide_eq_true hltz
        have hw1 : wrap64 ((j : Int) + 1) = ((j + 1 : Nat) : Int) := om3 hlt hlg
        have hrd : rd_T28 gl (j : Int) = gl.getD j z28 := by unfold rd_T28; rw [Int.toNat_natCast]
        rw [if_pos hltz, if_pos (Int.natCast_nonneg _), if_pos hltz, hw1, hrd] at h
        replace h := Option.bind_eq_some_iff.mp h
        obtain ⟨⟨m, tb⟩, hv, h⟩ := h
        replace h := Option.bind_eq_some_iff.mp h
        obtain ⟨t, htb, h⟩ := h
        dsimp only at htb h
        obtain ⟨ad, cs, e, hcl, hK, hcc, _⟩ := Kd.F_get HS.out.F5 z28 (j : Int) (Int.natCast_nonneg _) hltz
        subst e
        rw [Int.toNat_natCast] at hK hcc
        generalize gl.getD j z28 = g at hK hv
        obtain ⟨A0, c0, rfl, hl0, hgF⟩ := k28_openF hK
        have x0 : wr.cell? (ad.add (j * 2)) = some (.int .i64 g.f0) := hcc 0 _ rfl
        have x1 : wr.cell? ⟨(ad.add (j * 2)).block, (ad.add (j * 2)).off + 1, none⟩ = some (.slice A0 g.f1.length c0) := by rw [← add_field _ _ 1 (by decide)]; exact hcc 1 _ rfl
        have HV := Aside0.mk hv
        have HTB := Aside0.mk htb
        have HGC := Aside0.mk (Kd.C_alloc (Kd.F_now hgF) (.cells #[.int .i64 g.f0, .slice A0 g.f1.length c0] 28))
        have hnew := blk_new wr (.cells #[.int .i64 g.f0, .slice A0 g.f1.length c0] 28)
        have y0 := (blk_cell hnew 0).trans rfl
        have y1 := (blk_cell hnew 1).trans rfl
        have HBa := Aside0.mk ((Below.refl wr.heap.size wr).alloc (Nat.le_refl _) (.cells #[.int .i64 g.f0, .slice A0 g.f1.length c0] 28))
        clear hK hcc hcl hv htb hgF hnew hrd
        by_cases hcov : Go.bits .and .i64 t want = want
        case neg =>
          rw [if_neg hcov] at h
          have HH := Aside0.mk h
          have cb : (Go.bits .and .i64 t want != want) = true := bne_iff_ne.2 hcov
          clear h
          go_wp2_with (first
            | (go_at_call 31; refine (impl_Game_votes.calls k1 g.f0 A0 c0 g.f1 m tb _ HGC.out hl0 HV.out).mono ?_; rintro e w6 ⟨v7, rfl, hR, hb⟩; obtain ⟨A7, c7, rfl⟩ := Kd.R_slice hR; have HR6 := Aside0.mk (Kd.R_bound hR); have HB6 := Aside0.mk (HBa.out.trans (hb.mono HBa.out.size)); clear hR hb x0 x1 y0 y1)
            | ((with_reducible refine gate_dst (N := 8) rfl ?_); refine box_event ?hg (N := 8) ?hd (cs := #[.int .i64 0, .slice none 0 0]) (t := 61) ?hr ?_; (case hd => rfl); (case hg => rfl); (case hr => first | (go_simp; done) | (go_simp; rfl)); intro g8 hg8 w7 hbox hb; have HX7 := Aside0.mk hbox; have HG8 := Aside0.mk (Nat.le_of_eq hg8.symm : w6.heap.size ≤ g8); have HB7 := Aside0.mk (HB6.out.trans (hb.mono HB6.out.size)); have HR7 := Aside0.mk (Kd.R_below HR6.out hb); have z0_ := (blk_cell hbox 0).trans rfl; have z1_ := (blk_cell hbox 1).trans rfl; have f0_ := blk_frozen hbox 0; have f1_ := blk_frozen hbox 1; clear hbox hb hg8)
            | ((with_reducible refine gate_store (t := 61) (p := 8) rfl ?_); refine store_event (t := 61) (p := 8) (v := ?vo_w8a) (w1 := ((w7.setCell ⟨g8, 0, none⟩ (.int .i64 m)).setCell ⟨g8, 1, none⟩ (.slice A7 tb.length c7))) ?hg ?ho ?hn ?hr ?_; (case ho => rfl); (case hg => rfl); (case hn => rfl); (case hr => first | (go_simp; done) | (go_simp; rfl)); intro w8 hw; have HX8 : Aside0 (w8.heap[g8]? = some (.cells #[.int .i64 m, .slice A7 tb.length c7] 61 (0, 0))) := ⟨by rw [hw]; exact blk_put (blk_put HX7.out 0 _ rfl) 1 _ rfl⟩; have HB8 : Aside0 (Below wr.heap.size wr w8) := ⟨by rw [hw]; exact below_set (below_set HB7.out (Nat.le_trans HB6.out.size HG8.out)) (Nat.le_trans HB6.out.size HG8.out)⟩; have HR8 : Aside0 (Kd.R Kd.bool 4 w8 (wr.alloc (.cells #[.int .i64 g.f0, .slice A0 g.f1.length c0] 28)).heap.size (fun z => wr.heap.size ≤ z) (.slice A7 tb.length c7) tb) := ⟨by rw [hw]; exact Kd.R_mono (Kd.R_far (p := ⟨g8, 1, none⟩) (Kd.R_far (p := ⟨g8, 0, none⟩) HR7.out (fun z hz => Nat.ne_of_lt (Nat.lt_of_lt_of_le hz.2.2.1 HG8.out)) _) (fun z hz => Nat.ne_of_lt (Nat.lt_of_lt_of_le hz.2.2.1 HG8.out)) _) (fun z hz => Nat.le_trans HBa.out.size hz.2.1)⟩; clear hw z0_ z1_ f0_ f1_; have z0_ := (blk_cell HX8.out 0).trans rfl; have z1_ := (blk_cell HX8.out 1).trans rfl; have f0_ := blk_frozen HX8.out 0; have f1_ := blk_frozen HX8.out 1)
            | (go_at_call 57; refine (impl_votes_table.calls k1 m A7 c7 tb t _ (Kd.R_reads' HR8.out).2.2 (Kd.R_reads' HR8.out).2.1 HTB.out).mono ?_; rintro e w9 ⟨rfl, hb⟩; have HB9 := Aside0.mk (HB8.out.trans (hb.mono HB8.out.size)); have HX9 := Aside0.mk (blk_below HX8.out hb); have HR9 := Aside0.mk (Kd.R_below HR8.out hb); clear hb z0_ z1_ f0_ f1_; have z0_ := (blk_cell HX9.out 0).trans rfl; have z1_ := (blk_cell HX9.out 1).trans rfl; have f0_ := blk_frozen HX9.out 0; have f1_ := blk_frozen HX9.out 1))
          go_roundg k1
          case measure => have := HK.out; omega
          case rel => exact ⟨x3, x4, j + 1, by congr 1, HH, ⟨by have := HK.out; omega⟩, ⟨HS.out.below HB9.out⟩⟩
        rw [if_pos hcov] at h
        have cb : (Go.bits .and .i64 t want != want) = false := by rw [hcov, bne_self_eq_false]
        replace h := Option.bind_eq_some_iff.mp h
        obtain ⟨⟨f1, f2, has⟩, hf, h⟩ := h
        have HF := Aside0.mk hf
        clear hf
        cases has
        case true =>
          have HH := Aside0.mk (show impl_votes_chambers.l0 k1 x3 x4 want gl (gl.length : Int) ((j + 1 : Nat) : Int) a0_0 l0_1 = some r from h)
          clear h
          go_wp2_with (first
            | (go_at_call 31; refine (impl_Game_votes.calls k1 g.f0 A0 c0 g.f1 m tb _ HGC.out hl0 HV.out).mono ?_; rintro e w6 ⟨v7, rfl, hR, hb⟩; obtain ⟨A7, c7, rfl⟩ := Kd.R_slice hR; have HR6 := Aside0.mk (Kd.R_bound hR); have HB6 := Aside0.mk (HBa.out.trans (hb.mono HBa.out.size)); clear hR hb x0 x1 y0 y1)
            | ((with_reducible refine gate_dst (N := 8) rfl ?_); refine box_event ?hg (N := 8) ?hd (cs := #[.int .i64 0, .slice none 0 0]) (t := 61) ?hr ?_; (case hd => rfl); (case hg => rfl); (case hr => first | (go_simp; done) | (go_simp; rfl)); intro g8 hg8 w7 hbox hb; have HX7 := Aside0.mk hbox; have HG8 := Aside0.mk (Nat.le_of_eq hg8.symm : w6.heap.size ≤ g8); have HB7 := Aside0.mk (HB6.out.trans (hb.mono HB6.out.size)); have HR7 := Aside0.mk (Kd.R_below HR6.out hb); have z0_ := (blk_cell hbox 0).trans rfl; have z1_ := (blk_cell hbox 1).trans rfl; have f0_ := blk_frozen hbox 0; have f1_ := blk_frozen hbox 1; clear hbox hb hg8)
            | ((with_reducible refine gate_store (t := 61) (p := 8) rfl ?_); refine store_event (t := 61) (p := 8) (v := ?vo_w8b) (w1 := ((w7.setCell ⟨g8, 0, none⟩ (.int .i64 m)).setCell ⟨g8, 1, none⟩ (.slice A7 tb.length c7))) ?hg ?ho ?hn ?hr ?_; (case ho => rfl); (case hg => rfl); (case hn => rfl); (case hr => first | (go_simp; done) | (go_simp; rfl)); intro w8 hw; have HX8 : Aside0 (w8.heap[g8]? = some (.cells #[.int .i64 m, .slice A7 tb.length c7] 61 (0, 0))) := ⟨by rw [hw]; exact blk_put (blk_put HX7.out 0 _ rfl) 1 _ rfl⟩; have HB8 : Aside0 (Below wr.heap.size wr w8) := ⟨by rw [hw]; exact below_set (below_set HB7.out (Nat.le_trans HB6.out.size HG8.out)) (Nat.le_trans HB6.out.size HG8.out)⟩; have HR8 : Aside0 (Kd.R Kd.bool 4 w8 (wr.alloc (.cells #[.int .i64 g.f0, .slice A0 g.f1.length c0] 28)).heap.size (fun z => wr.heap.size ≤ z) (.slice A7 tb.length c7) tb) := ⟨by rw [hw]; exact Kd.R_mono (Kd.R_far (p := ⟨g8, 1, none⟩) (Kd.R_far (p := ⟨g8, 0, none⟩) HR7.out (fun z hz => Nat.ne_of_lt (Nat.lt_of_lt_of_le hz.2.2.1 HG8.out)) _) (fun z hz => Nat.ne_of_lt (Nat.lt_of_lt_of_le hz.2.2.1 HG8.out)) _) (fun z hz => Nat.le_trans HBa.out.size hz.2.1)⟩; clear hw z0_ z1_ f0_ f1_; have z0_ := (blk_cell HX8.out 0).trans rfl; have z1_ := (blk_cell HX8.out 1).trans rfl; have f0_ := blk_frozen HX8.out 0; have f1_ := blk_frozen HX8.out 1)
            | (go_at_call 57; refine (impl_votes_table.calls k1 m A7 c7 tb t _ (Kd.R_reads' HR8.out).2.2 (Kd.R_reads' HR8.out).2.1 HTB.out).mono ?_; rintro e w9 ⟨rfl, hb⟩; have HB9 := Aside0.mk (HB8.out.trans (hb.mono HB8.out.size)); have HX9 := Aside0.mk (blk_below HX8.out hb); have HR9 := Aside0.mk (Kd.R_below HR8.out hb); clear hb z0_ z1_ f0_ f1_; have z0_ := (blk_cell HX9.out 0).trans rfl; have z1_ := (blk_cell HX9.out 1).trans rfl; have f0_ := blk_frozen HX9.out 0; have f1_ := blk_frozen HX9.out 1)
            | (go_at_call 59; refine (impl_votes_firstTrade.calls k1 m A7 c7 tb f1 f2 true _ (Kd.R_reads' HR9.out).2.2 (Kd.R_reads' HR9.out).2.1 HF.out).mono ?_; rintro e w10 ⟨vA, vB, rfl, ow, hS1, hS2, hb⟩; obtain ⟨AA, cA, rfl⟩ := Kd.S_slice hS1; obtain ⟨AB, cB, rfl⟩ := Kd.S_slice hS2; have HB10 := Aside0.mk (HB9.out.trans (hb.mono HB9.out.size)); have HX10 := Aside0.mk (blk_below HX9.out hb); have HR10 := Aside0.mk (Kd.R_below HR9.out hb); clear hS1 hS2 hb z0_ z1_ f0_ f1_)
            | ((with_reducible refine gate_dst (N := 10) rfl ?_); refine box_event ?hg (N := 10) ?hd (cs := #[.slice none 0 0, .slice none 0 0]) (t := 86) ?hr ?_; (case hd => rfl); (case hg => rfl); (case hr => first | (go_simp; done) | (go_simp; rfl)); intro g10 hg10 w11 hbox hb; have HXT := Aside0.mk hbox; have HG10 := Aside0.mk (Nat.le_of_eq hg10.symm : w10.heap.size ≤ g10); have HB11 := Aside0.mk (HB10.out.trans (hb.mono HB10.out.size)); have HX11 := Aside0.mk (blk_below HX10.out hb); have HR11 := Aside0.mk (Kd.R_below (Kd.R_bound HR10.out) hb); have HNE := Aside0.mk (Nat.ne_of_lt (Nat.lt_of_lt_of_le (blk_lt HX10.out) HG10.out) : g8 ≠ g10); have z0_ := (blk_cell hbox 0).trans rfl; have z1_ := (blk_cell hbox 1).trans rfl; have f0_ := blk_frozen hbox 0; have f1_ := blk_frozen hbox 1; clear hbox hb hg10)
            | ((with_reducible refine gate_store (t := 86) (p := 10) rfl ?_); refine store_event (t := 86) (p := 10) (v := ?vo_w12b) (w1 := ((w11.setCell ⟨g10, 0, none⟩ (.slice AA f1.length cA)).setCell ⟨g10, 1, none⟩ (.slice AB f2.length cB))) ?hg ?ho ?hn ?hr ?_; (case ho => rfl); (case hg => rfl); (case hn => rfl); (case hr => first | (go_simp; done) | (go_simp; rfl)); intro w12 hw; have HX12 : Aside0 (w12.heap[g8]? = some (.cells #[.int .i64 m, .slice A7 tb.length c7] 61 (0, 0))) := ⟨by rw [hw]; exact blk_far (blk_far HX11.out HNE.out _) HNE.out _⟩; have HB12 : Aside0 (Below wr.heap.size wr w12) := ⟨by rw [hw]; exact below_set (below_set HB11.out (Nat.le_trans HB10.out.size HG10.out)) (Nat.le_trans HB10.out.size HG10.out)⟩; have HR12 : Aside0 (Kd.R Kd.bool 4 w12 (wr.alloc (.cells #[.int .i64 g.f0, .slice A0 g.f1.length c0] 28)).heap.size (fun z => wr.heap.size ≤ z) (.slice A7 tb.length c7) tb) := ⟨by rw [hw]; exact Kd.R_mono (Kd.R_far (p := ⟨g10, 1, none⟩) (Kd.R_far (p := ⟨g10, 0, none⟩) HR11.out (fun z hz => Nat.ne_of_lt (Nat.lt_of_lt_of_le hz.2.2.1 HG10.out)) _) (fun z hz => Nat.ne_of_lt (Nat.lt_of_lt_of_le hz.2.2.1 HG10.out)) _) (fun z hz => hz.1)⟩; clear hw z0_ z1_ f0_ f1_; have z0_ := (blk_cell HX12.out 0).trans rfl; have z1_ := (blk_cell HX12.out 1).trans rfl; have f0_ := blk_frozen HX12.out 0; have f1_ := blk_frozen HX12.out 1))
          go_roundg k1
          case measure => have := HK.out; omega
          case rel => exact ⟨x3, x4, j + 1, by congr 1, HH, ⟨by have := HK.out; omega⟩, ⟨HS.out.below HB12.out⟩⟩
        rw [if_neg Bool.false_ne_true] at h
        by_cases cl3 : x3.length < 4398046511104
        case neg => rw [if_neg cl3] at h; cases h
        rw [if_pos cl3] at h
        by_cases cl4 : x4.length < 17592186044416
        case neg => rw [if_neg cl4] at h; cases h
        rw [if_pos cl4] at h
        have HH := Aside0.mk h
        have CL3 := Aside0.mk (len32 cl3)
        have CL4 := Aside0.mk (len8 cl4)
        clear h cl3 cl4
        go_wp2_with (first
          | (go_at_call 31; refine (impl_Game_votes.calls k1 g.f0 A0 c0 g.f1 m tb _ HGC.out hl0 HV.out).mono ?_; rintro e w6 ⟨v7, rfl, hR, hb⟩; obtain ⟨A7, c7, rfl⟩ := Kd.R_slice hR; have HR6 := Aside0.mk (Kd.R_bound hR); have HB6 := Aside0.mk (HBa.out.trans (hb.mono HBa.out.size)); clear hR hb x0 x1 y0 y1)
          | ((with_reducible refine gate_dst (N := 8) rfl ?_); refine box_event ?hg (N := 8) ?hd (cs := #[.int .i64 0, .slice none 0 0]) (t := 61) ?hr ?_; (case hd => rfl); (case hg => rfl); (case hr => first | (go_simp; done) | (go_simp; rfl)); intro g8 hg8 w7 hbox hb; have HX7 := Aside0.mk hbox; have HG8 := Aside0.mk (Nat.le_of_eq hg8.symm : w6.heap.size ≤ g8); have HB7 := Aside0.mk (HB6.out.trans (hb.mono HB6.out.size)); have HR7 := Aside0.mk (Kd.R_below HR6.out hb); have z0_ := (blk_cell hbox 0).trans rfl; have z1_ := (blk_cell hbox 1).trans rfl; have f0_ := blk_frozen hbox 0; have f1_ := blk_frozen hbox 1; clear hbox hb hg8)
          | ((with_reducible refine gate_store (t := 61) (p := 8) rfl ?_); refine store_event (t := 61) (p := 8) (v := ?vo_w8c) (w1 := ((w7.setCell ⟨g8, 0, none⟩ (.int .i64 m)).setCell ⟨g8, 1, none⟩ (.slice A7 tb.length c7))) ?hg ?ho ?hn ?hr ?_; (case ho => rfl); (case hg => rfl); (case hn => rfl); (case hr => first | (go_simp; done) | (go_simp; rfl)); intro w8 hw; have HX8 : Aside0 (w8.heap[g8]? = some (.cells #[.int .i64 m, .slice A7 tb.length c7] 61 (0, 0))) := ⟨by rw [hw]; exact blk_put (blk_put HX7.out 0 _ rfl) 1 _ rfl⟩; have HB8 : Aside0 (Below wr.heap.size wr w8) := ⟨by rw [hw]; exact below_set (below_set HB7.out (Nat.le_trans HB6.out.size HG8.out)) (Nat.le_trans HB6.out.size HG8.out)⟩; have HR8 : Aside0 (Kd.R Kd.bool 4 w8 (wr.alloc (.cells #[.int .i64 g.f0, .slice A0 g.f1.length c0] 28)).heap.size (fun z => wr.heap.size ≤ z) (.slice A7 tb.length c7) tb) := ⟨by rw [hw]; exact Kd.R_mono (Kd.R_far (p := ⟨g8, 1, none⟩) (Kd.R_far (p := ⟨g8, 0, none⟩) HR7.out (fun z hz => Nat.ne_of_lt (Nat.lt_of_lt_of_le hz.2.2.1 HG8.out)) _) (fun z hz => Nat.ne_of_lt (Nat.lt_of_lt_of_le hz.2.2.1 HG8.out)) _) (fun z hz => Nat.le_trans HBa.out.size hz.2.1)⟩; clear hw z0_ z1_ f0_ f1_; have z0_ := (blk_cell HX8.out 0).trans rfl; have z1_ := (blk_cell HX8.out 1).trans rfl; have f0_ := blk_frozen HX8.out 0; have f1_ := blk_frozen HX8.out 1)
          | (go_at_call 57; refine (impl_votes_table.calls k1 m A7 c7 tb t _ (Kd.R_reads' HR8.out).2.2 (Kd.R_reads' HR8.out).2.1 HTB.out).mono ?_; rintro e w9 ⟨rfl, hb⟩; have HB9 := Aside0.mk (HB8.out.trans (hb.mono HB8.out.size)); have HX9 := Aside0.mk (blk_below HX8.out hb); have HR9 := Aside0.mk (Kd.R_below HR8.out hb); clear hb z0_ z1_ f0_ f1_; have z0_ := (blk_cell HX9.out 0).trans rfl; have z1_ := (blk_cell HX9.out 1).trans rfl; have f0_ := blk_frozen HX9.out 0; have f1_ := blk_frozen HX9.out 1)
          | (go_at_call 59; refine (impl_votes_firstTrade.calls k1 m A7 c7 tb f1 f2 false _ (Kd.R_reads' HR9.out).2.2 (Kd.R_reads' HR9.out).2.1 HF.out).mono ?_; rintro e w10 ⟨vA, vB, rfl, ow, hS1, hS2, hb⟩; obtain ⟨AA, cA, rfl⟩ := Kd.S_slice hS1; obtain ⟨AB, cB, rfl⟩ := Kd.S_slice hS2; have HB10 := Aside0.mk (HB9.out.trans (hb.mono HB9.out.size)); have HX10 := Aside0.mk (blk_below HX9.out hb); have HR10 := Aside0.mk (Kd.R_below HR9.out hb); clear hS1 hS2 hb z0_ z1_ f0_ f1_)
          | ((with_reducible refine gate_dst (N := 10) rfl ?_); refine box_event ?hg (N := 10) ?hd (cs := #[.slice none 0 0, .slice none 0 0]) (t := 86) ?hr ?_; (case hd => rfl); (case hg => rfl); (case hr => first | (go_simp; done) | (go_simp; rfl)); intro g10 hg10 w11 hbox hb; have HXT := Aside0.mk hbox; have HG10 := Aside0.mk (Nat.le_of_eq hg10.symm : w10.heap.size ≤ g10); have HB11 := Aside0.mk (HB10.out.trans (hb.mono HB10.out.size)); have HX11 := Aside0.mk (blk_below HX10.out hb); have HR11 := Aside0.mk (Kd.R_below (Kd.R_bound HR10.out) hb); have HNE := Aside0.mk (Nat.ne_of_lt (Nat.lt_of_lt_of_le (blk_lt HX10.out) HG10.out) : g8 ≠ g10); have z0_ := (blk_cell hbox 0).trans rfl; have z1_ := (blk_cell hbox 1).trans rfl; have f0_ := blk_frozen hbox 0; have f1_ := blk_frozen hbox 1; clear hbox hb hg10)
          | ((with_reducible refine gate_store (t := 86) (p := 10) rfl ?_); refine store_event (t := 86) (p := 10) (v := ?vo_w12c) (w1 := ((w11.setCell ⟨g10, 0, none⟩ (.slice AA f1.length cA)).setCell ⟨g10, 1, none⟩ (.slice AB f2.length cB))) ?hg ?ho ?hn ?hr ?_; (case ho => rfl); (case hg => rfl); (case hn => rfl); (case hr => first | (go_simp; done) | (go_simp; rfl)); intro w12 hw; have HX12 : Aside0 (w12.heap[g8]? = some (.cells #[.int .i64 m, .slice A7 tb.length c7] 61 (0, 0))) := ⟨by rw [hw]; exact blk_far (blk_far HX11.out HNE.out _) HNE.out _⟩; have HB12 : Aside0 (Below wr.heap.size wr w12) := ⟨by rw [hw]; exact below_set (below_set HB11.out (Nat.le_trans HB10.out.size HG10.out)) (Nat.le_trans HB10.out.size HG10.out)⟩; have HR12 : Aside0 (Kd.R Kd.bool 4 w12 (wr.alloc (.cells #[.int .i64 g.f0, .slice A0 g.f1.length c0] 28)).heap.size (fun z => wr.heap.size ≤ z) (.slice A7 tb.length c7) tb) := ⟨by rw [hw]; exact Kd.R_mono (Kd.R_far (p := ⟨g10, 1, none⟩) (Kd.R_far (p := ⟨g10, 0, none⟩) HR11.out (fun z hz => Nat.ne_of_lt (Nat.lt_of_lt_of_le hz.2.2.1 HG10.out)) _) (fun z hz => Nat.ne_of_lt (Nat.lt_of_lt_of_le hz.2.2.1 HG10.out)) _) (fun z hz => hz.1)⟩; clear hw z0_ z1_ f0_ f1_; have z0_ := (blk_cell HX12.out 0).trans rfl; have z1_ := (blk_cell HX12.out 1).trans rfl; have f0_ := blk_frozen HX12.out 0; have f1_ := blk_frozen HX12.out 1)
          | ((with_reducible refine gate_builtin (b := .append) (xs := #[.tmp 46, .tmp 48]) rfl ?_); at_builtin; have HS12 := Aside0.mk (HS.out.below HB12.out); refine Kd.N_append k61 (w0 := w12) w.heap.size rfl (.tmp 46) (.tmp 48) 58 61 (.agg #[(.int .i64 0), (.slice none 0 0)]) 32 rfl Tryz.underlying58 info61 rfl (by decide) (by decide) u3 x3 ⟨m, tb⟩ [.int .i64 m, .slice A7 tb.length c7] (fun z => w.heap.size ≤ z ∧ z ≠ gb ∧ some z ≠ u4.ownBlock ∧ (z < w4.heap.size ∨ w5.heap.size ≤ z)) (fun z => wr.heap.size ≤ z) rfl rfl (k61_mkF _ _ ⟨m, tb⟩ (Kd.R_reads' HR12.out).2.1 (Kd.R_F HR12.out)) (fun z hz => HS.out.fresh z hz) (fun z hz => (HS12.out.fresh z hz).1) HS12.out.N3 (Below.refl _ _) HS12.out.B.size CL3.out ?_; intro v8 w13 ho hb hg hat; have HS13 := Aside0.mk (HS12.out.app3 ho hb hg); clear ho hb hg hat)
          | ((with_reducible refine gate_builtin (b := .append) (xs := #[.tmp 50, .tmp 52]) rfl ?_); at_builtin; refine Kd.R_append (Kd.int .i64) (w0 := w13) w.heap.size rfl (.tmp 50) (.tmp 52) 65 3 (.int .i64 0) 8 rfl Tryz.underlying65 info3 rfl (by decide) (by decide) u4 x4 t [.int .i64 t] (fun z => z ≠ gb ∧ (z < w4.heap.size ∨ w5.heap.size ≤ z)) (fun _ => False) rfl rfl rfl (fun _ hk => hk.elim) (fun z hz => ⟨(HS13.out.fresh z hz).1.2.1, (HS13.out.fresh z hz).1.2.2.2⟩) HS13.out.R4 (Below.refl _ _) HS13.out.B.size CL4.out ?_; intro v9 w14 ho hb hg hat; have HS14 := Aside0.mk (HS13.out.app4 ho hb hg hat); clear ho hb hg hat))
        go_roundg k1
        case measure => have := HK.out; omega
        case rel => exact ⟨x3 ++ [⟨m, tb⟩], x4 ++ [t], j + 1, by congr 1, HH, ⟨by have := HK.out; omega⟩, HS14⟩
      · have hltz : ¬ (j : Int) < (gl.length : Int) := fun e => hlt (Int.ofNat_lt.1 e)
        rw [if_neg hltz] at h
        have hltb : decide ((j : Int) < (gl.length : Int)) = false := decide_eq_false hltz
        have HH := Aside0.mk h
        clear h
        obtain ⟨A4, c4, e4⟩ := Kd.R_slice HS.out.R4
        subst e4
        obtain ⟨A3, c3, e3⟩ := Kd.N_slice HS.out.N3
        subst e3
        obtain ⟨ji, hji⟩ : ∃ j_ : Int, (shl .i64 1 (l0_1.length : Int)) = j_ := ⟨_, rfl⟩
        have hji_ : (IntKind.i64.wrap (1 * 2 ^ min (l0_1.length : Int).toNat 64)) = ji := hji
        have hjiz : (l0_1.length : Int) ≤ 64 → (IntKind.i64.wrap (1 * 2 ^ (l0_1.length : Int).toNat)) = ji := shl_small hji
        have hjip : (IntKind.i64.wrap (1 * 2 ^ min l0_1.length 64)) = ji := hji_
        have hjiq : (l0_1.length : Int) ≤ 64 → (IntKind.i64.wrap (1 * 2 ^ l0_1.length)) = ji := hjiz
        have hjir : (IntKind.i64.wrap (2 ^ min l0_1.length 64)) = ji := by have h_ := hjip; rw [Int.one_mul] at h_; exact h_
        have hjis : (l0_1.length : Int) ≤ 64 → (IntKind.i64.wrap (2 ^ l0_1.length)) = ji := fun hle_ => by have h_ := hjiq hle_; rw [Int.one_mul] at h_; exact h_
        have hjiu : (IntKind.i64.wrap (2 ^ min (l0_1.length : Int).toNat 64)) = ji := by have h_ := hji_; rw [Int.one_mul] at h_; exact h_
        have hjiv : (l0_1.length : Int) ≤ 64 → (IntKind.i64.wrap (2 ^ (l0_1.length : Int).toNat)) = ji := fun hle_ => by have h_ := hjiz hle_; rw [Int.one_mul] at h_; exact h_
        have hjiy : (wrap64 (1 * 2 ^ min (l0_1.length : Int).toNat 64)) = ji := (i64_w _).symm.trans hji_
        have hjix : (l0_1.length : Int) ≤ 64 → (wrap64 (1 * 2 ^ (l0_1.length : Int).toNat)) = ji := fun h_ => (i64_w _).symm.trans (hjiz h_)
        obtain ⟨wo, rfl⟩ : ∃ wo, wo = wr := ⟨wr, rfl⟩
        go_wp2
        go_loopg [12] k1 (fun kq v12 wr => ∃ q : Int, v12 = .int .i64 q ∧ Aside0 (impl_votes_chambers.l1 kq x3 x4 want q a0_0 l0_1 = some r) ∧ Aside0 (kq ≤ k1) ∧ Aside0 (Below wo.heap.size wo wr))
        case atStart => exact ⟨1, rfl, HH, ⟨Nat.le_refl _⟩, ⟨Below.refl _ _⟩⟩
        case round =>
          clear HH
          obtain ⟨q, rfl, HA, HK1, HBo⟩ := hrel
          cases gk with
          | zero => exact absurd HA.out (by simp [impl_votes_chambers.l1])
          | succ k2 =>
            have h := HA.out
            clear HA
            simp only [impl_votes_chambers.l1] at h
            rw [hji] at h
            replace h := Option.bind_eq_some_iff.mp h
            obtain ⟨⟨ix, okb⟩, hch, h⟩ := h
            have HCH := Aside0.mk hch
            have HS1 := Aside0.mk (HS.out.below HBo.out)
            have z0_ := (blk_cell HS1.out.X 0).trans rfl
            have z1_ := (blk_cell HS1.out.X 1).trans rfl
            have f0_ := blk_frozen HS1.out.X 0
            have f1_ := blk_frozen HS1.out.X 1
            clear hch
            cases okb
            case false =>
              have HH := Aside0.mk (show impl_votes_chambers.l1 k2 x3 x4 want (wrap64 (q + 1)) a0_0 l0_1 = some r from h)
              clear h
              go_wp2_with ((with_reducible refine gate_callee (f := 60) rfl ?_); refine goesL_ (some 66) rfl rfl Tryz.func60 (by kernel_rfl) rfl #[.slice A4 x4.length c4, .int .i64 0, .int .i64 q, .int .i64 (wrap64 (ji - 1)), .int .i64 want] rfl (by (try simp only [List.map_toArray, List.map_cons, List.map_nil]); first | done | (simp only [hji]; rfl) | rfl) ?_; (with_reducible refine (impl_chosen.calls k2 A4 c4 x4 0 q (wrap64 (ji - 1)) want ix false _ ?side1 ?side2 HCH.out).mono ?_); (case side1 => exact (Kd.R_reads' HS1.out.R4).2.2); (case side2 => exact (Kd.R_reads' HS1.out.R4).2.1); rintro e w20 ⟨v20, rfl, hR, hb⟩; refine ⟨_, rfl, ?_⟩; obtain ⟨A20, c20, rfl⟩ := Kd.R_slice hR; have HR20 := Aside0.mk hR; have HB20 := Aside0.mk (HBo.out.trans (hb.mono HBo.out.size)); have HS20 := Aside0.mk (HS1.out.below hb); clear hR hb z0_ z1_ f0_ f1_)
              go_roundg k2
              case measure => have := HK1.out; omega
              case rel => exact ⟨wrap64 (q + 1), by first | rfl | (simp; done) | (simp [*]; done), HH, ⟨by have := HK1.out; omega⟩, HB20⟩
            case true =>
              have HH := Aside0.mk (show impl_votes_chambers.l2 k2 x3 [] ix (ix.length : Int) 0 = some r from h)
              clear h
              go_wp2_with (first
                | ((with_reducible refine gate_callee (f := 60) rfl ?_); refine goesL_ (some 66) rfl rfl Tryz.func60 (by kernel_rfl) rfl #[.slice A4 x4.length c4, .int .i64 0, .int .i64 q, .int .i64 (wrap64 (ji - 1)), .int .i64 want] rfl (by (try simp only [List.map_toArray, List.map_cons, List.map_nil]); first | done | (simp only [hji]; rfl) | rfl) ?_; (with_reducible refine (impl_chosen.calls k2 A4 c4 x4 0 q (wrap64 (ji - 1)) want ix true _ ?side1 ?side2 HCH.out).mono ?_); (case side1 => exact (Kd.R_reads' HS1.out.R4).2.2); (case side2 => exact (Kd.R_reads' HS1.out.R4).2.1); rintro e w20 ⟨v20, rfl, hR, hb⟩; refine ⟨_, rfl, ?_⟩; obtain ⟨A20, c20, rfl⟩ := Kd.R_slice hR; have HR20 := Aside0.mk hR; have HB20 := Aside0.mk (HBo.out.trans (hb.mono HBo.out.size)); have HS20 := Aside0.mk (HS1.out.below hb); clear hR hb z0_ z1_ f0_ f1_)
                | ((with_reducible refine gate_dst (N := 71) rfl ?_); refine Kd.N_lit k61 _ 61 ?hg (N' := 71) ?hd (xs := ([] : List S61)) (inner := []) (ok := fun _ => True) (okp := fun _ => False) ?hr ?hp (fun _ hk => hk.elim) trivial (Below.refl _ _) (Nat.le_refl _) (by simp) ?_; (case hd => rfl); (case hg => rfl); (case hr => first | (go_simp; done) | (go_simp; rfl)); (case hp => exact Reps.none _ _); intro v15 w21 ho hb _ _; have HN21 := Aside0.mk ho; have HB21 := Aside0.mk hb; clear ho hb))
              have HF3 := Aside0.mk (Kd.F_mono (Kd.F_bound (Kd.N_F HS20.out.N3)) (ok' := fun z => w.heap.size ≤ z ∧ z < w20.heap.size) (fun z hz => ⟨hz.1.1, hz.2⟩))
              have HCI := Aside0.mk (Kd.R_reads' HR20.out).2.2
              have hxl := Kd.C_max HCI.out
              have HO0 := Aside0.mk (fun z he => Kd.N_base HN21.out z he : ∀ z, v15.ownBlock = some z → w20.heap.size ≤ z)
              have HN0 := Aside0.mk (N_re (ok' := fun z => w.heap.size ≤ z) (Kd.N_lower HN21.out HS20.out.B.size) (fun z he => Nat.le_trans HS20.out.B.size (HO0.out z he)))
              clear HR20 HN21 hji hji_ hjiz hjip hjiq hjir hjis hjiu hjiv hjiy hjix
              go_loopg [15, 74] k2 (fun kq v15 v74 wr => ∃ (y : List S61) (i : Nat), v74 = .int .i64 i ∧ Aside0 (impl_votes_chambers.l2 kq x3 y ix (ix.length : Int) (i : Int) = some r) ∧ Aside0 (kq ≤ k2) ∧ Aside0 (Kd.N k61 61 wr w.heap.size (fun z => w.heap.size ≤ z) v15 y) ∧ Aside0 (∀ z, v15.ownBlock = some z → w20.heap.size ≤ z) ∧ Aside0 (Below w20.heap.size w20 wr))
              case atStart => exact ⟨[], 0, rfl, HH, ⟨Nat.le_refl _⟩, HN0, HO0, HB21⟩
              case round =>
                clear HH HN0 HO0 HB21
                obtain ⟨y, i, rfl, HA, HK2, HN15, HO15, HBi⟩ := hrel
                cases gk with
                | zero => exact absurd HA.out (by simp [impl_votes_chambers.l2])
                | succ k3 =>
                  have h := HA.out
                  clear HA
                  simp only [impl_votes_chambers.l2] at h
                  by_cases hil : i < ix.length
                  · have hiz : (i : Int) < (ix.length : Int) := Int.ofNat_lt.2 hil
                    have hizb : decide ((i : Int) < (ix.length : Int)) = true := decide_eq_true hiz
                    have hw1 : wrap64 ((i : Int) + 1) = ((i + 1 : Nat) : Int) := om3 hil hxl
                    rw [if_pos hiz, if_pos (Int.natCast_nonneg _), if_pos hiz, hw1] at h
                    obtain ⟨ai, e, xi⟩ := Kd.at_int (Kd.C_below HCI.out HBi.out) (i : Int) (Int.natCast_nonneg _) hiz
                    subst e
                    rw [Int.toNat_natCast] at xi
                    generalize rd ix (i : Int) = p at h xi
                    by_cases p0 : 0 ≤ p
                    case neg => rw [if_neg p0] at h; cases h
                    rw [if_pos p0] at h
                    by_cases p1 : p < (x3.length : Int)
                    case neg => rw [if_neg p1] at h; cases h
                    rw [if_pos p1] at h
                    by_cases cl : y.length < 4398046511104
                    case neg => rw [if_neg cl] at h; cases h
                    rw [if_pos cl] at h
                    obtain ⟨ad, cs, e, hcl, hK, hcc, _⟩ := Kd.F_get (Kd.F_below HF3.out HBi.out) z61 p p0 p1
                    subst e
                    have hrd : rd_T61 x3 p = x3.getD p.toNat z61 := rfl
                    rw [hrd] at h
                    generalize x3.getD p.toNat z61 = g at hK h
                    obtain ⟨A0, c0, rfl, hl0, hgF⟩ := k61_openF hK
                    have x0 : wr.cell? (ad.add (p.toNat * 2)) = some (.int .i64 g.f0) := hcc 0 _ rfl
                    have x1 : wr.cell? ⟨(ad.add (p.toNat * 2)).block, (ad.add (p.toNat * 2)).off + 1, none⟩ = some (.slice A0 g.f1.length c0) := by rw [← add_field _ _ 1 (by decide)]; exact hcc 1 _ rfl
                    have p0b : decide (0 ≤ p) = true := decide_eq_true p0
                    have p1b : decide (p < (x3.length : Int)) = true := decide_eq_true p1
                    have HH := Aside0.mk h
                    have HK := Aside0.mk hK
                    have CL := Aside0.mk (len32 cl)
                    have HSZ := Aside0.mk (Nat.le_trans HS20.out.B.size HBi.out.size)
                    clear h hK hcc hcl cl hgF hrd
                    go_wp2_with ((with_reducible refine gate_builtin (b := .append) (xs := #[.tmp 78, .tmp 83]) rfl ?_); at_builtin; refine Kd.N_append k61 (w0 := wr) w.heap.size rfl (.tmp 78) (.tmp 83) 58 61 (.agg #[(.int .i64 0), (.slice none 0 0)]) 32 rfl Tryz.underlying58 info61 rfl (by decide) (by decide) u15 y g [.int .i64 g.f0, .slice A0 g.f1.length c0] (fun z => w.heap.size ≤ z) (fun z => w.heap.size ≤ z ∧ z < w20.heap.size) rfl rfl HK.out (fun z hz => ⟨hz.1, fun he => Nat.lt_irrefl _ (Nat.lt_of_lt_of_le hz.2 (HO15.out z he.symm))⟩) (fun z hz => Nat.le_trans HSZ.out hz) HN15.out (Below.refl _ _) HSZ.out CL.out ?_; intro v16 w22 ho hb hg hat; have HN16 := Aside0.mk ho; have HB16 := Aside0.mk hb; have HG16 := Aside0.mk hg; have HAT := Aside0.mk hat; clear ho hb hg hat)
                    go_roundg k3
                    case measure => have := HK2.out; omega
                    case rel => exact ⟨y ++ [⟨g.f0, g.f1⟩], i + 1, by congr 1, HH, ⟨by have := HK2.out; omega⟩, HN16, ⟨own_next HO15.out HAT.out HBi.out.size⟩, ⟨HBi.out.trans (below_grown_ HB16.out HG16.out HO15.out HBi.out.size)⟩⟩
                  · have hiz : ¬ (i : Int) < (ix.length : Int) := fun e => hil (Int.ofNat_lt.1 e)
                    have hizb : decide ((i : Int) < (ix.length : Int)) = false := decide_eq_false hiz
                    rw [if_neg hiz] at h
                    obtain rfl := Option.some.inj h
                    clear h
                    go_wp2
                    go_ret
                    exact ⟨_, rfl, N_V_ HN15.out, HS20.out.B.trans (HBi.out.mono HS20.out.B.size)⟩
end Go.Proofs.YtmbkmabpebjboaaGreat.Q
end
section
namespace Go.Proofs.YtmbkmabpebjboaaGreat.Q
open Go.RowKit Go.Proofs.YtmbkmabpebjboaaGreatW.PrintWords Go.Proofs.YtmbkmabpebjboaaGreatW.PrintLast Go.Proofs.YtmbkmabpebjboaaGreatW.PrintMore
attribute [local go_sem] max2_int min2_int max_two min_two max_three min_three max_four min_four
set_option linter.unusedVariables false
set_option linter.unusedSimpArgs false
def laws_eqGame.f (k : Nat) (a0_0 : Int) (l0_1 : List (List Int)) (a1_0 : Int) (l1_1 : List (List Int)) : Option (Bool) := if a0_0 = a1_0 then ((laws_eqIntSS.f k l0_1 l1_1).bind fun t455 => (if t455 = true then (some true) else (some false))) else (some false)
set_option maxHeartbeats 8000000 in
set_option maxRecDepth 100000 in
theorem laws_eqGame.calls (k : Nat) (a0_0 : Int) (A0_1 : Option Addr) (c0_1 : Nat) (l0_1 : List (List Int)) (a1_0 : Int) (A1_1 : Option Addr) (c1_1 : Nat) (l1_1 : List (List Int)) (r : Bool) (w : World) (hr0_1 : Kd.C (Kd.slice 3 (Kd.int .i64)) w A0_1 l0_1.length l0_1) (hc0_1 : l0_1.length ≤ c0_1) (hr1_1 : Kd.C (Kd.slice 3 (Kd.int .i64)) w A1_1 l1_1.length l1_1) (hc1_1 : l1_1.length ≤ c1_1) (h : laws_eqGame.f k a0_0 l0_1 a1_0 l1_1 = some r) :
  Calls Tryz.prog 10 #[.agg #[.int .i64 a0_0, .slice A0_1 l0_1.length c0_1], .agg #[.int .i64 a1_0, .slice A1_1 l1_1.length c1_1]] w fun e w' => e = .returned (.bool r) ∧ Below w.heap.size w w' := by
 have hu28 := Tryz.underlying28
 have HR0_1 := Aside0.mk hr0_1
 have HC0_1 := Aside0.mk hc0_1
 clear hr0_1 hc0_1
 have HR1_1 := Aside0.mk hr1_1
 have HC1_1 := Aside0.mk hc1_1
 clear hr1_1 hc1_1
 have HB := Aside0.mk (Below.refl w.heap.size w)
 have H : (if a0_0 = a1_0 then ((laws_eqIntSS.f k l0_1 l1_1).bind fun t455 => (if t455 = true then (some true) else (some false))) else (some false)) = some r := h
 clear h
 by_cases c3 : a0_0 = a1_0
 rotate_left
 ·rw [if_neg c3] at H
  have c3b0 : (a0_0 == a1_0) = false := beq_eq_false_iff_ne.mpr c3
  have c3b1 : (a0_0 != a1_0) = true := bne_iff_ne.mpr c3
  obtain rfl := Option.some.inj H
  go_enter Tryz.func10, Tryz.ntmps10
  go_wp2_with (first | ((with_reducible refine gate_dst (N := 2) rfl ?_); refine zq 2 #[.int .i64 a0_0, .slice A0_1 l0_1.length c0_1] 28 ?_; intro gb453 hg w16 hbox hb; have n2_ := Aside0.mk ((by rw [hg]; exact (below_size (zh HB.out)) : w.heap.size ≤ gb453)); replace HB := Aside0.mk (below_step (zh HB.out) hb); have BK453 := Aside0.mk hbox; have GW453 := n2_; have GE453 := n2_; clear n2_ hb hbox hg) | ((with_reducible refine gate_dst (N := 3) rfl ?_); refine zq 3 #[.int .i64 a1_0, .slice A1_1 l1_1.length c1_1] 28 ?_; intro gb454 hg w17 hbox hb; have n0_ := Aside0.mk (blk_below (g := gb453) (o := .cells #[.int .i64 a0_0, .slice A0_1 l0_1.length c0_1] 28 (0, 0)) (zb BK453.out) hb); have n1_ := Aside0.mk (below_step (zh HB.out) hb); have n2_ := Aside0.mk (hbox); have n3_ := Aside0.mk ((by rw [hg]; exact (below_size (zh HB.out)) : w.heap.size ≤ gb454)); have n4_ := Aside0.mk ((by rw [hg]; exact (below_size (zh HB.out)) : w.heap.size ≤ gb454)); have n5_ := Aside0.mk ((by rw [hg]; exact Nat.ne_of_lt (blk_lt (g := gb453) (o := .cells #[.int .i64 a0_0, .slice A0_1 l0_1.length c0_1] 28 (0, 0)) (zb BK453.out)) : gb453 ≠ gb454)); have n6_ := Aside0.mk ((by rw [hg]; exact Nat.ne_of_gt (blk_lt (g := gb453) (o := .cells #[.int .i64 a0_0, .slice A0_1 l0_1.length c0_1] 28 (0, 0)) (zb BK453.out)) : gb454 ≠ gb453)); clear BK453; clear HB; have BK453 := n0_; have HB := n1_; have BK454 := n2_; have GW454 := n3_; have GE454 := n4_; have NB453_454 := n5_; have NB454_453 := n6_; clear n0_ n1_ n2_ n3_ n4_ n5_ n6_; clear hb hbox hg; have hnb18 := NB453_454.out; have hnc18 := NB454_453.out; have hcz19_0 : w17.cell? ⟨gb453, 0, none⟩ = some (.int .i64 a0_0) := (blk_cell BK453.out 0).trans rfl; have hcz19_1 : w17.cell? ⟨gb453, 1, none⟩ = some (.slice A0_1 l0_1.length c0_1) := (blk_cell BK453.out 1).trans rfl; have hfz19_0 := blk_frozen BK453.out 0; have hfz19_1 := blk_frozen BK453.out 1; have hcz20_0 : w17.cell? ⟨gb454, 0, none⟩ = some (.int .i64 a1_0) := (blk_cell BK454.out 0).trans rfl; have hcz20_1 : w17.cell? ⟨gb454, 1, none⟩ = some (.slice A1_1 l1_1.length c1_1) := (blk_cell BK454.out 1).trans rfl; have hfz20_0 := blk_frozen BK454.out 0; have hfz20_1 := blk_frozen BK454.out 1))
  go_ret
  exact ⟨by first | rfl | (simp [*, errW_none, errW_some] <;> rfl), zh HB.out⟩
 rw [if_pos c3] at H
 have c3b0 : (a0_0 == a1_0) = true := beq_iff_eq.mpr c3
 have c3b1 : (a0_0 != a1_0) = false := bne_eq_false_iff_eq.mpr c3
 clear c3
 replace H := Option.bind_eq_some_iff.mp H
 obtain ⟨t455, A40, H⟩ := H
 replace H : (if t455 = true then (some true) else (some false)) = some r := H
 have A4 := Aside0.mk A40
 clear A40
 by_cases c5 : t455 = true
 ·subst c5
  have H1 : (some true) = some r := by rw [if_pos rfl] at H; exact H
  clear H
  have H := H1
  clear H1
  obtain rfl := Option.some.inj H
  go_enter Tryz.func10, Tryz.ntmps10
  go_wp2_with (first | ((with_reducible refine gate_dst (N := 2) rfl ?_); refine zq 2 #[.int .i64 a0_0, .slice A0_1 l0_1.length c0_1] 28 ?_; intro gb453 hg w6 hbox hb; have n2_ := Aside0.mk ((by rw [hg]; exact (below_size (zh HB.out)) : w.heap.size ≤ gb453)); replace HB := Aside0.mk (below_step (zh HB.out) hb); have BK453 := Aside0.mk hbox; have GW453 := n2_; have GE453 := n2_; clear n2_ hb hbox hg) | ((with_reducible refine gate_dst (N := 3) rfl ?_); refine zq 3 #[.int .i64 a1_0, .slice A1_1 l1_1.length c1_1] 28 ?_; intro gb454 hg w7 hbox hb; have n0_ := Aside0.mk (blk_below (g := gb453) (o := .cells #[.int .i64 a0_0, .slice A0_1 l0_1.length c0_1] 28 (0, 0)) (zb BK453.out) hb); have n1_ := Aside0.mk (below_step (zh HB.out) hb); have n2_ := Aside0.mk (hbox); have n3_ := Aside0.mk ((by rw [hg]; exact (below_size (zh HB.out)) : w.heap.size ≤ gb454)); have n4_ := Aside0.mk ((by rw [hg]; exact (below_size (zh HB.out)) : w.heap.size ≤ gb454)); have n5_ := Aside0.mk ((by rw [hg]; exact Nat.ne_of_lt (blk_lt (g := gb453) (o := .cells #[.int .i64 a0_0, .slice A0_1 l0_1.length c0_1] 28 (0, 0)) (zb BK453.out)) : gb453 ≠ gb454)); have n6_ := Aside0.mk ((by rw [hg]; exact Nat.ne_of_gt (blk_lt (g := gb453) (o := .cells #[.int .i64 a0_0, .slice A0_1 l0_1.length c0_1] 28 (0, 0)) (zb BK453.out)) : gb454 ≠ gb453)); clear BK453; clear HB; have BK453 := n0_; have HB := n1_; have BK454 := n2_; have GW454 := n3_; have GE454 := n4_; have NB453_454 := n5_; have NB454_453 := n6_; clear n0_ n1_ n2_ n3_ n4_ n5_ n6_; clear hb hbox hg; have hnb8 := NB453_454.out; have hnc8 := NB454_453.out; have hcz9_0 : w7.cell? ⟨gb453, 0, none⟩ = some (.int .i64 a0_0) := (blk_cell BK453.out 0).trans rfl; have hcz9_1 : w7.cell? ⟨gb453, 1, none⟩ = some (.slice A0_1 l0_1.length c0_1) := (blk_cell BK453.out 1).trans rfl; have hfz9_0 := blk_frozen BK453.out 0; have hfz9_1 := blk_frozen BK453.out 1; have hcz10_0 : w7.cell? ⟨gb454, 0, none⟩ = some (.int .i64 a1_0) := (blk_cell BK454.out 0).trans rfl; have hcz10_1 : w7.cell? ⟨gb454, 1, none⟩ = some (.slice A1_1 l1_1.length c1_1) := (blk_cell BK454.out 1).trans rfl; have hfz10_0 := blk_frozen BK454.out 0; have hfz10_1 := blk_frozen BK454.out 1) | ((with_reducible refine gate_callee (f := 33) rfl ?_); refine zl 14 Tryz.func33 #[.slice A0_1 l0_1.length c0_1, .slice A1_1 l1_1.length c1_1] ?_; (with_reducible refine (laws_eqIntSS.calls k _ _ l0_1 _ _ l1_1 true _ ?side1 ?side2 ?side3 ?side4 A4.out).mono ?_); (case side1 => repeat (first | exact (Kd.C_below HR0_1.out HB.out) | (with_reducible refine Kd.C_alloc ?_ _) | (with_reducible refine Kd.C_drewN ?_ _) | (with_reducible refine Kd.C_drew ?_))); (case side2 => exact HC0_1.out); (case side3 => repeat (first | exact (Kd.C_below HR1_1.out HB.out) | (with_reducible refine Kd.C_alloc ?_ _) | (with_reducible refine Kd.C_drewN ?_ _) | (with_reducible refine Kd.C_drew ?_))); (case side4 => exact HC1_1.out); rintro e w' ⟨rfl, ⟨nd, rfl⟩⟩; refine ⟨_, rfl, ?_⟩))
  go_ret
  exact ⟨by first | rfl | (simp [*, errW_none, errW_some] <;> rfl), zh HB.out⟩
 replace c5 := Bool.eq_false_iff.mpr c5
 subst c5
 have H1 : (some false) = some r := by rw [if_neg (show ¬ (false = true) by decide)] at H; exact H
 clear H
 have H := H1
 clear H1
 obtain rfl := Option.some.inj H
 go_enter Tryz.func10, Tryz.ntmps10
 go_wp2_with (first | ((with_reducible refine gate_dst (N := 2) rfl ?_); refine zq 2 #[.int .i64 a0_0, .slice A0_1 l0_1.length c0_1] 28 ?_; intro gb453 hg w11 hbox hb; have n2_ := Aside0.mk ((by rw [hg]; exact (below_size (zh HB.out)) : w.heap.size ≤ gb453)); replace HB := Aside0.mk (below_step (zh HB.out) hb); have BK453 := Aside0.mk hbox; have GW453 := n2_; have GE453 := n2_; clear n2_ hb hbox hg) | ((with_reducible refine gate_dst (N := 3) rfl ?_); refine zq 3 #[.int .i64 a1_0, .slice A1_1 l1_1.length c1_1] 28 ?_; intro gb454 hg w12 hbox hb; have n0_ := Aside0.mk (blk_below (g := gb453) (o := .cells #[.int .i64 a0_0, .slice A0_1 l0_1.length c0_1] 28 (0, 0)) (zb BK453.out) hb); have n1_ := Aside0.mk (below_step (zh HB.out) hb); have n2_ := Aside0.mk (hbox); have n3_ := Aside0.mk ((by rw [hg]; exact (below_size (zh HB.out)) : w.heap.size ≤ gb454)); have n4_ := Aside0.mk ((by rw [hg]; exact (below_size (zh HB.out)) : w.heap.size ≤ gb454)); have n5_ := Aside0.mk ((by rw [hg]; exact Nat.ne_of_lt (blk_lt (g := gb453) (o := .cells #[.int .i64 a0_0, .slice A0_1 l0_1.length c0_1] 28 (0, 0)) (zb BK453.out)) : gb453 ≠ gb454)); have n6_ := Aside0.mk ((by rw [hg]; exact Nat.ne_of_gt (blk_lt (g := gb453) (o := .cells #[.int .i64 a0_0, .slice A0_1 l0_1.length c0_1] 28 (0, 0)) (zb BK453.out)) : gb454 ≠ gb453)); clear BK453; clear HB; have BK453 := n0_; have HB := n1_; have BK454 := n2_; have GW454 := n3_; have GE454 := n4_; have NB453_454 := n5_; have NB454_453 := n6_; clear n0_ n1_ n2_ n3_ n4_ n5_ n6_; clear hb hbox hg; have hnb13 := NB453_454.out; have hnc13 := NB454_453.out; have hcz14_0 : w12.cell? ⟨gb453, 0, none⟩ = some (.int .i64 a0_0) := (blk_cell BK453.out 0).trans rfl; have hcz14_1 : w12.cell? ⟨gb453, 1, none⟩ = some (.slice A0_1 l0_1.length c0_1) := (blk_cell BK453.out 1).trans rfl; have hfz14_0 := blk_frozen BK453.out 0; have hfz14_1 := blk_frozen BK453.out 1; have hcz15_0 : w12.cell? ⟨gb454, 0, none⟩ = some (.int .i64 a1_0) := (blk_cell BK454.out 0).trans rfl; have hcz15_1 : w12.cell? ⟨gb454, 1, none⟩ = some (.slice A1_1 l1_1.length c1_1) := (blk_cell BK454.out 1).trans rfl; have hfz15_0 := blk_frozen BK454.out 0; have hfz15_1 := blk_frozen BK454.out 1) | ((with_reducible refine gate_callee (f := 33) rfl ?_); refine zl 14 Tryz.func33 #[.slice A0_1 l0_1.length c0_1, .slice A1_1 l1_1.length c1_1] ?_; (with_reducible refine (laws_eqIntSS.calls k _ _ l0_1 _ _ l1_1 false _ ?side1 ?side2 ?side3 ?side4 A4.out).mono ?_); (case side1 => repeat (first | exact (Kd.C_below HR0_1.out HB.out) | (with_reducible refine Kd.C_alloc ?_ _) | (with_reducible refine Kd.C_drewN ?_ _) | (with_reducible refine Kd.C_drew ?_))); (case side2 => exact HC0_1.out); (case side3 => repeat (first | exact (Kd.C_below HR1_1.out HB.out) | (with_reducible refine Kd.C_alloc ?_ _) | (with_reducible refine Kd.C_drewN ?_ _) | (with_reducible refine Kd.C_drew ?_))); (case side4 => exact HC1_1.out); rintro e w' ⟨rfl, ⟨nd, rfl⟩⟩; refine ⟨_, rfl, ?_⟩))
 go_ret
 exact ⟨by first | rfl | (simp [*, errW_none, errW_some] <;> rfl), zh HB.out⟩
end Go.Proofs.YtmbkmabpebjboaaGreat.Q
end
section
namespace Go.Proofs.YtmbkmabpebjboaaGreat.Q
open Go.RowKit Go.Proofs.YtmbkmabpebjboaaGreatW.PrintWords Go.Proofs.YtmbkmabpebjboaaGreatW.PrintLast Go.Proofs.YtmbkmabpebjboaaGreatW.PrintMore
set_option linter.unusedVariables false
set_option linter.unusedSimpArgs false
def spec_chWeighted.f (k : Nat) (n : Int) (o : List Bool) : Nat → List Bool → Option (List S28)
  | 0, p => if rdOf false p ((p.length - 1 : Nat) : Int) = true then (if rdOf false p 0 = true then some [] else (spec_deComplete.f k p n).bind fun b => if b = true then (spec_gmOf.f k n p).bind fun g => some [⟨g.1, g.2⟩] else some []) else some []
  | d + 1, p => (spec_voList.f k (p.length : Int)).bind fun s => (mustO p s (rdOf false o (p.length : Int))).bind fun m => (spec_chWeighted.f k n o d (p ++ [true])).bind fun l1 => if m = true then some l1 else (spec_chWeighted.f k n o d (p ++ [false])).bind fun l2 => some (l1 ++ l2)
structure ChSt (gw go : Nat) (u w0 w : World) (ws : List Bool) (v : Value) (gs : List S28) : Prop where
  N : Kd.N k28 28 w w0.heap.size (fun z => w0.heap.size ≤ z) v gs
  O : w.heap[go]? = some (.cells #[v] 42 (0, 0))
  W : w.heap[gw]? = some (.cells (ws.map Value.bool).toArray 4 (0, 0))
  K : Kept w0 w (fun z => z = gw ∨ z = go)
  B : Below u.heap.size u w
section
variable {gw go : Nat} {u w0 w w1 : World} {ws : List Bool} {v : Value} {gs : List S28}
theorem ChSt.below (h : ChSt gw go u w0 w ws v gs) (hb : Below w.heap.size w w1) : ChSt gw go u w0 w1 ws v gs :=
  ⟨Kd.N_below h.N hb, blk_below h.O hb, blk_below h.W hb, h.K.below hb, h.B.trans (hb.mono h.B.size)⟩
theorem ChSt.alloc (h : ChSt gw go u w0 w ws v gs) (o : Obj) : ChSt gw go u w0 (w.alloc o) ws v gs := h.below ((Below.refl _ _).alloc (Nat.le_refl _) o)
theorem ChSt.put (h : ChSt gw go u w0 w ws v gs) (hne : gw ≠ go) (hbw : u.heap.size ≤ gw) (hw0 : gw < w0.heap.size) (i : Nat) (b : Bool) : ChSt gw go u w0 (w.setCell ⟨gw, i, none⟩ (.bool b)) (ws.set i b) v gs :=
  ⟨Kd.N_far h.N (fun k hk => by have h1 : w0.heap.size ≤ k := hk; show k ≠ gw; omega) _, blk_far h.O (Ne.symm hne) _, blk_put h.W i _ (by simp), h.K.setCell (.inl (.inl rfl)) _, below_set h.B hbw⟩
end
set_option maxHeartbeats 4000000 in
set_option maxRecDepth 100000 in
theorem chW_end (k : Nat) (n : Int) (A : Option Addr) (c : Nat) (o : List Bool) (gw go : Nat) (u w0 : World) (hC : ∀ W, Kept w0 W (fun z => z = gw ∨ z = go) → Kd.C Kd.bool W A o.length o) (hc : o.length ≤ c) (hne : gw ≠ go) (hbw : u.heap.size ≤ gw) (hbo : u.heap.size ≤ go) (hw0 : gw < w0.heap.size) (ho0 : go < w0.heap.size)
    (p : List Bool) (N q : Nat) (hp : p.length = N) (hq : N = q + 1) (hN : N ≤ 65536) (gs r : List S28) (v : Value) (w : World) (hr : gs.length + r.length ≤ 1000000) (h : spec_chWeighted.f k n o 0 p = some r) (hS : ChSt gw go u w0 w p v gs) :
    Calls Tryz.prog 85 #[.slice (some ⟨gw, 0, none⟩) N N, .slice A o.length c, .int .i64 N, .int .i64 n, .pointer (some ⟨go, 0, none⟩)] w fun e w' => e = .returned (.tuple #[]) ∧ ∃ v', ChSt gw go u w0 w' p v' (gs ++ r) := by
  have h1 : wrap64 ((N : Int) - 1) = (q : Int) := by unfold wrap64; omega
  have hqN : (q : Int) < (N : Int) := by omega
  have h0N : (0 : Int) < (N : Int) := by omega
  have hql : q < p.length := by omega
  have h0l : 0 < p.length := by omega
  have hxq : w.cell? ⟨gw, N - 1, none⟩ = some (.bool p[q]) := by rw [show N - 1 = q by omega, blk_cell hS.W, List.getElem?_toArray, List.getElem?_map, List.getElem?_eq_getElem hql]; rfl
  have hx0 : w.cell? ⟨gw, 0, none⟩ = some (.bool p[0]) := by rw [blk_cell hS.W, List.getElem?_toArray, List.getElem?_map, List.getElem?_eq_getElem h0l]; rfl
  unfold spec_chWeighted.f at h
  rw [hp, show N - 1 = q by omega, rdN hql, show (0 : Int) = ((0 : Nat) : Int) from rfl, rdN h0l] at h
  generalize p[q] = b1 at h hxq
  generalize p[0] = b0 at h hx0
  have HS := Aside0.mk hS
  have HH := Aside0.mk h
  have HC := Aside0.mk hC
  have HP := Aside0.mk hp
  clear hS h hC hq hql h0l hp
  cases b1
  case false =>
    have := HH.out
    rw [if_neg (by decide)] at this
    obtain rfl := Option.some.inj this
    clear this
    go_enter Tryz.func85, Tryz.ntmps85
    go_wp2
    (try simp only [Exit.inBlock, Exit.then]); refine bodyPost_ret (results_none rfl _ _ _) rfl ?_
    exact ⟨rfl, v, by first | exact HS.out | (rw [List.append_nil]; exact HS.out)⟩
  cases b0
  case true =>
    have := HH.out
    rw [if_pos rfl, if_pos rfl] at this
    obtain rfl := Option.some.inj this
    clear this
    go_enter Tryz.func85, Tryz.ntmps85
    go_wp2
    (try simp only [Exit.inBlock, Exit.then]); refine bodyPost_ret (results_none rfl _ _ _) rfl ?_
    exact ⟨rfl, v, by first | exact HS.out | (rw [List.append_nil]; exact HS.out)⟩
  have h := HH.out
  clear HH
  rw [if_pos rfl, if_neg (by decide)] at h
  obtain ⟨t, ht, h⟩ := Option.bind_eq_some_iff.mp h
  have HT := Aside0.mk ht
  have HH := Aside0.mk h
  clear h ht
  have hCb := fun (W : World) (hW : ChSt gw go u w0 W p v gs) => C_bools hW.W (by rw [HP.out]; exact hN)
  rw [HP.out] at hCb
  have HCB := Aside0.mk hCb
  clear hCb
  cases t
  case false =>
    have h := HH.out
    rw [if_neg (by decide)] at h
    obtain rfl := Option.some.inj h
    clear h
    go_enter Tryz.func85, Tryz.ntmps85
    go_wp2_with (go_at_call 62; have hh := spec_deComplete.calls k (some ⟨gw, 0, none⟩) N p n false; rw [HP.out] at hh; refine (hh _ (HCB.out _ HS.out) (Nat.le_refl _) HT.out).mono ?_; clear hh; rintro e w' ⟨rfl, hb0'⟩; have hb' := hb0'.below)
    (try simp only [Exit.inBlock, Exit.then]); refine bodyPost_ret (results_none rfl _ _ _) rfl ?_
    exact ⟨rfl, v, by first | exact HS.out.below hb' | (rw [List.append_nil]; exact HS.out.below hb')⟩
  have h := HH.out
  rw [if_pos rfl] at h
  obtain ⟨⟨g1, g2⟩, hg, h⟩ := Option.bind_eq_some_iff.mp h
  obtain rfl := Option.some.inj h
  have HG := Aside0.mk hg
  clear h hg HH
  go_enter Tryz.func85, Tryz.ntmps85
  go_wp2_with (go_at_call 62; have hh := spec_deComplete.calls k (some ⟨gw, 0, none⟩) N p n true; rw [HP.out] at hh; refine (hh _ (HCB.out _ HS.out) (Nat.le_refl _) HT.out).mono ?_; clear hh; rintro e w' ⟨rfl, hb0'⟩; have hb' := hb0'.below; have HS1 := Aside0.mk (HS.out.below hb'); clear HS hb' hb0' hxq hx0; have HS := HS1; clear HS1; have hO := HS.out.O; have ho0 := (blk_cell hO 0).trans rfl; have hof := blk_frozen hO 0; clear hO)
  refine start_ (n := 11) (S := fun w' => w'.cell? ⟨go, 0, none⟩ = some v) (ds := [10]) #[false, false, false, false, false, false, false, false, false, false, false] (by kernel_rfl) rfl rfl ((blk_cell HS.out.O 0).trans rfl) (fun hHeld => ?_)
  have HS1 := Aside0.mk (HS.out.below (below_drew (Below.refl _ _)))
  clear HS
  have HS := HS1
  clear HS1
  generalize w'.drew = w1 at HS hHeld ⊢
  refine zp1 (i := 0) (N := some 33) #[true, false, false, false, false, false, false, false, false, false, false] rfl rfl (by kernel_rfl) ?_
  refine zp1 (i := 1) (N := some 34) #[true, true, false, false, false, false, false, false, false, false, false] rfl rfl (by kernel_rfl) ?_
  refine zp1 (i := 2) (N := some 35) #[true, true, true, false, false, false, false, false, false, false, false] rfl rfl (by kernel_rfl) ?_
  refine zp1 (i := 4) (N := some 37) #[true, true, true, false, true, false, false, false, false, false, false] rfl rfl (by kernel_rfl) ?_
  refine zp1 (i := 5) (N := some 38) #[true, true, true, false, true, true, false, false, false, false, false] rfl rfl (by kernel_rfl) ?_
  refine take_ (i := 3) (N := some 36) (v := ?_) (a' := ?_) #[true, true, true, true, true, true, false, false, false, false, false] rfl rfl (by kernel_rfl) (fun _ _ _ h => h) (Or.inl ⟨by rfl, ?_⟩) hHeld ?_ ?_
  rotate_left
  · intro w' s0
    go_simp
    with_reducible rfl
  rotate_left
  · simp only [Act.put, List.setIfInBounds_toArray, List.set_cons_zero, List.set_cons_succ, i64_w, i32_w]
    rfl
  refine one_ (i := 6) (N := some 39) #[true, true, true, true, true, true, true, false, false, false, false] rfl rfl (by kernel_rfl) (by decide) (fun K hK => ?_)
  refine goes_ Tryz.func113 (by kernel_rfl) rfl #[.int .i64 n, .slice (some ⟨gw, 0, none⟩) N N] (by rfl) rfl rfl (by (try simp only [List.map_toArray, List.map_cons, List.map_nil]); first | done | rfl) ?_
  have hh := spec_gmOf.calls k n (some ⟨gw, 0, none⟩) N p g1 g2
  rw [HP.out] at hh
  refine (hh _ (HCB.out _ HS.out) (Nat.le_refl _) HG.out).mono ?_
  clear hh
  rintro e w2 ⟨v1, rfl, hV, hb'⟩
  refine ⟨_, rfl, ?_⟩
  have HS1 := Aside0.mk (HS.out.below hb')
  have hgw := blk_lt HS.out.W
  have hgo := blk_lt HS.out.O
  obtain ⟨A1, c1, rfl⟩ := Kd.V_slice hV
  have HV := Aside0.mk (Kd.V_at hV)
  have HK := Aside0.mk (Kd.FK_mono (k28_mkF w2 _ (⟨g1, g2⟩ : S28) HV.out.2.1 HV.out.2.2) (fun z (hz : w1.heap.size ≤ z) => (⟨Nat.le_trans HS.out.K.1 hz, fun he => by have := Kd.N_lt HS.out.N z he.symm; omega⟩ : (w0.heap.size ≤ z) ∧ some z ≠ v.ownBlock)))
  clear HS hb' hV
  have HS := HS1
  clear HS1 hHeld
  refine hK.out _ _ ((blk_cell HS.out.O 0).trans rfl) (fun hHeld => ?_)
  clear hK K
  refine zn1 ?_
  refine one_ (i := 7) (N := some 40) #[true, true, true, true, true, true, true, true, false, false, false] rfl rfl (by kernel_rfl) (by decide) (fun K hK => ?_)
  refine value_ (w1 := ?_) (v := ?_) (by rfl) rfl ?_ ?_
  rotate_left 2
  · go_simp
    constructor
    · rfl
    · rfl
  refine hK.out _ _ ((blk_cell (HS.out.alloc _).O 0).trans rfl) (fun hHeld => ?_)
  clear hK K
  refine zn1 ?_
  refine one_ (i := 8) (N := some 41) #[true, true, true, true, true, true, true, true, true, false, false] rfl rfl (by kernel_rfl) (by decide) (fun K hK => ?_)
  refine Kd.N_append_step k28 (w0 := w2) w0.heap.size (by rfl) (.tmp 36) (.tmp 40) 42 28 (.agg #[(.int .i64 0), (.slice none 0 0)]) 32 rfl Tryz.underlying42 info28 rfl (by decide) (by omega) v gs ⟨g1, g2⟩ [.int .i64 g1, .slice A1 g2.length c1] (fun z => w0.heap.size ≤ z) _ rfl rfl HK.out (fun _ hz => hz) (fun z hz => Nat.le_trans HS.out.K.1 hz) HS.out.N (Below.refl _ _) HS.out.K.1 (by simp at hr; omega) ?_
  intro v2 w3 hN2 hB2 hg2 _
  obtain ⟨A2, c2, rfl⟩ := Kd.N_slice hN2
  have HO3 := Aside0.mk (blk_grown HS.out.O hg2 (Kd.N_ne HS.out.N HS.out.O (by decide)))
  have HW3 := Aside0.mk (blk_grown HS.out.W hg2 (Kd.N_ne HS.out.N HS.out.W (by decide)))
  have HN3 := Aside0.mk hN2
  have HB3 := Aside0.mk (HS.out.B.trans (hB2.mono (show u.heap.size ≤ w0.heap.size by omega)))
  have HK3 := Aside0.mk (Kept.of_grown hg2 HS.out.K (fun z hz => .inr (Kd.N_base HS.out.N z hz)))
  clear hN2 hB2 hg2 HS hHeld HK HV
  refine hK.out _ _ ((blk_cell HO3.out 0).trans rfl) (fun hHeld => ?_)
  clear hK K
  refine zn1 ?_
  refine zp1 (i := 9) (N := some 42) #[true, true, true, true, true, true, true, true, true, true, false] rfl rfl (by kernel_rfl) ?_
  refine last_ (i := 10) (N := none) #[true, true, true, true, true, true, true, true, true, true, true] rfl rfl (by kernel_rfl) (by decide) (fun K hK => ?_)
  have hs := (blk_cell HO3.out 0).trans rfl
  have hfs := blk_frozen HO3.out 0
  refine skip_ (w1 := ?_) (by rfl) rfl ?_ ?_
  rotate_left
  · go_simp
    rfl
  refine hK.out _ _ ?_
  clear hK K
  refine done_ (by kernel_rfl) ?_
  go_wp2
  (try simp only [Exit.inBlock, Exit.then]); refine bodyPost_ret (results_none rfl _ _ _) rfl ?_
  exact ⟨rfl, _, Kd.N_far HN3.out (fun z hk => by have h1 : w0.heap.size ≤ z := hk; show z ≠ go; omega) _, blk_put HO3.out 0 _ (by simp), blk_far HW3.out hne _, HK3.out.setCell (.inl (.inr rfl)) _, below_set HB3.out hbo⟩
set_option maxHeartbeats 8000000 in
set_option maxRecDepth 100000 in
theorem spec_chWeighted.calls (k : Nat) (n : Int) (A : Option Addr) (c : Nat) (o : List Bool) (gw go : Nat) (u w0 : World) (hC : ∀ W, Kept w0 W (fun z => z = gw ∨ z = go) → Kd.C Kd.bool W A o.length o) (hc : o.length ≤ c) (hne : gw ≠ go) (hbw : u.heap.size ≤ gw) (hbo : u.heap.size ≤ go) (hw0 : gw < w0.heap.size) (ho0 : go < w0.heap.size) (N : Nat) (hoN : o.length = N) (hN : N ≤ 65536) (hN1 : 1 ≤ N) :
    ∀ (d : Nat) (p ws : List Bool) (m : Nat) (gs r : List S28) (v : Value) (w : World), p.length = m → m + d = N → ws.length = N → ws.take p.length = p → gs.length + r.length ≤ 1000000 → spec_chWeighted.f k n o d p = some r → ChSt gw go u w0 w ws v gs →
    Calls Tryz.prog 85 #[.slice (some ⟨gw, 0, none⟩) N N, .slice A o.length c, .int .i64 m, .int .i64 n, .pointer (some ⟨go, 0, none⟩)] w fun e w' => e = .returned (.tuple #[]) ∧ ∃ v' ws', ChSt gw go u w0 w' ws' v' (gs ++ r) ∧ ws'.length = N ∧ ws'.take p.length = p := by
  intro d
  induction d with
  | zero =>
    intro p ws m gs r v w hp hd hwl hwt hr h hS
    obtain rfl : m = N := hd
    have : ws = p := by rw [← hwt, hp, ← hwl, List.take_length]
    subst this
    obtain ⟨q, rfl⟩ : ∃ q, m = q + 1 := ⟨m - 1, by omega⟩
    refine (chW_end k n A c o gw go u w0 hC hc hne hbw hbo hw0 ho0 ws (q + 1) q hp rfl hN gs r v w hr h hS).mono ?_
    rintro e w' ⟨rfl, v', hS'⟩
    exact ⟨rfl, v', ws, hS', hp, by rw [hp, ← hp, List.take_length]⟩
  | succ d ih =>
    intro p ws m gs r v w hp hd hwl hwt hr h hS
    unfold spec_chWeighted.f at h
    obtain ⟨s, hs, h⟩ := Option.bind_eq_some_iff.mp h
    obtain ⟨mm, hm, h⟩ := Option.bind_eq_some_iff.mp h
    obtain ⟨l1, h1, h⟩ := Option.bind_eq_some_iff.mp h
    rw [hp] at hs hm
    have hmo : (m : Int) < (o.length : Int) := by omega
    clear hoN
    obtain ⟨ad0, e0, hov⟩ := Kd.at_bool (hC w hS.K) (m : Int) (Int.natCast_nonneg _) hmo
    rw [Int.toNat_natCast] at hov
    generalize rdOf false o (m : Int) = b00 at hov hm
    have hpl : p.length < ws.length := by omega
    have hmN : (m : Int) < (N : Int) := by omega
    have hne1 : ((m : Int) == (N : Int)) = false := by rw [beq_eq_false_iff_ne]; omega
    have hne2 : ¬ m = N := by omega
    have hw1 : wrap64 ((m : Int) + 1) = ((m + 1 : Nat) : Int) := by unfold wrap64; omega
    have HS := Aside0.mk hS
    have HV := Aside0.mk hs
    have HM := Aside0.mk hm
    have H1 := Aside0.mk h1
    have HH := Aside0.mk h
    have HWL := Aside0.mk hwl
    have HWT := Aside0.mk hwt
    have HP := Aside0.mk hp
    have HD := Aside0.mk hd
    have IH := Aside0.mk ih
    clear hS hs hm h1 h hwl hwt ih hp hd
    subst e0
    go_enter Tryz.func85, Tryz.ntmps85
    go_wp2_with (go_at_call 114; refine (spec_voList.calls k (m : Int) s _ HV.out).mono ?_; rintro e w1 ⟨vs, rfl, hR, hb⟩; obtain ⟨As, cs, rfl⟩ := Kd.R_slice hR; have HR := Aside0.mk (Kd.R_reads' hR).2.2; have HS1 := Aside0.mk (HS.out.below hb); clear HS hR hb; have HS := HS1; clear HS1)
    clear hov hmo
    go_loopg [10, 50] s.length (fun gg v12 v54 wr => ∃ (kk : Nat) (b : Bool), kk ≤ s.length ∧ s.length - kk ≤ gg ∧ v12 = .bool b ∧ v54 = .int .i64 kk ∧ Aside0 (ChSt gw go u w0 wr ws v gs) ∧ Aside0 (Kd.C (Kd.int .i64) wr As s.length s) ∧ Aside0 (mustO p (s.drop kk) b = some mm))
    case atStart => exact ⟨0, b00, Nat.zero_le _, by omega, rfl, rfl, HS, HR, HM⟩
    case round =>
      clear HS HM
      have hls := Kd.C_max HR.out
      clear HR
      obtain ⟨kk, b, hkk, hg, rfl, rfl, HS, HR, HM⟩ := hrel
      by_cases hlt : kk < s.length
      · have hltz : (kk : Int) < (s.length : Int) := Int.ofNat_lt.2 hlt
        have hdec : decide ((kk : Int) < (s.length : Int)) = true := decide_eq_true hltz
        obtain ⟨ad, e, x0⟩ := Kd.at_int HR.out (kk : Int) (Int.natCast_nonneg _) hltz
        subst e
        have hM := HM.out
        rw [mustO_drop hlt, HP.out] at hM
        rw [Int.toNat_natCast] at x0
        generalize rd s (kk : Int) = x at hM x0
        cases b
        case true =>
          rw [if_pos rfl] at hM
          have HM2 := Aside0.mk hM
          clear hM HM
          go_wp2
          go_roundg (s.length - (kk + 1))
          case measure => exact om2 hlt hg
          case rel => exact ⟨kk + 1, true, hlt, Nat.le_refl _, rfl, by congr 1; (try exact om3 hlt hls), HS, HR, HM2⟩
        case false =>
          rw [if_neg (by decide)] at hM
          by_cases c0 : 0 ≤ x
          case neg => rw [if_neg c0] at hM; cases hM
          rw [if_pos c0] at hM
          obtain ⟨ji, hji⟩ : ∃ j_ : Int, shl .i64 1 x = j_ := ⟨_, rfl⟩
          rw [hji] at hM
          have hji_ : (IntKind.i64.wrap (1 * 2 ^ min x.toNat 64)) = ji := hji
          have hjiz : x ≤ 64 → (IntKind.i64.wrap (1 * 2 ^ x.toNat)) = ji := shl_small hji
          have hjiu : (IntKind.i64.wrap (2 ^ min x.toNat 64)) = ji := by have h_ := hji_; rw [Int.one_mul] at h_; exact h_
          have hjiv : x ≤ 64 → (IntKind.i64.wrap (2 ^ x.toNat)) = ji := fun hle_ => by have h_ := hjiz hle_; rw [Int.one_mul] at h_; exact h_
          have hjiy : (wrap64 (1 * 2 ^ min x.toNat 64)) = ji := (i64_w _).symm.trans hji_
          have hjix : x ≤ 64 → (wrap64 (1 * 2 ^ x.toNat)) = ji := fun h_ => (i64_w _).symm.trans (hjiz h_)
          obtain ⟨jk, hjk⟩ : ∃ j_ : Int, wrap64 ((m : Int) - ji) = j_ := ⟨_, rfl⟩
          rw [hjk] at hM
          have hjkw : (IntKind.i64.wrap ((m : Int) - ji)) = jk := (i64_w _).trans hjk
          by_cases c1 : 0 ≤ jk ∧ jk < (m : Int)
          case neg => rw [if_neg c1] at hM; cases hM
          rw [if_pos c1] at hM
          have c0b : decide (0 ≤ x) = true := decide_eq_true c0
          have c10 := c1.1
          have c11 : jk < (N : Int) := Int.lt_trans c1.2 hmN
          have c10b : decide (0 ≤ jk) = true := decide_eq_true c10
          have c11b : decide (jk < (N : Int)) = true := decide_eq_true c11
          obtain ⟨hjl, hje⟩ := take_rdOf HWT.out c10 (by rw [HP.out]; exact c1.2)
          have hx : wr.cell? ⟨gw, jk.toNat, none⟩ = some (.bool (rdOf false p jk)) := by rw [blk_cell HS.out.W, List.getElem?_toArray, List.getElem?_map, List.getElem?_eq_getElem hjl, hje]; rfl
          generalize rdOf false p jk = b at hx hM
          have HM2 := Aside0.mk hM
          clear hM HM hjl hje c1
          go_wp2
          clear hji_ hjiz hjiu hjiv hjiy hjix hjkw hji hjk c0b c10b c11b c10 c11 c0 hx
          go_roundg (s.length - (kk + 1))
          case measure => exact om2 hlt hg
          case rel => exact ⟨kk + 1, b, hlt, Nat.le_refl _, rfl, by congr 1; (try exact om3 hlt hls), HS, HR, HM2⟩
      · have hltz : ¬ (kk : Int) < (s.length : Int) := fun e => hlt (Int.ofNat_lt.1 e)
        have hkl : kk = s.length := Nat.le_antisymm hkk (Nat.le_of_not_lt hlt)
        subst hkl
        have hM := HM.out
        rw [List.drop_length] at hM
        obtain rfl := Option.some.inj hM
        clear hM HM HR
        have hpl2 : m < ws.length := by rw [HWL.out]; exact Int.ofNat_lt.1 hmN
        have hx : wr.cell? ⟨gw, m, none⟩ = some (.bool ws[m]) := by rw [blk_cell HS.out.W, List.getElem?_toArray, List.getElem?_map, List.getElem?_eq_getElem hpl2]; rfl
        have hf := blk_frozen HS.out.W m
        have hT1 := take_set_snoc HWT.out (by rw [HP.out]; exact hpl2) true
        rw [HP.out] at hT1
        have HT1 := Aside0.mk hT1
        have HSP := Aside0.mk (HS.out.put hne hbw hw0 m true)
        generalize ws[m] = bm at hx
        clear HS hT1
        have hm1 : m + 1 + d = N := om1 HD.out
        have hr1 : gs.length + l1.length ≤ 1000000 := by
          have h := HH.out
          cases b
          · rw [if_neg (by decide)] at h
            obtain ⟨l2, _, h⟩ := Option.bind_eq_some_iff.mp h
            obtain rfl := Option.some.inj h
            rw [List.length_append] at hr
            exact om4 hr
          · rw [if_pos rfl] at h
            obtain rfl := Option.some.inj h
            exact hr
        have IH1 := Aside0.mk (IH.out (p ++ [true]) (ws.set m true) (m + 1) gs l1 v _ (by rw [List.length_append, HP.out]; rfl) hm1 (by rw [List.length_set]; exact HWL.out) HT1.out hr1 H1.out HSP.out)
        clear HSP HT1 hltz
        go_wp2_with fail
        refine IH1.out.mono ?_
        clear IH1
        rintro e w2 ⟨rfl, v2, ws2, hS2, hl2, ht2⟩
        have hpl3 : m < ws2.length := by rw [hl2]; exact Int.ofNat_lt.1 hmN
        have ht3 := take_less ht2
        clear hx hf
        have hx : w2.cell? ⟨gw, m, none⟩ = some (.bool ws2[m]) := by rw [blk_cell hS2.W, List.getElem?_toArray, List.getElem?_map, List.getElem?_eq_getElem hpl3]; rfl
        have hf := blk_frozen hS2.W m
        generalize ws2[m] = bm2 at hx
        have HS2 := Aside0.mk hS2
        have HL2 := Aside0.mk hl2
        have HT2 := Aside0.mk ht3
        clear hS2 hl2 ht2 ht3
        have h := HH.out
        cases b
        case true =>
          rw [if_pos rfl] at h
          obtain rfl := Option.some.inj h
          clear h HH
          go_wp2
          go_end0
          exact ⟨rfl, v2, ws2, HS2.out, HL2.out, HT2.out⟩
        case false =>
          rw [if_neg (by decide)] at h
          obtain ⟨l2, h2, h⟩ := Option.bind_eq_some_iff.mp h
          obtain rfl := Option.some.inj h
          rw [List.length_append] at hr
          have hT3 := take_set_snoc HT2.out (by rw [HP.out]; exact hpl3) false
          rw [HP.out] at hT3
          have IH2 := Aside0.mk (IH.out (p ++ [false]) (ws2.set m false) (m + 1) (gs ++ l1) l2 v2 _ (by rw [List.length_append, HP.out]; rfl) hm1 (by rw [List.length_set]; exact HL2.out) hT3 (by rw [List.length_append]; exact om5 hr) h2 (HS2.out.put hne hbw hw0 m false))
          clear h HH h2 hT3 HS2 HL2 HT2
          go_wp2_with fail
          refine IH2.out.mono ?_
          clear IH2
          rintro e w3 ⟨rfl, v3, ws3, hS3, hl3, ht3⟩
          have HS3 := Aside0.mk hS3
          have HL3 := Aside0.mk hl3
          have HT3 := Aside0.mk (take_less ht3)
          clear hS3 hl3 ht3
          go_wp2
          go_end0
          exact ⟨rfl, v3, ws3, by first | exact HS3.out | (rw [← List.append_assoc]; exact HS3.out), HL3.out, HT3.out⟩
def pzPos (k : Nat) (g : S28) : List S28 → Nat → Option Nat
  | [], i => some i
  | x :: xs, i => (spec_gmBefore.f k x.f0 x.f1 g.f0 g.f1).bind fun b => if b = true then pzPos k g xs (i + 1) else some i
def pzIns (k : Nat) (g : S28) (outs : List S28) : Option (List S28) := (pzPos k g outs 0).bind fun i => some (outs.take i ++ [g] ++ outs.drop i)
def pzSort (k : Nat) : List S28 → List S28 → Option (List S28)
  | [], outs => some outs
  | g :: gs, outs => (pzIns k g outs).bind fun o => pzSort k gs o
theorem om6 {i n : Nat} (h : i ≤ n) : i + 1 + (n - i) = n + 1 := by omega
theorem made_falses (N : Nat) : madeCells (Value.bool false).cells N = ((List.replicate N false).map Value.bool).toArray := by
  refine Array.ext ?_ fun j h1 h2 => ?_
  · rw [size_madeCells, List.size_toArray, List.length_map, List.length_replicate]
  · simp [madeCells, Value.cells, Nat.mod_one]
theorem run_falses (N : Nat) (hN : N ≤ 65536) (W : World) : (Instr.makeSlice 59 (.int .i64 (N : Int)) (.int .i64 (N : Int))).run Tryz.prog W = .ok (.slice (some ⟨W.heap.size, 0, none⟩) N N) (W.alloc (.cells ((List.replicate N false).map Value.bool).toArray 4 (0, 0))) := by
  obtain ⟨i, hi, hz⟩ := Option.map_eq_some_iff.1 info4
  simp only [Prod.mk.injEq] at hz
  obtain ⟨h0, h1, h2⟩ := hz
  have := run_make (P := Tryz.prog) W 59 4 i (.bool false) Tryz.underlying59 hi h0 .i64 .i64 (N : Int) (N : Int) (Int.natCast_nonneg _) (Int.le_refl _) (by rw [h2]; omega) (by omega)
  rw [this, Int.toNat_natCast, h1, Nat.mul_one, made_falses]
section
variable {e base : Nat} {W : World} {v : Value} {lo : Nat}
theorem N_own {α : Type} {d : Kd α} (h : Kd.N d e W base (fun _ => True) v []) (hb : lo ≤ base) : Kd.N d e W base (fun z => lo ≤ z) v [] := by
  have hbb := Kd.N_base h
  obtain ⟨_, rows, hl, hR, _⟩ := h
  exact ⟨fun k hk => Nat.le_trans hb (hbb k hk), rows, hl, hR, fun j x c hx => by simp at hx⟩
end
theorem rr_one {W : World} {b cg : Nat} {Ag : Option Addr} {g : S28} {ok : Nat → Prop} (hb : W.heap[b]? = some (.cells #[.int .i64 g.f0, .slice Ag g.f1.length cg] 28 (0, 0))) (hF : Kd.FK k28 W ok g [.int .i64 g.f0, .slice Ag g.f1.length cg]) :
    ReadsRow (fun x c => Kd.FK k28 W ok x c) (Kd.sz k28) W (some ⟨b, 0, none⟩) 1 [g] := by
  refine ⟨rfl, by decide, fun _ => ⟨_, rfl, fun j p hj => ?_⟩⟩
  cases j with
  | succ j => simp at hj
  | zero =>
    obtain rfl : g = p := by simpa using hj
    refine ⟨_, rfl, hF, fun i u hu => ?_⟩
    rw [add_at, Nat.zero_mul, Nat.zero_add, Nat.zero_add, blk_cell hb]
    simpa using hu
section
variable {P : Program} {ops : Array Oper} {o : Oper} {a : Act} {Q : Exit → Act → World → Prop} {Kc : Act → World → Prop} {α : Type}
theorem N_append_rr_step (d : Kd α) {w0 W : World} (base : Nat) (hw : Region.wanted o (yielded ops a.tmps) = true) (s x : Operand) (t e : TypeId) (z : Value) (bytes : Nat)
    (ho : o.op = .call { callee := .builtin .append, args := #[s, x], argTypes := #[t, t] })
    (ht : P.underlying t = some (.slice e)) (hinfo : (P.info? e).map (fun i => (i.zero, i.size, i.bytes)) = some (some z, d.sz, bytes)) (hz : z.cells.size = d.sz) (hs0 : 0 < d.sz) (hb0 : 0 < bytes)
    (v : Value) (xs ys : List α) (A : Option Addr) (m c : Nat) (ok okp : Nat → Prop) (hs : a.eval s = v) (hx : a.eval x = .slice A m c)
    (HO : Kd.N d e W base ok v xs) (HR : ReadsRow (fun x c => Kd.FK d W okp x c) d.sz W A m ys) (hokp : ∀ k, okp k → ok k ∧ some k ≠ v.ownBlock) (hfresh : ∀ k, W.heap.size ≤ k → ok k)
    (HB : Below base w0 W) (hbase : base ≤ W.heap.size) (hl : (xs.length + m) * bytes ≤ 140737488355328)
    (h : ∀ v1 w1, Kd.N d e w1 base ok v1 (xs ++ ys) → Below base w0 w1 → W.grownBy w1 v.ownBlock → (v1.ownBlock = v.ownBlock ∨ ∃ b, v1.ownBlock = some b ∧ W.heap.size ≤ b) → Kc (a.put o.dst v1) w1) :
    if Region.wanted o (yielded ops a.tmps) = true then Oper.wp P o a W Kc Q else Kc (a.put o.dst undef) W := by
  obtain ⟨h0, rows, hlr, hR, hf⟩ := HO
  obtain ⟨news, hnl, hnr, hnf⟩ := Kd.reads_raw HR (fun y c hk => ⟨d.K_len (Kd.FK_now hk), d.K_one (Kd.FK_now hk)⟩)
  refine Kd.R_append_rows_step (Kd.raw d.sz) base hw s x t e z bytes ho ht hinfo hz hs0 hb0 v rows news A m c (fun _ => True) (fun _ => False) hs hx (Kd.raw_any hR) hnr (fun _ _ hk => hk) (fun _ hk => hk.elim) (fun _ _ => trivial) HB hbase (by rw [hlr]; exact hl) ?_
  intro v1 w1 hr hb hg hat
  exact h v1 w1 (Kd.N_appended h0 hlr hf hnl hnf hokp hfresh hr hg hat) hb hg hat
end
theorem pzSort_drop {k : Nat} {gs outs : List S28} {i : Nat} (h : i < gs.length) : pzSort k (gs.drop i) outs = (pzIns k (gs.getD i z28) outs).bind fun o => pzSort k (gs.drop (i + 1)) o := by
  rw [List.drop_eq_getElem_cons h, List.getD_eq_getElem?_getD, List.getElem?_eq_getElem h]; rfl
theorem pzPos_drop {k : Nat} {g : S28} {outs : List S28} {i : Nat} (h : i < outs.length) : pzPos k g (outs.drop i) i = (spec_gmBefore.f k (outs.getD i z28).f0 (outs.getD i z28).f1 g.f0 g.f1).bind fun b => if b = true then pzPos k g (outs.drop (i + 1)) (i + 1) else some i := by
  rw [List.drop_eq_getElem_cons h, List.getD_eq_getElem?_getD, List.getElem?_eq_getElem h]; rfl
def spec_chGames.f (k : Nat) (n : Int) (l : List (List Int)) : Option (List S28) := if 0 ≤ n ∧ n ≤ 16 then (spec_gmAll.f k n l).bind fun o => if o.length = 2 ^ n.toNat then (spec_chWeighted.f k n o (2 ^ n.toNat) []).bind fun gs => if gs.length ≤ 1000000 then pzSort k gs [] else none else none else none
set_option maxHeartbeats 8000000 in
set_option maxRecDepth 100000 in
theorem spec_chGames.calls (k : Nat) (n : Int) (A : Option Addr) (c : Nat) (l : List (List Int)) (r : List S28) (w : World) (hC : Kd.C (Kd.slice 3 (Kd.int .i64)) w A l.length l) (hc : l.length ≤ c) (h : spec_chGames.f k n l = some r) :
    Calls Tryz.prog 51 #[.agg #[.int .i64 n, .slice A l.length c]] w fun e w' => ∃ v0_ : Value, e = .returned v0_ ∧ Kd.V k28 28 w' w.heap.size (fun k_ => w.heap.size ≤ k_) v0_ r ∧ Below w.heap.size w w' := by
  unfold spec_chGames.f at h
  by_cases c0 : 0 ≤ n ∧ n ≤ 16
  case neg => rw [if_neg c0] at h; cases h
  rw [if_pos c0] at h
  obtain ⟨o, hgm, h⟩ := Option.bind_eq_some_iff.mp h
  by_cases co : o.length = 2 ^ n.toNat
  case neg => rw [if_neg co] at h; cases h
  rw [if_pos co] at h
  obtain ⟨gs, hg, h⟩ := Option.bind_eq_some_iff.mp h
  by_cases c1 : gs.length ≤ 1000000
  case neg => rw [if_neg c1] at h; cases h
  rw [if_pos c1] at h
  have hp16 : 2 ^ n.toNat ≤ 65536 := Nat.pow_le_pow_right (n := 2) (by decide) (show n.toNat ≤ 16 by omega)
  have hp1 : 1 ≤ 2 ^ n.toNat := Nat.one_le_two_pow
  have hji : shl .i64 1 n = ((2 ^ n.toNat : Nat) : Int) := by rw [shl_one n c0]; simp
  generalize 2 ^ n.toNat = N at hji hg hp16 hp1 co
  have hji_ : (IntKind.i64.wrap (1 * 2 ^ min n.toNat 64)) = (N : Int) := hji
  have hjiz : n ≤ 64 → (IntKind.i64.wrap (1 * 2 ^ n.toNat)) = (N : Int) := shl_small hji
  have hjiu : (IntKind.i64.wrap (2 ^ min n.toNat 64)) = (N : Int) := by have h_ := hji_; rw [Int.one_mul] at h_; exact h_
  have hjiv : n ≤ 64 → (IntKind.i64.wrap (2 ^ n.toNat)) = (N : Int) := fun hle_ => by have h_ := hjiz hle_; rw [Int.one_mul] at h_; exact h_
  have hjiy : (wrap64 (1 * 2 ^ min n.toNat 64)) = (N : Int) := (i64_w _).symm.trans hji_
  have hjix : n ≤ 64 → (wrap64 (1 * 2 ^ n.toNat)) = (N : Int) := fun h_ => (i64_w _).symm.trans (hjiz h_)
  have hjie := (i64_w _).symm.trans (hjiv (by omega))
  have hmk := run_falses N hp16
  have c00 := c0.1
  have c00b : decide (0 ≤ n) = true := decide_eq_true c00
  have hNb : decide (0 ≤ (N : Int)) = true := decide_eq_true (Int.natCast_nonneg _)
  have HG := Aside0.mk hg
  have HGM := Aside0.mk hgm
  have HH := Aside0.mk h
  have HC := Aside0.mk hC
  have HCO := Aside0.mk co
  have HP1 := Aside0.mk hp1
  clear hg h hC hgm co hp1
  have huG := Tryz.underlying28
  go_enter Tryz.func51, Tryz.ntmps51
  go_wp2_with ((with_reducible refine gate_dst (N := 1) rfl ?_); refine box_event ?hg (N := 1) ?hd (cs := #[.int .i64 n, .slice A l.length c]) (t := 28) ?hr ?_; (case hd => rfl); (case hg => rfl); (case hr => first | (go_simp; done) | (go_simp; rfl)); intro gb hgb w1 hbox hb1; have HBX := Aside0.mk hbox; have HB1 := Aside0.mk hb1; have hgw : w.heap.size ≤ gb := Nat.le_of_eq hgb.symm; have hg1 := blk_lt hbox; clear hbox hb1 hgb)
  have HBX2 := Aside0.mk (blk_alloc HBX.out (.cells #[.slice none 0 0] 42))
  have HB2 := Aside0.mk (HB1.out.alloc HB1.out.size (.cells #[.slice none 0 0] 42))
  have HGO := Aside0.mk (blk_new w1 (.cells #[.slice none 0 0] 42))
  clear HBX
  have hs2 : (w1.alloc (.cells #[.slice none 0 0] 42)).heap.size = w1.heap.size + 1 := by simp
  generalize hw2 : w1.alloc (.cells #[.slice none 0 0] 42) = w2 at *
  refine start_ (n := 9) (S := fun w' => w'.cell? ⟨gb, 0, none⟩ = some (.int .i64 n) ∧ w'.cell? ⟨gb, 1, none⟩ = some (.slice A l.length c)) (ds := []) #[false, false, false, false, false, false, false, false, false] (by kernel_rfl) rfl rfl (⟨(blk_cell (blk_drew HBX2.out) 0).trans rfl, (blk_cell (blk_drew HBX2.out) 1).trans rfl⟩) (fun hHeld => ?_)
  have HBXd := Aside0.mk (blk_drew HBX2.out)
  have HGOd := Aside0.mk (blk_drew HGO.out)
  have HBd := Aside0.mk (HB2.out.trans ((below_drew (Below.refl _ _)).mono HB2.out.size))
  have hs3 : w2.drew.heap.size = w1.heap.size + 1 := hs2
  clear HBX2 HGO HB2 hs2 hw2
  generalize w2.drew = wd at *
  refine zp1 (i := 0) (N := some 9) #[true, false, false, false, false, false, false, false, false] rfl rfl (by kernel_rfl) ?_
  refine take_ (i := 1) (N := some 10) (v := ?_) (a' := ?_) #[true, true, false, false, false, false, false, false, false] rfl rfl (by kernel_rfl) (fun _ _ _ h => h) (Or.inl ⟨by rfl, ?_⟩) hHeld ?_ ?_
  rotate_left
  · rintro w' ⟨s0, s1⟩
    go_simp
    with_reducible rfl
  rotate_left
  · simp only [Act.put, List.setIfInBounds_toArray, List.set_cons_zero, List.set_cons_succ, i64_w, i32_w]
    rfl
  refine zp1 (i := 2) (N := some 11) #[true, true, true, false, false, false, false, false, false] rfl rfl (by kernel_rfl) ?_
  refine take_ (i := 4) (N := some 13) (v := ?_) (a' := ?_) #[true, true, true, false, true, false, false, false, false] rfl rfl (by kernel_rfl) (fun _ _ _ h => h) (Or.inl ⟨by rfl, ?_⟩) hHeld ?_ ?_
  rotate_left
  · rintro w' ⟨s0, s1⟩
    go_simp
    with_reducible rfl
  rotate_left
  · simp only [Act.put, List.setIfInBounds_toArray, List.set_cons_zero, List.set_cons_succ, i64_w, i32_w]
    rfl
  refine zp1 (i := 6) (N := some 15) #[true, true, true, false, true, false, true, false, false] rfl rfl (by kernel_rfl) ?_
  refine take_ (i := 7) (N := some 16) (v := ?_) (a' := ?_) #[true, true, true, false, true, false, true, true, false] rfl rfl (by kernel_rfl) (fun _ _ _ h => h) (Or.inl ⟨by rfl, ?_⟩) hHeld ?_ ?_
  rotate_left
  · rintro w' ⟨s0, s1⟩
    go_simp
    with_reducible rfl
  rotate_left
  · simp only [Act.put, List.setIfInBounds_toArray, List.set_cons_zero, List.set_cons_succ, i64_w, i32_w]
    rfl
  refine join_ (σ := Value × Value) 1 #[true, true, true, true, true, true, true, true, false] (fun s_ => [(12, s_.1), (14, s_.2)]) (fun s_ w' => ∃ b, s_.1 = .slice (some ⟨b, 0, none⟩) N N ∧ wd.heap.size ≤ b ∧ w'.heap[b]? = some (.cells ((List.replicate N false).map Value.bool).toArray 4 (0, 0)) ∧ Kd.R Kd.bool 4 w' wd.heap.size (fun z => wd.heap.size ≤ z ∧ z ≠ b) s_.2 o ∧ Below wd.heap.size wd w') ?_ ?_
  rotate_left
  · intro hCont
    refine two_ (i := 3) (j := 5) (Ni := some 12) (Nj := some 14) #[true, true, true, true, true, false, true, true, false] #[true, true, true, false, true, true, true, true, false] rfl rfl rfl rfl (by kernel_rfl) (by decide) (by decide) (fun K hK => ?_) (fun K hK => ?_)
    · refine value_ (w1 := wd.alloc (.cells ((List.replicate N false).map Value.bool).toArray 4 (0, 0))) (v := .slice (some ⟨wd.heap.size, 0, none⟩) N N) (by rfl) rfl ?_ ?_
      · go_simp
      refine hK.out _ _ ⟨(blk_cell (blk_alloc HBXd.out _) 0).trans rfl, (blk_cell (blk_alloc HBXd.out _) 1).trans rfl⟩ (fun hHeld => ?_)
      clear hK K
      refine zn1 ?_
      have hbw0 := blk_new wd (.cells ((List.replicate N false).map Value.bool).toArray 4 (0, 0))
      have HBa := Aside0.mk ((Below.refl wd.heap.size wd).alloc (Nat.le_refl _) (.cells ((List.replicate N false).map Value.bool).toArray 4 (0, 0)))
      have hsa : (wd.alloc (.cells ((List.replicate N false).map Value.bool).toArray 4 (0, 0))).heap.size = wd.heap.size + 1 := by simp
      have HXa := Aside0.mk (blk_alloc HBXd.out (.cells ((List.replicate N false).map Value.bool).toArray 4 (0, 0)))
      generalize wd.alloc (.cells ((List.replicate N false).map Value.bool).toArray 4 (0, 0)) = wa at *
      refine one_ (i := 5) (N := some 14) #[true, true, true, true, true, true, true, true, false] rfl rfl (by kernel_rfl) (by decide) (fun K hK => ?_)
      refine goes_ Tryz.func53 (by kernel_rfl) rfl #[.agg #[.int .i64 n, .slice A l.length c]] (by rfl) rfl rfl (by (try simp only [List.map_toArray, List.map_cons, List.map_nil]); first | done | rfl) ?_
      refine (spec_gmAll.calls k n A c l o _ (Kd.C_below HC.out (HBd.out.trans (HBa.out.mono HBd.out.size))) hc HGM.out).mono ?_
      rintro e wz ⟨v14, rfl, hR, hbz⟩
      refine ⟨_, rfl, ?_⟩
      refine hK.out _ _ ⟨(blk_cell (blk_below HXa.out hbz) 0).trans rfl, (blk_cell (blk_below HXa.out hbz) 1).trans rfl⟩ (fun hHeld => ?_)
      clear hK K
      refine zn1 ?_
      exact norm_ (by simp only [putAll, Act.put, List.setIfInBounds_toArray, List.set_cons_zero, List.set_cons_succ]) (hCont (.slice (some ⟨wd.heap.size, 0, none⟩) N N, v14) _ ⟨wd.heap.size, rfl, Nat.le_refl _, blk_below hbw0 hbz, Kd.R_lower (Kd.R_mono (Kd.R_bound hR) (fun z hz => ⟨by have := hz.2.1; omega, by have := hz.2.1; omega⟩)) (by omega), HBa.out.trans (hbz.mono HBa.out.size)⟩)
    · refine goes_ Tryz.func53 (by kernel_rfl) rfl #[.agg #[.int .i64 n, .slice A l.length c]] (by rfl) rfl rfl (by (try simp only [List.map_toArray, List.map_cons, List.map_nil]); first | done | rfl) ?_
      refine (spec_gmAll.calls k n A c l o _ (Kd.C_below HC.out HBd.out) hc HGM.out).mono ?_
      rintro e wz ⟨v14, rfl, hR, hbz⟩
      refine ⟨_, rfl, ?_⟩
      refine hK.out _ _ ⟨(blk_cell (blk_below HBXd.out hbz) 0).trans rfl, (blk_cell (blk_below HBXd.out hbz) 1).trans rfl⟩ (fun hHeld => ?_)
      clear hK K
      refine zn1 ?_
      refine one_ (i := 3) (N := some 12) #[true, true, true, true, true, true, true, true, false] rfl rfl (by kernel_rfl) (by decide) (fun K hK => ?_)
      refine value_ (w1 := wz.alloc (.cells ((List.replicate N false).map Value.bool).toArray 4 (0, 0))) (v := .slice (some ⟨wz.heap.size, 0, none⟩) N N) (by rfl) rfl ?_ ?_
      · go_simp
      refine hK.out _ _ ⟨(blk_cell (blk_alloc (blk_below HBXd.out hbz) _) 0).trans rfl, (blk_cell (blk_alloc (blk_below HBXd.out hbz) _) 1).trans rfl⟩ (fun hHeld => ?_)
      clear hK K
      refine zn1 ?_
      exact norm_ (by simp only [putAll, Act.put, List.setIfInBounds_toArray, List.set_cons_zero, List.set_cons_succ]) (hCont (.slice (some ⟨wz.heap.size, 0, none⟩) N N, v14) _ ⟨wz.heap.size, rfl, hbz.size, blk_new wz _, Kd.R_alloc (Kd.R_mono (Kd.R_bound hR) (fun z hz => ⟨hz.2.1, by have := hz.2.2; omega⟩)) _, hbz.alloc hbz.size _⟩)
  rintro ⟨v12, v14⟩ wj ⟨bw, e12, hbw, hw12, hR, hbj⟩
  dsimp only at e12 hR
  subst e12
  obtain ⟨Ao, cov, rfl⟩ := Kd.R_slice hR
  have HR := Aside0.mk hR
  have hoc := (Kd.R_reads' hR).2.1
  have HBJ := Aside0.mk (HBd.out.trans (hbj.mono HBd.out.size))
  have HOJ := Aside0.mk (blk_below HGOd.out hbj)
  have HWJ := Aside0.mk hw12
  have HXJ := Aside0.mk (blk_below HBXd.out hbj)
  have hwj := blk_lt hw12
  have hoj := blk_lt HOJ.out
  clear hR hbj hw12 HGOd HBXd HBd hHeld
  refine norm_ (a' := ?_) ?_ ?_
  rotate_left
  · simp only [putAll, Act.put, List.setIfInBounds_toArray, List.set_cons_zero, List.set_cons_succ]
    rfl
  have hne : bw ≠ w1.heap.size := by omega
  have hSt : ChSt bw w1.heap.size w wj wj (List.replicate N false) (.slice none 0 0) [] := ⟨Kd.N_nil _ _ _ _ _, HOJ.out, HWJ.out, Kept.refl _ _, HBJ.out⟩
  have hcl := spec_chWeighted.calls k n Ao cov o bw w1.heap.size w wj (Kd.C_kept_own HR.out (fun z hz he => he.elim hz.2 (fun he => by have := hz.1; omega))) hoc hne (by omega) HB1.out.size hwj hoj N HCO.out hp16 HP1.out N [] (List.replicate N false) 0 [] gs (.slice none 0 0) wj rfl (by omega) (by simp) (by simp) (by simpa using c1) HG.out hSt
  refine one_ (i := 8) (N := some 17) #[true, true, true, true, true, true, true, true, true] rfl rfl (by kernel_rfl) (by decide) (fun K hK => ?_)
  refine goes_ Tryz.func85 (by kernel_rfl) rfl #[.slice (some ⟨bw, 0, none⟩) N N, .slice Ao o.length cov, .int .i64 (0 : Nat), .int .i64 n, .pointer (some ⟨w1.heap.size, 0, none⟩)] (by rfl) rfl rfl (by (try simp only [List.map_toArray, List.map_cons, List.map_nil]); first | done | rfl) ?_
  refine hcl.mono ?_
  clear hcl hSt
  rintro e wc ⟨rfl, v1, ws', hS1, -, -⟩
  refine ⟨_, rfl, ?_⟩
  rw [List.nil_append] at hS1
  refine hK.out _ _ ⟨(blk_cell (blk_kept HXJ.out hS1.K (fun he => he.elim (fun he => by omega) (fun he => by omega))) 0).trans rfl, (blk_cell (blk_kept HXJ.out hS1.K (fun he => he.elim (fun he => by omega) (fun he => by omega))) 1).trans rfl⟩ (fun hHeld => ?_)
  clear hK K hHeld
  refine zn1 ?_
  refine done_ (by kernel_rfl) ?_
  obtain ⟨A1, cA, rfl⟩ := Kd.N_slice hS1.N
  have hx0 := (blk_cell hS1.O 0).trans rfl
  have HA := Aside0.mk (Kd.F_mono (Kd.F_bound (Kd.N_F hS1.N)) (ok' := fun z => w.heap.size ≤ z ∧ z < wc.heap.size) (fun z hz => ⟨Nat.le_trans HBJ.out.size hz.1, hz.2⟩))
  have HB := Aside0.mk hS1.B
  clear hS1 hmk hji hji_ hjiz hjiu hjiv hjiy hjix hjie hNb c00b HG HR HXJ HWJ HOJ HBJ HGM HC HCO HP1 HB1 hbw hne hoc hwj hoj hgw hg1 hs3
  obtain ⟨w1, rfl⟩ : ∃ w1, w1 = wc := ⟨wc, rfl⟩
  obtain ⟨inf, hinf, _, hinf2, _⟩ := info_parts info28
  go_wp2_with fail
  go_loopg [4, 20] gs.length (fun gg v6 v19 wr => ∃ (kk : Nat) (Ao : Option Addr) (co : Nat) (outs : List S28), kk ≤ gs.length ∧ gs.length - kk ≤ gg ∧ v6 = .slice Ao outs.length co ∧ v19 = .int .i64 kk ∧ Aside0 (outs.length = kk) ∧ outs.length ≤ co ∧ Aside0 (pzSort k (gs.drop kk) outs = some r) ∧ Aside0 (Kd.F k28 wr (fun z => w.heap.size ≤ z ∧ z < wr.heap.size) Ao outs.length outs) ∧ Aside0 (Below w1.heap.size w1 wr))
  case atStart => exact ⟨0, none, 0, [], Nat.zero_le _, Nat.le_refl _, rfl, rfl, ⟨rfl⟩, Nat.le_refl _, HH, ⟨Kd.F_nil _ _ _⟩, ⟨Below.refl _ _⟩⟩
  case round =>
    clear HH hx0
    obtain ⟨kk, Ao, co, outs, hkk, hg, rfl, rfl, HOL, hoc, HT, HO, HB1⟩ := hrel
    by_cases hlt : kk < gs.length
    · obtain ⟨wo, rfl⟩ : ∃ wo, wo = wr := ⟨wr, rfl⟩
      have hltz : (kk : Int) < (gs.length : Int) := Int.ofNat_lt.2 hlt
      have hol : outs.length < 1000000 := by have := HOL.out; omega
      obtain ⟨ad, cc, e, _, hK, hcc, _⟩ := Kd.F_get (Kd.F_below HA.out HB1.out) z28 (kk : Int) (Int.natCast_nonneg _) hltz
      subst e
      rw [Int.toNat_natCast] at hK hcc
      have hT := HT.out
      rw [pzSort_drop hlt] at hT
      generalize gs.getD kk z28 = g at hK hT
      obtain ⟨o2, ho2, hT⟩ := Option.bind_eq_some_iff.mp hT
      obtain ⟨pos, hpos, ho2⟩ := Option.bind_eq_some_iff.mp ho2
      obtain rfl := Option.some.inj ho2
      obtain ⟨Ag, cg, rfl, hgl, hgF⟩ := k28_openF hK
      have x0 : wo.cell? (ad.add (kk * 2)) = some (.int .i64 g.f0) := hcc 0 _ rfl
      have x1 : wo.cell? ⟨(ad.add (kk * 2)).block, (ad.add (kk * 2)).off + 1, none⟩ = some (.slice Ag g.f1.length cg) := by rw [← add_field _ _ 1 (by omega)]; exact hcc 1 _ rfl
      have HPOS := Aside0.mk hpos
      have HT2a := Aside0.mk hT
      have HGF := Aside0.mk (Kd.FK_mono hK (ok' := fun z => w.heap.size ≤ z ∧ z < wo.heap.size) (fun z hz => ⟨hz.1, Nat.lt_of_lt_of_le hz.2 HB1.out.size⟩))
      have HGC := Aside0.mk (Kd.F_now hgF)
      clear hK hcc hT hpos ho2 HT hgF
      go_wp2_with fail
      go_loopg [7] outs.length (fun gg v9 wr => ∃ i : Nat, i ≤ outs.length ∧ outs.length - i ≤ gg ∧ v9 = .int .i64 i ∧ Aside0 (pzPos k g (outs.drop i) i = some pos) ∧ Aside0 (Below wo.heap.size wo wr) ∧ Aside0 (wr.heap[wo.heap.size]? = some (.cells #[.int .i64 g.f0, .slice Ag g.f1.length cg] 28 (0, 0))))
      case atStart => exact ⟨0, Nat.zero_le _, Nat.le_refl _, rfl, HPOS, ⟨(Below.refl _ wo).alloc (Nat.le_refl _) _⟩, ⟨blk_new wo _⟩⟩
      case round =>
        clear HPOS x0 x1
        obtain ⟨i, hi, hgi, rfl, HPOS, HQ, HGB⟩ := hrel
        have HOQ := Aside0.mk (Kd.F_mono (Kd.F_below HO.out HQ.out) (ok' := fun z => w.heap.size ≤ z ∧ z < wr.heap.size) (fun z hz => ⟨hz.1, Nat.lt_of_lt_of_le hz.2 HQ.out.size⟩))
        have HGFQ := Aside0.mk (Kd.FK_mono (Kd.FK_below HGF.out HQ.out) (ok' := fun z => w.heap.size ≤ z ∧ z < wr.heap.size) (fun z hz => ⟨hz.1, Nat.lt_of_lt_of_le hz.2 HQ.out.size⟩))
        have HA1 := Aside0.mk (HB1.out.trans (HQ.out.mono HB1.out.size))
        have HBQ := Aside0.mk (HB.out.trans (HA1.out.mono HB.out.size))
        by_cases hil : i < outs.length
        case' pos =>
          have hiz : (i : Int) < (outs.length : Int) := Int.ofNat_lt.2 hil
          have hizb : decide ((i : Int) < (outs.length : Int)) = true := decide_eq_true hiz
          obtain ⟨bd, cc2, e2, _, hK2, hcc2, _⟩ := Kd.F_get HOQ.out z28 (i : Int) (Int.natCast_nonneg _) hiz
          subst e2
          rw [Int.toNat_natCast] at hK2 hcc2
          have hP := HPOS.out
          rw [pzPos_drop hil] at hP
          generalize outs.getD i z28 = x at hK2 hP
          obtain ⟨bb, hbb, hP⟩ := Option.bind_eq_some_iff.mp hP
          obtain ⟨Ax, cx, rfl, hxl, hxF⟩ := k28_openF hK2
          have y0 : wr.cell? (bd.add (i * 2)) = some (.int .i64 x.f0) := hcc2 0 _ rfl
          have y1 : wr.cell? ⟨(bd.add (i * 2)).block, (bd.add (i * 2)).off + 1, none⟩ = some (.slice Ax x.f1.length cx) := by rw [← add_field _ _ 1 (by omega)]; exact hcc2 1 _ rfl
          have HXC := Aside0.mk (Kd.F_now hxF)
          have HGC2 := Aside0.mk (Kd.C_below HGC.out HQ.out)
          have HBB := Aside0.mk hbb
          have HP2 := Aside0.mk hP
          have hci : (0 : Int) ≤ (i : Int) := Int.natCast_nonneg _
          have hcib : decide ((0 : Int) ≤ (i : Int)) = true := decide_eq_true hci
          clear hK2 hcc2 hP hbb hxF HPOS
          go_wp2_with fail
          refine start_ (n := 12) (S := fun w' => w'.cell? ⟨wo.heap.size, 0, none⟩ = some (.int .i64 g.f0) ∧ w'.cell? ⟨wo.heap.size, 1, none⟩ = some (.slice Ag g.f1.length cg) ∧ w'.cell? (bd.add (i * 2)) = some (.int .i64 x.f0) ∧ w'.cell? ⟨(bd.add (i * 2)).block, (bd.add (i * 2)).off + 1, none⟩ = some (.slice Ax x.f1.length cx)) (ds := []) #[false, false, false, false, false, false, false, false, false, false, false, false] (by kernel_rfl) rfl rfl (⟨(blk_cell (blk_drew HGB.out) 0).trans rfl, (blk_cell (blk_drew HGB.out) 1).trans rfl, y0, y1⟩) (fun hHeld => ?_)
          have HDR := Aside0.mk (below_drew (Below.refl wr.heap.size wr))
          generalize hwd : wr.drew = wd0 at *
          refine zp1 (i := 0) (N := some 24) #[true, false, false, false, false, false, false, false, false, false, false, false] rfl rfl (by kernel_rfl) ?_
          refine zp1 (i := 1) (N := some 25) #[true, true, false, false, false, false, false, false, false, false, false, false] rfl rfl (by kernel_rfl) ?_
          refine zp1 (i := 2) (N := some 26) #[true, true, true, false, false, false, false, false, false, false, false, false] rfl rfl (by kernel_rfl) ?_
          refine zp1 (i := 3) (N := some 27) #[true, true, true, true, false, false, false, false, false, false, false, false] rfl rfl (by kernel_rfl) ?_
          refine zp1 (i := 4) (N := some 28) #[true, true, true, true, true, false, false, false, false, false, false, false] rfl rfl (by kernel_rfl) ?_
          refine zp1 (i := 5) (N := some 29) #[true, true, true, true, true, true, false, false, false, false, false, false] rfl rfl (by kernel_rfl) ?_
          refine zp1 (i := 6) (N := some 30) #[true, true, true, true, true, true, true, false, false, false, false, false] rfl rfl (by kernel_rfl) ?_
          refine zp1 (i := 7) (N := some 31) #[true, true, true, true, true, true, true, true, false, false, false, false] rfl rfl (by kernel_rfl) ?_
          refine take_ (i := 8) (N := some 32) (v := ?_) (a' := ?_) #[true, true, true, true, true, true, true, true, true, false, false, false] rfl rfl (by kernel_rfl) (fun _ _ _ h => h) (Or.inl ⟨by rfl, ?_⟩) hHeld ?_ ?_
          rotate_left
          · rintro w' ⟨s0, s1, s2, s3⟩
            go_simp
            with_reducible rfl
          rotate_left
          · simp only [Act.put, List.setIfInBounds_toArray, List.set_cons_zero, List.set_cons_succ, i64_w, i32_w]
            rfl
          refine take_ (i := 9) (N := some 33) (v := ?_) (a' := ?_) #[true, true, true, true, true, true, true, true, true, true, false, false] rfl rfl (by kernel_rfl) (fun _ _ _ h => h) (Or.inl ⟨by rfl, ?_⟩) hHeld ?_ ?_
          rotate_left
          · rintro w' ⟨s0, s1, s2, s3⟩
            go_simp
            with_reducible rfl
          rotate_left
          · simp only [Act.put, List.setIfInBounds_toArray, List.set_cons_zero, List.set_cons_succ, i64_w, i32_w]
            rfl
          refine one_ (i := 10) (N := some 34) #[true, true, true, true, true, true, true, true, true, true, true, false] rfl rfl (by kernel_rfl) (by decide) (fun K hK => ?_)
          refine goes_ Tryz.func71 (by kernel_rfl) rfl #[.agg #[.int .i64 x.f0, .slice Ax x.f1.length cx], .agg #[.int .i64 g.f0, .slice Ag g.f1.length cg]] (by rfl) rfl rfl (by (try simp only [List.map_toArray, List.map_cons, List.map_nil]); first | done | rfl) ?_
          refine (spec_gmBefore.calls k x.f0 Ax cx x.f1 g.f0 Ag cg g.f1 bb _ (Kd.C_below HXC.out HDR.out) hxl (Kd.C_below HGC2.out HDR.out) hgl HBB.out).mono ?_
          rintro e wz ⟨rfl, hbz⟩
          refine ⟨_, rfl, ?_⟩
          have HZ := Aside0.mk (HDR.out.trans (hbz.mono HDR.out.size))
          refine hK.out _ _ (⟨(blk_cell (blk_below HGB.out HZ.out) 0).trans rfl, (blk_cell (blk_below HGB.out HZ.out) 1).trans rfl, (HZ.out.cell (World.block_lt_of_cell? wr _ y0)).trans y0, (HZ.out.cell (World.block_lt_of_cell? wr _ y1)).trans y1⟩) (fun hHeld => ?_)
          clear hK K
          refine zn1 ?_
          clear hbz y0 y1
          refine zp1 (i := 11) (N := some 35) #[true, true, true, true, true, true, true, true, true, true, true, true] rfl rfl (by kernel_rfl) ?_
          refine done_ (by kernel_rfl) ?_
          cases bb
          case true =>
            have hP := HP2.out
            rw [if_pos rfl] at hP
            have HP3 := Aside0.mk hP
            clear hP HP2
            go_wp2
            go_roundg (outs.length - (i + 1))
            case measure => exact om2 hil hgi
            case rel => exact ⟨i + 1, hil, Nat.le_refl _, by congr 1; (try exact om3 hil (Nat.le_trans (Nat.le_of_lt hol) (by decide))), HP3, ⟨HQ.out.trans (HZ.out.mono HQ.out.size)⟩, ⟨blk_below HGB.out HZ.out⟩⟩
          case' false =>
            have hP := HP2.out
            rw [if_neg (by decide)] at hP
            obtain rfl := Option.some.inj hP
            have HT2 := HT2a
            clear hP HP2
            have HGBz := Aside0.mk (blk_below HGB.out HZ.out)
            have HOQz := Aside0.mk (Kd.F_mono (Kd.F_below HOQ.out HZ.out) (ok' := fun z => w.heap.size ≤ z ∧ z < wz.heap.size) (fun z hz => ⟨hz.1, Nat.lt_of_lt_of_le hz.2 HZ.out.size⟩))
            have HGFQz := Aside0.mk (Kd.FK_mono (Kd.FK_below HGFQ.out HZ.out) (ok' := fun z => w.heap.size ≤ z ∧ z < wz.heap.size) (fun z hz => ⟨hz.1, Nat.lt_of_lt_of_le hz.2 HZ.out.size⟩))
            have HA1z := Aside0.mk (HA1.out.trans (HZ.out.mono HA1.out.size))
            have HBQz := Aside0.mk (HBQ.out.trans (HZ.out.mono HBQ.out.size))
            clear HGB HOQ HGFQ HA1 HBQ HGC HGC2 HXC HBB HT2a HGF HQ
            have HGB := HGBz
            have HOQ := HOQz
            have HGFQ := HGFQz
            have HA1 := HA1z
            have HBQ := HBQz
            clear HGBz HOQz HGFQz HA1z HBQz HZ
            obtain ⟨wd0, rfl⟩ : ∃ wd0, wd0 = wz := ⟨wz, rfl⟩
            generalize (some bd : Option Addr) = Ao at *
        case' neg =>
          have hiz : ¬ (i : Int) < (outs.length : Int) := fun e => hil (Int.ofNat_lt.1 e)
          have hizb : decide ((i : Int) < (outs.length : Int)) = false := decide_eq_false hiz
          have hie : i = outs.length := Nat.le_antisymm hi (Nat.le_of_not_lt hil)
          have hP := HPOS.out
          rw [List.drop_of_length_le (Nat.le_of_eq hie.symm)] at hP
          obtain rfl := Option.some.inj hP
          have HT2 := HT2a
          clear hP HPOS hie
          clear HGC HT2a HGF HQ
          go_wp2_with fail
          refine start_ (n := 12) (S := fun w' => w'.cell? ⟨wo.heap.size, 0, none⟩ = some (.int .i64 g.f0) ∧ w'.cell? ⟨wo.heap.size, 1, none⟩ = some (.slice Ag g.f1.length cg)) (ds := []) #[false, false, false, false, false, false, false, false, false, false, false, false] (by kernel_rfl) rfl rfl (⟨(blk_cell (blk_drew HGB.out) 0).trans rfl, (blk_cell (blk_drew HGB.out) 1).trans rfl⟩) (fun hHeld => ?_)
          have HDR := Aside0.mk (below_drew (Below.refl wr.heap.size wr))
          generalize hwd : wr.drew = wd0 at *
          refine zp1 (i := 0) (N := some 24) #[true, false, false, false, false, false, false, false, false, false, false, false] rfl rfl (by kernel_rfl) ?_
          refine zp1 (i := 1) (N := some 25) #[true, true, false, false, false, false, false, false, false, false, false, false] rfl rfl (by kernel_rfl) ?_
          refine zp1 (i := 2) (N := some 26) #[true, true, true, false, false, false, false, false, false, false, false, false] rfl rfl (by kernel_rfl) ?_
          refine zp1 (i := 3) (N := some 27) #[true, true, true, true, false, false, false, false, false, false, false, false] rfl rfl (by kernel_rfl) ?_
          refine zp1 (i := 4) (N := some 28) #[true, true, true, true, true, false, false, false, false, false, false, false] rfl rfl (by kernel_rfl) ?_
          refine pure_ (i := 5) (N := some 29) (v := undef) (a' := ?_) #[true, true, true, true, true, true, false, false, false, false, false, false] rfl rfl (by kernel_rfl) (fun _ _ _ h => h) (Or.inr ⟨by rfl, rfl⟩) ?_ ?_
          rotate_left
          · simp only [Act.put, List.setIfInBounds_toArray, List.set_cons_zero, List.set_cons_succ, i64_w, i32_w]
            rfl
          refine pure_ (i := 6) (N := some 30) (v := undef) (a' := ?_) #[true, true, true, true, true, true, true, false, false, false, false, false] rfl rfl (by kernel_rfl) (fun _ _ _ h => h) (Or.inr ⟨by rfl, rfl⟩) ?_ ?_
          rotate_left
          · simp only [Act.put, List.setIfInBounds_toArray, List.set_cons_zero, List.set_cons_succ, i64_w, i32_w]
            rfl
          refine pure_ (i := 7) (N := some 31) (v := undef) (a' := ?_) #[true, true, true, true, true, true, true, true, false, false, false, false] rfl rfl (by kernel_rfl) (fun _ _ _ h => h) (Or.inr ⟨by rfl, rfl⟩) ?_ ?_
          rotate_left
          · simp only [Act.put, List.setIfInBounds_toArray, List.set_cons_zero, List.set_cons_succ, i64_w, i32_w]
            rfl
          refine pure_ (i := 8) (N := some 32) (v := undef) (a' := ?_) #[true, true, true, true, true, true, true, true, true, false, false, false] rfl rfl (by kernel_rfl) (fun _ _ _ h => h) (Or.inr ⟨by rfl, rfl⟩) ?_ ?_
          rotate_left
          · simp only [Act.put, List.setIfInBounds_toArray, List.set_cons_zero, List.set_cons_succ, i64_w, i32_w]
            rfl
          refine pure_ (i := 9) (N := some 33) (v := undef) (a' := ?_) #[true, true, true, true, true, true, true, true, true, true, false, false] rfl rfl (by kernel_rfl) (fun _ _ _ h => h) (Or.inr ⟨by rfl, rfl⟩) ?_ ?_
          rotate_left
          · simp only [Act.put, List.setIfInBounds_toArray, List.set_cons_zero, List.set_cons_succ, i64_w, i32_w]
            rfl
          refine pure_ (i := 10) (N := some 34) (v := undef) (a' := ?_) #[true, true, true, true, true, true, true, true, true, true, true, false] rfl rfl (by kernel_rfl) (fun _ _ _ h => h) (Or.inr ⟨by rfl, rfl⟩) ?_ ?_
          rotate_left
          · simp only [Act.put, List.setIfInBounds_toArray, List.set_cons_zero, List.set_cons_succ, i64_w, i32_w]
            rfl
          refine zp1 (i := 11) (N := some 35) #[true, true, true, true, true, true, true, true, true, true, true, true] rfl rfl (by kernel_rfl) ?_
          refine done_ (by kernel_rfl) ?_
          have HGBd := Aside0.mk (blk_below HGB.out HDR.out)
          have HOQd := Aside0.mk (Kd.F_mono (Kd.F_below HOQ.out HDR.out) (ok' := fun z => w.heap.size ≤ z ∧ z < wd0.heap.size) (fun z hz => ⟨hz.1, Nat.lt_of_lt_of_le hz.2 HDR.out.size⟩))
          have HGFQd := Aside0.mk (Kd.FK_mono (Kd.FK_below HGFQ.out HDR.out) (ok' := fun z => w.heap.size ≤ z ∧ z < wd0.heap.size) (fun z hz => ⟨hz.1, Nat.lt_of_lt_of_le hz.2 HDR.out.size⟩))
          have HA1d := Aside0.mk (HA1.out.trans (HDR.out.mono HA1.out.size))
          have HBQd := Aside0.mk (HBQ.out.trans (HDR.out.mono HBQ.out.size))
          clear HGB HOQ HGFQ HA1 HBQ hHeld
          have HGB := HGBd
          have HOQ := HOQd
          have HGFQ := HGFQd
          have HA1 := HA1d
          have HBQ := HBQd
          clear HGBd HOQd HGFQd HA1d HBQd HDR
          go_wp2_with fail
        all_goals (
           have hcut1 := cut_to (P := Tryz.prog) 42 28 .i64 Tryz.underlying42 hinf Ao outs.length co (i : Int) (Int.natCast_nonneg _) (Int.ofNat_le.2 hi) hoc
           simp only [Int.toNat_natCast] at hcut1
           have hcut2 := cut_from (P := Tryz.prog) 42 28 .i64 Tryz.underlying42 hinf 2 hinf2 Ao outs.length co (i : Int) (Int.natCast_nonneg _) (Int.ofNat_le.2 hi)
           simp only [Int.toNat_natCast] at hcut2
           obtain ⟨A2c, hA2c⟩ : ∃ A2c : Option Addr, A2c = (if co = i then Ao else (Ao : Option Addr).map (·.add (i * 2))) := ⟨_, rfl⟩
           obtain ⟨c2c, hc2c⟩ : ∃ c2c : Nat, c2c = co - i := ⟨_, rfl⟩
           obtain ⟨n2c, hn2c⟩ : ∃ n2c : Nat, n2c = outs.length - i := ⟨_, rfl⟩
           rw [← hA2c, ← hc2c, ← hn2c] at hcut2
           have hib : decide (0 ≤ (i : Int)) = true := decide_eq_true (Int.natCast_nonneg _)
           have hlt1 : (outs.take i).length = i := by rw [List.length_take]; exact Nat.min_eq_left hi
           have hld1 : (outs.drop i).length = outs.length - i := List.length_drop
           have HF1 := Aside0.mk (show Kd.F k28 wd0 (fun z => w.heap.size ≤ z ∧ z < wd0.heap.size) Ao i (outs.take i) from by have := Kd.F_take HOQ.out hi; rwa [hlt1] at this)
           have HF2 := Aside0.mk (show Kd.F k28 wd0 (fun z => w.heap.size ≤ z ∧ z < wd0.heap.size) A2c n2c (outs.drop i) from by have := Kd.F_cut HOQ.out hi hoc; rw [hld1] at this; rw [hA2c, hn2c]; exact this)
           have HN2c := Aside0.mk hn2c
           clear hA2c hc2c hn2c
           go_wp2_with fail
           refine start_ (n := 9) (S := fun w' => w'.cell? ⟨wo.heap.size, 0, none⟩ = some (.int .i64 g.f0) ∧ w'.cell? ⟨wo.heap.size, 1, none⟩ = some (.slice Ag g.f1.length cg)) (ds := []) #[false, false, false, false, false, false, false, false, false] (by kernel_rfl) rfl rfl (⟨(blk_cell (blk_drew HGB.out) 0).trans rfl, (blk_cell (blk_drew HGB.out) 1).trans rfl⟩) (fun hHeld => ?_)
           have HBD := Aside0.mk (HBQ.out.trans ((below_drew (Below.refl _ _)).mono HBQ.out.size))
           have HAD := Aside0.mk (Below.trans HA1.out ((below_drew (Below.refl _ _)).mono HA1.out.size))
           have HF1d := Aside0.mk (Kd.F_drew HF1.out)
           have HF2d := Aside0.mk (Kd.F_drew HF2.out)
           have HGd := Aside0.mk (blk_drew HGB.out)
           have HGFd := Aside0.mk (Kd.FK_below HGFQ.out (below_drew (Below.refl _ _)))
           have hsz : wd0.drew.heap.size = wd0.heap.size := rfl
           clear HF1 HF2 HGB HGFQ HOQ HBQ HA1
           rw [← hsz] at HF1d HF2d HGFd
           clear hsz
           generalize wd0.drew = wd at *
           refine zp1 (i := 1) (N := some 39) #[false, true, false, false, false, false, false, false, false] rfl rfl (by kernel_rfl) ?_
           refine zp1 (i := 2) (N := some 40) #[false, true, true, false, false, false, false, false, false] rfl rfl (by kernel_rfl) ?_
           refine zp1 (i := 3) (N := some 41) #[false, true, true, true, false, false, false, false, false] rfl rfl (by kernel_rfl) ?_
           refine take_ (i := 5) (N := some 43) (v := ?_) (a' := ?_) #[false, true, true, true, false, true, false, false, false] rfl rfl (by kernel_rfl) (fun _ _ _ h => h) (Or.inl ⟨by rfl, ?_⟩) hHeld ?_ ?_
           rotate_left
           · rintro w' ⟨s0, s1⟩
             go_simp
             with_reducible rfl
           rotate_left
           · simp only [Act.put, List.setIfInBounds_toArray, List.set_cons_zero, List.set_cons_succ, i64_w, i32_w]
             rfl
           refine join_ (σ := Value × Value × Value) 2 #[true, true, true, true, true, true, true, false, false] (fun s_ => [(38, s_.1), (42, s_.2.1), (44, s_.2.2)]) (fun s_ w' => Kd.N k28 28 w' wd.heap.size (fun z => w.heap.size ≤ z) s_.2.1 (outs.take i) ∧ (∃ b, s_.2.2 = .slice (some ⟨b, 0, none⟩) 1 1 ∧ w'.heap[b]? = some (.cells #[.int .i64 g.f0, .slice Ag g.f1.length cg] 28 (0, 0)) ∧ some b ≠ s_.2.1.ownBlock) ∧ Below wd.heap.size wd w') ?_ ?_
           rotate_left
           · intro hCont
             refine two_ (i := 0) (j := 6) (Ni := some 38) (Nj := some 44) #[true, true, true, true, false, true, false, false, false] #[false, true, true, true, false, true, true, false, false] rfl rfl rfl rfl (by kernel_rfl) (by decide) (by decide) (fun K hK => ?_) (fun K hK => ?_)
             · refine Kd.N_lit_step k28 _ 28 ?hg (N' := 38) ?hd (xs := ([] : List S28)) (inner := []) (ok := fun _ => True) (okp := fun _ => False) ?hr ?hp (fun _ hk => hk.elim) trivial (Below.refl _ _) (Nat.le_refl _) (by simp) ?_
               case hd => rfl
               case hg => rfl
               case hr => first | (go_simp; done) | (go_simp; rfl)
               case hp => exact Reps.none _ _
               intro v37 wa hn37 hba _ hnew
               have HN37 := Aside0.mk (Kd.N_mono (Kd.N_lower hn37 (Nat.le_refl wd.heap.size)) (ok' := fun z => w.heap.size ≤ z ∨ True) (fun _ _ => .inr trivial))
               have hN37 : Kd.N k28 28 wa wd.heap.size (fun z => w.heap.size ≤ z) v37 [] := N_own hn37 (Nat.le_trans HBD.out.size (Nat.le_refl _))
               have HN37 := Aside0.mk hN37
               have HBa := Aside0.mk hba
               clear hn37 hba hN37 hnew
               refine hK.out _ _ ⟨(blk_cell (blk_below HGd.out HBa.out) 0).trans rfl, (blk_cell (blk_below HGd.out HBa.out) 1).trans rfl⟩ (fun hHeld => ?_)
               clear hK K
               refine zn1 ?_
               refine two_ (i := 4) (j := 6) (Ni := some 42) (Nj := some 44) #[true, true, true, true, true, true, false, false, false] #[true, true, true, true, false, true, true, false, false] rfl rfl rfl rfl (by kernel_rfl) (by decide) (by decide) (fun K hK => ?_) (fun K hK => ?_)
               · refine Kd.N_append_rows_step k28 (w0 := wd) wd.heap.size (by rfl) (.tmp 38) (.tmp 41) 42 28 (.agg #[(.int .i64 0), (.slice none 0 0)]) 32 rfl Tryz.underlying42 info28 rfl (by decide) (by omega) v37 [] (outs.take i) Ao i co (fun z => w.heap.size ≤ z) (fun z => w.heap.size ≤ z ∧ z < wd.heap.size) rfl rfl HN37.out (Kd.F_below HF1d.out HBa.out) (fun z hz => ⟨hz.1, fun he => by have := Kd.N_base HN37.out z he.symm; exact absurd hz.2 (Nat.not_lt.2 this)⟩) (fun z hz => Nat.le_trans HBD.out.size (Nat.le_trans (Below.size HBa.out) hz)) HBa.out (Below.size HBa.out) (by have := hol; simp; omega) ?_
                 intro v41 wb hn41 hbb hgb hat
                 rw [List.nil_append] at hn41
                 have HN41 := Aside0.mk hn41
                 have HBb := Aside0.mk hbb
                 clear hn41 hbb hgb hat HN37 HBa
                 refine hK.out _ _ ⟨(blk_cell (blk_below HGd.out HBb.out) 0).trans rfl, (blk_cell (blk_below HGd.out HBb.out) 1).trans rfl⟩ (fun hHeld => ?_)
                 clear hK K
                 refine zn1 ?_
                 refine one_ (i := 6) (N := some 44) #[true, true, true, true, true, true, true, false, false] rfl rfl (by kernel_rfl) (by decide) (fun K hK => ?_)
                 refine value_ (w1 := ?_) (v := ?_) (by rfl) rfl ?_ ?_
                 rotate_left 2
                 · go_simp
                   constructor
                   · rfl
                   · rfl
                 refine hK.out _ _ ⟨(blk_cell (blk_alloc (blk_below HGd.out HBb.out) _) 0).trans rfl, (blk_cell (blk_alloc (blk_below HGd.out HBb.out) _) 1).trans rfl⟩ (fun hHeld => ?_)
                 clear hK K
                 refine zn1 ?_
                 exact norm_ (by simp only [putAll, Act.put, List.setIfInBounds_toArray, List.set_cons_zero, List.set_cons_succ]) (hCont (v37, v41, .slice (some ⟨wb.heap.size, 0, none⟩) 1 1) _ ⟨Kd.N_alloc HN41.out _, ⟨_, rfl, blk_new wb _, fun he => Nat.lt_irrefl _ (Kd.N_lt HN41.out _ he.symm)⟩, HBb.out.alloc HBb.out.size _⟩)
               · refine value_ (w1 := ?_) (v := ?_) (by rfl) rfl ?_ ?_
                 rotate_left 2
                 · go_simp
                   constructor
                   · rfl
                   · rfl
                 refine hK.out _ _ ⟨(blk_cell (blk_alloc (blk_below HGd.out HBa.out) _) 0).trans rfl, (blk_cell (blk_alloc (blk_below HGd.out HBa.out) _) 1).trans rfl⟩ (fun hHeld => ?_)
                 clear hK K
                 refine zn1 ?_
                 have hb43 := blk_new wa (.cells #[.int .i64 g.f0, .slice Ag g.f1.length cg] 28 (0, 0))
                 have hne43 : some wa.heap.size ≠ v37.ownBlock := fun he => Nat.lt_irrefl _ (Kd.N_lt HN37.out _ he.symm)
                 have HN37b := Aside0.mk (Kd.N_alloc HN37.out (.cells #[.int .i64 g.f0, .slice Ag g.f1.length cg] 28 (0, 0)))
                 have HBab := Aside0.mk (HBa.out.alloc HBa.out.size (.cells #[.int .i64 g.f0, .slice Ag g.f1.length cg] 28 (0, 0)))
                 refine one_ (i := 4) (N := some 42) #[true, true, true, true, true, true, true, false, false] rfl rfl (by kernel_rfl) (by decide) (fun K hK => ?_)
                 refine Kd.N_append_rows_step k28 (w0 := wd) wd.heap.size (by rfl) (.tmp 38) (.tmp 41) 42 28 (.agg #[(.int .i64 0), (.slice none 0 0)]) 32 rfl Tryz.underlying42 info28 rfl (by decide) (by omega) v37 [] (outs.take i) Ao i co (fun z => w.heap.size ≤ z) (fun z => w.heap.size ≤ z ∧ z < wd.heap.size) rfl rfl HN37b.out (Kd.F_below HF1d.out HBab.out) (fun z hz => ⟨hz.1, fun he => by have := Kd.N_base HN37b.out z he.symm; exact absurd hz.2 (Nat.not_lt.2 this)⟩) (fun z hz => Nat.le_trans HBD.out.size (Nat.le_trans (Below.size HBab.out) hz)) HBab.out (Below.size HBab.out) (by have := hol; simp; omega) ?_
                 intro v41 wb hn41 hbb hgb hat
                 rw [List.nil_append] at hn41
                 have hb43' := blk_grown hb43 hgb hne43
                 have hne41 : some wa.heap.size ≠ v41.ownBlock := by
                   rcases hat with hat | ⟨bb, hbb', hle⟩
                   · rw [hat]; exact hne43
                   · rw [hbb']; intro he; injection he with he; have := blk_lt hb43; omega
                 refine hK.out _ _ ⟨(blk_cell (blk_below HGd.out hbb) 0).trans rfl, (blk_cell (blk_below HGd.out hbb) 1).trans rfl⟩ (fun hHeld => ?_)
                 clear hK K
                 refine zn1 ?_
                 exact norm_ (by simp only [putAll, Act.put, List.setIfInBounds_toArray, List.set_cons_zero, List.set_cons_succ]) (hCont (v37, v41, .slice (some ⟨wa.heap.size, 0, none⟩) 1 1) _ ⟨hn41, ⟨_, rfl, hb43', hne41⟩, hbb⟩)
             · refine value_ (w1 := ?_) (v := ?_) (by rfl) rfl ?_ ?_
               rotate_left 2
               · go_simp
                 constructor
                 · rfl
                 · rfl
               refine hK.out _ _ ⟨(blk_cell (blk_alloc HGd.out _) 0).trans rfl, (blk_cell (blk_alloc HGd.out _) 1).trans rfl⟩ (fun hHeld => ?_)
               clear hK K
               refine zn1 ?_
               have hb430 := blk_new wd (.cells #[.int .i64 g.f0, .slice Ag g.f1.length cg] 28 (0, 0))
               have HBe := Aside0.mk ((Below.refl _ wd).alloc (Nat.le_refl _) (.cells #[.int .i64 g.f0, .slice Ag g.f1.length cg] 28 (0, 0)))
               refine one_ (i := 0) (N := some 38) #[true, true, true, true, false, true, true, false, false] rfl rfl (by kernel_rfl) (by decide) (fun K hK => ?_)
               refine Kd.N_lit_step k28 _ 28 ?hg (N' := 38) ?hd (xs := ([] : List S28)) (inner := []) (ok := fun _ => True) (okp := fun _ => False) ?hr ?hp (fun _ hk => hk.elim) trivial (Below.refl _ _) (Nat.le_refl _) (by simp) ?_
               case hd => rfl
               case hg => rfl
               case hr => first | (go_simp; done) | (go_simp; rfl)
               case hp => exact Reps.none _ _
               intro v37 wa hn37 hba _ hnew
               have hN37 : Kd.N k28 28 wa wd.heap.size (fun z => w.heap.size ≤ z) v37 [] := Kd.N_lower (N_own hn37 (Nat.le_trans HBD.out.size HBe.out.size)) HBe.out.size
               have hb43 := blk_below hb430 hba
               have hne43 : some wd.heap.size ≠ v37.ownBlock := fun he => by have h1 := Kd.N_base hn37 _ he.symm; have h2 := blk_lt hb430; omega
               have HBab := Aside0.mk (HBe.out.trans (hba.mono HBe.out.size))
               have HN37b := Aside0.mk hN37
               clear hn37 hba hN37 hnew
               refine hK.out _ _ ⟨(blk_cell (blk_below HGd.out HBab.out) 0).trans rfl, (blk_cell (blk_below HGd.out HBab.out) 1).trans rfl⟩ (fun hHeld => ?_)
               clear hK K
               refine zn1 ?_
               refine one_ (i := 4) (N := some 42) #[true, true, true, true, true, true, true, false, false] rfl rfl (by kernel_rfl) (by decide) (fun K hK => ?_)
               refine Kd.N_append_rows_step k28 (w0 := wd) wd.heap.size (by rfl) (.tmp 38) (.tmp 41) 42 28 (.agg #[(.int .i64 0), (.slice none 0 0)]) 32 rfl Tryz.underlying42 info28 rfl (by decide) (by omega) v37 [] (outs.take i) Ao i co (fun z => w.heap.size ≤ z) (fun z => w.heap.size ≤ z ∧ z < wd.heap.size) rfl rfl HN37b.out (Kd.F_below HF1d.out HBab.out) (fun z hz => ⟨hz.1, fun he => by have := Kd.N_base HN37b.out z he.symm; exact absurd hz.2 (Nat.not_lt.2 this)⟩) (fun z hz => Nat.le_trans HBD.out.size (Nat.le_trans (Below.size HBab.out) hz)) HBab.out (Below.size HBab.out) (by have := hol; simp; omega) ?_
               intro v41 wb hn41 hbb hgb hat
               rw [List.nil_append] at hn41
               have hb43' := blk_grown hb43 hgb hne43
               have hne41 : some wd.heap.size ≠ v41.ownBlock := by
                 rcases hat with hat | ⟨bb, hbb', hle⟩
                 · rw [hat]; exact hne43
                 · rw [hbb']; intro he; injection he with he; have := blk_lt hb43; omega
               refine hK.out _ _ ⟨(blk_cell (blk_below HGd.out hbb) 0).trans rfl, (blk_cell (blk_below HGd.out hbb) 1).trans rfl⟩ (fun hHeld => ?_)
               clear hK K
               refine zn1 ?_
               exact norm_ (by simp only [putAll, Act.put, List.setIfInBounds_toArray, List.set_cons_zero, List.set_cons_succ]) (hCont (v37, v41, .slice (some ⟨wd.heap.size, 0, none⟩) 1 1) _ ⟨hn41, ⟨_, rfl, hb43', hne41⟩, hbb⟩)
           rintro ⟨v37, v41, v43⟩ w' ⟨hn41, ⟨b, hb43e, hb43, hne41⟩, hbw⟩
           dsimp only at hn41 hb43e hne41
           subst hb43e
           have HN41 := Aside0.mk hn41
           have HBW := Aside0.mk hbw
           have HB43 := Aside0.mk hb43
           have HNE := Aside0.mk hne41
           clear hn41 hbw hb43 hne41
           refine norm_ (a' := ?_) ?_ ?_
           rotate_left
           · simp only [putAll, Act.put, List.setIfInBounds_toArray, List.set_cons_zero, List.set_cons_succ]
             rfl
           refine one_ (i := 7) (N := some 45) #[true, true, true, true, true, true, true, true, false] rfl rfl (by kernel_rfl) (by decide) (fun K hK => ?_)
           refine N_append_rr_step k28 (w0 := wd) wd.heap.size (by rfl) (.tmp 42) (.tmp 44) 42 28 (.agg #[(.int .i64 0), (.slice none 0 0)]) 32 rfl Tryz.underlying42 info28 rfl (by decide) (by omega) v41 (outs.take i) [g] (some ⟨b, 0, none⟩) 1 1 (fun z => w.heap.size ≤ z) (fun z => w.heap.size ≤ z ∧ z < wd.heap.size) rfl rfl HN41.out (rr_one HB43.out (Kd.FK_below HGFd.out HBW.out)) (fun z hz => ⟨hz.1, fun he => by have := Kd.N_base HN41.out z he.symm; exact absurd hz.2 (Nat.not_lt.2 this)⟩) (fun z hz => Nat.le_trans HBD.out.size (Nat.le_trans HBW.out.size hz)) HBW.out HBW.out.size (by rw [hlt1]; have := hol; omega) ?_
           intro v44 wc hn44 hbc _ _
           obtain ⟨A44, c44, rfl⟩ := Kd.N_slice hn44
           have HN44 := Aside0.mk hn44
           have HBC := Aside0.mk hbc
           clear hn44 hbc HN41 HBW HB43 HNE
           refine hK.out _ _ ⟨(blk_cell (blk_below HGd.out HBC.out) 0).trans rfl, (blk_cell (blk_below HGd.out HBC.out) 1).trans rfl⟩ (fun hHeld => ?_)
           clear hK K
           refine zn1 ?_
           refine zp1 (i := 8) (N := some 8) #[true, true, true, true, true, true, true, true, true] rfl rfl (by kernel_rfl) ?_
           refine done_ (by kernel_rfl) ?_
           have hl44 : (outs.take i ++ [g]).length = i + 1 := by rw [List.length_append, hlt1]; rfl
           have hn44 := HN44.out
           rw [hl44] at hn44
           have HN45 := Aside0.mk hn44
           clear hn44 HN44
           go_wp2_with ((with_reducible refine gate_builtin (b := .append) (xs := #[.tmp 46, .tmp 49]) rfl ?_); at_builtin; refine Kd.N_append_rows k28 (w0 := wd) wd.heap.size rfl (.tmp 46) (.tmp 49) 42 28 (.agg #[(.int .i64 0), (.slice none 0 0)]) 32 rfl Tryz.underlying42 info28 rfl (by decide) (by omega) (.slice A44 (i + 1) c44) (outs.take i ++ [g]) (outs.drop i) A2c n2c c2c (fun z => w.heap.size ≤ z) (fun z => w.heap.size ≤ z ∧ z < wd.heap.size) rfl rfl HN45.out (Kd.F_below HF2d.out HBC.out) (fun z hz => ⟨hz.1, fun he => by have := Kd.N_base HN45.out z he.symm; exact absurd hz.2 (Nat.not_lt.2 this)⟩) (fun z hz => Nat.le_trans HBD.out.size (Nat.le_trans HBC.out.size hz)) HBC.out HBC.out.size (by rw [hl44, HN2c.out]; have := hol; omega) ?_; intro v49 we hn49 hbe _ _; obtain ⟨A49, c49, rfl⟩ := Kd.N_slice hn49; have HN49 := Aside0.mk hn49; have HBE := Aside0.mk hbe; clear hn49 hbe)
           have hl3 : (outs.take i ++ [g] ++ outs.drop i).length = outs.length + 1 := by rw [List.length_append, hl44, hld1]; exact om6 hi
           go_roundg (gs.length - (kk + 1))
           case measure => exact om2 hlt hg
           case rel => exact ⟨kk + 1, A49, c49, outs.take i ++ [g] ++ outs.drop i, hlt, Nat.le_refl _, by first | rfl | (simp; done) | (congr 1; simp; omega), by congr 1; (try exact om3 hlt (Nat.le_trans c1 (by decide))), ⟨by rw [hl3, HOL.out]⟩, (Kd.N_reads' HN49.out).2.1, HT2, ⟨Kd.F_bound (Kd.N_F HN49.out)⟩, ⟨HAD.out.trans (HBE.out.mono HAD.out.size)⟩⟩)
    · have hkl : kk = gs.length := Nat.le_antisymm hkk (Nat.le_of_not_lt hlt)
      have hltz : ¬ (kk : Int) < (gs.length : Int) := fun e => hlt (Int.ofNat_lt.1 e)
      subst hkl
      have hT := HT.out
      rw [List.drop_length] at hT
      obtain rfl := Option.some.inj hT
      go_wp2
      go_ret
      exact ⟨_, rfl, ⟨Ao, co, rfl, hoc, Kd.F_mono HO.out (fun z hz => hz.1)⟩, HB.out.trans (HB1.out.mono HB.out.size)⟩
def chLoop (k : Nat) (F : Nat → List Bool → List S28 → Option (List S28 × Bool)) (now : List Bool) (b : List S28) : List S28 → Nat → Option (List S28 × Bool)
  | [], _ => some ([], false)
  | g :: gs, i => (spec_gmAll.f k g.f0 g.f1).bind fun nx => if nx.length = now.length then (F (i + 1) (List.zipWith (fun x y => x && y) nx now) (b ++ [g])).bind fun r => if r.2 = true then some (r.1, true) else chLoop k F now b gs (i + 1) else none
def spec_chLook.f (k : Nat) (gl : List S28) (ov : List Bool) : Nat → Nat → List Bool → List S28 → Option (List S28 × Bool)
  | 0, _, now, b => (spec_weSame.f k now ov).bind fun t => some (b, t)
  | m + 1, i, now, b => chLoop k (spec_chLook.f k gl ov m) now b (gl.drop i) i
theorem chLoop_drop {k : Nat} {F : Nat → List Bool → List S28 → Option (List S28 × Bool)} {now : List Bool} {b gl : List S28} {i j : Nat} (h : i < gl.length) :
    chLoop k F now b (gl.drop i) j = (spec_gmAll.f k (gl.getD i z28).f0 (gl.getD i z28).f1).bind fun nx => if nx.length = now.length then (F (j + 1) (List.zipWith (fun x y => x && y) nx now) (b ++ [gl.getD i z28])).bind fun r => if r.2 = true then some (r.1, true) else chLoop k F now b (gl.drop (i + 1)) (j + 1) else none := by
  rw [List.drop_eq_getElem_cons h, List.getD_eq_getElem?_getD, List.getElem?_eq_getElem h]; rfl
def andP (nx now : List Bool) (j : Nat) : List Bool := List.zipWith (fun x y => x && y) (nx.take j) (now.take j) ++ nx.drop j
theorem omq {a b : Nat} (h : a = b) (hb : 1 ≤ b) : 0 < a := by omega
theorem zip_len {a b : List Bool} (h : a.length = b.length) : (List.zipWith (fun x y => x && y) a b).length = a.length := by rw [List.length_zipWith]; omega
theorem wmA {m : Nat} (h : m ≤ 1000000) : wrap64 (((m + 1 : Nat) : Int) - 1) = (m : Int) := by unfold wrap64; omega
theorem wmB {m : Nat} (h : m ≤ 1000000) : wrap64 (m : Int) = (m : Int) := by unfold wrap64; omega
theorem wmC {m : Nat} (h : m ≤ 1000000) : wrap64 ((m : Int) + 1 - 1) = (m : Int) := by unfold wrap64; omega
theorem andP_zero (nx now : List Bool) : andP nx now 0 = nx := by simp [andP]
theorem andP_end {nx now : List Bool} (h : nx.length = now.length) : andP nx now now.length = List.zipWith (fun x y => x && y) nx now := by
  unfold andP
  rw [List.take_of_length_le (by omega), List.take_of_length_le (Nat.le_refl _), List.drop_of_length_le (by omega), List.append_nil]
theorem andP_get {nx now : List Bool} (h : nx.length = now.length) {j : Nat} (hj : j < now.length) : rdOf false (andP nx now j) (j : Int) = nx.getD j false := by
  have hz : (List.zipWith (fun x y => x && y) (nx.take j) (now.take j)).length = j := by rw [List.length_zipWith, List.length_take, List.length_take]; omega
  unfold rdOf andP
  rw [Int.toNat_natCast, List.getD_eq_getElem?_getD, List.getElem?_append_right (by omega), hz, Nat.sub_self, List.getElem?_drop, Nat.add_zero, List.getD_eq_getElem?_getD]
theorem andP_set {nx now : List Bool} (h : nx.length = now.length) {j : Nat} (hj : j < now.length) : (andP nx now j).set j (nx.getD j false && now.getD j false) = andP nx now (j + 1) := by
  have hz : (List.zipWith (fun x y => x && y) (nx.take j) (now.take j)).length = j := by rw [List.length_zipWith, List.length_take, List.length_take]; omega
  have h1 : j < nx.length := by omega
  unfold andP
  rw [List.set_append_right _ _ (by omega), hz, Nat.sub_self, List.drop_eq_getElem_cons h1, List.set_cons_zero, List.take_succ_eq_append_getElem h1, List.take_succ_eq_append_getElem hj, List.zipWith_append (by rw [List.length_take, List.length_take]; omega), List.append_assoc]
  rw [List.getD_eq_getElem?_getD, List.getD_eq_getElem?_getD, List.getElem?_eq_getElem h1, List.getElem?_eq_getElem hj]; rfl
set_option maxHeartbeats 24000000 in
set_option maxRecDepth 100000 in
theorem spec_chLook.calls (k : Nat) (gl : List S28) (Ag : Option Addr) (cg : Nat) (hcg : gl.length ≤ cg) (hgl : gl.length ≤ 1000000) (ov : List Bool) (Ao : Option Addr) (co : Nat) (hco : ov.length ≤ co) (bs : Nat) (w0 : World) (hbs : bs ≤ w0.heap.size)
    (hG : Kd.F k28 w0 (fun z => bs ≤ z ∧ z < w0.heap.size) Ag gl.length gl) (hO : Kd.C Kd.bool w0 Ao ov.length ov) :
    ∀ (m i : Nat) (now : List Bool) (An : Option Addr) (cn : Nat) (b : List S28) (Ab : Option Addr) (cb : Nat) (r : List S28) (t : Bool) (w : World), Below w0.heap.size w0 w → now.length ≤ cn → 1 ≤ now.length → b.length ≤ cb → i ≤ gl.length → b.length + m ≤ 1000000 → Kd.C Kd.bool w An now.length now → Kd.F k28 w (fun z => bs ≤ z ∧ z < w.heap.size) Ab b.length b → spec_chLook.f k gl ov m i now b = some (r, t) →
    Calls Tryz.prog 52 #[.slice Ag gl.length cg, .int .i64 i, .int .i64 m, .slice An now.length cn, .slice Ao ov.length co, .slice Ab b.length cb] w fun e w' => ∃ v0_ : Value, e = .returned (.tuple #[v0_, .bool t]) ∧ Kd.V k28 28 w' bs (fun z => bs ≤ z ∧ z < w'.heap.size) v0_ r ∧ Below w.heap.size w w' := by
  have HG := Aside0.mk hG
  have HO := Aside0.mk hO
  clear hG hO
  intro m
  induction m with
  | zero =>
    intro i now An cn b Ab cb r t w hB hcn hn1 hcb hi hbm hN hF h
    rw [spec_chLook.f] at h
    replace h := Option.bind_eq_some_iff.mp h
    obtain ⟨t', ht, h⟩ := h
    simp only [Option.some.injEq, Prod.mk.injEq] at h
    obtain ⟨rfl, rfl⟩ := h
    have HT := Aside0.mk ht
    have HN := Aside0.mk hN
    have HF := Aside0.mk hF
    have HB := Aside0.mk hB
    clear ht hN hF hB hbm
    go_enter Tryz.func52, Tryz.ntmps52
    go_wp2_with (go_at_call 86; refine (spec_weSame.calls k An cn now Ao co ov t' _ HN.out hcn (Kd.C_below HO.out HB.out) hco HT.out).mono ?_; rintro e w1 ⟨rfl, hb⟩; have HB1 := Aside0.mk hb.below; clear hb)
    go_ret2
    exact ⟨_, by first | rfl | (simp [*] <;> rfl), ⟨Ab, cb, rfl, hcb, Kd.F_mono (Kd.F_below HF.out HB1.out) (fun z hz => ⟨hz.1, Nat.lt_of_lt_of_le hz.2 HB1.out.size⟩)⟩, HB1.out⟩
  | succ m IH =>
    intro i now An cn b Ab cb r t w hB hcn hn1 hcb hi hbm hN hF h
    obtain ⟨adn, eAn, _⟩ := Kd.at_bool hN (0 : Int) (Int.le_refl _) (by omega)
    subst eAn
    have HB32 := Aside0.mk (show (b.length + 1) * 32 ≤ 140737488355328 by omega)
    have HB33 := Aside0.mk (show (([] : List S28).length + b.length) * 32 ≤ 140737488355328 by simp only [List.length_nil]; omega)
    have HBM2 := Aside0.mk (show b.length + 1 + m ≤ 1000000 by omega)
    have hm0 : (((m + 1 : Nat) : Int) == 0) = false := beq_eq_false_iff_ne.2 (by omega)
    have hm1 : ¬ (((m + 1 : Nat) : Int) = 0) := by omega
    have hm9 : m ≤ 1000000 := Nat.le_trans (Nat.le_succ m) (Nat.le_trans (Nat.le_add_left _ _) hbm)
    have HMW := Aside0.mk (wmA hm9)
    have HMW2 := Aside0.mk (wmB hm9)
    have HMW3 := Aside0.mk (wmC hm9)
    clear hm9
    rw [spec_chLook.f] at h
    have IH := Aside0.mk IH
    have HH := Aside0.mk h
    have HN := Aside0.mk hN
    have HF := Aside0.mk hF
    have HB := Aside0.mk hB
    have HBM := Aside0.mk hbm
    clear h hN hF hB hbm
    obtain ⟨inf, hinf, _, hinf2, _⟩ := info_parts info28
    go_enter Tryz.func52, Tryz.ntmps52
    go_wp2
    go_loopg [14] gl.length (fun gg v14 wr => ∃ kk : Nat, kk ≤ gl.length ∧ gl.length - kk ≤ gg ∧ v14 = .int .i64 kk ∧ Aside0 (chLoop k (spec_chLook.f k gl ov m) now b (gl.drop kk) kk = some (r, t)) ∧ Aside0 (Below w.heap.size w wr))
    case atStart => exact ⟨i, hi, Nat.sub_le _ _, rfl, HH, ⟨Below.refl _ _⟩⟩
    case round =>
      clear HH
      obtain ⟨kk, hkk, hg, rfl, HT, HB1⟩ := hrel
      obtain ⟨wo, rfl⟩ : ∃ wo, wo = wr := ⟨wr, rfl⟩
      by_cases hlt : kk < gl.length
      · have hltz : (kk : Int) < (gl.length : Int) := Int.ofNat_lt.2 hlt
        have hltb : decide ((kk : Int) < (gl.length : Int)) = true := decide_eq_true hltz
        have hk1 : wrap64 ((kk : Int) + 1) = ((kk + 1 : Nat) : Int) := om3 hlt (Nat.le_trans hgl (by decide))
        have HB01 := Aside0.mk (HB.out.trans (HB1.out.mono HB.out.size))
        obtain ⟨ad, cc, e, hcl, hK, hcc, _⟩ := Kd.F_get (Kd.F_below HG.out HB01.out) z28 (kk : Int) (Int.natCast_nonneg _) hltz
        subst e
        rw [Int.toNat_natCast] at hK hcc
        have hT := HT.out
        rw [chLoop_drop hlt] at hT
        generalize gl.getD kk z28 = g at hK hT
        replace hT := Option.bind_eq_some_iff.mp hT
        obtain ⟨nx, hnx, hT⟩ := hT
        by_cases c1 : nx.length = now.length
        case neg => rw [if_neg c1] at hT; cases hT
        rw [if_pos c1] at hT
        replace hT := Option.bind_eq_some_iff.mp hT
        obtain ⟨⟨r1, t1⟩, hr1, hT⟩ := hT
        obtain ⟨A0, c0, rfl, hl0, hgF⟩ := k28_openF hK
        have x0 : wo.cell? (ad.add (kk * 2)) = some (.int .i64 g.f0) := hcc 0 _ rfl
        have x1 : wo.cell? ⟨(ad.add (kk * 2)).block, (ad.add (kk * 2)).off + 1, none⟩ = some (.slice A0 g.f1.length c0) := by rw [← add_field _ _ 1 (by decide)]; exact hcc 1 _ rfl
        have HNX := Aside0.mk hnx
        have HR1 := Aside0.mk hr1
        have HT2 := Aside0.mk hT
        have HK := Aside0.mk (Kd.FK_mono hK (ok' := fun z => bs ≤ z ∧ z < wo.heap.size) (fun z hz => ⟨hz.1, Nat.lt_of_lt_of_le hz.2 HB01.out.size⟩))
        have HGC := Aside0.mk (Kd.F_now hgF)
        have HX0 := Aside0.mk x0
        have HX1 := Aside0.mk x1
        have HC1 := Aside0.mk c1
        clear hK hcc hcl hT hnx hr1 HT hgF c1
        go_wp2_with (go_at_call 53; refine (spec_gmAll.calls k g.f0 A0 c0 g.f1 nx _ HGC.out hl0 HNX.out).mono ?_; rintro e w1 ⟨vn, rfl, hR, hb⟩; have HR := Aside0.mk hR; have HBW := Aside0.mk hb; clear x0 x1 hb hR; obtain ⟨gn, cn2, e2, hgn, hgn2, _⟩ := Kd.R_form HR.out (omq HC1.out hn1); subst e2)
        have HGN := Aside0.mk hgn
        clear hgn hgn2
        go_loopg [39] nx.length (fun gg v39 wr => ∃ j : Nat, j ≤ nx.length ∧ nx.length - j ≤ gg ∧ v39 = .int .i64 j ∧ Aside0 (Kd.R Kd.bool 4 wr wo.heap.size (fun _ => True) (.slice (some ⟨gn, 0, none⟩) nx.length cn2) (andP nx now j)) ∧ Aside0 (Below wo.heap.size wo wr))
        case atStart => exact ⟨0, Nat.zero_le _, Nat.le_refl _, rfl, ⟨by rw [andP_zero]; exact HR.out⟩, HBW⟩
        case round =>
          clear HR HBW
          obtain ⟨j, hj, hg2, rfl, HR, HBW⟩ := hrel
          by_cases hjl : j < nx.length
          · have hjz : (j : Int) < (nx.length : Int) := Int.ofNat_lt.2 hjl
            have hjn : j < now.length := HC1.out ▸ hjl
            have hjnz : (j : Int) < (now.length : Int) := Int.ofNat_lt.2 hjn
            have hjb : decide ((j : Int) < (nx.length : Int)) = true := decide_eq_true hjz
            obtain ⟨ad2, e2, y0⟩ := Kd.at_bool (Kd.C_below HN.out (HB1.out.trans (HBW.out.mono HB1.out.size))) (j : Int) (Int.natCast_nonneg _) hjnz
            injection e2 with e2
            subst e2
            obtain ⟨hx, hf⟩ := Kd.R_celln false HR.out (j : Int) (Int.natCast_nonneg _) hjz
            rw [Int.toNat_natCast] at y0 hx hf
            rw [andP_get HC1.out hjn] at hx
            rw [show rdOf false now (j : Int) = now.getD j false from by unfold rdOf; rw [Int.toNat_natCast]] at y0
            have hS := Kd.R_putn HR.out (j : Int) (nx.getD j false && now.getD j false)
            rw [Int.toNat_natCast, andP_set HC1.out hjn] at hS
            have HS := Aside0.mk hS
            have HB2 := Aside0.mk (below_set (j := j) (v := .bool (nx.getD j false && now.getD j false)) HBW.out HGN.out)
            clear hS HR HBW
            generalize nx.getD j false = b1 at hx HS HB2
            generalize now.getD j false = b2 at y0 HS HB2
            have hw3 : wrap64 ((j : Int) + 1) = ((j + 1 : Nat) : Int) := om3 hjn (Kd.C_max HN.out)
            cases b1
            case false =>
              go_wp2
              go_roundg (nx.length - (j + 1))
              case measure => exact om2 hjl hg2
              case rel => exact ⟨j + 1, hjl, Nat.le_refl _, by congr 1, HS, HB2⟩
            case true =>
              go_wp2
              go_roundg (nx.length - (j + 1))
              case measure => exact om2 hjl hg2
              case rel => exact ⟨j + 1, hjl, Nat.le_refl _, by congr 1, HS, HB2⟩
          · have hje : j = nx.length := Nat.le_antisymm hj (Nat.le_of_not_lt hjl)
            subst hje
            have hR2 := HR.out
            rw [show andP nx now nx.length = List.zipWith (fun x y => x && y) nx now from by rw [show nx.length = now.length from HC1.out]; exact andP_end HC1.out] at hR2
            have hzl : (List.zipWith (fun x y => x && y) nx now).length = nx.length := zip_len HC1.out
            have HR2 := Aside0.mk hR2
            have HZL := Aside0.mk hzl
            clear HR hR2 hzl
            generalize List.zipWith (fun x y => x && y) nx now = nz at HR2 HZL HR1
            have HBD := Aside0.mk (HBW.out.trans ((below_drew (Below.refl wr.heap.size wr)).mono HBW.out.size))
            have HR3 := Aside0.mk (Kd.R_drew HR2.out)
            have HFd := Aside0.mk (Kd.F_mono (Kd.F_below HF.out (HB1.out.trans (HBD.out.mono HB1.out.size))) (ok' := fun z => bs ≤ z ∧ z < wr.drew.heap.size) (fun z hz => ⟨hz.1, Nat.lt_of_lt_of_le hz.2 (Nat.le_trans HB1.out.size HBD.out.size)⟩))
            have HKd := Aside0.mk (Kd.FK_mono (Kd.FK_below HK.out HBD.out) (ok' := fun z => bs ≤ z ∧ z < wr.drew.heap.size) (fun z hz => ⟨hz.1, Nat.lt_of_lt_of_le hz.2 HBD.out.size⟩))
            have HS0 := Aside0.mk ((HBD.out.cell (World.block_lt_of_cell? wo _ HX0.out)).trans HX0.out)
            have HS1 := Aside0.mk ((HBD.out.cell (World.block_lt_of_cell? wo _ HX1.out)).trans HX1.out)
            have HBS := Aside0.mk (show bs ≤ wr.drew.heap.size from Nat.le_trans hbs (Nat.le_trans HB01.out.size HBD.out.size))
            clear HR2 HF HK HX0 HX1 HBW
            go_wp2_with fail
            refine start_ (n := 22) (S := fun w' => w'.cell? (ad.add (kk * 2)) = some (.int .i64 g.f0) ∧ w'.cell? ⟨(ad.add (kk * 2)).block, (ad.add (kk * 2)).off + 1, none⟩ = some (.slice A0 g.f1.length c0)) (ds := []) #[false, false, false, false, false, false, false, false, false, false, false, false, false, false, false, false, false, false, false, false, false, false] (by kernel_rfl) rfl rfl (⟨HS0.out, HS1.out⟩) (fun hHeld => ?_)
            generalize wr.drew = wd at *
            refine zp1 (i := 0) (N := some 57) #[true, false, false, false, false, false, false, false, false, false, false, false, false, false, false, false, false, false, false, false, false, false] rfl rfl (by kernel_rfl) ?_
            refine zp1 (i := 1) (N := some 58) #[true, true, false, false, false, false, false, false, false, false, false, false, false, false, false, false, false, false, false, false, false, false] rfl rfl (by kernel_rfl) ?_
            refine zp1 (i := 2) (N := some 59) #[true, true, true, false, false, false, false, false, false, false, false, false, false, false, false, false, false, false, false, false, false, false] rfl rfl (by kernel_rfl) ?_
            refine zp1 (i := 3) (N := some 60) #[true, true, true, true, false, false, false, false, false, false, false, false, false, false, false, false, false, false, false, false, false, false] rfl rfl (by kernel_rfl) ?_
            refine zp1 (i := 4) (N := some 61) #[true, true, true, true, true, false, false, false, false, false, false, false, false, false, false, false, false, false, false, false, false, false] rfl rfl (by kernel_rfl) ?_
            refine zp1 (i := 5) (N := some 62) #[true, true, true, true, true, true, false, false, false, false, false, false, false, false, false, false, false, false, false, false, false, false] rfl rfl (by kernel_rfl) ?_
            refine zp1 (i := 6) (N := some 63) #[true, true, true, true, true, true, true, false, false, false, false, false, false, false, false, false, false, false, false, false, false, false] rfl rfl (by kernel_rfl) ?_
            refine zp1 (i := 8) (N := some 65) #[true, true, true, true, true, true, true, false, true, false, false, false, false, false, false, false, false, false, false, false, false, false] rfl rfl (by kernel_rfl) ?_
            refine zp1 (i := 10) (N := some 67) #[true, true, true, true, true, true, true, false, true, false, true, false, false, false, false, false, false, false, false, false, false, false] rfl rfl (by kernel_rfl) ?_
            refine zp1 (i := 11) (N := some 68) #[true, true, true, true, true, true, true, false, true, false, true, true, false, false, false, false, false, false, false, false, false, false] rfl rfl (by kernel_rfl) ?_
            refine zp1 (i := 12) (N := some 69) #[true, true, true, true, true, true, true, false, true, false, true, true, true, false, false, false, false, false, false, false, false, false] rfl rfl (by kernel_rfl) ?_
            refine take_ (i := 13) (N := some 70) (v := ?_) (a' := ?_) #[true, true, true, true, true, true, true, false, true, false, true, true, true, true, false, false, false, false, false, false, false, false] rfl rfl (by kernel_rfl) (fun _ _ _ h => h) (Or.inl ⟨by rfl, ?_⟩) hHeld ?_ ?_
            rotate_left
            · rintro w' ⟨s0, s1⟩
              go_simp
              with_reducible rfl
            rotate_left
            · simp only [Act.put, List.setIfInBounds_toArray, List.set_cons_zero, List.set_cons_succ, i64_w, i32_w]
              rfl
            refine join_ (σ := Value × Value × Value) 7 #[true, true, true, true, true, true, true, true, true, true, true, true, true, true, true, false, false, false, false, false, false, false] (fun s_ => [(64, s_.1), (66, s_.2.1), (71, s_.2.2)]) (fun s_ w' => Kd.N k28 28 w' wd.heap.size (fun z => bs ≤ z) s_.2.1 b ∧ (∃ q, s_.2.2 = .slice (some ⟨q, 0, none⟩) 1 1 ∧ w'.heap[q]? = some (.cells #[.int .i64 g.f0, .slice A0 g.f1.length c0] 28 (0, 0)) ∧ some q ≠ s_.2.1.ownBlock) ∧ Below wd.heap.size wd w') ?_ ?_
            rotate_left
            · intro hCont
              refine two_ (i := 7) (j := 14) (Ni := some 64) (Nj := some 71) #[true, true, true, true, true, true, true, true, true, false, true, true, true, true, false, false, false, false, false, false, false, false] #[true, true, true, true, true, true, true, false, true, false, true, true, true, true, true, false, false, false, false, false, false, false] rfl rfl rfl rfl (by kernel_rfl) (by decide) (by decide) (fun K hK => ?_) (fun K hK => ?_)
              · refine Kd.N_lit_step k28 _ 28 ?hg (N' := 64) ?hd (xs := ([] : List S28)) (inner := []) (ok := fun _ => True) (okp := fun _ => False) ?hr ?hp (fun _ hk => hk.elim) trivial (Below.refl _ _) (Nat.le_refl _) (by simp) ?_
                case hd => rfl
                case hg => rfl
                case hr => first | (go_simp; done) | (go_simp; rfl)
                case hp => exact Reps.none _ _
                intro v37 wa hn37 hba _ hnew
                have hN37 : Kd.N k28 28 wa wd.heap.size (fun z => bs ≤ z) v37 [] := N_own hn37 HBS.out
                have HN37 := Aside0.mk hN37
                have HBa := Aside0.mk hba
                clear hn37 hba hN37 hnew
                refine hK.out _ _ ⟨((HBa.out : Below wd.heap.size wd _).cell (World.block_lt_of_cell? wd _ HS0.out)).trans HS0.out, ((HBa.out : Below wd.heap.size wd _).cell (World.block_lt_of_cell? wd _ HS1.out)).trans HS1.out⟩ (fun hHeld => ?_)
                clear hK K
                refine zn1 ?_
                refine two_ (i := 9) (j := 14) (Ni := some 66) (Nj := some 71) #[true, true, true, true, true, true, true, true, true, true, true, true, true, true, false, false, false, false, false, false, false, false] #[true, true, true, true, true, true, true, true, true, false, true, true, true, true, true, false, false, false, false, false, false, false] rfl rfl rfl rfl (by kernel_rfl) (by decide) (by decide) (fun K hK => ?_) (fun K hK => ?_)
                · refine Kd.N_append_rows_step k28 (w0 := wd) wd.heap.size (by rfl) (.tmp 64) (.tmp 65) 42 28 (.agg #[(.int .i64 0), (.slice none 0 0)]) 32 rfl Tryz.underlying42 info28 rfl (by decide) (by decide) v37 [] b Ab b.length cb (fun z => bs ≤ z) (fun z => bs ≤ z ∧ z < wd.heap.size) rfl rfl HN37.out (Kd.F_below HFd.out HBa.out) (fun z hz => ⟨hz.1, fun he => by have := Kd.N_base HN37.out z he.symm; exact absurd hz.2 (Nat.not_lt.2 this)⟩) (fun z hz => Nat.le_trans HBS.out (Nat.le_trans (Below.size HBa.out) hz)) HBa.out (Below.size HBa.out) HB33.out ?_
                  intro v41 wb hn41 hbb hgb hat
                  rw [List.nil_append] at hn41
                  have HN41 := Aside0.mk hn41
                  have HBb := Aside0.mk hbb
                  clear hn41 hbb hgb hat HN37 HBa
                  refine hK.out _ _ ⟨((HBb.out : Below wd.heap.size wd _).cell (World.block_lt_of_cell? wd _ HS0.out)).trans HS0.out, ((HBb.out : Below wd.heap.size wd _).cell (World.block_lt_of_cell? wd _ HS1.out)).trans HS1.out⟩ (fun hHeld => ?_)
                  clear hK K
                  refine zn1 ?_
                  refine one_ (i := 14) (N := some 71) #[true, true, true, true, true, true, true, true, true, true, true, true, true, true, true, false, false, false, false, false, false, false] rfl rfl (by kernel_rfl) (by decide) (fun K hK => ?_)
                  refine value_ (w1 := ?_) (v := ?_) (by rfl) rfl ?_ ?_
                  rotate_left 2
                  · go_simp
                    constructor
                    · rfl
                    · rfl
                  refine hK.out _ _ ⟨(((Below.alloc HBb.out (Below.size HBb.out) (.cells #[.int .i64 g.f0, .slice A0 g.f1.length c0] 28 (0, 0))) : Below wd.heap.size wd _).cell (World.block_lt_of_cell? wd _ HS0.out)).trans HS0.out, (((Below.alloc HBb.out (Below.size HBb.out) (.cells #[.int .i64 g.f0, .slice A0 g.f1.length c0] 28 (0, 0))) : Below wd.heap.size wd _).cell (World.block_lt_of_cell? wd _ HS1.out)).trans HS1.out⟩ (fun hHeld => ?_)
                  clear hK K
                  refine zn1 ?_
                  exact norm_ (by simp only [putAll, Act.put, List.setIfInBounds_toArray, List.set_cons_zero, List.set_cons_succ]) (hCont (v37, v41, .slice (some ⟨wb.heap.size, 0, none⟩) 1 1) _ ⟨Kd.N_alloc HN41.out _, ⟨_, rfl, blk_new wb _, fun he => Nat.lt_irrefl _ (Kd.N_lt HN41.out _ he.symm)⟩, HBb.out.alloc HBb.out.size _⟩)
                · refine value_ (w1 := ?_) (v := ?_) (by rfl) rfl ?_ ?_
                  rotate_left 2
                  · go_simp
                    constructor
                    · rfl
                    · rfl
                  refine hK.out _ _ ⟨(((Below.alloc HBa.out (Below.size HBa.out) (.cells #[.int .i64 g.f0, .slice A0 g.f1.length c0] 28 (0, 0))) : Below wd.heap.size wd _).cell (World.block_lt_of_cell? wd _ HS0.out)).trans HS0.out, (((Below.alloc HBa.out (Below.size HBa.out) (.cells #[.int .i64 g.f0, .slice A0 g.f1.length c0] 28 (0, 0))) : Below wd.heap.size wd _).cell (World.block_lt_of_cell? wd _ HS1.out)).trans HS1.out⟩ (fun hHeld => ?_)
                  clear hK K
                  refine zn1 ?_
                  have hb43 := blk_new wa (.cells #[.int .i64 g.f0, .slice A0 g.f1.length c0] 28 (0, 0))
                  have hne43 : some wa.heap.size ≠ v37.ownBlock := fun he => Nat.lt_irrefl _ (Kd.N_lt HN37.out _ he.symm)
                  have HN37b := Aside0.mk (Kd.N_alloc HN37.out (.cells #[.int .i64 g.f0, .slice A0 g.f1.length c0] 28 (0, 0)))
                  have HBab := Aside0.mk (HBa.out.alloc HBa.out.size (.cells #[.int .i64 g.f0, .slice A0 g.f1.length c0] 28 (0, 0)))
                  refine one_ (i := 9) (N := some 66) #[true, true, true, true, true, true, true, true, true, true, true, true, true, true, true, false, false, false, false, false, false, false] rfl rfl (by kernel_rfl) (by decide) (fun K hK => ?_)
                  refine Kd.N_append_rows_step k28 (w0 := wd) wd.heap.size (by rfl) (.tmp 64) (.tmp 65) 42 28 (.agg #[(.int .i64 0), (.slice none 0 0)]) 32 rfl Tryz.underlying42 info28 rfl (by decide) (by decide) v37 [] b Ab b.length cb (fun z => bs ≤ z) (fun z => bs ≤ z ∧ z < wd.heap.size) rfl rfl HN37b.out (Kd.F_below HFd.out HBab.out) (fun z hz => ⟨hz.1, fun he => by have := Kd.N_base HN37b.out z he.symm; exact absurd hz.2 (Nat.not_lt.2 this)⟩) (fun z hz => Nat.le_trans HBS.out (Nat.le_trans (Below.size HBab.out) hz)) HBab.out (Below.size HBab.out) HB33.out ?_
                  intro v41 wb hn41 hbb hgb hat
                  rw [List.nil_append] at hn41
                  have hb43' := blk_grown hb43 hgb hne43
                  have hne41 : some wa.heap.size ≠ v41.ownBlock := by
                    rcases hat with hat | ⟨bb, hbb', hle⟩
                    · rw [hat]; exact hne43
                    · rw [hbb']; intro he; injection he with he; exact absurd he (Nat.ne_of_lt (Nat.lt_of_lt_of_le (blk_lt hb43) hle))
                  refine hK.out _ _ ⟨((hbb : Below wd.heap.size wd _).cell (World.block_lt_of_cell? wd _ HS0.out)).trans HS0.out, ((hbb : Below wd.heap.size wd _).cell (World.block_lt_of_cell? wd _ HS1.out)).trans HS1.out⟩ (fun hHeld => ?_)
                  clear hK K
                  refine zn1 ?_
                  exact norm_ (by simp only [putAll, Act.put, List.setIfInBounds_toArray, List.set_cons_zero, List.set_cons_succ]) (hCont (v37, v41, .slice (some ⟨wa.heap.size, 0, none⟩) 1 1) _ ⟨hn41, ⟨_, rfl, hb43', hne41⟩, hbb⟩)
              · refine value_ (w1 := ?_) (v := ?_) (by rfl) rfl ?_ ?_
                rotate_left 2
                · go_simp
                  constructor
                  · rfl
                  · rfl
                refine hK.out _ _ ⟨(((Below.alloc (Below.refl wd.heap.size wd) (Below.size (Below.refl wd.heap.size wd)) (.cells #[.int .i64 g.f0, .slice A0 g.f1.length c0] 28 (0, 0))) : Below wd.heap.size wd _).cell (World.block_lt_of_cell? wd _ HS0.out)).trans HS0.out, (((Below.alloc (Below.refl wd.heap.size wd) (Below.size (Below.refl wd.heap.size wd)) (.cells #[.int .i64 g.f0, .slice A0 g.f1.length c0] 28 (0, 0))) : Below wd.heap.size wd _).cell (World.block_lt_of_cell? wd _ HS1.out)).trans HS1.out⟩ (fun hHeld => ?_)
                clear hK K
                refine zn1 ?_
                have hb430 := blk_new wd (.cells #[.int .i64 g.f0, .slice A0 g.f1.length c0] 28 (0, 0))
                have HBe := Aside0.mk ((Below.refl _ wd).alloc (Nat.le_refl _) (.cells #[.int .i64 g.f0, .slice A0 g.f1.length c0] 28 (0, 0)))
                refine one_ (i := 7) (N := some 64) #[true, true, true, true, true, true, true, true, true, false, true, true, true, true, true, false, false, false, false, false, false, false] rfl rfl (by kernel_rfl) (by decide) (fun K hK => ?_)
                refine Kd.N_lit_step k28 _ 28 ?hg (N' := 64) ?hd (xs := ([] : List S28)) (inner := []) (ok := fun _ => True) (okp := fun _ => False) ?hr ?hp (fun _ hk => hk.elim) trivial (Below.refl _ _) (Nat.le_refl _) (by simp) ?_
                case hd => rfl
                case hg => rfl
                case hr => first | (go_simp; done) | (go_simp; rfl)
                case hp => exact Reps.none _ _
                intro v37 wa hn37 hba _ hnew
                have hN37 : Kd.N k28 28 wa wd.heap.size (fun z => bs ≤ z) v37 [] := Kd.N_lower (N_own hn37 (Nat.le_trans HBS.out HBe.out.size)) HBe.out.size
                have hb43 := blk_below hb430 hba
                have hne43 : some wd.heap.size ≠ v37.ownBlock := fun he => absurd (Kd.N_base hn37 _ he.symm) (Nat.not_le.2 (blk_lt hb430))
                have HBab := Aside0.mk (HBe.out.trans (hba.mono HBe.out.size))
                have HN37b := Aside0.mk hN37
                clear hn37 hba hN37 hnew
                refine hK.out _ _ ⟨((HBab.out : Below wd.heap.size wd _).cell (World.block_lt_of_cell? wd _ HS0.out)).trans HS0.out, ((HBab.out : Below wd.heap.size wd _).cell (World.block_lt_of_cell? wd _ HS1.out)).trans HS1.out⟩ (fun hHeld => ?_)
                clear hK K
                refine zn1 ?_
                refine one_ (i := 9) (N := some 66) #[true, true, true, true, true, true, true, true, true, true, true, true, true, true, true, false, false, false, false, false, false, false] rfl rfl (by kernel_rfl) (by decide) (fun K hK => ?_)
                refine Kd.N_append_rows_step k28 (w0 := wd) wd.heap.size (by rfl) (.tmp 64) (.tmp 65) 42 28 (.agg #[(.int .i64 0), (.slice none 0 0)]) 32 rfl Tryz.underlying42 info28 rfl (by decide) (by decide) v37 [] b Ab b.length cb (fun z => bs ≤ z) (fun z => bs ≤ z ∧ z < wd.heap.size) rfl rfl HN37b.out (Kd.F_below HFd.out HBab.out) (fun z hz => ⟨hz.1, fun he => by have := Kd.N_base HN37b.out z he.symm; exact absurd hz.2 (Nat.not_lt.2 this)⟩) (fun z hz => Nat.le_trans HBS.out (Nat.le_trans (Below.size HBab.out) hz)) HBab.out (Below.size HBab.out) HB33.out ?_
                intro v41 wb hn41 hbb hgb hat
                rw [List.nil_append] at hn41
                have hb43' := blk_grown hb43 hgb hne43
                have hne41 : some wd.heap.size ≠ v41.ownBlock := by
                  rcases hat with hat | ⟨bb, hbb', hle⟩
                  · rw [hat]; exact hne43
                  · rw [hbb']; intro he; injection he with he; exact absurd he (Nat.ne_of_lt (Nat.lt_of_lt_of_le (blk_lt hb43) hle))
                refine hK.out _ _ ⟨((hbb : Below wd.heap.size wd _).cell (World.block_lt_of_cell? wd _ HS0.out)).trans HS0.out, ((hbb : Below wd.heap.size wd _).cell (World.block_lt_of_cell? wd _ HS1.out)).trans HS1.out⟩ (fun hHeld => ?_)
                clear hK K
                refine zn1 ?_
                exact norm_ (by simp only [putAll, Act.put, List.setIfInBounds_toArray, List.set_cons_zero, List.set_cons_succ]) (hCont (v37, v41, .slice (some ⟨wd.heap.size, 0, none⟩) 1 1) _ ⟨hn41, ⟨_, rfl, hb43', hne41⟩, hbb⟩)
            rintro ⟨v37, v41, v43⟩ w' ⟨hn41, ⟨q, hb43e, hb43, hne41⟩, hbw⟩
            dsimp only at hn41 hb43e hne41
            subst hb43e
            have HN41 := Aside0.mk hn41
            have HBW := Aside0.mk hbw
            have HB43 := Aside0.mk hb43
            have HNE := Aside0.mk hne41
            clear hn41 hbw hb43 hne41
            refine norm_ (a' := ?_) ?_ ?_
            rotate_left
            · simp only [putAll, Act.put, List.setIfInBounds_toArray, List.set_cons_zero, List.set_cons_succ]
              rfl
            refine one_ (i := 15) (N := some 72) #[true, true, true, true, true, true, true, true, true, true, true, true, true, true, true, true, false, false, false, false, false, false] rfl rfl (by kernel_rfl) (by decide) (fun K hK => ?_)
            refine N_append_rr_step k28 (w0 := wd) wd.heap.size (by rfl) (.tmp 66) (.tmp 71) 42 28 (.agg #[(.int .i64 0), (.slice none 0 0)]) 32 rfl Tryz.underlying42 info28 rfl (by decide) (by decide) v41 b [g] (some ⟨q, 0, none⟩) 1 1 (fun z => bs ≤ z) (fun z => bs ≤ z ∧ z < wd.heap.size) rfl rfl HN41.out (rr_one HB43.out (Kd.FK_below HKd.out HBW.out)) (fun z hz => ⟨hz.1, fun he => by have := Kd.N_base HN41.out z he.symm; exact absurd hz.2 (Nat.not_lt.2 this)⟩) (fun z hz => Nat.le_trans HBS.out (Nat.le_trans HBW.out.size hz)) HBW.out HBW.out.size HB32.out ?_
            intro v44 wc hn44 hbc _ _
            obtain ⟨A44, c44, rfl⟩ := Kd.N_slice hn44
            have HN44 := Aside0.mk hn44
            have HBC := Aside0.mk hbc
            clear hn44 hbc HN41 HBW HB43 HNE
            refine hK.out _ _ ⟨((HBC.out : Below wd.heap.size wd _).cell (World.block_lt_of_cell? wd _ HS0.out)).trans HS0.out, ((HBC.out : Below wd.heap.size wd _).cell (World.block_lt_of_cell? wd _ HS1.out)).trans HS1.out⟩ (fun hHeld => ?_)
            clear hK K
            refine zn1 ?_
            have hlb : (b ++ [g]).length = b.length + 1 := by rw [List.length_append]; rfl
            have hlz : nz.length = now.length := HZL.out.trans HC1.out
            have HBX := Aside0.mk (HBD.out.trans (HBC.out.mono HBD.out.size))
            have hcl := IH.out (kk + 1) nz (some ⟨gn, 0, none⟩) cn2 (b ++ [g]) A44 c44 r1 t1 wc (HB01.out.trans (HBX.out.mono HB01.out.size)) (by have := (Kd.R_reads' HR3.out).2.1; rw [HZL.out]; exact this) (by rw [hlz]; exact hn1) (Kd.N_reads' HN44.out).2.1 hlt (by rw [hlb]; exact HBM2.out) (by have := Kd.C_below (Kd.R_reads' HR3.out).2.2 HBC.out; first | exact this | rwa [HZL.out] | rwa [← HZL.out]) (Kd.F_mono (Kd.F_bound (Kd.N_F HN44.out)) (fun z hz => hz)) HR1.out
            rw [HZL.out] at hcl
            have HCL := Aside0.mk hcl
            clear hcl hlz hlb
            refine one_ (i := 16) (N := some 73) #[true, true, true, true, true, true, true, true, true, true, true, true, true, true, true, true, true, false, false, false, false, false] rfl rfl (by kernel_rfl) (by decide) (fun K hK => ?_)
            refine goes_ Tryz.func52 (by kernel_rfl) rfl #[.slice (some ad) gl.length cg, .int .i64 (wrap64 ((kk : Int) + 1)), .int .i64 (wrap64 (m : Int)), .slice (some ⟨gn, 0, none⟩) nx.length cn2, .slice Ao ov.length co, .slice A44 (b ++ [g]).length c44] (by rfl) rfl rfl (by simp only [List.map_toArray, List.map_cons, List.map_nil]; rfl) ?_
            rw [hk1, HMW2.out]
            refine HCL.out.mono ?_
            clear HCL
            rintro e we ⟨ve, rfl, hV, hbe⟩
            refine ⟨_, rfl, ?_⟩
            have HBE := Aside0.mk (HBC.out.trans (hbe.mono HBC.out.size))
            have HV := Aside0.mk hV
            clear hV hbe
            refine hK.out _ _ ⟨((HBE.out : Below wd.heap.size wd _).cell (World.block_lt_of_cell? wd _ HS0.out)).trans HS0.out, ((HBE.out : Below wd.heap.size wd _).cell (World.block_lt_of_cell? wd _ HS1.out)).trans HS1.out⟩ (fun hHeld => ?_)
            clear hK K
            refine zn1 ?_
            refine zp1 (i := 17) (N := some 56) #[true, true, true, true, true, true, true, true, true, true, true, true, true, true, true, true, true, true, false, false, false, false] rfl rfl (by kernel_rfl) ?_
            refine zp1 (i := 18) (N := some 74) #[true, true, true, true, true, true, true, true, true, true, true, true, true, true, true, true, true, true, true, false, false, false] rfl rfl (by kernel_rfl) ?_
            refine zp1 (i := 19) (N := some 75) #[true, true, true, true, true, true, true, true, true, true, true, true, true, true, true, true, true, true, true, true, false, false] rfl rfl (by kernel_rfl) ?_
            refine zp1 (i := 20) (N := some 17) #[true, true, true, true, true, true, true, true, true, true, true, true, true, true, true, true, true, true, true, true, true, false] rfl rfl (by kernel_rfl) ?_
            refine zp1 (i := 21) (N := some 18) #[true, true, true, true, true, true, true, true, true, true, true, true, true, true, true, true, true, true, true, true, true, true] rfl rfl (by kernel_rfl) ?_
            refine done_ (by kernel_rfl) ?_
            have HB1e := Aside0.mk (HB1.out.trans ((HBD.out.trans (HBE.out.mono HBD.out.size)).mono HB1.out.size))
            have HFe := Aside0.mk (Kd.F_mono (Kd.F_below HFd.out HBE.out) (ok' := fun z => bs ≤ z ∧ z < we.heap.size) (fun z hz => ⟨hz.1, Nat.lt_of_lt_of_le hz.2 HBE.out.size⟩))
            have hT2 := HT2.out
            cases t1
            case false =>
              rw [if_neg (by decide)] at hT2
              have HT3 := Aside0.mk hT2
              clear hT2 HT2
              go_wp2
              go_roundg (gl.length - (kk + 1))
              case measure => exact om2 hlt hg
              case rel => exact ⟨kk + 1, hlt, Nat.le_refl _, by congr 1, HT3, HB1e⟩
            case true =>
              rw [if_pos rfl] at hT2
              simp only [Option.some.injEq, Prod.mk.injEq] at hT2
              obtain ⟨rfl, rfl⟩ := hT2
              go_wp2
              go_ret2
              exact ⟨_, by first | rfl | (simp [*] <;> rfl), HV.out, HB1e.out⟩
      · have hkl : kk = gl.length := Nat.le_antisymm hkk (Nat.le_of_not_lt hlt)
        have hltz : ¬ (kk : Int) < (gl.length : Int) := fun e => hlt (Int.ofNat_lt.1 e)
        subst hkl
        have hT := HT.out
        rw [List.drop_length] at hT
        simp only [chLoop, Option.some.injEq, Prod.mk.injEq] at hT
        obtain ⟨rfl, rfl⟩ := hT
        go_wp2
        go_ret2
        exact ⟨_, by first | rfl | (simp [*] <;> rfl), Kd.V_nil _ _ _ _ _, HB1.out⟩
def chNd (k : Nat) (gs : List S28) (ov : List Bool) (N : Nat) : Nat → Nat → Option (List S28)
  | 0, _ => some []
  | d + 1, c => (spec_chLook.f k gs ov c 0 (List.replicate N true) []).bind fun r => if r.2 = true then some r.1 else chNd k gs ov N d (c + 1)
def spec_chNeeded.f (k : Nat) (n : Int) (l : List (List Int)) : Option (List S28) := if 0 ≤ n ∧ n ≤ 16 then (spec_chGames.f k n l).bind fun gs => (spec_gmAll.f k n l).bind fun ov => if gs.length ≤ 1000000 then chNd k gs ov (2 ^ n.toNat) 4 1 else none else none
theorem ones_len {N j : Nat} (h : j < N) : j < (List.replicate j true ++ List.replicate (N - j) false).length := by rw [List.length_append, List.length_replicate, List.length_replicate]; omega
theorem om5q {q : Nat} (h : q ≤ 4) : 5 - q = 5 - (q + 1) + 1 := by omega
theorem om0q {q : Nat} (h : q ≤ 5) : ([] : List S28).length + q ≤ 1000000 := by simp only [List.length_nil]; omega
theorem om6q {q : Nat} (h : q ≤ 5) (h2 : ¬ q ≤ 4) : q = 5 := by omega
theorem ones_set {N j : Nat} (h : j < N) : ((List.replicate j true ++ List.replicate (N - j) false).map Value.bool).toArray.setIfInBounds j (.bool true) = ((List.replicate (j + 1) true ++ List.replicate (N - (j + 1)) false).map Value.bool).toArray := by
  rw [List.setIfInBounds_toArray, ← List.map_set, List.set_append_right _ _ (by rw [List.length_replicate]; exact Nat.le_refl _), List.length_replicate, Nat.sub_self, show N - j = N - (j + 1) + 1 by omega, List.replicate_succ, List.set_cons_zero, List.replicate_succ', List.append_assoc]; rfl
set_option maxHeartbeats 8000000 in
set_option maxRecDepth 100000 in
theorem spec_chNeeded.calls (k : Nat) (n : Int) (A : Option Addr) (c : Nat) (l : List (List Int)) (r : List S28) (w : World) (hC : Kd.C (Kd.slice 3 (Kd.int .i64)) w A l.length l) (hc : l.length ≤ c) (h : spec_chNeeded.f k n l = some r) :
    Calls Tryz.prog 28 #[.agg #[.int .i64 n, .slice A l.length c]] w fun e w' => ∃ v0_ : Value, e = .returned v0_ ∧ Kd.V k28 28 w' w.heap.size (fun k_ => w.heap.size ≤ k_) v0_ r ∧ Below w.heap.size w w' := by
  unfold spec_chNeeded.f at h
  by_cases c0 : 0 ≤ n ∧ n ≤ 16
  case neg => rw [if_neg c0] at h; cases h
  rw [if_pos c0] at h
  obtain ⟨gs, hgs, h⟩ := Option.bind_eq_some_iff.mp h
  obtain ⟨ov, hov, h⟩ := Option.bind_eq_some_iff.mp h
  by_cases c1 : gs.length ≤ 1000000
  case neg => rw [if_neg c1] at h; cases h
  rw [if_pos c1] at h
  have hp16 : 2 ^ n.toNat ≤ 65536 := Nat.pow_le_pow_right (n := 2) (by decide) (show n.toNat ≤ 16 by omega)
  have hp1 : 1 ≤ 2 ^ n.toNat := Nat.one_le_two_pow
  have hji : shl .i64 1 n = ((2 ^ n.toNat : Nat) : Int) := by rw [shl_one n c0]; simp
  generalize 2 ^ n.toNat = N at hji h hp16 hp1
  have hji_ : (IntKind.i64.wrap (1 * 2 ^ min n.toNat 64)) = (N : Int) := hji
  have hjiz : n ≤ 64 → (IntKind.i64.wrap (1 * 2 ^ n.toNat)) = (N : Int) := shl_small hji
  have hjiu : (IntKind.i64.wrap (2 ^ min n.toNat 64)) = (N : Int) := by have h_ := hji_; rw [Int.one_mul] at h_; exact h_
  have hjiv : n ≤ 64 → (IntKind.i64.wrap (2 ^ n.toNat)) = (N : Int) := fun hle_ => by have h_ := hjiz hle_; rw [Int.one_mul] at h_; exact h_
  have hjiy : (wrap64 (1 * 2 ^ min n.toNat 64)) = (N : Int) := (i64_w _).symm.trans hji_
  have hjix : n ≤ 64 → (wrap64 (1 * 2 ^ n.toNat)) = (N : Int) := fun h_ => (i64_w _).symm.trans (hjiz h_)
  have hjie := (i64_w _).symm.trans (hjiv (by omega))
  have hmk := run_falses N hp16
  have c00 := c0.1
  have c00b : decide (0 ≤ n) = true := decide_eq_true c00
  have hNb : decide (0 ≤ (N : Int)) = true := decide_eq_true (Int.natCast_nonneg _)
  have HGS := Aside0.mk hgs
  have HOV := Aside0.mk hov
  have HH := Aside0.mk h
  have HC := Aside0.mk hC
  have HP := Aside0.mk (show 1 ≤ N ∧ N ≤ 65536 from ⟨hp1, hp16⟩)
  clear hgs hov h hC hp1 hp16
  have huG := Tryz.underlying28
  go_enter Tryz.func28, Tryz.ntmps28
  go_wp2_with (first
    | ((with_reducible refine gate_dst (N := 1) rfl ?_); refine box_event ?hg (N := 1) ?hd (cs := #[.int .i64 n, .slice A l.length c]) (t := 28) ?hr ?_; (case hd => rfl); (case hg => rfl); (case hr => first | (go_simp; done) | (go_simp; rfl)); intro gb hgb w1 hbox hb1; have HBX := Aside0.mk hbox; have HB1 := Aside0.mk hb1; have hgw : w.heap.size ≤ gb := Nat.le_of_eq hgb.symm; have z0_ : w1.cell? ⟨gb, 0, none⟩ = some (.int .i64 n) := (blk_cell hbox 0).trans rfl; have z1_ : w1.cell? ⟨gb, 1, none⟩ = some (.slice A l.length c) := (blk_cell hbox 1).trans rfl; have f0_ := blk_frozen hbox 0; have f1_ := blk_frozen hbox 1; clear hbox hb1 hgb)
    | (go_at_call 51; refine (spec_chGames.calls k n A c l gs _ (Kd.C_below HC.out HB1.out) hc HGS.out).mono ?_; rintro e w2 ⟨v3, rfl, hV, hb⟩; obtain ⟨Ag, cg, rfl, hcg, hF⟩ := hV; have HF := Aside0.mk (Kd.F_mono (Kd.F_bound hF) (ok' := fun z => w.heap.size ≤ z ∧ z < w2.heap.size) (fun z hz => ⟨Nat.le_trans HB1.out.size hz.1, hz.2⟩)); have HB2 := Aside0.mk (HB1.out.trans (hb.mono HB1.out.size)); have HBX2 := Aside0.mk (blk_below HBX.out hb); clear z0_ z1_ f0_ f1_ hF hb HBX; have z0_ : w2.cell? ⟨gb, 0, none⟩ = some (.int .i64 n) := (blk_cell HBX2.out 0).trans rfl; have z1_ : w2.cell? ⟨gb, 1, none⟩ = some (.slice A l.length c) := (blk_cell HBX2.out 1).trans rfl; have f0_ := blk_frozen HBX2.out 0; have f1_ := blk_frozen HBX2.out 1))
  have HCG := Aside0.mk hcg
  clear z0_ z1_ f0_ f1_ hmk hji hji_ hjiz hjiu hjiv hjiy hjix hjie c00b HGS HB1 hcg
  go_loopg [17] N (fun gg v17 wr => ∃ j : Nat, j ≤ N ∧ N - j ≤ gg ∧ v17 = .int .i64 j ∧ Aside0 (wr.heap[w2.heap.size]? = some (.cells ((List.replicate j true ++ List.replicate (N - j) false).map Value.bool).toArray 4 (0, 0))) ∧ Aside0 (Below w2.heap.size w2 wr))
  case atStart => exact ⟨0, Nat.zero_le _, Nat.le_refl _, rfl, ⟨by have h1 := blk_new w2 (.cells (Array.replicate N (.bool false)) 4); rw [h1, List.replicate_zero, List.nil_append, Nat.sub_zero, List.map_replicate, List.toArray_replicate]⟩, ⟨(Below.refl _ w2).alloc (Nat.le_refl _) _⟩⟩
  case round =>
    obtain ⟨j, hj, hg, rfl, HW, HB3⟩ := hrel
    by_cases hjl : j < N
    · have hjz : (j : Int) < (N : Int) := Int.ofNat_lt.2 hjl
      have hjb : decide ((j : Int) < (N : Int)) = true := decide_eq_true hjz
      have hln := ones_len hjl
      have hx : wr.cell? ⟨w2.heap.size, j, none⟩ = some (.bool (List.replicate j true ++ List.replicate (N - j) false)[j]) := by rw [blk_cell HW.out, List.getElem?_toArray, List.getElem?_map, List.getElem?_eq_getElem hln]; rfl
      have hf := blk_frozen HW.out j
      generalize (List.replicate j true ++ List.replicate (N - j) false)[j] = b0 at hx
      have HWS := Aside0.mk (blk_put HW.out j (.bool true) (ones_set hjl))
      have HBS := Aside0.mk (below_set (j := j) (v := .bool true) HB3.out (Nat.le_refl _))
      have hw3 : wrap64 ((j : Int) + 1) = ((j + 1 : Nat) : Int) := om3 hjl (Nat.le_trans HP.out.2 (by decide))
      clear hln HW HB3
      go_wp2
      go_roundg (N - (j + 1))
      case measure => exact om2 hjl hg
      case rel => exact ⟨j + 1, hjl, Nat.le_refl _, by congr 1, HWS, HBS⟩
    · have hje : j = N := Nat.le_antisymm hj (Nat.le_of_not_lt hjl)
      subst hje
      obtain ⟨wo, rfl⟩ : ∃ wo, wo = wr := ⟨wr, rfl⟩
      have hW := HW.out
      rw [Nat.sub_self, List.replicate_zero, List.append_nil] at hW
      have HW2 := Aside0.mk hW
      have HF2 := Aside0.mk (Kd.F_below HF.out HB3.out)
      have HBW := Aside0.mk (HB2.out.trans (HB3.out.mono HB2.out.size))
      have HBX3 := Aside0.mk (blk_below HBX2.out HB3.out)
      have hsz := HB3.out.size
      clear hW HW
      go_wp2
      go_loopg [6] 4 (fun gg v6 wr => ∃ q : Nat, 1 ≤ q ∧ q ≤ 5 ∧ 5 - q ≤ gg ∧ v6 = .int .i64 q ∧ Aside0 (chNd k gs ov j (5 - q) q = some r) ∧ Aside0 (Below wo.heap.size wo wr))
      case atStart => exact ⟨1, Nat.le_refl _, by decide, by decide, rfl, HH, ⟨Below.refl _ _⟩⟩
      case round =>
        clear HH
        obtain ⟨q, hq1, hq5, hg2, rfl, HT, HB4⟩ := hrel
        by_cases hql : q ≤ 4
        · have hqz : (q : Int) ≤ 4 := Int.ofNat_le.2 hql
          have hqb : decide ((q : Int) ≤ 4) = true := decide_eq_true hqz
          have hw4 : wrap64 ((q : Int) + 1) = ((q + 1 : Nat) : Int) := om3 (Nat.lt_succ_of_le hql) (by decide)
          have hT := HT.out
          rw [om5q hql, chNd] at hT
          replace hT := Option.bind_eq_some_iff.mp hT
          obtain ⟨⟨r1, t1⟩, hr1, hT⟩ := hT
          have HR1 := Aside0.mk hr1
          have HT2 := Aside0.mk hT
          have HBW4 := Aside0.mk (HBW.out.trans (HB4.out.mono HBW.out.size))
          have HBX4 := Aside0.mk (blk_below HBX3.out HB4.out)
          have z0_ : wr.cell? ⟨gb, 0, none⟩ = some (.int .i64 n) := (blk_cell HBX4.out 0).trans rfl
          have z1_ : wr.cell? ⟨gb, 1, none⟩ = some (.slice A l.length c) := (blk_cell HBX4.out 1).trans rfl
          have f0_ := blk_frozen HBX4.out 0
          have f1_ := blk_frozen HBX4.out 1
          clear hT hr1 HT
          have hT2 := HT2.out
          cases t1
          case false =>
            rw [if_neg (Bool.false_ne_true)] at hT2
            have HT3 := Aside0.mk hT2
            clear hT2 HT2
            go_wp2_with (first
              | (go_at_call 53; refine (spec_gmAll.calls k n A c l ov _ (Kd.C_below HC.out HBW4.out) hc HOV.out).mono ?_; rintro e w5 ⟨vo, rfl, hR, hb⟩; obtain ⟨Ao, co, rfl⟩ := Kd.R_slice hR; have HR5 := Aside0.mk (Kd.R_reads' hR); have HB5 := Aside0.mk hb; clear hR hb z0_ z1_ f0_ f1_)
              | (go_at_call 52; have hcl := spec_chLook.calls k gs Ag cg HCG.out c1 ov Ao co HR5.out.2.1 w.heap.size w5 (Nat.le_trans HBW4.out.size HB5.out.size) (Kd.F_mono (Kd.F_below HF2.out (HB4.out.trans (HB5.out.mono HB4.out.size))) (fun z hz => ⟨hz.1, Nat.lt_of_lt_of_le hz.2 (Nat.le_trans hsz (Nat.le_trans HB4.out.size HB5.out.size))⟩)) HR5.out.2.2 q 0 (List.replicate j true) (some ⟨w2.heap.size, 0, none⟩) j [] none 0 r1 false w5 (Below.refl _ _) (by rw [List.length_replicate]; exact Nat.le_refl _) (by rw [List.length_replicate]; exact HP.out.1) (Nat.le_refl _) (Nat.zero_le _) (om0q hq5) (C_bools (blk_below (blk_below HW2.out HB4.out) HB5.out) (by rw [List.length_replicate]; exact HP.out.2)) (Kd.F_nil _ _ _) HR1.out; rw [List.length_replicate] at hcl; refine hcl.mono ?_; clear hcl; rintro e w6 ⟨v7, rfl, hV, hb⟩; have HV := Aside0.mk hV; have HB6 := Aside0.mk (HB4.out.trans ((HB5.out.trans (hb.mono HB5.out.size)).mono HB4.out.size)); clear hV hb))
            go_roundg (5 - (q + 1))
            case measure => exact om2 (Nat.lt_succ_of_le hql) hg2
            case rel => exact ⟨q + 1, Nat.le_add_left _ _, Nat.succ_le_succ hql, Nat.le_refl _, by congr 1, HT3, HB6⟩
          case true =>
            rw [if_pos rfl] at hT2
            obtain rfl := Option.some.inj hT2
            go_wp2_with (first
              | (go_at_call 53; refine (spec_gmAll.calls k n A c l ov _ (Kd.C_below HC.out HBW4.out) hc HOV.out).mono ?_; rintro e w5 ⟨vo, rfl, hR, hb⟩; obtain ⟨Ao, co, rfl⟩ := Kd.R_slice hR; have HR5 := Aside0.mk (Kd.R_reads' hR); have HB5 := Aside0.mk hb; clear hR hb z0_ z1_ f0_ f1_)
              | (go_at_call 52; have hcl := spec_chLook.calls k gs Ag cg HCG.out c1 ov Ao co HR5.out.2.1 w.heap.size w5 (Nat.le_trans HBW4.out.size HB5.out.size) (Kd.F_mono (Kd.F_below HF2.out (HB4.out.trans (HB5.out.mono HB4.out.size))) (fun z hz => ⟨hz.1, Nat.lt_of_lt_of_le hz.2 (Nat.le_trans hsz (Nat.le_trans HB4.out.size HB5.out.size))⟩)) HR5.out.2.2 q 0 (List.replicate j true) (some ⟨w2.heap.size, 0, none⟩) j [] none 0 r1 true w5 (Below.refl _ _) (by rw [List.length_replicate]; exact Nat.le_refl _) (by rw [List.length_replicate]; exact HP.out.1) (Nat.le_refl _) (Nat.zero_le _) (om0q hq5) (C_bools (blk_below (blk_below HW2.out HB4.out) HB5.out) (by rw [List.length_replicate]; exact HP.out.2)) (Kd.F_nil _ _ _) HR1.out; rw [List.length_replicate] at hcl; refine hcl.mono ?_; clear hcl; rintro e w6 ⟨v7, rfl, hV, hb⟩; have HV := Aside0.mk hV; have HB6 := Aside0.mk (HB4.out.trans ((HB5.out.trans (hb.mono HB5.out.size)).mono HB4.out.size)); clear hV hb))
            go_ret
            exact ⟨_, rfl, Kd.V_mono HV.out (fun z hz => hz.1), HBW.out.trans (HB6.out.mono HBW.out.size)⟩
        · have hqe : q = 5 := om6q hq5 hql
          subst hqe
          have hT := HT.out
          obtain rfl := Option.some.inj hT
          go_wp2
          go_ret
          exact ⟨_, rfl, Kd.V_nil _ _ _ _ _, HBW.out.trans (HB4.out.mono HBW.out.size)⟩
end Go.Proofs.YtmbkmabpebjboaaGreat.Q
end
section
namespace Go.Proofs.YtmbkmabpebjboaaGreat.Q
open Go.RowKit Go.Proofs.YtmbkmabpebjboaaGreatW.PrintWords Go.Proofs.YtmbkmabpebjboaaGreatW.PrintLast Go.Proofs.YtmbkmabpebjboaaGreatW.PrintMore
attribute [local go_sem] max2_int min2_int max_two min_two max_three min_three max_four min_four
set_option linter.unusedVariables false
set_option linter.unusedSimpArgs false
mutual
def spec_gmGood.l0 : Nat → List (List Int) → Int → Int → Int → List (List Int) → Option (Bool)
 | 0, _, _, _, _, _ => none
 | k + 1, x16, x17, x18, x119000, x119001 => if x18 < x17 then (if 0 ≤ x18 then (if x18 < (x16.length : Int) then (if x18 > 0 then (if 0 ≤ (wrap64 (x18 - 1)) then (if (wrap64 (x18 - 1)) < (x119001.length : Int) then ((spec_voBefore.f k (rd_L1 x119001 (wrap64 (x18 - 1))) (rd_L1 x16 x18)).bind fun t122 => (spec_gmGood.j1 k x18 (rd_L1 x16 x18) x16 x17 x18 (!t122) x119000 x119001)) else (none)) else (none)) else (spec_gmGood.j1 k x18 (rd_L1 x16 x18) x16 x17 x18 false x119000 x119001)) else (none)) else (none)) else (some true)
def spec_gmGood.j1 : Nat → Int → List Int → List (List Int) → Int → Int → Bool → Int → List (List Int) → Option (Bool)
 | 0, _, _, _, _, _, _, _, _ => none
 | k + 1, x3, x4, x16, x17, x18, x35, x119000, x119001 => if x35 = true then (some false) else ((spec_voBits.f k x4).bind fun t123 => (if 0 ≤ x3 then (if x3 ≤ (x119001.length : Int) then ((some (x119001.take (x3 : Int).toNat : List (List Int))).bind fun y124 => (spec_gmGood.l1 k t123 x16 x17 x18 y124 (y124.length : Int) 0 x119000 x119001)) else (none)) else (none)))
def spec_gmGood.l1 : Nat → Int → List (List Int) → Int → Int → List (List Int) → Int → Int → Int → List (List Int) → Option (Bool)
 | 0, _, _, _, _, _, _, _, _, _ => none
 | k + 1, x5, x16, x17, x18, x41, x42, x43, x119000, x119001 => if x43 < x42 then (if 0 ≤ x43 then (if x43 < (x41.length : Int) then ((spec_voBits.f k (rd_L1 x41 x43)).bind fun t129 => (if (Go.bits .and .i64 x5 t129) = x5 then (some false) else (if (Go.bits .and .i64 x5 t129) = t129 then (some false) else (spec_gmGood.l1 k x5 x16 x17 x18 x41 x42 (wrap64 (x43 + 1)) x119000 x119001)))) else (none)) else (none)) else (spec_gmGood.l0 k x16 x17 (wrap64 (x18 + 1)) x119000 x119001)
end
def spec_gmGood.f (k : Nat) (a0_0 : Int) (l0_1 : List (List Int)) : Option (Bool) := (spec_gmSets.f k a0_0 l0_1 126).bind fun t119 => (if t119 = true then (spec_gmGood.l0 k l0_1 (l0_1.length : Int) 0 a0_0 l0_1) else (some false))
set_option maxHeartbeats 8000000 in
set_option maxRecDepth 100000 in
theorem spec_gmGood.calls (k : Nat) (a0_0 : Int) (A0_1 : Option Addr) (c0_1 : Nat) (l0_1 : List (List Int)) (r : Bool) (w : World) (hr0_1 : Kd.C (Kd.slice 3 (Kd.int .i64)) w A0_1 l0_1.length l0_1) (hc0_1 : l0_1.length ≤ c0_1) (h : spec_gmGood.f k a0_0 l0_1 = some r) :
  Calls Tryz.prog 50 #[.agg #[.int .i64 a0_0, .slice A0_1 l0_1.length c0_1]] w fun e w' => e = .returned (.bool r) ∧ Below w.heap.size w w' := by
 have hu28 := Tryz.underlying28
 have HR0_1 := Aside0.mk hr0_1
 have HC0_1 := Aside0.mk hc0_1
 clear hr0_1 hc0_1
 have HB := Aside0.mk (Below.refl w.heap.size w)
 have H : ((spec_gmSets.f k a0_0 l0_1 126).bind fun t119 => (if t119 = true then (spec_gmGood.l0 k l0_1 (l0_1.length : Int) 0 a0_0 l0_1) else (some false))) = some r := h
 clear h
 replace H := Option.bind_eq_some_iff.mp H
 obtain ⟨t119, A20, H⟩ := H
 replace H : (if t119 = true then (spec_gmGood.l0 k l0_1 (l0_1.length : Int) 0 a0_0 l0_1) else (some false)) = some r := H
 have A2 := Aside0.mk A20
 clear A20
 by_cases c3 : t119 = true
 rotate_left
 ·replace c3 := Bool.eq_false_iff.mpr c3
  subst c3
  have H1 : (some false) = some r := by rw [if_neg (show ¬ (false = true) by decide)] at H; exact H
  clear H
  have H := H1
  clear H1
  obtain rfl := Option.some.inj H
  go_enter Tryz.func50, Tryz.ntmps50
  go_wp2_with (first | ((with_reducible refine gate_dst (N := 1) rfl ?_); refine zq 1 #[.int .i64 a0_0, .slice A0_1 l0_1.length c0_1] 28 ?_; intro gb118 hg w28 hbox hb; have n2_ := Aside0.mk ((by rw [hg]; exact (below_size (zh HB.out)) : w.heap.size ≤ gb118)); replace HB := Aside0.mk (below_step (zh HB.out) hb); have BK118 := Aside0.mk hbox; have GW118 := n2_; have GE118 := n2_; clear n2_ hb hbox hg; have hcz29_0 : w28.cell? ⟨gb118, 0, none⟩ = some (.int .i64 a0_0) := (blk_cell BK118.out 0).trans rfl; have hcz29_1 : w28.cell? ⟨gb118, 1, none⟩ = some (.slice A0_1 l0_1.length c0_1) := (blk_cell BK118.out 1).trans rfl; have hfz29_0 := blk_frozen BK118.out 0; have hfz29_1 := blk_frozen BK118.out 1) | ((with_reducible refine gate_callee (f := 82) rfl ?_); refine zl 13 Tryz.func82 #[.int .i64 a0_0, .slice A0_1 l0_1.length c0_1, .int .i64 126] ?_; (with_reducible refine (spec_gmSets.calls k a0_0 _ _ l0_1 126 false _ ?side1 ?side2 A2.out).mono ?_); (case side1 => repeat (first | exact (Kd.C_below HR0_1.out HB.out) | (with_reducible refine Kd.C_alloc ?_ _) | (with_reducible refine Kd.C_drewN ?_ _) | (with_reducible refine Kd.C_drew ?_))); (case side2 => exact HC0_1.out); rintro e w' ⟨rfl, ⟨nd, rfl⟩⟩; refine ⟨_, rfl, ?_⟩))
  go_ret
  exact ⟨by first | rfl | (simp [*, errW_none, errW_some] <;> rfl), zh HB.out⟩
 subst c3
 have H1 : (spec_gmGood.l0 k l0_1 (l0_1.length : Int) 0 a0_0 l0_1) = some r := by rw [if_pos rfl] at H; exact H
 clear H
 have H := H1
 clear H1
 have H' := Aside0.mk H
 clear H
 go_enter Tryz.func50, Tryz.ntmps50
 go_wp2_with (first | ((with_reducible refine gate_dst (N := 1) rfl ?_); refine zq 1 #[.int .i64 a0_0, .slice A0_1 l0_1.length c0_1] 28 ?_; intro gb118 hg w4 hbox hb; have n2_ := Aside0.mk ((by rw [hg]; exact (below_size (zh HB.out)) : w.heap.size ≤ gb118)); replace HB := Aside0.mk (below_step (zh HB.out) hb); have BK118 := Aside0.mk hbox; have GW118 := n2_; have GE118 := n2_; clear n2_ hb hbox hg; have hcz5_0 : w4.cell? ⟨gb118, 0, none⟩ = some (.int .i64 a0_0) := (blk_cell BK118.out 0).trans rfl; have hcz5_1 : w4.cell? ⟨gb118, 1, none⟩ = some (.slice A0_1 l0_1.length c0_1) := (blk_cell BK118.out 1).trans rfl; have hfz5_0 := blk_frozen BK118.out 0; have hfz5_1 := blk_frozen BK118.out 1) | ((with_reducible refine gate_callee (f := 82) rfl ?_); refine zl 13 Tryz.func82 #[.int .i64 a0_0, .slice A0_1 l0_1.length c0_1, .int .i64 126] ?_; (with_reducible refine (spec_gmSets.calls k a0_0 _ _ l0_1 126 true _ ?side1 ?side2 A2.out).mono ?_); (case side1 => repeat (first | exact (Kd.C_below HR0_1.out HB.out) | (with_reducible refine Kd.C_alloc ?_ _) | (with_reducible refine Kd.C_drewN ?_ _) | (with_reducible refine Kd.C_drew ?_))); (case side2 => exact HC0_1.out); rintro e w' ⟨rfl, ⟨nd, rfl⟩⟩; refine ⟨_, rfl, ?_⟩))
 go_loopg [18] k (fun kq v18 w' => ∃ (x18_1 : Int), v18 = .int .i64 x18_1 ∧ Aside0 (spec_gmGood.l0 kq l0_1 (l0_1.length : Int) x18_1 a0_0 l0_1 = some r) ∧ Aside0 (kq ≤ k) ∧ Aside0 (w'.heap[gb118]? = some (.cells #[.int .i64 a0_0, (.slice A0_1 l0_1.length c0_1)] 28 (0, 0))) ∧ Aside0 (Below w.heap.size w w'))
 case atStart => exact ⟨(0), (by first | rfl | (simp; done) | (simp [*]; done)), H', ⟨Nat.le_refl _⟩, ⟨zb BK118.out⟩, ⟨zh HB.out⟩⟩
 case round =>
  clear H'
  try clear p2
  try clear c3
  try clear c5
  try clear hcz5_0
  try clear hcz5_1
  try clear hfz5_0
  try clear hfz5_1
  obtain ⟨x18_1, rfl, HA, HK1, BK118, HB⟩ := hrel
  cases gk with
  | zero => exact absurd HA.out (by simp [spec_gmGood.l0])
  | succ k1 =>
   have H := HA.out
   clear HA
   simp only [spec_gmGood.l0] at H
   by_cases c6 : x18_1 < (l0_1.length : Int)
   rotate_left
   ·rw [if_neg c6] at H
    have c6b0 : decide (x18_1 < (l0_1.length : Int)) = false := decide_eq_false c6
    clear c6
    obtain rfl := Option.some.inj H
    go_wp2
    go_ret
    exact ⟨by first | rfl | (simp [*, errW_none, errW_some] <;> rfl), zh HB.out⟩
   rw [if_pos c6] at H
   have c6b0 : decide (x18_1 < (l0_1.length : Int)) = true := decide_eq_true c6
   clear c6
   by_cases c7 : 0 ≤ x18_1
   rotate_left
   ·rw [if_neg c7] at H
    exact absurd H (by simp)
   rw [if_pos c7] at H
   have c7b0 : decide (0 ≤ x18_1) = true := decide_eq_true c7
   clear c7
   by_cases c8 : x18_1 < (l0_1.length : Int)
   rotate_left
   ·rw [if_neg c8] at H
    exact absurd H (by simp)
   rw [if_pos c8] at H
   have c8b0 : decide (x18_1 < (l0_1.length : Int)) = true := decide_eq_true c8
   clear c8
   have HC9 := Aside0.mk H
   clear H
   have p120 : 0 ≤ (x18_1 : Int) := zk
   have q120 : x18_1 < (l0_1.length : Int) := zk
   obtain ⟨ad120, A120_0, c120_0, e120, hx120_0, hl120_0, hi120_0⟩ := at_L1 HR0_1.out x18_1 p120 q120
   cases e120
   replace hx120_0 := zx HB.out hx120_0
   have HR120_0 := Aside0.mk hi120_0
   have HC120_0 := Aside0.mk hl120_0
   clear hi120_0 hl120_0
   replace p120 := eq_true p120
   replace q120 := eq_true q120
   go_upto_region 6 with (fail)
   go_cut [35] (fun v35 wc => ∃ (kq : Nat) (x35_8 : Bool), v35 = .bool x35_8 ∧ Aside0 (spec_gmGood.j1 kq x18_1 (rd_L1 l0_1 x18_1) l0_1 (l0_1.length : Int) x18_1 x35_8 a0_0 l0_1 = some r) ∧ Aside0 (kq ≤ k1) ∧ Aside0 (wc.heap[gb118]? = some (.cells #[.int .i64 a0_0, (.slice (some ad120) l0_1.length c0_1)] 28 (0, 0))) ∧ Aside0 (Below w.heap.size w wc))
   case first =>
    have H := HC9.out
    clear HC9
    by_cases c10 : x18_1 > 0
    ·rw [if_pos c10] at H
     have c10b0 : decide (0 < x18_1) = true := decide_eq_true c10
     clear c10
     (first | rw [c10b0] | (simp only [i64_w, i32_w]; rw [c10b0]) | skip)
     obtain ⟨ji11, hji11⟩ : ∃ j_ : Int, (wrap64 (x18_1 - 1)) = j_ := ⟨_, rfl⟩
     replace H : (if 0 ≤ (ji11) then (if (ji11) < (l0_1.length : Int) then ((spec_voBefore.f k1 (rd_L1 l0_1 (ji11)) (rd_L1 l0_1 x18_1)).bind fun t122 => (spec_gmGood.j1 k1 x18_1 (rd_L1 l0_1 x18_1) l0_1 (l0_1.length : Int) x18_1 (!t122) a0_0 l0_1)) else (none)) else (none)) = some r := by first | (rw [hji11] at H; exact H) | (simp only [hji11] at H ⊢; exact H)
     have hji11w : (IntKind.i64.wrap (x18_1 - 1)) = ji11 := (i64_w _).trans hji11
     by_cases c12 : 0 ≤ (ji11)
     ·rw [if_pos c12] at H
      have c12b0 : decide (0 ≤ (ji11)) = true := decide_eq_true c12
      clear c12
      by_cases c13 : (ji11) < (l0_1.length : Int)
      ·rw [if_pos c13] at H
       have c13b0 : decide ((ji11) < (l0_1.length : Int)) = true := decide_eq_true c13
       clear c13
       replace H := Option.bind_eq_some_iff.mp H
       obtain ⟨t122, A140, H⟩ := H
       replace H : (spec_gmGood.j1 k1 x18_1 (rd_L1 l0_1 x18_1) l0_1 (l0_1.length : Int) x18_1 (!t122) a0_0 l0_1) = some r := H
       have A14 := Aside0.mk A140
       clear A140
       have H' := Aside0.mk H
       clear H
       have hcz15_0 : wr.cell? ⟨gb118, 0, none⟩ = some (.int .i64 a0_0) := (blk_cell BK118.out 0).trans rfl
       have hcz15_1 : wr.cell? ⟨gb118, 1, none⟩ = some (.slice (some ad120) l0_1.length c0_1) := (blk_cell BK118.out 1).trans rfl
       have hfz15_0 := blk_frozen BK118.out 0
       have hfz15_1 := blk_frozen BK118.out 1
       have p121 : 0 ≤ ((ji11) : Int) := zk
       have q121 : (ji11) < (l0_1.length : Int) := zk
       obtain ⟨ad121, A121_0, c121_0, e121, hx121_0, hl121_0, hi121_0⟩ := at_L1 HR0_1.out (ji11) p121 q121
       obtain rfl : ad120 = ad121 := (by injection e121)
       replace hx121_0 := zx HB.out hx121_0
       have HR121_0 := Aside0.mk hi121_0
       have HC121_0 := Aside0.mk hl121_0
       clear hi121_0 hl121_0
       replace p121 := eq_true p121
       replace q121 := eq_true q121
       go_wp2_with (first | (go_at_call 83; (with_reducible refine (spec_voBefore.calls k1 _ _ (rd_L1 l0_1 (ji11)) _ _ (rd_L1 l0_1 x18_1) t122 _ ?side1 ?side2 ?side3 ?side4 A14.out).mono ?_); (case side1 => repeat (first | exact (Kd.C_below HR121_0.out HB.out) | (with_reducible refine Kd.C_alloc ?_ _) | (with_reducible refine Kd.C_drewN ?_ _) | (with_reducible refine Kd.C_drew ?_))); (case side2 => exact HC121_0.out); (case side3 => repeat (first | exact (Kd.C_below HR120_0.out HB.out) | (with_reducible refine Kd.C_alloc ?_ _) | (with_reducible refine Kd.C_drewN ?_ _) | (with_reducible refine Kd.C_drew ?_))); (case side4 => exact HC120_0.out); rintro e w' ⟨rfl, ⟨nd, rfl⟩⟩))
       go_meet
       case rel => exact ⟨_, (!t122), (by first | rfl | (simp; done) | (simp [*]; done)), H', ⟨by have := HK1.out; first | omega | exact Nat.le_refl _⟩, ⟨zb BK118.out⟩, ⟨zh HB.out⟩⟩
      ·rw [if_neg c13] at H
       exact absurd H (by simp)
     ·rw [if_neg c12] at H
      exact absurd H (by simp)
    ·rw [if_neg c10] at H
     have c10b0 : decide (0 < x18_1) = false := decide_eq_false c10
     clear c10
     (first | rw [c10b0] | (simp only [i64_w, i32_w]; rw [c10b0]) | skip)
     have H' := Aside0.mk H
     clear H
     go_wp2
     go_meet
     case rel => exact ⟨_, (false), (by first | rfl | (simp; done) | (simp [*]; done)), H', ⟨by have := HK1.out; first | omega | exact Nat.le_refl _⟩, ⟨zb BK118.out⟩, ⟨zh HB.out⟩⟩
   case rest =>
    clear HC9
    try clear c1
    try clear p1
    try clear q1
    try clear hx1
    try clear p2
    try clear c3
    try clear c5
    try clear c6
    try clear c6b0
    try clear p6
    try clear c7
    try clear c7b0
    try clear c8
    try clear c8b0
    try clear c10
    try clear c10b0
    try clear c12
    try clear c12b0
    try clear p12
    try clear q12
    try clear hx12
    try clear c13
    try clear c13b0
    try clear hcz15_0
    try clear hcz15_1
    try clear hcz5_0
    try clear hcz5_1
    try clear hfz15_0
    try clear hfz15_1
    try clear hfz5_0
    try clear hfz5_1
    try clear hx120_0
    try clear hx121_0
    try clear p120
    try clear p121
    try clear p2
    try clear q120
    try clear q121
    obtain ⟨kq, x35_8, rfl, HA, HJ8, BK118, HB⟩ := hcut
    cases kq with
    | zero => exact absurd HA.out (by simp [spec_gmGood.j1])
    | succ kj8 =>
     have H := HA.out
     clear HA
     simp only [spec_gmGood.j1] at H
     by_cases c16 : x35_8 = true
     ·subst c16
      have H1 : (some false) = some r := by rw [if_pos rfl] at H; exact H
      clear H
      have H := H1
      clear H1
      obtain rfl := Option.some.inj H
      go_wp2
      go_ret
      exact ⟨by first | rfl | (simp [*, errW_none, errW_some] <;> rfl), zh HB.out⟩
     replace c16 := Bool.eq_false_iff.mpr c16
     subst c16
     have H1 : ((spec_voBits.f kj8 (rd_L1 l0_1 x18_1)).bind fun t123 => (if 0 ≤ x18_1 then (if x18_1 ≤ (l0_1.length : Int) then ((some (l0_1.take (x18_1 : Int).toNat : List (List Int))).bind fun y124 => (spec_gmGood.l1 kj8 t123 l0_1 (l0_1.length : Int) x18_1 y124 (y124.length : Int) 0 a0_0 l0_1)) else (none)) else (none))) = some r := by rw [if_neg (show ¬ (false = true) by decide)] at H; exact H
     clear H
     have H := H1
     clear H1
     replace H := Option.bind_eq_some_iff.mp H
     obtain ⟨t123, A170, H⟩ := H
     replace H : (if 0 ≤ x18_1 then (if x18_1 ≤ (l0_1.length : Int) then ((some (l0_1.take (x18_1 : Int).toNat : List (List Int))).bind fun y124 => (spec_gmGood.l1 kj8 t123 l0_1 (l0_1.length : Int) x18_1 y124 (y124.length : Int) 0 a0_0 l0_1)) else (none)) else (none)) = some r := H
     have A17 := Aside0.mk A170
     clear A170
     by_cases c18 : 0 ≤ x18_1
     rotate_left
     ·rw [if_neg c18] at H
      exact absurd H (by simp)
     rw [if_pos c18] at H
     have c18b0 := eq_true c18
     have c18b1 : decide (0 ≤ x18_1) = true := decide_eq_true c18
     clear c18
     by_cases c19 : x18_1 ≤ (l0_1.length : Int)
     rotate_left
     ·rw [if_neg c19] at H
      exact absurd H (by simp)
     rw [if_pos c19] at H
     have c19b0 := eq_true c19
     have c19b1 : decide (x18_1 ≤ (l0_1.length : Int)) = true := decide_eq_true c19
     clear c19
     obtain ⟨y124, hy124⟩ : ∃ y_ : List (List Int), y_ = (l0_1.take (x18_1 : Int).toNat) := ⟨_, rfl⟩
     replace H : (spec_gmGood.l1 kj8 t123 l0_1 (l0_1.length : Int) x18_1 y124 (y124.length : Int) 0 a0_0 l0_1) = some r := by first | (rw [hy124]; with_reducible exact H) | (have H2_ := (Option.bind_some _ _).symm.trans H; rw [hy124]; with_reducible exact H2_) | (have H2_ := (Option.bind_some _ _).symm.trans H; with_reducible exact H2_) | with_reducible exact H | (rw [hy124]; exact H) | exact H
     have Ny124 := Aside0.mk hy124
     clear hy124
     have H' := Aside0.mk H
     clear H
     go_wp2_with (first | ((with_reducible refine gate_callee (f := 84) rfl ?_); refine zl 37 Tryz.func84 #[.slice A120_0 (rd_L1 l0_1 x18_1).length c120_0] ?_; (with_reducible refine (spec_voBits.calls kj8 _ _ (rd_L1 l0_1 x18_1) t123 _ ?side1 ?side2 A17.out).mono ?_); (case side1 => repeat (first | exact (Kd.C_below HR120_0.out HB.out) | (with_reducible refine Kd.C_alloc ?_ _) | (with_reducible refine Kd.C_drewN ?_ _) | (with_reducible refine Kd.C_drew ?_))); (case side2 => exact HC120_0.out); rintro e w' ⟨rfl, ⟨nd, rfl⟩⟩; refine ⟨_, rfl, ?_⟩; have hcz20_0 : wc.cell? ⟨gb118, 0, none⟩ = some (.int .i64 a0_0) := (blk_cell BK118.out 0).trans rfl; have hcz20_1 : wc.cell? ⟨gb118, 1, none⟩ = some (.slice (some ad120) l0_1.length c0_1) := (blk_cell BK118.out 1).trans rfl; have hfz20_0 := blk_frozen BK118.out 0; have hfz20_1 := blk_frozen BK118.out 1; have q21 : (x18_1 : Int) ≤ ((l0_1.length : Int) : Int) := zk; obtain ⟨i021, hi021, _, hsz21, _⟩ := info_parts info65; have hroom21 : l0_1.length ≤ c0_1 := HC0_1.out; have hC21 : Kd.C (Kd.slice 3 (Kd.int .i64)) _ (some ad120) l0_1.length l0_1 := HR0_1.out; have hcut21 := cut_to (P := Tryz.prog) 22 65 .i64 Tryz.underlying22 hi021 (some ad120) l0_1.length c0_1 x18_1 (zk) q21 hroom21; have hr21 := Kd.C_take (m := (x18_1 : Int).toNat) hC21 (by omega); have hy21 : y124.length = (x18_1 : Int).toNat := (by rw [Ny124.out, List.length_take]; omega); rw [← Ny124.out] at hr21; rw [← hy21] at hcut21; have HR127 := Aside0.mk hr21; have HC127 := Aside0.mk (show y124.length ≤ c0_1 from by omega); clear hr21 hC21 hroom21 hi021 hsz21; have KY21 := Aside0.mk hy21; clear hy21; replace q21 := eq_true q21))
     go_loopg [43] kj8 (fun kq v43 w' => ∃ (x43_3 : Int), v43 = .int .i64 x43_3 ∧ Aside0 (spec_gmGood.l1 kq t123 l0_1 (l0_1.length : Int) x18_1 y124 (y124.length : Int) x43_3 a0_0 l0_1 = some r) ∧ Aside0 (kq ≤ kj8) ∧ Aside0 (w'.heap[gb118]? = some (.cells #[.int .i64 a0_0, (.slice (some ad120) l0_1.length c0_1)] 28 (0, 0))) ∧ Aside0 (Below w.heap.size w w'))
     case atStart => exact ⟨(0), (by first | rfl | (simp; done) | (simp [*]; done)), H', ⟨Nat.le_refl _⟩, ⟨zb BK118.out⟩, ⟨zh HB.out⟩⟩
     case round =>
      clear H'
      try clear c1
      try clear p1
      try clear q1
      try clear hx1
      try clear p2
      try clear q2
      try clear c3
      try clear c5
      try clear c6
      try clear c6b0
      try clear p6
      try clear c7
      try clear c7b0
      try clear c8
      try clear c8b0
      try clear c10
      try clear c10b0
      try clear c12
      try clear c12b0
      try clear p12
      try clear q12
      try clear hx12
      try clear c13
      try clear c13b0
      try clear c16
      try clear c18
      try clear c18b0
      try clear c18b1
      try clear c19
      try clear c19b0
      try clear c19b1
      try clear q21
      try clear hcz15_0
      try clear hcz15_1
      try clear hcz20_0
      try clear hcz20_1
      try clear hcz5_0
      try clear hcz5_1
      try clear hfz15_0
      try clear hfz15_1
      try clear hfz20_0
      try clear hfz20_1
      try clear hfz5_0
      try clear hfz5_1
      try clear hx120_0
      try clear hx121_0
      try clear p1
      try clear p12
      try clear p120
      try clear p121
      try clear p2
      try clear p6
      try clear q1
      try clear q12
      try clear q120
      try clear q121
      try clear q21
      obtain ⟨x43_3, rfl, HA, HK3, BK118, HB⟩ := hrel
      cases gk with
      | zero => exact absurd HA.out (by simp [spec_gmGood.l1])
      | succ k3 =>
       have H := HA.out
       clear HA
       simp only [spec_gmGood.l1] at H
       by_cases c22 : x43_3 < (y124.length : Int)
       rotate_left
       ·rw [if_neg c22] at H
        have c22b0 : decide (x43_3 < (y124.length : Int)) = false := decide_eq_false c22
        clear c22
        have H' := Aside0.mk H
        clear H
        go_wp2
        go_roundg k3
        case measure => have := HK1.out; have := HJ8.out; have := HK3.out; omega
        case rel => exact ⟨(wrap64 (x18_1 + 1)), (by first | rfl | (simp; done) | (simp [*]; done)), H', ⟨by have := HK1.out; have := HJ8.out; have := HK3.out; omega⟩, ⟨zb BK118.out⟩, ⟨zh HB.out⟩⟩
       rw [if_pos c22] at H
       have c22b0 : decide (x43_3 < (y124.length : Int)) = true := decide_eq_true c22
       clear c22
       by_cases c23 : 0 ≤ x43_3
       rotate_left
       ·rw [if_neg c23] at H
        exact absurd H (by simp)
       rw [if_pos c23] at H
       have c23b0 : decide (0 ≤ x43_3) = true := decide_eq_true c23
       clear c23
       by_cases c24 : x43_3 < (y124.length : Int)
       rotate_left
       ·rw [if_neg c24] at H
        exact absurd H (by simp)
       rw [if_pos c24] at H
       have c24b0 : decide (x43_3 < (y124.length : Int)) = true := decide_eq_true c24
       clear c24
       replace H := Option.bind_eq_some_iff.mp H
       obtain ⟨t129, A250, H⟩ := H
       replace H : (if (Go.bits .and .i64 t123 t129) = t123 then (some false) else (if (Go.bits .and .i64 t123 t129) = t129 then (some false) else (spec_gmGood.l1 k3 t123 l0_1 (l0_1.length : Int) x18_1 y124 (y124.length : Int) (wrap64 (x43_3 + 1)) a0_0 l0_1))) = some r := H
       have A25 := Aside0.mk A250
       clear A250
       by_cases c26 : (Go.bits .and .i64 t123 t129) = t123
       ·rw [if_pos c26] at H
        have c26b0 : ((Go.bits .and .i64 t123 t129) == t123) = true := beq_iff_eq.mpr c26
        have c26b1 : ((Go.bits .and .i64 t123 t129) != t123) = false := bne_eq_false_iff_eq.mpr c26
        clear c26
        obtain rfl := Option.some.inj H
        have p128 : 0 ≤ (x43_3 : Int) := zk
        have q128 : x43_3 < (y124.length : Int) := zk
        obtain ⟨ad128, A128_0, c128_0, e128, hx128_0, hl128_0, hi128_0⟩ := at_L1 HR127.out x43_3 p128 q128
        obtain rfl : ad120 = ad128 := (by injection e128)
        replace hx128_0 := zx HB.out hx128_0
        have HR128_0 := Aside0.mk hi128_0
        have HC128_0 := Aside0.mk hl128_0
        clear hi128_0 hl128_0
        replace p128 := eq_true p128
        replace q128 := eq_true q128
        go_wp2_with (first | ((with_reducible refine gate_callee (f := 84) rfl ?_); refine zl 48 Tryz.func84 #[.slice A128_0 (rd_L1 y124 x43_3).length c128_0] ?_; (with_reducible refine (spec_voBits.calls k3 _ _ (rd_L1 y124 x43_3) t129 _ ?side1 ?side2 A25.out).mono ?_); (case side1 => repeat (first | exact (Kd.C_below HR128_0.out HB.out) | (with_reducible refine Kd.C_alloc ?_ _) | (with_reducible refine Kd.C_drewN ?_ _) | (with_reducible refine Kd.C_drew ?_))); (case side2 => exact HC128_0.out); rintro e w' ⟨rfl, ⟨nd, rfl⟩⟩; refine ⟨_, rfl, ?_⟩))
        go_ret
        exact ⟨by first | rfl | (simp [*, errW_none, errW_some] <;> rfl), zh HB.out⟩
       rw [if_neg c26] at H
       have c26b0 : ((Go.bits .and .i64 t123 t129) == t123) = false := beq_eq_false_iff_ne.mpr c26
       have c26b1 : ((Go.bits .and .i64 t123 t129) != t123) = true := bne_iff_ne.mpr c26
       by_cases c27 : (Go.bits .and .i64 t123 t129) = t129
       ·rw [if_pos c27] at H
        have c27b0 : ((Go.bits .and .i64 t123 t129) == t129) = true := beq_iff_eq.mpr c27
        have c27b1 : ((Go.bits .and .i64 t123 t129) != t129) = false := bne_eq_false_iff_eq.mpr c27
        clear c27
        obtain rfl := Option.some.inj H
        have p128 : 0 ≤ (x43_3 : Int) := zk
        have q128 : x43_3 < (y124.length : Int) := zk
        obtain ⟨ad128, A128_0, c128_0, e128, hx128_0, hl128_0, hi128_0⟩ := at_L1 HR127.out x43_3 p128 q128
        obtain rfl : ad120 = ad128 := (by injection e128)
        replace hx128_0 := zx HB.out hx128_0
        have HR128_0 := Aside0.mk hi128_0
        have HC128_0 := Aside0.mk hl128_0
        clear hi128_0 hl128_0
        replace p128 := eq_true p128
        replace q128 := eq_true q128
        go_wp2_with (first | ((with_reducible refine gate_callee (f := 84) rfl ?_); refine zl 48 Tryz.func84 #[.slice A128_0 (rd_L1 y124 x43_3).length c128_0] ?_; (with_reducible refine (spec_voBits.calls k3 _ _ (rd_L1 y124 x43_3) t129 _ ?side1 ?side2 A25.out).mono ?_); (case side1 => repeat (first | exact (Kd.C_below HR128_0.out HB.out) | (with_reducible refine Kd.C_alloc ?_ _) | (with_reducible refine Kd.C_drewN ?_ _) | (with_reducible refine Kd.C_drew ?_))); (case side2 => exact HC128_0.out); rintro e w' ⟨rfl, ⟨nd, rfl⟩⟩; refine ⟨_, rfl, ?_⟩))
        go_ret
        exact ⟨by first | rfl | (simp [*, errW_none, errW_some] <;> rfl), zh HB.out⟩
       rw [if_neg c27] at H
       have c27b0 : ((Go.bits .and .i64 t123 t129) == t129) = false := beq_eq_false_iff_ne.mpr c27
       have c27b1 : ((Go.bits .and .i64 t123 t129) != t129) = true := bne_iff_ne.mpr c27
       have H' := Aside0.mk H
       clear H
       have p128 : 0 ≤ (x43_3 : Int) := zk
       have q128 : x43_3 < (y124.length : Int) := zk
       obtain ⟨ad128, A128_0, c128_0, e128, hx128_0, hl128_0, hi128_0⟩ := at_L1 HR127.out x43_3 p128 q128
       obtain rfl : ad120 = ad128 := (by injection e128)
       replace hx128_0 := zx HB.out hx128_0
       have HR128_0 := Aside0.mk hi128_0
       have HC128_0 := Aside0.mk hl128_0
       clear hi128_0 hl128_0
       replace p128 := eq_true p128
       replace q128 := eq_true q128
       go_wp2_with (first | ((with_reducible refine gate_callee (f := 84) rfl ?_); refine zl 48 Tryz.func84 #[.slice A128_0 (rd_L1 y124 x43_3).length c128_0] ?_; (with_reducible refine (spec_voBits.calls k3 _ _ (rd_L1 y124 x43_3) t129 _ ?side1 ?side2 A25.out).mono ?_); (case side1 => repeat (first | exact (Kd.C_below HR128_0.out HB.out) | (with_reducible refine Kd.C_alloc ?_ _) | (with_reducible refine Kd.C_drewN ?_ _) | (with_reducible refine Kd.C_drew ?_))); (case side2 => exact HC128_0.out); rintro e w' ⟨rfl, ⟨nd, rfl⟩⟩; refine ⟨_, rfl, ?_⟩))
       go_roundg k3
       case measure => have := HK1.out; have := HJ8.out; have := HK3.out; omega
       case rel => exact ⟨(wrap64 (x43_3 + 1)), (by first | rfl | (simp; done) | (simp [*]; done)), H', ⟨by have := HK1.out; have := HJ8.out; have := HK3.out; omega⟩, ⟨zb BK118.out⟩, ⟨zh HB.out⟩⟩
def spec_chNeeds.f (k : Nat) (a0_0 : Int) (l0_1 : List (List Int)) : Option (Bool) := (spec_gmGood.f k a0_0 l0_1).bind fun t131 => (if t131 = true then (some (decide (a0_0 ≤ 4))) else (some false))
set_option maxHeartbeats 8000000 in
set_option maxRecDepth 100000 in
theorem spec_chNeeds.calls (k : Nat) (a0_0 : Int) (A0_1 : Option Addr) (c0_1 : Nat) (l0_1 : List (List Int)) (r : Bool) (w : World) (hr0_1 : Kd.C (Kd.slice 3 (Kd.int .i64)) w A0_1 l0_1.length l0_1) (hc0_1 : l0_1.length ≤ c0_1) (h : spec_chNeeds.f k a0_0 l0_1 = some r) :
  Calls Tryz.prog 27 #[.agg #[.int .i64 a0_0, .slice A0_1 l0_1.length c0_1]] w fun e w' => e = .returned (.bool r) ∧ Below w.heap.size w w' := by
 have hu28 := Tryz.underlying28
 have HR0_1 := Aside0.mk hr0_1
 have HC0_1 := Aside0.mk hc0_1
 clear hr0_1 hc0_1
 have HB := Aside0.mk (Below.refl w.heap.size w)
 have H : ((spec_gmGood.f k a0_0 l0_1).bind fun t131 => (if t131 = true then (some (decide (a0_0 ≤ 4))) else (some false))) = some r := h
 clear h
 replace H := Option.bind_eq_some_iff.mp H
 obtain ⟨t131, A20, H⟩ := H
 replace H : (if t131 = true then (some (decide (a0_0 ≤ 4))) else (some false)) = some r := H
 have A2 := Aside0.mk A20
 clear A20
 by_cases c3 : t131 = true
 rotate_left
 ·replace c3 := Bool.eq_false_iff.mpr c3
  subst c3
  have H1 : (some false) = some r := by rw [if_neg (show ¬ (false = true) by decide)] at H; exact H
  clear H
  have H := H1
  clear H1
  obtain rfl := Option.some.inj H
  go_enter Tryz.func27, Tryz.ntmps27
  go_wp2_with (first | ((with_reducible refine gate_dst (N := 1) rfl ?_); refine zq 1 #[.int .i64 a0_0, .slice A0_1 l0_1.length c0_1] 28 ?_; intro gb130 hg w8 hbox hb; have n2_ := Aside0.mk ((by rw [hg]; exact (below_size (zh HB.out)) : w.heap.size ≤ gb130)); replace HB := Aside0.mk (below_step (zh HB.out) hb); have BK130 := Aside0.mk hbox; have GW130 := n2_; have GE130 := n2_; clear n2_ hb hbox hg; have hcz9_0 : w8.cell? ⟨gb130, 0, none⟩ = some (.int .i64 a0_0) := (blk_cell BK130.out 0).trans rfl; have hcz9_1 : w8.cell? ⟨gb130, 1, none⟩ = some (.slice A0_1 l0_1.length c0_1) := (blk_cell BK130.out 1).trans rfl; have hfz9_0 := blk_frozen BK130.out 0; have hfz9_1 := blk_frozen BK130.out 1) | ((with_reducible refine gate_callee (f := 50) rfl ?_); refine zl 4 Tryz.func50 #[.agg #[.int .i64 a0_0, .slice A0_1 l0_1.length c0_1]] ?_; (with_reducible refine (spec_gmGood.calls k a0_0 _ _ l0_1 false _ ?side1 ?side2 A2.out).mono ?_); (case side1 => repeat (first | exact (Kd.C_below HR0_1.out HB.out) | (with_reducible refine Kd.C_alloc ?_ _) | (with_reducible refine Kd.C_drewN ?_ _) | (with_reducible refine Kd.C_drew ?_))); (case side2 => exact HC0_1.out); rintro e w10 ⟨rfl, hb⟩; refine ⟨_, rfl, ?_⟩; have n0_ := Aside0.mk (blk_below (g := gb130) (o := .cells #[.int .i64 a0_0, .slice A0_1 l0_1.length c0_1] 28 (0, 0)) (zb BK130.out) hb); have n1_ := Aside0.mk (below_step (zh HB.out) hb); clear BK130; clear HB; have BK130 := n0_; have HB := n1_; clear n0_ n1_; (try clear hb); (try clear hb2); (try clear hk); (try clear hi)))
  go_ret
  exact ⟨by first | rfl | (simp [*, errW_none, errW_some] <;> rfl), zh HB.out⟩
 subst c3
 have H1 : (some (decide (a0_0 ≤ 4))) = some r := by rw [if_pos rfl] at H; exact H
 clear H
 have H := H1
 clear H1
 obtain rfl := Option.some.inj H
 go_enter Tryz.func27, Tryz.ntmps27
 go_wp2_with (first | ((with_reducible refine gate_dst (N := 1) rfl ?_); refine zq 1 #[.int .i64 a0_0, .slice A0_1 l0_1.length c0_1] 28 ?_; intro gb130 hg w4 hbox hb; have n2_ := Aside0.mk ((by rw [hg]; exact (below_size (zh HB.out)) : w.heap.size ≤ gb130)); replace HB := Aside0.mk (below_step (zh HB.out) hb); have BK130 := Aside0.mk hbox; have GW130 := n2_; have GE130 := n2_; clear n2_ hb hbox hg; have hcz5_0 : w4.cell? ⟨gb130, 0, none⟩ = some (.int .i64 a0_0) := (blk_cell BK130.out 0).trans rfl; have hcz5_1 : w4.cell? ⟨gb130, 1, none⟩ = some (.slice A0_1 l0_1.length c0_1) := (blk_cell BK130.out 1).trans rfl; have hfz5_0 := blk_frozen BK130.out 0; have hfz5_1 := blk_frozen BK130.out 1) | ((with_reducible refine gate_callee (f := 50) rfl ?_); refine zl 4 Tryz.func50 #[.agg #[.int .i64 a0_0, .slice A0_1 l0_1.length c0_1]] ?_; (with_reducible refine (spec_gmGood.calls k a0_0 _ _ l0_1 true _ ?side1 ?side2 A2.out).mono ?_); (case side1 => repeat (first | exact (Kd.C_below HR0_1.out HB.out) | (with_reducible refine Kd.C_alloc ?_ _) | (with_reducible refine Kd.C_drewN ?_ _) | (with_reducible refine Kd.C_drew ?_))); (case side2 => exact HC0_1.out); rintro e w6 ⟨rfl, hb⟩; refine ⟨_, rfl, ?_⟩; have n0_ := Aside0.mk (blk_below (g := gb130) (o := .cells #[.int .i64 a0_0, .slice A0_1 l0_1.length c0_1] 28 (0, 0)) (zb BK130.out) hb); have n1_ := Aside0.mk (below_step (zh HB.out) hb); clear BK130; clear HB; have BK130 := n0_; have HB := n1_; clear n0_ n1_; (try clear hb); (try clear hb2); (try clear hk); (try clear hi); have hcz7_0 : w6.cell? ⟨gb130, 0, none⟩ = some (.int .i64 a0_0) := (blk_cell BK130.out 0).trans rfl; have hcz7_1 : w6.cell? ⟨gb130, 1, none⟩ = some (.slice A0_1 l0_1.length c0_1) := (blk_cell BK130.out 1).trans rfl; have hfz7_0 := blk_frozen BK130.out 0; have hfz7_1 := blk_frozen BK130.out 1))
 go_ret
 exact ⟨by first | rfl | (simp [*, errW_none, errW_some] <;> rfl), zh HB.out⟩
def spec_ChambersNeeded.f (k : Nat) (a0_0 : Int) (l0_1 : List (List Int)) : Option (Int × Bool) := (spec_chNeeds.f k a0_0 l0_1).bind fun t216 => (if t216 = true then ((spec_chNeeded.f k a0_0 l0_1).bind fun t217 => (some ((t217.length : Int), true))) else (some (0, false)))
set_option maxHeartbeats 8000000 in
set_option maxRecDepth 100000 in
theorem spec_ChambersNeeded.calls (k : Nat) (a0_0 : Int) (A0_1 : Option Addr) (c0_1 : Nat) (l0_1 : List (List Int)) (r1 : Int) (r2 : Bool) (w : World) (hr0_1 : Kd.C (Kd.slice 3 (Kd.int .i64)) w A0_1 l0_1.length l0_1) (hc0_1 : l0_1.length ≤ c0_1) (h : spec_ChambersNeeded.f k a0_0 l0_1 = some (r1, r2)) :
  Calls Tryz.prog 7 #[.agg #[.int .i64 a0_0, .slice A0_1 l0_1.length c0_1]] w fun e w' => e = .returned (.tuple #[.int .i64 r1, .bool r2]) ∧ Below w.heap.size w w' := by
 have hu28 := Tryz.underlying28
 have HR0_1 := Aside0.mk hr0_1
 have HC0_1 := Aside0.mk hc0_1
 clear hr0_1 hc0_1
 have HB := Aside0.mk (Below.refl w.heap.size w)
 have H : ((spec_chNeeds.f k a0_0 l0_1).bind fun t216 => (if t216 = true then ((spec_chNeeded.f k a0_0 l0_1).bind fun t217 => (some ((t217.length : Int), true))) else (some (0, false)))) = some (r1, r2) := h
 clear h
 replace H := Option.bind_eq_some_iff.mp H
 obtain ⟨t216, A20, H⟩ := H
 replace H : (if t216 = true then ((spec_chNeeded.f k a0_0 l0_1).bind fun t217 => (some ((t217.length : Int), true))) else (some (0, false))) = some (r1, r2) := H
 have A2 := Aside0.mk A20
 clear A20
 by_cases c3 : t216 = true
 rotate_left
 ·replace c3 := Bool.eq_false_iff.mpr c3
  subst c3
  have H1 : (some (0, false)) = some (r1, r2) := by rw [if_neg (show ¬ (false = true) by decide)] at H; exact H
  clear H
  have H := H1
  clear H1
  simp only [Option.some.injEq, Prod.mk.injEq] at H
  obtain ⟨rfl, rfl⟩ := H
  go_enter Tryz.func7, Tryz.ntmps7
  go_wp2_with (first | ((with_reducible refine gate_dst (N := 1) rfl ?_); refine zq 1 #[.int .i64 a0_0, .slice A0_1 l0_1.length c0_1] 28 ?_; intro gb215 hg w11 hbox hb; have n2_ := Aside0.mk ((by rw [hg]; exact (below_size (zh HB.out)) : w.heap.size ≤ gb215)); replace HB := Aside0.mk (below_step (zh HB.out) hb); have BK215 := Aside0.mk hbox; have GW215 := n2_; have GE215 := n2_; clear n2_ hb hbox hg; have hcz12_0 : w11.cell? ⟨gb215, 0, none⟩ = some (.int .i64 a0_0) := (blk_cell BK215.out 0).trans rfl; have hcz12_1 : w11.cell? ⟨gb215, 1, none⟩ = some (.slice A0_1 l0_1.length c0_1) := (blk_cell BK215.out 1).trans rfl; have hfz12_0 := blk_frozen BK215.out 0; have hfz12_1 := blk_frozen BK215.out 1) | ((with_reducible refine gate_callee (f := 27) rfl ?_); refine zl 5 Tryz.func27 #[.agg #[.int .i64 a0_0, .slice A0_1 l0_1.length c0_1]] ?_; (with_reducible refine (spec_chNeeds.calls k a0_0 _ _ l0_1 false _ ?side1 ?side2 A2.out).mono ?_); (case side1 => repeat (first | exact (Kd.C_below HR0_1.out HB.out) | (with_reducible refine Kd.C_alloc ?_ _) | (with_reducible refine Kd.C_drewN ?_ _) | (with_reducible refine Kd.C_drew ?_))); (case side2 => exact HC0_1.out); rintro e w13 ⟨rfl, hb⟩; refine ⟨_, rfl, ?_⟩; have n0_ := Aside0.mk (blk_below (g := gb215) (o := .cells #[.int .i64 a0_0, .slice A0_1 l0_1.length c0_1] 28 (0, 0)) (zb BK215.out) hb); have n1_ := Aside0.mk (below_step (zh HB.out) hb); clear BK215; clear HB; have BK215 := n0_; have HB := n1_; clear n0_ n1_; (try clear hb); (try clear hb2); (try clear hk); (try clear hi)))
  go_ret2
  exact ⟨by first | rfl | (simp [*, errW_none, errW_some] <;> rfl), zh HB.out⟩
 subst c3
 have H1 : ((spec_chNeeded.f k a0_0 l0_1).bind fun t217 => (some ((t217.length : Int), true))) = some (r1, r2) := by rw [if_pos rfl] at H; exact H
 clear H
 have H := H1
 clear H1
 replace H := Option.bind_eq_some_iff.mp H
 obtain ⟨t217, A40, H⟩ := H
 replace H : (some ((t217.length : Int), true)) = some (r1, r2) := H
 have A4 := Aside0.mk A40
 clear A40
 simp only [Option.some.injEq, Prod.mk.injEq] at H
 obtain ⟨rfl, rfl⟩ := H
 go_enter Tryz.func7, Tryz.ntmps7
 go_wp2_with (first | ((with_reducible refine gate_dst (N := 1) rfl ?_); refine zq 1 #[.int .i64 a0_0, .slice A0_1 l0_1.length c0_1] 28 ?_; intro gb215 hg w5 hbox hb; have n2_ := Aside0.mk ((by rw [hg]; exact (below_size (zh HB.out)) : w.heap.size ≤ gb215)); replace HB := Aside0.mk (below_step (zh HB.out) hb); have BK215 := Aside0.mk hbox; have GW215 := n2_; have GE215 := n2_; clear n2_ hb hbox hg; have hcz6_0 : w5.cell? ⟨gb215, 0, none⟩ = some (.int .i64 a0_0) := (blk_cell BK215.out 0).trans rfl; have hcz6_1 : w5.cell? ⟨gb215, 1, none⟩ = some (.slice A0_1 l0_1.length c0_1) := (blk_cell BK215.out 1).trans rfl; have hfz6_0 := blk_frozen BK215.out 0; have hfz6_1 := blk_frozen BK215.out 1) | ((with_reducible refine gate_callee (f := 27) rfl ?_); refine zl 5 Tryz.func27 #[.agg #[.int .i64 a0_0, .slice A0_1 l0_1.length c0_1]] ?_; (with_reducible refine (spec_chNeeds.calls k a0_0 _ _ l0_1 true _ ?side1 ?side2 A2.out).mono ?_); (case side1 => repeat (first | exact (Kd.C_below HR0_1.out HB.out) | (with_reducible refine Kd.C_alloc ?_ _) | (with_reducible refine Kd.C_drewN ?_ _) | (with_reducible refine Kd.C_drew ?_))); (case side2 => exact HC0_1.out); rintro e w7 ⟨rfl, hb⟩; refine ⟨_, rfl, ?_⟩; have n0_ := Aside0.mk (blk_below (g := gb215) (o := .cells #[.int .i64 a0_0, .slice A0_1 l0_1.length c0_1] 28 (0, 0)) (zb BK215.out) hb); have n1_ := Aside0.mk (below_step (zh HB.out) hb); clear BK215; clear HB; have BK215 := n0_; have HB := n1_; clear n0_ n1_; (try clear hb); (try clear hb2); (try clear hk); (try clear hi); have hcz8_0 : w7.cell? ⟨gb215, 0, none⟩ = some (.int .i64 a0_0) := (blk_cell BK215.out 0).trans rfl; have hcz8_1 : w7.cell? ⟨gb215, 1, none⟩ = some (.slice A0_1 l0_1.length c0_1) := (blk_cell BK215.out 1).trans rfl; have hfz8_0 := blk_frozen BK215.out 0; have hfz8_1 := blk_frozen BK215.out 1) | ((with_reducible refine gate_callee (f := 28) rfl ?_); refine zl 8 Tryz.func28 #[.agg #[.int .i64 a0_0, .slice A0_1 l0_1.length c0_1]] ?_; (with_reducible refine (spec_chNeeded.calls k a0_0 _ _ l0_1 t217 _ ?side1 ?side2 A4.out).mono ?_); (case side1 => repeat (first | exact (Kd.C_below HR0_1.out HB.out) | (with_reducible refine Kd.C_alloc ?_ _) | (with_reducible refine Kd.C_drewN ?_ _) | (with_reducible refine Kd.C_drew ?_))); (case side2 => exact HC0_1.out); rintro e w9 ⟨v218, rfl, ho0, hb⟩; refine ⟨_, rfl, ?_⟩; have n0_ := Aside0.mk (Kd.V_lower (Kd.V_mono (ok' := fun k_ => k_ ≠ gb215) ho0 (fun k_ hk_ => (Kd.freshB (g := gb215) (o := .cells #[.int .i64 a0_0, .slice A0_1 l0_1.length c0_1] 28 (0, 0)) (zb BK215.out) k_ hk_))) (below_size (zh HB.out))); have n1_ := Aside0.mk (blk_below (g := gb215) (o := .cells #[.int .i64 a0_0, .slice A0_1 l0_1.length c0_1] 28 (0, 0)) (zb BK215.out) hb); have n2_ := Aside0.mk (below_step (zh HB.out) hb); clear BK215; clear HB; have HO219 := n0_; have BK215 := n1_; have HB := n2_; clear n0_ n1_ n2_; (try clear hb); (try clear hb2); (try clear hk); (try clear hi); (try clear ho0); obtain ⟨Ao10, co10, eo10⟩ := Kd.V_slice HO219.out; subst eo10))
 go_ret2
 exact ⟨by first | rfl | (simp [*, errW_none, errW_some] <;> rfl), zh HB.out⟩
end Go.Proofs.YtmbkmabpebjboaaGreat.Q
end
section
namespace Go.Proofs.YtmbkmabpebjboaaGreat.Q
open Go.RowKit Go.Proofs.YtmbkmabpebjboaaGreatW.PrintWords Go.Proofs.YtmbkmabpebjboaaGreatW.PrintLast Go.Proofs.YtmbkmabpebjboaaGreatW.PrintMore
set_option linter.unusedVariables false
set_option linter.unusedSimpArgs false
set_option maxHeartbeats 1000000 in
theorem indexFunc_ints (p : List Int → Option Bool) (g : Nat) (lb : Array Value) (eg : ∀ args w, (callFunc g args).run Tryz.prog w = .ok (.enter g args) w)
    (A0 : Option Addr) (c0 : Nat) (l0 : List (List Int)) (r : Int) (w : World) (hr0 : Kd.C (Kd.slice 3 (Kd.int .i64)) w A0 l0.length l0) (hc0 : l0.length ≤ c0)
    (hp : PredK Tryz.prog g lb (Kd.slice 3 (Kd.int .i64)) (fun c => c.getD 0 undef) w p) (h : idxO p l0 0 = some r) :
    Calls Tryz.prog 140 #[.slice A0 l0.length c0, .func (.func g) #[] lb] w fun e w' => e = .returned (.int .i64 r) ∧ Below w.heap.size w w' := by
  have hlen := hr0.2.1
  have HR0 := Aside0.mk hr0
  clear hr0
  have HP := Aside0.mk hp
  clear hp
  have H0 := Aside0.mk h
  clear h
  go_enter Tryz.func140, Tryz.ntmps140
  go_wp2
  go_loopg [5, 8] l0.length (fun gg _ s8 wr => ∃ kk : Nat, kk ≤ l0.length ∧ l0.length - kk ≤ gg ∧ s8 = .int .i64 kk ∧ Aside0 (Below w.heap.size w wr) ∧ Aside0 (idxO p (l0.drop kk) kk = some r))
  case atStart => exact ⟨0, Nat.zero_le _, by omega, rfl, ⟨Below.refl _ w⟩, H0⟩
  case round =>
    obtain ⟨kk, hkk, hg, rfl, BW, A⟩ := hrel
    by_cases hlt : kk < l0.length
    · have hltz : (kk : Int) < (l0.length : Int) := by omega
      obtain ⟨ad, c, e, _, hK, hcell⟩ := Kd.C_get HR0.out ([] : List Int) (kk : Int) (by omega) hltz
      subst e
      rw [Int.toNat_natCast] at hK hcell
      have hKK := hK
      obtain ⟨A1, c1, rfl, hl1, hk1⟩ := hKK
      have l2 := (BW.out.cell (World.block_lt_of_cell? w _ (hcell 0 _ rfl))).trans (hcell 0 _ rfl)
      clear hcell
      obtain ⟨b, hb, h1, h2⟩ := idxO_step A.out (show l0[kk]? = some (l0.getD kk []) by rw [List.getD_eq_getElem?_getD, List.getElem?_eq_getElem hlt]; rfl)
      have hcall := HP.out wr _ _ b BW.out hK hb
      have l3 : wr.cell? (ad.add kk) = some (.slice A1 (l0.getD kk []).length c1) := by simpa [show (Kd.slice 3 (Kd.int .i64)).sz = 1 from rfl] using l2
      clear l2 hK hk1
      generalize l0.getD kk [] = y at l3 hcall hb hl1
      have B := Aside0.mk hb
      clear hb
      cases b with
      | true =>
        have E := h1 rfl
        clear h1 h2
        have E' := Aside0.mk E
        clear E
        go_wp2_with (go_at_fn g; refine hcall.mono ?_; rintro e w' ⟨rfl, hb'⟩)
        go_ret
        exact ⟨ret_i E'.out.symm, hb'⟩
      | false =>
        have E := Aside0.mk (h2 rfl)
        clear h1 h2
        go_wp2_with (go_at_fn g; refine hcall.mono ?_; rintro e w' ⟨rfl, hb'⟩)
        go_roundg (l0.length - (kk + 1))
        case measure => omega
        case rel => exact ⟨kk + 1, by omega, by omega, by go_num, ⟨hb'⟩, E⟩
    · have hltz : ¬ (kk : Int) < (l0.length : Int) := by omega
      have : kk = l0.length := by omega
      subst this
      go_wp2
      go_ret
      refine ⟨?_, BW.out⟩
      have h3 := A.out
      rw [List.drop_length] at h3
      have h4 : (-1 : Int) = r := by simpa [idxO] using h3
      exact ret_i h4
set_option maxHeartbeats 1000000 in
theorem containsFunc_ints (p : List Int → Option Bool) (g : Nat) (lb : Array Value) (eg : ∀ args w, (callFunc g args).run Tryz.prog w = .ok (.enter g args) w)
    (A0 : Option Addr) (c0 : Nat) (l0 : List (List Int)) (r : Bool) (w : World) (hr0 : Kd.C (Kd.slice 3 (Kd.int .i64)) w A0 l0.length l0) (hc0 : l0.length ≤ c0)
    (hp : PredK Tryz.prog g lb (Kd.slice 3 (Kd.int .i64)) (fun c => c.getD 0 undef) w p) (h : anyO p l0 = some r) :
    Calls Tryz.prog 123 #[.slice A0 l0.length c0, .func (.func g) #[] lb] w fun e w' => e = .returned (.bool r) ∧ Below w.heap.size w w' := by
  obtain ⟨i, hi, rfl⟩ := anyO_idxO p l0 0 r h
  have hcon := indexFunc_ints p g lb eg A0 c0 l0 i w hr0 hc0 hp hi
  clear hr0 hp h hi
  go_enter Tryz.func123, Tryz.ntmps123
  go_wp2_with (go_at_call 140; refine hcon.mono ?_; rintro e w' ⟨rfl, hb'⟩)
  go_ret
  exact ⟨rfl, hb'⟩
end Go.Proofs.YtmbkmabpebjboaaGreat.Q
end
section
namespace Go.Proofs.YtmbkmabpebjboaaGreat.Q
open Go.RowKit Go.Proofs.YtmbkmabpebjboaaGreatW.PrintWords Go.Proofs.YtmbkmabpebjboaaGreatW.PrintLast Go.Proofs.YtmbkmabpebjboaaGreatW.PrintMore
attribute [local go_sem] max2_int min2_int max_two min_two max_three min_three max_four min_four
set_option linter.unusedVariables false
set_option linter.unusedSimpArgs false
def impl_isSet.f (k : Nat) (l0 : List Int) (a1 : Int) : Option (Bool) := (impl_areIn.f l0 0 (wrap64 (a1 - 1))).bind fun t241 => (if t241 = true then ((impl_isIncreasing.f k l0).bind fun t242 => (some t242)) else (some false))
set_option maxHeartbeats 8000000 in
set_option maxRecDepth 100000 in
theorem impl_isSet.calls (k : Nat) (A0 : Option Addr) (c0 : Nat) (l0 : List Int) (a1 : Int) (r : Bool) (w : World) (hr0 : Kd.C (Kd.int .i64) w A0 l0.length l0) (hc0 : l0.length ≤ c0) (h : impl_isSet.f k l0 a1 = some r) :
  Calls Tryz.prog 125 #[.slice A0 l0.length c0, .int .i64 a1] w fun e w' => e = .returned (.bool r) ∧ Below w.heap.size w w' := by
 have HR0 := Aside0.mk hr0
 have HC0 := Aside0.mk hc0
 clear hr0 hc0
 have HB := Aside0.mk (Below.refl w.heap.size w)
 have H : ((impl_areIn.f l0 0 (wrap64 (a1 - 1))).bind fun t241 => (if t241 = true then ((impl_isIncreasing.f k l0).bind fun t242 => (some t242)) else (some false))) = some r := h
 clear h
 replace H := Option.bind_eq_some_iff.mp H
 obtain ⟨t241, A30, H⟩ := H
 replace H : (if t241 = true then ((impl_isIncreasing.f k l0).bind fun t242 => (some t242)) else (some false)) = some r := H
 have A3 := Aside0.mk A30
 clear A30
 by_cases c4 : t241 = true
 rotate_left
 ·replace c4 := Bool.eq_false_iff.mpr c4
  subst c4
  have H1 : (some false) = some r := by rw [if_neg (show ¬ (false = true) by decide)] at H; exact H
  clear H
  have H := H1
  clear H1
  obtain rfl := Option.some.inj H
  go_enter Tryz.func125, Tryz.ntmps125
  go_wp2_with (first | ((with_reducible refine gate_callee (f := 141) rfl ?_); refine zl 8 Tryz.func141 #[.slice A0 l0.length c0, .int .i64 0, .int .i64 (wrap64 (a1 - 1))] ?_; (with_reducible refine (impl_areIn.calls _ _ l0 0 (wrap64 (a1 - 1)) false _ ?side1 ?side2 A3.out).mono ?_); (case side1 => repeat (first | exact HR0.out | (with_reducible refine Kd.C_alloc ?_ _) | (with_reducible refine Kd.C_drewN ?_ _) | (with_reducible refine Kd.C_drew ?_))); (case side2 => exact HC0.out); rintro e w7 ⟨rfl, hb⟩; refine ⟨_, rfl, ?_⟩; have n0_ := Aside0.mk (below_step (zh HB.out) hb); clear HB; have HB := n0_; clear n0_; (try clear hb); (try clear hb2); (try clear hk); (try clear hi)))
  go_ret
  exact ⟨by first | rfl | (simp [*, errW_none, errW_some] <;> rfl), zh HB.out⟩
 subst c4
 have H1 : ((impl_isIncreasing.f k l0).bind fun t242 => (some t242)) = some r := by rw [if_pos rfl] at H; exact H
 clear H
 have H := H1
 clear H1
 replace H := Option.bind_eq_some_iff.mp H
 obtain ⟨t242, A50, H⟩ := H
 replace H : (some t242) = some r := H
 have A5 := Aside0.mk A50
 clear A50
 obtain rfl := Option.some.inj H
 go_enter Tryz.func125, Tryz.ntmps125
 go_wp2_with (first | ((with_reducible refine gate_callee (f := 141) rfl ?_); refine zl 8 Tryz.func141 #[.slice A0 l0.length c0, .int .i64 0, .int .i64 (wrap64 (a1 - 1))] ?_; (with_reducible refine (impl_areIn.calls _ _ l0 0 (wrap64 (a1 - 1)) true _ ?side1 ?side2 A3.out).mono ?_); (case side1 => repeat (first | exact HR0.out | (with_reducible refine Kd.C_alloc ?_ _) | (with_reducible refine Kd.C_drewN ?_ _) | (with_reducible refine Kd.C_drew ?_))); (case side2 => exact HC0.out); rintro e w6 ⟨rfl, hb⟩; refine ⟨_, rfl, ?_⟩; have n0_ := Aside0.mk (below_step (zh HB.out) hb); clear HB; have HB := n0_; clear n0_; (try clear hb); (try clear hb2); (try clear hk); (try clear hi)) | (go_at_call 142; (with_reducible refine (impl_isIncreasing.calls k _ _ l0 t242 _ ?side1 ?side2 A5.out).mono ?_); (case side1 => repeat (first | exact (Kd.C_below HR0.out HB.out) | (with_reducible refine Kd.C_alloc ?_ _) | (with_reducible refine Kd.C_drewN ?_ _) | (with_reducible refine Kd.C_drew ?_))); (case side2 => exact HC0.out); rintro e w' ⟨rfl, ⟨nd, rfl⟩⟩))
 go_ret
 exact ⟨by first | rfl | (simp [*, errW_none, errW_some] <;> rfl), zh HB.out⟩
end Go.Proofs.YtmbkmabpebjboaaGreat.Q
end
section
namespace Go.Proofs.YtmbkmabpebjboaaGreat.Q
open Go.RowKit Go.Proofs.YtmbkmabpebjboaaGreatW.PrintWords Go.Proofs.YtmbkmabpebjboaaGreatW.PrintLast Go.Proofs.YtmbkmabpebjboaaGreatW.PrintMore
set_option linter.unusedVariables false
set_option linter.unusedSimpArgs false
def impl_areSets_1.f (k : Nat) (n : Int) (l : List Int) : Option Bool := if (l.length : Int) = 0 then some true else (impl_isSet.f k l n).bind fun b => some (!b)
set_option maxHeartbeats 1000000 in
theorem impl_areSets_1.pred (k : Nat) (n : Int) (b1 : Nat) (w : World) (h1 : w.cell? ⟨b1, 0, none⟩ = some (.int .i64 n)) :
    PredK Tryz.prog 124 #[.pointer (some ⟨b1, 0, none⟩)] (Kd.slice 3 (Kd.int .i64)) (fun c => c.getD 0 undef) w (impl_areSets_1.f k n) := by
  intro W x c b hb hK hp
  obtain ⟨A1, c1, rfl, hl1, hk1⟩ := hK
  show Calls Tryz.prog 124 #[.slice A1 x.length c1, .pointer (some ⟨b1, 0, none⟩)] W _
  have hk2 : Kd.C (Kd.int .i64) W A1 x.length x := Kd.C_below hk1 hb
  have q1 := (hb.cell (World.block_lt_of_cell? w _ h1)).trans h1
  have hB := Aside0.mk hb
  have hC := Aside0.mk hk2
  have hL := Aside0.mk hl1
  unfold impl_areSets_1.f at hp
  clear h1 hb hk1 hk2 hl1
  by_cases h0 : (x.length : Int) = 0
  · rw [if_pos h0] at hp
    have hr' := Option.some.inj hp
    have hE := Aside0.mk hr'
    clear hp hr'
    have h0b : ((x.length : Int) == 0) = true := by simpa using h0
    go_enter Tryz.func124, Tryz.ntmps124
    go_wp2
    go_ret
    exact ⟨ret_b hE.out, hB.out⟩
  · rw [if_neg h0] at hp
    obtain ⟨t, ht, hr⟩ := Option.bind_eq_some_iff.mp hp
    have hr' : (!t) = b := Option.some.inj hr
    have hT := Aside0.mk ht
    have hE := Aside0.mk hr'
    clear hp ht hr hr'
    have h0b : ((x.length : Int) == 0) = false := by simpa using h0
    go_enter Tryz.func124, Tryz.ntmps124
    go_wp2_with (go_at_call 125; refine (impl_isSet.calls _ _ _ _ _ _ _ hC.out hL.out hT.out).mono ?_; rintro e w' ⟨rfl, hb'⟩)
    go_ret
    exact ⟨ret_b hE.out, hB.out.trans (hb'.mono hB.out.size)⟩
def impl_areSets.f (k : Nat) (l0 : List (List Int)) (a1 : Int) : Option Bool := (anyO (impl_areSets_1.f k a1) l0).bind fun b => some (!b)
set_option maxHeartbeats 1000000 in
theorem impl_areSets.calls (k : Nat) (A0 : Option Addr) (c0 : Nat) (l0 : List (List Int)) (a1 : Int) (r : Bool) (w : World) (hr0 : Kd.C (Kd.slice 3 (Kd.int .i64)) w A0 l0.length l0) (hc0 : l0.length ≤ c0) (h : impl_areSets.f k l0 a1 = some r) :
    Calls Tryz.prog 89 #[.slice A0 l0.length c0, .int .i64 a1] w fun e w' => e = .returned (.bool r) ∧ Below w.heap.size w w' := by
  have eg : ∀ args w, (callFunc 124 args).run Tryz.prog w = .ok (.enter 124 args) w := enters_of Tryz.func124 (by kernel_rfl) rfl
  obtain ⟨t, ht, hr⟩ := Option.bind_eq_some_iff.mp h
  have hE := Aside0.mk (show (!t) = r from Option.some.inj hr)
  have hT := Aside0.mk ht
  have HR := Aside0.mk hr0
  clear h hr ht hr0
  go_enter Tryz.func89, Tryz.ntmps89
  go_wp2_with fail
  refine (containsFunc_ints (impl_areSets_1.f k a1) 124 #[.pointer (some ⟨w.heap.size, 0, none⟩)] eg A0 c0 l0 t _ ?_ hc0 ?_ hT.out).mono ?_
  · exact Kd.C_below HR.out ((Below.refl _ w).alloc (Nat.le_refl _) _)
  · exact impl_areSets_1.pred k a1 _ _ (by go_simp)
  · rintro e w' ⟨rfl, hb⟩
    go_wp2
    go_ret
    exact ⟨ret_b hE.out, ((Below.refl _ w).alloc (Nat.le_refl _) _).trans (hb.mono (by simp))⟩
end Go.Proofs.YtmbkmabpebjboaaGreat.Q
end
section
namespace Go.Proofs.YtmbkmabpebjboaaGreat.Q
open Go.RowKit Go.Proofs.YtmbkmabpebjboaaGreatW.PrintWords Go.Proofs.YtmbkmabpebjboaaGreatW.PrintLast Go.Proofs.YtmbkmabpebjboaaGreatW.PrintMore
attribute [local go_sem] max2_int min2_int max_two min_two max_three min_three max_four min_four
set_option linter.unusedVariables false
set_option linter.unusedSimpArgs false
mutual
def impl_IsGame.j0 : Nat → Bool → Int → List (List Int) → Option (Bool)
 | 0, _, _, _ => none
 | k + 1, x24, x250000, x250001 => if x24 = true then (some false) else (impl_IsGame.l0 k x250001 (x250001.length : Int) 0 x250000 x250001)
def impl_IsGame.l0 : Nat → List (List Int) → Int → Int → Int → List (List Int) → Option (Bool)
 | 0, _, _, _, _, _ => none
 | k + 1, x26, x27, x28, x250000, x250001 => if x28 < x27 then (if 0 ≤ x28 then (if x28 < (x26.length : Int) then (if x28 > 0 then (if 0 ≤ (wrap64 (x28 - 1)) then (if (wrap64 (x28 - 1)) < (x250001.length : Int) then ((slices_Compare_int_int.f k (rd_L1 x250001 (wrap64 (x28 - 1))) (rd_L1 x26 x28)).bind fun t254 => (impl_IsGame.j2 k x28 (rd_L1 x26 x28) x26 x27 x28 (decide (t254 ≥ 0)) x250000 x250001)) else (none)) else (none)) else (impl_IsGame.j2 k x28 (rd_L1 x26 x28) x26 x27 x28 false x250000 x250001)) else (none)) else (none)) else (some true)
def impl_IsGame.j2 : Nat → Int → List Int → List (List Int) → Int → Int → Bool → Int → List (List Int) → Option (Bool)
 | 0, _, _, _, _, _, _, _, _ => none
 | k + 1, x3, x4, x26, x27, x28, x45, x250000, x250001 => if x45 = true then (some false) else (impl_IsGame.l1 k x3 x4 x26 x27 x28 x250001 (x250001.length : Int) 0 x250000 x250001)
def impl_IsGame.l1 : Nat → Int → List Int → List (List Int) → Int → Int → List (List Int) → Int → Int → Int → List (List Int) → Option (Bool)
 | 0, _, _, _, _, _, _, _, _, _, _ => none
 | k + 1, x3, x4, x26, x27, x28, x47, x48, x49, x250000, x250001 => if x49 < x48 then (if 0 ≤ x49 then (if x49 < (x47.length : Int) then (if x49 = x3 then (impl_IsGame.l1 k x3 x4 x26 x27 x28 x47 x48 (wrap64 (x49 + 1)) x250000 x250001) else ((impl_maskOf.f k x4).bind fun t256 => ((impl_maskOf.f k (rd_L1 x47 x49)).bind fun t257 => (if (Go.bits .and .i64 t256 t257) = t257 then (some false) else (impl_IsGame.l1 k x3 x4 x26 x27 x28 x47 x48 (wrap64 (x49 + 1)) x250000 x250001))))) else (none)) else (none)) else (impl_IsGame.l0 k x26 x27 (wrap64 (x28 + 1)) x250000 x250001)
end
def impl_IsGame.f (k : Nat) (a0_0 : Int) (l0_1 : List (List Int)) : Option (Bool) := (impl_within.f a0_0 1 9).bind fun t250 => (if t250 = true then (if (l0_1.length : Int) = 0 then (impl_IsGame.j0 k true a0_0 l0_1) else ((impl_areSets.f k l0_1 a0_0).bind fun t251 => (impl_IsGame.j0 k (!t251) a0_0 l0_1))) else (impl_IsGame.j0 k true a0_0 l0_1))
set_option maxHeartbeats 8000000 in
set_option maxRecDepth 100000 in
theorem impl_IsGame.calls (k : Nat) (a0_0 : Int) (A0_1 : Option Addr) (c0_1 : Nat) (l0_1 : List (List Int)) (r : Bool) (w : World) (hr0_1 : Kd.C (Kd.slice 3 (Kd.int .i64)) w A0_1 l0_1.length l0_1) (hc0_1 : l0_1.length ≤ c0_1) (h : impl_IsGame.f k a0_0 l0_1 = some r) :
  Calls Tryz.prog 55 #[.agg #[.int .i64 a0_0, .slice A0_1 l0_1.length c0_1]] w fun e w' => e = .returned (.bool r) ∧ Below w.heap.size w w' := by
 have hu28 := Tryz.underlying28
 have HR0_1 := Aside0.mk hr0_1
 have HC0_1 := Aside0.mk hc0_1
 clear hr0_1 hc0_1
 have HB := Aside0.mk (Below.refl w.heap.size w)
 have H : ((impl_within.f a0_0 1 9).bind fun t250 => (if t250 = true then (if (l0_1.length : Int) = 0 then (impl_IsGame.j0 k true a0_0 l0_1) else ((impl_areSets.f k l0_1 a0_0).bind fun t251 => (impl_IsGame.j0 k (!t251) a0_0 l0_1))) else (impl_IsGame.j0 k true a0_0 l0_1))) = some r := h
 clear h
 have HC2 := Aside0.mk H
 clear H
 go_enter Tryz.func55, Tryz.ntmps55
 go_upto_region 1 with (first | ((with_reducible refine gate_dst (N := 1) rfl ?_); (try (refine gate_guard (by rfl) ?_; dsimp only)); refine zq 1 #[.int .i64 a0_0, .slice A0_1 l0_1.length c0_1] 28 ?_; intro gb249 hg w3 hbox hb; have n2_ := Aside0.mk ((by rw [hg]; exact (below_size (zh HB.out)) : w.heap.size ≤ gb249)); replace HB := Aside0.mk (below_step (zh HB.out) hb); have BK249 := Aside0.mk hbox; have GW249 := n2_; have GE249 := n2_; clear n2_ hb hbox hg))
 (try simp only [Act.put, List.setIfInBounds_toArray, List.set_cons_zero, List.set_cons_succ])
 go_cut [24] (fun v24 wc => ∃ (kq : Nat) (x24_1 : Bool), v24 = .bool x24_1 ∧ Aside0 (impl_IsGame.j0 kq x24_1 a0_0 l0_1 = some r) ∧ Aside0 (kq ≤ k) ∧ Aside0 (wc.heap[gb249]? = some (.cells #[.int .i64 a0_0, (.slice A0_1 l0_1.length c0_1)] 28 (0, 0))) ∧ Aside0 (Below w.heap.size w wc))
 case first =>
  have H := HC2.out
  clear HC2
  replace H := Option.bind_eq_some_iff.mp H
  obtain ⟨t250, A40, H⟩ := H
  replace H : (if t250 = true then (if (l0_1.length : Int) = 0 then (impl_IsGame.j0 k true a0_0 l0_1) else ((impl_areSets.f k l0_1 a0_0).bind fun t251 => (impl_IsGame.j0 k (!t251) a0_0 l0_1))) else (impl_IsGame.j0 k true a0_0 l0_1)) = some r := H
  have A4 := Aside0.mk A40
  clear A40
  by_cases c5 : t250 = true
  ·subst c5
   have H1 : (if (l0_1.length : Int) = 0 then (impl_IsGame.j0 k true a0_0 l0_1) else ((impl_areSets.f k l0_1 a0_0).bind fun t251 => (impl_IsGame.j0 k (!t251) a0_0 l0_1))) = some r := by rw [if_pos rfl] at H; exact H
   clear H
   have H := H1
   clear H1
   by_cases c6 : (l0_1.length : Int) = 0
   ·rw [if_pos c6] at H
    have c6b0 : ((l0_1.length : Int) == 0) = true := beq_iff_eq.mpr c6
    have c6b1 : ((l0_1.length : Int) != 0) = false := bne_eq_false_iff_eq.mpr c6
    clear c6
    (first | rw [c6b0] | (simp only [i64_w, i32_w]; rw [c6b0]) | skip)
    have H' := Aside0.mk H
    clear H
    have hcz7_0 : w3.cell? ⟨gb249, 0, none⟩ = some (.int .i64 a0_0) := (blk_cell BK249.out 0).trans rfl
    have hcz7_1 : w3.cell? ⟨gb249, 1, none⟩ = some (.slice A0_1 l0_1.length c0_1) := (blk_cell BK249.out 1).trans rfl
    have hfz7_0 := blk_frozen BK249.out 0
    have hfz7_1 := blk_frozen BK249.out 1
    go_wp2_with (first | ((with_reducible refine gate_callee (f := 88) rfl ?_); refine zl 9 Tryz.func88 #[.int .i64 a0_0, .int .i64 1, .int .i64 9] ?_; (with_reducible refine (impl_within.calls a0_0 1 9 true _ A4.out).mono ?_); rintro e w' ⟨rfl, ⟨nd, rfl⟩⟩; refine ⟨_, rfl, ?_⟩))
    go_meet
    case rel => exact ⟨_, (true), (by first | rfl | (simp; done) | (simp [*]; done)), H', ⟨by first | omega | exact Nat.le_refl _⟩, ⟨zb BK249.out⟩, ⟨zh HB.out⟩⟩
   ·rw [if_neg c6] at H
    have c6b0 : ((l0_1.length : Int) == 0) = false := beq_eq_false_iff_ne.mpr c6
    have c6b1 : ((l0_1.length : Int) != 0) = true := bne_iff_ne.mpr c6
    have c6b2 : ¬ (l0_1 = []) := fun h_ => c6 (by rw [h_]; rfl)
    (first | rw [c6b0] | (simp only [i64_w, i32_w]; rw [c6b0]) | skip)
    replace H := Option.bind_eq_some_iff.mp H
    obtain ⟨t251, A80, H⟩ := H
    replace H : (impl_IsGame.j0 k (!t251) a0_0 l0_1) = some r := H
    have A8 := Aside0.mk A80
    clear A80
    have H' := Aside0.mk H
    clear H
    have hcz9_0 : w3.cell? ⟨gb249, 0, none⟩ = some (.int .i64 a0_0) := (blk_cell BK249.out 0).trans rfl
    have hcz9_1 : w3.cell? ⟨gb249, 1, none⟩ = some (.slice A0_1 l0_1.length c0_1) := (blk_cell BK249.out 1).trans rfl
    have hfz9_0 := blk_frozen BK249.out 0
    have hfz9_1 := blk_frozen BK249.out 1
    go_wp2_with (first | ((with_reducible refine gate_callee (f := 88) rfl ?_); refine zl 9 Tryz.func88 #[.int .i64 a0_0, .int .i64 1, .int .i64 9] ?_; (with_reducible refine (impl_within.calls a0_0 1 9 true _ A4.out).mono ?_); rintro e w' ⟨rfl, ⟨nd, rfl⟩⟩; refine ⟨_, rfl, ?_⟩) | (go_at_call 89; (with_reducible refine (impl_areSets.calls k _ _ l0_1 a0_0 t251 _ ?side1 ?side2 A8.out).mono ?_); (case side1 => repeat (first | exact (Kd.C_below HR0_1.out (zh HB.out)) | (with_reducible refine Kd.C_alloc ?_ _) | (with_reducible refine Kd.C_drewN ?_ _) | (with_reducible refine Kd.C_drew ?_))); (case side2 => exact HC0_1.out); rintro e w10 ⟨rfl, hb⟩; have n0_ := Aside0.mk (blk_below (g := gb249) (o := .cells #[.int .i64 a0_0, .slice A0_1 l0_1.length c0_1] 28 (0, 0)) (zb BK249.out) hb); have n1_ := Aside0.mk (below_step (zh HB.out) hb); clear BK249; clear HB; have BK249 := n0_; have HB := n1_; clear n0_ n1_; (try clear hb); (try clear hb2); (try clear hk); (try clear hi)))
    go_meet
    case rel => exact ⟨_, (!t251), (by first | rfl | (simp; done) | (simp [*]; done)), H', ⟨by first | omega | exact Nat.le_refl _⟩, ⟨zb BK249.out⟩, ⟨zh HB.out⟩⟩
  ·replace c5 := Bool.eq_false_iff.mpr c5
   subst c5
   have H1 : (impl_IsGame.j0 k true a0_0 l0_1) = some r := by rw [if_neg (show ¬ (false = true) by decide)] at H; exact H
   clear H
   have H := H1
   clear H1
   have H' := Aside0.mk H
   clear H
   have hcz11_0 : w3.cell? ⟨gb249, 0, none⟩ = some (.int .i64 a0_0) := (blk_cell BK249.out 0).trans rfl
   have hcz11_1 : w3.cell? ⟨gb249, 1, none⟩ = some (.slice A0_1 l0_1.length c0_1) := (blk_cell BK249.out 1).trans rfl
   have hfz11_0 := blk_frozen BK249.out 0
   have hfz11_1 := blk_frozen BK249.out 1
   go_wp2_with (first | ((with_reducible refine gate_callee (f := 88) rfl ?_); refine zl 9 Tryz.func88 #[.int .i64 a0_0, .int .i64 1, .int .i64 9] ?_; (with_reducible refine (impl_within.calls a0_0 1 9 false _ A4.out).mono ?_); rintro e w' ⟨rfl, ⟨nd, rfl⟩⟩; refine ⟨_, rfl, ?_⟩))
   go_meet
   case rel => exact ⟨_, (true), (by first | rfl | (simp; done) | (simp [*]; done)), H', ⟨by first | omega | exact Nat.le_refl _⟩, ⟨zb BK249.out⟩, ⟨zh HB.out⟩⟩
 case rest =>
  clear HC2
  try clear p2
  try clear c5
  try clear c6
  try clear c6b0
  try clear c6b1
  try clear c6b2
  try clear c8
  try clear hcz11_0
  try clear hcz11_1
  try clear hcz7_0
  try clear hcz7_1
  try clear hcz9_0
  try clear hcz9_1
  try clear hfz11_0
  try clear hfz11_1
  try clear hfz7_0
  try clear hfz7_1
  try clear hfz9_0
  try clear hfz9_1
  obtain ⟨kq, x24_1, rfl, HA, HJ1, BK249, HB⟩ := hcut
  cases kq with
  | zero => exact absurd HA.out (by simp [impl_IsGame.j0])
  | succ kj1 =>
   have H := HA.out
   clear HA
   simp only [impl_IsGame.j0] at H
   by_cases c12 : x24_1 = true
   ·subst c12
    have H1 : (some false) = some r := by rw [if_pos rfl] at H; exact H
    clear H
    have H := H1
    clear H1
    obtain rfl := Option.some.inj H
    go_wp2
    go_ret
    exact ⟨by first | rfl | (simp [*, errW_none, errW_some] <;> rfl), zh HB.out⟩
   replace c12 := Bool.eq_false_iff.mpr c12
   subst c12
   have H1 : (impl_IsGame.l0 kj1 l0_1 (l0_1.length : Int) 0 a0_0 l0_1) = some r := by rw [if_neg (show ¬ (false = true) by decide)] at H; exact H
   clear H
   have H := H1
   clear H1
   have H' := Aside0.mk H
   clear H
   have hcz13_0 : wc.cell? ⟨gb249, 0, none⟩ = some (.int .i64 a0_0) := (blk_cell BK249.out 0).trans rfl
   have hcz13_1 : wc.cell? ⟨gb249, 1, none⟩ = some (.slice A0_1 l0_1.length c0_1) := (blk_cell BK249.out 1).trans rfl
   have hfz13_0 := blk_frozen BK249.out 0
   have hfz13_1 := blk_frozen BK249.out 1
   go_wp2
   go_loopg [28] kj1 (fun kq v28 w' => ∃ (x28_2 : Int), v28 = .int .i64 x28_2 ∧ Aside0 (impl_IsGame.l0 kq l0_1 (l0_1.length : Int) x28_2 a0_0 l0_1 = some r) ∧ Aside0 (kq ≤ kj1) ∧ Aside0 (w'.heap[gb249]? = some (.cells #[.int .i64 a0_0, (.slice A0_1 l0_1.length c0_1)] 28 (0, 0))) ∧ Aside0 (Below w.heap.size w w'))
   case atStart => exact ⟨(0), (by first | rfl | (simp; done) | (simp [*]; done)), H', ⟨Nat.le_refl _⟩, ⟨zb BK249.out⟩, ⟨zh HB.out⟩⟩
   case round =>
    clear H'
    try clear c1
    try clear p2
    try clear c5
    try clear c6
    try clear c6b0
    try clear c6b1
    try clear c6b2
    try clear c8
    try clear c12
    try clear hcz11_0
    try clear hcz11_1
    try clear hcz13_0
    try clear hcz13_1
    try clear hcz7_0
    try clear hcz7_1
    try clear hcz9_0
    try clear hcz9_1
    try clear hfz11_0
    try clear hfz11_1
    try clear hfz13_0
    try clear hfz13_1
    try clear hfz7_0
    try clear hfz7_1
    try clear hfz9_0
    try clear hfz9_1
    try clear p2
    obtain ⟨x28_2, rfl, HA, HK2, BK249, HB⟩ := hrel
    cases gk with
    | zero => exact absurd HA.out (by simp [impl_IsGame.l0])
    | succ k2 =>
     have H := HA.out
     clear HA
     simp only [impl_IsGame.l0] at H
     by_cases c14 : x28_2 < (l0_1.length : Int)
     rotate_left
     ·rw [if_neg c14] at H
      have c14b0 : decide (x28_2 < (l0_1.length : Int)) = false := decide_eq_false c14
      clear c14
      obtain rfl := Option.some.inj H
      go_wp2
      go_ret
      exact ⟨by first | rfl | (simp [*, errW_none, errW_some] <;> rfl), zh HB.out⟩
     rw [if_pos c14] at H
     have c14b0 : decide (x28_2 < (l0_1.length : Int)) = true := decide_eq_true c14
     clear c14
     by_cases c15 : 0 ≤ x28_2
     rotate_left
     ·rw [if_neg c15] at H
      exact absurd H (by simp)
     rw [if_pos c15] at H
     have c15b0 : decide (0 ≤ x28_2) = true := decide_eq_true c15
     clear c15
     by_cases c16 : x28_2 < (l0_1.length : Int)
     rotate_left
     ·rw [if_neg c16] at H
      exact absurd H (by simp)
     rw [if_pos c16] at H
     have c16b0 : decide (x28_2 < (l0_1.length : Int)) = true := decide_eq_true c16
     clear c16
     have HC17 := Aside0.mk H
     clear H
     have p252 : 0 ≤ (x28_2 : Int) := zk
     have q252 : x28_2 < (l0_1.length : Int) := zk
     obtain ⟨ad252, A252_0, c252_0, e252, hx252_0, hl252_0, hi252_0⟩ := at_L1 HR0_1.out x28_2 p252 q252
     cases e252
     replace hx252_0 := zx HB.out hx252_0
     have HR252_0 := Aside0.mk hi252_0
     have HC252_0 := Aside0.mk hl252_0
     clear hi252_0 hl252_0
     replace p252 := eq_true p252
     replace q252 := eq_true q252
     go_upto_region 6 with (fail)
     go_cut [45] (fun v45 wc => ∃ (kq : Nat) (x45_16 : Bool), v45 = .bool x45_16 ∧ Aside0 (impl_IsGame.j2 kq x28_2 (rd_L1 l0_1 x28_2) l0_1 (l0_1.length : Int) x28_2 x45_16 a0_0 l0_1 = some r) ∧ Aside0 (kq ≤ k2) ∧ Aside0 (wc.heap[gb249]? = some (.cells #[.int .i64 a0_0, (.slice (some ad252) l0_1.length c0_1)] 28 (0, 0))) ∧ Aside0 (Below w.heap.size w wc))
     case first =>
      have H := HC17.out
      clear HC17
      by_cases c18 : x28_2 > 0
      ·rw [if_pos c18] at H
       have c18b0 : decide (0 < x28_2) = true := decide_eq_true c18
       clear c18
       (first | rw [c18b0] | (simp only [i64_w, i32_w]; rw [c18b0]) | skip)
       obtain ⟨ji19, hji19⟩ : ∃ j_ : Int, (wrap64 (x28_2 - 1)) = j_ := ⟨_, rfl⟩
       replace H : (if 0 ≤ (ji19) then (if (ji19) < (l0_1.length : Int) then ((slices_Compare_int_int.f k2 (rd_L1 l0_1 (ji19)) (rd_L1 l0_1 x28_2)).bind fun t254 => (impl_IsGame.j2 k2 x28_2 (rd_L1 l0_1 x28_2) l0_1 (l0_1.length : Int) x28_2 (decide (t254 ≥ 0)) a0_0 l0_1)) else (none)) else (none)) = some r := by first | (rw [hji19] at H; exact H) | (simp only [hji19] at H ⊢; exact H)
       have hji19w : (IntKind.i64.wrap (x28_2 - 1)) = ji19 := (i64_w _).trans hji19
       by_cases c20 : 0 ≤ (ji19)
       ·rw [if_pos c20] at H
        have c20b0 : decide (0 ≤ (ji19)) = true := decide_eq_true c20
        clear c20
        by_cases c21 : (ji19) < (l0_1.length : Int)
        ·rw [if_pos c21] at H
         have c21b0 : decide ((ji19) < (l0_1.length : Int)) = true := decide_eq_true c21
         clear c21
         replace H := Option.bind_eq_some_iff.mp H
         obtain ⟨t254, A220, H⟩ := H
         replace H : (impl_IsGame.j2 k2 x28_2 (rd_L1 l0_1 x28_2) l0_1 (l0_1.length : Int) x28_2 (decide (t254 ≥ 0)) a0_0 l0_1) = some r := H
         have A22 := Aside0.mk A220
         clear A220
         have H' := Aside0.mk H
         clear H
         have hcz23_0 : wr.cell? ⟨gb249, 0, none⟩ = some (.int .i64 a0_0) := (blk_cell BK249.out 0).trans rfl
         have hcz23_1 : wr.cell? ⟨gb249, 1, none⟩ = some (.slice (some ad252) l0_1.length c0_1) := (blk_cell BK249.out 1).trans rfl
         have hfz23_0 := blk_frozen BK249.out 0
         have hfz23_1 := blk_frozen BK249.out 1
         have p253 : 0 ≤ ((ji19) : Int) := zk
         have q253 : (ji19) < (l0_1.length : Int) := zk
         obtain ⟨ad253, A253_0, c253_0, e253, hx253_0, hl253_0, hi253_0⟩ := at_L1 HR0_1.out (ji19) p253 q253
         obtain rfl : ad252 = ad253 := (by injection e253)
         replace hx253_0 := zx HB.out hx253_0
         have HR253_0 := Aside0.mk hi253_0
         have HC253_0 := Aside0.mk hl253_0
         clear hi253_0 hl253_0
         replace p253 := eq_true p253
         replace q253 := eq_true q253
         go_wp2_with (first | (go_at_call 90; (with_reducible refine (slices_Compare_int_int.calls k2 _ _ (rd_L1 l0_1 (ji19)) _ _ (rd_L1 l0_1 x28_2) t254 _ ?side1 ?side2 ?side3 ?side4 A22.out).mono ?_); (case side1 => repeat (first | exact (Kd.C_below HR253_0.out HB.out) | (with_reducible refine Kd.C_alloc ?_ _) | (with_reducible refine Kd.C_drewN ?_ _) | (with_reducible refine Kd.C_drew ?_))); (case side2 => exact HC253_0.out); (case side3 => repeat (first | exact (Kd.C_below HR252_0.out HB.out) | (with_reducible refine Kd.C_alloc ?_ _) | (with_reducible refine Kd.C_drewN ?_ _) | (with_reducible refine Kd.C_drew ?_))); (case side4 => exact HC252_0.out); rintro e w' ⟨rfl, ⟨nd, rfl⟩⟩))
         go_meet
         case rel => exact ⟨_, (decide (t254 ≥ 0)), (by first | rfl | (simp; done) | (simp [*]; done)), H', ⟨by have := HJ1.out; have := HK2.out; first | omega | exact Nat.le_refl _⟩, ⟨zb BK249.out⟩, ⟨zh HB.out⟩⟩
        ·rw [if_neg c21] at H
         exact absurd H (by simp)
       ·rw [if_neg c20] at H
        exact absurd H (by simp)
      ·rw [if_neg c18] at H
       have c18b0 : decide (0 < x28_2) = false := decide_eq_false c18
       clear c18
       (first | rw [c18b0] | (simp only [i64_w, i32_w]; rw [c18b0]) | skip)
       have H' := Aside0.mk H
       clear H
       go_wp2
       go_meet
       case rel => exact ⟨_, (false), (by first | rfl | (simp; done) | (simp [*]; done)), H', ⟨by have := HJ1.out; have := HK2.out; first | omega | exact Nat.le_refl _⟩, ⟨zb BK249.out⟩, ⟨zh HB.out⟩⟩
     case rest =>
      clear HC17
      try clear c1
      try clear c2
      try clear p2
      try clear q2
      try clear hx2
      try clear c5
      try clear c6
      try clear c6b0
      try clear c6b1
      try clear c6b2
      try clear p6
      try clear c8
      try clear c12
      try clear c14
      try clear c14b0
      try clear c15
      try clear c15b0
      try clear c16
      try clear c16b0
      try clear c18
      try clear c18b0
      try clear c20
      try clear c20b0
      try clear c21
      try clear c21b0
      try clear hcz11_0
      try clear hcz11_1
      try clear hcz13_0
      try clear hcz13_1
      try clear hcz23_0
      try clear hcz23_1
      try clear hcz7_0
      try clear hcz7_1
      try clear hcz9_0
      try clear hcz9_1
      try clear hfz11_0
      try clear hfz11_1
      try clear hfz13_0
      try clear hfz13_1
      try clear hfz23_0
      try clear hfz23_1
      try clear hfz7_0
      try clear hfz7_1
      try clear hfz9_0
      try clear hfz9_1
      try clear hx252_0
      try clear hx253_0
      try clear p2
      try clear p252
      try clear p253
      try clear q252
      try clear q253
      obtain ⟨kq, x45_16, rfl, HA, HJ16, BK249, HB⟩ := hcut
      cases kq with
      | zero => exact absurd HA.out (by simp [impl_IsGame.j2])
      | succ kj16 =>
       have H := HA.out
       clear HA
       simp only [impl_IsGame.j2] at H
       by_cases c24 : x45_16 = true
       ·subst c24
        have H1 : (some false) = some r := by rw [if_pos rfl] at H; exact H
        clear H
        have H := H1
        clear H1
        obtain rfl := Option.some.inj H
        go_wp2
        go_ret
        exact ⟨by first | rfl | (simp [*, errW_none, errW_some] <;> rfl), zh HB.out⟩
       replace c24 := Bool.eq_false_iff.mpr c24
       subst c24
       have H1 : (impl_IsGame.l1 kj16 x28_2 (rd_L1 l0_1 x28_2) l0_1 (l0_1.length : Int) x28_2 l0_1 (l0_1.length : Int) 0 a0_0 l0_1) = some r := by rw [if_neg (show ¬ (false = true) by decide)] at H; exact H
       clear H
       have H := H1
       clear H1
       have H' := Aside0.mk H
       clear H
       have hcz25_0 : wc.cell? ⟨gb249, 0, none⟩ = some (.int .i64 a0_0) := (blk_cell BK249.out 0).trans rfl
       have hcz25_1 : wc.cell? ⟨gb249, 1, none⟩ = some (.slice (some ad252) l0_1.length c0_1) := (blk_cell BK249.out 1).trans rfl
       have hfz25_0 := blk_frozen BK249.out 0
       have hfz25_1 := blk_frozen BK249.out 1
       go_wp2
       go_loopg [49] kj16 (fun kq v49 w' => ∃ (x49_4 : Int), v49 = .int .i64 x49_4 ∧ Aside0 (impl_IsGame.l1 kq x28_2 (rd_L1 l0_1 x28_2) l0_1 (l0_1.length : Int) x28_2 l0_1 (l0_1.length : Int) x49_4 a0_0 l0_1 = some r) ∧ Aside0 (kq ≤ kj16) ∧ Aside0 (w'.heap[gb249]? = some (.cells #[.int .i64 a0_0, (.slice (some ad252) l0_1.length c0_1)] 28 (0, 0))) ∧ Aside0 (Below w.heap.size w w'))
       case atStart => exact ⟨(0), (by first | rfl | (simp; done) | (simp [*]; done)), H', ⟨Nat.le_refl _⟩, ⟨zb BK249.out⟩, ⟨zh HB.out⟩⟩
       case round =>
        clear H'
        try clear c1
        try clear c2
        try clear p2
        try clear q2
        try clear hx2
        try clear c5
        try clear c6
        try clear c6b0
        try clear c6b1
        try clear c6b2
        try clear p6
        try clear c8
        try clear c12
        try clear c14
        try clear c14b0
        try clear c15
        try clear c15b0
        try clear c16
        try clear c16b0
        try clear c18
        try clear c18b0
        try clear c20
        try clear c20b0
        try clear c21
        try clear c21b0
        try clear c24
        try clear c25
        try clear p25
        try clear q25
        try clear hx25
        try clear hcz11_0
        try clear hcz11_1
        try clear hcz13_0
        try clear hcz13_1
        try clear hcz23_0
        try clear hcz23_1
        try clear hcz25_0
        try clear hcz25_1
        try clear hcz7_0
        try clear hcz7_1
        try clear hcz9_0
        try clear hcz9_1
        try clear hfz11_0
        try clear hfz11_1
        try clear hfz13_0
        try clear hfz13_1
        try clear hfz23_0
        try clear hfz23_1
        try clear hfz25_0
        try clear hfz25_1
        try clear hfz7_0
        try clear hfz7_1
        try clear hfz9_0
        try clear hfz9_1
        try clear hx252_0
        try clear hx253_0
        try clear p2
        try clear p252
        try clear p253
        try clear p6
        try clear q2
        try clear q252
        try clear q253
        obtain ⟨x49_4, rfl, HA, HK4, BK249, HB⟩ := hrel
        cases gk with
        | zero => exact absurd HA.out (by simp [impl_IsGame.l1])
        | succ k4 =>
         have H := HA.out
         clear HA
         simp only [impl_IsGame.l1] at H
         by_cases c26 : x49_4 < (l0_1.length : Int)
         rotate_left
         ·rw [if_neg c26] at H
          have c26b0 : decide (x49_4 < (l0_1.length : Int)) = false := decide_eq_false c26
          clear c26
          have H' := Aside0.mk H
          clear H
          go_wp2
          go_roundg k4
          case measure => have := HJ1.out; have := HK2.out; have := HJ16.out; have := HK4.out; omega
          case rel => exact ⟨(wrap64 (x28_2 + 1)), (by first | rfl | (simp; done) | (simp [*]; done)), H', ⟨by have := HJ1.out; have := HK2.out; have := HJ16.out; have := HK4.out; omega⟩, ⟨zb BK249.out⟩, ⟨zh HB.out⟩⟩
         rw [if_pos c26] at H
         have c26b0 : decide (x49_4 < (l0_1.length : Int)) = true := decide_eq_true c26
         clear c26
         by_cases c27 : 0 ≤ x49_4
         rotate_left
         ·rw [if_neg c27] at H
          exact absurd H (by simp)
         rw [if_pos c27] at H
         have c27b0 : decide (0 ≤ x49_4) = true := decide_eq_true c27
         clear c27
         by_cases c28 : x49_4 < (l0_1.length : Int)
         rotate_left
         ·rw [if_neg c28] at H
          exact absurd H (by simp)
         rw [if_pos c28] at H
         have c28b0 : decide (x49_4 < (l0_1.length : Int)) = true := decide_eq_true c28
         clear c28
         by_cases c29 : x49_4 = x28_2
         ·rw [if_pos c29] at H
          have c29b0 : (x49_4 == x28_2) = true := beq_iff_eq.mpr c29
          have c29b1 : (x49_4 != x28_2) = false := bne_eq_false_iff_eq.mpr c29
          clear c29
          have H' := Aside0.mk H
          clear H
          have p255 : 0 ≤ (x49_4 : Int) := zk
          have q255 : x49_4 < (l0_1.length : Int) := zk
          obtain ⟨ad255, A255_0, c255_0, e255, hx255_0, hl255_0, hi255_0⟩ := at_L1 HR0_1.out x49_4 p255 q255
          obtain rfl : ad252 = ad255 := (by injection e255)
          replace hx255_0 := zx HB.out hx255_0
          have HR255_0 := Aside0.mk hi255_0
          have HC255_0 := Aside0.mk hl255_0
          clear hi255_0 hl255_0
          replace p255 := eq_true p255
          replace q255 := eq_true q255
          go_wp2
          go_roundg k4
          case measure => have := HJ1.out; have := HK2.out; have := HJ16.out; have := HK4.out; omega
          case rel => exact ⟨(wrap64 (x49_4 + 1)), (by first | rfl | (simp; done) | (simp [*]; done)), H', ⟨by have := HJ1.out; have := HK2.out; have := HJ16.out; have := HK4.out; omega⟩, ⟨zb BK249.out⟩, ⟨zh HB.out⟩⟩
         rw [if_neg c29] at H
         have c29b0 : (x49_4 == x28_2) = false := beq_eq_false_iff_ne.mpr c29
         have c29b1 : (x49_4 != x28_2) = true := bne_iff_ne.mpr c29
         replace H := Option.bind_eq_some_iff.mp H
         obtain ⟨t256, A300, H⟩ := H
         replace H : ((impl_maskOf.f k4 (rd_L1 l0_1 x49_4)).bind fun t257 => (if (Go.bits .and .i64 t256 t257) = t257 then (some false) else (impl_IsGame.l1 k4 x28_2 (rd_L1 l0_1 x28_2) l0_1 (l0_1.length : Int) x28_2 l0_1 (l0_1.length : Int) (wrap64 (x49_4 + 1)) a0_0 l0_1))) = some r := H
         have A30 := Aside0.mk A300
         clear A300
         replace H := Option.bind_eq_some_iff.mp H
         obtain ⟨t257, A310, H⟩ := H
         replace H : (if (Go.bits .and .i64 t256 t257) = t257 then (some false) else (impl_IsGame.l1 k4 x28_2 (rd_L1 l0_1 x28_2) l0_1 (l0_1.length : Int) x28_2 l0_1 (l0_1.length : Int) (wrap64 (x49_4 + 1)) a0_0 l0_1)) = some r := H
         have A31 := Aside0.mk A310
         clear A310
         by_cases c32 : (Go.bits .and .i64 t256 t257) = t257
         ·rw [if_pos c32] at H
          have c32b0 : ((Go.bits .and .i64 t256 t257) == t257) = true := beq_iff_eq.mpr c32
          have c32b1 : ((Go.bits .and .i64 t256 t257) != t257) = false := bne_eq_false_iff_eq.mpr c32
          clear c32
          obtain rfl := Option.some.inj H
          have p255 : 0 ≤ (x49_4 : Int) := zk
          have q255 : x49_4 < (l0_1.length : Int) := zk
          obtain ⟨ad255, A255_0, c255_0, e255, hx255_0, hl255_0, hi255_0⟩ := at_L1 HR0_1.out x49_4 p255 q255
          obtain rfl : ad252 = ad255 := (by injection e255)
          replace hx255_0 := zx HB.out hx255_0
          have HR255_0 := Aside0.mk hi255_0
          have HC255_0 := Aside0.mk hl255_0
          clear hi255_0 hl255_0
          replace p255 := eq_true p255
          replace q255 := eq_true q255
          go_wp2_with (first | (go_at_call 91; (with_reducible refine (impl_maskOf.calls k4 _ _ (rd_L1 l0_1 x28_2) t256 _ ?side1 ?side2 A30.out).mono ?_); (case side1 => repeat (first | exact (Kd.C_below HR252_0.out HB.out) | (with_reducible refine Kd.C_alloc ?_ _) | (with_reducible refine Kd.C_drewN ?_ _) | (with_reducible refine Kd.C_drew ?_))); (case side2 => exact HC252_0.out); rintro e w' ⟨rfl, ⟨nd, rfl⟩⟩) | (go_at_call 91; (with_reducible refine (impl_maskOf.calls k4 _ _ (rd_L1 l0_1 x49_4) t257 _ ?side1 ?side2 A31.out).mono ?_); (case side1 => repeat (first | exact (Kd.C_below HR255_0.out (zh HB.out)) | (with_reducible refine Kd.C_alloc ?_ _) | (with_reducible refine Kd.C_drewN ?_ _) | (with_reducible refine Kd.C_drew ?_))); (case side2 => exact HC255_0.out); rintro e w' ⟨rfl, ⟨nd, rfl⟩⟩))
          go_ret
          exact ⟨by first | rfl | (simp [*, errW_none, errW_some] <;> rfl), zh HB.out⟩
         rw [if_neg c32] at H
         have c32b0 : ((Go.bits .and .i64 t256 t257) == t257) = false := beq_eq_false_iff_ne.mpr c32
         have c32b1 : ((Go.bits .and .i64 t256 t257) != t257) = true := bne_iff_ne.mpr c32
         have H' := Aside0.mk H
         clear H
         have p255 : 0 ≤ (x49_4 : Int) := zk
         have q255 : x49_4 < (l0_1.length : Int) := zk
         obtain ⟨ad255, A255_0, c255_0, e255, hx255_0, hl255_0, hi255_0⟩ := at_L1 HR0_1.out x49_4 p255 q255
         obtain rfl : ad252 = ad255 := (by injection e255)
         replace hx255_0 := zx HB.out hx255_0
         have HR255_0 := Aside0.mk hi255_0
         have HC255_0 := Aside0.mk hl255_0
         clear hi255_0 hl255_0
         replace p255 := eq_true p255
         replace q255 := eq_true q255
         go_wp2_with (first | (go_at_call 91; (with_reducible refine (impl_maskOf.calls k4 _ _ (rd_L1 l0_1 x28_2) t256 _ ?side1 ?side2 A30.out).mono ?_); (case side1 => repeat (first | exact (Kd.C_below HR252_0.out HB.out) | (with_reducible refine Kd.C_alloc ?_ _) | (with_reducible refine Kd.C_drewN ?_ _) | (with_reducible refine Kd.C_drew ?_))); (case side2 => exact HC252_0.out); rintro e w' ⟨rfl, ⟨nd, rfl⟩⟩) | (go_at_call 91; (with_reducible refine (impl_maskOf.calls k4 _ _ (rd_L1 l0_1 x49_4) t257 _ ?side1 ?side2 A31.out).mono ?_); (case side1 => repeat (first | exact (Kd.C_below HR255_0.out (zh HB.out)) | (with_reducible refine Kd.C_alloc ?_ _) | (with_reducible refine Kd.C_drewN ?_ _) | (with_reducible refine Kd.C_drew ?_))); (case side2 => exact HC255_0.out); rintro e w' ⟨rfl, ⟨nd, rfl⟩⟩))
         go_roundg k4
         case measure => have := HJ1.out; have := HK2.out; have := HJ16.out; have := HK4.out; omega
         case rel => exact ⟨(wrap64 (x49_4 + 1)), (by first | rfl | (simp; done) | (simp [*]; done)), H', ⟨by have := HJ1.out; have := HK2.out; have := HJ16.out; have := HK4.out; omega⟩, ⟨zb BK249.out⟩, ⟨zh HB.out⟩⟩
def impl_isNeededGame.f (k : Nat) (a0_0 : Int) (l0_1 : List (List Int)) : Option (Bool) := (impl_IsGame.f k a0_0 l0_1).bind fun t259 => (if t259 = true then (some (decide (a0_0 ≤ 4))) else (some false))
set_option maxHeartbeats 8000000 in
set_option maxRecDepth 100000 in
theorem impl_isNeededGame.calls (k : Nat) (a0_0 : Int) (A0_1 : Option Addr) (c0_1 : Nat) (l0_1 : List (List Int)) (r : Bool) (w : World) (hr0_1 : Kd.C (Kd.slice 3 (Kd.int .i64)) w A0_1 l0_1.length l0_1) (hc0_1 : l0_1.length ≤ c0_1) (h : impl_isNeededGame.f k a0_0 l0_1 = some r) :
  Calls Tryz.prog 30 #[.agg #[.int .i64 a0_0, .slice A0_1 l0_1.length c0_1]] w fun e w' => e = .returned (.bool r) ∧ Below w.heap.size w w' := by
 have hu28 := Tryz.underlying28
 have HR0_1 := Aside0.mk hr0_1
 have HC0_1 := Aside0.mk hc0_1
 clear hr0_1 hc0_1
 have HB := Aside0.mk (Below.refl w.heap.size w)
 have H : ((impl_IsGame.f k a0_0 l0_1).bind fun t259 => (if t259 = true then (some (decide (a0_0 ≤ 4))) else (some false))) = some r := h
 clear h
 replace H := Option.bind_eq_some_iff.mp H
 obtain ⟨t259, A20, H⟩ := H
 replace H : (if t259 = true then (some (decide (a0_0 ≤ 4))) else (some false)) = some r := H
 have A2 := Aside0.mk A20
 clear A20
 by_cases c3 : t259 = true
 rotate_left
 ·replace c3 := Bool.eq_false_iff.mpr c3
  subst c3
  have H1 : (some false) = some r := by rw [if_neg (show ¬ (false = true) by decide)] at H; exact H
  clear H
  have H := H1
  clear H1
  obtain rfl := Option.some.inj H
  go_enter Tryz.func30, Tryz.ntmps30
  go_wp2_with (first | ((with_reducible refine gate_dst (N := 1) rfl ?_); refine zq 1 #[.int .i64 a0_0, .slice A0_1 l0_1.length c0_1] 28 ?_; intro gb258 hg w8 hbox hb; have n2_ := Aside0.mk ((by rw [hg]; exact (below_size (zh HB.out)) : w.heap.size ≤ gb258)); replace HB := Aside0.mk (below_step (zh HB.out) hb); have BK258 := Aside0.mk hbox; have GW258 := n2_; have GE258 := n2_; clear n2_ hb hbox hg; have hcz9_0 : w8.cell? ⟨gb258, 0, none⟩ = some (.int .i64 a0_0) := (blk_cell BK258.out 0).trans rfl; have hcz9_1 : w8.cell? ⟨gb258, 1, none⟩ = some (.slice A0_1 l0_1.length c0_1) := (blk_cell BK258.out 1).trans rfl; have hfz9_0 := blk_frozen BK258.out 0; have hfz9_1 := blk_frozen BK258.out 1) | ((with_reducible refine gate_callee (f := 55) rfl ?_); refine zl 4 Tryz.func55 #[.agg #[.int .i64 a0_0, .slice A0_1 l0_1.length c0_1]] ?_; (with_reducible refine (impl_IsGame.calls k a0_0 _ _ l0_1 false _ ?side1 ?side2 A2.out).mono ?_); (case side1 => repeat (first | exact (Kd.C_below HR0_1.out HB.out) | (with_reducible refine Kd.C_alloc ?_ _) | (with_reducible refine Kd.C_drewN ?_ _) | (with_reducible refine Kd.C_drew ?_))); (case side2 => exact HC0_1.out); rintro e w10 ⟨rfl, hb⟩; refine ⟨_, rfl, ?_⟩; have n0_ := Aside0.mk (blk_below (g := gb258) (o := .cells #[.int .i64 a0_0, .slice A0_1 l0_1.length c0_1] 28 (0, 0)) (zb BK258.out) hb); have n1_ := Aside0.mk (below_step (zh HB.out) hb); clear BK258; clear HB; have BK258 := n0_; have HB := n1_; clear n0_ n1_; (try clear hb); (try clear hb2); (try clear hk); (try clear hi)))
  go_ret
  exact ⟨by first | rfl | (simp [*, errW_none, errW_some] <;> rfl), zh HB.out⟩
 subst c3
 have H1 : (some (decide (a0_0 ≤ 4))) = some r := by rw [if_pos rfl] at H; exact H
 clear H
 have H := H1
 clear H1
 obtain rfl := Option.some.inj H
 go_enter Tryz.func30, Tryz.ntmps30
 go_wp2_with (first | ((with_reducible refine gate_dst (N := 1) rfl ?_); refine zq 1 #[.int .i64 a0_0, .slice A0_1 l0_1.length c0_1] 28 ?_; intro gb258 hg w4 hbox hb; have n2_ := Aside0.mk ((by rw [hg]; exact (below_size (zh HB.out)) : w.heap.size ≤ gb258)); replace HB := Aside0.mk (below_step (zh HB.out) hb); have BK258 := Aside0.mk hbox; have GW258 := n2_; have GE258 := n2_; clear n2_ hb hbox hg; have hcz5_0 : w4.cell? ⟨gb258, 0, none⟩ = some (.int .i64 a0_0) := (blk_cell BK258.out 0).trans rfl; have hcz5_1 : w4.cell? ⟨gb258, 1, none⟩ = some (.slice A0_1 l0_1.length c0_1) := (blk_cell BK258.out 1).trans rfl; have hfz5_0 := blk_frozen BK258.out 0; have hfz5_1 := blk_frozen BK258.out 1) | ((with_reducible refine gate_callee (f := 55) rfl ?_); refine zl 4 Tryz.func55 #[.agg #[.int .i64 a0_0, .slice A0_1 l0_1.length c0_1]] ?_; (with_reducible refine (impl_IsGame.calls k a0_0 _ _ l0_1 true _ ?side1 ?side2 A2.out).mono ?_); (case side1 => repeat (first | exact (Kd.C_below HR0_1.out HB.out) | (with_reducible refine Kd.C_alloc ?_ _) | (with_reducible refine Kd.C_drewN ?_ _) | (with_reducible refine Kd.C_drew ?_))); (case side2 => exact HC0_1.out); rintro e w6 ⟨rfl, hb⟩; refine ⟨_, rfl, ?_⟩; have n0_ := Aside0.mk (blk_below (g := gb258) (o := .cells #[.int .i64 a0_0, .slice A0_1 l0_1.length c0_1] 28 (0, 0)) (zb BK258.out) hb); have n1_ := Aside0.mk (below_step (zh HB.out) hb); clear BK258; clear HB; have BK258 := n0_; have HB := n1_; clear n0_ n1_; (try clear hb); (try clear hb2); (try clear hk); (try clear hi); have hcz7_0 : w6.cell? ⟨gb258, 0, none⟩ = some (.int .i64 a0_0) := (blk_cell BK258.out 0).trans rfl; have hcz7_1 : w6.cell? ⟨gb258, 1, none⟩ = some (.slice A0_1 l0_1.length c0_1) := (blk_cell BK258.out 1).trans rfl; have hfz7_0 := blk_frozen BK258.out 0; have hfz7_1 := blk_frozen BK258.out 1))
 go_ret
 exact ⟨by first | rfl | (simp [*, errW_none, errW_some] <;> rfl), zh HB.out⟩
end Go.Proofs.YtmbkmabpebjboaaGreat.Q
end

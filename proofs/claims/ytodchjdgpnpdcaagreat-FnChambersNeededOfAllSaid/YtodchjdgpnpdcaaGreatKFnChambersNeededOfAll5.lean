/- Part 5 of the proof of FnChambersNeededOfAll: what it leans on (no condition). -/
import Derived.Test.YtodchjdgpnpdcaaGreatKFnChambersNeededOfAll4
import Derived.Shelf.SlSortCmp.WholeK
section
namespace Go.Proofs.YtodchjdgpnpdcaaGreat.Q
open Go.RowKit Go.Proofs.YtodchjdgpnpdcaaGreatW.PrintWords Go.Proofs.YtodchjdgpnpdcaaGreatW.PrintLast Go.Proofs.YtodchjdgpnpdcaaGreatW.PrintMore
attribute [local go_sem] Xm Um Pp Qp ql yl Gm Mm
set_option linter.unusedVariables false
set_option linter.unusedSimpArgs false
set_option maxHeartbeats 8000000
set_option maxRecDepth 100000
def Ue.l0 : Nat → Int → List (List Int) → Int → Int → List Int → Option (Int × List Bool)
 | 0, _, _, _, _, _ => none
 | k + 1, x0, x9, x10, x11, x134000 => if x11 < x10 then (if 0 ≤ x11 then (if x11 < (x9.length : Int) then ((Gd.f k (Bd x9 x11)).bind fun t135 => (if x134000.length < 17592186044416 then (Ue.l0 k x0 x9 x10 (wrap64 (x11 + 1)) (x134000 ++ [t135])) else (none))) else (none)) else (none)) else ((Dh.f k x0 x134000).bind fun bt139 => (some (bt139.1, bt139.2)))
def Ue.f (k : Nat) (a0 : Int) (l1 : List (List Int)) : Option (Int × List Bool) := Ue.l0 k a0 l1 (l1.length : Int) 0 (([] : List Int))
theorem Ue.calls (k : Nat) (a0 : Int) (A1 : Option Addr) (c1 : Nat) (l1 : List (List Int)) (r1 : Int) (r2 : List Bool) (w : World) (hr1 : Kd.C (Kd.slice 3 (Kd.int .i64)) w A1 l1.length l1) (hc1 : l1.length ≤ c1) (h : Ue.f k a0 l1 = some (r1, r2)) :
 Calls Tryz.prog 57 #[.int .i64 a0, .slice A1 l1.length c1] w fun e w' => ∃ v1_ : Value, e = .returned (.agg #[.int .i64 r1, v1_]) ∧ Kd.R Kd.bool 4 w' w.heap.size (fun _ => True) v1_ r2 ∧ Below w.heap.size w w' := by
 have hu62 := Tryz.underlying62;have HR1 := qa.mk hr1;have HC1 := qa.mk hc1;clear hr1 hc1;have HB := qa.mk (Below.refl w.heap.size w);have H : (Ue.l0 k a0 l1 (l1.length : Int) 0 (([] : List Int))) = some (r1, r2) := h;clear h;obtain ⟨y130, hy130⟩ : ∃ y_ : List Int, y_ = (([] : List Int)) := ⟨_, rfl⟩;rw [← hy130] at H;have Ny130 := qa.mk hy130;clear hy130;have H' := qa.mk H;clear H;go_enter Tryz.func57, Tryz.ntmps57;go_wp2_with (first | ((with_reducible refine Ma (N := 4) rfl ?_); refine zq 4 #[.int .i64 0, .slice none 0 0] 62 ?_; intro gb129 hg w3 hbox hb; have GW129 := zG hg HB; replace HB := zH hb HB; have BK129 := qa.mk hbox; have GE129 := GW129; clear hb hbox hg) | ((with_reducible refine Ma (N := 8) rfl ?_); refine Kd.R_lit (Kd.int .i64) _ 3 ?hg (N := 8) ?hd (xs := ([] : List Int)) (inner := []) (ok := fun _ => True) (okp := fun _ => True) ?hr ?hp (fun _ hk => hk) trivial (Below.refl _ _) (Nat.le_refl _) (by simp) ?_; (case hd => rfl); (case hg => rfl); (case hr => first | (go_simp; done) | (go_simp; rfl)); (case hp => exact (qg.none _ _)); intro v131 w4 ho5 hb hg_ hnew_; clear hg_ hnew_; (first | rw [← Ny130.out] at ho5 | (simp only [Int.reduceToNat] at ho5; rw [← Ny130.out] at ho5)); have HO132 := qa.mk (Kd.R_lower ho5 (Ua (zh HB.out))); replace BK129 := zK BK129 hb; replace HB := zH hb HB; clear hb ho5) | ((with_reducible refine Ma (N := 5) rfl ?_); refine zq 5 #[.slice none 0 0] 35 ?_; intro gb133 hg w6 hbox hb; have BK133 := qa.mk hbox; have GW133 := zG hg HB; have GE133 := zG hg HB; have NB129_133 := zNa hg BK129; have NB133_129 := zNb hg BK129; replace HO132 := qa.mk (Kd.R_below (zr HO132.out) hb); replace BK129 := zK BK129 hb; replace HB := zH hb HB; clear hb hbox hg; obtain ⟨Ao7, co7, eo7⟩ := Kd.R_slice HO132.out; subst eo7; have hnb8 := NB133_129.out; have hnc8 := NB129_133.out; obtain ⟨hcz9_0, hfz9_0⟩ := zC1 BK133));go_loopg [11] k (fun kq v11 w' => ∃ (x11_1 : Int) (x134000_1 : List Int) (u134000 : Value), v11 = .int .i64 x11_1 ∧ qa (Ue.l0 kq a0 l1 (l1.length : Int) x11_1 x134000_1 = some (r1, r2)) ∧ qa (kq ≤ k) ∧ qa (Kd.R (Kd.int .i64) 3 w' w.heap.size (fun _ => True) u134000 x134000_1) ∧ qa (w'.heap[gb129]? = some (.cells #[.int .i64 0, (.slice none 0 0)] 62 (0, 0))) ∧ qa (w'.heap[gb133]? = some (.cells #[u134000] 35 (0, 0))) ∧ qa (Below w.heap.size w w'));case atStart => exact ⟨(0), (y130), (.slice Ao7 y130.length co7), zE, H', ⟨Nat.le_refl _⟩, ⟨by (with_reducible repeat (first | apply Kd.R_alloc | apply Kd.R_drewN | apply Kd.R_drew)); exact Kd.R_mono (Kd.R_far (p := ⟨gb133, 0, none⟩) (Kd.R_types HO132.out BK133.out (by decide)) (fun _ hk => hk.2) (.slice Ao7 y130.length co7)) (fun _ hk => trivial)⟩, ⟨zf1 BK129.out NB129_133.out⟩, ⟨by (with_reducible repeat (first | refine Ca ?_ _ | refine Ra ?_ | refine Qa ?_ _)); refine Yb (cs := #[.slice none 0 0]) ?_ 0 _ rfl; exact zb BK133.out⟩, ⟨zh HB.out⟩⟩
 case round =>
  clear H';try clear c1
  try clear p2
  try clear c5
  try clear c8
  try clear hcz9_0
  try clear hfz9_0
  obtain ⟨x11_1, x134000_1, u134000, rfl, HA, HK1, HO_134000, BK129, BK133, HB⟩ := hrel;cases gk with
  | zero => exact absurd HA.out (by simp [Ue.l0])
  | succ k1 =>
   have H := HA.out;clear HA;simp only [Ue.l0] at H;by_cases c10 : x11_1 < (l1.length : Int)
   rotate_left
   ·rw [if_neg c10] at H;have c10b0 := decide_eq_false c10;clear c10;replace H := zB0 H;obtain ⟨⟨t139, t140⟩, A190, H⟩ := H;replace H : (some (t139, t140)) = some (r1, r2) := H;have A19 := qa.mk A190;clear A190;simp only [Option.some.injEq, Prod.mk.injEq] at H;obtain ⟨rfl, rfl⟩ := H;obtain ⟨Ao20, co20, eo20⟩ := Kd.R_slice HO_134000.out;subst eo20;go_wp2_with (first | ((with_reducible refine Va (f := 79) rfl ?_); refine zl 23 Tryz.func79 #[.int .i64 a0, .func (.func 106) #[] #[.pointer (some ⟨gb133, 0, none⟩)]] ?_; (with_reducible refine (Dh.calls k1 a0 _ _ x134000_1 t139 t140 _ ?side1 ?side2 gb133 (by first | exact (Ya (zb BK133.out) 0).trans rfl | exact (Ya (Yb (zb BK133.out) 0 _ rfl) 0).trans rfl | exact zb BK133.out) A19.out).mono ?_); (case side1 => exact zQ ((Kd.R_reads' HO_134000.out).2.2)); (case side2 => exact (Kd.R_reads' HO_134000.out).2.1); rintro e w21 ⟨v141, rfl, ho0, hb⟩; refine ⟨_, rfl, ?_⟩; have HO142 := qa.mk (Kd.R_lower ho0 (Ua (zh HB.out))); replace HO_134000 := qa.mk (Kd.R_below (zr HO_134000.out) hb); replace BK129 := zK BK129 hb; replace BK133 := zK BK133 hb; replace HB := zH hb HB; clear hb; (try clear ho0); have hnb22 := NB129_133.out; have hnc22 := NB133_129.out; obtain ⟨hcz23_0, hcz23_1, hfz23_0, hfz23_1⟩ := zC2 BK129; obtain ⟨Ao24, co24, eo24⟩ := Kd.R_slice HO142.out; subst eo24));refine bodyPost_ret (results_cell_row rfl _ _ gb129 62 #[.int .i64 t139, .slice Ao24 t140.length co24] (0, 0) _ rfl (by (with_reducible repeat (first | refine Ca ?_ _ | refine Ra ?_ | refine Qa ?_ _)); refine Yb (cs := #[.int .i64 t139, .slice none 0 0]) ?_ 1 _ rfl; (with_reducible repeat (first | refine Ca ?_ _ | refine Ra ?_ | refine Qa ?_ _)); refine Yb (cs := #[.int .i64 0, .slice none 0 0]) ?_ 0 _ rfl; exact zb BK129.out) Tryz.underlying62 rfl (by kernel_rfl)) rfl ?_;exact ⟨_, zL0, by (with_reducible repeat (first | apply Kd.R_alloc | apply Kd.R_drewN | apply Kd.R_drew)); exact Kd.R_mono (Kd.R_far (p := ⟨gb129, 1, none⟩) (Kd.R_far (p := ⟨gb129, 0, none⟩) (Kd.R_types HO142.out BK129.out (by decide)) (fun _ hk => hk.2) (.int .i64 t139)) (fun _ hk => hk.2) (.slice Ao24 t140.length co24)) (fun _ hk => trivial), zh HB.out⟩
   rw [if_pos c10] at H;have c10b0 := decide_eq_true c10;clear c10;by_cases c11 : 0 ≤ x11_1
   rotate_left
   ·rw [if_neg c11] at H;cases H
   rw [if_pos c11] at H;have c11b0 := decide_eq_true c11;clear c11;by_cases c12 : x11_1 < (l1.length : Int)
   rotate_left
   ·rw [if_neg c12] at H;cases H
   rw [if_pos c12] at H;have c12b0 := decide_eq_true c12;clear c12;replace H := zB0 H;obtain ⟨t135, A130, H⟩ := H;replace H : (if x134000_1.length < 17592186044416 then (Ue.l0 k1 a0 l1 (l1.length : Int) (wrap64 (x11_1 + 1)) (x134000_1 ++ [t135])) else (none)) = some (r1, r2) := H;have A13 := qa.mk A130;clear A130;by_cases c14 : x134000_1.length < 17592186044416
   rotate_left
   ·rw [if_neg c14] at H;cases H
   rw [if_pos c14] at H;have LMc14 := qa.mk c14;clear c14;obtain ⟨y136, hy136⟩ : ∃ y_ : List Int, y_ = (x134000_1 ++ [t135]) := ⟨_, rfl⟩;rw [← hy136] at H;have Ny136 := qa.mk hy136;clear hy136;have H' := qa.mk H;clear H;obtain ⟨⟨ad134, A134_0, c134_0, e134, hx134_0, hl134_0, hi134_0⟩, p134, q134⟩ := zW (qi HR1.out x11_1);cases e134;replace hx134_0 := zx HB.out hx134_0;have HR134_0 := qa.mk hi134_0;have HC134_0 := qa.mk hl134_0;clear hi134_0 hl134_0;try go_wp2
   have n0_ := qa.mk (Kd.R_drew HO_134000.out);have n1_ := qa.mk (Ra BK129.out);have n2_ := qa.mk (Ra BK133.out);have n3_ := qa.mk (Ud HB.out);clear HO_134000 BK129 BK133 HB;have HO_134000 := n0_;have BK129 := n1_;have BK133 := n2_;have HB := n3_;clear n0_ n1_ n2_ n3_;refine Kg (n := 6) (S := fun w' => w'.cell? ⟨gb133, 0, none⟩ = some (u134000)) (ds := [5]) (tb 6 0) (by kernel_rfl) rfl rfl ((Ya BK133.out 0).trans rfl) (fun hHeld => ?_);generalize wr.drew = w15 at HO_134000 BK129 BK133 HB hHeld ⊢;refine zp1 (i := 1) (N := some 16) (tb 6 2) rfl rfl (by kernel_rfl) ?_;refine take_ (i := 0) (N := some 15) (v := ?_) (a' := ?_) (tb 6 3) rfl rfl (by kernel_rfl) (fun _ _ _ h => h) (Or.inl ⟨by rfl, ?_⟩) hHeld ?_ ?_;rotate_left
   ·intro w' s0;go_simp
    with_reducible rfl
   rotate_left
   ·simp only [Act.put, List.setIfInBounds_toArray, List.set_cons_zero, List.set_cons_succ, Ff, Jh];rfl
   refine Uj (i := 2) (N := some 17) (tb 6 7) rfl rfl (by kernel_rfl) (by decide) (fun K hK => ?_);refine Di Tryz.func105 (by kernel_rfl) rfl #[.slice A134_0 (Bd l1 x11_1).length c134_0] (by rfl) rfl rfl (by (try simp only [List.map_toArray, List.map_cons, List.map_nil]); first | done | rfl | (simp only [List.length_drop, List.length_take]; rfl)) ?_
   with_reducible refine (Gd.calls k1 _ _ (Bd l1 x11_1) t135 _ ?side1 ?side2 A13.out).mono ?_
   (case side1 => repeat (first | exact (Kd.C_below HR134_0.out HB.out) | (with_reducible refine Kd.C_alloc ?_ _) | (with_reducible refine Kd.C_drewN ?_ _) | (with_reducible refine Kd.C_drew ?_)))
   (case side2 => exact HC134_0.out)
   rintro e w' ⟨rfl, ⟨nd, rfl⟩⟩;refine ⟨_, rfl, ?_⟩;refine hK.out _ _ ((Ya BK133.out 0).trans rfl) (fun hHeld => ?_);clear hK K;refine zn1 ?_;refine Uj (i := 3) (N := some 18) (tb 6 15) rfl rfl (by kernel_rfl) (by decide) (fun K hK => ?_);refine Lj (w1 := ?_) (v := ?_) (by rfl) rfl ?_ ?_;rotate_left 2
   ·go_simp
    constructor
    ·rfl
    ·rfl
   refine hK.out _ _ ((Ya (Qa BK133.out _) 0).trans rfl) (fun hHeld => ?_);clear hK K;refine zn1 ?_;refine Uj (i := 4) (N := some 19) (tb 6 31) rfl rfl (by kernel_rfl) (by decide) (fun K hK => ?_);refine Kd.R_append_step (Kd.int .i64) (w0 := w) w.heap.size (by rfl) (.tmp 15) (.tmp 18) 35 3 (.int .i64 0) 8 rfl Tryz.underlying35 info3 rfl (by decide) (by omega) u134000 x134000_1 t135 [.int .i64 t135] (fun _ => True) (fun _ => False) rfl rfl ?aP (fun _ hk => hk.elim) ?aF ?aO ?aB ?aS ?aL ?_;(case aP => exact rfl)
   (case aB => exact (zh HB.out))
   (case aF => exact (fun _ _ => trivial))
   (case aO => exact (zr HO_134000.out))
   (case aS => exact (Ua (zh HB.out)))
   (case aL => have := LMc14.out; omega)
   intro v137 w16 ho hb hg hat
   rw [← Ny136.out] at ho;have n0_ := qa.mk (Qe (g := gb129) (o := .cells #[.int .i64 0, .slice none 0 0] 62 (0, 0)) (zb BK129.out) hg (Kd.R_ne HO_134000.out BK129.out (by decide)));have n1_ := qa.mk (Qe (g := gb133) (o := .cells #[u134000] 35 (0, 0)) (zb BK133.out) hg (Kd.R_ne HO_134000.out BK133.out (by decide)));have n2_ := qa.mk (hb);have n3_ := qa.mk (ho);clear BK129 BK133 HB HO_134000;have BK129 := n0_;have BK133 := n1_;have HB := n2_;have HO138 := n3_;clear n0_ n1_ n2_ n3_ ho hb hg hat
   obtain ⟨Ao17, co17, eo17⟩ := Kd.R_slice HO138.out;(first | subst eo17 | (injection eo17 with f1_ f2_ f3_; have f4_ := f1_.symm; have f5_ := f3_.symm; clear f1_ f2_ f3_; subst f4_; subst f5_))
   refine hK.out _ _ ((Ya BK133.out 0).trans rfl) (fun hHeld => ?_);clear hK K;refine zn1 ?_;refine Qz (i := 5) (N := none) (tb 6 63) rfl rfl (by kernel_rfl) (by decide) (fun K hK => ?_);have hs18 : w16.cell? ⟨gb133, 0, none⟩ = some (u134000) := (Ya BK133.out 0).trans rfl;have hfs18 := Ea BK133.out 0;have hns18_0 := NB129_133.out;have hms18_0 := NB133_129.out;refine Pw (w1 := ?_) (by rfl) rfl ?_ ?_;rotate_left
   ·go_simp
    rfl
   refine hK.out _ _ ?_;clear hK K;refine Bi (by kernel_rfl) ?_;try go_wp2
   go_roundg k1;case measure => have := HK1.out; omega
   case rel => exact ⟨(wrap64 (x11_1 + 1)), (y136), (.slice Ao17 y136.length co17), zE, H', zO HK1, ⟨by (with_reducible repeat (first | apply Kd.R_alloc | apply Kd.R_drewN | apply Kd.R_drew)); exact Kd.R_mono (Kd.R_far (p := ⟨gb133, 0, none⟩) (Kd.R_types HO138.out BK133.out (by decide)) (fun _ hk => hk.2) (.slice Ao17 y136.length co17)) (fun _ hk => trivial)⟩, ⟨zf1 BK129.out NB129_133.out⟩, ⟨by (with_reducible repeat (first | refine Ca ?_ _ | refine Ra ?_ | refine Qa ?_ _)); refine Yb (cs := #[u134000]) ?_ 0 _ rfl; exact zb BK133.out⟩, ⟨zh HB.out⟩⟩
def Gc.f (k : Nat) (a0_0 : Int) (l0_1 : List (List Int)) : Option (Int × List Bool) := (Ue.f k a0_0 l0_1).bind fun bt145 => (some (bt145.1, bt145.2))
theorem Gc.calls (k : Nat) (a0_0 : Int) (A0_1 : Option Addr) (c0_1 : Nat) (l0_1 : List (List Int)) (r1 : Int) (r2 : List Bool) (w : World) (hr0_1 : Kd.C (Kd.slice 3 (Kd.int .i64)) w A0_1 l0_1.length l0_1) (hc0_1 : l0_1.length ≤ c0_1) (h : Gc.f k a0_0 l0_1 = some (r1, r2)) :
 Calls Tryz.prog 25 #[.agg #[.int .i64 a0_0, .slice A0_1 l0_1.length c0_1]] w fun e w' => ∃ v1_ : Value, e = .returned (.agg #[.int .i64 r1, v1_]) ∧ Kd.R Kd.bool 4 w' w.heap.size (fun _ => True) v1_ r2 ∧ Below w.heap.size w w' := by
 have hu24 := Tryz.underlying24;have hu62 := Tryz.underlying62;have HR0_1 := qa.mk hr0_1;have HC0_1 := qa.mk hc0_1;clear hr0_1 hc0_1;have HB := qa.mk (Below.refl w.heap.size w);have H : ((Ue.f k a0_0 l0_1).bind fun bt145 => (some (bt145.1, bt145.2))) = some (r1, r2) := h;clear h;replace H := zB0 H;obtain ⟨⟨t145, t146⟩, A20, H⟩ := H;replace H : (some (t145, t146)) = some (r1, r2) := H;have A2 := qa.mk A20;clear A20;simp only [Option.some.injEq, Prod.mk.injEq] at H;obtain ⟨rfl, rfl⟩ := H;go_enter Tryz.func25, Tryz.ntmps25;go_wp2_with (first | ((with_reducible refine Ma (N := 1) rfl ?_); refine zq 1 #[.int .i64 a0_0, .slice A0_1 l0_1.length c0_1] 24 ?_; intro gb143 hg w3 hbox hb; have GW143 := zG hg HB; replace HB := zH hb HB; have BK143 := qa.mk hbox; have GE143 := GW143; clear hb hbox hg) | ((with_reducible refine Ma (N := 2) rfl ?_); refine zq 2 #[.int .i64 0, .slice none 0 0] 62 ?_; intro gb144 hg w4 hbox hb; have BK144 := qa.mk hbox; have GW144 := zG hg HB; have GE144 := zG hg HB; have NB143_144 := zNa hg BK143; have NB144_143 := zNb hg BK143; replace BK143 := zK BK143 hb; replace HB := zH hb HB; clear hb hbox hg; have hnb5 := NB143_144.out; have hnc5 := NB144_143.out; obtain ⟨hcz6_0, hcz6_1, hfz6_0, hfz6_1⟩ := zC2 BK143) | ((with_reducible refine Va (f := 57) rfl ?_); refine zl 7 Tryz.func57 #[.int .i64 a0_0, .slice A0_1 l0_1.length c0_1] ?_; (with_reducible refine (Ue.calls k a0_0 _ _ l0_1 t145 t146 _ ?side1 ?side2 A2.out).mono ?_); (case side1 => exact zQ (Kd.C_below HR0_1.out HB.out)); (case side2 => exact HC0_1.out); rintro e w7 ⟨v147, rfl, ho0, hb⟩; refine ⟨_, rfl, ?_⟩; have HO148 := qa.mk (Kd.R_lower ho0 (Ua (zh HB.out))); replace BK143 := zK BK143 hb; replace BK144 := zK BK144 hb; replace HB := zH hb HB; clear hb; (try clear ho0); obtain ⟨hcz8_0, hcz8_1, hfz8_0, hfz8_1⟩ := zC2 BK144; obtain ⟨Ao9, co9, eo9⟩ := Kd.R_slice HO148.out; subst eo9));refine bodyPost_ret (results_cell_row rfl _ _ gb144 62 #[.int .i64 t145, .slice Ao9 t146.length co9] (0, 0) _ rfl (by (with_reducible repeat (first | refine Ca ?_ _ | refine Ra ?_ | refine Qa ?_ _)); refine Yb (cs := #[.int .i64 t145, .slice none 0 0]) ?_ 1 _ rfl; (with_reducible repeat (first | refine Ca ?_ _ | refine Ra ?_ | refine Qa ?_ _)); refine Yb (cs := #[.int .i64 0, .slice none 0 0]) ?_ 0 _ rfl; exact zb BK144.out) Tryz.underlying62 rfl (by kernel_rfl)) rfl ?_;exact ⟨_, zL0, by (with_reducible repeat (first | apply Kd.R_alloc | apply Kd.R_drewN | apply Kd.R_drew)); exact Kd.R_mono (Kd.R_far (p := ⟨gb144, 1, none⟩) (Kd.R_far (p := ⟨gb144, 0, none⟩) (Kd.R_types HO148.out BK144.out (by decide)) (fun _ hk => hk.2) (.int .i64 t145)) (fun _ hk => hk.2) (.slice Ao9 t146.length co9)) (fun _ hk => trivial), zh HB.out⟩
section
variable (a1 : Int → Option Bool)
def Da.l0 : Nat → List (List Int) → Int → Int → Option ((List (List Int)))
 | 0, _, _, _ => none
 | k + 1, x5, x10, x11 => if x11 < x10 then ((a1 x11).bind fun t161 => (if t161 = true then ((Tc.f k x11).bind fun t162 => (if x5.length < 5864062014805 then (Da.l0 k (x5 ++ [t162]) x10 (wrap64 (x11 + 1))) else (none))) else (Da.l0 k x5 x10 (wrap64 (x11 + 1))))) else ((Qk.f x5).bind fun t_ => (some t_))
def Da.f (k : Nat) (a0_0 : Int) (l0_1 : List Bool) (a1 : Int → Option Bool) : Option ((List (List Int))) := Da.l0 a1 k (([] : List (List Int))) (l0_1.length : Int) 0
theorem Da.mono_l : ∀ k, (∀ y0 y1 y2, LeO (Da.l0 a1 k y0 y1 y2) (Da.l0 a1 (k + 1) y0 y1 y2))
 | 0 => fun _ _ _ r h => by simp [Da.l0] at h
 | k + 1 => by
  have ih0 := Da.mono_l k
  ·intro y0 y1 y2;unfold Da.l0;repeat' first
   | (with_reducible exact ih0 _ _ _)
   | (with_reducible exact Tc.mono _ _)
   | (with_reducible exact LeO.refl _)
   | (with_reducible exact LeO.none _)
   | (with_reducible refine LeO.ite ?_ ?_)
   | (with_reducible refine LeO.bind ?_ (fun _ => ?_))
   | exact ih0 _ _ _
   | exact Tc.mono _ _
   | exact LeO.none _
   | refine LeO.ite ?_ ?_
   | refine LeO.bind ?_ (fun _ => ?_)
theorem Da.mono : ∀ a0 a1 a2 k, LeO (Da.f k a0 a1 a2) (Da.f (k + 1) a0 a1 a2) := by
 intro a0 a1 a2 k;have ih0 := Da.mono_l a2 k;unfold Da.f;repeat' first
  | (with_reducible exact ih0 _ _ _)
  | (with_reducible exact Tc.mono _ _)
  | (with_reducible exact LeO.refl _)
  | (with_reducible exact LeO.none _)
  | (with_reducible refine LeO.ite ?_ ?_)
  | (with_reducible refine LeO.bind ?_ (fun _ => ?_))
  | exact ih0 _ _ _
  | exact Tc.mono _ _
  | exact LeO.none _
  | refine LeO.ite ?_ ?_
  | refine LeO.bind ?_ (fun _ => ?_)
theorem Da.calls (k : Nat) (a0_0 : Int) (A0_1 : Option Addr) (c0_1 : Nat) (l0_1 : List Bool) (a1 : Int → Option Bool) (g_ : Nat) (fa_ lb_ : Array Value) (eg_ : ∀ args w, (callFunc g_ args).run Tryz.prog w = .ok (.enter g_ args) w) (r : List (List Int)) (w : World) (hp0_ : Qt Tryz.prog g_ fa_ lb_ w a1) (hr0_1 : Kd.C Kd.bool w A0_1 l0_1.length l0_1) (hc0_1 : l0_1.length ≤ c0_1) (h : Da.f k a0_0 l0_1 a1 = some r) :
 Calls Tryz.prog 134 #[.agg #[.int .i64 a0_0, .slice A0_1 l0_1.length c0_1], .func (.func g_) fa_ lb_] w fun e w' => ∃ v0_ : Value, e = .returned (v0_) ∧ Kd.S (Kd.slice 3 (Kd.int .i64)) 35 w' w.heap.size (fun _ => True) v0_ r ∧ Below w.heap.size w w' := by
 have hp_ := qa.mk hp0_;clear hp0_;have hu62 := Tryz.underlying62;have HR0_1 := qa.mk hr0_1;have HC0_1 := qa.mk hc0_1;clear hr0_1 hc0_1;have HB := qa.mk (Below.refl w.heap.size w);have H : (Da.l0 a1 k (([] : List (List Int))) (l0_1.length : Int) 0) = some r := h;clear h;obtain ⟨y158, hy158⟩ : ∃ y_ : List (List Int), y_ = (([] : List (List Int))) := ⟨_, rfl⟩;rw [← hy158] at H;have Ny158 := qa.mk hy158;clear hy158;have H' := qa.mk H;clear H;go_enter Tryz.func134, Tryz.ntmps134;go_wp2_with (first | ((with_reducible refine Ma (N := 2) rfl ?_); refine zq 2 #[.int .i64 a0_0, .slice A0_1 l0_1.length c0_1] 62 ?_; intro gb157 hg w3 hbox hb; have GW157 := zG hg HB; replace HB := zH hb HB; have BK157 := qa.mk hbox; have GE157 := GW157; clear hb hbox hg) | ((with_reducible refine Ma (N := 7) rfl ?_); refine Kd.S_lit (Kd.slice 3 (Kd.int .i64)) _ 35 ?hg (N := 7) ?hd (xs := ([] : List (List Int))) (inner := []) (ok := fun _ => True) (okp := fun _ => True) ?hr ?hp (fun _ hk => hk) trivial (Below.refl _ _) (Nat.le_refl _) (by simp) ?_; (case hd => rfl); (case hg => rfl); (case hr => first | (go_simp; done) | (go_simp; rfl)); (case hp => exact (qg.none _ _)); intro v159 w4 ho5 hb hg_ hnew_; clear hg_ hnew_; (first | rw [← Ny158.out] at ho5 | (simp only [Int.reduceToNat] at ho5; rw [← Ny158.out] at ho5)); have HO160 := qa.mk (Kd.S_lower ho5 (Ua (zh HB.out))); replace BK157 := zK BK157 hb; replace HB := zH hb HB; clear hb ho5; obtain ⟨hcz6_0, hcz6_1, hfz6_0, hfz6_1⟩ := zC2 BK157));go_loopg [5, 11] k (fun kq v5 v11 w' => ∃ (x5_1 : List (List Int)) (x11_1 : Int), v11 = .int .i64 x11_1 ∧ qa (Da.l0 a1 kq x5_1 (l0_1.length : Int) x11_1 = some r) ∧ qa (kq ≤ k) ∧ qa (Kd.S (Kd.slice 3 (Kd.int .i64)) 35 w' w.heap.size (fun _ => True) v5 x5_1) ∧ qa (w'.heap[gb157]? = some (.cells #[.int .i64 a0_0, (.slice A0_1 l0_1.length c0_1)] 62 (0, 0))) ∧ qa (Below w.heap.size w w'));case atStart => exact ⟨(y158), (0), zE, H', ⟨Nat.le_refl _⟩, ⟨zS HO160.out⟩, ⟨zb BK157.out⟩, ⟨zh HB.out⟩⟩
 case round =>
  clear H';try clear c1
  try clear p2
  try clear hcz6_0
  try clear hcz6_1
  try clear hfz6_0
  try clear hfz6_1
  obtain ⟨x5_1, x11_1, rfl, HA, HK1, HO_5, BK157, HB⟩ := hrel;cases gk with
  | zero => exact absurd HA.out (by simp [Da.l0])
  | succ k1 =>
   have H := HA.out;clear HA;simp only [Da.l0] at H;by_cases c7 : x11_1 < (l0_1.length : Int)
   ·rw [if_pos c7] at H;have c7b0 := decide_eq_true c7;clear c7;replace H := zB0 H;obtain ⟨t161, A80, H⟩ := H;have A8 := qa.mk A80;clear A80;by_cases c9 : t161 = true
    ·subst c9;rw [if_pos rfl] at H;replace H := zB0 H;obtain ⟨t162, A100, H⟩ := H;have A10 := qa.mk A100;clear A100;by_cases c11 : x5_1.length < 5864062014805
     ·rw [if_pos c11] at H;have LMc11 := qa.mk c11;clear c11;obtain ⟨y165, hy165⟩ : ∃ y_ : List (List Int), y_ = (x5_1 ++ [t162]) := ⟨_, rfl⟩;rw [← hy165] at H;have Ny165 := qa.mk hy165;clear hy165;have H' := qa.mk H;clear H;go_wp2_with (first | ((with_reducible refine Ma (N := 16) rfl ?_); refine Rp (some 16) rfl rfl eg_ (by rfl) #[.int .i64 x11_1] rfl (by (try simp only [List.map_toArray, List.map_cons, List.map_nil]); first | done | rfl | (simp only [List.length_drop, List.length_take]; rfl)) ?_; (with_reducible refine (hp_.out _ x11_1 true (zh HB.out) A8.out).mono ?_); rintro e w12 ⟨rfl, hb⟩; refine ⟨_, rfl, ?_⟩; replace HO_5 := qa.mk (Kd.S_below (by (with_reducible repeat (first | apply Kd.S_alloc | apply Kd.S_drewN | apply Kd.S_drew)); exact HO_5.out) hb); replace BK157 := zK BK157 hb; replace HB := zH hb HB; clear hb) | ((with_reducible refine Va (f := 161) rfl ?_); refine zl 19 Tryz.func161 #[.int .i64 x11_1] ?_; (with_reducible refine (Tc.calls k1 x11_1 t162 _ A10.out).mono ?_); rintro e w13 ⟨v163, rfl, ho0, hb⟩; refine ⟨_, rfl, ?_⟩; have HO164 := qa.mk (Kd.R_lower ho0 (Ua (zh HB.out))); replace HO_5 := qa.mk (Kd.S_elder' (by (with_reducible repeat (first | apply Kd.S_alloc | apply Kd.S_drewN | apply Kd.S_drew)); exact HO_5.out) (Kd.R_base ho0) hb); replace BK157 := zK BK157 hb; replace HB := zH hb HB; clear hb; (try clear ho0); obtain ⟨Ao15, co15, eo15⟩ := Kd.R_slice HO164.out; subst eo15) | ((with_reducible refine Uc (b := .append) (xs := #[.tmp 17, .tmp 20]) rfl ?_); at_builtin; refine Kd.S_append (Kd.slice 3 (Kd.int .i64)) (w0 := w) w.heap.size rfl (.tmp 17) (.tmp 20) 22 35 (.slice none 0 0) 24 rfl Tryz.underlying22 Tj rfl (by decide) (by omega) u5 x5_1 t162 [.slice Ao15 t162.length co15] (fun _ => True) (fun k_ => some k_ = (.slice Ao15 t162.length co15 : Value).ownBlock) rfl rfl ?aP (fun k_ hk_ => ((Kd.R_mono (ok' := fun k_ => ((fun _ => True)) k_ ∧ some k_ ≠ (u5 : Value).ownBlock) (Kd.R_apart' (HO164.out) (Kd.S_typed HO_5.out) (by decide)) (fun k_ hk => ⟨trivial, hk.2⟩))).1 k_ hk_.symm) ?aF ?aO ?aB ?aS ?aL ?_; (case aP => exact Kd.M_row (Kd.R_mono (Kd.R_tight rfl (Kd.R_mono (ok' := fun k_ => ((fun _ => True)) k_ ∧ some k_ ≠ (u5 : Value).ownBlock) (Kd.R_apart' (HO164.out) (Kd.S_typed HO_5.out) (by decide)) (fun k_ hk => ⟨trivial, hk.2⟩))) (fun _ h_ => h_))); (case aB => exact (zh HB.out)); (case aF => exact (fun _ _ => trivial)); (case aO => exact (by (with_reducible repeat (first | apply Kd.S_alloc | apply Kd.S_drewN | apply Kd.S_drew)); exact Kd.S_mono HO_5.out (fun k_ hk => ⟨trivial, fun e_ => hk.2 e_⟩))); (case aS => exact (Ua (zh HB.out))); (case aL => have := LMc11.out; omega); intro v166 w14 ho hb hg hat; rw [← Ny165.out] at ho; have HO167 := qa.mk (ho); replace BK157 := qa.mk (Qe (g := gb157) (o := .cells #[.int .i64 a0_0, .slice A0_1 l0_1.length c0_1] 62 (0, 0)) (zb BK157.out) hg (Kd.S_ne HO_5.out BK157.out (by decide))); replace HB := qa.mk (hb); clear HO_5 HO164 ho hb hg hat));go_roundg k1;case measure => have := HK1.out; omega
      case rel => exact ⟨(y165), (wrap64 (x11_1 + 1)), zE, H', zO HK1, ⟨zS HO167.out⟩, ⟨zb BK157.out⟩, ⟨zh HB.out⟩⟩
     ·rw [if_neg c11] at H;cases H
    ·replace c9 := Bool.eq_false_iff.mpr c9;subst c9;rw [if_neg zF] at H;have H' := qa.mk H;clear H;go_wp2_with (first | ((with_reducible refine Ma (N := 16) rfl ?_); refine Rp (some 16) rfl rfl eg_ (by rfl) #[.int .i64 x11_1] rfl (by (try simp only [List.map_toArray, List.map_cons, List.map_nil]); first | done | rfl | (simp only [List.length_drop, List.length_take]; rfl)) ?_; (with_reducible refine (hp_.out _ x11_1 false (zh HB.out) A8.out).mono ?_); rintro e w16 ⟨rfl, hb⟩; refine ⟨_, rfl, ?_⟩; replace HO_5 := qa.mk (Kd.S_below (by (with_reducible repeat (first | apply Kd.S_alloc | apply Kd.S_drewN | apply Kd.S_drew)); exact HO_5.out) hb); replace BK157 := zK BK157 hb; replace HB := zH hb HB; clear hb));go_roundg k1;case measure => have := HK1.out; omega
     case rel => exact ⟨(x5_1), (wrap64 (x11_1 + 1)), zE, H', zO HK1, ⟨zS HO_5.out⟩, ⟨zb BK157.out⟩, ⟨zh HB.out⟩⟩
   ·rw [if_neg c7] at H;have c7b0 := decide_eq_false c7;clear c7;replace H := zB0 H;obtain ⟨t_, A170, H⟩ := H;replace H : (some t_) = some r := H;have A17 := qa.mk A170;clear A170;obtain rfl := Option.some.inj H;obtain ⟨Ao18, co18, eo18⟩ := Kd.S_slice HO_5.out;subst eo18;go_wp2_with (first | ((with_reducible refine Va (f := 163) rfl ?_); refine zl 24 Tryz.func163 #[.slice Ao18 x5_1.length co18, .func (.func 104) #[] #[]] ?_; refine (Qk.calls x5_1 t_ _ _ w.heap.size (fun _ => True) _ ?side1 A17.out).mono ?_; (case side1 => exact (by (with_reducible repeat (first | apply Kd.S_alloc | apply Kd.S_drewN | apply Kd.S_drew)); exact HO_5.out)); rintro e w' ⟨rfl, hs_, hl_, hg_⟩; refine ⟨_, rfl, ?_⟩; have n0_ := qa.mk hs_; have hB_ := ((zh HB.out) : Below w.heap.size w _); have n2_ := qa.mk (Below.grown hB_ hg_ (Ua hB_) (Kd.S_base HO_5.out)); clear HO_5 HB; have HO_5 := n0_; have HB := n2_; clear n0_ n2_ hs_ hl_ hg_ hB_));go_ret;exact ⟨_, zL0, by (with_reducible repeat (first | apply Kd.S_alloc | apply Kd.S_drewN | apply Kd.S_drew)); exact HO_5.out, zh HB.out⟩
end
theorem TI.predL (k : Nat) (n : Int) (A : Option Addr) (c : Nat) (l : List Bool) (w : World) (hC : Kd.C Kd.bool w A l.length l) (hc : l.length ≤ c) : Qt Tryz.prog 135 #[.agg #[.int .i64 n, .slice A l.length c]] #[] w (Ha.f k n l) :=
 fun W x b hb hp => Ha.calls k n A c l x b W (Kd.C_below hC hb) hc hp
def Te.f (k : Nat) (n : Int) (l : List Bool) : Option (List (List Int)) := Da.f k n l (Ha.f k n l)
theorem Tn {p q : Int → Option Bool} (h : ∀ x, LeO (p x) (q x)) : ∀ k x5 x10 x11, LeO (Da.l0 p k x5 x10 x11) (Da.l0 q k x5 x10 x11)
 | 0, _, _, _ => fun r h => by simp [Da.l0] at h
 | k + 1, x5, x10, x11 => by
  unfold Da.l0;refine LeO.ite (LeO.bind (h _) fun _ => LeO.ite (LeO.bind (LeO.refl _) fun _ => LeO.ite (Tn h k _ _ _) (LeO.refl _)) (Tn h k _ _ _)) (LeO.refl _)
theorem Te.mono : ∀ n l k, LeO (Te.f k n l) (Te.f (k + 1) n l) := by
 intro n l k r hr;have h1 := Da.mono n l (Ha.f k n l) k r hr;unfold Te.f Da.f at *
 exact Tn (fun x => Ha.mono n l x k) _ _ _ _ _ h1
theorem Te.calls (k : Nat) (n : Int) (A : Option Addr) (c : Nat) (l : List Bool) (r : List (List Int)) (w : World) (hC : Kd.C Kd.bool w A l.length l) (hc : l.length ≤ c) (h : Te.f k n l = some r) :
 Calls Tryz.prog 83 #[.agg #[.int .i64 n, .slice A l.length c]] w fun e w' => ∃ v0_ : Value, e = .returned v0_ ∧ Kd.S (Kd.slice 3 (Kd.int .i64)) 35 w' w.heap.size (fun _ => True) v0_ r ∧ Below w.heap.size w w' := by
 have HC := qa.mk hC;have HH := qa.mk h;have u1 := Tryz.underlying62;clear hC h;go_enter Tryz.func83, Tryz.ntmps83;go_wp2_with fail;have hb : ∀ o : Obj, Below w.heap.size w (w.alloc o) := fun _ => (Below.refl _ w).alloc (Nat.le_refl _) _;refine (Da.calls k n A c l _ 135 #[.agg #[.int .i64 n, .slice A l.length c]] #[] (enters_of Tryz.func135 (by kernel_rfl) rfl) r _ (TI.predL k n A c l _ (Kd.C_alloc HC.out _) hc) (Kd.C_alloc HC.out _) hc HH.out).mono ?_;rintro e w1 ⟨v0, rfl, hS, hb1⟩;have HS := qa.mk hS;have HB := qa.mk hb1;clear hS hb1;go_wp2;go_ret;exact ⟨v0, rfl, Kd.S_lower HS.out (hb _).size, (hb _).trans (HB.out.mono (hb _).size)⟩
def Dc.f (k : Nat) (a0_0 : Int) (l0_1 : List Bool) : Option (Int × (List (List Int))) := (Te.f k a0_0 l0_1).bind fun t249 => (some (a0_0, t249))
theorem Dc.mono : ∀ a0 a1 k, LeO (Dc.f k a0 a1) (Dc.f (k + 1) a0 a1) := by
 intro a0 a1 k;unfold Dc.f;repeat' first
  | (with_reducible exact Te.mono _ _ _)
  | (with_reducible exact LeO.refl _)
  | (with_reducible exact LeO.none _)
  | (with_reducible refine LeO.ite ?_ ?_)
  | (with_reducible refine LeO.bind ?_ (fun _ => ?_))
  | exact Te.mono _ _ _
  | exact LeO.none _
  | refine LeO.ite ?_ ?_
  | refine LeO.bind ?_ (fun _ => ?_)
theorem Dc.calls (k : Nat) (a0_0 : Int) (A0_1 : Option Addr) (c0_1 : Nat) (l0_1 : List Bool) (r1 : Int) (r2 : List (List Int)) (w : World) (hr0_1 : Kd.C Kd.bool w A0_1 l0_1.length l0_1) (hc0_1 : l0_1.length ≤ c0_1) (h : Dc.f k a0_0 l0_1 = some (r1, r2)) :
 Calls Tryz.prog 36 #[.agg #[.int .i64 a0_0, .slice A0_1 l0_1.length c0_1]] w fun e w' => ∃ v1_ : Value, e = .returned (.agg #[.int .i64 r1, v1_]) ∧ Kd.S (Kd.slice 3 (Kd.int .i64)) 35 w' w.heap.size (fun _ => True) v1_ r2 ∧ Below w.heap.size w w' := by
 have hu62 := Tryz.underlying62;have hu24 := Tryz.underlying24;have HR0_1 := qa.mk hr0_1;have HC0_1 := qa.mk hc0_1;clear hr0_1 hc0_1;have HB := qa.mk (Below.refl w.heap.size w);have H : ((Te.f k a0_0 l0_1).bind fun t249 => (some (a0_0, t249))) = some (r1, r2) := h;clear h;replace H := zB0 H;obtain ⟨t249, A20, H⟩ := H;replace H : (some (a0_0, t249)) = some (r1, r2) := H;have A2 := qa.mk A20;clear A20;simp only [Option.some.injEq, Prod.mk.injEq] at H;obtain ⟨rfl, rfl⟩ := H;go_enter Tryz.func36, Tryz.ntmps36;try go_wp2_with (first | ((with_reducible refine Ma (N := 1) rfl ?_); refine zq 1 #[.int .i64 a0_0, .slice A0_1 l0_1.length c0_1] 62 ?_; intro gb247 hg w3 hbox hb; have GW247 := zG hg HB; replace HB := zH hb HB; have BK247 := qa.mk hbox; have GE247 := GW247; clear hb hbox hg) | ((with_reducible refine Ma (N := 2) rfl ?_); refine zq 2 #[.int .i64 0, .slice none 0 0] 24 ?_; intro gb248 hg w4 hbox hb; have BK248 := qa.mk hbox; have GW248 := zG hg HB; have GE248 := zG hg HB; have NB247_248 := zNa hg BK247; have NB248_247 := zNb hg BK247; replace BK247 := zK BK247 hb; replace HB := zH hb HB; clear hb hbox hg))
 have n0_ := qa.mk (Ra BK247.out);have n1_ := qa.mk (Ra BK248.out);have n2_ := qa.mk (Ud HB.out);clear BK247 BK248 HB;have BK247 := n0_;have BK248 := n1_;have HB := n2_;clear n0_ n1_ n2_;refine Kg (n := 6) (S := fun w' => w'.cell? ⟨gb247, 0, none⟩ = some (.int .i64 a0_0) ∧ w'.cell? ⟨gb247, 1, none⟩ = some (.slice A0_1 l0_1.length c0_1)) (ds := []) (tb 6 0) (by kernel_rfl) rfl rfl ⟨(Ya BK247.out 0).trans rfl, (Ya BK247.out 1).trans rfl⟩ (fun hHeld => ?_);generalize w4.drew = w5 at BK247 BK248 HB hHeld ⊢;refine zp1 (i := 0) (N := some 3) (tb 6 1) rfl rfl (by kernel_rfl) ?_;refine zt (i := 1) (N := some 4) (tb 6 3) rfl rfl (by kernel_rfl) hHeld ?_;refine zt (i := 2) (N := some 5) (tb 6 7) rfl rfl (by kernel_rfl) hHeld ?_;refine Uj (i := 3) (N := some 6) (tb 6 15) rfl rfl (by kernel_rfl) (by decide) (fun K hK => ?_);refine Di Tryz.func83 (by kernel_rfl) rfl #[.agg #[.int .i64 a0_0, .slice A0_1 l0_1.length c0_1]] (by rfl) rfl rfl (by (try simp only [List.map_toArray, List.map_cons, List.map_nil]); first | done | rfl | (simp only [List.length_drop, List.length_take]; rfl)) ?_
 with_reducible refine (Te.calls k a0_0 _ _ l0_1 t249 _ ?side1 ?side2 A2.out).mono ?_
 (case side1 => repeat (first | exact (Kd.C_below HR0_1.out HB.out) | (with_reducible refine Kd.C_alloc ?_ _) | (with_reducible refine Kd.C_drewN ?_ _) | (with_reducible refine Kd.C_drew ?_)))
 (case side2 => exact HC0_1.out)
 rintro e w6 ⟨v250, rfl, ho0, hb⟩;refine ⟨_, rfl, ?_⟩;have n0_ := qa.mk (Kd.S_lower ho0 (Ua (zh HB.out)));have n1_ := qa.mk (Na (g := gb247) (o := .cells #[.int .i64 a0_0, .slice A0_1 l0_1.length c0_1] 62 (0, 0)) (zb BK247.out) hb);have n2_ := qa.mk (Na (g := gb248) (o := .cells #[.int .i64 0, .slice none 0 0] 24 (0, 0)) (zb BK248.out) hb);have n3_ := qa.mk (Rc (zh HB.out) hb);clear BK247 BK248 HB;have HO251 := n0_;have BK247 := n1_;have BK248 := n2_;have HB := n3_;clear n0_ n1_ n2_ n3_;(try clear hb)
 (try clear hb2)
 (try clear hk)
 (try clear hi)
 (try clear ho0)
 obtain ⟨Ao7, co7, eo7⟩ := Kd.S_slice HO251.out;(first | subst eo7 | (injection eo7 with f1_ f2_ f3_; have f4_ := f1_.symm; have f5_ := f3_.symm; clear f1_ f2_ f3_; subst f4_; subst f5_))
 refine hK.out _ _ ⟨(Ya BK247.out 0).trans rfl, (Ya BK247.out 1).trans rfl⟩ (fun hHeld => ?_);clear hK K;refine zn1 ?_;refine zp1 (i := 4) (N := some 7) (tb 6 31) rfl rfl (by kernel_rfl) ?_;refine Uj (i := 5) (N := none) (tb 6 63) rfl rfl (by kernel_rfl) (by decide) (fun K hK => ?_);have hs8 : w6.cell? ⟨gb248, 0, none⟩ = some (.int .i64 0) := (Ya BK248.out 0).trans rfl;have hfs8 := Ea BK248.out 0;have hns8_0 := NB247_248.out;have hms8_0 := NB248_247.out;have hs9 : w6.cell? ⟨gb248, 1, none⟩ = some (.slice none 0 0) := (Ya BK248.out 1).trans rfl;have hfs9 := Ea BK248.out 1;have hns9_0 := NB247_248.out;have hms9_0 := NB248_247.out;refine Pw (w1 := ?_) (by rfl) rfl ?_ ?_;rotate_left
 ·go_simp
  rfl
 refine hK.out _ _ ⟨((cell_far (p := ⟨gb248, _, none⟩) NB247_248.out _).trans (((cell_far (p := ⟨gb248, _, none⟩) NB247_248.out _).trans (hHeld.1)))), ((cell_far (p := ⟨gb248, _, none⟩) NB247_248.out _).trans (((cell_far (p := ⟨gb248, _, none⟩) NB247_248.out _).trans (hHeld.2))))⟩ (fun hHeld => ?_);clear hK K;refine Bi (by kernel_rfl) ?_;try go_wp2
 refine bodyPost_ret (results_cell_row rfl _ _ gb248 24 #[.int .i64 a0_0, .slice Ao7 t249.length co7] (0, 0) _ rfl (by (with_reducible repeat (first | refine Ca ?_ _ | refine Ra ?_ | refine Qa ?_ _)); refine Yb (cs := #[.int .i64 a0_0, .slice none 0 0]) ?_ 1 _ rfl; (with_reducible repeat (first | refine Ca ?_ _ | refine Ra ?_ | refine Qa ?_ _)); refine Yb (cs := #[.int .i64 0, .slice none 0 0]) ?_ 0 _ rfl; exact zb BK248.out) Tryz.underlying24 rfl (by kernel_rfl)) rfl ?_;exact ⟨_, zL0, by (with_reducible repeat (first | apply Kd.S_alloc | apply Kd.S_drewN | apply Kd.S_drew)); exact Kd.S_mono (Kd.S_far (p := ⟨gb248, 1, none⟩) (Kd.S_far (p := ⟨gb248, 0, none⟩) (Kd.S_types HO251.out BK248.out (by decide)) (fun _ hk => hk.2) (.int .i64 a0_0)) (fun _ hk => hk.2) (.slice Ao7 t249.length co7)) (fun _ hk => trivial), zh HB.out⟩
def Df.f (k : Nat) (l0 : List (S40)) : Option (Int × (List (List Int)) × Bool) := (Ye.f k l0).bind fun t575 => (if t575 = true then ((Jb.f k l0 false).bind fun bt576 => ((Dc.f k bt576.1 bt576.2).bind fun bt580 => (some (bt580.1, bt580.2, true)))) else (some (0, ([] : List (List Int)), false)))
theorem Df.calls (k : Nat) (A0 : Option Addr) (c0 : Nat) (l0 : List (S40)) (r1 : Int) (r2 : List (List Int)) (r3 : Bool) (w : World) (hr0 : Kd.C k40 w A0 l0.length l0) (hc0 : l0.length ≤ c0) (h : Df.f k l0 = some (r1, r2, r3)) :
 Calls Tryz.prog 11 #[.slice A0 l0.length c0] w fun e w' => ∃ v1_ : Value, e = .returned (.tuple #[.agg #[.int .i64 r1, v1_], .bool r3]) ∧ Kd.S (Kd.slice 3 (Kd.int .i64)) 35 w' w.heap.size (fun _ => True) v1_ r2 ∧ Below w.heap.size w w' := by
 have hu24 := Tryz.underlying24;have HR0 := qa.mk hr0;have HC0 := qa.mk hc0;clear hr0 hc0;have HB := qa.mk (Below.refl w.heap.size w);have H : ((Ye.f k l0).bind fun t575 => (if t575 = true then ((Jb.f k l0 false).bind fun bt576 => ((Dc.f k bt576.1 bt576.2).bind fun bt580 => (some (bt580.1, bt580.2, true)))) else (some (0, ([] : List (List Int)), false)))) = some (r1, r2, r3) := h;clear h;replace H := zB0 H;obtain ⟨t575, A20, H⟩ := H;replace H : (if t575 = true then ((Jb.f k l0 false).bind fun bt576 => ((Dc.f k bt576.1 bt576.2).bind fun bt580 => (some (bt580.1, bt580.2, true)))) else (some (0, ([] : List (List Int)), false))) = some (r1, r2, r3) := H;have A2 := qa.mk A20;clear A20;by_cases c3 : t575 = true
 rotate_left
 ·replace c3 := Bool.eq_false_iff.mpr c3;subst c3;rw [if_neg zF] at H;simp only [Option.some.injEq, Prod.mk.injEq] at H;obtain ⟨rfl, rfl, rfl⟩ := H;go_enter Tryz.func11, Tryz.ntmps11;go_wp2_with (first | ((with_reducible refine Ma (N := 2) rfl ?_); refine zq 2 #[.int .i64 0, .slice none 0 0] 24 ?_; intro gb574 hg w13 hbox hb; have GW574 := zG hg HB; replace HB := zH hb HB; have BK574 := qa.mk hbox; have GE574 := GW574; clear hb hbox hg) | ((with_reducible refine Va (f := 34) rfl ?_); refine zl 5 Tryz.func34 #[.slice A0 l0.length c0] ?_; (with_reducible refine (Ye.calls k _ _ l0 false _ ?side1 ?side2 A2.out).mono ?_); (case side1 => exact zQ (Kd.C_below HR0.out HB.out)); (case side2 => exact HC0.out); rintro e w14 ⟨rfl, hb⟩; refine ⟨_, rfl, ?_⟩; replace BK574 := zK BK574 hb; replace HB := zH hb HB; clear hb; obtain ⟨hcz15_0, hcz15_1, hfz15_0, hfz15_1⟩ := zC2 BK574));refine bodyPost_ret (Og rfl _ _ gb574 24 #[.int .i64 0, .slice none 0 0] (0, 0) _ rfl (by (with_reducible repeat (first | refine Ca ?_ _ | refine Ra ?_ | refine Qa ?_ _)); refine Yb (cs := #[.int .i64 0, .slice none 0 0]) ?_ 1 _ rfl; (with_reducible repeat (first | refine Ca ?_ _ | refine Ra ?_ | refine Qa ?_ _)); refine Yb (cs := #[.int .i64 0, .slice none 0 0]) ?_ 0 _ rfl; exact zb BK574.out) Tryz.underlying24 rfl (by kernel_rfl)) rfl ?_;exact ⟨_, zL0, by first | exact Kd.S_nil _ _ _ _ _ | exact Kd.N_nil _ _ _ _ _ | exact Kd.V_nil _ _ _ _ _ | exact Kd.Q_nil _ _ _ _ _ | exact Kd.R_nil _ _ _ _ _, zh HB.out⟩
 subst c3;rw [if_pos rfl] at H;replace H := zB0 H;obtain ⟨⟨t576, t577⟩, A40, H⟩ := H;replace H : ((Dc.f k t576 t577).bind fun bt580 => (some (bt580.1, bt580.2, true))) = some (r1, r2, r3) := H;have A4 := qa.mk A40;clear A40;replace H := zB0 H;obtain ⟨⟨t580, t581⟩, A50, H⟩ := H;replace H : (some (t580, t581, true)) = some (r1, r2, r3) := H;have A5 := qa.mk A50;clear A50;simp only [Option.some.injEq, Prod.mk.injEq] at H;obtain ⟨rfl, rfl, rfl⟩ := H;go_enter Tryz.func11, Tryz.ntmps11;go_wp2_with (first | ((with_reducible refine Ma (N := 2) rfl ?_); refine zq 2 #[.int .i64 0, .slice none 0 0] 24 ?_; intro gb574 hg w6 hbox hb; have GW574 := zG hg HB; replace HB := zH hb HB; have BK574 := qa.mk hbox; have GE574 := GW574; clear hb hbox hg) | ((with_reducible refine Va (f := 34) rfl ?_); refine zl 5 Tryz.func34 #[.slice A0 l0.length c0] ?_; (with_reducible refine (Ye.calls k _ _ l0 true _ ?side1 ?side2 A2.out).mono ?_); (case side1 => exact zQ (Kd.C_below HR0.out HB.out)); (case side2 => exact HC0.out); rintro e w7 ⟨rfl, hb⟩; refine ⟨_, rfl, ?_⟩; replace BK574 := zK BK574 hb; replace HB := zH hb HB; clear hb) | ((with_reducible refine Va (f := 35) rfl ?_); refine zl 9 Tryz.func35 #[.slice A0 l0.length c0, .bool false] ?_; (with_reducible refine (Jb.calls k _ _ l0 false t576 t577 _ ?side1 ?side2 A4.out).mono ?_); (case side1 => exact zQ (Kd.C_below HR0.out HB.out)); (case side2 => exact HC0.out); rintro e w8 ⟨v578, rfl, ho0, hb⟩; refine ⟨_, rfl, ?_⟩; have HO579 := qa.mk (Kd.R_lower ho0 (Ua (zh HB.out))); replace BK574 := zK BK574 hb; replace HB := zH hb HB; clear hb; (try clear ho0); obtain ⟨Ao9, co9, eo9⟩ := Kd.R_slice HO579.out; subst eo9) | ((with_reducible refine Va (f := 36) rfl ?_); refine zl 10 Tryz.func36 #[.agg #[.int .i64 t576, .slice Ao9 t577.length co9]] ?_; (with_reducible refine (Dc.calls k t576 _ _ t577 t580 t581 _ ?side1 ?side2 A5.out).mono ?_); (case side1 => exact zQ ((Kd.R_reads' HO579.out).2.2)); (case side2 => exact (Kd.R_reads' HO579.out).2.1); rintro e w10 ⟨v582, rfl, ho0, hb⟩; refine ⟨_, rfl, ?_⟩; have HO583 := qa.mk (Kd.S_lower ho0 (Ua (zh HB.out))); replace HO579 := qa.mk (Kd.R_below (zr HO579.out) hb); replace BK574 := zK BK574 hb; replace HB := zH hb HB; clear hb; (try clear ho0); obtain ⟨hcz11_0, hcz11_1, hfz11_0, hfz11_1⟩ := zC2 BK574; obtain ⟨Ao12, co12, eo12⟩ := Kd.S_slice HO583.out; subst eo12));refine bodyPost_ret (Og rfl _ _ gb574 24 #[.int .i64 t580, .slice Ao12 t581.length co12] (0, 0) _ rfl (by (with_reducible repeat (first | refine Ca ?_ _ | refine Ra ?_ | refine Qa ?_ _)); refine Yb (cs := #[.int .i64 t580, .slice none 0 0]) ?_ 1 _ rfl; (with_reducible repeat (first | refine Ca ?_ _ | refine Ra ?_ | refine Qa ?_ _)); refine Yb (cs := #[.int .i64 0, .slice none 0 0]) ?_ 0 _ rfl; exact zb BK574.out) Tryz.underlying24 rfl (by kernel_rfl)) rfl ?_;exact ⟨_, zL0, by (with_reducible repeat (first | apply Kd.S_alloc | apply Kd.S_drewN | apply Kd.S_drew)); exact Kd.S_mono (Kd.S_far (p := ⟨gb574, 1, none⟩) (Kd.S_far (p := ⟨gb574, 0, none⟩) (Kd.S_types HO583.out BK574.out (by decide)) (fun _ hk => hk.2) (.int .i64 t580)) (fun _ hk => hk.2) (.slice Ao12 t581.length co12)) (fun _ hk => trivial), zh HB.out⟩
def ow2 (ow : Nat → Bool) (n : Nat) (row : Value) (b : Bool) : Nat → Bool := fun k => if some k = row.ownBlock ∨ n ≤ k then b else ow k
theorem UC {ow : Nat → Bool} {n k : Nat} {row : Value} {b : Bool} (h : some k = row.ownBlock) : ow2 ow n row b k = b := if_pos (.inl h)
theorem NC {ow : Nat → Bool} {n k : Nat} {row : Value} {b : Bool} (h : n ≤ k) : ow2 ow n row b k = b := if_pos (.inr h)
theorem MC {α : Type} {d : Kd α} {e base : Nat} {W : World} {ok : Nat → Prop} {v : Value} {xs : List α} (h : Kd.S d e W base ok v xs) : ∀ k, v.ownBlock = some k → ok k := (Kd.S_R h).1
theorem yL {α : Type} {d : Kd α} {e base : Nat} {W : World} {ow : Nat → Bool} {u row : Value} {xs : List α} {b : Bool} (h : Kd.S d e W base (fun k => ow k = b ∧ some k ≠ row.ownBlock) u xs) : Kd.S d e W base (fun k => ow2 ow W.heap.size row b k = b ∧ ¬ some k = row.ownBlock) u xs := by
 refine Kd.S_mono (Kd.S_bound h) (fun k hk => ⟨?_, hk.1.2⟩);unfold ow2;split
 ·rfl
 ·exact hk.1.1
theorem YL {α : Type} {d : Kd α} {e base : Nat} {W w1 : World} {ow : Nat → Bool} {u v row : Value} {xs : List α} {b c : Bool} (hc : c ≠ b) (h : Kd.S d e W base (fun k => ow k = c ∧ some k ≠ row.ownBlock) u xs) (ho : ∀ k, v.ownBlock = some k → ow k = b) (hg : W.grownBy w1 v.ownBlock) : Kd.S d e w1 base (fun k => ow2 ow W.heap.size row b k = c) u xs := by
 refine Kd.S_mono (Kd.S_grown (Kd.S_bound h) hg (fun k hk he => hc (hk.1.1.symm.trans (ho k he.symm)))) (fun k hk => ?_);show ow2 ow W.heap.size row b k = c;unfold ow2;rw [if_neg]
 ·exact hk.1.1
 ·rintro (h | h)
  ·exact hk.1.2 h
  ·exact absurd hk.2.2.1 (Nat.not_lt.2 h)
def Nc.l0 : Nat → List Int → List Int → Int → Int → List (List Int) → List (List Int) → Option ((List (List Int)) × (List (List Int)))
 | 0, _, _, _, _, _, _ => none
 | k + 1, x0, x1, x9, x10, x184000, x184001 => if x10 < x9 then (if 0 ≤ x10 then (if x10 < (x0.length : Int) then ((Tc.f k (rd x0 x10)).bind fun t185 => (if x184000.length < 5864062014805 then (if x10 < (x1.length : Int) then ((Tc.f k (rd x1 x10)).bind fun t192 => (if x184001.length < 5864062014805 then (Nc.l0 k x0 x1 x9 (wrap64 (x10 + 1)) (x184000 ++ [t185]) (x184001 ++ [t192])) else (none))) else (none)) else (none))) else (none)) else (none)) else (some (x184000, x184001))
def Nc.f (k : Nat) (l0 : List Int) (l1 : List Int) : Option ((List (List Int)) × (List (List Int))) := Nc.l0 k l0 l1 (l0.length : Int) 0 ([] : List (List Int)) ([] : List (List Int))
def Nc.T5 : Bool × List (List Nat × List Nat) := (true, [([], []), ([0], [0]), ([], []), ([], []), ([2, 3], [2, 3]), ([4], [4]), ([5], [5]), ([6], [6]), ([1, 7, 6], [1, 7]), ([0, 1, 2, 3, 4, 5, 6, 7, 8], []), ([9, 8, 8, 0, 1, 2, 3, 4, 5, 6, 7, 8], [8, 9])])
def Nc.B5 : List Nat := [0, 1, 0, 0, 12, 28, 60, 124, 255, 511, 1023]
theorem Nc.tab5 : ym .any (opsOf Tryz.f128 5) = Nc.T5 := by kernel_rfl
theorem Nc.bits5 : Vj Nc.T5.2 Nc.B5 = true := by kernel_rfl
def Nc.T6 : Bool × List (List Nat × List Nat) := (true, [([], []), ([0], [0]), ([], []), ([], []), ([2, 3], [2, 3]), ([4], [4]), ([5], [5]), ([6], [6]), ([1, 7, 6], [1, 7]), ([0, 1, 2, 3, 4, 5, 6, 7, 8], []), ([9, 8, 8, 0, 1, 2, 3, 4, 5, 6, 7, 8], [8, 9])])
def Nc.B6 : List Nat := [0, 1, 0, 0, 12, 28, 60, 124, 255, 511, 1023]
theorem Nc.tab6 : ym .any (opsOf Tryz.f128 6) = Nc.T6 := by kernel_rfl
theorem Nc.bits6 : Vj Nc.T6.2 Nc.B6 = true := by kernel_rfl
theorem Nc.calls (k : Nat) (A0 : Option Addr) (c0 : Nat) (l0 : List Int) (A1 : Option Addr) (c1 : Nat) (l1 : List Int) (r1 : List (List Int)) (r2 : List (List Int)) (w : World) (hr0 : Kd.C (Kd.int .i64) w A0 l0.length l0) (hc0 : l0.length ≤ c0) (hr1 : Kd.C (Kd.int .i64) w A1 l1.length l1) (hc1 : l1.length ≤ c1) (h : Nc.f k l0 l1 = some (r1, r2)) :
 Calls Tryz.prog 128 #[.slice A0 l0.length c0, .slice A1 l1.length c1] w fun e w' => ∃ v0_ v1_ : Value, e = .returned (.agg #[v0_, v1_]) ∧ ∃ ow_ : Nat → Bool, Kd.S (Kd.slice 3 (Kd.int .i64)) 35 w' w.heap.size (fun k_ => ow_ k_ = true) v0_ r1 ∧ Kd.S (Kd.slice 3 (Kd.int .i64)) 35 w' w.heap.size (fun k_ => ow_ k_ = false) v1_ r2 ∧ Below w.heap.size w w' := by
 have hu71 := Tryz.underlying71;have HR0 := qa.mk hr0;have HC0 := qa.mk hc0;clear hr0 hc0;have HR1 := qa.mk hr1;have HC1 := qa.mk hc1;clear hr1 hc1;have HB := qa.mk (Below.refl w.heap.size w);have H : (Nc.l0 k l0 l1 (l0.length : Int) 0 ([] : List (List Int)) ([] : List (List Int))) = some (r1, r2) := h;clear h;have H' := qa.mk H;clear H;go_enter Tryz.func128, Tryz.ntmps128;go_wp2_with (first | ((with_reducible refine Ma (N := 4) rfl ?_); refine zq 4 #[.slice none 0 0, .slice none 0 0] 71 ?_; intro gb182 hg w3 hbox hb; have GW182 := zG hg HB; replace HB := zH hb HB; have BK182 := qa.mk hbox; have GE182 := GW182; clear hb hbox hg) | ((with_reducible refine Ma (N := 5) rfl ?_); refine zq 5 #[.slice none 0 0, .slice none 0 0] 71 ?_; intro gb183 hg w4 hbox hb; have BK183 := qa.mk hbox; have GW183 := zG hg HB; have GE183 := zG hg HB; have NB182_183 := zNa hg BK182; have NB183_182 := zNb hg BK182; replace BK182 := zK BK182 hb; replace HB := zH hb HB; clear hb hbox hg; have hnb5 := NB183_182.out; have hnc5 := NB182_183.out; obtain ⟨hcz6_0, hcz6_1, hfz6_0, hfz6_1⟩ := zC2 BK183));go_loopg [10] k (fun kq v10 w' => ∃ (x10_1 : Int) (x184000_1 : List (List Int)) (x184001_1 : List (List Int)) (u184000 : Value) (u184001 : Value) (ow_ : Nat → Bool), v10 = .int .i64 x10_1 ∧ qa (Nc.l0 kq l0 l1 (l0.length : Int) x10_1 x184000_1 x184001_1 = some (r1, r2)) ∧ qa (kq ≤ k) ∧ qa (Kd.S (Kd.slice 3 (Kd.int .i64)) 35 w' w.heap.size (fun k_ => ow_ k_ = true) u184000 x184000_1) ∧ qa (Kd.S (Kd.slice 3 (Kd.int .i64)) 35 w' w.heap.size (fun k_ => ow_ k_ = false) u184001 x184001_1) ∧ qa (w'.heap[gb182]? = some (.cells #[(.slice none 0 0), (.slice none 0 0)] 71 (0, 0))) ∧ qa (w'.heap[gb183]? = some (.cells #[u184000, u184001] 71 (0, 0))) ∧ qa (Below w.heap.size w w'));case atStart => exact ⟨(0), (([] : List (List Int))), (([] : List (List Int))), (.slice none 0 0), (.slice none 0 0), (fun _ => true), zE, H', ⟨Nat.le_refl _⟩, ⟨by first | exact Kd.S_nil _ _ _ _ _ | exact Kd.N_nil _ _ _ _ _ | exact Kd.V_nil _ _ _ _ _ | exact Kd.Q_nil _ _ _ _ _ | exact Kd.R_nil _ _ _ _ _⟩, ⟨by first | exact Kd.S_nil _ _ _ _ _ | exact Kd.N_nil _ _ _ _ _ | exact Kd.V_nil _ _ _ _ _ | exact Kd.Q_nil _ _ _ _ _ | exact Kd.R_nil _ _ _ _ _⟩, ⟨zf2 BK182.out NB182_183.out NB182_183.out⟩, ⟨by (with_reducible repeat (first | refine Ca ?_ _ | refine Ra ?_ | refine Qa ?_ _)); refine Yb (cs := #[.slice none 0 0, .slice none 0 0]) ?_ 1 _ rfl; (with_reducible repeat (first | refine Ca ?_ _ | refine Ra ?_ | refine Qa ?_ _)); refine Yb (cs := #[.slice none 0 0, .slice none 0 0]) ?_ 0 _ rfl; exact zb BK183.out⟩, ⟨zh HB.out⟩⟩
 case round =>
  clear H';try clear c1
  try clear p2
  try clear c5
  try clear hcz6_0
  try clear hcz6_1
  try clear hfz6_0
  try clear hfz6_1
  obtain ⟨x10_1, x184000_1, x184001_1, u184000, u184001, ow_, rfl, HA, HK1, HO_184000, HO_184001, BK182, BK183, HB⟩ := hrel;cases gk with
  | zero => exact absurd HA.out (by simp [Nc.l0])
  | succ k1 =>
   have H := HA.out;clear HA;simp only [Nc.l0] at H;by_cases c7 : x10_1 < (l0.length : Int)
   rotate_left
   ·rw [if_neg c7] at H;have c7b0 := decide_eq_false c7;clear c7;simp only [Option.some.injEq, Prod.mk.injEq] at H;obtain ⟨rfl, rfl⟩ := H;have hnb28 := NB183_182.out;have hnc28 := NB182_183.out;obtain ⟨hcz29_0, hcz29_1, hfz29_0, hfz29_1⟩ := zC2 BK183;obtain ⟨Ao30, co30, eo30⟩ := Kd.S_slice HO_184000.out;subst eo30;obtain ⟨hcz31_0, hcz31_1, hfz31_0, hfz31_1⟩ := zC2 BK182;obtain ⟨Ao32, co32, eo32⟩ := Kd.S_slice HO_184001.out;subst eo32;go_wp2;refine bodyPost_ret (results_cell_row rfl _ _ gb182 71 #[.slice Ao30 x184000_1.length co30, .slice Ao32 x184001_1.length co32] (0, 0) _ rfl (by (with_reducible repeat (first | refine Ca ?_ _ | refine Ra ?_ | refine Qa ?_ _)); refine Yb (cs := #[.slice Ao30 x184000_1.length co30, .slice none 0 0]) ?_ 1 _ rfl; (with_reducible repeat (first | refine Ca ?_ _ | refine Ra ?_ | refine Qa ?_ _)); refine Yb (cs := #[.slice none 0 0, .slice none 0 0]) ?_ 0 _ rfl; exact zb BK182.out) Tryz.underlying71 rfl (by kernel_rfl)) rfl ?_;exact ⟨_, _, by first | rfl | (simp [*, Ce, De] <;> rfl), ow_, by (with_reducible repeat (first | apply Kd.S_alloc | apply Kd.S_drewN | apply Kd.S_drew)); exact Kd.S_mono (Kd.S_far (p := ⟨gb182, 1, none⟩) (Kd.S_far (p := ⟨gb182, 0, none⟩) (Kd.S_types HO_184000.out BK182.out (by decide)) (fun _ hk => hk.2) (.slice Ao30 x184000_1.length co30)) (fun _ hk => hk.2) (.slice Ao32 x184001_1.length co32)) (fun _ hk => hk.1), by (with_reducible repeat (first | apply Kd.S_alloc | apply Kd.S_drewN | apply Kd.S_drew)); exact Kd.S_mono (Kd.S_far (p := ⟨gb182, 1, none⟩) (Kd.S_far (p := ⟨gb182, 0, none⟩) (Kd.S_types HO_184001.out BK182.out (by decide)) (fun _ hk => hk.2) (.slice Ao30 x184000_1.length co30)) (fun _ hk => hk.2) (.slice Ao32 x184001_1.length co32)) (fun _ hk => hk.1), zh HB.out⟩
   rw [if_pos c7] at H;have c7b0 := decide_eq_true c7;clear c7;by_cases c8 : 0 ≤ x10_1
   rotate_left
   ·rw [if_neg c8] at H;cases H
   rw [if_pos c8] at H;have c8b0 := decide_eq_true c8;clear c8;by_cases c9 : x10_1 < (l0.length : Int)
   rotate_left
   ·rw [if_neg c9] at H;cases H
   rw [if_pos c9] at H;have c9b0 := decide_eq_true c9;clear c9;replace H := zB0 H;obtain ⟨t185, A100, H⟩ := H;replace H : (if x184000_1.length < 5864062014805 then (if x10_1 < (l1.length : Int) then ((Tc.f k1 (rd l1 x10_1)).bind fun t192 => (if x184001_1.length < 5864062014805 then (Nc.l0 k1 l0 l1 (l0.length : Int) (wrap64 (x10_1 + 1)) (x184000_1 ++ [t185]) (x184001_1 ++ [t192])) else (none))) else (none)) else (none)) = some (r1, r2) := H;have A10 := qa.mk A100;clear A100;by_cases c11 : x184000_1.length < 5864062014805
   rotate_left
   ·rw [if_neg c11] at H;cases H
   rw [if_pos c11] at H;have LMc11 := qa.mk c11;clear c11;obtain ⟨y188, hy188⟩ : ∃ y_ : List (List Int), y_ = (x184000_1 ++ [t185]) := ⟨_, rfl⟩;rw [← hy188] at H;have Ny188 := qa.mk hy188;clear hy188;by_cases c12 : x10_1 < (l1.length : Int)
   rotate_left
   ·rw [if_neg c12] at H;cases H
   rw [if_pos c12] at H;have c12b0 := decide_eq_true c12;clear c12;replace H := zB0 H;obtain ⟨t192, A130, H⟩ := H;replace H : (if x184001_1.length < 5864062014805 then (Nc.l0 k1 l0 l1 (l0.length : Int) (wrap64 (x10_1 + 1)) y188 (x184001_1 ++ [t192])) else (none)) = some (r1, r2) := H;have A13 := qa.mk A130;clear A130;by_cases c14 : x184001_1.length < 5864062014805
   rotate_left
   ·rw [if_neg c14] at H;cases H
   rw [if_pos c14] at H;have LMc14 := qa.mk c14;clear c14;obtain ⟨y195, hy195⟩ : ∃ y_ : List (List Int), y_ = (x184001_1 ++ [t192]) := ⟨_, rfl⟩;rw [← hy195] at H;have Ny195 := qa.mk hy195;clear hy195;have H' := qa.mk H;clear H;try go_wp2
   have n0_ := qa.mk (Kd.S_drew HO_184000.out);have n1_ := qa.mk (Kd.S_drew HO_184001.out);have n2_ := qa.mk (Ra BK182.out);have n3_ := qa.mk (Ra BK183.out);have n4_ := qa.mk (Ud HB.out);clear HO_184000 HO_184001 BK182 BK183 HB;have HO_184000 := n0_;have HO_184001 := n1_;have BK182 := n2_;have BK183 := n3_;have HB := n4_;clear n0_ n1_ n2_ n3_ n4_;obtain ⟨⟨ad184, e184, hx184_0⟩, p184, q184⟩ := zW (Kd.at_int HR0.out x10_1);have hw184_0 := hx184_0;cases e184;replace hx184_0 := zx HB.out hx184_0;refine Kg (n := 11) (S := fun w' => w'.cell? ⟨gb183, 0, none⟩ = some (u184000) ∧ w'.cell? ⟨gb183, 1, none⟩ = some (u184001) ∧ w'.cell? (ad184.add (x10_1).toNat) = some (.int .i64 (rd l0 x10_1))) (ds := [10]) (tb 11 0) (by kernel_rfl) rfl rfl ⟨(Ya BK183.out 0).trans rfl, (Ya BK183.out 1).trans rfl, ((HB.out.cell (World.block_lt_of_cell? w _ hw184_0)).trans hw184_0)⟩ (fun hHeld => ?_); refine Ug Nc.tab5 Nc.bits5 (fun HT_ HW_ => ?_);generalize wr.drew = w15 at HO_184000 HO_184001 BK182 BK183 HB hx184_0 hHeld ⊢;refine zu (i := 0) (N := some 13) (tb 11 1) rfl rfl HT_ ?_;refine zu (i := 2) (N := some 15) (tb 11 5) rfl rfl HT_ ?_;refine zu (i := 3) (N := some 16) (tb 11 13) rfl rfl HT_ ?_;refine zu (i := 4) (N := some 17) (tb 11 29) rfl rfl HT_ ?_;refine zt (i := 1) (N := some 14) (tb 11 31) rfl rfl (Wd HT_.out HW_.out (by kernel_rfl)) hHeld ?_;refine zt (i := 5) (N := some 18) (tb 11 63) rfl rfl (Wd HT_.out HW_.out (by kernel_rfl)) hHeld ?_;refine Uj (i := 6) (N := some 19) (tb 11 127) rfl rfl (Gh HT_.out (by kernel_rfl)) (by decide) (fun K hK => ?_);refine Di Tryz.func161 (by kernel_rfl) rfl #[.int .i64 (rd l0 x10_1)] (by rfl) rfl rfl (by (try simp only [List.map_toArray, List.map_cons, List.map_nil]); first | done | rfl | (simp only [List.length_drop, List.length_take]; rfl)) ?_
   with_reducible refine (Tc.calls k1 (rd l0 x10_1) t185 _ A10.out).mono ?_
   rintro e w16 ⟨v186, rfl, ho0, hb⟩;refine ⟨_, rfl, ?_⟩;have n0_ := qa.mk (Kd.S_elder' (by (with_reducible repeat (first | apply Kd.S_alloc | apply Kd.S_drewN | apply Kd.S_drew)); exact HO_184000.out) (Kd.R_base ho0) hb);have n1_ := qa.mk (Kd.S_elder' (by (with_reducible repeat (first | apply Kd.S_alloc | apply Kd.S_drewN | apply Kd.S_drew)); exact HO_184001.out) (Kd.R_base ho0) hb);have n2_ := qa.mk (Kd.R_lower ho0 (Ua (zh HB.out)));have n3_ := qa.mk (Na (g := gb182) (o := .cells #[.slice none 0 0, .slice none 0 0] 71 (0, 0)) (zb BK182.out) hb);have n4_ := qa.mk (Na (g := gb183) (o := .cells #[u184000, u184001] 71 (0, 0)) (zb BK183.out) hb);have n5_ := qa.mk (Rc (zh HB.out) hb);clear HO_184000 HO_184001 BK182 BK183 HB;have HO_184000 := n0_;have HO_184001 := n1_;have HO187 := n2_;have BK182 := n3_;have BK183 := n4_;have HB := n5_;clear n0_ n1_ n2_ n3_ n4_ n5_;(try clear hb)
   (try clear hb2)
   (try clear hk)
   (try clear hi)
   (try clear ho0)
   obtain ⟨Ao18, co18, eo18⟩ := Kd.R_slice HO187.out;(first | subst eo18 | (injection eo18 with f1_ f2_ f3_; have f4_ := f1_.symm; have f5_ := f3_.symm; clear f1_ f2_ f3_; subst f4_; subst f5_))
   refine hK.out _ _ ⟨(Ya BK183.out 0).trans rfl, (Ya BK183.out 1).trans rfl, ((HB.out.cell (World.block_lt_of_cell? w _ hw184_0)).trans hw184_0)⟩ (fun hHeld => ?_);clear hK K;refine zn1 ?_;refine Uj (i := 7) (N := some 20) (tb 11 255) rfl rfl (Gh HT_.out (by kernel_rfl)) (by decide) (fun K hK => ?_);refine Lj (w1 := ?_) (v := ?_) (by rfl) rfl ?_ ?_;rotate_left 2
   ·go_simp
    constructor
    ·rfl
    ·rfl
   refine hK.out _ _ ⟨(Ya (Qa BK183.out _) 0).trans rfl, (Ya (Qa BK183.out _) 1).trans rfl, (World.cell?_alloc_lt _ _ _ (World.block_lt_of_cell? _ _ (((HB.out.cell (World.block_lt_of_cell? w _ hw184_0)).trans hw184_0)))).trans (((HB.out.cell (World.block_lt_of_cell? w _ hw184_0)).trans hw184_0))⟩ (fun hHeld => ?_);clear hK K;refine zn1 ?_;refine Uj (i := 8) (N := some 21) (tb 11 511) rfl rfl (Gh HT_.out (by kernel_rfl)) (by decide) (fun K hK => ?_);refine Kd.S_append_step (Kd.slice 3 (Kd.int .i64)) (w0 := w) w.heap.size (by rfl) (.tmp 14) (.tmp 20) 22 35 (.slice none 0 0) 24 rfl Tryz.underlying22 Tj rfl (by decide) (by omega) u184000 x184000_1 t185 [.slice Ao18 t185.length co18] (fun k_ => ow2 (ow_) w16.heap.size (.slice Ao18 t185.length co18) true k_ = true) (fun k_ => some k_ = (.slice Ao18 t185.length co18 : Value).ownBlock) rfl rfl ?aP (fun k_ hk_ => ⟨UC hk_, ((Kd.R_apart' HO187.out (Kd.S_typed HO_184000.out) (by decide)).1 k_ hk_.symm).2⟩) ?aF ?aO ?aB ?aS ?aL ?_;(case aP => exact Kd.M_row (Kd.R_tight rfl HO187.out))
   (case aB => exact (zh HB.out))
   (case aF => exact (fun k_ hk => NC hk))
   (case aO => exact (by (with_reducible repeat (first | apply Kd.S_alloc | apply Kd.S_drewN | apply Kd.S_drew)); exact yL HO_184000.out))
   (case aS => exact (Ua (zh HB.out)))
   (case aL => have := LMc11.out; omega)
   intro v189 w17 ho hb hg hat
   rw [← Ny188.out] at ho;have n0_ := qa.mk (YL (by decide) HO_184001.out (fun k hk => (MC HO_184000.out k hk).1) hg);have n1_ := qa.mk (Qe (g := gb182) (o := .cells #[.slice none 0 0, .slice none 0 0] 71 (0, 0)) (zb BK182.out) hg (Kd.S_ne HO_184000.out BK182.out (by decide)));have n2_ := qa.mk (Qe (g := gb183) (o := .cells #[u184000, u184001] 71 (0, 0)) (zb BK183.out) hg (Kd.S_ne HO_184000.out BK183.out (by decide)));have n3_ := qa.mk (hb);have n4_ := qa.mk (ho);clear HO_184001 BK182 BK183 HB HO_184000 HO187;have HO_184001 := n0_;have BK182 := n1_;have BK183 := n2_;have HB := n3_;have HO190 := n4_;clear n0_ n1_ n2_ n3_ n4_ ho hb hg hat
   obtain ⟨Ao19, co19, eo19⟩ := Kd.S_slice HO190.out;(first | subst eo19 | (injection eo19 with f1_ f2_ f3_; have f4_ := f1_.symm; have f5_ := f3_.symm; clear f1_ f2_ f3_; subst f4_; subst f5_))
   refine hK.out _ _ ⟨(Ya BK183.out 0).trans rfl, (Ya BK183.out 1).trans rfl, ((HB.out.cell (World.block_lt_of_cell? w _ hw184_0)).trans hw184_0)⟩ (fun hHeld => ?_);clear hK K;refine zn1 ?_;refine zu (i := 9) (N := some 22) (tb 11 1023) rfl rfl HT_ ?_;refine Qz (i := 10) (N := none) (tb 11 2047) rfl rfl (Gh HT_.out (by kernel_rfl)) (by decide) (fun K hK => ?_);have hs20 : w17.cell? ⟨gb183, 0, none⟩ = some (u184000) := (Ya BK183.out 0).trans rfl;have hfs20 := Ea BK183.out 0;have hns20_0 := NB182_183.out;have hms20_0 := NB183_182.out;refine Pw (w1 := ?_) (by rfl) rfl ?_ ?_;rotate_left
   ·go_simp
    rfl
   refine hK.out _ _ ?_;clear hK K;refine Bi (Lh HT_.out (by kernel_rfl)) ?_;try go_wp2
   have n0_ : qa (Kd.S (Kd.slice 3 (Kd.int .i64)) 35 (w17.setCell ⟨gb183, 0, none⟩ (.slice Ao19 y188.length co19)) w.heap.size (fun k_ => ow2 (ow_) w16.heap.size (.slice Ao18 t185.length co18) true k_ = false) u184001 x184001_1) := ⟨by (with_reducible repeat (first | apply Kd.S_alloc | apply Kd.S_drewN | apply Kd.S_drew)); exact Kd.S_mono (Kd.S_far (p := ⟨gb183, 0, none⟩) (Kd.S_types HO_184001.out BK183.out (by decide)) (fun _ hk => hk.2) (.slice Ao19 y188.length co19)) (fun _ hk => hk.1)⟩;have n1_ : qa (Kd.S (Kd.slice 3 (Kd.int .i64)) 35 (w17.setCell ⟨gb183, 0, none⟩ (.slice Ao19 y188.length co19)) w.heap.size (fun k_ => ow2 (ow_) w16.heap.size (.slice Ao18 t185.length co18) true k_ = true) (.slice Ao19 y188.length co19) y188) := ⟨by (with_reducible repeat (first | apply Kd.S_alloc | apply Kd.S_drewN | apply Kd.S_drew)); exact Kd.S_mono (Kd.S_far (p := ⟨gb183, 0, none⟩) (Kd.S_types HO190.out BK183.out (by decide)) (fun _ hk => hk.2) (.slice Ao19 y188.length co19)) (fun _ hk => hk.1)⟩;have n2_ : qa ((w17.setCell ⟨gb183, 0, none⟩ (.slice Ao19 y188.length co19)).heap[gb182]? = some (.cells #[.slice none 0 0, .slice none 0 0] 71 (0, 0))) := ⟨zf1 BK182.out NB182_183.out⟩;have n3_ : qa ((w17.setCell ⟨gb183, 0, none⟩ (.slice Ao19 y188.length co19)).heap[gb183]? = some (.cells #[.slice Ao19 y188.length co19, u184001] 71 (0, 0))) := ⟨by (with_reducible repeat (first | refine Ca ?_ _ | refine Ra ?_ | refine Qa ?_ _)); refine Yb (cs := #[u184000, u184001]) ?_ 0 _ rfl; exact zb BK183.out⟩;have n4_ : qa (Below w.heap.size w (w17.setCell ⟨gb183, 0, none⟩ (.slice Ao19 y188.length co19))) := ⟨zh HB.out⟩;(try clear HO_184001)
   (try clear HO190)
   (try clear BK182)
   (try clear BK183)
   (try clear HB)
   generalize (w17.setCell ⟨gb183, 0, none⟩ (.slice Ao19 y188.length co19)) = w21 at n0_ n1_ n2_ n3_ n4_ ⊢;have HO_184001 := n0_;have HO190 := n1_;have BK182 := n2_;have BK183 := n3_;have HB := n4_;clear n0_ n1_ n2_ n3_ n4_;have n0_ := qa.mk (Kd.S_drew HO_184001.out);have n1_ := qa.mk (Kd.S_drew HO190.out);have n2_ := qa.mk (Ra BK182.out);have n3_ := qa.mk (Ra BK183.out);have n4_ := qa.mk (Ud HB.out);clear HO_184001 HO190 BK182 BK183 HB;have HO_184001 := n0_;have HO190 := n1_;have BK182 := n2_;have BK183 := n3_;have HB := n4_;clear n0_ n1_ n2_ n3_ n4_;obtain ⟨⟨ad191, e191, hx191_0⟩, p191, q191⟩ := zW (Kd.at_int HR1.out x10_1);have hw191_0 := hx191_0;cases e191;replace hx191_0 := zx HB.out hx191_0;refine Kg (n := 11) (S := fun w' => w'.cell? ⟨gb183, 0, none⟩ = some (.slice Ao19 y188.length co19) ∧ w'.cell? ⟨gb183, 1, none⟩ = some (u184001) ∧ w'.cell? (ad191.add (x10_1).toNat) = some (.int .i64 (rd l1 x10_1))) (ds := [10]) (tb 11 0) (by kernel_rfl) rfl rfl ⟨(Ya BK183.out 0).trans rfl, (Ya BK183.out 1).trans rfl, ((HB.out.cell (World.block_lt_of_cell? w _ hw191_0)).trans hw191_0)⟩ (fun hHeld => ?_); refine Ug Nc.tab6 Nc.bits6 (fun HT_ HW_ => ?_);generalize w21.drew = w22 at HO_184001 HO190 BK182 BK183 HB hx191_0 hHeld ⊢;refine zu (i := 0) (N := some 23) (tb 11 1) rfl rfl HT_ ?_;refine zu (i := 2) (N := some 25) (tb 11 5) rfl rfl HT_ ?_;refine zu (i := 3) (N := some 26) (tb 11 13) rfl rfl HT_ ?_;refine zu (i := 4) (N := some 27) (tb 11 29) rfl rfl HT_ ?_;refine zt (i := 1) (N := some 24) (tb 11 31) rfl rfl (Wd HT_.out HW_.out (by kernel_rfl)) hHeld ?_;refine zt (i := 5) (N := some 28) (tb 11 63) rfl rfl (Wd HT_.out HW_.out (by kernel_rfl)) hHeld ?_;refine Uj (i := 6) (N := some 29) (tb 11 127) rfl rfl (Gh HT_.out (by kernel_rfl)) (by decide) (fun K hK => ?_);refine Di Tryz.func161 (by kernel_rfl) rfl #[.int .i64 (rd l1 x10_1)] (by rfl) rfl rfl (by (try simp only [List.map_toArray, List.map_cons, List.map_nil]); first | done | rfl | (simp only [List.length_drop, List.length_take]; rfl)) ?_
   with_reducible refine (Tc.calls k1 (rd l1 x10_1) t192 _ A13.out).mono ?_
   rintro e w23 ⟨v193, rfl, ho0, hb⟩;refine ⟨_, rfl, ?_⟩;have n0_ := qa.mk (Kd.S_elder' (by (with_reducible repeat (first | apply Kd.S_alloc | apply Kd.S_drewN | apply Kd.S_drew)); exact HO_184001.out) (Kd.R_base ho0) hb);have n1_ := qa.mk (Kd.S_elder' (by (with_reducible repeat (first | apply Kd.S_alloc | apply Kd.S_drewN | apply Kd.S_drew)); exact HO190.out) (Kd.R_base ho0) hb);have n2_ := qa.mk (Kd.R_lower ho0 (Ua (zh HB.out)));have n3_ := qa.mk (Na (g := gb182) (o := .cells #[.slice none 0 0, .slice none 0 0] 71 (0, 0)) (zb BK182.out) hb);have n4_ := qa.mk (Na (g := gb183) (o := .cells #[.slice Ao19 y188.length co19, u184001] 71 (0, 0)) (zb BK183.out) hb);have n5_ := qa.mk (Rc (zh HB.out) hb);clear HO_184001 HO190 BK182 BK183 HB;have HO_184001 := n0_;have HO190 := n1_;have HO194 := n2_;have BK182 := n3_;have BK183 := n4_;have HB := n5_;clear n0_ n1_ n2_ n3_ n4_ n5_;(try clear hb)
   (try clear hb2)
   (try clear hk)
   (try clear hi)
   (try clear ho0)
   obtain ⟨Ao25, co25, eo25⟩ := Kd.R_slice HO194.out;(first | subst eo25 | (injection eo25 with f1_ f2_ f3_; have f4_ := f1_.symm; have f5_ := f3_.symm; clear f1_ f2_ f3_; subst f4_; subst f5_))
   refine hK.out _ _ ⟨(Ya BK183.out 0).trans rfl, (Ya BK183.out 1).trans rfl, ((HB.out.cell (World.block_lt_of_cell? w _ hw191_0)).trans hw191_0)⟩ (fun hHeld => ?_);clear hK K;refine zn1 ?_;refine Uj (i := 7) (N := some 30) (tb 11 255) rfl rfl (Gh HT_.out (by kernel_rfl)) (by decide) (fun K hK => ?_);refine Lj (w1 := ?_) (v := ?_) (by rfl) rfl ?_ ?_;rotate_left 2
   ·go_simp
    constructor
    ·rfl
    ·rfl
   refine hK.out _ _ ⟨(Ya (Qa BK183.out _) 0).trans rfl, (Ya (Qa BK183.out _) 1).trans rfl, (World.cell?_alloc_lt _ _ _ (World.block_lt_of_cell? _ _ (((HB.out.cell (World.block_lt_of_cell? w _ hw191_0)).trans hw191_0)))).trans (((HB.out.cell (World.block_lt_of_cell? w _ hw191_0)).trans hw191_0))⟩ (fun hHeld => ?_);clear hK K;refine zn1 ?_;refine Uj (i := 8) (N := some 31) (tb 11 511) rfl rfl (Gh HT_.out (by kernel_rfl)) (by decide) (fun K hK => ?_);refine Kd.S_append_step (Kd.slice 3 (Kd.int .i64)) (w0 := w) w.heap.size (by rfl) (.tmp 24) (.tmp 30) 22 35 (.slice none 0 0) 24 rfl Tryz.underlying22 Tj rfl (by decide) (by omega) u184001 x184001_1 t192 [.slice Ao25 t192.length co25] (fun k_ => ow2 (ow2 (ow_) w16.heap.size (.slice Ao18 t185.length co18) true) w23.heap.size (.slice Ao25 t192.length co25) false k_ = false) (fun k_ => some k_ = (.slice Ao25 t192.length co25 : Value).ownBlock) rfl rfl ?aP (fun k_ hk_ => ⟨UC hk_, ((Kd.R_apart' HO194.out (Kd.S_typed HO_184001.out) (by decide)).1 k_ hk_.symm).2⟩) ?aF ?aO ?aB ?aS ?aL ?_;(case aP => exact Kd.M_row (Kd.R_tight rfl HO194.out))
   (case aB => exact (zh HB.out))
   (case aF => exact (fun k_ hk => NC hk))
   (case aO => exact (by (with_reducible repeat (first | apply Kd.S_alloc | apply Kd.S_drewN | apply Kd.S_drew)); exact yL HO_184001.out))
   (case aS => exact (Ua (zh HB.out)))
   (case aL => have := LMc14.out; omega)
   intro v196 w24 ho hb hg hat
   rw [← Ny195.out] at ho;have n0_ := qa.mk (Qe (g := gb182) (o := .cells #[.slice none 0 0, .slice none 0 0] 71 (0, 0)) (zb BK182.out) hg (Kd.S_ne HO_184001.out BK182.out (by decide)));have n1_ := qa.mk (Qe (g := gb183) (o := .cells #[.slice Ao19 y188.length co19, u184001] 71 (0, 0)) (zb BK183.out) hg (Kd.S_ne HO_184001.out BK183.out (by decide)));have n2_ := qa.mk (YL (by decide) HO190.out (fun k hk => (MC HO_184001.out k hk).1) hg);have n3_ := qa.mk (hb);have n4_ := qa.mk (ho);clear BK182 BK183 HO190 HB HO_184001 HO194;have BK182 := n0_;have BK183 := n1_;have HO190 := n2_;have HB := n3_;have HO197 := n4_;clear n0_ n1_ n2_ n3_ n4_ ho hb hg hat
   obtain ⟨Ao26, co26, eo26⟩ := Kd.S_slice HO197.out;(first | subst eo26 | (injection eo26 with f1_ f2_ f3_; have f4_ := f1_.symm; have f5_ := f3_.symm; clear f1_ f2_ f3_; subst f4_; subst f5_))
   refine hK.out _ _ ⟨(Ya BK183.out 0).trans rfl, (Ya BK183.out 1).trans rfl, ((HB.out.cell (World.block_lt_of_cell? w _ hw191_0)).trans hw191_0)⟩ (fun hHeld => ?_);clear hK K;refine zn1 ?_;refine zu (i := 9) (N := some 32) (tb 11 1023) rfl rfl HT_ ?_;refine Qz (i := 10) (N := none) (tb 11 2047) rfl rfl (Gh HT_.out (by kernel_rfl)) (by decide) (fun K hK => ?_);have hs27 : w24.cell? ⟨gb183, 1, none⟩ = some (u184001) := (Ya BK183.out 1).trans rfl;have hfs27 := Ea BK183.out 1;have hns27_0 := NB182_183.out;have hms27_0 := NB183_182.out;refine Pw (w1 := ?_) (by rfl) rfl ?_ ?_;rotate_left
   ·go_simp
    rfl
   refine hK.out _ _ ?_;clear hK K;refine Bi (Lh HT_.out (by kernel_rfl)) ?_;try go_wp2
   go_roundg k1;case measure => have := HK1.out; omega
   case rel => exact ⟨(wrap64 (x10_1 + 1)), (y188), (y195), (.slice Ao19 y188.length co19), (.slice Ao26 y195.length co26), (ow2 (ow2 (ow_) w16.heap.size (.slice Ao18 t185.length co18) true) w23.heap.size (.slice Ao25 t192.length co25) false), zE, H', zO HK1, ⟨by (with_reducible repeat (first | apply Kd.S_alloc | apply Kd.S_drewN | apply Kd.S_drew)); exact Kd.S_mono (Kd.S_far (p := ⟨gb183, 1, none⟩) (Kd.S_types HO190.out BK183.out (by decide)) (fun _ hk => hk.2) (.slice Ao26 y195.length co26)) (fun _ hk => hk.1)⟩, ⟨by (with_reducible repeat (first | apply Kd.S_alloc | apply Kd.S_drewN | apply Kd.S_drew)); exact Kd.S_mono (Kd.S_far (p := ⟨gb183, 1, none⟩) (Kd.S_types HO197.out BK183.out (by decide)) (fun _ hk => hk.2) (.slice Ao26 y195.length co26)) (fun _ hk => hk.1)⟩, ⟨zf1 BK182.out NB182_183.out⟩, ⟨by (with_reducible repeat (first | refine Ca ?_ _ | refine Ra ?_ | refine Qa ?_ _)); refine Yb (cs := #[.slice Ao19 y188.length co19, u184001]) ?_ 1 _ rfl; exact zb BK183.out⟩, ⟨zh HB.out⟩⟩
theorem QC.pred (w : World) : Qt Tryz.prog 159 #[] #[] w (fun _ => some true) := by
 intro W x b hb hp;obtain rfl := Option.some.inj hp;show Calls Tryz.prog 159 #[.int .i64 x] W _;clear hp;go_enter Tryz.func159, Tryz.ntmps159;go_wp2;go_ret;exact ⟨rfl, Below.refl _ _⟩
def Bn.f (k : Nat) (a0_0 : Int) (l0_1 : List Bool) : Option (List (List Int)) := Da.f k a0_0 l0_1 (fun _ => some true)
theorem Bn.calls (k : Nat) (a0_0 : Int) (A0_1 : Option Addr) (c0_1 : Nat) (l0_1 : List Bool) (r : List (List Int)) (w : World) (hr0_1 : Kd.C Kd.bool w A0_1 l0_1.length l0_1) (hc0_1 : l0_1.length ≤ c0_1) (h : Bn.f k a0_0 l0_1 = some r) :
 Calls Tryz.prog 134 #[.agg #[.int .i64 a0_0, .slice A0_1 l0_1.length c0_1], .func (.func 159) #[] #[]] w fun e w' => ∃ v0_ : Value, e = .returned v0_ ∧ Kd.S (Kd.slice 3 (Kd.int .i64)) 35 w' w.heap.size (fun _ => True) v0_ r ∧ Below w.heap.size w w' :=
 Da.calls k a0_0 A0_1 c0_1 l0_1 _ 159 #[] #[] (enters_of Tryz.func159 (by kernel_rfl) rfl) r w (QC.pred w) hr0_1 hc0_1 h
def Qc.l0 : Nat → List Int → List (List Int) → Int → Int → Option (List Int)
 | 0, _, _, _, _ => none
 | k + 1, x3, x8, x9, x10 => if x10 < x9 then (if 0 ≤ x10 then (if x10 < (x8.length : Int) then ((Gd.f k (Bd x8 x10)).bind fun t176 => (if x3.length < 17592186044416 then (Qc.l0 k (x3 ++ [t176]) x8 x9 (wrap64 (x10 + 1))) else (none))) else (none)) else (none)) else (some x3)
def Qc.f (k : Nat) (a0_0 : Int) (l0_1 : List Bool) : Option (List Int) := (Bn.f k a0_0 l0_1).bind fun t172 => (Qc.l0 k (([] : List Int)) t172 (t172.length : Int) 0)
theorem Qc.calls (k : Nat) (a0_0 : Int) (A0_1 : Option Addr) (c0_1 : Nat) (l0_1 : List Bool) (r : List Int) (w : World) (hr0_1 : Kd.C Kd.bool w A0_1 l0_1.length l0_1) (hc0_1 : l0_1.length ≤ c0_1) (h : Qc.f k a0_0 l0_1 = some r) :
 Calls Tryz.prog 126 #[.agg #[.int .i64 a0_0, .slice A0_1 l0_1.length c0_1]] w fun e w' => ∃ v0_ : Value, e = .returned (v0_) ∧ Kd.R (Kd.int .i64) 3 w' w.heap.size (fun _ => True) v0_ r ∧ Below w.heap.size w w' := by
 have hu62 := Tryz.underlying62;have HR0_1 := qa.mk hr0_1;have HC0_1 := qa.mk hc0_1;clear hr0_1 hc0_1;have HB := qa.mk (Below.refl w.heap.size w);have H : ((Bn.f k a0_0 l0_1).bind fun t172 => (Qc.l0 k (([] : List Int)) t172 (t172.length : Int) 0)) = some r := h;clear h;obtain ⟨y169, hy169⟩ : ∃ y_ : List Int, y_ = (([] : List Int)) := ⟨_, rfl⟩;rw [← hy169] at H;have Ny169 := qa.mk hy169;clear hy169;replace H := zB0 H;obtain ⟨t172, A20, H⟩ := H;have A2 := qa.mk A20;clear A20;have H' := qa.mk H;clear H;go_enter Tryz.func126, Tryz.ntmps126;go_wp2_with (first | ((with_reducible refine Ma (N := 1) rfl ?_); refine zq 1 #[.int .i64 a0_0, .slice A0_1 l0_1.length c0_1] 62 ?_; intro gb168 hg w3 hbox hb; have GW168 := zG hg HB; replace HB := zH hb HB; have BK168 := qa.mk hbox; have GE168 := GW168; clear hb hbox hg) | ((with_reducible refine Ma (N := 6) rfl ?_); refine Kd.R_lit (Kd.int .i64) _ 3 ?hg (N := 6) ?hd (xs := ([] : List Int)) (inner := []) (ok := fun _ => True) (okp := fun _ => True) ?hr ?hp (fun _ hk => hk) trivial (Below.refl _ _) (Nat.le_refl _) (by simp) ?_; (case hd => rfl); (case hg => rfl); (case hr => first | (go_simp; done) | (go_simp; rfl)); (case hp => exact (qg.none _ _)); intro v170 w4 ho5 hb hg_ hnew_; clear hg_ hnew_; (first | rw [← Ny169.out] at ho5 | (simp only [Int.reduceToNat] at ho5; rw [← Ny169.out] at ho5)); have HO171 := qa.mk (Kd.R_lower ho5 (Ua (zh HB.out))); replace BK168 := zK BK168 hb; replace HB := zH hb HB; clear hb ho5; obtain ⟨hcz6_0, hcz6_1, hfz6_0, hfz6_1⟩ := zC2 BK168) | ((with_reducible refine Va (f := 134) rfl ?_); refine zl 8 Tryz.func134 #[.agg #[.int .i64 a0_0, .slice A0_1 l0_1.length c0_1], .func (.func 159) #[] #[]] ?_; (with_reducible refine (Bn.calls k a0_0 _ _ l0_1 t172 _ ?side1 ?side2 A2.out).mono ?_); (case side1 => exact zQ (Kd.C_below HR0_1.out HB.out)); (case side2 => exact HC0_1.out); rintro e w7 ⟨v173, rfl, ho0, hb⟩; refine ⟨_, rfl, ?_⟩; have HO174 := qa.mk (Kd.S_lower (Kd.S_new' ho0 (Kd.R_lt (zr HO171.out))) (Ua (zh HB.out))); replace HO171 := qa.mk (Kd.R_below (zr HO171.out) hb); replace BK168 := zK BK168 hb; replace HB := zH hb HB; clear hb; (try clear ho0); obtain ⟨Ao8, co8, eo8⟩ := Kd.S_slice HO174.out; subst eo8));go_loopg [3, 10] k (fun kq v3 v10 w' => ∃ (x3_1 : List Int) (x10_1 : Int), v10 = .int .i64 x10_1 ∧ qa (Qc.l0 kq x3_1 t172 (t172.length : Int) x10_1 = some r) ∧ qa (kq ≤ k) ∧ qa (Kd.R (Kd.int .i64) 3 w' w.heap.size (fun _ => True) v3 x3_1) ∧ qa (Kd.S (Kd.slice 3 (Kd.int .i64)) 35 w' w.heap.size (fun k_ => some k_ ≠ (v3 : Value).ownBlock) (.slice Ao8 t172.length co8) t172) ∧ qa (w'.heap[gb168]? = some (.cells #[.int .i64 a0_0, (.slice A0_1 l0_1.length c0_1)] 62 (0, 0))) ∧ qa (Below w.heap.size w w'));case atStart => exact ⟨(y169), (0), zE, H', ⟨Nat.le_refl _⟩, ⟨zr HO171.out⟩, ⟨zS (Kd.S_mono HO174.out (fun _ hk => hk.2))⟩, ⟨zb BK168.out⟩, ⟨zh HB.out⟩⟩
 case round =>
  clear H';try clear c1
  try clear c2
  try clear p2
  try clear hcz6_0
  try clear hcz6_1
  try clear hfz6_0
  try clear hfz6_1
  obtain ⟨x3_1, x10_1, rfl, HA, HK1, HO_3, HO_8, BK168, HB⟩ := hrel;cases gk with
  | zero => exact absurd HA.out (by simp [Qc.l0])
  | succ k1 =>
   have H := HA.out;clear HA;simp only [Qc.l0] at H;by_cases c9 : x10_1 < (t172.length : Int)
   rotate_left
   ·rw [if_neg c9] at H;have c9b0 := decide_eq_false c9;clear c9;obtain rfl := Option.some.inj H;go_wp2;go_ret;exact ⟨_, zL0, by (with_reducible repeat (first | apply Kd.R_alloc | apply Kd.R_drewN | apply Kd.R_drew)); exact HO_3.out, zh HB.out⟩
   rw [if_pos c9] at H;have c9b0 := decide_eq_true c9;clear c9;by_cases c10 : 0 ≤ x10_1
   rotate_left
   ·rw [if_neg c10] at H;cases H
   rw [if_pos c10] at H;have c10b0 := decide_eq_true c10;clear c10;by_cases c11 : x10_1 < (t172.length : Int)
   rotate_left
   ·rw [if_neg c11] at H;cases H
   rw [if_pos c11] at H;have c11b0 := decide_eq_true c11;clear c11;replace H := zB0 H;obtain ⟨t176, A120, H⟩ := H;have A12 := qa.mk A120;clear A120;by_cases c13 : x3_1.length < 17592186044416
   rotate_left
   ·rw [if_neg c13] at H;cases H
   rw [if_pos c13] at H;have LMc13 := qa.mk c13;clear c13;obtain ⟨y177, hy177⟩ : ∃ y_ : List Int, y_ = (x3_1 ++ [t176]) := ⟨_, rfl⟩;rw [← hy177] at H;have Ny177 := qa.mk hy177;clear hy177;have H' := qa.mk H;clear H;have p175 : 0 ≤ (x10_1 : Int) := zk;have q175 : x10_1 < (t172.length : Int) := zk;obtain ⟨ad175, A175_0, c175_0, e175, hx175_0, hl175_0, hi175_0⟩ := qi (Kd.S_reads' HO_8.out).2.2 x10_1 p175 q175;cases e175;obtain ⟨ce175, hce175, hMe175, hcc175⟩ := Kd.S_get HO_8.out [] x10_1 p175 (by first | exact q175 | exact zk | (have e_ := (Kd.S_reads' HO_8.out).1; omega));obtain ⟨ve175_0, rfl, ge175_0⟩ := hMe175;have hv175_0 := hcc175 0 _ rfl;rw [Nat.add_zero, show ((Kd.slice 3 (Kd.int .i64))).sz = 1 from rfl, Nat.mul_one] at hv175_0;replace hv175_0 := Option.some.inj (hv175_0.symm.trans hx175_0);rw [hv175_0] at ge175_0;have HL175_0 := qa.mk (show Kd.R (Kd.int .i64) 3 _ _ _ _ (Bd t172 x10_1) from ge175_0);clear hv175_0 ge175_0 hcc175 hce175;have HR175_0 := qa.mk hi175_0;have HC175_0 := qa.mk hl175_0;clear hi175_0 hl175_0;replace p175 := eq_true p175;replace q175 := eq_true q175;go_wp2_with (first | ((with_reducible refine Va (f := 105) rfl ?_); refine zl 16 Tryz.func105 #[.slice A175_0 (Bd t172 x10_1).length c175_0] ?_; (with_reducible refine (Gd.calls k1 _ _ (Bd t172 x10_1) t176 _ ?side1 ?side2 A12.out).mono ?_); (case side1 => repeat (first | exact (by repeat (first | (with_reducible exact HR175_0.out) | (with_reducible refine Kd.C_alloc ?_ _) | (with_reducible refine Kd.C_drewN ?_ _) | (with_reducible refine Kd.C_drew ?_) | exact HR175_0.out)) | (with_reducible refine Kd.C_alloc ?_ _) | (with_reducible refine Kd.C_drewN ?_ _) | (with_reducible refine Kd.C_drew ?_))); (case side2 => exact HC175_0.out); rintro e w' ⟨rfl, ⟨nd, rfl⟩⟩; refine ⟨_, rfl, ?_⟩) | ((with_reducible refine Uc (b := .append) (xs := #[.tmp 14, .tmp 17]) rfl ?_); at_builtin; refine Kd.R_append (Kd.int .i64) (w0 := w) w.heap.size rfl (.tmp 14) (.tmp 17) 35 3 (.int .i64 0) 8 rfl Tryz.underlying35 info3 rfl (by decide) (by omega) u3 x3_1 t176 [.int .i64 t176] (fun _ => True) (fun _ => False) rfl rfl ?aP (fun _ hk => hk.elim) ?aF ?aO ?aB ?aS ?aL ?_; (case aP => exact rfl); (case aB => exact (zh HB.out)); (case aF => exact (fun _ _ => trivial)); (case aO => exact (zr HO_3.out)); (case aS => exact (Ua (zh HB.out))); (case aL => have := LMc13.out; omega); intro v178 w14 ho hb hg hat; rw [← Ny177.out] at ho; have HO179 := qa.mk (ho); replace HO_8 := qa.mk (Kd.S_after (ok := (fun _ => True)) (by (with_reducible repeat (first | apply Kd.S_alloc | apply Kd.S_drewN | apply Kd.S_drew)); exact Kd.S_mono HO_8.out (fun _ hk => ⟨trivial, hk⟩)) hg hat); replace BK168 := qa.mk (Qe (g := gb168) (o := .cells #[.int .i64 a0_0, .slice A0_1 l0_1.length c0_1] 62 (0, 0)) (zb BK168.out) hg (Kd.R_ne HO_3.out BK168.out (by decide))); replace HL175_0 := qa.mk (Kd.R_after (ok := (fun k_ => some k_ ≠ (.slice (some ad175) t172.length co8 : Value).ownBlock)) (by (with_reducible repeat (first | apply Kd.R_alloc | apply Kd.R_drewN | apply Kd.R_drew)); exact Kd.R_mono HL175_0.out (fun _ hk => ⟨hk.2, hk.1⟩)) hg hat); replace HB := qa.mk (hb); clear HO_3 ho hb hg hat));go_roundg k1;case measure => have := HK1.out; omega
   case rel => exact ⟨(y177), (wrap64 (x10_1 + 1)), zE, H', zO HK1, ⟨zr HO179.out⟩, ⟨zS (Kd.S_mono HO_8.out (fun _ hk => hk.2))⟩, ⟨zb BK168.out⟩, ⟨zh HB.out⟩⟩
section
variable (a1 : Int → Int → Int → Int → Option Bool)
mutual
def Ja.l0 : Nat → List Int → List Int → Int → Int → Int → List Bool → Option ((List (List Int)) × (List (List Int)) × Bool)
 | 0, _, _, _, _, _, _ => none
 | k + 1, x6, x16, x17, x18, x199000, x199001 => if x18 < x17 then (if 0 ≤ x18 then (if x18 < (x16.length : Int) then (if x18 ≤ (x6.length : Int) then ((some (x6.drop (x18 : Int).toNat : List Int)).bind fun y204 => (Ja.l1 k x6 (rd x16 x18) x16 x17 x18 y204 (y204.length : Int) 0 x199000 x199001)) else (none)) else (none)) else (none)) else (some (([] : List (List Int)), ([] : List (List Int)), false))
def Ja.l1 : Nat → List Int → Int → List Int → Int → Int → List Int → Int → Int → Int → List Bool → Option ((List (List Int)) × (List (List Int)) × Bool)
 | 0, _, _, _, _, _, _, _, _, _, _ => none
 | k + 1, x6, x8, x16, x17, x18, x25, x26, x27, x199000, x199001 => if x27 < x26 then (if 0 ≤ x27 then (if x27 < (x25.length : Int) then (if 0 ≤ x8 then (if x8 < (x199001.length : Int) then (if yf false x199001 x8 = true then (if 0 ≤ (rd x25 x27) then (if (rd x25 x27) < (x199001.length : Int) then (Ja.j2 k x6 x8 (rd x25 x27) x16 x17 x18 x25 x26 x27 (!(yf false x199001 (rd x25 x27))) x199000 x199001) else (none)) else (none)) else (Ja.j2 k x6 x8 (rd x25 x27) x16 x17 x18 x25 x26 x27 true x199000 x199001)) else (none)) else (none)) else (none)) else (none)) else (Ja.l0 k x6 x16 x17 (wrap64 (x18 + 1)) x199000 x199001)
def Ja.j2 : Nat → List Int → Int → Int → List Int → Int → Int → List Int → Int → Int → Bool → Int → List Bool → Option ((List (List Int)) × (List (List Int)) × Bool)
 | 0, _, _, _, _, _, _, _, _, _, _, _, _ => none
 | k + 1, x6, x8, x10, x16, x17, x18, x25, x26, x27, x44, x199000, x199001 => if x44 = true then (Ja.l1 k x6 x8 x16 x17 x18 x25 x26 (wrap64 (x27 + 1)) x199000 x199001) else (Ja.l2 k x6 x8 x10 x16 x17 x18 x25 x26 x27 x6 (x6.length : Int) 0 x199000 x199001)
def Ja.l2 : Nat → List Int → Int → Int → List Int → Int → Int → List Int → Int → Int → List Int → Int → Int → Int → List Bool → Option ((List (List Int)) × (List (List Int)) × Bool)
 | 0, _, _, _, _, _, _, _, _, _, _, _, _, _, _ => none
 | k + 1, x6, x8, x10, x16, x17, x18, x25, x26, x27, x45, x46, x47, x199000, x199001 => if x47 < x46 then (if 0 ≤ x47 then (if x47 < (x45.length : Int) then (if 0 ≤ (rd x45 x47) then (if (rd x45 x47) < (x199001.length : Int) then (if yf false x199001 (rd x45 x47) = true then (Ja.j4 k x6 x8 x10 x47 (rd x45 x47) x16 x17 x18 x25 x26 x27 x45 x46 x47 true x199000 x199001) else (if (Go.bits .and .i64 (rd x45 x47) (Go.bits .and .i64 x8 x10)) = (Go.bits .and .i64 x8 x10) then (Ja.j4 k x6 x8 x10 x47 (rd x45 x47) x16 x17 x18 x25 x26 x27 x45 x46 x47 ((Go.bits .andNot .i64 (rd x45 x47) (Go.bits .or .i64 x8 x10)) != 0) x199000 x199001) else (Ja.j4 k x6 x8 x10 x47 (rd x45 x47) x16 x17 x18 x25 x26 x27 x45 x46 x47 true x199000 x199001))) else (none)) else (none)) else (none)) else (none)) else (Ja.l1 k x6 x8 x16 x17 x18 x25 x26 (wrap64 (x27 + 1)) x199000 x199001)
def Ja.j4 : Nat → List Int → Int → Int → Int → Int → List Int → Int → Int → List Int → Int → Int → List Int → Int → Int → Bool → Int → List Bool → Option ((List (List Int)) × (List (List Int)) × Bool)
 | 0, _, _, _, _, _, _, _, _, _, _, _, _, _, _, _, _, _ => none
 | k + 1, x6, x8, x10, x11, x12, x16, x17, x18, x25, x26, x27, x45, x46, x47, x75, x199000, x199001 => if x75 = true then (Ja.l2 k x6 x8 x10 x16 x17 x18 x25 x26 x27 x45 x46 (wrap64 (x47 + 1)) x199000 x199001) else (if 0 ≤ (Go.bits .or .i64 (Go.bits .and .i64 x8 x10) (Go.bits .andNot .i64 (Go.bits .or .i64 x8 x10) x12)) then (if (Go.bits .or .i64 (Go.bits .and .i64 x8 x10) (Go.bits .andNot .i64 (Go.bits .or .i64 x8 x10) x12)) < (x199001.length : Int) then (if (yf false x199001 (Go.bits .or .i64 (Go.bits .and .i64 x8 x10) (Go.bits .andNot .i64 (Go.bits .or .i64 x8 x10) x12)) = true) then (Ja.l2 k x6 x8 x10 x16 x17 x18 x25 x26 x27 x45 x46 (wrap64 (x47 + 1)) x199000 x199001) else (if 0 ≤ x11 then (if x11 ≤ (x6.length : Int) then ((Ve.f k (x6.drop (x11 : Int).toNat) (Go.bits .or .i64 (Go.bits .and .i64 x8 x10) (Go.bits .andNot .i64 (Go.bits .or .i64 x8 x10) x12))).bind fun t218 => (if t218 = true then ((a1 x8 x10 x12 (Go.bits .or .i64 (Go.bits .and .i64 x8 x10) (Go.bits .andNot .i64 (Go.bits .or .i64 x8 x10) x12))).bind fun t219 => (if t219 = true then ((Nc.f k (([x8, x10] : List Int)) (([x12, Go.bits .or .i64 (Go.bits .and .i64 x8 x10) (Go.bits .andNot .i64 (Go.bits .or .i64 x8 x10) x12)] : List Int))).bind fun bt226 => (some (bt226.1, bt226.2, true))) else (Ja.l2 k x6 x8 x10 x16 x17 x18 x25 x26 x27 x45 x46 (wrap64 (x47 + 1)) x199000 x199001))) else (Ja.l2 k x6 x8 x10 x16 x17 x18 x25 x26 x27 x45 x46 (wrap64 (x47 + 1)) x199000 x199001))) else (none)) else (none))) else (none)) else (none))
end
def Ja.f (k : Nat) (a0_0 : Int) (l0_1 : List Bool) (a1 : Int → Int → Int → Int → Option Bool) : Option ((List (List Int)) × (List (List Int)) × Bool) := (Qc.f k a0_0 l0_1).bind fun t200 => (Ja.l0 a1 k t200 t200 (t200.length : Int) 0 a0_0 l0_1)
theorem Ja.calls (k : Nat) (a0_0 : Int) (A0_1 : Option Addr) (c0_1 : Nat) (l0_1 : List Bool) (a1 : Int → Int → Int → Int → Option Bool) (g_ : Nat) (fa_ lb_ : Array Value) (eg_ : ∀ args w, (callFunc g_ args).run Tryz.prog w = .ok (.enter g_ args) w) (r1 : List (List Int)) (r2 : List (List Int)) (r3 : Bool) (w : World) (hp0_ : OG Tryz.prog g_ fa_ lb_ w a1) (hr0_1 : Kd.C Kd.bool w A0_1 l0_1.length l0_1) (hc0_1 : l0_1.length ≤ c0_1) (h : Ja.f k a0_0 l0_1 a1 = some (r1, r2, r3)) :
 Calls Tryz.prog 72 #[.agg #[.int .i64 a0_0, .slice A0_1 l0_1.length c0_1], .func (.func g_) fa_ lb_] w fun e w' => ∃ v0_ v1_ : Value, e = .returned (.tuple #[.agg #[v0_, v1_], .bool r3]) ∧ ∃ ow_ : Nat → Bool, Kd.S (Kd.slice 3 (Kd.int .i64)) 35 w' w.heap.size (fun k_ => ow_ k_ = true) v0_ r1 ∧ Kd.S (Kd.slice 3 (Kd.int .i64)) 35 w' w.heap.size (fun k_ => ow_ k_ = false) v1_ r2 ∧ Below w.heap.size w w' := by
 have hp_ := qa.mk hp0_;clear hp0_;have hu62 := Tryz.underlying62;have hu71 := Tryz.underlying71;have HR0_1 := qa.mk hr0_1;have HC0_1 := qa.mk hc0_1;clear hr0_1 hc0_1;have HB := qa.mk (Below.refl w.heap.size w);have H : ((Qc.f k a0_0 l0_1).bind fun t200 => (Ja.l0 a1 k t200 t200 (t200.length : Int) 0 a0_0 l0_1)) = some (r1, r2, r3) := h;clear h;replace H := zB0 H;obtain ⟨t200, A30, H⟩ := H;replace H : (Ja.l0 a1 k t200 t200 (t200.length : Int) 0 a0_0 l0_1) = some (r1, r2, r3) := H;have A3 := qa.mk A30;clear A30;have H' := qa.mk H;clear H;go_enter Tryz.func72, Tryz.ntmps72;go_wp2_with (first | ((with_reducible refine Ma (N := 2) rfl ?_); refine zq 2 #[.int .i64 a0_0, .slice A0_1 l0_1.length c0_1] 62 ?_; intro gb198 hg w4 hbox hb; have GW198 := zG hg HB; replace HB := zH hb HB; have BK198 := qa.mk hbox; have GE198 := GW198; clear hb hbox hg) | ((with_reducible refine Ma (N := 4) rfl ?_); refine zq 4 #[.slice none 0 0, .slice none 0 0] 71 ?_; intro gb199 hg w5 hbox hb; have BK199 := qa.mk hbox; have GW199 := zG hg HB; have GE199 := zG hg HB; have NB198_199 := zNa hg BK198; have NB199_198 := zNb hg BK198; replace BK198 := zK BK198 hb; replace HB := zH hb HB; clear hb hbox hg; have hnb6 := NB198_199.out; have hnc6 := NB199_198.out; obtain ⟨hcz7_0, hcz7_1, hfz7_0, hfz7_1⟩ := zC2 BK198) | ((with_reducible refine Va (f := 126) rfl ?_); refine zl 15 Tryz.func126 #[.agg #[.int .i64 a0_0, .slice A0_1 l0_1.length c0_1]] ?_; (with_reducible refine (Qc.calls k a0_0 _ _ l0_1 t200 _ ?side1 ?side2 A3.out).mono ?_); (case side1 => exact zQ (Kd.C_below HR0_1.out HB.out)); (case side2 => exact HC0_1.out); rintro e w8 ⟨v201, rfl, ho0, hb⟩; refine ⟨_, rfl, ?_⟩; have HO202 := qa.mk (Kd.R_lower ho0 (Ua (zh HB.out))); replace BK198 := zK BK198 hb; replace BK199 := zK BK199 hb; replace HB := zH hb HB; clear hb; (try clear ho0); obtain ⟨Ao9, co9, eo9⟩ := Kd.R_slice HO202.out; subst eo9));go_loopg [18] k (fun kq v18 w' => ∃ (x18_1 : Int), v18 = .int .i64 x18_1 ∧ qa (Ja.l0 a1 kq t200 t200 (t200.length : Int) x18_1 a0_0 l0_1 = some (r1, r2, r3)) ∧ qa (kq ≤ k) ∧ qa (Kd.R (Kd.int .i64) 3 w' w.heap.size (fun _ => True) (.slice Ao9 t200.length co9) t200) ∧ qa (Kd.R (Kd.int .i64) 3 w' w.heap.size (fun _ => True) (.slice Ao9 t200.length co9) t200) ∧ qa (w'.heap[gb198]? = some (.cells #[.int .i64 a0_0, (.slice A0_1 l0_1.length c0_1)] 62 (0, 0))) ∧ qa (w'.heap[gb199]? = some (.cells #[(.slice none 0 0), (.slice none 0 0)] 71 (0, 0))) ∧ qa (Below w.heap.size w w'));case atStart => exact ⟨(0), zE, H', ⟨Nat.le_refl _⟩, ⟨zr HO202.out⟩, ⟨zr HO202.out⟩, ⟨zb BK198.out⟩, ⟨zb BK199.out⟩, ⟨zh HB.out⟩⟩
 case round =>
  clear H';try clear c1
  try clear p2
  try clear c6
  try clear c7
  try clear hcz7_0
  try clear hcz7_1
  try clear hfz7_0
  try clear hfz7_1
  obtain ⟨x18_1, rfl, HA, HK1, HO_6, HO_16, BK198, BK199, HB⟩ := hrel;cases gk with
  | zero => exact absurd HA.out (by simp [Ja.l0])
  | succ k1 =>
   have H := HA.out;clear HA;simp only [Ja.l0] at H;by_cases c10 : x18_1 < (t200.length : Int)
   ·rw [if_pos c10] at H;have c10b0 := decide_eq_true c10;clear c10;by_cases c11 : 0 ≤ x18_1
    ·rw [if_pos c11] at H;have c11b0 := decide_eq_true c11;clear c11;by_cases c12 : x18_1 < (t200.length : Int)
     ·rw [if_pos c12] at H;have c12b0 := decide_eq_true c12;clear c12;have c13b0 := eq_true (zk : 0 ≤ x18_1);by_cases c14 : x18_1 ≤ (t200.length : Int)
      ·rw [if_pos c14] at H;have c14b0 := eq_true c14;have c14b1 := decide_eq_true c14;clear c14;replace H := zY H;obtain ⟨y204, Ny204, H⟩ := H;have H' := qa.mk H;clear H;obtain ⟨⟨ad203, e203, hx203_0⟩, p203, q203⟩ := zW (Kd.at_int (Kd.R_reads' HO_16.out).2.2 x18_1);cases e203;have q15 : (x18_1 : Int) ≤ ((t200.length : Int) : Int) := zk;obtain ⟨i015, hi015, _, hsz15, _⟩ := info_parts info3;have hroom15 : t200.length ≤ co9 := (Kd.R_reads' HO_6.out).2.1;have hC15 : Kd.C (Kd.int .i64) _ (some ad203) t200.length t200 := (Kd.R_reads' HO_6.out).2.2;have q015 : (0 : Int) ≤ (x18_1 : Int) := zk;have hcut15 := Uk (P := Tryz.prog) 35 3 .i64 Tryz.underlying35 hi015 1 hsz15 (some ad203) t200.length co9 x18_1 q015 q15;have hr15 := Kd.C_drop (m := (x18_1 : Int).toNat) (c := co9) hC15 (by omega) hroom15;obtain ⟨A207, hA15⟩ : ∃ A1, A1 = (if co9 = (x18_1 : Int).toNat then (some ad203) else ((some ad203) : Option Addr).map (·.add ((x18_1 : Int).toNat * 1))) := ⟨_, rfl⟩;obtain ⟨c15, hc15⟩ : ∃ c1, c1 = co9 - (x18_1 : Int).toNat := ⟨_, rfl⟩;have hy15 : y204.length = t200.length - (x18_1 : Int).toNat := (by rw [Ny204.out, List.length_drop] <;> omega);rw [show (t200).drop (x18_1 : Int).toNat = y204 from Ny204.out.symm] at hr15;replace hr15 : Kd.C (Kd.int .i64) _ A207 y204.length y204 := (by rw [hA15]; exact hr15);rw [← hy15, ← hA15, ← hc15] at hcut15;have HR207 := qa.mk hr15;have HC207 := qa.mk (show y204.length ≤ c15 from by rw [hy15, hc15]; exact Nat.sub_le_sub_right hroom15 _);clear hr15 hC15 hroom15 hi015 hsz15 hc15;have KY15 := qa.mk hy15;have KA15 := qa.mk hA15;clear hy15 hA15;have KL15 := qa.mk (show (x18_1 : Int).toNat ≤ t200.length from by omega);replace q15 := eq_true q15;go_wp2;go_loopg [27] k1 (fun kq v27 w' => ∃ (x27_2 : Int), v27 = .int .i64 x27_2 ∧ qa (Ja.l1 a1 kq t200 (rd t200 x18_1) t200 (t200.length : Int) x18_1 y204 (y204.length : Int) x27_2 a0_0 l0_1 = some (r1, r2, r3)) ∧ qa (kq ≤ k1) ∧ qa (Kd.R (Kd.int .i64) 3 w' w.heap.size (fun _ => True) (.slice (some ad203) t200.length co9) t200) ∧ qa (Kd.R (Kd.int .i64) 3 w' w.heap.size (fun _ => True) (.slice (some ad203) t200.length co9) t200) ∧ qa (w'.heap[gb198]? = some (.cells #[.int .i64 a0_0, (.slice A0_1 l0_1.length c0_1)] 62 (0, 0))) ∧ qa (w'.heap[gb199]? = some (.cells #[(.slice none 0 0), (.slice none 0 0)] 71 (0, 0))) ∧ qa (Kd.C (Kd.int .i64) w' A207 y204.length y204) ∧ qa (Below w.heap.size w w'));case atStart => exact ⟨(0), zE, H', ⟨Nat.le_refl _⟩, ⟨zr HO_6.out⟩, ⟨zr HO_16.out⟩, ⟨zb BK198.out⟩, ⟨zb BK199.out⟩, ⟨by repeat (first | (with_reducible exact HR207.out) | (with_reducible refine Kd.C_alloc ?_ _) | (with_reducible refine Kd.C_drewN ?_ _) | (with_reducible refine Kd.C_drew ?_) | exact HR207.out)⟩, ⟨zh HB.out⟩⟩
       case round =>
        clear H';try clear c1
        try clear q1
        try clear p2
        try clear q2
        try clear hx2
        try clear c6
        try clear c7
        try clear c10
        try clear c10b0
        try clear c11
        try clear c11b0
        try clear c12
        try clear c12b0
        try clear c13
        try clear c13b0
        try clear c14
        try clear c14b0
        try clear c14b1
        try clear c15
        try clear q15
        try clear hcz7_0
        try clear hcz7_1
        try clear hfz7_0
        try clear hfz7_1
        try clear hx203_0
        try clear p2
        try clear p203
        try clear q015
        try clear q15
        try clear q203
        obtain ⟨x27_2, rfl, HA, HK2, HO_6, HO_16, BK198, BK199, HR207, HB⟩ := hrel;cases gk with
        | zero => exact absurd HA.out (by simp [Ja.l1])
        | succ k2 =>
         have H := HA.out;clear HA;simp only [Ja.l1] at H;by_cases c16 : x27_2 < (y204.length : Int)
         ·rw [if_pos c16] at H;have c16b0 := decide_eq_true c16;clear c16;by_cases c17 : 0 ≤ x27_2
          ·rw [if_pos c17] at H;have c17b0 := decide_eq_true c17;clear c17;by_cases c18 : x27_2 < (y204.length : Int)
           ·rw [if_pos c18] at H;have c18b0 := decide_eq_true c18;clear c18;have HC19 := qa.mk H;clear H;obtain ⟨⟨ad208, e208, hx208_0⟩, p208, q208⟩ := zW (Kd.at_int HR207.out x27_2);cases e208;(try replace hx208_0 := zx HB.out hx208_0)
            go_upto_region 8 with (fail)
            go_cut [44] (fun v44 wc => ∃ (kq : Nat) (x44_18 : Bool), v44 = .bool x44_18 ∧ qa (Ja.j2 a1 kq t200 (rd t200 x18_1) (rd y204 x27_2) t200 (t200.length : Int) x18_1 y204 (y204.length : Int) x27_2 x44_18 a0_0 l0_1 = some (r1, r2, r3)) ∧ qa (kq ≤ k2) ∧ qa (Kd.R (Kd.int .i64) 3 wc w.heap.size (fun _ => True) (.slice (some ad203) t200.length co9) t200) ∧ qa (Kd.R (Kd.int .i64) 3 wc w.heap.size (fun _ => True) (.slice (some ad203) t200.length co9) t200) ∧ qa (wc.heap[gb198]? = some (.cells #[.int .i64 a0_0, (.slice A0_1 l0_1.length c0_1)] 62 (0, 0))) ∧ qa (wc.heap[gb199]? = some (.cells #[(.slice none 0 0), (.slice none 0 0)] 71 (0, 0))) ∧ qa (Kd.C (Kd.int .i64) wc (some ad208) y204.length y204) ∧ qa (Below w.heap.size w wc));case first =>
             have H := HC19.out;clear HC19;by_cases c20 : 0 ≤ (rd t200 x18_1)
             ·rw [if_pos c20] at H;have c20b0 := decide_eq_true c20;clear c20;(first | rw [c20b0] | (simp only [Ff, Jh]; rw [c20b0]) | skip)
              by_cases c21 : (rd t200 x18_1) < (l0_1.length : Int)
              ·rw [if_pos c21] at H;have c21b0 := decide_eq_true c21;clear c21;obtain ⟨bq22, hbq22⟩ : ∃ b_ : Bool, b_ = (yf false l0_1 (rd t200 x18_1)) := ⟨_, rfl⟩;rw [← hbq22] at H;have Nbq22 := qa.mk hbq22;clear hbq22;by_cases c23 : bq22 = true
               ·subst c23;rw [if_pos rfl] at H;by_cases c24 : 0 ≤ (rd y204 x27_2)
                ·rw [if_pos c24] at H;have c24b0 := decide_eq_true c24;clear c24;by_cases c25 : (rd y204 x27_2) < (l0_1.length : Int)
                 ·rw [if_pos c25] at H;have c25b0 := decide_eq_true c25;clear c25;have H' := qa.mk H;clear H;have hnb26 := NB198_199.out;have hnc26 := NB199_198.out;obtain ⟨hcz27_0, hcz27_1, hfz27_0, hfz27_1⟩ := zC2 BK198;obtain ⟨⟨ad209, e209, hx209_0⟩, p209, q209⟩ := zW (Kd.at_bool HR0_1.out (rd t200 x18_1));(try rw [← Nbq22.out] at hx209_0)
                  cases e209;(try replace hx209_0 := zx HB.out hx209_0)
                  obtain ⟨⟨ad210, e210, hx210_0⟩, p210, q210⟩ := zW (Kd.at_bool HR0_1.out (rd y204 x27_2));(try rw [← Nbq22.out] at hx210_0)
                  obtain rfl : ad209 = ad210 := (by injection e210);(try replace hx210_0 := zx HB.out hx210_0)
                  go_wp2;go_meet
                  case rel => exact ⟨_, (!(yf false l0_1 (rd y204 x27_2))), zE, H', ⟨by have := HK1.out; have := HK2.out; first | omega | exact Nat.le_refl _⟩, ⟨zr HO_6.out⟩, ⟨zr HO_16.out⟩, ⟨zb BK198.out⟩, ⟨zb BK199.out⟩, ⟨by repeat (first | (with_reducible exact HR207.out) | (with_reducible refine Kd.C_alloc ?_ _) | (with_reducible refine Kd.C_drewN ?_ _) | (with_reducible refine Kd.C_drew ?_) | exact HR207.out)⟩, ⟨zh HB.out⟩⟩
                 ·rw [if_neg c25] at H;cases H
                ·rw [if_neg c24] at H;cases H
               ·replace c23 := Bool.eq_false_iff.mpr c23;subst c23;rw [if_neg zF] at H;have H' := qa.mk H;clear H;have hnb28 := NB198_199.out;have hnc28 := NB199_198.out;obtain ⟨hcz29_0, hcz29_1, hfz29_0, hfz29_1⟩ := zC2 BK198;obtain ⟨⟨ad209, e209, hx209_0⟩, p209, q209⟩ := zW (Kd.at_bool HR0_1.out (rd t200 x18_1));(try rw [← Nbq22.out] at hx209_0)
                cases e209;(try replace hx209_0 := zx HB.out hx209_0)
                go_wp2;go_meet
                case rel => exact ⟨_, (true), zE, H', ⟨by have := HK1.out; have := HK2.out; first | omega | exact Nat.le_refl _⟩, ⟨zr HO_6.out⟩, ⟨zr HO_16.out⟩, ⟨zb BK198.out⟩, ⟨zb BK199.out⟩, ⟨by repeat (first | (with_reducible exact HR207.out) | (with_reducible refine Kd.C_alloc ?_ _) | (with_reducible refine Kd.C_drewN ?_ _) | (with_reducible refine Kd.C_drew ?_) | exact HR207.out)⟩, ⟨zh HB.out⟩⟩
              ·rw [if_neg c21] at H;cases H
             ·rw [if_neg c20] at H;cases H
            case rest =>
             clear HC19;try clear c1
             try clear q1
             try clear c2
             try clear p2
             try clear q2
             try clear hx2
             try clear c6
             try clear c7
             try clear c10
             try clear c10b0
             try clear c11
             try clear c11b0
             try clear c12
             try clear c12b0
             try clear c13
             try clear c13b0
             try clear c14
             try clear c14b0
             try clear c14b1
             try clear c15
             try clear q15
             try clear c16
             try clear c16b0
             try clear c17
             try clear c17b0
             try clear c18
             try clear c18b0
             try clear c20
             try clear c20b0
             try clear p20
             try clear q20
             try clear hx20
             try clear c21
             try clear c21b0
             try clear p21
             try clear q21
             try clear hx21
             try clear q22
             try clear c23
             try clear c24
             try clear c24b0
             try clear c25
             try clear c25b0
             try clear c26
             try clear c28
             try clear hcz27_0
             try clear hcz27_1
             try clear hcz29_0
             try clear hcz29_1
             try clear hcz7_0
             try clear hcz7_1
             try clear hfz27_0
             try clear hfz27_1
             try clear hfz29_0
             try clear hfz29_1
             try clear hfz7_0
             try clear hfz7_1
             try clear hx203_0
             try clear hx208_0
             try clear hx209_0
             try clear hx210_0
             try clear p2
             try clear p203
             try clear p208
             try clear p209
             try clear p210
             try clear q015
             try clear q1
             try clear q15
             try clear q2
             try clear q203
             try clear q208
             try clear q209
             try clear q210
             obtain ⟨kq, x44_18, rfl, HA, HJ18, HO_6, HO_16, BK198, BK199, HR207, HB⟩ := hcut;cases kq with
             | zero => exact absurd HA.out (by simp [Ja.j2])
             | succ kj18 =>
              have H := HA.out;clear HA;simp only [Ja.j2] at H;by_cases c30 : x44_18 = true
              ·subst c30;rw [if_pos rfl] at H;have H' := qa.mk H;clear H;go_wp2;go_roundg kj18;case measure => have := HK1.out; have := HK2.out; have := HJ18.out; omega
               case rel => exact ⟨(wrap64 (x27_2 + 1)), zE, H', ⟨by have := HK1.out; have := HK2.out; have := HJ18.out; omega⟩, ⟨zr HO_6.out⟩, ⟨zr HO_16.out⟩, ⟨zb BK198.out⟩, ⟨zb BK199.out⟩, ⟨by repeat (first | (with_reducible exact HR207.out) | (with_reducible refine Kd.C_alloc ?_ _) | (with_reducible refine Kd.C_drewN ?_ _) | (with_reducible refine Kd.C_drew ?_) | exact HR207.out)⟩, ⟨zh HB.out⟩⟩
              ·replace c30 := Bool.eq_false_iff.mpr c30;subst c30;rw [if_neg zF] at H;have H' := qa.mk H;clear H;go_wp2;go_loopg [47] kj18 (fun kq v47 w' => ∃ (x47_4 : Int), v47 = .int .i64 x47_4 ∧ qa (Ja.l2 a1 kq t200 (rd t200 x18_1) (rd y204 x27_2) t200 (t200.length : Int) x18_1 y204 (y204.length : Int) x27_2 t200 (t200.length : Int) x47_4 a0_0 l0_1 = some (r1, r2, r3)) ∧ qa (kq ≤ kj18) ∧ qa (Kd.R (Kd.int .i64) 3 w' w.heap.size (fun _ => True) (.slice (some ad203) t200.length co9) t200) ∧ qa (Kd.R (Kd.int .i64) 3 w' w.heap.size (fun _ => True) (.slice (some ad203) t200.length co9) t200) ∧ qa (Kd.R (Kd.int .i64) 3 w' w.heap.size (fun _ => True) (.slice (some ad203) t200.length co9) t200) ∧ qa (w'.heap[gb198]? = some (.cells #[.int .i64 a0_0, (.slice A0_1 l0_1.length c0_1)] 62 (0, 0))) ∧ qa (w'.heap[gb199]? = some (.cells #[(.slice none 0 0), (.slice none 0 0)] 71 (0, 0))) ∧ qa (Kd.C (Kd.int .i64) w' (some ad208) y204.length y204) ∧ qa (Below w.heap.size w w'));case atStart => exact ⟨(0), zE, H', ⟨Nat.le_refl _⟩, ⟨zr HO_6.out⟩, ⟨zr HO_16.out⟩, ⟨zr HO_6.out⟩, ⟨zb BK198.out⟩, ⟨zb BK199.out⟩, ⟨by repeat (first | (with_reducible exact HR207.out) | (with_reducible refine Kd.C_alloc ?_ _) | (with_reducible refine Kd.C_drewN ?_ _) | (with_reducible refine Kd.C_drew ?_) | exact HR207.out)⟩, ⟨zh HB.out⟩⟩
               case round =>
                clear H';try clear c1
                try clear q1
                try clear c2
                try clear p2
                try clear q2
                try clear hx2
                try clear c3
                try clear c6
                try clear p6
                try clear c7
                try clear c10
                try clear c10b0
                try clear c11
                try clear c11b0
                try clear c12
                try clear c12b0
                try clear c13
                try clear c13b0
                try clear c14
                try clear c14b0
                try clear c14b1
                try clear c15
                try clear q15
                try clear c16
                try clear c16b0
                try clear c17
                try clear c17b0
                try clear c18
                try clear c18b0
                try clear c20
                try clear c20b0
                try clear p20
                try clear q20
                try clear hx20
                try clear c21
                try clear c21b0
                try clear p21
                try clear q21
                try clear hx21
                try clear q22
                try clear c23
                try clear c24
                try clear c24b0
                try clear c25
                try clear c25b0
                try clear c26
                try clear c28
                try clear c30
                try clear hcz27_0
                try clear hcz27_1
                try clear hcz29_0
                try clear hcz29_1
                try clear hcz7_0
                try clear hcz7_1
                try clear hfz27_0
                try clear hfz27_1
                try clear hfz29_0
                try clear hfz29_1
                try clear hfz7_0
                try clear hfz7_1
                try clear hx203_0
                try clear hx208_0
                try clear hx209_0
                try clear hx210_0
                try clear p2
                try clear p20
                try clear p203
                try clear p208
                try clear p209
                try clear p21
                try clear p210
                try clear q015
                try clear q1
                try clear q15
                try clear q2
                try clear q20
                try clear q203
                try clear q208
                try clear q209
                try clear q21
                try clear q210
                try clear q22
                obtain ⟨x47_4, rfl, HA, HK4, HO_6, HO_16, HO_45, BK198, BK199, HR207, HB⟩ := hrel;cases gk with
                | zero => exact absurd HA.out (by simp [Ja.l2])
                | succ k4 =>
                 have H := HA.out;clear HA;simp only [Ja.l2] at H;by_cases c31 : x47_4 < (t200.length : Int)
                 ·rw [if_pos c31] at H;have c31b0 := decide_eq_true c31;clear c31;by_cases c32 : 0 ≤ x47_4
                  ·rw [if_pos c32] at H;have c32b0 := decide_eq_true c32;clear c32;by_cases c33 : x47_4 < (t200.length : Int)
                   ·rw [if_pos c33] at H;have c33b0 := decide_eq_true c33;clear c33;have HC34 := qa.mk H;clear H;obtain ⟨⟨ad211, e211, hx211_0⟩, p211, q211⟩ := zW (Kd.at_int (Kd.R_reads' HO_45.out).2.2 x47_4);obtain rfl : ad203 = ad211 := (by injection e211);go_upto_region 12 with (fail)
                    go_cut [75] (fun v75 wc => ∃ (kq : Nat) (x75_33 : Bool), v75 = .bool x75_33 ∧ qa (Ja.j4 a1 kq t200 (rd t200 x18_1) (rd y204 x27_2) x47_4 (rd t200 x47_4) t200 (t200.length : Int) x18_1 y204 (y204.length : Int) x27_2 t200 (t200.length : Int) x47_4 x75_33 a0_0 l0_1 = some (r1, r2, r3)) ∧ qa (kq ≤ k4) ∧ qa (Kd.R (Kd.int .i64) 3 wc w.heap.size (fun _ => True) (.slice (some ad203) t200.length co9) t200) ∧ qa (Kd.R (Kd.int .i64) 3 wc w.heap.size (fun _ => True) (.slice (some ad203) t200.length co9) t200) ∧ qa (Kd.R (Kd.int .i64) 3 wc w.heap.size (fun _ => True) (.slice (some ad203) t200.length co9) t200) ∧ qa (wc.heap[gb198]? = some (.cells #[.int .i64 a0_0, (.slice A0_1 l0_1.length c0_1)] 62 (0, 0))) ∧ qa (wc.heap[gb199]? = some (.cells #[(.slice none 0 0), (.slice none 0 0)] 71 (0, 0))) ∧ qa (Kd.C (Kd.int .i64) wc (some ad208) y204.length y204) ∧ qa (Below w.heap.size w wc));case first =>
                     have H := HC34.out;clear HC34;by_cases c35 : 0 ≤ (rd t200 x47_4)
                     ·rw [if_pos c35] at H;have c35b0 := decide_eq_true c35;clear c35;(first | rw [c35b0] | (simp only [Ff, Jh]; rw [c35b0]) | skip)
                      by_cases c36 : (rd t200 x47_4) < (l0_1.length : Int)
                      ·rw [if_pos c36] at H;have c36b0 := decide_eq_true c36;clear c36;obtain ⟨bq37, hbq37⟩ : ∃ b_ : Bool, b_ = (yf false l0_1 (rd t200 x47_4)) := ⟨_, rfl⟩;rw [← hbq37] at H;have Nbq37 := qa.mk hbq37;clear hbq37;by_cases c38 : bq37 = true
                       ·subst c38;rw [if_pos rfl] at H;have H' := qa.mk H;clear H;have hnb39 := NB198_199.out;have hnc39 := NB199_198.out;obtain ⟨hcz40_0, hcz40_1, hfz40_0, hfz40_1⟩ := zC2 BK198;obtain ⟨⟨ad212, e212, hx212_0⟩, p212, q212⟩ := zW (Kd.at_bool HR0_1.out (rd t200 x47_4));(try rw [← Nbq37.out] at hx212_0)
                        cases e212;(try replace hx212_0 := zx HB.out hx212_0)
                        go_wp2;go_meet
                        case rel => exact ⟨_, (true), zE, H', ⟨by have := HK1.out; have := HK2.out; have := HJ18.out; have := HK4.out; first | omega | exact Nat.le_refl _⟩, ⟨zr HO_6.out⟩, ⟨zr HO_16.out⟩, ⟨zr HO_45.out⟩, ⟨zb BK198.out⟩, ⟨zb BK199.out⟩, ⟨by repeat (first | (with_reducible exact HR207.out) | (with_reducible refine Kd.C_alloc ?_ _) | (with_reducible refine Kd.C_drewN ?_ _) | (with_reducible refine Kd.C_drew ?_) | exact HR207.out)⟩, ⟨zh HB.out⟩⟩
                       ·replace c38 := Bool.eq_false_iff.mpr c38;subst c38;rw [if_neg zF] at H;by_cases c41 : (Go.bits .and .i64 (rd t200 x47_4) (Go.bits .and .i64 (rd t200 x18_1) (rd y204 x27_2))) = (Go.bits .and .i64 (rd t200 x18_1) (rd y204 x27_2))
                        ·rw [if_pos c41] at H;have c41b0 := beq_iff_eq.mpr c41;have c41b1 := bne_eq_false_iff_eq.mpr c41;clear c41;have H' := qa.mk H;clear H;have hnb42 := NB198_199.out;have hnc42 := NB199_198.out;obtain ⟨hcz43_0, hcz43_1, hfz43_0, hfz43_1⟩ := zC2 BK198;obtain ⟨⟨ad212, e212, hx212_0⟩, p212, q212⟩ := zW (Kd.at_bool HR0_1.out (rd t200 x47_4));(try rw [← Nbq37.out] at hx212_0)
                         cases e212;(try replace hx212_0 := zx HB.out hx212_0)
                         go_wp2;go_meet
                         case rel => exact ⟨_, (((Go.bits .andNot .i64 (rd t200 x47_4) (Go.bits .or .i64 (rd t200 x18_1) (rd y204 x27_2))) != 0)), zE, H', ⟨by have := HK1.out; have := HK2.out; have := HJ18.out; have := HK4.out; first | omega | exact Nat.le_refl _⟩, ⟨zr HO_6.out⟩, ⟨zr HO_16.out⟩, ⟨zr HO_45.out⟩, ⟨zb BK198.out⟩, ⟨zb BK199.out⟩, ⟨by repeat (first | (with_reducible exact HR207.out) | (with_reducible refine Kd.C_alloc ?_ _) | (with_reducible refine Kd.C_drewN ?_ _) | (with_reducible refine Kd.C_drew ?_) | exact HR207.out)⟩, ⟨zh HB.out⟩⟩
                        ·rw [if_neg c41] at H;have c41b0 := beq_eq_false_iff_ne.mpr c41;have c41b1 := bne_iff_ne.mpr c41;have H' := qa.mk H;clear H;have hnb44 := NB198_199.out;have hnc44 := NB199_198.out;obtain ⟨hcz45_0, hcz45_1, hfz45_0, hfz45_1⟩ := zC2 BK198;obtain ⟨⟨ad212, e212, hx212_0⟩, p212, q212⟩ := zW (Kd.at_bool HR0_1.out (rd t200 x47_4));(try rw [← Nbq37.out] at hx212_0)
                         cases e212;(try replace hx212_0 := zx HB.out hx212_0)
                         go_wp2;go_meet
                         case rel => exact ⟨_, (true), zE, H', ⟨by have := HK1.out; have := HK2.out; have := HJ18.out; have := HK4.out; first | omega | exact Nat.le_refl _⟩, ⟨zr HO_6.out⟩, ⟨zr HO_16.out⟩, ⟨zr HO_45.out⟩, ⟨zb BK198.out⟩, ⟨zb BK199.out⟩, ⟨by repeat (first | (with_reducible exact HR207.out) | (with_reducible refine Kd.C_alloc ?_ _) | (with_reducible refine Kd.C_drewN ?_ _) | (with_reducible refine Kd.C_drew ?_) | exact HR207.out)⟩, ⟨zh HB.out⟩⟩
                      ·rw [if_neg c36] at H;cases H
                     ·rw [if_neg c35] at H;cases H
                    case rest =>
                     clear HC34;try clear c1
                     try clear q1
                     try clear c2
                     try clear p2
                     try clear q2
                     try clear hx2
                     try clear c3
                     try clear q3
                     try clear c4
                     try clear c6
                     try clear p6
                     try clear c7
                     try clear c10
                     try clear c10b0
                     try clear c11
                     try clear c11b0
                     try clear c12
                     try clear c12b0
                     try clear c13
                     try clear c13b0
                     try clear c14
                     try clear c14b0
                     try clear c14b1
                     try clear c15
                     try clear q15
                     try clear c16
                     try clear c16b0
                     try clear c17
                     try clear c17b0
                     try clear c18
                     try clear c18b0
                     try clear c20
                     try clear c20b0
                     try clear p20
                     try clear q20
                     try clear hx20
                     try clear c21
                     try clear c21b0
                     try clear p21
                     try clear q21
                     try clear hx21
                     try clear q22
                     try clear c23
                     try clear c24
                     try clear c24b0
                     try clear c25
                     try clear c25b0
                     try clear c26
                     try clear c28
                     try clear c30
                     try clear c31
                     try clear c31b0
                     try clear c32
                     try clear c32b0
                     try clear c33
                     try clear c33b0
                     try clear c35
                     try clear c35b0
                     try clear c36
                     try clear c36b0
                     try clear q37
                     try clear c38
                     try clear c39
                     try clear c41
                     try clear c41b0
                     try clear c41b1
                     try clear c42
                     try clear c44
                     try clear hcz27_0
                     try clear hcz27_1
                     try clear hcz29_0
                     try clear hcz29_1
                     try clear hcz40_0
                     try clear hcz40_1
                     try clear hcz43_0
                     try clear hcz43_1
                     try clear hcz45_0
                     try clear hcz45_1
                     try clear hcz7_0
                     try clear hcz7_1
                     try clear hfz27_0
                     try clear hfz27_1
                     try clear hfz29_0
                     try clear hfz29_1
                     try clear hfz40_0
                     try clear hfz40_1
                     try clear hfz43_0
                     try clear hfz43_1
                     try clear hfz45_0
                     try clear hfz45_1
                     try clear hfz7_0
                     try clear hfz7_1
                     try clear hx203_0
                     try clear hx208_0
                     try clear hx209_0
                     try clear hx210_0
                     try clear hx211_0
                     try clear hx212_0
                     try clear p2
                     try clear p20
                     try clear p203
                     try clear p208
                     try clear p209
                     try clear p21
                     try clear p210
                     try clear p211
                     try clear p212
                     try clear p6
                     try clear q015
                     try clear q1
                     try clear q15
                     try clear q2
                     try clear q20
                     try clear q203
                     try clear q208
                     try clear q209
                     try clear q21
                     try clear q210
                     try clear q211
                     try clear q212
                     try clear q22
                     obtain ⟨kq, x75_33, rfl, HA, HJ33, HO_6, HO_16, HO_45, BK198, BK199, HR207, HB⟩ := hcut;cases kq with
                     | zero => exact absurd HA.out (by simp [Ja.j4])
                     | succ kj33 =>
                      have H := HA.out;clear HA;simp only [Ja.j4] at H;by_cases c46 : x75_33 = true
                      ·subst c46;rw [if_pos rfl] at H;have H' := qa.mk H;clear H;go_wp2;go_roundg kj33;case measure => have := HK1.out; have := HK2.out; have := HJ18.out; have := HK4.out; have := HJ33.out; omega
                       case rel => exact ⟨(wrap64 (x47_4 + 1)), zE, H', ⟨by have := HK1.out; have := HK2.out; have := HJ18.out; have := HK4.out; have := HJ33.out; omega⟩, ⟨zr HO_6.out⟩, ⟨zr HO_16.out⟩, ⟨zr HO_45.out⟩, ⟨zb BK198.out⟩, ⟨zb BK199.out⟩, ⟨by repeat (first | (with_reducible exact HR207.out) | (with_reducible refine Kd.C_alloc ?_ _) | (with_reducible refine Kd.C_drewN ?_ _) | (with_reducible refine Kd.C_drew ?_) | exact HR207.out)⟩, ⟨zh HB.out⟩⟩
                      ·replace c46 := Bool.eq_false_iff.mpr c46;subst c46;rw [if_neg zF] at H;by_cases c47 : 0 ≤ (Go.bits .or .i64 (Go.bits .and .i64 (rd t200 x18_1) (rd y204 x27_2)) (Go.bits .andNot .i64 (Go.bits .or .i64 (rd t200 x18_1) (rd y204 x27_2)) (rd t200 x47_4)))
                       ·rw [if_pos c47] at H;have c47b0 := decide_eq_true c47;clear c47;by_cases c48 : (Go.bits .or .i64 (Go.bits .and .i64 (rd t200 x18_1) (rd y204 x27_2)) (Go.bits .andNot .i64 (Go.bits .or .i64 (rd t200 x18_1) (rd y204 x27_2)) (rd t200 x47_4))) < (l0_1.length : Int)
                        ·rw [if_pos c48] at H;have c48b0 := decide_eq_true c48;clear c48;obtain ⟨bq49, hbq49⟩ : ∃ b_ : Bool, b_ = (yf false l0_1 (Go.bits .or .i64 (Go.bits .and .i64 (rd t200 x18_1) (rd y204 x27_2)) (Go.bits .andNot .i64 (Go.bits .or .i64 (rd t200 x18_1) (rd y204 x27_2)) (rd t200 x47_4)))) := ⟨_, rfl⟩;rw [← hbq49] at H;have Nbq49 := qa.mk hbq49;clear hbq49;by_cases c50 : (bq49 = true)
                         ·subst c50;rw [if_pos rfl] at H;have H' := qa.mk H;clear H;have hnb51 := NB198_199.out;have hnc51 := NB199_198.out;obtain ⟨hcz52_0, hcz52_1, hfz52_0, hfz52_1⟩ := zC2 BK198;obtain ⟨⟨ad213, e213, hx213_0⟩, p213, q213⟩ := zW (Kd.at_bool HR0_1.out (Go.bits .or .i64 (Go.bits .and .i64 (rd t200 x18_1) (rd y204 x27_2)) (Go.bits .andNot .i64 (Go.bits .or .i64 (rd t200 x18_1) (rd y204 x27_2)) (rd t200 x47_4))));(try rw [← Nbq49.out] at hx213_0)
                          cases e213;(try replace hx213_0 := zx HB.out hx213_0)
                          go_wp2;go_roundg kj33;case measure => have := HK1.out; have := HK2.out; have := HJ18.out; have := HK4.out; have := HJ33.out; omega
                          case rel => exact ⟨(wrap64 (x47_4 + 1)), zE, H', ⟨by have := HK1.out; have := HK2.out; have := HJ18.out; have := HK4.out; have := HJ33.out; omega⟩, ⟨zr HO_6.out⟩, ⟨zr HO_16.out⟩, ⟨zr HO_45.out⟩, ⟨zb BK198.out⟩, ⟨zb BK199.out⟩, ⟨by repeat (first | (with_reducible exact HR207.out) | (with_reducible refine Kd.C_alloc ?_ _) | (with_reducible refine Kd.C_drewN ?_ _) | (with_reducible refine Kd.C_drew ?_) | exact HR207.out)⟩, ⟨zh HB.out⟩⟩
                         ·replace c50 := Bool.eq_false_iff.mpr c50;subst c50;rw [if_neg zF] at H;by_cases c53 : 0 ≤ x47_4
                          ·rw [if_pos c53] at H;have c53b0 := eq_true c53;have c53b1 := decide_eq_true c53;clear c53;by_cases c54 : x47_4 ≤ (t200.length : Int)
                           ·rw [if_pos c54] at H;have c54b0 := eq_true c54;have c54b1 := decide_eq_true c54;clear c54;obtain ⟨y214, hy214⟩ : ∃ y_ : List Int, y_ = (t200.drop (x47_4 : Int).toNat) := ⟨_, rfl⟩;rw [← hy214] at H;have Ny214 := qa.mk hy214;clear hy214;replace H := zB0 H;obtain ⟨t218, A550, H⟩ := H;replace H : (if t218 = true then ((a1 (rd t200 x18_1) (rd y204 x27_2) (rd t200 x47_4) (Go.bits .or .i64 (Go.bits .and .i64 (rd t200 x18_1) (rd y204 x27_2)) (Go.bits .andNot .i64 (Go.bits .or .i64 (rd t200 x18_1) (rd y204 x27_2)) (rd t200 x47_4)))).bind fun t219 => (if t219 = true then ((Nc.f kj33 (([(rd t200 x18_1), (rd y204 x27_2)] : List Int)) (([(rd t200 x47_4), Go.bits .or .i64 (Go.bits .and .i64 (rd t200 x18_1) (rd y204 x27_2)) (Go.bits .andNot .i64 (Go.bits .or .i64 (rd t200 x18_1) (rd y204 x27_2)) (rd t200 x47_4))] : List Int))).bind fun bt226 => (some (bt226.1, bt226.2, true))) else (Ja.l2 a1 kj33 t200 (rd t200 x18_1) (rd y204 x27_2) t200 (t200.length : Int) x18_1 y204 (y204.length : Int) x27_2 t200 (t200.length : Int) (wrap64 (x47_4 + 1)) a0_0 l0_1))) else (Ja.l2 a1 kj33 t200 (rd t200 x18_1) (rd y204 x27_2) t200 (t200.length : Int) x18_1 y204 (y204.length : Int) x27_2 t200 (t200.length : Int) (wrap64 (x47_4 + 1)) a0_0 l0_1)) = some (r1, r2, r3) := H;have A55 := qa.mk A550;clear A550;by_cases c56 : t218 = true
                            ·subst c56;rw [if_pos rfl] at H;replace H := zB0 H;obtain ⟨t219, A570, H⟩ := H;replace H : (if t219 = true then ((Nc.f kj33 (([(rd t200 x18_1), (rd y204 x27_2)] : List Int)) (([(rd t200 x47_4), Go.bits .or .i64 (Go.bits .and .i64 (rd t200 x18_1) (rd y204 x27_2)) (Go.bits .andNot .i64 (Go.bits .or .i64 (rd t200 x18_1) (rd y204 x27_2)) (rd t200 x47_4))] : List Int))).bind fun bt226 => (some (bt226.1, bt226.2, true))) else (Ja.l2 a1 kj33 t200 (rd t200 x18_1) (rd y204 x27_2) t200 (t200.length : Int) x18_1 y204 (y204.length : Int) x27_2 t200 (t200.length : Int) (wrap64 (x47_4 + 1)) a0_0 l0_1)) = some (r1, r2, r3) := H;have A57 := qa.mk A570;clear A570;by_cases c58 : t219 = true
                             ·subst c58;rw [if_pos rfl] at H;obtain ⟨y220, hy220⟩ : ∃ y_ : List Int, y_ = (([(rd t200 x18_1), (rd y204 x27_2)] : List Int)) := ⟨_, rfl⟩;rw [← hy220] at H;have Ny220 := qa.mk hy220;clear hy220;obtain ⟨y223, hy223⟩ : ∃ y_ : List Int, y_ = (([(rd t200 x47_4), Go.bits .or .i64 (Go.bits .and .i64 (rd t200 x18_1) (rd y204 x27_2)) (Go.bits .andNot .i64 (Go.bits .or .i64 (rd t200 x18_1) (rd y204 x27_2)) (rd t200 x47_4))] : List Int)) := ⟨_, rfl⟩;rw [← hy223] at H;have Ny223 := qa.mk hy223;clear hy223;replace H := zB0 H;obtain ⟨⟨t226, t229⟩, A590, H⟩ := H;replace H : (some (t226, t229, true)) = some (r1, r2, r3) := H;have A59 := qa.mk A590;clear A590;simp only [Option.some.injEq, Prod.mk.injEq] at H;obtain ⟨rfl, rfl, rfl⟩ := H;have hnb60 := NB198_199.out;have hnc60 := NB199_198.out;obtain ⟨hcz61_0, hcz61_1, hfz61_0, hfz61_1⟩ := zC2 BK198;obtain ⟨⟨ad213, e213, hx213_0⟩, p213, q213⟩ := zW (Kd.at_bool HR0_1.out (Go.bits .or .i64 (Go.bits .and .i64 (rd t200 x18_1) (rd y204 x27_2)) (Go.bits .andNot .i64 (Go.bits .or .i64 (rd t200 x18_1) (rd y204 x27_2)) (rd t200 x47_4))));(try rw [← Nbq49.out] at hx213_0)
                              cases e213;(try replace hx213_0 := zx HB.out hx213_0)
                              have q62 : (x47_4 : Int) ≤ ((t200.length : Int) : Int) := zk;obtain ⟨i062, hi062, _, hsz62, _⟩ := info_parts info3;have hroom62 : t200.length ≤ co9 := (Kd.R_reads' HO_6.out).2.1;have hC62 : Kd.C (Kd.int .i64) _ (some ad203) t200.length t200 := (Kd.R_reads' HO_6.out).2.2;have q062 : (0 : Int) ≤ (x47_4 : Int) := zk;have hcut62 := Uk (P := Tryz.prog) 35 3 .i64 Tryz.underlying35 hi062 1 hsz62 (some ad203) t200.length co9 x47_4 q062 q62;have hr62 := Kd.C_drop (m := (x47_4 : Int).toNat) (c := co9) hC62 (by omega) hroom62;obtain ⟨A62, hA62⟩ : ∃ A1, A1 = (if co9 = (x47_4 : Int).toNat then (some ad203) else ((some ad203) : Option Addr).map (·.add ((x47_4 : Int).toNat * 1))) := ⟨_, rfl⟩;obtain ⟨c62, hc62⟩ : ∃ c1, c1 = co9 - (x47_4 : Int).toNat := ⟨_, rfl⟩;have hy62 : y214.length = t200.length - (x47_4 : Int).toNat := (by rw [Ny214.out, List.length_drop] <;> omega);rw [show (t200).drop (x47_4 : Int).toNat = y214 from Ny214.out.symm] at hr62;replace hr62 : Kd.C (Kd.int .i64) _ A62 y214.length y214 := (by rw [hA62]; exact hr62);rw [← hy62, ← hA62, ← hc62] at hcut62;have HR217 := qa.mk hr62;have HC217 := qa.mk (show y214.length ≤ c62 from by rw [hy62, hc62]; exact Nat.sub_le_sub_right hroom62 _);clear hr62 hC62 hroom62 hi062 hsz62 hc62;have KY62 := qa.mk hy62;have KA62 := qa.mk hA62;clear hy62 hA62;have KL62 := qa.mk (show (x47_4 : Int).toNat ≤ t200.length from by omega);replace q62 := eq_true q62;go_wp2_with (first | (go_at_call 127; (with_reducible refine (Ve.calls kj33 _ _ y214 (Go.bits .or .i64 (Go.bits .and .i64 (rd t200 x18_1) (rd y204 x27_2)) (Go.bits .andNot .i64 (Go.bits .or .i64 (rd t200 x18_1) (rd y204 x27_2)) (rd t200 x47_4))) true _ ?side1 ?side2 A55.out).mono ?_); (case side1 => repeat (first | exact (by repeat (first | (with_reducible exact HR217.out) | (with_reducible refine Kd.C_alloc ?_ _) | (with_reducible refine Kd.C_drewN ?_ _) | (with_reducible refine Kd.C_drew ?_) | exact HR217.out)) | (with_reducible refine Kd.C_alloc ?_ _) | (with_reducible refine Kd.C_drewN ?_ _) | (with_reducible refine Kd.C_drew ?_))); (case side2 => exact HC217.out); rintro e w' ⟨rfl, ⟨nd, rfl⟩⟩; (try (rw [Xl wc]; generalize hq_ : World.drewN wc _ = wc; have nz_ : qa (Kd.C (Kd.int .i64) wc (some ad208) y204.length y204) := ⟨by rw [← hq_]; exact Kd.C_drewN HR207.out _⟩; have n0_ : qa (Kd.R (Kd.int .i64) 3 wc w.heap.size (fun _ => True) (.slice (some ad203) t200.length co9) t200) := ⟨by rw [← hq_]; exact (zr HO_16.out)⟩; have n1_ : qa (Kd.R (Kd.int .i64) 3 wc w.heap.size (fun _ => True) (.slice (some ad203) t200.length co9) t200) := ⟨by rw [← hq_]; exact (zr HO_45.out)⟩; have n2_ : qa (Kd.R (Kd.int .i64) 3 wc w.heap.size (fun _ => True) (.slice (some ad203) t200.length co9) t200) := ⟨by rw [← hq_]; exact (zr HO_6.out)⟩; have n3_ : qa (wc.heap[gb198]? = some (.cells #[.int .i64 a0_0, .slice (some ad213) l0_1.length c0_1] 62 (0, 0))) := ⟨by rw [← hq_]; exact (zb BK198.out)⟩; have n4_ : qa (wc.heap[gb199]? = some (.cells #[.slice none 0 0, .slice none 0 0] 71 (0, 0))) := ⟨by rw [← hq_]; exact (zb BK199.out)⟩; have n5_ : qa (Below w.heap.size w wc) := ⟨by rw [← hq_]; exact (zh HB.out)⟩; have n6_ : qa (Kd.C (Kd.int .i64) wc A62 y214.length y214) := ⟨by rw [← hq_]; exact (by repeat (first | (with_reducible exact HR217.out) | (with_reducible refine Kd.C_alloc ?_ _) | (with_reducible refine Kd.C_drewN ?_ _) | (with_reducible refine Kd.C_drew ?_) | exact HR217.out))⟩; clear HO_16 HO_45 HO_6 BK198 BK199 HB HR217 HR207 hq_; have HR207 := nz_; clear nz_; have HO_16 := n0_; have HO_45 := n1_; have HO_6 := n2_; have BK198 := n3_; have BK199 := n4_; have HB := n5_; have HR217 := n6_; clear n0_ n1_ n2_ n3_ n4_ n5_ n6_))));rw [← Array.append_assoc];refine (hp_.out _ (rd t200 x18_1) (rd y204 x27_2) (rd t200 x47_4) (Go.bits .or .i64 (Go.bits .and .i64 (rd t200 x18_1) (rd y204 x27_2)) (Go.bits .andNot .i64 (Go.bits .or .i64 (rd t200 x18_1) (rd y204 x27_2)) (rd t200 x47_4))) true (zh HB.out) A57.out).mono ?_;rename_i K_ hK_
                              rintro e w63 ⟨rfl, hb⟩;(have n0_ := qa.mk (Kd.R_below (zr HO_6.out) hb); have n1_ := qa.mk (Kd.R_below (zr HO_16.out) hb); have n2_ := qa.mk (Kd.R_below (zr HO_45.out) hb); have n3_ := qa.mk (Na (g := gb198) (o := .cells #[.int .i64 a0_0, .slice (some ad213) l0_1.length c0_1] 62 (0, 0)) (zb BK198.out) hb); have n4_ := qa.mk (Na (g := gb199) (o := .cells #[.slice none 0 0, .slice none 0 0] 71 (0, 0)) (zb BK199.out) hb); have n5_ := qa.mk (Kd.C_below (by repeat (first | (with_reducible exact HR207.out) | (with_reducible refine Kd.C_alloc ?_ _) | (with_reducible refine Kd.C_drewN ?_ _) | (with_reducible refine Kd.C_drew ?_) | exact HR207.out)) hb); have n6_ := qa.mk (Kd.C_below (by repeat (first | (with_reducible exact HR217.out) | (with_reducible refine Kd.C_alloc ?_ _) | (with_reducible refine Kd.C_drewN ?_ _) | (with_reducible refine Kd.C_drew ?_) | exact HR217.out)) hb); have n7_ := qa.mk (Rc (zh HB.out) hb); clear HO_6; clear HO_16; clear HO_45; clear BK198; clear BK199; clear HR207; clear HR217; clear HB; have HO_6 := n0_; have HO_16 := n1_; have HO_45 := n2_; have BK198 := n3_; have BK199 := n4_; have HR207 := n5_; have HR217 := n6_; have HB := n7_; clear n0_ n1_ n2_ n3_ n4_ n5_ n6_ n7_; (try clear hb); (try clear hb2); (try clear hk); (try clear hi))
                              refine hK_ _ _ ?_;clear hK_ K_;go_wp2_with (first | ((with_reducible refine Ma (N := 108) rfl ?_); refine Kd.R_lit (Kd.int .i64) _ 3 ?hg (N := 108) ?hd (xs := ([(rd t200 x18_1), (rd y204 x27_2)] : List Int)) (inner := [.int .i64 (rd t200 x18_1), .int .i64 (rd y204 x27_2)]) (ok := fun _ => True) (okp := fun _ => True) ?hr ?hp (fun _ hk => hk) trivial (Below.refl _ _) (Nat.le_refl _) (by simp) ?_; (case hd => rfl); (case hg => rfl); (case hr => first | (go_simp; done) | (go_simp; rfl)); (case hp => exact (qg.one (show Kd.M (Kd.int .i64) _ _ _ (rd t200 x18_1) [.int .i64 (rd t200 x18_1)] from rfl) (qg.one (show Kd.M (Kd.int .i64) _ _ _ (rd y204 x27_2) [.int .i64 (rd y204 x27_2)] from rfl) (qg.none _ _)))); intro v221 w64 ho65 hb hg_ hnew_; clear hg_ hnew_; (first | rw [← Ny220.out] at ho65 | (simp only [Int.reduceToNat] at ho65; rw [← Ny220.out] at ho65)); have HO222 := qa.mk (Kd.R_lower (Kd.R_new' (Kd.R_new' (Kd.R_new' ho65 (Kd.R_lt (zr HO_6.out))) (Kd.R_lt (zr HO_16.out))) (Kd.R_lt (zr HO_45.out))) (Ua (zh HB.out))); replace HO_6 := qa.mk (Kd.R_elder' (zr HO_6.out) (Kd.R_base ho65) hb); replace HO_16 := qa.mk (Kd.R_elder' (zr HO_16.out) (Kd.R_base ho65) hb); replace HO_45 := qa.mk (Kd.R_elder' (zr HO_45.out) (Kd.R_base ho65) hb); replace BK198 := zK BK198 hb; replace BK199 := zK BK199 hb; replace HR207 := qa.mk (Kd.C_below (by repeat (first | (with_reducible exact HR207.out) | (with_reducible refine Kd.C_alloc ?_ _) | (with_reducible refine Kd.C_drewN ?_ _) | (with_reducible refine Kd.C_drew ?_) | exact HR207.out)) hb); replace HR217 := qa.mk (Kd.C_below (by repeat (first | (with_reducible exact HR217.out) | (with_reducible refine Kd.C_alloc ?_ _) | (with_reducible refine Kd.C_drewN ?_ _) | (with_reducible refine Kd.C_drew ?_) | exact HR217.out)) hb); replace HB := zH hb HB; clear hb ho65) | ((with_reducible refine Ma (N := 111) rfl ?_); refine Kd.R_lit (Kd.int .i64) _ 3 ?hg (N := 111) ?hd (xs := ([(rd t200 x47_4), Go.bits .or .i64 (Go.bits .and .i64 (rd t200 x18_1) (rd y204 x27_2)) (Go.bits .andNot .i64 (Go.bits .or .i64 (rd t200 x18_1) (rd y204 x27_2)) (rd t200 x47_4))] : List Int)) (inner := [.int .i64 (rd t200 x47_4), .int .i64 (Go.bits .or .i64 (Go.bits .and .i64 (rd t200 x18_1) (rd y204 x27_2)) (Go.bits .andNot .i64 (Go.bits .or .i64 (rd t200 x18_1) (rd y204 x27_2)) (rd t200 x47_4)))]) (ok := fun _ => True) (okp := fun _ => True) ?hr ?hp (fun _ hk => hk) trivial (Below.refl _ _) (Nat.le_refl _) (by simp) ?_; (case hd => rfl); (case hg => rfl); (case hr => first | (go_simp; done) | (go_simp; rfl)); (case hp => exact (qg.one (show Kd.M (Kd.int .i64) _ _ _ (rd t200 x47_4) [.int .i64 (rd t200 x47_4)] from rfl) (qg.one (show Kd.M (Kd.int .i64) _ _ _ (Go.bits .or .i64 (Go.bits .and .i64 (rd t200 x18_1) (rd y204 x27_2)) (Go.bits .andNot .i64 (Go.bits .or .i64 (rd t200 x18_1) (rd y204 x27_2)) (rd t200 x47_4))) [.int .i64 (Go.bits .or .i64 (Go.bits .and .i64 (rd t200 x18_1) (rd y204 x27_2)) (Go.bits .andNot .i64 (Go.bits .or .i64 (rd t200 x18_1) (rd y204 x27_2)) (rd t200 x47_4)))] from rfl) (qg.none _ _)))); intro v224 w66 ho67 hb hg_ hnew_; clear hg_ hnew_; (first | rw [← Ny223.out] at ho67 | (simp only [Int.reduceToNat] at ho67; rw [← Ny223.out] at ho67)); have HO225 := qa.mk (Kd.R_lower (Kd.R_new' (Kd.R_new' (Kd.R_new' (Kd.R_new' ho67 (Kd.R_lt (zr HO_6.out))) (Kd.R_lt (zr HO_16.out))) (Kd.R_lt (zr HO_45.out))) (Kd.R_lt (zr HO222.out))) (Ua (zh HB.out))); replace HO_6 := qa.mk (Kd.R_elder' (zr HO_6.out) (Kd.R_base ho67) hb); replace HO_16 := qa.mk (Kd.R_elder' (zr HO_16.out) (Kd.R_base ho67) hb); replace HO_45 := qa.mk (Kd.R_elder' (zr HO_45.out) (Kd.R_base ho67) hb); replace HO222 := qa.mk (Kd.R_elder' (zr HO222.out) (Kd.R_base ho67) hb); replace BK198 := zK BK198 hb; replace BK199 := zK BK199 hb; replace HR207 := qa.mk (Kd.C_below (by repeat (first | (with_reducible exact HR207.out) | (with_reducible refine Kd.C_alloc ?_ _) | (with_reducible refine Kd.C_drewN ?_ _) | (with_reducible refine Kd.C_drew ?_) | exact HR207.out)) hb); replace HR217 := qa.mk (Kd.C_below (by repeat (first | (with_reducible exact HR217.out) | (with_reducible refine Kd.C_alloc ?_ _) | (with_reducible refine Kd.C_drewN ?_ _) | (with_reducible refine Kd.C_drew ?_) | exact HR217.out)) hb); replace HB := zH hb HB; clear hb ho67; obtain ⟨Ao68, co68, eo68⟩ := Kd.R_slice HO222.out; subst eo68; obtain ⟨Ao69, co69, eo69⟩ := Kd.R_slice HO225.out; subst eo69) | ((with_reducible refine Va (f := 128) rfl ?_); refine zl 112 Tryz.func128 #[.slice Ao68 y220.length co68, .slice Ao69 y223.length co69] ?_; (with_reducible refine (Nc.calls kj33 _ _ y220 _ _ y223 t226 t229 _ ?side1 ?side2 ?side3 ?side4 A59.out).mono ?_); (case side1 => exact zQ ((Kd.R_reads' HO222.out).2.2)); (case side2 => exact (Kd.R_reads' HO222.out).2.1); (case side3 => exact zQ ((Kd.R_reads' HO225.out).2.2)); (case side4 => exact (Kd.R_reads' HO225.out).2.1); rintro e w70 ⟨v227, v230, rfl, ow_, ho0, ho1, hb⟩; refine ⟨_, rfl, ?_⟩; have HO228 := qa.mk (Kd.S_lower (Kd.S_new' (Kd.S_new' (Kd.S_new' (Kd.S_new' (Kd.S_new' ho0 (Kd.R_lt (zr HO_6.out))) (Kd.R_lt (zr HO_16.out))) (Kd.R_lt (zr HO_45.out))) (Kd.R_lt (zr HO222.out))) (Kd.R_lt (zr HO225.out))) (Ua (zh HB.out))); have HO231 := qa.mk (Kd.S_lower (Kd.S_new' (Kd.S_new' (Kd.S_new' (Kd.S_new' (Kd.S_new' ho1 (Kd.R_lt (zr HO_6.out))) (Kd.R_lt (zr HO_16.out))) (Kd.R_lt (zr HO_45.out))) (Kd.R_lt (zr HO222.out))) (Kd.R_lt (zr HO225.out))) (Ua (zh HB.out))); replace HO_6 := qa.mk (Kd.R_below (zr HO_6.out) hb); replace HO_16 := qa.mk (Kd.R_below (zr HO_16.out) hb); replace HO_45 := qa.mk (Kd.R_below (zr HO_45.out) hb); replace HO222 := qa.mk (Kd.R_below (zr HO222.out) hb); replace HO225 := qa.mk (Kd.R_below (zr HO225.out) hb); replace BK198 := zK BK198 hb; replace BK199 := zK BK199 hb; replace HR207 := qa.mk (Kd.C_below (by repeat (first | (with_reducible exact HR207.out) | (with_reducible refine Kd.C_alloc ?_ _) | (with_reducible refine Kd.C_drewN ?_ _) | (with_reducible refine Kd.C_drew ?_) | exact HR207.out)) hb); replace HR217 := qa.mk (Kd.C_below (by repeat (first | (with_reducible exact HR217.out) | (with_reducible refine Kd.C_alloc ?_ _) | (with_reducible refine Kd.C_drewN ?_ _) | (with_reducible refine Kd.C_drew ?_) | exact HR217.out)) hb); replace HB := zH hb HB; clear hb; (try clear ho0); (try clear ho1); obtain ⟨Ao71, co71, eo71⟩ := Kd.S_slice HO228.out; subst eo71; obtain ⟨hcz72_0, hcz72_1, hfz72_0, hfz72_1⟩ := zC2 BK199; obtain ⟨Ao73, co73, eo73⟩ := Kd.S_slice HO231.out; subst eo73));refine bodyPost_ret (Og rfl _ _ gb199 71 #[.slice Ao71 t226.length co71, .slice Ao73 t229.length co73] (0, 0) _ rfl (by (with_reducible repeat (first | refine Ca ?_ _ | refine Ra ?_ | refine Qa ?_ _)); refine Yb (cs := #[.slice Ao71 t226.length co71, .slice none 0 0]) ?_ 1 _ rfl; (with_reducible repeat (first | refine Ca ?_ _ | refine Ra ?_ | refine Qa ?_ _)); refine Yb (cs := #[.slice none 0 0, .slice none 0 0]) ?_ 0 _ rfl; exact zb BK199.out) Tryz.underlying71 rfl (by kernel_rfl)) rfl ?_;exact ⟨_, _, by first | rfl | (simp [*, Ce, De] <;> rfl), ow_, by (with_reducible repeat (first | apply Kd.S_alloc | apply Kd.S_drewN | apply Kd.S_drew)); exact Kd.S_mono (Kd.S_far (p := ⟨gb199, 1, none⟩) (Kd.S_far (p := ⟨gb199, 0, none⟩) (Kd.S_types HO228.out BK199.out (by decide)) (fun _ hk => hk.2) (.slice Ao71 t226.length co71)) (fun _ hk => hk.2) (.slice Ao73 t229.length co73)) (fun _ hk => hk.1.1.1.1.1.1), by (with_reducible repeat (first | apply Kd.S_alloc | apply Kd.S_drewN | apply Kd.S_drew)); exact Kd.S_mono (Kd.S_far (p := ⟨gb199, 1, none⟩) (Kd.S_far (p := ⟨gb199, 0, none⟩) (Kd.S_types HO231.out BK199.out (by decide)) (fun _ hk => hk.2) (.slice Ao71 t226.length co71)) (fun _ hk => hk.2) (.slice Ao73 t229.length co73)) (fun _ hk => hk.1.1.1.1.1.1), zh HB.out⟩
                             ·replace c58 := Bool.eq_false_iff.mpr c58;subst c58;rw [if_neg zF] at H;have H' := qa.mk H;clear H;have hnb74 := NB198_199.out;have hnc74 := NB199_198.out;obtain ⟨hcz75_0, hcz75_1, hfz75_0, hfz75_1⟩ := zC2 BK198;obtain ⟨⟨ad213, e213, hx213_0⟩, p213, q213⟩ := zW (Kd.at_bool HR0_1.out (Go.bits .or .i64 (Go.bits .and .i64 (rd t200 x18_1) (rd y204 x27_2)) (Go.bits .andNot .i64 (Go.bits .or .i64 (rd t200 x18_1) (rd y204 x27_2)) (rd t200 x47_4))));(try rw [← Nbq49.out] at hx213_0)
                              cases e213;(try replace hx213_0 := zx HB.out hx213_0)
                              have q76 : (x47_4 : Int) ≤ ((t200.length : Int) : Int) := zk;obtain ⟨i076, hi076, _, hsz76, _⟩ := info_parts info3;have hroom76 : t200.length ≤ co9 := (Kd.R_reads' HO_6.out).2.1;have hC76 : Kd.C (Kd.int .i64) _ (some ad203) t200.length t200 := (Kd.R_reads' HO_6.out).2.2;have q076 : (0 : Int) ≤ (x47_4 : Int) := zk;have hcut76 := Uk (P := Tryz.prog) 35 3 .i64 Tryz.underlying35 hi076 1 hsz76 (some ad203) t200.length co9 x47_4 q076 q76;have hr76 := Kd.C_drop (m := (x47_4 : Int).toNat) (c := co9) hC76 (by omega) hroom76;obtain ⟨A76, hA76⟩ : ∃ A1, A1 = (if co9 = (x47_4 : Int).toNat then (some ad203) else ((some ad203) : Option Addr).map (·.add ((x47_4 : Int).toNat * 1))) := ⟨_, rfl⟩;obtain ⟨c76, hc76⟩ : ∃ c1, c1 = co9 - (x47_4 : Int).toNat := ⟨_, rfl⟩;have hy76 : y214.length = t200.length - (x47_4 : Int).toNat := (by rw [Ny214.out, List.length_drop] <;> omega);rw [show (t200).drop (x47_4 : Int).toNat = y214 from Ny214.out.symm] at hr76;replace hr76 : Kd.C (Kd.int .i64) _ A76 y214.length y214 := (by rw [hA76]; exact hr76);rw [← hy76, ← hA76, ← hc76] at hcut76;have HR217 := qa.mk hr76;have HC217 := qa.mk (show y214.length ≤ c76 from by rw [hy76, hc76]; exact Nat.sub_le_sub_right hroom76 _);clear hr76 hC76 hroom76 hi076 hsz76 hc76;have KY76 := qa.mk hy76;have KA76 := qa.mk hA76;clear hy76 hA76;have KL76 := qa.mk (show (x47_4 : Int).toNat ≤ t200.length from by omega);replace q76 := eq_true q76;go_wp2_with (first | (go_at_call 127; (with_reducible refine (Ve.calls kj33 _ _ y214 (Go.bits .or .i64 (Go.bits .and .i64 (rd t200 x18_1) (rd y204 x27_2)) (Go.bits .andNot .i64 (Go.bits .or .i64 (rd t200 x18_1) (rd y204 x27_2)) (rd t200 x47_4))) true _ ?side1 ?side2 A55.out).mono ?_); (case side1 => repeat (first | exact (by repeat (first | (with_reducible exact HR217.out) | (with_reducible refine Kd.C_alloc ?_ _) | (with_reducible refine Kd.C_drewN ?_ _) | (with_reducible refine Kd.C_drew ?_) | exact HR217.out)) | (with_reducible refine Kd.C_alloc ?_ _) | (with_reducible refine Kd.C_drewN ?_ _) | (with_reducible refine Kd.C_drew ?_))); (case side2 => exact HC217.out); rintro e w' ⟨rfl, ⟨nd, rfl⟩⟩));rw [← Array.append_assoc];refine (hp_.out _ (rd t200 x18_1) (rd y204 x27_2) (rd t200 x47_4) (Go.bits .or .i64 (Go.bits .and .i64 (rd t200 x18_1) (rd y204 x27_2)) (Go.bits .andNot .i64 (Go.bits .or .i64 (rd t200 x18_1) (rd y204 x27_2)) (rd t200 x47_4))) false (zh HB.out) A57.out).mono ?_;rename_i K_ hK_
                              rintro e w77 ⟨rfl, hb⟩;(have n0_ := qa.mk (Kd.R_below (zr HO_6.out) hb); have n1_ := qa.mk (Kd.R_below (zr HO_16.out) hb); have n2_ := qa.mk (Kd.R_below (zr HO_45.out) hb); have n3_ := qa.mk (Na (g := gb198) (o := .cells #[.int .i64 a0_0, .slice (some ad213) l0_1.length c0_1] 62 (0, 0)) (zb BK198.out) hb); have n4_ := qa.mk (Na (g := gb199) (o := .cells #[.slice none 0 0, .slice none 0 0] 71 (0, 0)) (zb BK199.out) hb); have n5_ := qa.mk (Kd.C_below (Kd.C_drewN HR207.out _) hb); have n6_ := qa.mk (Kd.C_below (Kd.C_drewN HR217.out _) hb); have n7_ := qa.mk (Rc (zh HB.out) hb); clear HO_6; clear HO_16; clear HO_45; clear BK198; clear BK199; clear HR207; clear HR217; clear HB; have HO_6 := n0_; have HO_16 := n1_; have HO_45 := n2_; have BK198 := n3_; have BK199 := n4_; have HR207 := n5_; have HR217 := n6_; have HB := n7_; clear n0_ n1_ n2_ n3_ n4_ n5_ n6_ n7_; (try clear hb); (try clear hb2); (try clear hk); (try clear hi))
                              refine hK_ _ _ ?_;clear hK_ K_;go_wp2;go_roundg kj33;case measure => have := HK1.out; have := HK2.out; have := HJ18.out; have := HK4.out; have := HJ33.out; omega
                              case rel => exact ⟨(wrap64 (x47_4 + 1)), zE, H', ⟨by have := HK1.out; have := HK2.out; have := HJ18.out; have := HK4.out; have := HJ33.out; omega⟩, ⟨zr HO_6.out⟩, ⟨zr HO_16.out⟩, ⟨zr HO_45.out⟩, ⟨zb BK198.out⟩, ⟨zb BK199.out⟩, ⟨by repeat (first | (with_reducible exact HR207.out) | (with_reducible refine Kd.C_alloc ?_ _) | (with_reducible refine Kd.C_drewN ?_ _) | (with_reducible refine Kd.C_drew ?_) | exact HR207.out)⟩, ⟨zh HB.out⟩⟩
                            ·replace c56 := Bool.eq_false_iff.mpr c56;subst c56;rw [if_neg zF] at H;have H' := qa.mk H;clear H;have hnb78 := NB198_199.out;have hnc78 := NB199_198.out;obtain ⟨hcz79_0, hcz79_1, hfz79_0, hfz79_1⟩ := zC2 BK198;obtain ⟨⟨ad213, e213, hx213_0⟩, p213, q213⟩ := zW (Kd.at_bool HR0_1.out (Go.bits .or .i64 (Go.bits .and .i64 (rd t200 x18_1) (rd y204 x27_2)) (Go.bits .andNot .i64 (Go.bits .or .i64 (rd t200 x18_1) (rd y204 x27_2)) (rd t200 x47_4))));(try rw [← Nbq49.out] at hx213_0)
                             cases e213;(try replace hx213_0 := zx HB.out hx213_0)
                             have q80 : (x47_4 : Int) ≤ ((t200.length : Int) : Int) := zk;obtain ⟨i080, hi080, _, hsz80, _⟩ := info_parts info3;have hroom80 : t200.length ≤ co9 := (Kd.R_reads' HO_6.out).2.1;have hC80 : Kd.C (Kd.int .i64) _ (some ad203) t200.length t200 := (Kd.R_reads' HO_6.out).2.2;have q080 : (0 : Int) ≤ (x47_4 : Int) := zk;have hcut80 := Uk (P := Tryz.prog) 35 3 .i64 Tryz.underlying35 hi080 1 hsz80 (some ad203) t200.length co9 x47_4 q080 q80;have hr80 := Kd.C_drop (m := (x47_4 : Int).toNat) (c := co9) hC80 (by omega) hroom80;obtain ⟨A80, hA80⟩ : ∃ A1, A1 = (if co9 = (x47_4 : Int).toNat then (some ad203) else ((some ad203) : Option Addr).map (·.add ((x47_4 : Int).toNat * 1))) := ⟨_, rfl⟩;obtain ⟨c80, hc80⟩ : ∃ c1, c1 = co9 - (x47_4 : Int).toNat := ⟨_, rfl⟩;have hy80 : y214.length = t200.length - (x47_4 : Int).toNat := (by rw [Ny214.out, List.length_drop] <;> omega);rw [show (t200).drop (x47_4 : Int).toNat = y214 from Ny214.out.symm] at hr80;replace hr80 : Kd.C (Kd.int .i64) _ A80 y214.length y214 := (by rw [hA80]; exact hr80);rw [← hy80, ← hA80, ← hc80] at hcut80;have HR217 := qa.mk hr80;have HC217 := qa.mk (show y214.length ≤ c80 from by rw [hy80, hc80]; exact Nat.sub_le_sub_right hroom80 _);clear hr80 hC80 hroom80 hi080 hsz80 hc80;have KY80 := qa.mk hy80;have KA80 := qa.mk hA80;clear hy80 hA80;have KL80 := qa.mk (show (x47_4 : Int).toNat ≤ t200.length from by omega);replace q80 := eq_true q80;go_wp2_with (first | (go_at_call 127; (with_reducible refine (Ve.calls kj33 _ _ y214 (Go.bits .or .i64 (Go.bits .and .i64 (rd t200 x18_1) (rd y204 x27_2)) (Go.bits .andNot .i64 (Go.bits .or .i64 (rd t200 x18_1) (rd y204 x27_2)) (rd t200 x47_4))) false _ ?side1 ?side2 A55.out).mono ?_); (case side1 => repeat (first | exact (by repeat (first | (with_reducible exact HR217.out) | (with_reducible refine Kd.C_alloc ?_ _) | (with_reducible refine Kd.C_drewN ?_ _) | (with_reducible refine Kd.C_drew ?_) | exact HR217.out)) | (with_reducible refine Kd.C_alloc ?_ _) | (with_reducible refine Kd.C_drewN ?_ _) | (with_reducible refine Kd.C_drew ?_))); (case side2 => exact HC217.out); rintro e w' ⟨rfl, ⟨nd, rfl⟩⟩));go_roundg kj33;case measure => have := HK1.out; have := HK2.out; have := HJ18.out; have := HK4.out; have := HJ33.out; omega
                             case rel => exact ⟨(wrap64 (x47_4 + 1)), zE, H', ⟨by have := HK1.out; have := HK2.out; have := HJ18.out; have := HK4.out; have := HJ33.out; omega⟩, ⟨zr HO_6.out⟩, ⟨zr HO_16.out⟩, ⟨zr HO_45.out⟩, ⟨zb BK198.out⟩, ⟨zb BK199.out⟩, ⟨by repeat (first | (with_reducible exact HR207.out) | (with_reducible refine Kd.C_alloc ?_ _) | (with_reducible refine Kd.C_drewN ?_ _) | (with_reducible refine Kd.C_drew ?_) | exact HR207.out)⟩, ⟨zh HB.out⟩⟩
                           ·rw [if_neg c54] at H;cases H
                          ·rw [if_neg c53] at H;cases H
                        ·rw [if_neg c48] at H;cases H
                       ·rw [if_neg c47] at H;cases H
                   ·rw [if_neg c33] at H;cases H
                  ·rw [if_neg c32] at H;cases H
                 ·rw [if_neg c31] at H;have c31b0 := decide_eq_false c31;clear c31;have H' := qa.mk H;clear H;go_wp2;go_roundg k4;case measure => have := HK1.out; have := HK2.out; have := HJ18.out; have := HK4.out; omega
                  case rel => exact ⟨(wrap64 (x27_2 + 1)), zE, H', ⟨by have := HK1.out; have := HK2.out; have := HJ18.out; have := HK4.out; omega⟩, ⟨zr HO_6.out⟩, ⟨zr HO_16.out⟩, ⟨zb BK198.out⟩, ⟨zb BK199.out⟩, ⟨by repeat (first | (with_reducible exact HR207.out) | (with_reducible refine Kd.C_alloc ?_ _) | (with_reducible refine Kd.C_drewN ?_ _) | (with_reducible refine Kd.C_drew ?_) | exact HR207.out)⟩, ⟨zh HB.out⟩⟩
           ·rw [if_neg c18] at H;cases H
          ·rw [if_neg c17] at H;cases H
         ·rw [if_neg c16] at H;have c16b0 := decide_eq_false c16;clear c16;have H' := qa.mk H;clear H;go_wp2;go_roundg k2;case measure => have := HK1.out; have := HK2.out; omega
          case rel => exact ⟨(wrap64 (x18_1 + 1)), zE, H', zO2 HK1 HK2, ⟨zr HO_6.out⟩, ⟨zr HO_16.out⟩, ⟨zb BK198.out⟩, ⟨zb BK199.out⟩, ⟨zh HB.out⟩⟩
      ·rw [if_neg c14] at H;cases H
     ·rw [if_neg c12] at H;cases H
    ·rw [if_neg c11] at H;cases H
   ·rw [if_neg c10] at H;have c10b0 := decide_eq_false c10;clear c10;simp only [Option.some.injEq, Prod.mk.injEq] at H;obtain ⟨rfl, rfl, rfl⟩ := H;have hnb81 := NB199_198.out;have hnc81 := NB198_199.out;obtain ⟨hcz82_0, hcz82_1, hfz82_0, hfz82_1⟩ := zC2 BK199;go_wp2;refine bodyPost_ret (Og rfl _ _ gb199 71 #[.slice none 0 0, .slice none 0 0] (0, 0) _ rfl (by (with_reducible repeat (first | refine Ca ?_ _ | refine Ra ?_ | refine Qa ?_ _)); refine Yb (cs := #[.slice none 0 0, .slice none 0 0]) ?_ 1 _ rfl; (with_reducible repeat (first | refine Ca ?_ _ | refine Ra ?_ | refine Qa ?_ _)); refine Yb (cs := #[.slice none 0 0, .slice none 0 0]) ?_ 0 _ rfl; exact zb BK199.out) Tryz.underlying71 rfl (by kernel_rfl)) rfl ?_;exact ⟨_, _, by first | rfl | (simp [*, Ce, De] <;> rfl), fun _ => true, by first | exact Kd.S_nil _ _ _ _ _ | exact Kd.N_nil _ _ _ _ _ | exact Kd.V_nil _ _ _ _ _ | exact Kd.Q_nil _ _ _ _ _ | exact Kd.R_nil _ _ _ _ _, by first | exact Kd.S_nil _ _ _ _ _ | exact Kd.N_nil _ _ _ _ _ | exact Kd.V_nil _ _ _ _ _ | exact Kd.Q_nil _ _ _ _ _ | exact Kd.R_nil _ _ _ _ _, zh HB.out⟩
end
theorem Xv.pred (w : World) : OG Tryz.prog 73 #[] #[] w (fun _ _ _ _ => some true) := by
 intro W x y z u b hb hp;obtain rfl := Option.some.inj hp;show Calls Tryz.prog 73 #[.int .i64 x, .int .i64 y, .int .i64 z, .int .i64 u] W _;clear hp;go_enter Tryz.func73, Tryz.ntmps73;go_wp2;go_ret;exact ⟨rfl, Below.refl _ _⟩
def Si.f (k : Nat) (a0_0 : Int) (l0_1 : List Bool) : Option ((List (List Int)) × (List (List Int)) × Bool) := Ja.f k a0_0 l0_1 (fun _ _ _ _ => some true)
theorem Si.calls (k : Nat) (a0_0 : Int) (A0_1 : Option Addr) (c0_1 : Nat) (l0_1 : List Bool) (r1 : List (List Int)) (r2 : List (List Int)) (r3 : Bool) (w : World) (hr0_1 : Kd.C Kd.bool w A0_1 l0_1.length l0_1) (hc0_1 : l0_1.length ≤ c0_1) (h : Si.f k a0_0 l0_1 = some (r1, r2, r3)) :
 Calls Tryz.prog 72 #[.agg #[.int .i64 a0_0, .slice A0_1 l0_1.length c0_1], .func (.func 73) #[] #[]] w fun e w' => ∃ v0_ v1_ : Value, e = .returned (.tuple #[.agg #[v0_, v1_], .bool r3]) ∧ ∃ ow_ : Nat → Bool, Kd.S (Kd.slice 3 (Kd.int .i64)) 35 w' w.heap.size (fun k_ => ow_ k_ = true) v0_ r1 ∧ Kd.S (Kd.slice 3 (Kd.int .i64)) 35 w' w.heap.size (fun k_ => ow_ k_ = false) v1_ r2 ∧ Below w.heap.size w w' :=
 Ja.calls k a0_0 A0_1 c0_1 l0_1 _ 73 #[] #[] (enters_of Tryz.func73 (by kernel_rfl) rfl) r1 r2 r3 w (Xv.pred w) hr0_1 hc0_1 h
def Bb.f (k : Nat) (a0_0 : Int) (l0_1 : List Bool) : Option ((List (List Int)) × (List (List Int)) × Bool) := (Si.f k a0_0 l0_1).bind fun bt234 => (some (bt234.1, bt234.2.1, bt234.2.2))
theorem Bb.calls (k : Nat) (a0_0 : Int) (A0_1 : Option Addr) (c0_1 : Nat) (l0_1 : List Bool) (r1 : List (List Int)) (r2 : List (List Int)) (r3 : Bool) (w : World) (hr0_1 : Kd.C Kd.bool w A0_1 l0_1.length l0_1) (hc0_1 : l0_1.length ≤ c0_1) (h : Bb.f k a0_0 l0_1 = some (r1, r2, r3)) :
 Calls Tryz.prog 33 #[.agg #[.int .i64 a0_0, .slice A0_1 l0_1.length c0_1]] w fun e w' => ∃ v0_ v1_ : Value, e = .returned (.tuple #[.agg #[v0_, v1_], .bool r3]) ∧ ∃ ow_ : Nat → Bool, Kd.S (Kd.slice 3 (Kd.int .i64)) 35 w' w.heap.size (fun k_ => ow_ k_ = true) v0_ r1 ∧ Kd.S (Kd.slice 3 (Kd.int .i64)) 35 w' w.heap.size (fun k_ => ow_ k_ = false) v1_ r2 ∧ Below w.heap.size w w' := by
 have hu62 := Tryz.underlying62;have hu71 := Tryz.underlying71;have HR0_1 := qa.mk hr0_1;have HC0_1 := qa.mk hc0_1;clear hr0_1 hc0_1;have HB := qa.mk (Below.refl w.heap.size w);have H : ((Si.f k a0_0 l0_1).bind fun bt234 => (some (bt234.1, bt234.2.1, bt234.2.2))) = some (r1, r2, r3) := h;clear h;replace H := zB0 H;obtain ⟨⟨t234, t237, t240⟩, A20, H⟩ := H;replace H : (some (t234, t237, t240)) = some (r1, r2, r3) := H;have A2 := qa.mk A20;clear A20;simp only [Option.some.injEq, Prod.mk.injEq] at H;obtain ⟨rfl, rfl, rfl⟩ := H;go_enter Tryz.func33, Tryz.ntmps33;go_wp2_with (first | ((with_reducible refine Ma (N := 1) rfl ?_); refine zq 1 #[.int .i64 a0_0, .slice A0_1 l0_1.length c0_1] 62 ?_; intro gb232 hg w3 hbox hb; have GW232 := zG hg HB; replace HB := zH hb HB; have BK232 := qa.mk hbox; have GE232 := GW232; clear hb hbox hg) | ((with_reducible refine Ma (N := 2) rfl ?_); refine zq 2 #[.slice none 0 0, .slice none 0 0] 71 ?_; intro gb233 hg w4 hbox hb; have BK233 := qa.mk hbox; have GW233 := zG hg HB; have GE233 := zG hg HB; have NB232_233 := zNa hg BK232; have NB233_232 := zNb hg BK232; replace BK232 := zK BK232 hb; replace HB := zH hb HB; clear hb hbox hg; have hnb5 := NB232_233.out; have hnc5 := NB233_232.out; obtain ⟨hcz6_0, hcz6_1, hfz6_0, hfz6_1⟩ := zC2 BK232) | ((with_reducible refine Va (f := 72) rfl ?_); refine zl 5 Tryz.func72 #[.agg #[.int .i64 a0_0, .slice A0_1 l0_1.length c0_1], .func (.func 73) #[] #[]] ?_; (with_reducible refine (Si.calls k a0_0 _ _ l0_1 t234 t237 t240 _ ?side1 ?side2 A2.out).mono ?_); (case side1 => exact zQ (Kd.C_below HR0_1.out HB.out)); (case side2 => exact HC0_1.out); rintro e w7 ⟨v235, v238, rfl, ow_, ho0, ho1, hb⟩; refine ⟨_, rfl, ?_⟩; have HO236 := qa.mk (Kd.S_lower ho0 (Ua (zh HB.out))); have HO239 := qa.mk (Kd.S_lower ho1 (Ua (zh HB.out))); replace BK232 := zK BK232 hb; replace BK233 := zK BK233 hb; replace HB := zH hb HB; clear hb; (try clear ho0); (try clear ho1); obtain ⟨Ao8, co8, eo8⟩ := Kd.S_slice HO236.out; subst eo8; obtain ⟨hcz9_0, hcz9_1, hfz9_0, hfz9_1⟩ := zC2 BK233; obtain ⟨Ao10, co10, eo10⟩ := Kd.S_slice HO239.out; subst eo10));refine bodyPost_ret (Og rfl _ _ gb233 71 #[.slice Ao8 t234.length co8, .slice Ao10 t237.length co10] (0, 0) _ rfl (by (with_reducible repeat (first | refine Ca ?_ _ | refine Ra ?_ | refine Qa ?_ _)); refine Yb (cs := #[.slice Ao8 t234.length co8, .slice none 0 0]) ?_ 1 _ rfl; (with_reducible repeat (first | refine Ca ?_ _ | refine Ra ?_ | refine Qa ?_ _)); refine Yb (cs := #[.slice none 0 0, .slice none 0 0]) ?_ 0 _ rfl; exact zb BK233.out) Tryz.underlying71 rfl (by kernel_rfl)) rfl ?_;exact ⟨_, _, by first | rfl | (simp [*, Ce, De] <;> rfl), ow_, by (with_reducible repeat (first | apply Kd.S_alloc | apply Kd.S_drewN | apply Kd.S_drew)); exact Kd.S_mono (Kd.S_far (p := ⟨gb233, 1, none⟩) (Kd.S_far (p := ⟨gb233, 0, none⟩) (Kd.S_types HO236.out BK233.out (by decide)) (fun _ hk => hk.2) (.slice Ao8 t234.length co8)) (fun _ hk => hk.2) (.slice Ao10 t237.length co10)) (fun _ hk => hk.1), by (with_reducible repeat (first | apply Kd.S_alloc | apply Kd.S_drewN | apply Kd.S_drew)); exact Kd.S_mono (Kd.S_far (p := ⟨gb233, 1, none⟩) (Kd.S_far (p := ⟨gb233, 0, none⟩) (Kd.S_types HO239.out BK233.out (by decide)) (fun _ hk => hk.2) (.slice Ao8 t234.length co8)) (fun _ hk => hk.2) (.slice Ao10 t237.length co10)) (fun _ hk => hk.1), zh HB.out⟩
def Le.f (k : Nat) (a0_0 : Int) (l0_1 : List (List Int)) : Option (Bool × Bool) := (Bf.f k a0_0 l0_1).bind fun t523 => (if t523 = true then ((Gc.f k a0_0 l0_1).bind fun bt524 => ((Bb.f k bt524.1 bt524.2).bind fun bt528 => (some (!bt528.2.2, true)))) else (some (false, false)))
theorem Le.calls (k : Nat) (a0_0 : Int) (A0_1 : Option Addr) (c0_1 : Nat) (l0_1 : List (List Int)) (r1 : Bool) (r2 : Bool) (w : World) (hr0_1 : Kd.C (Kd.slice 3 (Kd.int .i64)) w A0_1 l0_1.length l0_1) (hc0_1 : l0_1.length ≤ c0_1) (h : Le.f k a0_0 l0_1 = some (r1, r2)) :
 Calls Tryz.prog 10 #[.agg #[.int .i64 a0_0, .slice A0_1 l0_1.length c0_1]] w fun e w' => e = .returned (.tuple #[.bool r1, .bool r2]) ∧ Below w.heap.size w w' := by
 have hu24 := Tryz.underlying24;have hu71 := Tryz.underlying71;have HR0_1 := qa.mk hr0_1;have HC0_1 := qa.mk hc0_1;clear hr0_1 hc0_1;have HB := qa.mk (Below.refl w.heap.size w);have H : ((Bf.f k a0_0 l0_1).bind fun t523 => (if t523 = true then ((Gc.f k a0_0 l0_1).bind fun bt524 => ((Bb.f k bt524.1 bt524.2).bind fun bt528 => (some (!bt528.2.2, true)))) else (some (false, false)))) = some (r1, r2) := h;clear h;replace H := zB0 H;obtain ⟨t523, A20, H⟩ := H;replace H : (if t523 = true then ((Gc.f k a0_0 l0_1).bind fun bt524 => ((Bb.f k bt524.1 bt524.2).bind fun bt528 => (some (!bt528.2.2, true)))) else (some (false, false))) = some (r1, r2) := H;have A2 := qa.mk A20;clear A20;by_cases c3 : t523 = true
 rotate_left
 ·replace c3 := Bool.eq_false_iff.mpr c3;subst c3;rw [if_neg zF] at H;simp only [Option.some.injEq, Prod.mk.injEq] at H;obtain ⟨rfl, rfl⟩ := H;go_enter Tryz.func10, Tryz.ntmps10;go_wp2_with (first | ((with_reducible refine Ma (N := 1) rfl ?_); refine zq 1 #[.int .i64 a0_0, .slice A0_1 l0_1.length c0_1] 24 ?_; intro gb522 hg w18 hbox hb; have GW522 := zG hg HB; replace HB := zH hb HB; have BK522 := qa.mk hbox; have GE522 := GW522; clear hb hbox hg; obtain ⟨hcz19_0, hcz19_1, hfz19_0, hfz19_1⟩ := zC2 BK522) | ((with_reducible refine Va (f := 32) rfl ?_); refine zl 7 Tryz.func32 #[.agg #[.int .i64 a0_0, .slice A0_1 l0_1.length c0_1]] ?_; (with_reducible refine (Bf.calls k a0_0 _ _ l0_1 false _ ?side1 ?side2 A2.out).mono ?_); (case side1 => exact zQ (Kd.C_below HR0_1.out HB.out)); (case side2 => exact HC0_1.out); rintro e w20 ⟨rfl, hb⟩; refine ⟨_, rfl, ?_⟩; replace BK522 := zK BK522 hb; replace HB := zH hb HB; clear hb));go_ret2
  exact ⟨zL0, zh HB.out⟩
 subst c3;rw [if_pos rfl] at H;replace H := zB0 H;obtain ⟨⟨t524, t525⟩, A40, H⟩ := H;replace H : ((Bb.f k t524 t525).bind fun bt528 => (some (!bt528.2.2, true))) = some (r1, r2) := H;have A4 := qa.mk A40;clear A40;replace H := zB0 H;obtain ⟨⟨t528, t531, t534⟩, A50, H⟩ := H;replace H : (some (!t534, true)) = some (r1, r2) := H;have A5 := qa.mk A50;clear A50;simp only [Option.some.injEq, Prod.mk.injEq] at H;obtain ⟨rfl, rfl⟩ := H;go_enter Tryz.func10, Tryz.ntmps10;go_wp2_with (first | ((with_reducible refine Ma (N := 1) rfl ?_); refine zq 1 #[.int .i64 a0_0, .slice A0_1 l0_1.length c0_1] 24 ?_; intro gb522 hg w6 hbox hb; have GW522 := zG hg HB; replace HB := zH hb HB; have BK522 := qa.mk hbox; have GE522 := GW522; clear hb hbox hg; obtain ⟨hcz7_0, hcz7_1, hfz7_0, hfz7_1⟩ := zC2 BK522) | ((with_reducible refine Va (f := 32) rfl ?_); refine zl 7 Tryz.func32 #[.agg #[.int .i64 a0_0, .slice A0_1 l0_1.length c0_1]] ?_; (with_reducible refine (Bf.calls k a0_0 _ _ l0_1 true _ ?side1 ?side2 A2.out).mono ?_); (case side1 => exact zQ (Kd.C_below HR0_1.out HB.out)); (case side2 => exact HC0_1.out); rintro e w8 ⟨rfl, hb⟩; refine ⟨_, rfl, ?_⟩; replace BK522 := zK BK522 hb; replace HB := zH hb HB; clear hb; obtain ⟨hcz9_0, hcz9_1, hfz9_0, hfz9_1⟩ := zC2 BK522) | ((with_reducible refine Va (f := 25) rfl ?_); refine zl 11 Tryz.func25 #[.agg #[.int .i64 a0_0, .slice A0_1 l0_1.length c0_1]] ?_; (with_reducible refine (Gc.calls k a0_0 _ _ l0_1 t524 t525 _ ?side1 ?side2 A4.out).mono ?_); (case side1 => exact zQ (Kd.C_below HR0_1.out HB.out)); (case side2 => exact HC0_1.out); rintro e w10 ⟨v526, rfl, ho0, hb⟩; refine ⟨_, rfl, ?_⟩; have HO527 := qa.mk (Kd.R_lower ho0 (Ua (zh HB.out))); replace BK522 := zK BK522 hb; replace HB := zH hb HB; clear hb; (try clear ho0); obtain ⟨Ao11, co11, eo11⟩ := Kd.R_slice HO527.out; subst eo11) | ((with_reducible refine Va (f := 33) rfl ?_); refine zl 12 Tryz.func33 #[.agg #[.int .i64 t524, .slice Ao11 t525.length co11]] ?_; (with_reducible refine (Bb.calls k t524 _ _ t525 t528 t531 t534 _ ?side1 ?side2 A5.out).mono ?_); (case side1 => exact zQ ((Kd.R_reads' HO527.out).2.2)); (case side2 => exact (Kd.R_reads' HO527.out).2.1); rintro e w12 ⟨v529, v532, rfl, ow_, ho0, ho1, hb⟩; refine ⟨_, rfl, ?_⟩; have HO530 := qa.mk (Kd.S_lower ho0 (Ua (zh HB.out))); have HO533 := qa.mk (Kd.S_lower ho1 (Ua (zh HB.out))); replace HO527 := qa.mk (Kd.R_below (zr HO527.out) hb); replace BK522 := zK BK522 hb; replace HB := zH hb HB; clear hb; (try clear ho0); (try clear ho1)) | ((with_reducible refine Ma (N := 4) rfl ?_); refine zq 4 #[.slice none 0 0, .slice none 0 0] 71 ?_; intro gb535 hg w13 hbox hb; have BK535 := qa.mk hbox; have GW535 := zG hg HB; have GE535 := zG hg HB; have NB522_535 := zNa hg BK522; have NB535_522 := zNb hg BK522; replace HO527 := qa.mk (Kd.R_below (zr HO527.out) hb); replace HO530 := qa.mk (Kd.S_below (by (with_reducible repeat (first | apply Kd.S_alloc | apply Kd.S_drewN | apply Kd.S_drew)); exact HO530.out) hb); replace HO533 := qa.mk (Kd.S_below (by (with_reducible repeat (first | apply Kd.S_alloc | apply Kd.S_drewN | apply Kd.S_drew)); exact HO533.out) hb); replace BK522 := zK BK522 hb; replace HB := zH hb HB; clear hb hbox hg; obtain ⟨Ao14, co14, eo14⟩ := Kd.S_slice HO530.out; subst eo14; have hnb15 := NB535_522.out; have hnc15 := NB522_535.out; obtain ⟨hcz16_0, hcz16_1, hfz16_0, hfz16_1⟩ := zC2 BK535; obtain ⟨Ao17, co17, eo17⟩ := Kd.S_slice HO533.out; subst eo17));go_ret2
 exact ⟨zL0, zh HB.out⟩
theorem Pq.pred (t : Int) (b1 : Nat) (w : World) (h1 : w.cell? ⟨b1, 0, none⟩ = some (.int .i64 t)) : Qt Tryz.prog 110 #[] #[.pointer (some ⟨b1, 0, none⟩)] w (fun mask => yg.f t mask) := by
 intro W x b hb hp;show Calls Tryz.prog 110 #[.int .i64 x, .pointer (some ⟨b1, 0, none⟩)] W _;have q1 := (hb.cell (World.block_lt_of_cell? w _ h1)).trans h1;have hE := qa.mk hp;clear h1 hb hp;go_enter Tryz.func110, Tryz.ntmps110;go_wp2_with (go_at_call 111; refine (yg.calls t x b _ hE.out).mono ?_; rintro e w' ⟨rfl, hq⟩; have HQ := qa.mk hq; clear hq);go_ret;exact ⟨rfl, HQ.out.below⟩
def Je.f (k : Nat) (a0 t : Int) : Option (Int × List Bool) := Ka.f k a0 (fun mask => yg.f t mask)
theorem Je.mono : ∀ a0 t k, LeO (Je.f k a0 t) (Je.f (k + 1) a0 t) := fun a0 t k => Ka.mono a0 _ k
theorem Je.calls (k : Nat) (a0 t : Int) (r1 : Int) (r2 : List Bool) (w : World) (gb : Nat) (hcell : w.cell? ⟨gb, 0, none⟩ = some (.int .i64 t)) (h : Je.f k a0 t = some (r1, r2)) :
 Calls Tryz.prog 79 #[.int .i64 a0, .func (.func 110) #[] #[.pointer (some ⟨gb, 0, none⟩)]] w fun e w' => ∃ v1_ : Value, e = .returned (.agg #[.int .i64 r1, v1_]) ∧ Kd.R Kd.bool 4 w' w.heap.size (fun _ => True) v1_ r2 ∧ Below w.heap.size w w' :=
 Ka.calls k a0 _ 110 #[] #[.pointer (some ⟨gb, 0, none⟩)] (enters_of Tryz.func110 (by kernel_rfl) rfl) r1 r2 w (Pq.pred t gb w hcell) h
def Yk : List (List Int) → List (List Int) → Bool
 | [], [] => false
 | [], _ :: _ => true
 | _ :: _, [] => false
 | x :: xs, y :: ys => if x = y then Yk xs ys else lexB x y
def Ny : List (List Int) → List (List Int) → Int
 | [], [] => 0
 | [], _ :: _ => -1
 | _ :: _, [] => 1
 | x :: xs, y :: ys => if x = y then Ny xs ys else cmpL x y
theorem Qq : ∀ a b, decide (Ny a b < 0) = Yk a b
 | [], [] => rfl
 | [], _ :: _ => rfl
 | _ :: _, [] => rfl
 | x :: xs, y :: ys => by
  unfold Ny Yk;by_cases h : x = y
  ·rw [if_pos h, if_pos h]; exact Qq xs ys
  ·rw [if_neg h, if_neg h]; exact Qn x y
theorem Uv : ∀ a b, cmpL a b = 0 ↔ a = b
 | [], [] => by simp [cmpL]
 | [], _ :: _ => by simp [cmpL]
 | _ :: _, [] => by simp [cmpL]
 | x :: xs, y :: ys => by
  unfold cmpL;by_cases h : x = y
  ·subst h; rw [if_pos rfl, Uv xs ys]; simp
  ·rw [if_neg h];by_cases h2 : x < y
   ·rw [if_pos h2]; simp [h]
   ·rw [if_neg h2]; simp [h]
theorem Il : ∀ a, Yk a a = false
 | [] => rfl
 | x :: xs => by rw [Yk, if_pos rfl]; exact Il xs
theorem Ul : ∀ a b c, Yk a b = true → Yk b c = true → Yk a c = true
 | [], [], _, h, _ => by cases h
 | [], _ :: _, [], _, h => by cases h
 | [], _ :: _, _ :: _, _, _ => rfl
 | _ :: _, [], _, h, _ => by cases h
 | _ :: _, _ :: _, [], _, h => by cases h
 | x :: xs, y :: ys, z :: zs, h1, h2 => by
  rw [Yk] at h1 h2 ⊢;by_cases e1 : x = y
  ·subst e1;rw [if_pos rfl] at h1;by_cases e2 : x = z
   ·subst e2;rw [if_pos rfl] at h2 ⊢;exact Ul xs ys zs h1 h2
   ·rw [if_neg e2] at h2 ⊢; exact h2
  ·rw [if_neg e1] at h1;by_cases e2 : y = z
   ·subst e2;rw [if_neg e1]; exact h1
   ·rw [if_neg e2] at h2;have h3 := Sj _ _ _ h1 h2;rw [if_neg (fun e => by subst e; rw [Li] at h3; cases h3)];exact h3
theorem Gl : ∀ a b, Yk a b = false → Yk b a = false → a = b
 | [], [], _, _ => rfl
 | [], _ :: _, h, _ => by cases h
 | _ :: _, [], _, h => by cases h
 | x :: xs, y :: ys, h1, h2 => by
  rw [Yk] at h1 h2;by_cases e : x = y
  ·subst e;rw [if_pos rfl] at h1 h2;rw [Gl xs ys h1 h2]
  ·rw [if_neg e] at h1;rw [if_neg (fun q => e q.symm)] at h2;exact absurd (Pj _ _ h1 h2) e
theorem Sr {a b : List (List Int)} (h : Yk a b = true) : Yk b a = false := by
 cases h2 : Yk b a
 ·rfl
 ·have := Ul _ _ _ h h2;rw [Il] at this; cases this
theorem Kl (a b c : List (List Int)) (h1 : Yk a b = false) (h2 : Yk b c = false) : Yk a c = false := by
 cases h3 : Yk a c
 ·rfl
 ·cases h4 : Yk b a
  ·have := Gl a b h1 h4;subst this;rw [h2] at h3; cases h3
  ·rw [Ul _ _ _ h4 h3] at h2; cases h2
theorem Kw {α : Type} (lt : α → α → Bool) (hnt : ∀ a b c, lt a b = false → lt b c = false → lt a c = false) (has : ∀ a b, lt a b = true → lt b a = false) (tot : ∀ a b, lt a b = false → lt b a = false → a = b) (p : α → Bool) (l : List α) :
 Ci lt (l.filter p) = (Ci lt l).filter p := by
 symm;exact Ko lt hnt has tot ((Hg lt l).filter p) ((Uo lt hnt has l).filter p)
theorem TC {a b : List (List Int)} {i : Nat} (h : i < a.length) : Ny (a.drop i) (b.drop i) = if h2 : i < b.length then (if a[i] = b[i] then Ny (a.drop (i + 1)) (b.drop (i + 1)) else cmpL a[i] b[i]) else 1 := by
 rw [List.drop_eq_getElem_cons h];by_cases h2 : i < b.length
 ·rw [dif_pos h2, List.drop_eq_getElem_cons h2, Ny]
 ·have hb : b.drop i = [] := List.drop_of_length_le (by omega);rw [dif_neg h2, hb]; rfl
theorem drewN_drewN (w : World) (a b : Nat) : (w.drewN a).drewN b = w.drewN (a + b) := by
 induction b with
 | zero => rfl
 | succ b ih => exact congrArg World.drew ih
theorem Ow.calls (A B : Option Addr) (c d : Nat) (a b : List (List Int)) (w : World) (hA : Kd.C (Kd.slice 3 (Kd.int .i64)) w A a.length a) (hc : a.length ≤ c) (hB : Kd.C (Kd.slice 3 (Kd.int .i64)) w B b.length b) (hd : b.length ≤ d) (hx : ∀ x ∈ a, x.length ≤ 1152921504606846976) :
 Calls Tryz.prog 156 #[.slice A a.length c, .slice B b.length d, .func (.func 104) #[] #[]] w fun e w' => e = .returned (.int .i64 (Ny a b)) ∧ ∃ q, w' = w.drewN q := by
 have hlm := Kd.C_max hA;have eg : ∀ args w, (callFunc 104 args).run Tryz.prog w = .ok (.enter 104 args) w := enters_of Tryz.func104 (by kernel_rfl) rfl;have HA := qa.mk hA;have HB := qa.mk hB;have HX := qa.mk hx;clear hA hB hx;generalize hr : Ny a b = r;have HR := qa.mk hr;clear hr;go_enter Tryz.func156, Tryz.ntmps156;go_wp2;go_loopg [13] a.length (fun gg v13 wr => ∃ kk : Nat, kk ≤ a.length ∧ a.length - kk ≤ gg ∧ v13 = .int .i64 kk ∧ qa (∃ q, wr = w.drewN q) ∧ qa (Ny (a.drop kk) (b.drop kk) = r));case atStart => exact ⟨0, Nat.zero_le _, Nat.le_refl _, rfl, ⟨⟨0, rfl⟩⟩, HR⟩
 case round =>
  clear HR;obtain ⟨kk, hkk, hg, rfl, HQ, HR⟩ := hrel;have hAr : Kd.C (Kd.slice 3 (Kd.int .i64)) wr A a.length a := by obtain ⟨q, hq⟩ := HQ.out; rw [hq]; exact Kd.C_drewN HA.out q
  have hBr : Kd.C (Kd.slice 3 (Kd.int .i64)) wr B b.length b := by obtain ⟨q, hq⟩ := HQ.out; rw [hq]; exact Kd.C_drewN HB.out q
  have HAr := qa.mk hAr;have HBr := qa.mk hBr;clear hAr hBr;by_cases hlt : kk < a.length
  ·have hltz : (kk : Int) < (a.length : Int) := Int.ofNat_lt.2 hlt;have hR := HR.out;rw [TC hlt] at hR;have hxa := HX.out _ (List.getElem_mem hlt);obtain ⟨ad, A1, c1, e, x0, hl1, hC1⟩ := qi HAr.out (kk : Int) (Int.natCast_nonneg _) hltz;subst e;have ea : Bd a (kk : Int) = a[kk] := by unfold Bd; rw [Int.toNat_natCast, List.getD_eq_getElem?_getD, List.getElem?_eq_getElem hlt]; rfl
   rw [ea] at x0 hl1 hC1;rw [Int.toNat_natCast] at x0;generalize a[kk] = x at hR hxa x0 hl1 hC1;clear ea;by_cases h2 : kk < b.length
   ·have h2z : (kk : Int) < (b.length : Int) := Int.ofNat_lt.2 h2;have h2b : decide ((kk : Int) ≥ (b.length : Int)) = false := decide_eq_false (Int.not_le.2 h2z);rw [dif_pos h2] at hR;obtain ⟨bd, B1, d1, e, y0, hl2, hC2⟩ := qi HBr.out (kk : Int) (Int.natCast_nonneg _) h2z;subst e;have eb : Bd b (kk : Int) = b[kk] := by unfold Bd; rw [Int.toNat_natCast, List.getD_eq_getElem?_getD, List.getElem?_eq_getElem h2]; rfl
    rw [eb] at y0 hl2 hC2;rw [Int.toNat_natCast] at y0;generalize b[kk] = y at hR y0 hl2 hC2;clear eb;obtain ⟨K, hK⟩ := Rn x y hxa;have hk : Xb.f K x y = some (cmpL x y) := hK K (Nat.le_refl _);have HCL := qa.mk (Xb.calls K A1 c1 x B1 d1 y (cmpL x y) wr hC1 hl1 hC2 hl2 hk);have HR2 := qa.mk hR;have hcz := Uv x y;clear hk hC1 hC2 hK hxa HR hR;generalize cmpL x y = cv at HCL HR2 hcz;by_cases hxy : x = y
    ·have c0 := hcz.2 hxy;subst c0;have hR := HR2.out;rw [if_pos hxy] at hR;have HR3 := qa.mk hR;clear hR HR2 hxy hcz;go_wp2_with (go_at_fn 104; refine HCL.out.mono ?_; rintro e w' ⟨rfl, ⟨m, rfl⟩⟩);go_roundg (a.length - (kk + 1));case measure => omega
     case rel => exact ⟨kk + 1, by omega, by omega, by congr 1; (try (unfold wrap64; omega)), ⟨by obtain ⟨q, hq⟩ := HQ.out; exact ⟨_, by rw [hq]; exact drewN_drewN _ _ _⟩⟩, HR3⟩
    ·have c0 : ¬ cv = 0 := fun e => hxy (hcz.1 e);have c0b : (cv == 0) = false := by rw [beq_eq_false_iff_ne]; exact c0
     have c0d : decide (cv = 0) = false := decide_eq_false c0;have hR := HR2.out;rw [if_neg hxy] at hR;subst hR;clear HR2 hxy hcz;go_wp2_with (go_at_fn 104; refine HCL.out.mono ?_; rintro e w' ⟨rfl, ⟨m, rfl⟩⟩);go_ret;exact ⟨rfl, by obtain ⟨q, hq⟩ := HQ.out; exact ⟨_, by rw [hq]; exact drewN_drewN _ _ _⟩⟩
   ·have h2b : decide ((kk : Int) ≥ (b.length : Int)) = true := decide_eq_true (by omega);have h2z : ¬ (kk : Int) < (b.length : Int) := by omega
    rw [dif_neg h2] at hR;have HR2 := qa.mk hR;clear hR HR hC1;go_wp2;go_ret;exact ⟨by rw [← HR2.out]; rfl, HQ.out⟩
  ·have hkl : kk = a.length := by omega
   have hltz : ¬ (kk : Int) < (a.length : Int) := by omega
   subst hkl;have hR := HR.out;rw [List.drop_length] at hR;by_cases h2 : a.length < b.length
   ·have h2b : decide ((a.length : Int) < (b.length : Int)) = true := decide_eq_true (by omega);have hR2 : r = -1 := by rw [← hR, List.drop_eq_getElem_cons h2]; rfl
    have HR2 := qa.mk hR2;clear hR hR2 HR;go_wp2;go_ret;exact ⟨by rw [HR2.out]; rfl, HQ.out⟩
   ·have h2b : decide ((a.length : Int) < (b.length : Int)) = false := decide_eq_false (by omega);have hR2 : r = 0 := by rw [← hR, List.drop_of_length_le (by omega)]; rfl
    have HR2 := qa.mk hR2;clear hR hR2 HR;go_wp2;go_ret;exact ⟨by rw [HR2.out]; rfl, HQ.out⟩
theorem Gv.lays (m n : Int) (A B : Option Addr) (c d : Nat) (a b : List (List Int)) (w : World) (hA : Kd.C (Kd.slice 3 (Kd.int .i64)) w A a.length a) (hc : a.length ≤ c) (hB : Kd.C (Kd.slice 3 (Kd.int .i64)) w B b.length b) (hd : b.length ≤ d) (hx : ∀ x ∈ a, x.length ≤ 1152921504606846976) :
 Calls Tryz.prog 114 #[.agg #[.int .i64 m, .slice A a.length c], .agg #[.int .i64 n, .slice B b.length d]] w fun e w' => e = .returned (.int .i64 (Ny a b)) ∧ ∃ q os, w' = Go.Sort.grow (w.drewN q) os := by
 have hcall := fun W (hb : Below w.heap.size w W) => Ow.calls A B c d a b W (Kd.C_below hA hb) hc (Kd.C_below hB hb) hd hx;have HCL := qa.mk hcall;have u1 := Tryz.underlying24;clear hA hB hx hcall;go_enter Tryz.func114, Tryz.ntmps114;have hh := HCL.out ((w.alloc (.cells #[.int .i64 m, .slice A a.length c] 24)).alloc (.cells #[.int .i64 n, .slice B b.length d] 24)) (((Below.refl _ w).alloc (Nat.le_refl _) _).alloc (by simp) _);have HH := qa.mk hh;clear hh HCL;go_wp2_with (go_at_call 156; refine HH.out.mono ?_; rintro e w' ⟨rfl, ⟨q, rfl⟩⟩);go_ret;refine ⟨rfl, q, #[.cells #[.int .i64 m, .slice A a.length c] 24 (0, 0), .cells #[.int .i64 n, .slice B b.length d] 24 (0, 0)], ?_⟩;rw [Go.Sort.alloc_eq_grow, Go.Sort.alloc_eq_grow, Go.Sort.grow_grow];rfl
section
def BC : Go.Shelf.Ren := ⟨fun | 6 => 113 | 15 => 155 | 14 => 154 | 28 => 178 | 29 => 179 | 20 => 170 | 21 => 171 | 22 => 172 | 23 => 173 | 24 => 174 | 25 => 175 | 26 => 176 | 27 => 177 | 46 => 185 | 47 => 186 | 48 => 187 | 49 => 188 | 50 => 189 | 57 => 198 | n => n, fun | 22 => 47 | 24 => 24 | 25 => 134 | 3 => 3 | 39 => 158 | 0 => 0 | 53 => 175 | 55 => 177 | 4 => 4 | 46 => 169 | 45 => 168 | 50 => 28 | 5 => 5 | 9 => 9 | 66 => 181 | 70 => 185 | 76 => 192 | 77 => 96 | n => n, fun | n => n⟩
theorem JL : Go.Proofs.SlLaysF0.n6 Tryz.prog BC := {
 mixed := by kernel_rfl
 f6 := ⟨Tryz.f113.name, by decide, Tryz.func113.trans (congrArg some (by kernel_rfl))⟩
 f14 := ⟨Tryz.f154.name, by decide, Tryz.func154.trans (congrArg some (by kernel_rfl))⟩
 f15 := Tryz.func155.trans (congrArg some (by kernel_rfl))
 f20 := ⟨Tryz.f170.name, by decide, Tryz.func170.trans (congrArg some (by kernel_rfl))⟩
 f21 := ⟨Tryz.f171.name, by decide, Tryz.func171.trans (congrArg some (by kernel_rfl))⟩
 f22 := ⟨Tryz.f172.name, by decide, Tryz.func172.trans (congrArg some (by kernel_rfl))⟩
 f23 := ⟨Tryz.f173.name, by decide, Tryz.func173.trans (congrArg some (by kernel_rfl))⟩
 f24 := ⟨Tryz.f174.name, by decide, Tryz.func174.trans (congrArg some (by kernel_rfl))⟩
 f25 := ⟨Tryz.f175.name, by decide, Tryz.func175.trans (congrArg some (by kernel_rfl))⟩
 f26 := ⟨Tryz.f176.name, by decide, Tryz.func176.trans (congrArg some (by kernel_rfl))⟩
 f27 := ⟨Tryz.f177.name, by decide, Tryz.func177.trans (congrArg some (by kernel_rfl))⟩
 f28 := Tryz.func178.trans (congrArg some (by kernel_rfl))
 f29 := Tryz.func179.trans (congrArg some (by kernel_rfl))
 f46 := ⟨Tryz.f185.name, by decide, Tryz.func185.trans (congrArg some (by kernel_rfl))⟩
 f47 := Tryz.func186.trans (congrArg some (by kernel_rfl))
 f48 := Tryz.func187.trans (congrArg some (by kernel_rfl))
 f49 := ⟨Tryz.f188.name, by decide, Tryz.func188.trans (congrArg some (by kernel_rfl))⟩
 f50 := ⟨Tryz.f189.name, by decide, Tryz.func189.trans (congrArg some (by kernel_rfl))⟩
 f57 := ⟨Tryz.f198.name, by decide, Tryz.func198.trans (congrArg some (by kernel_rfl))⟩
 t0 := Tryz.underlying0
 a0 := Tryz.isAgg0
 z0 := Tryz.sizeOf0
 v0 := Tryz.zeroValue0
 t3 := Tryz.underlying3
 a3 := Tryz.isAgg3
 z3 := Tryz.sizeOf3
 v3 := Tryz.zeroValue3
 t4 := Tryz.underlying4
 a4 := Tryz.isAgg4
 z4 := Tryz.sizeOf4
 v4 := Tryz.zeroValue4
 t5 := Tryz.underlying5
 a5 := Tryz.isAgg5
 z5 := Tryz.sizeOf5
 v5 := Tryz.zeroValue5
 t9 := Tryz.underlying9
 a9 := Tryz.isAgg9
 z9 := Tryz.sizeOf9
 v9 := Tryz.zeroValue9
 t22 := Tryz.underlying47
 a22 := Tryz.isAgg47
 z22 := Tryz.sizeOf47
 v22 := Tryz.zeroValue47
 t25 := Tryz.underlying134
 a25 := Tryz.isAgg134
 z25 := Tryz.sizeOf134
 v25 := Tryz.zeroValue134
 t39 := Tryz.underlying158
 a39 := Tryz.isAgg158
 z39 := Tryz.sizeOf158
 v39 := Tryz.zeroValue158
 t45 := Tryz.underlying168
 a45 := Tryz.isAgg168
 z45 := Tryz.sizeOf168
 v45 := Tryz.zeroValue168
 t46 := Tryz.underlying169
 a46 := Tryz.isAgg169
 z46 := Tryz.sizeOf169
 v46 := Tryz.zeroValue169
 t50 := Tryz.underlying28
 a50 := Tryz.isAgg28
 z50 := Tryz.sizeOf28
 v50 := Tryz.zeroValue28
 t53 := Tryz.underlying175
 a53 := Tryz.isAgg175
 z53 := Tryz.sizeOf175
 v53 := Tryz.zeroValue175
 t55 := Tryz.underlying177
 a55 := Tryz.isAgg177
 z55 := Tryz.sizeOf177
 v55 := Tryz.zeroValue177
 t66 := Tryz.underlying181
 a66 := Tryz.isAgg181
 z66 := Tryz.sizeOf181
 v66 := Tryz.zeroValue181
 t70 := Tryz.underlying185
 a70 := Tryz.isAgg185
 z70 := Tryz.sizeOf185
 v70 := Tryz.zeroValue185
 t76 := Tryz.underlying192
 a76 := Tryz.isAgg192
 z76 := Tryz.sizeOf192
 v76 := Tryz.zeroValue192
 t77 := Tryz.underlying96
 a77 := Tryz.isAgg96
 z77 := Tryz.sizeOf96
 v77 := Tryz.zeroValue96 }
open Go.Shelf Go.Lib Go.Sort
structure QG (W : World) (okq : Nat → Prop) (base : Nat) where
 v : Value
 x : S24
 hM : Kd.R (Kd.slice 3 (Kd.int .i64)) 35 W base okq v x.f1
 hl : ∀ s ∈ x.f1, s.length ≤ 1152921504606846976
def QG.enc {W okq base} (q : QG W okq base) : List Value := [.int .i64 q.x.f0, q.v]
instance {W okq base} : Inhabited (QG W okq base) := ⟨⟨.slice none 0 0, ⟨0, []⟩, Kd.R_nil _ _ _ _ _, by simp⟩⟩
def Vl.f (l : List S24) : Option (List S24) := if (decide (l.length < 1000000) && l.all (fun x => decide (x.f0 = (l.headD z24).f0) && x.f1.all fun s => decide (s.length ≤ 1152921504606846976))) = true then some ((Ci Yk (l.map fun x => x.f1)).map fun s => ⟨(l.headD z24).f0, s⟩) else none
theorem DC (W : World) (okq : Nat → Prop) (base g n : Nat) (hg : ∀ k, okq k → k ≠ g) :
 CmpLays Tryz.prog 114 #[] (fun q : QG W okq base => q.enc) 2 (fun x y => Ny x.x.f1 y.x.f1) g 0 n W := by
 intro m os dk hs x y;have hgr := grownBy_sorted (fun v : Value => v) (w := W) (g := g) (n := m) (os := os) (flatK (fun q : QG W okq base => q.enc) 2 dk);have hx := Kd.R_grown x.hM hgr (fun k hk e => hg k hk (by injection e));have hy := Kd.R_grown y.hM hgr (fun k hk e => hg k hk (by injection e));change Kd.R _ _ (sortWorldK (fun q : QG W okq base => q.enc) 2 W g 0 m dk os) _ _ _ _ at hx;change Kd.R _ _ (sortWorldK (fun q : QG W okq base => q.enc) 2 W g 0 m dk os) _ _ _ _ at hy;generalize sortWorldK (fun q : QG W okq base => q.enc) 2 W g 0 m dk os = wS at hx hy;obtain ⟨A, c, hxv, hxl, hxC⟩ := Kd.R_reads hx;obtain ⟨B, d, hyv, hyl, hyC⟩ := Kd.R_reads hy;have := Gv.lays x.x.f0 y.x.f0 A B c d x.x.f1 y.x.f1 wS hxC hxl hyC hyl x.hl;show Calls Tryz.prog 114 #[.agg #[.int .i64 x.x.f0, x.v], .agg #[.int .i64 y.x.f0, y.v]] wS _;rw [hxv, hyv];exact this
theorem NF {W okq base} : SWO (ltOf (fun x y : QG W okq base => Ny x.x.f1 y.x.f1)) where
 irrefl x := by unfold ltOf; rw [Qq]; exact Il _
 trans x y z h1 h2 := by unfold ltOf at *; rw [Qq] at *; exact Ul _ _ _ h1 h2
 ntrans x y z h1 h2 := by unfold ltOf at *; rw [Qq] at *; exact Kl _ _ _ h1 h2
theorem Ez {W okq base} {ss : List (QG W okq base)} {inner : List Value} (hl : inner.length = ss.length * 2) (h : ∀ j (hj : j < ss.length), (inner.drop (j * 2)).take 2 = ss[j].enc) : inner = (flatK (fun q : QG W okq base => q.enc) 2 ss.toArray).toList := by
 have hfs : (flatK (fun q : QG W okq base => q.enc) 2 ss.toArray).size = ss.length * 2 := by rw [size_flatK, List.size_toArray]
 refine List.ext_getElem (hl.trans (hfs.symm.trans Array.length_toList.symm)) fun t h1 h2 => ?_;have ht : t < ss.length * 2 := by omega
 have hj : t / 2 < ss.length := by omega
 have hm : t % 2 < 2 := Nat.mod_lt _ (by decide);have e : ((inner.drop (t / 2 * 2)).take 2)[t % 2]? = (ss[t / 2].enc)[t % 2]? := congrArg (fun z => z[t % 2]?) (h (t / 2) hj);rw [List.getElem?_take_of_lt hm, List.getElem?_drop, show t / 2 * 2 + t % 2 = t by omega, List.getElem?_eq_getElem h1] at e;have g := get_flatK (fun q : QG W okq base => q.enc) 2 ss.toArray t (by rw [List.size_toArray]; exact ht);rw [getElem!_pos _ t (by rw [size_flatK, List.size_toArray]; exact ht)] at g;refine Eq.trans ?_ (Eq.trans g.symm (Array.getElem_toList ..).symm);have e2 : ss.toArray[t / 2]! = ss[t / 2] := by rw [getElem!_pos _ _ (by rw [List.size_toArray]; exact hj), List.getElem_toArray]
 rw [e2];have hel : (ss[t / 2]).enc.length = 2 := rfl;rw [List.getElem?_eq_getElem (by rw [hel]; exact hm)] at e;rw [getElem!_pos (ss[t / 2].enc) (t % 2) (by rw [hel]; exact hm)];exact Option.some.inj e
theorem MF {W okq base} (ss : List (QG W okq base)) (j : Nat) (hj : j < ss.length) : (((flatK (fun q : QG W okq base => q.enc) 2 ss.toArray).toList).drop (j * 2)).take 2 = ss[j].enc := by
 have hel : (ss[j]).enc.length = 2 := rfl;refine List.ext_getElem (by rw [List.length_take, List.length_drop, Array.length_toList, size_flatK, List.size_toArray, hel]; omega) fun t h1 h2 => ?_;have ht : t < 2 := by rw [hel] at h2; exact h2
 rw [List.getElem_take, List.getElem_drop, Array.getElem_toList];have g := get_flatK (fun q : QG W okq base => q.enc) 2 ss.toArray (j * 2 + t) (by rw [List.size_toArray]; omega);rw [getElem!_pos _ _ (by rw [size_flatK, List.size_toArray]; omega)] at g;rw [g, show (j * 2 + t) / 2 = j by omega, show (j * 2 + t) % 2 = t by omega];have e2 : ss.toArray[j]! = ss[j] := by rw [getElem!_pos _ _ (by rw [List.size_toArray]; exact hj), List.getElem_toArray]
 rw [e2, getElem!_pos (ss[j].enc) t h2]
theorem VL (w : World) : (isAgg 24).run Tryz.prog w = .ok true w := by kernel_rfl
theorem BI (w : World) : (Go.sizeOf 24).run Tryz.prog w = .ok 2 w := by kernel_rfl
theorem Vl.calls (l t : List S24) (A : Option Addr) (c base : Nat) (ok : Nat → Prop) (w : World) (hR : Kd.R k24 24 w base ok (.slice A l.length c) l) (h : Vl.f l = some t) :
 Calls Tryz.prog 113 #[.slice A l.length c, .func (.func 114) #[] #[]] w fun e w' =>
  e = .returned (.tuple #[]) ∧ Kd.R k24 24 w' base ok (.slice A l.length c) t ∧ t.length = l.length ∧ w.grownBy w' (Value.slice A l.length c).ownBlock := by
 unfold Vl.f at h;split at h
 case isFalse => cases h
 rename_i hall
 rw [Bool.and_eq_true, decide_eq_true_eq] at hall;obtain ⟨hsz, hall⟩ := hall;obtain rfl := Option.some.inj h;generalize (l.headD z24).f0 = m at hall;have hall0 : ∀ x ∈ l, x.f0 = m ∧ ∀ s ∈ x.f1, s.length ≤ 1152921504606846976 := fun x hx => by
  have := List.all_eq_true.1 hall x hx;rw [Bool.and_eq_true, decide_eq_true_eq] at this;exact ⟨this.1, fun s hs => of_decide_eq_true (List.all_eq_true.1 this.2 s hs)⟩
 have htl0 : ((Ci Yk (l.map fun x => x.f1)).map fun s => (⟨m, s⟩ : S24)).length = l.length := by rw [List.length_map, (Hg Yk _).length_eq, List.length_map]
 by_cases h0 : l.length = 0
 ·have hl0 := List.length_eq_zero_iff.1 h0;subst hl0;have hcon := AnyF.slices_SortFunc_none { JL with } A c (.func (.func 114) #[] #[]) w;change Calls Tryz.prog 113 _ _ _ at hcon;refine hcon.mono ?_;rintro e w' ⟨rfl, rfl⟩;exact ⟨rfl, hR, rfl, ⟨rfl, rfl, rfl, Nat.le_refl _, fun _ _ _ => rfl⟩⟩
 obtain ⟨hok, inner, ho, hr⟩ := hR;rcases ho.2 with ⟨hv, hn⟩ | ⟨g, cap, cur, hv, hbase, hb, h1, h2, h3, h4⟩
 ·exact absurd hn h0
 injection hv with hA _ hc;subst hA; subst hc;have hil : inner.length = l.length * 2 := ho.1;change cur.size = c * 2 at h3;change cur.toList.take (l.length * 2) = inner at h4;have key : ∀ j : Nat, ∃ q : QG w (fun k => ok k ∧ k ≠ g) base, j < l.length → q.x = l.getD j z24 ∧ (inner.drop (j * 2)).take 2 = q.enc := by
  intro j;by_cases hj : j < l.length
  ·have hp := hr.2 j _ (List.getElem?_eq_getElem hj);obtain ⟨v, hv, hR1⟩ := EB hp;refine ⟨⟨v, l[j], Kd.R_mono hR1 (fun k hk => ⟨hk.1, fun e => hk.2 (by rw [e]; rfl)⟩), (hall0 _ (List.getElem_mem hj)).2⟩, fun _ => ⟨?_, hv⟩⟩;rw [List.getD_eq_getElem?_getD, List.getElem?_eq_getElem hj]; rfl
  ·exact ⟨default, fun e => absurd e hj⟩
 obtain ⟨fq, hfq⟩ := Classical.axiomOfChoice key;obtain ⟨ss, hss⟩ : ∃ ss, ss = (List.range l.length).map fq := ⟨_, rfl⟩;have hsl : ss.length = l.length := by rw [hss]; simp
 have hget : ∀ j (hj : j < ss.length), ss[j] = fq j := fun j hj => by simp [hss]
 have hinn : inner = (flatK (fun q : QG w (fun k => ok k ∧ k ≠ g) base => q.enc) 2 ss.toArray).toList := Ez (by rw [hil, hsl]) fun j hj => by rw [hget j hj]; exact (hfq j (by omega)).2
 have hsll : ss.map QG.x = l := by
  refine List.ext_getElem (by rw [List.length_map]; exact hsl) fun j h1 h2 => ?_;rw [List.getElem_map, hget, (hfq j h2).1, List.getD_eq_getElem?_getD, List.getElem?_eq_getElem h2]; rfl
 have hH : HoldsK (fun q : QG w (fun k => ok k ∧ k ≠ g) base => q.enc) 2 w g 0 ss.toArray := by
  have := holds_of_block (fun v : Value => v) (ss := (flatK (fun q : QG w (fun k => ok k ∧ k ≠ g) base => q.enc) 2 ss.toArray).toList) hb (by rw [← hinn, hil, h4, List.map_id']);rwa [Array.toArray_toList] at this
 have eg : ∀ args w, (callFunc 114 args).run Tryz.prog w = .ok (.enter 114 args) w := enters_of Tryz.func114 (by kernel_rfl) rfl;have hcon := AnyQ.slices_SortFunc JL 2 VL BI (fun q : QG w (fun k => ok k ∧ k ≠ g) base => q.enc) (fun _ => rfl) (fun q v hv => by simp [QG.enc] at hv; rcases hv with rfl | rfl; exact rfl; exact (Kd.R_val q.hM).2) (fun x y => Ny x.x.f1 y.x.f1) NF 114 #[] g 0 c ss.toArray w eg (DC w _ base g _ (fun k hk => hk.2)) hH (Array.getElem?_eq_some_iff.1 hb).1 (by rw [List.size_toArray, hsl]; omega);change Calls Tryz.prog 113 _ _ _ at hcon;rw [List.size_toArray, hsl] at hcon;refine hcon.mono ?_;rintro e w' ⟨rfl, d', n, os, hp, hs, rfl⟩;obtain ⟨ts, rfl⟩ : ∃ ts : List _, d' = ts.toArray := ⟨d'.toList, rfl⟩;obtain ⟨fl, hfl⟩ : ∃ fl, fl = flatK (fun q : QG w (fun k => ok k ∧ k ≠ g) base => q.enc) 2 ts.toArray := ⟨_, rfl⟩;have hgr := grownBy_sorted (fun v : Value => v) (w := w) (g := g) (n := n) (os := os) fl;have hhp := heap_sorted (fun v : Value => v) (w := w) (g := g) (n := n) (os := os) fl hb;have hws : sortWorldK (fun q : QG w (fun k => ok k ∧ k ≠ g) base => q.enc) 2 w g 0 n ts.toArray os = sortWorld (fun v : Value => v) w g 0 n fl os := by rw [hfl]; rfl
 rw [hws];have hperm : ts.Perm ss := Rl (d := ss.toArray) (by simpa [hsl] using hp);have htl : ts.length = l.length := by rw [hperm.length_eq, hsl]
 have hsort : ts.Pairwise (fun a b => ltOf (fun x y : QG w (fun k => ok k ∧ k ≠ g) base => Ny x.x.f1 y.x.f1) b a = false) := Xj (d := ts.toArray) (by simpa [htl] using hs);have ht1 : ts.map (fun q => q.x.f1) = Ci Yk (l.map fun x => x.f1) := by
  refine Ko Yk Kl (fun _ _ => Sr) Gl ?_ ?_
  ·rw [← hsll, List.map_map]; exact hperm.map _
  ·rw [List.pairwise_map];refine hsort.imp fun h => ?_;unfold ltOf at h;rwa [Qq] at h
 have ht : ts.map QG.x = (Ci Yk (l.map fun x => x.f1)).map fun s => (⟨m, s⟩ : S24) := by
  rw [← ht1, List.map_map];refine List.map_congr_left fun q hq => ?_;have hm : q.x ∈ l := by rw [← hsll]; exact List.mem_map_of_mem (hperm.mem_iff.1 hq)
  have := (hall0 _ hm).1;show q.x = ⟨m, q.x.f1⟩;rw [← this]
 have hfsz : fl.size = l.length * 2 := by rw [hfl, size_flatK, List.size_toArray, htl]
 have htk : (putCells (fun v : Value => v) 0 fl cur).toList.take (l.length * 2) = fl.toList := by
  have := take_putCells (fun v : Value => v) cur fl.toList (by rw [Array.length_toList, hfsz, h3]; omega);rw [Array.toArray_toList, Array.length_toList, hfsz, List.map_id'] at this;exact this
 rw [← ht];refine ⟨rfl, ⟨hok, fl.toList, ⟨by rw [Array.length_toList, List.length_map, htl]; exact hfsz, .inr ⟨g, c, _, by rw [List.length_map, htl], hbase, hhp, by rw [List.length_map, htl]; exact h1, h2, by simp [putCells]; exact h3, by rw [List.length_map, htl]; exact htk⟩⟩, ⟨by rw [Array.length_toList, List.length_map, htl]; exact hfsz, fun j p hj => ?_⟩⟩, by rw [List.length_map]; exact htl, hgr⟩;rw [List.getElem?_map] at hj;obtain ⟨q, hq, rfl⟩ := Option.map_eq_some_iff.1 hj;obtain ⟨hjl, hqe⟩ := List.getElem?_eq_some_iff.1 hq;have hseg := MF ts j hjl;rw [← hfl, hqe] at hseg;show k24.M _ _ _ _ ((fl.toList.drop (j * 2)).take 2);rw [hseg];refine FB _ _ _ q.x (Kd.R_mono (Kd.R_grown q.hM hgr (fun k hk e => hk.2 (by injection e))) (fun k hk => ⟨hk.1, fun e => hk.2 (by injection e)⟩))
end
def Fa.l0 : Nat → Int → List (S24) → List Int → Int → Int → Option ((List (S24)))
 | 0, _, _, _, _, _ => none
 | k + 1, x0, x3, x9, x10, x11 => if x11 < x10 then (if 0 ≤ x11 then (if x11 < (x9.length : Int) then ((Je.f k x0 (rd x9 x11)).bind fun bt275 => (if 0 < (bt275.2.length : Int) then (if yf false bt275.2 0 = true then (Fa.l0 k x0 x3 x9 x10 (wrap64 (x11 + 1))) else ((Xh.f bt275.1 bt275.2).bind fun t281 => (if 0 ≤ t281 then (if t281 < (bt275.2.length : Int) then (if yf false bt275.2 t281 = true then ((Dc.f k bt275.1 bt275.2).bind fun bt283 => (if x3.length < 4398046511104 then (Fa.l0 k x0 (x3 ++ [(⟨bt283.1, bt283.2⟩ : S24)]) x9 x10 (wrap64 (x11 + 1))) else (none))) else (Fa.l0 k x0 x3 x9 x10 (wrap64 (x11 + 1)))) else (none)) else (none)))) else (none))) else (none)) else (none)) else ((Vl.f x3).bind fun t_ => (some t_))
def Fa.f (k : Nat) (a0 : Int) : Option ((List (S24))) := (Gb.f k a0).bind fun t270 => (Fa.l0 k a0 (([] : List (S24))) t270 (t270.length : Int) 0)
theorem Fa.mono_l : ∀ k, (∀ y0 y1 y2 y3 y4, LeO (Fa.l0 k y0 y1 y2 y3 y4) (Fa.l0 (k + 1) y0 y1 y2 y3 y4))
 | 0 => fun _ _ _ _ _ r h => by simp [Fa.l0] at h
 | k + 1 => by
  have ih0 := Fa.mono_l k
  ·intro y0 y1 y2 y3 y4;unfold Fa.l0;repeat' first
   | (with_reducible exact ih0 _ _ _ _ _)
   | (with_reducible exact Gb.mono _ _)
   | (with_reducible exact Dc.mono _ _ _)
   | (with_reducible exact Je.mono _ _ _)
   | (with_reducible exact LeO.refl _)
   | (with_reducible exact LeO.none _)
   | (with_reducible refine LeO.ite ?_ ?_)
   | (with_reducible refine LeO.bind ?_ (fun _ => ?_))
   | exact ih0 _ _ _ _ _
   | exact Gb.mono _ _
   | exact Dc.mono _ _ _
   | exact Je.mono _ _ _
   | exact LeO.none _
   | refine LeO.ite ?_ ?_
   | refine LeO.bind ?_ (fun _ => ?_)
theorem Fa.mono : ∀ a0 k, LeO (Fa.f k a0) (Fa.f (k + 1) a0) := by
 intro a0 k;have ih0 := Fa.mono_l k;unfold Fa.f;repeat' first
  | (with_reducible exact ih0 _ _ _ _ _)
  | (with_reducible exact Gb.mono _ _)
  | (with_reducible exact Dc.mono _ _ _)
  | (with_reducible exact Je.mono _ _ _)
  | (with_reducible exact LeO.refl _)
  | (with_reducible exact LeO.none _)
  | (with_reducible refine LeO.ite ?_ ?_)
  | (with_reducible refine LeO.bind ?_ (fun _ => ?_))
  | exact ih0 _ _ _ _ _
  | exact Gb.mono _ _
  | exact Dc.mono _ _ _
  | exact Je.mono _ _ _
  | exact LeO.none _
  | refine LeO.ite ?_ ?_
  | refine LeO.bind ?_ (fun _ => ?_)
def Fa.T6 : Bool × List (List Nat × List Nat) := (true, [([], []), ([0], [0]), ([1], [1]), ([2], [2]), ([3], [3]), ([4], [4]), ([5], [5]), ([6, 5], [5, 6]), ([5], [5]), ([8, 5, 5], [5, 8]), ([7, 9, 5], [5, 7, 9]), ([10, 5], [5, 10]), ([5, 11], [5, 11])])
def Fa.B6 : List Nat := [0, 1, 3, 7, 15, 31, 63, 127, 63, 319, 1023, 2047, 4095]
theorem Fa.tab6 : ym .any (opsOf Tryz.f59 6) = Fa.T6 := by kernel_rfl
theorem Fa.bits6 : Vj Fa.T6.2 Fa.B6 = true := by kernel_rfl
theorem Fa.calls (k : Nat) (a0 : Int) (r : List (S24)) (w : World) (h : Fa.f k a0 = some r) :
 Calls Tryz.prog 59 #[.int .i64 a0] w fun e w' => ∃ v0_ : Value, e = .returned (v0_) ∧ Kd.R k24 24 w' w.heap.size (fun _ => True) v0_ r ∧ Below w.heap.size w w' := by
 have hu62 := Tryz.underlying62;have HB := qa.mk (Below.refl w.heap.size w);have H : ((Gb.f k a0).bind fun t270 => (Fa.l0 k a0 (([] : List (S24))) t270 (t270.length : Int) 0)) = some r := h;clear h;obtain ⟨y267, hy267⟩ : ∃ y_ : List (S24), y_ = (([] : List (S24))) := ⟨_, rfl⟩;rw [← hy267] at H;have Ny267 := qa.mk hy267;clear hy267;replace H := zB0 H;obtain ⟨t270, A20, H⟩ := H;have A2 := qa.mk A20;clear A20;have H' := qa.mk H;clear H;go_enter Tryz.func59, Tryz.ntmps59;go_wp2_with (first | ((with_reducible refine Ma (N := 7) rfl ?_); refine Kd.R_lit k24 _ 24 ?hg (N := 7) ?hd (xs := ([] : List (S24))) (inner := []) (ok := fun _ => True) (okp := fun _ => True) ?hr ?hp (fun _ hk => hk) trivial (Below.refl _ _) (Nat.le_refl _) (by simp) ?_; (case hd => rfl); (case hg => rfl); (case hr => first | (go_simp; done) | (go_simp; rfl)); (case hp => exact (qg.none _ _)); intro v268 w3 ho4 hb hg_ hnew_; clear hg_ hnew_; (first | rw [← Ny267.out] at ho4 | (simp only [Int.reduceToNat] at ho4; rw [← Ny267.out] at ho4)); have HO269 := qa.mk (Kd.R_lower ho4 (Ua (zh HB.out))); replace HB := zH hb HB; clear hb ho4) | ((with_reducible refine Va (f := 109) rfl ?_); refine zl 9 Tryz.func109 #[.int .i64 a0] ?_; (with_reducible refine (Gb.calls k a0 t270 _ A2.out).mono ?_); rintro e w5 ⟨v271, rfl, ho0, hb⟩; refine ⟨_, rfl, ?_⟩; have HO272 := qa.mk (Kd.R_lower ho0 (Ua (zh HB.out))); replace HO269 := qa.mk (Kd.R_elder' (zr HO269.out) (Kd.R_base ho0) hb); replace HB := zH hb HB; clear hb; (try clear ho0); obtain ⟨Ao6, co6, eo6⟩ := Kd.R_slice HO272.out; subst eo6));go_loopg [3, 11] k (fun kq v3 v11 w' => ∃ (x3_1 : List (S24)) (x11_1 : Int), v11 = .int .i64 x11_1 ∧ qa (Fa.l0 kq a0 x3_1 t270 (t270.length : Int) x11_1 = some r) ∧ qa (kq ≤ k) ∧ qa (Kd.R k24 24 w' w.heap.size (fun k_ => some k_ ≠ ((.slice Ao6 t270.length co6) : Value).ownBlock) v3 x3_1) ∧ qa (Kd.R (Kd.int .i64) 3 w' w.heap.size (fun _ => True) (.slice Ao6 t270.length co6) t270) ∧ qa (Below w.heap.size w w'));case atStart => exact ⟨(y267), (0), zE, H', ⟨Nat.le_refl _⟩, ⟨zr (Kd.R_mono HO269.out (fun _ hk => hk.2))⟩, ⟨zr HO272.out⟩, ⟨zh HB.out⟩⟩
 case round =>
  clear H';try clear c1
  try clear p2
  try clear c5
  obtain ⟨x3_1, x11_1, rfl, HA, HK1, HO_3, HO_9, HB⟩ := hrel;cases gk with
  | zero => exact absurd HA.out (by simp [Fa.l0])
  | succ k1 =>
   have H := HA.out;clear HA;simp only [Fa.l0] at H;by_cases c7 : x11_1 < (t270.length : Int)
   rotate_left
   ·rw [if_neg c7] at H;have c7b0 := decide_eq_false c7;clear c7;replace H := zB0 H;obtain ⟨t_, A540, H⟩ := H;replace H : (some t_) = some r := H;have A54 := qa.mk A540;clear A540;obtain rfl := Option.some.inj H;obtain ⟨Ao55, co55, eo55⟩ := Kd.R_slice HO_3.out;subst eo55;go_wp2_with (first | ((with_reducible refine Va (f := 113) rfl ?_); refine zl 38 Tryz.func113 #[.slice Ao55 x3_1.length co55, .func (.func 114) #[] #[]] ?_; refine (Vl.calls x3_1 t_ _ _ w.heap.size (fun _ => True) _ ?side1 A54.out).mono ?_; (case side1 => exact Kd.R_mono (zr HO_3.out) (fun _ _ => trivial)); rintro e w' ⟨rfl, hs_, hl_, hg_⟩; refine ⟨_, rfl, ?_⟩; have n0_ := qa.mk hs_; have hB_ := ((zh HB.out) : Below w.heap.size w _); have n2_ := qa.mk (Below.grown hB_ hg_ (Ua hB_) (Kd.R_base HO_3.out)); (try clear HO_9); clear HO_3 HB; have HO_3 := n0_; have HB := n2_; clear n0_ n2_ hs_ hl_ hg_ hB_));go_ret;exact ⟨_, zL0, by (with_reducible repeat (first | apply Kd.R_alloc | apply Kd.R_drewN | apply Kd.R_drew)); exact Kd.R_mono HO_3.out (fun _ hk => trivial), zh HB.out⟩
   rw [if_pos c7] at H;have c7b0 := decide_eq_true c7;clear c7;by_cases c8 : 0 ≤ x11_1
   rotate_left
   ·rw [if_neg c8] at H;cases H
   rw [if_pos c8] at H;have c8b0 := decide_eq_true c8;clear c8;by_cases c9 : x11_1 < (t270.length : Int)
   rotate_left
   ·rw [if_neg c9] at H;cases H
   rw [if_pos c9] at H;have c9b0 := decide_eq_true c9;clear c9;replace H := zB0 H;obtain ⟨⟨t275, t276⟩, A100, H⟩ := H;replace H : (if 0 < (t276.length : Int) then (if yf false t276 0 = true then (Fa.l0 k1 a0 x3_1 t270 (t270.length : Int) (wrap64 (x11_1 + 1))) else ((Xh.f t275 t276).bind fun t281 => (if 0 ≤ t281 then (if t281 < (t276.length : Int) then (if yf false t276 t281 = true then ((Dc.f k1 t275 t276).bind fun bt283 => (if x3_1.length < 4398046511104 then (Fa.l0 k1 a0 (x3_1 ++ [(⟨bt283.1, bt283.2⟩ : S24)]) t270 (t270.length : Int) (wrap64 (x11_1 + 1))) else (none))) else (Fa.l0 k1 a0 x3_1 t270 (t270.length : Int) (wrap64 (x11_1 + 1)))) else (none)) else (none)))) else (none)) = some r := H;have A10 := qa.mk A100;clear A100;by_cases c11 : 0 < (t276.length : Int)
   rotate_left
   ·rw [if_neg c11] at H;cases H
   rw [if_pos c11] at H;have c11b0 := decide_eq_true c11;have c11b1 : decide (0 < t276.length) = true := decide_eq_true (by omega);clear c11;obtain ⟨bq12, hbq12⟩ : ∃ b_ : Bool, b_ = (yf false t276 0) := ⟨_, rfl⟩;rw [← hbq12] at H;have Nbq12 := qa.mk hbq12;clear hbq12;by_cases c13 : bq12 = true
   ·subst c13;rw [if_pos rfl] at H;have H' := qa.mk H;clear H;obtain ⟨⟨ad273, e273, hx273_0⟩, p273, q273⟩ := zW (Kd.at_int (Kd.R_reads' HO_9.out).2.2 x11_1);cases e273;try go_wp2_with (first | ((with_reducible refine Ma (N := 5) rfl ?_); refine zq 5 #[.int .i64 0] 3 ?_; intro gb274 hg w14 hbox hb; have BK274 := qa.mk hbox; have GW274 := zG hg HB; have GE274 := zG hg HB; replace HO_3 := qa.mk (Kd.R_below (Kd.R_elderB (zr HO_3.out) gb274 (Nat.le_of_eq hg.symm)) hb); replace HO_9 := qa.mk (Kd.R_below (Kd.R_elderB (zr HO_9.out) gb274 (Nat.le_of_eq hg.symm)) hb); replace HB := zH hb HB; clear hb hbox hg; obtain ⟨hcz15_0, hfz15_0⟩ := zC1 BK274) | ((with_reducible refine Va (f := 79) rfl ?_); refine zl 17 Tryz.func79 #[.int .i64 a0, .func (.func 110) #[] #[.pointer (some ⟨gb274, 0, none⟩)]] ?_; (with_reducible refine (Je.calls k1 a0 (rd t270 x11_1) t275 t276 _ gb274 (by first | exact (Ya (zb BK274.out) 0).trans rfl | exact (Ya (Yb (zb BK274.out) 0 _ rfl) 0).trans rfl | exact zb BK274.out) A10.out).mono ?_); rintro e w16 ⟨v277, rfl, ho0, hb⟩; refine ⟨_, rfl, ?_⟩; have HO278 := qa.mk (Kd.R_lower ho0 (Ua (zh HB.out))); replace HO_3 := qa.mk (Kd.R_below (by (with_reducible repeat (first | apply Kd.R_alloc | apply Kd.R_drewN | apply Kd.R_drew)); exact (Kd.R_mono (Kd.R_far (p := ⟨gb274, 0, none⟩) (Kd.R_mono HO_3.out (fun k_ hk => (⟨hk, hk.2⟩ : _ ∧ k_ ≠ gb274))) (fun _ hk => hk.2) (.int .i64 (rd t270 x11_1))) (fun _ h_ => h_.1))) hb); replace HO_9 := qa.mk (Kd.R_below (by (with_reducible repeat (first | apply Kd.R_alloc | apply Kd.R_drewN | apply Kd.R_drew)); exact (Kd.R_mono (Kd.R_far (p := ⟨gb274, 0, none⟩) (Kd.R_mono HO_9.out (fun k_ hk => (⟨hk, hk.2⟩ : _ ∧ k_ ≠ gb274))) (fun _ hk => hk.2) (.int .i64 (rd t270 x11_1))) (fun _ h_ => h_.1))) hb); replace BK274 := qa.mk (Na (g := gb274) (o := .cells #[.int .i64 (rd t270 x11_1)] 3 (0, 0)) (by (with_reducible repeat (first | refine Ca ?_ _ | refine Ra ?_ | refine Qa ?_ _)); refine Yb (cs := #[.int .i64 0]) ?_ 0 _ rfl; exact zb BK274.out) hb); replace HB := zH hb HB; clear hb; (try clear ho0)) | ((with_reducible refine Ma (N := 6) rfl ?_); refine zq 6 #[.int .i64 0, .slice none 0 0] 62 ?_; intro gb279 hg w17 hbox hb; have BK279 := qa.mk hbox; have GW279 := zG hg HB; have GE279 := zG hg HB; have NB274_279 := zNa hg BK274; have NB279_274 := zNb hg BK274; replace HO_3 := qa.mk (Kd.R_below (zr HO_3.out) hb); replace HO_9 := qa.mk (Kd.R_below (zr HO_9.out) hb); replace HO278 := qa.mk (Kd.R_below (zr HO278.out) hb); replace BK274 := zK BK274 hb; replace HB := zH hb HB; clear hb hbox hg; have hnb18 := NB279_274.out; have hnc18 := NB274_279.out; obtain ⟨hcz19_0, hcz19_1, hfz19_0, hfz19_1⟩ := zC2 BK279; obtain ⟨Ao20, co20, eo20⟩ := Kd.R_slice HO278.out; subst eo20))
    have n0_ : qa (Kd.R k24 24 ((w17.setCell ⟨gb279, 0, none⟩ (.int .i64 t275)).setCell ⟨gb279, 1, none⟩ (.slice Ao20 t276.length co20)) w.heap.size (fun k_ => some k_ ≠ (.slice (some ad273) t270.length co6 : Value).ownBlock ∧ k_ ≠ gb274) u3 x3_1) := ⟨by (with_reducible repeat (first | apply Kd.R_alloc | apply Kd.R_drewN | apply Kd.R_drew)); exact Kd.R_mono (Kd.R_far (p := ⟨gb279, 1, none⟩) (Kd.R_far (p := ⟨gb279, 0, none⟩) (Kd.R_types HO_3.out BK279.out (by decide)) (fun _ hk => hk.2) (.int .i64 t275)) (fun _ hk => hk.2) (.slice Ao20 t276.length co20)) (fun _ hk => ⟨hk.1.1, hk.1.2⟩)⟩;have n1_ : qa (Kd.R (Kd.int .i64) 3 ((w17.setCell ⟨gb279, 0, none⟩ (.int .i64 t275)).setCell ⟨gb279, 1, none⟩ (.slice Ao20 t276.length co20)) w.heap.size (fun k_ => k_ ≠ gb274) (.slice (some ad273) t270.length co6) t270) := ⟨by (with_reducible repeat (first | apply Kd.R_alloc | apply Kd.R_drewN | apply Kd.R_drew)); exact Kd.R_mono (Kd.R_far (p := ⟨gb279, 1, none⟩) (Kd.R_far (p := ⟨gb279, 0, none⟩) (Kd.R_types HO_9.out BK279.out (by decide)) (fun _ hk => hk.2) (.int .i64 t275)) (fun _ hk => hk.2) (.slice Ao20 t276.length co20)) (fun _ hk => hk.1.2)⟩;have n2_ : qa (Kd.R Kd.bool 4 ((w17.setCell ⟨gb279, 0, none⟩ (.int .i64 t275)).setCell ⟨gb279, 1, none⟩ (.slice Ao20 t276.length co20)) w.heap.size (fun _ => True) (.slice Ao20 t276.length co20) t276) := ⟨by (with_reducible repeat (first | apply Kd.R_alloc | apply Kd.R_drewN | apply Kd.R_drew)); exact Kd.R_mono (Kd.R_far (p := ⟨gb279, 1, none⟩) (Kd.R_far (p := ⟨gb279, 0, none⟩) (Kd.R_types HO278.out BK279.out (by decide)) (fun _ hk => hk.2) (.int .i64 t275)) (fun _ hk => hk.2) (.slice Ao20 t276.length co20)) (fun _ hk => trivial)⟩;have n3_ : qa (((w17.setCell ⟨gb279, 0, none⟩ (.int .i64 t275)).setCell ⟨gb279, 1, none⟩ (.slice Ao20 t276.length co20)).heap[gb274]? = some (.cells #[.int .i64 (rd t270 x11_1)] 3 (0, 0))) := ⟨zf2 BK274.out NB274_279.out NB274_279.out⟩;have n4_ : qa (((w17.setCell ⟨gb279, 0, none⟩ (.int .i64 t275)).setCell ⟨gb279, 1, none⟩ (.slice Ao20 t276.length co20)).heap[gb279]? = some (.cells #[.int .i64 t275, .slice Ao20 t276.length co20] 62 (0, 0))) := ⟨by (with_reducible repeat (first | refine Ca ?_ _ | refine Ra ?_ | refine Qa ?_ _)); refine Yb (cs := #[.int .i64 t275, .slice none 0 0]) ?_ 1 _ rfl; (with_reducible repeat (first | refine Ca ?_ _ | refine Ra ?_ | refine Qa ?_ _)); refine Yb (cs := #[.int .i64 0, .slice none 0 0]) ?_ 0 _ rfl; exact zb BK279.out⟩;have n5_ : qa (Below w.heap.size w ((w17.setCell ⟨gb279, 0, none⟩ (.int .i64 t275)).setCell ⟨gb279, 1, none⟩ (.slice Ao20 t276.length co20))) := ⟨zh HB.out⟩;(try clear HO_3)
    (try clear HO_9)
    (try clear HO278)
    (try clear BK274)
    (try clear BK279)
    (try clear HB)
    generalize ((w17.setCell ⟨gb279, 0, none⟩ (.int .i64 t275)).setCell ⟨gb279, 1, none⟩ (.slice Ao20 t276.length co20)) = w21 at n0_ n1_ n2_ n3_ n4_ n5_ ⊢;have HO_3 := n0_;have HO_9 := n1_;have HO278 := n2_;have BK274 := n3_;have BK279 := n4_;have HB := n5_;clear n0_ n1_ n2_ n3_ n4_ n5_;have n0_ := qa.mk (Kd.R_drew HO_3.out);have n1_ := qa.mk (Kd.R_drew HO_9.out);have n2_ := qa.mk (Kd.R_drew HO278.out);have n3_ := qa.mk (Ra BK274.out);have n4_ := qa.mk (Ra BK279.out);have n5_ := qa.mk (Ud HB.out);clear HO_3 HO_9 HO278 BK274 BK279 HB;have HO_3 := n0_;have HO_9 := n1_;have HO278 := n2_;have BK274 := n3_;have BK279 := n4_;have HB := n5_;clear n0_ n1_ n2_ n3_ n4_ n5_;have p280 : 0 ≤ (0 : Int) := (by omega);have q280 : 0 < (t276.length : Int) := zk;obtain ⟨ad280, e280, hx280_0⟩ := Kd.at_bool (Kd.R_reads' HO278.out).2.2 0 p280 q280;(try rw [← Nbq12.out] at hx280_0)
    cases e280;have qi280 : (0 < t276.length) = True := eq_true (by omega);(try rw [show ((0 : Int)).toNat = 0 from rfl] at hx280_0)
    (try rw [Addr.add_zero'] at hx280_0)
    replace p280 := eq_true p280;replace q280 := eq_true q280;refine Kg (n := 13) (S := fun w' => w'.cell? ⟨gb279, 0, none⟩ = some (.int .i64 t275) ∧ w'.cell? ⟨gb279, 1, none⟩ = some (.slice (some ad280) t276.length co20) ∧ w'.cell? ad280 = some (.bool true)) (ds := []) (tb 13 0) (by kernel_rfl) rfl rfl ⟨(Ya BK279.out 0).trans rfl, (Ya BK279.out 1).trans rfl, hx280_0⟩ (fun hHeld => ?_); refine Ug Fa.tab6 Fa.bits6 (fun HT_ HW_ => ?_);generalize w21.drew = w22 at HO_3 HO_9 HO278 BK274 BK279 HB hx280_0 hHeld ⊢;refine zu (i := 0) (N := some 18) (tb 13 1) rfl rfl HT_ ?_;refine zt (i := 1) (N := some 19) (tb 13 3) rfl rfl (Wd HT_.out HW_.out (by kernel_rfl)) hHeld ?_;refine zu (i := 2) (N := some 20) (tb 13 7) rfl rfl HT_ ?_;refine zt (i := 3) (N := some 21) (tb 13 15) rfl rfl (Wd HT_.out HW_.out (by kernel_rfl)) hHeld ?_;refine zu (i := 4) (N := some 22) (tb 13 31) rfl rfl HT_ ?_;refine zu (i := 5) (N := some 23) (tb 13 63) rfl rfl HT_ ?_;refine zv (i := 6) (N := some 24) (tb 13 127) rfl rfl HT_ ?_;refine zv (i := 7) (N := some 25) (tb 13 255) rfl rfl HT_ ?_;refine zv (i := 8) (N := some 26) (tb 13 511) rfl rfl HT_ ?_;refine zv (i := 9) (N := some 27) (tb 13 1023) rfl rfl HT_ ?_;refine zv (i := 10) (N := some 28) (tb 13 2047) rfl rfl HT_ ?_;refine zv (i := 11) (N := some 29) (tb 13 4095) rfl rfl HT_ ?_;refine zu (i := 12) (N := some 30) (tb 13 8191) rfl rfl HT_ ?_;refine Bi (Lh HT_.out (by kernel_rfl)) ?_;try go_wp2
    go_roundg k1;case measure => have := HK1.out; omega
    case rel => exact ⟨(x3_1), (wrap64 (x11_1 + 1)), zE, H', zO HK1, ⟨zr (Kd.R_mono HO_3.out (fun _ hk => hk.1))⟩, ⟨zr (Kd.R_mono HO_9.out (fun _ hk => trivial))⟩, ⟨zh HB.out⟩⟩
   replace c13 := Bool.eq_false_iff.mpr c13;subst c13;rw [if_neg zF] at H;replace H := zB0 H;obtain ⟨t281, A230, H⟩ := H;have A23 := qa.mk A230;clear A230;by_cases c24 : 0 ≤ t281
   rotate_left
   ·rw [if_neg c24] at H;cases H
   rw [if_pos c24] at H;have c24b0 := decide_eq_true c24;clear c24;by_cases c25 : t281 < (t276.length : Int)
   rotate_left
   ·rw [if_neg c25] at H;cases H
   rw [if_pos c25] at H;have c25b0 := decide_eq_true c25;clear c25;obtain ⟨bq26, hbq26⟩ : ∃ b_ : Bool, b_ = (yf false t276 t281) := ⟨_, rfl⟩;rw [← hbq26] at H;have Nbq26 := qa.mk hbq26;clear hbq26;by_cases c27 : bq26 = true
   rotate_left
   ·replace c27 := Bool.eq_false_iff.mpr c27;subst c27;rw [if_neg zF] at H;have H' := qa.mk H;clear H;obtain ⟨⟨ad273, e273, hx273_0⟩, p273, q273⟩ := zW (Kd.at_int (Kd.R_reads' HO_9.out).2.2 x11_1);cases e273;try go_wp2_with (first | ((with_reducible refine Ma (N := 5) rfl ?_); refine zq 5 #[.int .i64 0] 3 ?_; intro gb274 hg w44 hbox hb; have BK274 := qa.mk hbox; have GW274 := zG hg HB; have GE274 := zG hg HB; replace HO_3 := qa.mk (Kd.R_below (Kd.R_elderB (zr HO_3.out) gb274 (Nat.le_of_eq hg.symm)) hb); replace HO_9 := qa.mk (Kd.R_below (Kd.R_elderB (zr HO_9.out) gb274 (Nat.le_of_eq hg.symm)) hb); replace HB := zH hb HB; clear hb hbox hg; obtain ⟨hcz45_0, hfz45_0⟩ := zC1 BK274) | ((with_reducible refine Va (f := 79) rfl ?_); refine zl 17 Tryz.func79 #[.int .i64 a0, .func (.func 110) #[] #[.pointer (some ⟨gb274, 0, none⟩)]] ?_; (with_reducible refine (Je.calls k1 a0 (rd t270 x11_1) t275 t276 _ gb274 (by first | exact (Ya (zb BK274.out) 0).trans rfl | exact (Ya (Yb (zb BK274.out) 0 _ rfl) 0).trans rfl | exact zb BK274.out) A10.out).mono ?_); rintro e w46 ⟨v277, rfl, ho0, hb⟩; refine ⟨_, rfl, ?_⟩; have HO278 := qa.mk (Kd.R_lower ho0 (Ua (zh HB.out))); replace HO_3 := qa.mk (Kd.R_below (by (with_reducible repeat (first | apply Kd.R_alloc | apply Kd.R_drewN | apply Kd.R_drew)); exact (Kd.R_mono (Kd.R_far (p := ⟨gb274, 0, none⟩) (Kd.R_mono HO_3.out (fun k_ hk => (⟨hk, hk.2⟩ : _ ∧ k_ ≠ gb274))) (fun _ hk => hk.2) (.int .i64 (rd t270 x11_1))) (fun _ h_ => h_.1))) hb); replace HO_9 := qa.mk (Kd.R_below (by (with_reducible repeat (first | apply Kd.R_alloc | apply Kd.R_drewN | apply Kd.R_drew)); exact (Kd.R_mono (Kd.R_far (p := ⟨gb274, 0, none⟩) (Kd.R_mono HO_9.out (fun k_ hk => (⟨hk, hk.2⟩ : _ ∧ k_ ≠ gb274))) (fun _ hk => hk.2) (.int .i64 (rd t270 x11_1))) (fun _ h_ => h_.1))) hb); replace BK274 := qa.mk (Na (g := gb274) (o := .cells #[.int .i64 (rd t270 x11_1)] 3 (0, 0)) (by (with_reducible repeat (first | refine Ca ?_ _ | refine Ra ?_ | refine Qa ?_ _)); refine Yb (cs := #[.int .i64 0]) ?_ 0 _ rfl; exact zb BK274.out) hb); replace HB := zH hb HB; clear hb; (try clear ho0)) | ((with_reducible refine Ma (N := 6) rfl ?_); refine zq 6 #[.int .i64 0, .slice none 0 0] 62 ?_; intro gb279 hg w47 hbox hb; have BK279 := qa.mk hbox; have GW279 := zG hg HB; have GE279 := zG hg HB; have NB274_279 := zNa hg BK274; have NB279_274 := zNb hg BK274; replace HO_3 := qa.mk (Kd.R_below (zr HO_3.out) hb); replace HO_9 := qa.mk (Kd.R_below (zr HO_9.out) hb); replace HO278 := qa.mk (Kd.R_below (zr HO278.out) hb); replace BK274 := zK BK274 hb; replace HB := zH hb HB; clear hb hbox hg; have hnb48 := NB279_274.out; have hnc48 := NB274_279.out; obtain ⟨hcz49_0, hcz49_1, hfz49_0, hfz49_1⟩ := zC2 BK279; obtain ⟨Ao50, co50, eo50⟩ := Kd.R_slice HO278.out; subst eo50))
    have n0_ : qa (Kd.R k24 24 ((w47.setCell ⟨gb279, 0, none⟩ (.int .i64 t275)).setCell ⟨gb279, 1, none⟩ (.slice Ao50 t276.length co50)) w.heap.size (fun k_ => some k_ ≠ (.slice (some ad273) t270.length co6 : Value).ownBlock ∧ k_ ≠ gb274) u3 x3_1) := ⟨by (with_reducible repeat (first | apply Kd.R_alloc | apply Kd.R_drewN | apply Kd.R_drew)); exact Kd.R_mono (Kd.R_far (p := ⟨gb279, 1, none⟩) (Kd.R_far (p := ⟨gb279, 0, none⟩) (Kd.R_types HO_3.out BK279.out (by decide)) (fun _ hk => hk.2) (.int .i64 t275)) (fun _ hk => hk.2) (.slice Ao50 t276.length co50)) (fun _ hk => ⟨hk.1.1, hk.1.2⟩)⟩;have n1_ : qa (Kd.R (Kd.int .i64) 3 ((w47.setCell ⟨gb279, 0, none⟩ (.int .i64 t275)).setCell ⟨gb279, 1, none⟩ (.slice Ao50 t276.length co50)) w.heap.size (fun k_ => k_ ≠ gb274) (.slice (some ad273) t270.length co6) t270) := ⟨by (with_reducible repeat (first | apply Kd.R_alloc | apply Kd.R_drewN | apply Kd.R_drew)); exact Kd.R_mono (Kd.R_far (p := ⟨gb279, 1, none⟩) (Kd.R_far (p := ⟨gb279, 0, none⟩) (Kd.R_types HO_9.out BK279.out (by decide)) (fun _ hk => hk.2) (.int .i64 t275)) (fun _ hk => hk.2) (.slice Ao50 t276.length co50)) (fun _ hk => hk.1.2)⟩;have n2_ : qa (Kd.R Kd.bool 4 ((w47.setCell ⟨gb279, 0, none⟩ (.int .i64 t275)).setCell ⟨gb279, 1, none⟩ (.slice Ao50 t276.length co50)) w.heap.size (fun _ => True) (.slice Ao50 t276.length co50) t276) := ⟨by (with_reducible repeat (first | apply Kd.R_alloc | apply Kd.R_drewN | apply Kd.R_drew)); exact Kd.R_mono (Kd.R_far (p := ⟨gb279, 1, none⟩) (Kd.R_far (p := ⟨gb279, 0, none⟩) (Kd.R_types HO278.out BK279.out (by decide)) (fun _ hk => hk.2) (.int .i64 t275)) (fun _ hk => hk.2) (.slice Ao50 t276.length co50)) (fun _ hk => trivial)⟩;have n3_ : qa (((w47.setCell ⟨gb279, 0, none⟩ (.int .i64 t275)).setCell ⟨gb279, 1, none⟩ (.slice Ao50 t276.length co50)).heap[gb274]? = some (.cells #[.int .i64 (rd t270 x11_1)] 3 (0, 0))) := ⟨zf2 BK274.out NB274_279.out NB274_279.out⟩;have n4_ : qa (((w47.setCell ⟨gb279, 0, none⟩ (.int .i64 t275)).setCell ⟨gb279, 1, none⟩ (.slice Ao50 t276.length co50)).heap[gb279]? = some (.cells #[.int .i64 t275, .slice Ao50 t276.length co50] 62 (0, 0))) := ⟨by (with_reducible repeat (first | refine Ca ?_ _ | refine Ra ?_ | refine Qa ?_ _)); refine Yb (cs := #[.int .i64 t275, .slice none 0 0]) ?_ 1 _ rfl; (with_reducible repeat (first | refine Ca ?_ _ | refine Ra ?_ | refine Qa ?_ _)); refine Yb (cs := #[.int .i64 0, .slice none 0 0]) ?_ 0 _ rfl; exact zb BK279.out⟩;have n5_ : qa (Below w.heap.size w ((w47.setCell ⟨gb279, 0, none⟩ (.int .i64 t275)).setCell ⟨gb279, 1, none⟩ (.slice Ao50 t276.length co50))) := ⟨zh HB.out⟩;(try clear HO_3)
    (try clear HO_9)
    (try clear HO278)
    (try clear BK274)
    (try clear BK279)
    (try clear HB)
    generalize ((w47.setCell ⟨gb279, 0, none⟩ (.int .i64 t275)).setCell ⟨gb279, 1, none⟩ (.slice Ao50 t276.length co50)) = w51 at n0_ n1_ n2_ n3_ n4_ n5_ ⊢;have HO_3 := n0_;have HO_9 := n1_;have HO278 := n2_;have BK274 := n3_;have BK279 := n4_;have HB := n5_;clear n0_ n1_ n2_ n3_ n4_ n5_;have n0_ := qa.mk (Kd.R_drew HO_3.out);have n1_ := qa.mk (Kd.R_drew HO_9.out);have n2_ := qa.mk (Kd.R_drew HO278.out);have n3_ := qa.mk (Ra BK274.out);have n4_ := qa.mk (Ra BK279.out);have n5_ := qa.mk (Ud HB.out);clear HO_3 HO_9 HO278 BK274 BK279 HB;have HO_3 := n0_;have HO_9 := n1_;have HO278 := n2_;have BK274 := n3_;have BK279 := n4_;have HB := n5_;clear n0_ n1_ n2_ n3_ n4_ n5_;have p280 : 0 ≤ (0 : Int) := (by omega);have q280 : 0 < (t276.length : Int) := zk;obtain ⟨ad280, e280, hx280_0⟩ := Kd.at_bool (Kd.R_reads' HO278.out).2.2 0 p280 q280;(try rw [← Nbq12.out] at hx280_0)
    (try rw [← Nbq26.out] at hx280_0)
    cases e280;have qi280 : (0 < t276.length) = True := eq_true (by omega);(try rw [show ((0 : Int)).toNat = 0 from rfl] at hx280_0)
    (try rw [Addr.add_zero'] at hx280_0)
    replace p280 := eq_true p280;replace q280 := eq_true q280;obtain ⟨⟨ad282, e282, hx282_0⟩, p282, q282⟩ := zW (Kd.at_bool (Kd.R_reads' HO278.out).2.2 t281);(try rw [← Nbq12.out] at hx282_0)
    (try rw [← Nbq26.out] at hx282_0)
    obtain rfl : ad280 = ad282 := (by injection e282);refine Kg (n := 13) (S := fun w' => w'.cell? ⟨gb279, 0, none⟩ = some (.int .i64 t275) ∧ w'.cell? ⟨gb279, 1, none⟩ = some (.slice (some ad280) t276.length co50) ∧ w'.cell? ad280 = some (.bool false) ∧ w'.cell? (ad280.add (t281).toNat) = some (.bool false)) (ds := []) (tb 13 0) (by kernel_rfl) rfl rfl ⟨(Ya BK279.out 0).trans rfl, (Ya BK279.out 1).trans rfl, hx280_0, hx282_0⟩ (fun hHeld => ?_); refine Ug Fa.tab6 Fa.bits6 (fun HT_ HW_ => ?_);generalize w51.drew = w52 at HO_3 HO_9 HO278 BK274 BK279 HB hx280_0 hx282_0 hHeld ⊢;refine zu (i := 0) (N := some 18) (tb 13 1) rfl rfl HT_ ?_;refine zt (i := 1) (N := some 19) (tb 13 3) rfl rfl (Wd HT_.out HW_.out (by kernel_rfl)) hHeld ?_;refine zu (i := 2) (N := some 20) (tb 13 7) rfl rfl HT_ ?_;refine zt (i := 3) (N := some 21) (tb 13 15) rfl rfl (Wd HT_.out HW_.out (by kernel_rfl)) hHeld ?_;refine zu (i := 4) (N := some 22) (tb 13 31) rfl rfl HT_ ?_;refine zu (i := 5) (N := some 23) (tb 13 63) rfl rfl HT_ ?_;refine zu (i := 6) (N := some 24) (tb 13 127) rfl rfl HT_ ?_;refine zt (i := 7) (N := some 25) (tb 13 255) rfl rfl (Wd HT_.out HW_.out (by kernel_rfl)) hHeld ?_;refine zt (i := 8) (N := some 26) (tb 13 511) rfl rfl (Wd HT_.out HW_.out (by kernel_rfl)) hHeld ?_;refine Uj (i := 9) (N := some 27) (tb 13 1023) rfl rfl (Gh HT_.out (by kernel_rfl)) (by decide) (fun K hK => ?_);refine Di Tryz.func112 (by kernel_rfl) rfl #[.agg #[.int .i64 t275, .slice (some ad280) t276.length co50]] (by rfl) rfl rfl (by (try simp only [List.map_toArray, List.map_cons, List.map_nil]); first | done | rfl | (simp only [List.length_drop, List.length_take]; rfl)) ?_
    with_reducible refine (Xh.calls t275 _ _ t276 t281 _ ?side1 ?side2 A23.out).mono ?_
    (case side1 => repeat (first | exact (Kd.R_reads' HO278.out).2.2 | (with_reducible refine Kd.C_alloc ?_ _) | (with_reducible refine Kd.C_drewN ?_ _) | (with_reducible refine Kd.C_drew ?_)))
    (case side2 => exact (Kd.R_reads' HO278.out).2.1)
    rintro e w53 ⟨rfl, hb⟩;have HS2_ := (hb.cell (World.block_lt_of_cell? _ _ (hHeld.2.2.1))).trans (hHeld.2.2.1);have HS3_ := (hb.cell (World.block_lt_of_cell? _ _ (hHeld.2.2.2))).trans (hHeld.2.2.2);refine ⟨_, rfl, ?_⟩;have n0_ := qa.mk (Kd.R_below (zr HO_3.out) hb);have n1_ := qa.mk (Kd.R_below (zr HO_9.out) hb);have n2_ := qa.mk (Kd.R_below (zr HO278.out) hb);have n3_ := qa.mk (Na (g := gb274) (o := .cells #[.int .i64 (rd t270 x11_1)] 3 (0, 0)) (zb BK274.out) hb);have n4_ := qa.mk (Na (g := gb279) (o := .cells #[.int .i64 t275, .slice (some ad280) t276.length co50] 62 (0, 0)) (zb BK279.out) hb);have n5_ := qa.mk (Rc (zh HB.out) hb);clear HO_3 HO_9 HO278 BK274 BK279 HB;have HO_3 := n0_;have HO_9 := n1_;have HO278 := n2_;have BK274 := n3_;have BK279 := n4_;have HB := n5_;clear n0_ n1_ n2_ n3_ n4_ n5_;(try clear hb)
    (try clear hb2)
    (try clear hk)
    (try clear hi)
    refine hK.out _ _ ⟨(Ya BK279.out 0).trans rfl, (Ya BK279.out 1).trans rfl, HS2_, HS3_⟩ (fun hHeld => ?_);clear hK K;refine zn1 ?_;refine zu (i := 10) (N := some 28) (tb 13 2047) rfl rfl HT_ ?_;refine zt (i := 11) (N := some 29) (tb 13 4095) rfl rfl (Wd HT_.out HW_.out (by kernel_rfl)) hHeld ?_;refine zu (i := 12) (N := some 30) (tb 13 8191) rfl rfl HT_ ?_;refine Bi (Lh HT_.out (by kernel_rfl)) ?_;try go_wp2
    go_roundg k1;case measure => have := HK1.out; omega
    case rel => exact ⟨(x3_1), (wrap64 (x11_1 + 1)), zE, H', zO HK1, ⟨zr (Kd.R_mono HO_3.out (fun _ hk => hk.1))⟩, ⟨zr (Kd.R_mono HO_9.out (fun _ hk => trivial))⟩, ⟨zh HB.out⟩⟩
   subst c27;rw [if_pos rfl] at H;replace H := zB0 H;obtain ⟨⟨t283, t284⟩, A280, H⟩ := H;replace H : (if x3_1.length < 4398046511104 then (Fa.l0 k1 a0 (x3_1 ++ [(⟨t283, t284⟩ : S24)]) t270 (t270.length : Int) (wrap64 (x11_1 + 1))) else (none)) = some r := H;have A28 := qa.mk A280;clear A280;by_cases c29 : x3_1.length < 4398046511104
   rotate_left
   ·rw [if_neg c29] at H;cases H
   rw [if_pos c29] at H;have LMc29 := qa.mk c29;clear c29;obtain ⟨y287, hy287⟩ : ∃ y_ : List (S24), y_ = (x3_1 ++ [(⟨t283, t284⟩ : S24)]) := ⟨_, rfl⟩;rw [← hy287] at H;have Ny287 := qa.mk hy287;clear hy287;have H' := qa.mk H;clear H;obtain ⟨⟨ad273, e273, hx273_0⟩, p273, q273⟩ := zW (Kd.at_int (Kd.R_reads' HO_9.out).2.2 x11_1);cases e273;try go_wp2_with (first | ((with_reducible refine Ma (N := 5) rfl ?_); refine zq 5 #[.int .i64 0] 3 ?_; intro gb274 hg w30 hbox hb; have BK274 := qa.mk hbox; have GW274 := zG hg HB; have GE274 := zG hg HB; replace HO_3 := qa.mk (Kd.R_below (Kd.R_elderB (zr HO_3.out) gb274 (Nat.le_of_eq hg.symm)) hb); replace HO_9 := qa.mk (Kd.R_below (Kd.R_elderB (zr HO_9.out) gb274 (Nat.le_of_eq hg.symm)) hb); replace HB := zH hb HB; clear hb hbox hg; obtain ⟨hcz31_0, hfz31_0⟩ := zC1 BK274) | ((with_reducible refine Va (f := 79) rfl ?_); refine zl 17 Tryz.func79 #[.int .i64 a0, .func (.func 110) #[] #[.pointer (some ⟨gb274, 0, none⟩)]] ?_; (with_reducible refine (Je.calls k1 a0 (rd t270 x11_1) t275 t276 _ gb274 (by first | exact (Ya (zb BK274.out) 0).trans rfl | exact (Ya (Yb (zb BK274.out) 0 _ rfl) 0).trans rfl | exact zb BK274.out) A10.out).mono ?_); rintro e w32 ⟨v277, rfl, ho0, hb⟩; refine ⟨_, rfl, ?_⟩; have HO278 := qa.mk (Kd.R_lower ho0 (Ua (zh HB.out))); replace HO_3 := qa.mk (Kd.R_below (by (with_reducible repeat (first | apply Kd.R_alloc | apply Kd.R_drewN | apply Kd.R_drew)); exact (Kd.R_mono (Kd.R_far (p := ⟨gb274, 0, none⟩) (Kd.R_mono HO_3.out (fun k_ hk => (⟨hk, hk.2⟩ : _ ∧ k_ ≠ gb274))) (fun _ hk => hk.2) (.int .i64 (rd t270 x11_1))) (fun _ h_ => h_.1))) hb); replace HO_9 := qa.mk (Kd.R_below (by (with_reducible repeat (first | apply Kd.R_alloc | apply Kd.R_drewN | apply Kd.R_drew)); exact (Kd.R_mono (Kd.R_far (p := ⟨gb274, 0, none⟩) (Kd.R_mono HO_9.out (fun k_ hk => (⟨hk, hk.2⟩ : _ ∧ k_ ≠ gb274))) (fun _ hk => hk.2) (.int .i64 (rd t270 x11_1))) (fun _ h_ => h_.1))) hb); replace BK274 := qa.mk (Na (g := gb274) (o := .cells #[.int .i64 (rd t270 x11_1)] 3 (0, 0)) (by (with_reducible repeat (first | refine Ca ?_ _ | refine Ra ?_ | refine Qa ?_ _)); refine Yb (cs := #[.int .i64 0]) ?_ 0 _ rfl; exact zb BK274.out) hb); replace HB := zH hb HB; clear hb; (try clear ho0)) | ((with_reducible refine Ma (N := 6) rfl ?_); refine zq 6 #[.int .i64 0, .slice none 0 0] 62 ?_; intro gb279 hg w33 hbox hb; have BK279 := qa.mk hbox; have GW279 := zG hg HB; have GE279 := zG hg HB; have NB274_279 := zNa hg BK274; have NB279_274 := zNb hg BK274; replace HO_3 := qa.mk (Kd.R_below (zr HO_3.out) hb); replace HO_9 := qa.mk (Kd.R_below (zr HO_9.out) hb); replace HO278 := qa.mk (Kd.R_below (zr HO278.out) hb); replace BK274 := zK BK274 hb; replace HB := zH hb HB; clear hb hbox hg; have hnb34 := NB279_274.out; have hnc34 := NB274_279.out; obtain ⟨hcz35_0, hcz35_1, hfz35_0, hfz35_1⟩ := zC2 BK279; obtain ⟨Ao36, co36, eo36⟩ := Kd.R_slice HO278.out; subst eo36))
   have n0_ : qa (Kd.R k24 24 ((w33.setCell ⟨gb279, 0, none⟩ (.int .i64 t275)).setCell ⟨gb279, 1, none⟩ (.slice Ao36 t276.length co36)) w.heap.size (fun k_ => some k_ ≠ (.slice (some ad273) t270.length co6 : Value).ownBlock ∧ k_ ≠ gb274) u3 x3_1) := ⟨by (with_reducible repeat (first | apply Kd.R_alloc | apply Kd.R_drewN | apply Kd.R_drew)); exact Kd.R_mono (Kd.R_far (p := ⟨gb279, 1, none⟩) (Kd.R_far (p := ⟨gb279, 0, none⟩) (Kd.R_types HO_3.out BK279.out (by decide)) (fun _ hk => hk.2) (.int .i64 t275)) (fun _ hk => hk.2) (.slice Ao36 t276.length co36)) (fun _ hk => ⟨hk.1.1, hk.1.2⟩)⟩;have n1_ : qa (Kd.R (Kd.int .i64) 3 ((w33.setCell ⟨gb279, 0, none⟩ (.int .i64 t275)).setCell ⟨gb279, 1, none⟩ (.slice Ao36 t276.length co36)) w.heap.size (fun k_ => k_ ≠ gb274) (.slice (some ad273) t270.length co6) t270) := ⟨by (with_reducible repeat (first | apply Kd.R_alloc | apply Kd.R_drewN | apply Kd.R_drew)); exact Kd.R_mono (Kd.R_far (p := ⟨gb279, 1, none⟩) (Kd.R_far (p := ⟨gb279, 0, none⟩) (Kd.R_types HO_9.out BK279.out (by decide)) (fun _ hk => hk.2) (.int .i64 t275)) (fun _ hk => hk.2) (.slice Ao36 t276.length co36)) (fun _ hk => hk.1.2)⟩;have n2_ : qa (Kd.R Kd.bool 4 ((w33.setCell ⟨gb279, 0, none⟩ (.int .i64 t275)).setCell ⟨gb279, 1, none⟩ (.slice Ao36 t276.length co36)) w.heap.size (fun _ => True) (.slice Ao36 t276.length co36) t276) := ⟨by (with_reducible repeat (first | apply Kd.R_alloc | apply Kd.R_drewN | apply Kd.R_drew)); exact Kd.R_mono (Kd.R_far (p := ⟨gb279, 1, none⟩) (Kd.R_far (p := ⟨gb279, 0, none⟩) (Kd.R_types HO278.out BK279.out (by decide)) (fun _ hk => hk.2) (.int .i64 t275)) (fun _ hk => hk.2) (.slice Ao36 t276.length co36)) (fun _ hk => trivial)⟩;have n3_ : qa (((w33.setCell ⟨gb279, 0, none⟩ (.int .i64 t275)).setCell ⟨gb279, 1, none⟩ (.slice Ao36 t276.length co36)).heap[gb274]? = some (.cells #[.int .i64 (rd t270 x11_1)] 3 (0, 0))) := ⟨zf2 BK274.out NB274_279.out NB274_279.out⟩;have n4_ : qa (((w33.setCell ⟨gb279, 0, none⟩ (.int .i64 t275)).setCell ⟨gb279, 1, none⟩ (.slice Ao36 t276.length co36)).heap[gb279]? = some (.cells #[.int .i64 t275, .slice Ao36 t276.length co36] 62 (0, 0))) := ⟨by (with_reducible repeat (first | refine Ca ?_ _ | refine Ra ?_ | refine Qa ?_ _)); refine Yb (cs := #[.int .i64 t275, .slice none 0 0]) ?_ 1 _ rfl; (with_reducible repeat (first | refine Ca ?_ _ | refine Ra ?_ | refine Qa ?_ _)); refine Yb (cs := #[.int .i64 0, .slice none 0 0]) ?_ 0 _ rfl; exact zb BK279.out⟩;have n5_ : qa (Below w.heap.size w ((w33.setCell ⟨gb279, 0, none⟩ (.int .i64 t275)).setCell ⟨gb279, 1, none⟩ (.slice Ao36 t276.length co36))) := ⟨zh HB.out⟩;(try clear HO_3)
   (try clear HO_9)
   (try clear HO278)
   (try clear BK274)
   (try clear BK279)
   (try clear HB)
   generalize ((w33.setCell ⟨gb279, 0, none⟩ (.int .i64 t275)).setCell ⟨gb279, 1, none⟩ (.slice Ao36 t276.length co36)) = w37 at n0_ n1_ n2_ n3_ n4_ n5_ ⊢;have HO_3 := n0_;have HO_9 := n1_;have HO278 := n2_;have BK274 := n3_;have BK279 := n4_;have HB := n5_;clear n0_ n1_ n2_ n3_ n4_ n5_;have n0_ := qa.mk (Kd.R_drew HO_3.out);have n1_ := qa.mk (Kd.R_drew HO_9.out);have n2_ := qa.mk (Kd.R_drew HO278.out);have n3_ := qa.mk (Ra BK274.out);have n4_ := qa.mk (Ra BK279.out);have n5_ := qa.mk (Ud HB.out);clear HO_3 HO_9 HO278 BK274 BK279 HB;have HO_3 := n0_;have HO_9 := n1_;have HO278 := n2_;have BK274 := n3_;have BK279 := n4_;have HB := n5_;clear n0_ n1_ n2_ n3_ n4_ n5_;have p280 : 0 ≤ (0 : Int) := (by omega);have q280 : 0 < (t276.length : Int) := zk;obtain ⟨ad280, e280, hx280_0⟩ := Kd.at_bool (Kd.R_reads' HO278.out).2.2 0 p280 q280;(try rw [← Nbq12.out] at hx280_0)
   (try rw [← Nbq26.out] at hx280_0)
   cases e280;have qi280 : (0 < t276.length) = True := eq_true (by omega);(try rw [show ((0 : Int)).toNat = 0 from rfl] at hx280_0)
   (try rw [Addr.add_zero'] at hx280_0)
   replace p280 := eq_true p280;replace q280 := eq_true q280;obtain ⟨⟨ad282, e282, hx282_0⟩, p282, q282⟩ := zW (Kd.at_bool (Kd.R_reads' HO278.out).2.2 t281);(try rw [← Nbq12.out] at hx282_0)
   (try rw [← Nbq26.out] at hx282_0)
   obtain rfl : ad280 = ad282 := (by injection e282);refine Kg (n := 13) (S := fun w' => w'.cell? ⟨gb279, 0, none⟩ = some (.int .i64 t275) ∧ w'.cell? ⟨gb279, 1, none⟩ = some (.slice (some ad280) t276.length co36) ∧ w'.cell? ad280 = some (.bool false) ∧ w'.cell? (ad280.add (t281).toNat) = some (.bool true)) (ds := []) (tb 13 0) (by kernel_rfl) rfl rfl ⟨(Ya BK279.out 0).trans rfl, (Ya BK279.out 1).trans rfl, hx280_0, hx282_0⟩ (fun hHeld => ?_); refine Ug Fa.tab6 Fa.bits6 (fun HT_ HW_ => ?_);generalize w37.drew = w38 at HO_3 HO_9 HO278 BK274 BK279 HB hx280_0 hx282_0 hHeld ⊢;refine zu (i := 0) (N := some 18) (tb 13 1) rfl rfl HT_ ?_;refine zt (i := 1) (N := some 19) (tb 13 3) rfl rfl (Wd HT_.out HW_.out (by kernel_rfl)) hHeld ?_;refine zu (i := 2) (N := some 20) (tb 13 7) rfl rfl HT_ ?_;refine zt (i := 3) (N := some 21) (tb 13 15) rfl rfl (Wd HT_.out HW_.out (by kernel_rfl)) hHeld ?_;refine zu (i := 4) (N := some 22) (tb 13 31) rfl rfl HT_ ?_;refine zu (i := 5) (N := some 23) (tb 13 63) rfl rfl HT_ ?_;refine zu (i := 6) (N := some 24) (tb 13 127) rfl rfl HT_ ?_;refine zt (i := 7) (N := some 25) (tb 13 255) rfl rfl (Wd HT_.out HW_.out (by kernel_rfl)) hHeld ?_;refine zt (i := 8) (N := some 26) (tb 13 511) rfl rfl (Wd HT_.out HW_.out (by kernel_rfl)) hHeld ?_;refine Uj (i := 9) (N := some 27) (tb 13 1023) rfl rfl (Gh HT_.out (by kernel_rfl)) (by decide) (fun K hK => ?_);refine Di Tryz.func112 (by kernel_rfl) rfl #[.agg #[.int .i64 t275, .slice (some ad280) t276.length co36]] (by rfl) rfl rfl (by (try simp only [List.map_toArray, List.map_cons, List.map_nil]); first | done | rfl | (simp only [List.length_drop, List.length_take]; rfl)) ?_
   with_reducible refine (Xh.calls t275 _ _ t276 t281 _ ?side1 ?side2 A23.out).mono ?_
   (case side1 => repeat (first | exact (Kd.R_reads' HO278.out).2.2 | (with_reducible refine Kd.C_alloc ?_ _) | (with_reducible refine Kd.C_drewN ?_ _) | (with_reducible refine Kd.C_drew ?_)))
   (case side2 => exact (Kd.R_reads' HO278.out).2.1)
   rintro e w39 ⟨rfl, hb⟩;have HS2_ := (hb.cell (World.block_lt_of_cell? _ _ (hHeld.2.2.1))).trans (hHeld.2.2.1);have HS3_ := (hb.cell (World.block_lt_of_cell? _ _ (hHeld.2.2.2))).trans (hHeld.2.2.2);refine ⟨_, rfl, ?_⟩;have n0_ := qa.mk (Kd.R_below (zr HO_3.out) hb);have n1_ := qa.mk (Kd.R_below (zr HO_9.out) hb);have n2_ := qa.mk (Kd.R_below (zr HO278.out) hb);have n3_ := qa.mk (Na (g := gb274) (o := .cells #[.int .i64 (rd t270 x11_1)] 3 (0, 0)) (zb BK274.out) hb);have n4_ := qa.mk (Na (g := gb279) (o := .cells #[.int .i64 t275, .slice (some ad280) t276.length co36] 62 (0, 0)) (zb BK279.out) hb);have n5_ := qa.mk (Rc (zh HB.out) hb);clear HO_3 HO_9 HO278 BK274 BK279 HB;have HO_3 := n0_;have HO_9 := n1_;have HO278 := n2_;have BK274 := n3_;have BK279 := n4_;have HB := n5_;clear n0_ n1_ n2_ n3_ n4_ n5_;(try clear hb)
   (try clear hb2)
   (try clear hk)
   (try clear hi)
   refine hK.out _ _ ⟨(Ya BK279.out 0).trans rfl, (Ya BK279.out 1).trans rfl, HS2_, HS3_⟩ (fun hHeld => ?_);clear hK K;refine zn1 ?_;refine zu (i := 10) (N := some 28) (tb 13 2047) rfl rfl HT_ ?_;refine zt (i := 11) (N := some 29) (tb 13 4095) rfl rfl (Wd HT_.out HW_.out (by kernel_rfl)) hHeld ?_;refine zu (i := 12) (N := some 30) (tb 13 8191) rfl rfl HT_ ?_;refine Bi (Lh HT_.out (by kernel_rfl)) ?_;obtain ⟨hcz40_0, hcz40_1, hfz40_0, hfz40_1⟩ := zC2 BK279;try go_wp2_with (first | ((with_reducible refine Va (f := 36) rfl ?_); refine zl 33 Tryz.func36 #[.agg #[.int .i64 t275, .slice (some ad280) t276.length co36]] ?_; (with_reducible refine (Dc.calls k1 t275 _ _ t276 t283 t284 _ ?side1 ?side2 A28.out).mono ?_); (case side1 => exact zQ ((Kd.R_reads' HO278.out).2.2)); (case side2 => exact (Kd.R_reads' HO278.out).2.1); rintro e w41 ⟨v285, rfl, ho0, hb⟩; refine ⟨_, rfl, ?_⟩; have HO286 := qa.mk (Kd.S_lower (Kd.S_newB (Kd.S_new' ho0 (Kd.R_lt (zr HO_9.out))) (g := gb274) (o := .cells #[.int .i64 (rd t270 x11_1)] 3 (0, 0)) (zb BK274.out)) (Ua (zh HB.out))); replace HO_3 := qa.mk (Kd.R_elder' (zr HO_3.out) (Kd.S_base ho0) hb); replace HO_9 := qa.mk (Kd.R_below (zr HO_9.out) hb); replace HO278 := qa.mk (Kd.R_below (zr HO278.out) hb); replace BK274 := zK BK274 hb; replace BK279 := zK BK279 hb; replace HB := zH hb HB; clear hb; (try clear ho0); obtain ⟨Ao43, co43, eo43⟩ := Kd.S_slice HO286.out; subst eo43) | ((with_reducible refine Uc (b := .append) (xs := #[.tmp 31, .tmp 34]) rfl ?_); at_builtin; refine Kd.R_append k24 (w0 := w) w.heap.size rfl (.tmp 31) (.tmp 34) 47 24 (.agg #[(.int .i64 0), (.slice none 0 0)]) 32 rfl Tryz.underlying47 Oj rfl (by decide) (by omega) u3 x3_1 (⟨t283, t284⟩ : S24) [.int .i64 t283, .slice Ao43 t284.length co43] (fun k_ => some k_ ≠ (.slice (some ad273) t270.length co6 : Value).ownBlock ∧ k_ ≠ gb274) (fun k_ => ((fun k_ => some k_ ≠ (.slice (some ad273) t270.length co6 : Value).ownBlock ∧ k_ ≠ gb274)) k_ ∧ some k_ ≠ (u3 : Value).ownBlock) rfl rfl ?aP (fun _ hk => hk) ?aF ?aO ?aB ?aS ?aL ?_; (case aP => exact FB _ _ _ (⟨t283, t284⟩ : S24) (Kd.R_mono (Kd.R_apart' ((Kd.S_R HO286.out)) (Kd.R_typed HO_3.out) (by decide)) (fun k_ hk => ⟨⟨hk.1.1.2, hk.1.2⟩, hk.2⟩))); (case aB => exact (zh HB.out)); (case aF => exact (fun k_ hk => ⟨Kd.fresh' (Kd.R_lt (zr HO_9.out)) k_ hk, Kd.freshB (g := gb274) (o := .cells #[.int .i64 (rd t270 x11_1)] 3 (0, 0)) (zb BK274.out) k_ hk⟩)); (case aO => exact (by (with_reducible repeat (first | apply Kd.R_alloc | apply Kd.R_drewN | apply Kd.R_drew)); exact Kd.R_mono HO_3.out (fun _ hk => ⟨hk.1.1, hk.1.2⟩))); (case aS => exact (Ua (zh HB.out))); (case aL => have := LMc29.out; omega); intro v288 w42 ho hb hg hat; rw [← Ny287.out] at ho; have HO289 := qa.mk (ho); replace HO_9 := qa.mk (Kd.R_over' (zr HO_9.out) (Kd.R_typed (zr HO_3.out)) (by decide) hg); replace BK274 := qa.mk (Qe (g := gb274) (o := .cells #[.int .i64 (rd t270 x11_1)] 3 (0, 0)) (zb BK274.out) hg (Kd.R_ne HO_3.out BK274.out (by decide))); replace HO278 := qa.mk (Kd.R_over' (zr HO278.out) (Kd.R_typed (zr HO_3.out)) (by decide) hg); replace BK279 := qa.mk (Qe (g := gb279) (o := .cells #[.int .i64 t275, .slice (some ad280) t276.length co36] 62 (0, 0)) (zb BK279.out) hg (Kd.R_ne HO_3.out BK279.out (by decide))); replace HB := qa.mk (hb); clear HO_3 HO286 ho hb hg hat))
   go_roundg k1;case measure => have := HK1.out; omega
   case rel => exact ⟨(y287), (wrap64 (x11_1 + 1)), zE, H', zO HK1, ⟨zr (Kd.R_mono HO289.out (fun _ hk => hk.1))⟩, ⟨zr (Kd.R_mono HO_9.out (fun _ hk => trivial))⟩, ⟨zh HB.out⟩⟩
end Go.Proofs.YtodchjdgpnpdcaaGreat.Q
end

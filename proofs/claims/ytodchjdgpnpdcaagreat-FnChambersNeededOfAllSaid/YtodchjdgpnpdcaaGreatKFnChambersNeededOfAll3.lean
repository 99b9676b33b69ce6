/- Part 3 of the proof of FnChambersNeededOfAll: what it leans on (no condition). -/
import Derived.Test.YtodchjdgpnpdcaaGreatKFnChambersNeededOfAll2
section
namespace Go.Proofs.YtodchjdgpnpdcaaGreat.Q
open Go.RowKit Go.Proofs.YtodchjdgpnpdcaaGreatW.PrintWords Go.Proofs.YtodchjdgpnpdcaaGreatW.PrintLast Go.Proofs.YtodchjdgpnpdcaaGreatW.PrintMore
attribute [local go_sem] Xm Um Pp Qp ql yl Gm Mm
set_option linter.unusedVariables false
set_option linter.unusedSimpArgs false
set_option maxHeartbeats 8000000
set_option maxRecDepth 100000
def Bf.f (k : Nat) (a0_0 : Int) (l0_1 : List (List Int)) : Option (Bool) := (Sa.f k a0_0 l0_1).bind fun t521 => (if t521 = true then (some (decide (a0_0 ≤ 5))) else (some false))
theorem Bf.calls (k : Nat) (a0_0 : Int) (A0_1 : Option Addr) (c0_1 : Nat) (l0_1 : List (List Int)) (r : Bool) (w : World) (hr0_1 : Kd.C (Kd.slice 3 (Kd.int .i64)) w A0_1 l0_1.length l0_1) (hc0_1 : l0_1.length ≤ c0_1) (h : Bf.f k a0_0 l0_1 = some r) :
 Calls Tryz.prog 32 #[.agg #[.int .i64 a0_0, .slice A0_1 l0_1.length c0_1]] w fun e w' => e = .returned (.bool r) ∧ Below w.heap.size w w' := by
 have hu24 := Tryz.underlying24;have HR0_1 := qa.mk hr0_1;have HC0_1 := qa.mk hc0_1;clear hr0_1 hc0_1;have HB := qa.mk (Below.refl w.heap.size w);have H : ((Sa.f k a0_0 l0_1).bind fun t521 => (if t521 = true then (some (decide (a0_0 ≤ 5))) else (some false))) = some r := h;clear h;replace H := zB0 H;obtain ⟨t521, A20, H⟩ := H;have A2 := qa.mk A20;clear A20;by_cases c3 : t521 = true
 rotate_left
 ·replace c3 := Bool.eq_false_iff.mpr c3;subst c3;rw [if_neg zF] at H;obtain rfl := Option.some.inj H;go_enter Tryz.func32, Tryz.ntmps32;go_wp2_with (first | ((with_reducible refine Ma (N := 1) rfl ?_); refine zq 1 #[.int .i64 a0_0, .slice A0_1 l0_1.length c0_1] 24 ?_; intro gb520 hg w8 hbox hb; have GW520 := zG hg HB; replace HB := zH hb HB; have BK520 := qa.mk hbox; have GE520 := GW520; clear hb hbox hg; obtain ⟨hcz9_0, hcz9_1, hfz9_0, hfz9_1⟩ := zC2 BK520) | ((with_reducible refine Va (f := 56) rfl ?_); refine zl 4 Tryz.func56 #[.agg #[.int .i64 a0_0, .slice A0_1 l0_1.length c0_1]] ?_; (with_reducible refine (Sa.calls k a0_0 _ _ l0_1 false _ ?side1 ?side2 A2.out).mono ?_); (case side1 => exact zQ (Kd.C_below HR0_1.out HB.out)); (case side2 => exact HC0_1.out); rintro e w10 ⟨rfl, hb⟩; refine ⟨_, rfl, ?_⟩; replace BK520 := zK BK520 hb; replace HB := zH hb HB; clear hb));go_ret;exact ⟨zL0, zh HB.out⟩
 subst c3;rw [if_pos rfl] at H;obtain rfl := Option.some.inj H;go_enter Tryz.func32, Tryz.ntmps32;go_wp2_with (first | ((with_reducible refine Ma (N := 1) rfl ?_); refine zq 1 #[.int .i64 a0_0, .slice A0_1 l0_1.length c0_1] 24 ?_; intro gb520 hg w4 hbox hb; have GW520 := zG hg HB; replace HB := zH hb HB; have BK520 := qa.mk hbox; have GE520 := GW520; clear hb hbox hg; obtain ⟨hcz5_0, hcz5_1, hfz5_0, hfz5_1⟩ := zC2 BK520) | ((with_reducible refine Va (f := 56) rfl ?_); refine zl 4 Tryz.func56 #[.agg #[.int .i64 a0_0, .slice A0_1 l0_1.length c0_1]] ?_; (with_reducible refine (Sa.calls k a0_0 _ _ l0_1 true _ ?side1 ?side2 A2.out).mono ?_); (case side1 => exact zQ (Kd.C_below HR0_1.out HB.out)); (case side2 => exact HC0_1.out); rintro e w6 ⟨rfl, hb⟩; refine ⟨_, rfl, ?_⟩; replace BK520 := zK BK520 hb; replace HB := zH hb HB; clear hb; obtain ⟨hcz7_0, hcz7_1, hfz7_0, hfz7_1⟩ := zC2 BK520));go_ret;exact ⟨zL0, zh HB.out⟩
def Ye.f (k : Nat) (l0 : List (S40)) : Option (Bool) := (Fe.f (l0.length : Int) 1 4).bind fun t546 => (if t546 = true then ((Ei.f k l0 l0).bind fun t547 => (some (!t547))) else (some false))
theorem Ye.calls (k : Nat) (A0 : Option Addr) (c0 : Nat) (l0 : List (S40)) (r : Bool) (w : World) (hr0 : Kd.C k40 w A0 l0.length l0) (hc0 : l0.length ≤ c0) (h : Ye.f k l0 = some r) :
 Calls Tryz.prog 34 #[.slice A0 l0.length c0] w fun e w' => e = .returned (.bool r) ∧ Below w.heap.size w w' := by
 have HR0 := qa.mk hr0;have HC0 := qa.mk hc0;clear hr0 hc0;have HB := qa.mk (Below.refl w.heap.size w);have H : ((Fe.f (l0.length : Int) 1 4).bind fun t546 => (if t546 = true then ((Ei.f k l0 l0).bind fun t547 => (some (!t547))) else (some false))) = some r := h;clear h;replace H := zB0 H;obtain ⟨t546, A20, H⟩ := H;have A2 := qa.mk A20;clear A20;by_cases c3 : t546 = true
 rotate_left
 ·replace c3 := Bool.eq_false_iff.mpr c3;subst c3;rw [if_neg zF] at H;obtain rfl := Option.some.inj H;go_enter Tryz.func34, Tryz.ntmps34;go_wp2_with (first | ((with_reducible refine Ma (N := 1) rfl ?_); refine zq 1 #[.slice A0 l0.length c0] 25 ?_; intro gb545 hg w8 hbox hb; have GW545 := zG hg HB; replace HB := zH hb HB; have BK545 := qa.mk hbox; have GE545 := GW545; clear hb hbox hg; obtain ⟨hcz9_0, hfz9_0⟩ := zC1 BK545) | ((with_reducible refine Va (f := 74) rfl ?_); refine zl 5 Tryz.func74 #[.int .i64 (l0.length : Int), .int .i64 1, .int .i64 4] ?_; (with_reducible refine (Fe.calls (l0.length : Int) 1 4 false _ A2.out).mono ?_); rintro e w' ⟨rfl, ⟨nd, rfl⟩⟩; refine ⟨_, rfl, ?_⟩));go_ret;exact ⟨zL0, zh HB.out⟩
 subst c3;rw [if_pos rfl] at H;replace H := zB0 H;obtain ⟨t547, A40, H⟩ := H;have A4 := qa.mk A40;clear A40;obtain rfl := Option.some.inj H;go_enter Tryz.func34, Tryz.ntmps34;go_wp2_with (first | ((with_reducible refine Ma (N := 1) rfl ?_); refine zq 1 #[.slice A0 l0.length c0] 25 ?_; intro gb545 hg w5 hbox hb; have GW545 := zG hg HB; replace HB := zH hb HB; have BK545 := qa.mk hbox; have GE545 := GW545; clear hb hbox hg; obtain ⟨hcz6_0, hfz6_0⟩ := zC1 BK545) | ((with_reducible refine Va (f := 74) rfl ?_); refine zl 5 Tryz.func74 #[.int .i64 (l0.length : Int), .int .i64 1, .int .i64 4] ?_; (with_reducible refine (Fe.calls (l0.length : Int) 1 4 true _ A2.out).mono ?_); rintro e w' ⟨rfl, ⟨nd, rfl⟩⟩; refine ⟨_, rfl, ?_⟩) | (go_at_call 75; (with_reducible refine (Ei.calls k _ _ l0 _ _ l0 t547 _ ?side1 ?side2 ?side3 ?side4 gb545 (by first | exact (Ya (zb BK545.out) 0).trans rfl | exact (Ya (Yb (zb BK545.out) 0 _ rfl) 0).trans rfl | exact zb BK545.out) A4.out).mono ?_); (case side1 => exact zQ (Kd.C_below HR0.out (zh HB.out))); (case side2 => exact HC0.out); (case side3 => exact zQ (Kd.C_below HR0.out (zh HB.out))); (case side4 => exact HC0.out); rintro e w7 ⟨rfl, hb⟩; replace BK545 := zK BK545 hb; replace HB := zH hb HB; clear hb));go_ret;exact ⟨zL0, zh HB.out⟩
def Jj.f (k : Nat) (a0 : Int) (l1 : List S62) (win : Bool) : Option (Int × List Bool) := Ka.f k a0 (fun mask => Me.f mask l1 win)
theorem Me.pred (l : List S62) (A : Option Addr) (c : Nat) (win : Bool) (b1 b2 : Nat) (w : World) (h1 : w.heap[b1]? = some (.cells #[.slice A l.length c] 59 (0, 0))) (h2 : w.heap[b2]? = some (.cells #[.bool win] 4 (0, 0))) (hC : Kd.C k62 w A l.length l) (hc : l.length ≤ c) :
 Qt Tryz.prog 80 #[] #[.pointer (some ⟨b1, 0, none⟩), .pointer (some ⟨b2, 0, none⟩)] w (fun mask => Me.f mask l win) :=
 fun W x b hb hp => Me.calls x A c l win b W b1 (Na h1 hb) b2 (Na h2 hb) (Kd.C_below hC hb) hc hp
theorem Jj.calls (k : Nat) (a0 : Int) (A1 : Option Addr) (c1 : Nat) (l1 : List S62) (win : Bool) (r1 : Int) (r2 : List Bool) (w : World) (hr1 : Kd.C k62 w A1 l1.length l1) (hc1 : l1.length ≤ c1)
 (gb1 : Nat) (h1 : w.heap[gb1]? = some (.cells #[.slice A1 l1.length c1] 59 (0, 0))) (gb2 : Nat) (h2 : w.heap[gb2]? = some (.cells #[.bool win] 4 (0, 0))) (h : Jj.f k a0 l1 win = some (r1, r2)) :
 Calls Tryz.prog 79 #[.int .i64 a0, .func (.func 80) #[] #[.pointer (some ⟨gb1, 0, none⟩), .pointer (some ⟨gb2, 0, none⟩)]] w fun e w' => ∃ v1_ : Value, e = .returned (.agg #[.int .i64 r1, v1_]) ∧ Kd.R Kd.bool 4 w' w.heap.size (fun _ => True) v1_ r2 ∧ Below w.heap.size w w' :=
 Ka.calls k a0 _ 80 #[] #[.pointer (some ⟨gb1, 0, none⟩), .pointer (some ⟨gb2, 0, none⟩)] (enters_of Tryz.func80 (by kernel_rfl) rfl) r1 r2 w (Me.pred l1 A1 c1 win gb1 gb2 w h1 h2 hr1 hc1) h
theorem Xd.pred (k : Nat) (q : Int) (A : Option Addr) (c : Nat) (l : List Int) (b1 : Nat) (w : World) (h1 : w.heap[b1]? = some (.cells #[.int .i64 q, .slice A l.length c] 40 (0, 0))) (hC : Kd.C (Kd.int .i64) w A l.length l) (hc : l.length ≤ c) :
 Qt Tryz.prog 132 #[] #[.pointer (some ⟨b1, 0, none⟩)] w (fun m => Xd.f k m q l) := by
 intro W x b hb hp;exact Xd.calls k x q A c l b W b1 (Na h1 hb) (Kd.C_below hC hb) hc hp
theorem Ep {p q : Int → Option Bool} (h : ∀ x, LeO (p x) (q x)) : ∀ k x14 x15 x0 x1, LeO (Ka.l0 p k x14 x15 x0 x1) (Ka.l0 q k x14 x15 x0 x1)
 | 0, _, _, _, _ => fun r h => by simp [Ka.l0] at h
 | k + 1, x14, x15, x0, x1 => by
  unfold Ka.l0;exact LeO.ite (LeO.bind (h _) fun _ => LeO.ite (LeO.ite (Ep h k _ _ _ _) (LeO.refl _)) (LeO.refl _)) (LeO.refl _)
theorem Bt {p q : Int → Option Bool} (h : ∀ x, LeO (p x) (q x)) (k : Nat) (n : Int) : LeO (Ka.f k n p) (Ka.f k n q) := by
 unfold Ka.f;exact LeO.ite (LeO.ite (LeO.ite (LeO.bind (LeO.refl _) fun _ => Ep h k _ _ _ _) (LeO.refl _)) (LeO.refl _)) (LeO.refl _)
def Ic.f (k : Nat) (a0_0 : Int) (l0_1 : List Int) : Option (Int × List Bool) := Ka.f k (l0_1.length : Int) (fun m => Xd.f k m a0_0 l0_1)
theorem Ic.calls (k : Nat) (a0_0 : Int) (A0_1 : Option Addr) (c0_1 : Nat) (l0_1 : List Int) (r1 : Int) (r2 : List Bool) (w : World) (hr0_1 : Kd.C (Kd.int .i64) w A0_1 l0_1.length l0_1) (hc0_1 : l0_1.length ≤ c0_1) (h : Ic.f k a0_0 l0_1 = some (r1, r2)) :
 Calls Tryz.prog 78 #[.agg #[.int .i64 a0_0, .slice A0_1 l0_1.length c0_1]] w fun e w' => ∃ v1_ : Value, e = .returned (.agg #[.int .i64 r1, v1_]) ∧ Kd.R Kd.bool 4 w' w.heap.size (fun _ => True) v1_ r2 ∧ Below w.heap.size w w' := by
 have HR := qa.mk hr0_1;have HC := qa.mk hc0_1;have HH := qa.mk h;have HB := qa.mk (Below.refl w.heap.size w);have EG := qa.mk (enters_of (P := Tryz.prog) Tryz.func132 (by kernel_rfl) rfl);have hu1 := Tryz.underlying40;have hu2 := Tryz.underlying62;clear hr0_1 hc0_1 h;go_enter Tryz.func78, Tryz.ntmps78;go_wp2_with (first
  | ((with_reducible refine Ma (N := 1) rfl ?_); refine Bg ?hg (N := 1) ?hd (cs := #[.int .i64 a0_0, .slice A0_1 l0_1.length c0_1]) (t := 40) ?hr ?_; (case hd => rfl); (case hg => rfl); (case hr => first | (go_simp; done) | (go_simp; rfl)); intro g1 hg w1 hbox hb; have B1 := qa.mk (Rc HB.out hb); have K1 := qa.mk hbox; clear hb hbox hg HB)
  | ((with_reducible refine Ma (N := 2) rfl ?_); refine Bg ?hg (N := 2) ?hd (cs := #[.int .i64 0, .slice none 0 0]) (t := 62) ?hr ?_; (case hd => rfl); (case hg => rfl); (case hr => first | (go_simp; done) | (go_simp; rfl)); intro g2 hg w2 hbox hb; have GE := qa.mk ((by rw [hg]; exact Ua B1.out) : w.heap.size ≤ g2); have K1' := qa.mk (Na K1.out hb); have B2 := qa.mk (Rc B1.out hb); have K2 := qa.mk hbox; have NE := qa.mk ((by rw [hg]; exact Nat.ne_of_lt (Lf K1.out)) : g1 ≠ g2); clear K1 B1 hb hbox hg; have hne := NE.out; have hne' := Ne.symm hne; have q10 : w2.cell? ⟨g1, 0, none⟩ = some (.int .i64 a0_0) := (Ya K1'.out 0).trans rfl; have q11 : w2.cell? ⟨g1, 1, none⟩ = some (.slice A0_1 l0_1.length c0_1) := (Ya K1'.out 1).trans rfl)
  | (go_at_call 79; refine (Ka.calls k (l0_1.length : Int) _ 132 #[] #[.pointer (some ⟨g1, 0, none⟩)] EG.out r1 r2 _ (Xd.pred k a0_0 A0_1 c0_1 l0_1 g1 _ K1'.out (Kd.C_below HR.out B2.out) HC.out) HH.out).mono ?_; rintro e w3 ⟨v, rfl, hR, hb⟩; obtain ⟨Av, cv, rfl⟩ := Kd.R_slice hR; have HO := qa.mk (Kd.R_lower hR (Ua B2.out)); have K3 := qa.mk (Na K2.out hb); have B3 := qa.mk (Rc B2.out hb); clear K1' K2 B2 q10 q11 hR hb; have q20 : w3.cell? ⟨g2, 0, none⟩ = some (.int .i64 0) := (Ya K3.out 0).trans rfl; have q21 : w3.cell? ⟨g2, 1, none⟩ = some (.slice none 0 0) := (Ya K3.out 1).trans rfl; have f20 := Ea K3.out 0; have f21 := Ea K3.out 1))
 refine bodyPost_ret (results_cell_row rfl _ _ g2 62 #[.int .i64 r1, .slice Av r2.length cv] (0, 0) _ rfl (by refine Yb (cs := #[.int .i64 r1, .slice none 0 0]) ?_ 1 _ rfl; refine Yb (cs := #[.int .i64 0, .slice none 0 0]) ?_ 0 _ rfl; exact K3.out) Tryz.underlying62 rfl (by kernel_rfl)) rfl ?_;exact ⟨_, rfl, Kd.R_mono (Kd.R_far (p := ⟨g2, 1, none⟩) (Kd.R_far (p := ⟨g2, 0, none⟩) (Kd.R_types HO.out K3.out (by decide)) (fun _ hk => hk.2) _) (fun _ hk => hk.2) _) (fun _ _ => trivial), Re (Re B3.out GE.out) GE.out⟩
def Jb.l0 : Nat → List (S40) → Int → Int → Bool → List (S62) → Option (Int × List Bool)
 | 0, _, _, _, _, _ => none
 | k + 1, x9, x10, x11, x555000, x560000 => if x11 < x10 then (if 0 ≤ x11 then (if x11 < (x9.length : Int) then ((Ic.f k ((yc x9 x11).f0) ((yc x9 x11).f1)).bind fun bt562 => (if x560000.length < 4398046511104 then (Jb.l0 k x9 x10 (wrap64 (x11 + 1)) x555000 (x560000 ++ [(⟨bt562.1, bt562.2⟩ : S62)])) else (none))) else (none)) else (none)) else (if 0 < (x560000.length : Int) then ((Jj.f k ((Oe x560000 0).f0) x560000 x555000).bind fun bt570 => (some (bt570.1, bt570.2))) else (none))
def Jb.f (k : Nat) (l0 : List (S40)) (a1 : Bool) : Option (Int × List Bool) := Jb.l0 k l0 (l0.length : Int) 0 a1 (([] : List (S62)))
theorem Jb.calls (k : Nat) (A0 : Option Addr) (c0 : Nat) (l0 : List (S40)) (a1 : Bool) (r1 : Int) (r2 : List Bool) (w : World) (hr0 : Kd.C k40 w A0 l0.length l0) (hc0 : l0.length ≤ c0) (h : Jb.f k l0 a1 = some (r1, r2)) :
 Calls Tryz.prog 35 #[.slice A0 l0.length c0, .bool a1] w fun e w' => ∃ v1_ : Value, e = .returned (.agg #[.int .i64 r1, v1_]) ∧ Kd.R Kd.bool 4 w' w.heap.size (fun _ => True) v1_ r2 ∧ Below w.heap.size w w' := by
 have hu62 := Tryz.underlying62;have hu40 := Tryz.underlying40;have HR0 := qa.mk hr0;have HC0 := qa.mk hc0;clear hr0 hc0;have HB := qa.mk (Below.refl w.heap.size w);have H : (Jb.l0 k l0 (l0.length : Int) 0 a1 (([] : List (S62)))) = some (r1, r2) := h;clear h;obtain ⟨y556, hy556⟩ : ∃ y_ : List (S62), y_ = (([] : List (S62))) := ⟨_, rfl⟩;rw [← hy556] at H;have Ny556 := qa.mk hy556;clear hy556;have H' := qa.mk H;clear H;go_enter Tryz.func35, Tryz.ntmps35;go_wp2_with (first | ((with_reducible refine Ma (N := 3) rfl ?_); refine zq 3 #[.bool a1] 4 ?_; intro gb554 hg w3 hbox hb; have GW554 := zG hg HB; replace HB := zH hb HB; have BK554 := qa.mk hbox; have GE554 := GW554; clear hb hbox hg) | ((with_reducible refine Ma (N := 4) rfl ?_); refine zq 4 #[.int .i64 0, .slice none 0 0] 62 ?_; intro gb555 hg w4 hbox hb; have BK555 := qa.mk hbox; have GW555 := zG hg HB; have GE555 := zG hg HB; have NB554_555 := zNa hg BK554; have NB555_554 := zNb hg BK554; replace BK554 := zK BK554 hb; replace HB := zH hb HB; clear hb hbox hg) | ((with_reducible refine Ma (N := 8) rfl ?_); refine Kd.S_lit k62 _ 62 ?hg (N := 8) ?hd (xs := ([] : List (S62))) (inner := []) (ok := fun _ => True) (okp := fun _ => True) ?hr ?hp (fun _ hk => hk) trivial (Below.refl _ _) (Nat.le_refl _) (by simp) ?_; (case hd => rfl); (case hg => rfl); (case hr => first | (go_simp; done) | (go_simp; rfl)); (case hp => exact (qg.none _ _)); intro v557 w5 ho6 hb hg_ hnew_; clear hg_ hnew_; (first | rw [← Ny556.out] at ho6 | (simp only [Int.reduceToNat] at ho6; rw [← Ny556.out] at ho6)); have HO558 := qa.mk (Kd.S_lower (Kd.S_newB (Kd.S_newB ho6 (g := gb554) (o := .cells #[.bool a1] 4 (0, 0)) (zb BK554.out)) (g := gb555) (o := .cells #[.int .i64 0, .slice none 0 0] 62 (0, 0)) (zb BK555.out)) (Ua (zh HB.out))); replace BK554 := zK BK554 hb; replace BK555 := zK BK555 hb; replace HB := zH hb HB; clear hb ho6) | ((with_reducible refine Ma (N := 5) rfl ?_); refine zq 5 #[.slice none 0 0] 59 ?_; intro gb559 hg w7 hbox hb; have BK559 := qa.mk hbox; have GW559 := zG hg HB; have GE559 := zG hg HB; have NB554_559 := zNa hg BK554; have NB559_554 := zNb hg BK554; have NB555_559 := zNa hg BK555; have NB559_555 := zNb hg BK555; replace HO558 := qa.mk (Kd.S_below (by (with_reducible repeat (first | apply Kd.S_alloc | apply Kd.S_drewN | apply Kd.S_drew)); exact HO558.out) hb); replace BK554 := zK BK554 hb; replace BK555 := zK BK555 hb; replace HB := zH hb HB; clear hb hbox hg; obtain ⟨Ao8, co8, eo8⟩ := Kd.S_slice HO558.out; subst eo8; have hnb9 := NB559_554.out; have hnc9 := NB554_559.out; have hnb10 := NB559_555.out; have hnc10 := NB555_559.out; obtain ⟨hcz11_0, hfz11_0⟩ := zC1 BK559));go_loopg [11] k (fun kq v11 w' => ∃ (x11_1 : Int) (x560000_1 : List (S62)) (u560000 : Value), v11 = .int .i64 x11_1 ∧ qa (Jb.l0 kq l0 (l0.length : Int) x11_1 a1 x560000_1 = some (r1, r2)) ∧ qa (kq ≤ k) ∧ qa (Kd.S k62 62 w' w.heap.size (fun k_ => k_ ≠ gb554 ∧ k_ ≠ gb555) u560000 x560000_1) ∧ qa (w'.heap[gb554]? = some (.cells #[.bool a1] 4 (0, 0))) ∧ qa (w'.heap[gb555]? = some (.cells #[.int .i64 0, (.slice none 0 0)] 62 (0, 0))) ∧ qa (w'.heap[gb559]? = some (.cells #[u560000] 59 (0, 0))) ∧ qa (Below w.heap.size w w'));case atStart => exact ⟨(0), (y556), (.slice Ao8 y556.length co8), zE, H', ⟨Nat.le_refl _⟩, ⟨by (with_reducible repeat (first | apply Kd.S_alloc | apply Kd.S_drewN | apply Kd.S_drew)); exact Kd.S_mono (Kd.S_far (p := ⟨gb559, 0, none⟩) (Kd.S_types HO558.out BK559.out (by decide)) (fun _ hk => hk.2) (.slice Ao8 y556.length co8)) (fun _ hk => ⟨hk.1.1.2, hk.1.2⟩)⟩, ⟨zf1 BK554.out NB554_559.out⟩, ⟨zf1 BK555.out NB555_559.out⟩, ⟨by (with_reducible repeat (first | refine Ca ?_ _ | refine Ra ?_ | refine Qa ?_ _)); refine Yb (cs := #[.slice none 0 0]) ?_ 0 _ rfl; exact zb BK559.out⟩, ⟨zh HB.out⟩⟩
 case round =>
  clear H';try clear c1
  try clear p2
  try clear c3
  try clear c9
  try clear c10
  try clear hcz11_0
  try clear hfz11_0
  obtain ⟨x11_1, x560000_1, u560000, rfl, HA, HK1, HO_560000, BK554, BK555, BK559, HB⟩ := hrel;cases gk with
  | zero => exact absurd HA.out (by simp [Jb.l0])
  | succ k1 =>
   have H := HA.out;clear HA;simp only [Jb.l0] at H;by_cases c12 : x11_1 < (l0.length : Int)
   rotate_left
   ·rw [if_neg c12] at H;have c12b0 := decide_eq_false c12;clear c12;by_cases c29 : 0 < (x560000_1.length : Int)
    rotate_left
    ·rw [if_neg c29] at H;cases H
    rw [if_pos c29] at H;have c29b0 := decide_eq_true c29;have c29b1 : decide (0 < x560000_1.length) = true := decide_eq_true (by omega);clear c29;replace H := zB0 H;obtain ⟨⟨t570, t571⟩, A300, H⟩ := H;replace H : (some (t570, t571)) = some (r1, r2) := H;have A30 := qa.mk A300;clear A300;simp only [Option.some.injEq, Prod.mk.injEq] at H;obtain ⟨rfl, rfl⟩ := H;have hnb31 := NB559_554.out;have hnc31 := NB554_559.out;have hnb32 := NB559_555.out;have hnc32 := NB555_559.out;obtain ⟨hcz33_0, hfz33_0⟩ := zC1 BK559;obtain ⟨Ao34, co34, eo34⟩ := Kd.S_slice HO_560000.out;subst eo34;have p569 : 0 ≤ (0 : Int) := (by omega);have q569 : 0 < (x560000_1.length : Int) := zk;obtain ⟨ad569, A569_1, c569_1, e569, hx569_0, hx569_1, hl569_1, hi569_1⟩ := CB (Kd.S_reads' HO_560000.out).2.2 0 p569 q569;cases e569;obtain ⟨ce569, hce569, hMe569, hcc569⟩ := Kd.S_get HO_560000.out z62 0 p569 (by first | exact q569 | exact zk | (have e_ := (Kd.S_reads' HO_560000.out).1; omega));obtain ⟨ve569_1, rfl, ge569_1⟩ := BB hMe569;have hv569_1 := hcc569 1 _ rfl;rw [Vh _ _ 1 (by omega)] at hv569_1;replace hv569_1 := Option.some.inj (hv569_1.symm.trans hx569_1);rw [hv569_1] at ge569_1;have HL569_1 := qa.mk (show Kd.R Kd.bool 4 _ _ _ _ ((Oe x560000_1 0).f1) from ge569_1);clear hv569_1 ge569_1 hcc569 hce569;have qi569 : (0 < x560000_1.length) = True := eq_true (by omega);(try rw [show ((0 : Int)).toNat = 0 from rfl] at hx569_0)
    (try rw [show 0 * 2 = 0 from rfl] at hx569_0)
    (try rw [Addr.add_zero'] at hx569_0)
    (try rw [show ((0 : Int)).toNat = 0 from rfl] at hx569_1)
    (try rw [show 0 * 2 = 0 from rfl] at hx569_1)
    (try rw [Addr.add_zero'] at hx569_1)
    have HR569_1 := qa.mk hi569_1;have HC569_1 := qa.mk hl569_1;clear hi569_1 hl569_1;replace p569 := eq_true p569;replace q569 := eq_true q569;go_wp2_with (first | ((with_reducible refine Va (f := 79) rfl ?_); refine zl 26 Tryz.func79 #[.int .i64 ((Oe x560000_1 0).f0), .func (.func 80) #[] #[.pointer (some ⟨gb559, 0, none⟩), .pointer (some ⟨gb554, 0, none⟩)]] ?_; (with_reducible refine (Jj.calls k1 ((Oe x560000_1 0).f0) _ _ x560000_1 a1 t570 t571 _ ?side1 ?side2 gb559 (by first | exact (Ya (zb BK559.out) 0).trans rfl | exact (Ya (Yb (zb BK559.out) 0 _ rfl) 0).trans rfl | exact zb BK559.out) gb554 (by first | exact (Ya (zb BK554.out) 0).trans rfl | exact (Ya (Yb (zb BK554.out) 0 _ rfl) 0).trans rfl | exact zb BK554.out) A30.out).mono ?_); (case side1 => exact zQ ((Kd.S_reads' HO_560000.out).2.2)); (case side2 => exact (Kd.S_reads' HO_560000.out).2.1); rintro e w35 ⟨v572, rfl, ho0, hb⟩; refine ⟨_, rfl, ?_⟩; have HO573 := qa.mk (Kd.R_lower (Kd.R_newB (Kd.R_new' ho0 (Kd.R_lt (zr HL569_1.out))) (g := gb554) (o := .cells #[.bool a1] 4 (0, 0)) (zb BK554.out)) (Ua (zh HB.out))); replace HO_560000 := qa.mk (Kd.S_elder' (by (with_reducible repeat (first | apply Kd.S_alloc | apply Kd.S_drewN | apply Kd.S_drew)); exact HO_560000.out) (Kd.R_base ho0) hb); replace HL569_1 := qa.mk (Kd.R_elder' (zr HL569_1.out) (Kd.R_base ho0) hb); replace BK554 := zK BK554 hb; replace BK555 := zK BK555 hb; replace BK559 := zK BK559 hb; replace HR569_1 := qa.mk (Kd.C_below (by repeat (first | (with_reducible exact HR569_1.out) | (with_reducible refine Kd.C_alloc ?_ _) | (with_reducible refine Kd.C_drewN ?_ _) | (with_reducible refine Kd.C_drew ?_) | exact HR569_1.out)) hb); replace HB := zH hb HB; clear hb; (try clear ho0); have hnb36 := NB555_554.out; have hnc36 := NB554_555.out; obtain ⟨hcz37_0, hcz37_1, hfz37_0, hfz37_1⟩ := zC2 BK555; obtain ⟨Ao38, co38, eo38⟩ := Kd.R_slice HO573.out; subst eo38));refine bodyPost_ret (results_cell_row rfl _ _ gb555 62 #[.int .i64 t570, .slice Ao38 t571.length co38] (0, 0) _ rfl (by (with_reducible repeat (first | refine Ca ?_ _ | refine Ra ?_ | refine Qa ?_ _)); refine Yb (cs := #[.int .i64 t570, .slice none 0 0]) ?_ 1 _ rfl; (with_reducible repeat (first | refine Ca ?_ _ | refine Ra ?_ | refine Qa ?_ _)); refine Yb (cs := #[.int .i64 0, .slice none 0 0]) ?_ 0 _ rfl; exact zb BK555.out) Tryz.underlying62 rfl (by kernel_rfl)) rfl ?_;exact ⟨_, zL0, by (with_reducible repeat (first | apply Kd.R_alloc | apply Kd.R_drewN | apply Kd.R_drew)); exact Kd.R_mono (Kd.R_far (p := ⟨gb555, 1, none⟩) (Kd.R_far (p := ⟨gb555, 0, none⟩) (Kd.R_types HO573.out BK555.out (by decide)) (fun _ hk => hk.2) (.int .i64 t570)) (fun _ hk => hk.2) (.slice Ao38 t571.length co38)) (fun _ hk => trivial), zh HB.out⟩
   rw [if_pos c12] at H;have c12b0 := decide_eq_true c12;clear c12;by_cases c13 : 0 ≤ x11_1
   rotate_left
   ·rw [if_neg c13] at H;cases H
   rw [if_pos c13] at H;have c13b0 := decide_eq_true c13;clear c13;by_cases c14 : x11_1 < (l0.length : Int)
   rotate_left
   ·rw [if_neg c14] at H;cases H
   rw [if_pos c14] at H;have c14b0 := decide_eq_true c14;clear c14;replace H := zB0 H;obtain ⟨⟨t562, t563⟩, A150, H⟩ := H;replace H : (if x560000_1.length < 4398046511104 then (Jb.l0 k1 l0 (l0.length : Int) (wrap64 (x11_1 + 1)) a1 (x560000_1 ++ [(⟨t562, t563⟩ : S62)])) else (none)) = some (r1, r2) := H;have A15 := qa.mk A150;clear A150;by_cases c16 : x560000_1.length < 4398046511104
   rotate_left
   ·rw [if_neg c16] at H;cases H
   rw [if_pos c16] at H;have LMc16 := qa.mk c16;clear c16;obtain ⟨y566, hy566⟩ : ∃ y_ : List (S62), y_ = (x560000_1 ++ [(⟨t562, t563⟩ : S62)]) := ⟨_, rfl⟩;rw [← hy566] at H;have Ny566 := qa.mk hy566;clear hy566;have H' := qa.mk H;clear H;obtain ⟨⟨ad560, A560_1, c560_1, e560, hx560_0, hx560_1, hl560_1, hi560_1⟩, p560, q560⟩ := zW (Jo HR0.out x11_1);cases e560;replace hx560_0 := zx HB.out hx560_0;replace hx560_1 := zx HB.out hx560_1;have HR560_1 := qa.mk hi560_1;have HC560_1 := qa.mk hl560_1;clear hi560_1 hl560_1;try go_wp2_with (first | ((with_reducible refine Ma (N := 7) rfl ?_); refine zq 7 #[.int .i64 0, .slice none 0 0] 40 ?_; intro gb561 hg w17 hbox hb; have BK561 := qa.mk hbox; have GW561 := zG hg HB; have GE561 := zG hg HB; have NB554_561 := zNa hg BK554; have NB561_554 := zNb hg BK554; have NB555_561 := zNa hg BK555; have NB561_555 := zNb hg BK555; have NB559_561 := zNa hg BK559; have NB561_559 := zNb hg BK559; replace HO_560000 := qa.mk (Kd.S_below (by (with_reducible repeat (first | apply Kd.S_alloc | apply Kd.S_drewN | apply Kd.S_drew)); exact HO_560000.out) hb); replace BK554 := zK BK554 hb; replace BK555 := zK BK555 hb; replace BK559 := zK BK559 hb; replace HB := zH hb HB; clear hb hbox hg; have hnb18 := NB561_554.out; have hnc18 := NB554_561.out; have hnb19 := NB561_555.out; have hnc19 := NB555_561.out; have hnb20 := NB561_559.out; have hnc20 := NB559_561.out; obtain ⟨hcz21_0, hcz21_1, hfz21_0, hfz21_1⟩ := zC2 BK561))
   have n0_ : qa (Kd.S k62 62 ((w17.setCell ⟨gb561, 0, none⟩ (.int .i64 ((yc l0 x11_1).f0))).setCell ⟨gb561, 1, none⟩ (.slice A560_1 ((yc l0 x11_1).f1).length c560_1)) w.heap.size (fun k_ => k_ ≠ gb554 ∧ k_ ≠ gb555) u560000 x560000_1) := ⟨by (with_reducible repeat (first | apply Kd.S_alloc | apply Kd.S_drewN | apply Kd.S_drew)); exact Kd.S_mono (Kd.S_far (p := ⟨gb561, 1, none⟩) (Kd.S_far (p := ⟨gb561, 0, none⟩) (Kd.S_types HO_560000.out BK561.out (by decide)) (fun _ hk => hk.2) (.int .i64 ((yc l0 x11_1).f0))) (fun _ hk => hk.2) (.slice A560_1 ((yc l0 x11_1).f1).length c560_1)) (fun _ hk => ⟨hk.1.1, hk.1.2⟩)⟩;have n1_ : qa (((w17.setCell ⟨gb561, 0, none⟩ (.int .i64 ((yc l0 x11_1).f0))).setCell ⟨gb561, 1, none⟩ (.slice A560_1 ((yc l0 x11_1).f1).length c560_1)).heap[gb554]? = some (.cells #[.bool a1] 4 (0, 0))) := ⟨zf2 BK554.out NB554_561.out NB554_561.out⟩;have n2_ : qa (((w17.setCell ⟨gb561, 0, none⟩ (.int .i64 ((yc l0 x11_1).f0))).setCell ⟨gb561, 1, none⟩ (.slice A560_1 ((yc l0 x11_1).f1).length c560_1)).heap[gb555]? = some (.cells #[.int .i64 0, .slice none 0 0] 62 (0, 0))) := ⟨zf2 BK555.out NB555_561.out NB555_561.out⟩;have n3_ : qa (((w17.setCell ⟨gb561, 0, none⟩ (.int .i64 ((yc l0 x11_1).f0))).setCell ⟨gb561, 1, none⟩ (.slice A560_1 ((yc l0 x11_1).f1).length c560_1)).heap[gb559]? = some (.cells #[u560000] 59 (0, 0))) := ⟨zf2 BK559.out NB559_561.out NB559_561.out⟩;have n4_ : qa (((w17.setCell ⟨gb561, 0, none⟩ (.int .i64 ((yc l0 x11_1).f0))).setCell ⟨gb561, 1, none⟩ (.slice A560_1 ((yc l0 x11_1).f1).length c560_1)).heap[gb561]? = some (.cells #[.int .i64 ((yc l0 x11_1).f0), .slice A560_1 ((yc l0 x11_1).f1).length c560_1] 40 (0, 0))) := ⟨by (with_reducible repeat (first | refine Ca ?_ _ | refine Ra ?_ | refine Qa ?_ _)); refine Yb (cs := #[.int .i64 ((yc l0 x11_1).f0), .slice none 0 0]) ?_ 1 _ rfl; (with_reducible repeat (first | refine Ca ?_ _ | refine Ra ?_ | refine Qa ?_ _)); refine Yb (cs := #[.int .i64 0, .slice none 0 0]) ?_ 0 _ rfl; exact zb BK561.out⟩;have n5_ : qa (Below w.heap.size w ((w17.setCell ⟨gb561, 0, none⟩ (.int .i64 ((yc l0 x11_1).f0))).setCell ⟨gb561, 1, none⟩ (.slice A560_1 ((yc l0 x11_1).f1).length c560_1))) := ⟨zh HB.out⟩;(try clear HO_560000)
   (try clear BK554)
   (try clear BK555)
   (try clear BK559)
   (try clear BK561)
   (try clear HB)
   generalize ((w17.setCell ⟨gb561, 0, none⟩ (.int .i64 ((yc l0 x11_1).f0))).setCell ⟨gb561, 1, none⟩ (.slice A560_1 ((yc l0 x11_1).f1).length c560_1)) = w22 at n0_ n1_ n2_ n3_ n4_ n5_ ⊢;have HO_560000 := n0_;have BK554 := n1_;have BK555 := n2_;have BK559 := n3_;have BK561 := n4_;have HB := n5_;clear n0_ n1_ n2_ n3_ n4_ n5_;have n0_ := qa.mk (Kd.S_drew HO_560000.out);have n1_ := qa.mk (Ra BK554.out);have n2_ := qa.mk (Ra BK555.out);have n3_ := qa.mk (Ra BK559.out);have n4_ := qa.mk (Ra BK561.out);have n5_ := qa.mk (Ud HB.out);clear HO_560000 BK554 BK555 BK559 BK561 HB;have HO_560000 := n0_;have BK554 := n1_;have BK555 := n2_;have BK559 := n3_;have BK561 := n4_;have HB := n5_;clear n0_ n1_ n2_ n3_ n4_ n5_;refine Kg (n := 6) (S := fun w' => w'.cell? ⟨gb559, 0, none⟩ = some (u560000) ∧ w'.cell? ⟨gb561, 0, none⟩ = some (.int .i64 ((yc l0 x11_1).f0)) ∧ w'.cell? ⟨gb561, 1, none⟩ = some (.slice A560_1 ((yc l0 x11_1).f1).length c560_1)) (ds := [5]) (tb 6 0) (by kernel_rfl) rfl rfl ⟨(Ya BK559.out 0).trans rfl, (Ya BK561.out 0).trans rfl, (Ya BK561.out 1).trans rfl⟩ (fun hHeld => ?_);generalize w22.drew = w23 at HO_560000 BK554 BK555 BK559 BK561 HB hHeld ⊢;refine zt (i := 0) (N := some 15) (tb 6 1) rfl rfl (by kernel_rfl) hHeld ?_;refine zt (i := 1) (N := some 16) (tb 6 3) rfl rfl (by kernel_rfl) hHeld ?_;refine Uj (i := 2) (N := some 17) (tb 6 7) rfl rfl (by kernel_rfl) (by decide) (fun K hK => ?_);refine Di Tryz.func78 (by kernel_rfl) rfl #[.agg #[.int .i64 ((yc l0 x11_1).f0), .slice A560_1 ((yc l0 x11_1).f1).length c560_1]] (by rfl) rfl rfl (by (try simp only [List.map_toArray, List.map_cons, List.map_nil]); first | done | rfl | (simp only [List.length_drop, List.length_take]; rfl)) ?_
   with_reducible refine (Ic.calls k1 ((yc l0 x11_1).f0) _ _ ((yc l0 x11_1).f1) t562 t563 _ ?side1 ?side2 A15.out).mono ?_
   (case side1 => repeat (first | exact (Kd.C_below HR560_1.out HB.out) | (with_reducible refine Kd.C_alloc ?_ _) | (with_reducible refine Kd.C_drewN ?_ _) | (with_reducible refine Kd.C_drew ?_)))
   (case side2 => exact HC560_1.out)
   rintro e w24 ⟨v564, rfl, ho0, hb⟩;refine ⟨_, rfl, ?_⟩;have n0_ := qa.mk (Kd.S_elder' (by (with_reducible repeat (first | apply Kd.S_alloc | apply Kd.S_drewN | apply Kd.S_drew)); exact HO_560000.out) (Kd.R_base ho0) hb);have n1_ := qa.mk (Kd.R_lower (Kd.R_newB ho0 (g := gb554) (o := .cells #[.bool a1] 4 (0, 0)) (zb BK554.out)) (Ua (zh HB.out)));have n2_ := qa.mk (Na (g := gb554) (o := .cells #[.bool a1] 4 (0, 0)) (zb BK554.out) hb);have n3_ := qa.mk (Na (g := gb555) (o := .cells #[.int .i64 0, .slice none 0 0] 62 (0, 0)) (zb BK555.out) hb);have n4_ := qa.mk (Na (g := gb559) (o := .cells #[u560000] 59 (0, 0)) (zb BK559.out) hb);have n5_ := qa.mk (Na (g := gb561) (o := .cells #[.int .i64 ((yc l0 x11_1).f0), .slice A560_1 ((yc l0 x11_1).f1).length c560_1] 40 (0, 0)) (zb BK561.out) hb);have n6_ := qa.mk (Rc (zh HB.out) hb);clear HO_560000 BK554 BK555 BK559 BK561 HB;have HO_560000 := n0_;have HO565 := n1_;have BK554 := n2_;have BK555 := n3_;have BK559 := n4_;have BK561 := n5_;have HB := n6_;clear n0_ n1_ n2_ n3_ n4_ n5_ n6_;(try clear hb)
   (try clear hb2)
   (try clear hk)
   (try clear hi)
   (try clear ho0)
   obtain ⟨Ao26, co26, eo26⟩ := Kd.R_slice HO565.out;(first | subst eo26 | (injection eo26 with f1_ f2_ f3_; have f4_ := f1_.symm; have f5_ := f3_.symm; clear f1_ f2_ f3_; subst f4_; subst f5_))
   refine hK.out _ _ ⟨(Ya BK559.out 0).trans rfl, (Ya BK561.out 0).trans rfl, (Ya BK561.out 1).trans rfl⟩ (fun hHeld => ?_);clear hK K;refine zn1 ?_;refine Uj (i := 3) (N := some 18) (tb 6 15) rfl rfl (by kernel_rfl) (by decide) (fun K hK => ?_);refine Lj (w1 := ?_) (v := ?_) (by rfl) rfl ?_ ?_;rotate_left 2
   ·go_simp
    constructor
    ·rfl
    ·rfl
   refine hK.out _ _ ⟨(Ya (Qa BK559.out _) 0).trans rfl, (Ya (Qa BK561.out _) 0).trans rfl, (Ya (Qa BK561.out _) 1).trans rfl⟩ (fun hHeld => ?_);clear hK K;refine zn1 ?_;refine Uj (i := 4) (N := some 19) (tb 6 31) rfl rfl (by kernel_rfl) (by decide) (fun K hK => ?_);refine Kd.S_append_step k62 (w0 := w) w.heap.size (by rfl) (.tmp 15) (.tmp 18) 59 62 (.agg #[(.int .i64 0), (.slice none 0 0)]) 32 rfl Tryz.underlying59 TB rfl (by decide) (by omega) u560000 x560000_1 (⟨t562, t563⟩ : S62) [.int .i64 t562, .slice Ao26 t563.length co26] (fun k_ => k_ ≠ gb554 ∧ k_ ≠ gb555) (fun k_ => some k_ = (.slice Ao26 t563.length co26 : Value).ownBlock) rfl rfl ?aP (fun k_ hk_ => ((Kd.R_mono (ok' := fun k_ => ((fun k_ => k_ ≠ gb554 ∧ k_ ≠ gb555)) k_ ∧ some k_ ≠ (u560000 : Value).ownBlock) (Kd.R_types (Kd.R_apart' (HO565.out) (Kd.S_typed HO_560000.out) (by decide)) BK555.out (by decide)) (fun k_ hk => ⟨⟨hk.1.1.2, hk.2⟩, hk.1.2⟩))).1 k_ hk_.symm) ?aF ?aO ?aB ?aS ?aL ?_;(case aP => exact qI _ _ _ (⟨t562, t563⟩ : S62) (Kd.R_mono (Kd.R_tight rfl (Kd.R_mono (ok' := fun k_ => ((fun k_ => k_ ≠ gb554 ∧ k_ ≠ gb555)) k_ ∧ some k_ ≠ (u560000 : Value).ownBlock) (Kd.R_types (Kd.R_apart' (HO565.out) (Kd.S_typed HO_560000.out) (by decide)) BK555.out (by decide)) (fun k_ hk => ⟨⟨hk.1.1.2, hk.2⟩, hk.1.2⟩))) (fun _ h_ => h_)))
   (case aB => exact (zh HB.out))
   (case aF => exact (fun k_ hk => ⟨Kd.freshB (g := gb554) (o := .cells #[.bool a1] 4 (0, 0)) (zb BK554.out) k_ hk, Kd.freshB (g := gb555) (o := .cells #[.int .i64 0, .slice none 0 0] 62 (0, 0)) (zb BK555.out) k_ hk⟩))
   (case aO => exact (by (with_reducible repeat (first | apply Kd.S_alloc | apply Kd.S_drewN | apply Kd.S_drew)); exact Kd.S_mono HO_560000.out (fun k_ hk => ⟨⟨hk.1.1, hk.1.2⟩, fun e_ => hk.2 e_⟩)))
   (case aS => exact (Ua (zh HB.out)))
   (case aL => have := LMc16.out; omega)
   intro v567 w25 ho hb hg hat
   rw [← Ny566.out] at ho;have n0_ := qa.mk (Qe (g := gb554) (o := .cells #[.bool a1] 4 (0, 0)) (zb BK554.out) hg (Kd.S_ne HO_560000.out BK554.out (by decide)));have n1_ := qa.mk (Qe (g := gb555) (o := .cells #[.int .i64 0, .slice none 0 0] 62 (0, 0)) (zb BK555.out) hg (Kd.S_away HO_560000.out (fun _ hk => hk.1.2)));have n2_ := qa.mk (Qe (g := gb559) (o := .cells #[u560000] 59 (0, 0)) (zb BK559.out) hg (Kd.S_ne HO_560000.out BK559.out (by decide)));have n3_ := qa.mk (Qe (g := gb561) (o := .cells #[.int .i64 ((yc l0 x11_1).f0), .slice A560_1 ((yc l0 x11_1).f1).length c560_1] 40 (0, 0)) (zb BK561.out) hg (Kd.S_ne HO_560000.out BK561.out (by decide)));have n4_ := qa.mk (hb);have n5_ := qa.mk (ho);clear BK554 BK555 BK559 BK561 HB HO_560000 HO565;have BK554 := n0_;have BK555 := n1_;have BK559 := n2_;have BK561 := n3_;have HB := n4_;have HO568 := n5_;clear n0_ n1_ n2_ n3_ n4_ n5_ ho hb hg hat
   obtain ⟨Ao27, co27, eo27⟩ := Kd.S_slice HO568.out;(first | subst eo27 | (injection eo27 with f1_ f2_ f3_; have f4_ := f1_.symm; have f5_ := f3_.symm; clear f1_ f2_ f3_; subst f4_; subst f5_))
   refine hK.out _ _ ⟨(Ya BK559.out 0).trans rfl, (Ya BK561.out 0).trans rfl, (Ya BK561.out 1).trans rfl⟩ (fun hHeld => ?_);clear hK K;refine zn1 ?_;refine Qz (i := 5) (N := none) (tb 6 63) rfl rfl (by kernel_rfl) (by decide) (fun K hK => ?_);have hs28 : w25.cell? ⟨gb559, 0, none⟩ = some (u560000) := (Ya BK559.out 0).trans rfl;have hfs28 := Ea BK559.out 0;have hns28_0 := NB554_559.out;have hns28_1 := NB555_559.out;have hns28_3 := NB561_559.out;have hms28_0 := NB559_554.out;have hms28_1 := NB559_555.out;have hms28_3 := NB559_561.out;refine Pw (w1 := ?_) (by rfl) rfl ?_ ?_;rotate_left
   ·go_simp
    rfl
   refine hK.out _ _ ?_;clear hK K;refine Bi (by kernel_rfl) ?_;try go_wp2
   go_roundg k1;case measure => have := HK1.out; omega
   case rel => exact ⟨(wrap64 (x11_1 + 1)), (y566), (.slice Ao27 y566.length co27), zE, H', zO HK1, ⟨by (with_reducible repeat (first | apply Kd.S_alloc | apply Kd.S_drewN | apply Kd.S_drew)); exact Kd.S_mono (Kd.S_far (p := ⟨gb559, 0, none⟩) (Kd.S_types HO568.out BK559.out (by decide)) (fun _ hk => hk.2) (.slice Ao27 y566.length co27)) (fun _ hk => ⟨hk.1.1, hk.1.2⟩)⟩, ⟨zf1 BK554.out NB554_559.out⟩, ⟨zf1 BK555.out NB555_559.out⟩, ⟨by (with_reducible repeat (first | refine Ca ?_ _ | refine Ra ?_ | refine Qa ?_ _)); refine Yb (cs := #[u560000]) ?_ 0 _ rfl; exact zb BK559.out⟩, ⟨zh HB.out⟩⟩
theorem EE {α : Type} {d : Kd α} {w : World} {A : Option Addr} {n : Nat} {rows : List (List Value)} {xs : List α} (h : Kd.C (Kd.raw d.sz) w A n rows) (hl : rows.length = xs.length) (hK : ∀ (j : Nat) (x : α) (c : List Value), xs[j]? = some x → rows[j]? = some c → d.K w x c) : Kd.C d w A n xs := by
 obtain ⟨h1, h2, h3⟩ := h;refine ⟨by rw [← hl]; exact h1, h2, fun h0 => ?_⟩;obtain ⟨ad, e, hc⟩ := h3 h0;refine ⟨ad, e, fun j x hx => ?_⟩;have hj : j < rows.length := by rw [hl]; exact (List.getElem?_eq_some_iff.1 hx).1
 obtain ⟨c, hcl, hR, hcc⟩ := hc j _ (List.getElem?_eq_getElem hj);exact ⟨c, hcl, hK j x c hx (by rw [List.getElem?_eq_getElem hj]; exact congrArg some hR.1.symm), hcc⟩
theorem OB {l r : List S40} (h : Sg.f l = some r) : l = r ∧ l.length < 4398046511104 := by
 unfold Sg.f at h;split at h
 case isFalse => cases h
 case isTrue hl => exact ⟨Option.some.inj h, hl⟩
theorem XI {l r : List S40} {a b : Int} (h : Tg.f l a b = some r) : ∃ i : Nat, a = (i : Int) ∧ i < l.length ∧ b = ((i + 1 : Nat) : Int) ∧ l.eraseIdx i = r := by
 unfold Tg.f at h;split at h
 case isFalse => cases h
 case isTrue hl =>
  obtain ⟨h0, h1, h2⟩ := hl;exact ⟨a.toNat, by omega, by omega, by omega, Option.some.inj h⟩
def Pb.f (k : Nat) (a0 : Int) (l1 : List (S40)) (a2_0 : Int) (l2_1 : List Bool) : Option (Bool) := if (l1.length : Int) > 1 then ((Sg.f l1).bind fun t598 => ((Tg.f t598 a0 (wrap64 (a0 + 1))).bind fun t601 => ((Jb.f k t601 false).bind fun bt604 => ((Cg.f k bt604.1 bt604.2 a2_0 l2_1).bind fun t608 => (some t608))))) else (some false)
def Pb.T1 : Bool × List (List Nat × List Nat) := (true, [([], []), ([0], [0]), ([1], [1]), ([2], [2]), ([3], [3]), ([4, 3, 3], [3, 4]), ([3], [3]), ([3], [3]), ([7, 3], [3, 7]), ([5, 6, 8, 5, 3], [3, 5, 6, 8]), ([9, 9, 3], [3, 9]), ([3], [3]), ([10, 11, 10, 3], [3, 10, 11]), ([3, 12], [3, 12]), ([13, 12, 0, 1, 2, 3, 4, 5, 6, 7, 8, 9, 10, 11, 12, 13], [13])])
def Pb.B1 : List Nat := [0, 1, 3, 7, 15, 31, 15, 15, 143, 511, 1023, 15, 4095, 8191, 16383]
theorem Pb.tab1 : ym .any (opsOf Tryz.f38 1) = Pb.T1 := by kernel_rfl
theorem Pb.bits1 : Vj Pb.T1.2 Pb.B1 = true := by kernel_rfl
theorem Pb.calls (k : Nat) (a0 : Int) (A1 : Option Addr) (c1 : Nat) (l1 : List (S40)) (a2_0 : Int) (A2_1 : Option Addr) (c2_1 : Nat) (l2_1 : List Bool) (r : Bool) (w : World) (gb596 : Nat) (bk5960 : w.heap[gb596]? = some (.cells #[.slice A1 l1.length c1] 25 (0, 0))) (gb597 : Nat) (bk5970 : w.heap[gb597]? = some (.cells #[.int .i64 a2_0, .slice A2_1 l2_1.length c2_1] 62 (0, 0))) (hr1 : Kd.C k40 w A1 l1.length l1) (hc1 : l1.length ≤ c1) (hr2_1 : Kd.C Kd.bool w A2_1 l2_1.length l2_1) (hc2_1 : l2_1.length ≤ c2_1) (h : Pb.f k a0 l1 a2_0 l2_1 = some r) :
 Calls Tryz.prog 38 #[.int .i64 a0, .pointer (some ⟨gb596, 0, none⟩), .pointer (some ⟨gb597, 0, none⟩)] w fun e w' => e = .returned (.bool r) ∧ Below w.heap.size w w' := by
 have BK596 := qa.mk bk5960;clear bk5960;have BK597 := qa.mk bk5970;clear bk5970;have hu62 := Tryz.underlying62;have HR1 := qa.mk hr1;have HC1 := qa.mk hc1;clear hr1 hc1;have HR2_1 := qa.mk hr2_1;have HC2_1 := qa.mk hc2_1;clear hr2_1 hc2_1;have HB := qa.mk (Below.refl w.heap.size w);have H : (if (l1.length : Int) > 1 then ((Sg.f l1).bind fun t598 => ((Tg.f t598 a0 (wrap64 (a0 + 1))).bind fun t601 => ((Jb.f k t601 false).bind fun bt604 => ((Cg.f k bt604.1 bt604.2 a2_0 l2_1).bind fun t608 => (some t608))))) else (some false)) = some r := h;clear h;by_cases c4 : (l1.length : Int) > 1
 rotate_left
 ·rw [if_neg c4] at H;have c4b0 := decide_eq_false c4;have c4b1 : decide (1 < l1.length) = false := decide_eq_false (by omega);clear c4;obtain rfl := Option.some.inj H;go_enter Tryz.func38, Tryz.ntmps38;try go_wp2
  have n0_ := qa.mk (Ra BK596.out);have n1_ := qa.mk (Ra BK597.out);have n2_ := qa.mk (Ud HB.out);clear BK596 BK597 HB;have BK596 := n0_;have BK597 := n1_;have HB := n2_;clear n0_ n1_ n2_;refine Kg (n := 15) (S := fun w' => w'.cell? ⟨gb596, 0, none⟩ = some (.slice A1 l1.length c1)) (ds := []) (tb 15 0) (by kernel_rfl) rfl rfl ((Ya BK596.out 0).trans rfl) (fun hHeld => ?_); refine Ug Pb.tab1 Pb.bits1 (fun HT_ HW_ => ?_);generalize w.drew = w21 at BK596 BK597 HB hHeld ⊢;refine take_ (i := 0) (N := some 5) (v := ?_) (a' := ?_) (tb 15 1) rfl rfl (Wd HT_.out HW_.out (by kernel_rfl)) (fun _ _ _ h => h) (Or.inl ⟨by rfl, ?_⟩) hHeld ?_ ?_;rotate_left
  ·intro w' s0;go_simp
   with_reducible rfl
  rotate_left
  ·simp only [Act.put, List.setIfInBounds_toArray, List.set_cons_zero, List.set_cons_succ, Ff, Jh];rfl
  refine zu (i := 1) (N := some 6) (tb 15 3) rfl rfl HT_ ?_;refine zu (i := 2) (N := some 7) (tb 15 7) rfl rfl HT_ ?_;refine zu (i := 3) (N := some 8) (tb 15 15) rfl rfl HT_ ?_;refine zv (i := 4) (N := some 9) (tb 15 31) rfl rfl HT_ ?_;refine zv (i := 5) (N := some 10) (tb 15 63) rfl rfl HT_ ?_;refine zv (i := 6) (N := some 11) (tb 15 127) rfl rfl HT_ ?_;refine zv (i := 7) (N := some 12) (tb 15 255) rfl rfl HT_ ?_;refine zv (i := 8) (N := some 13) (tb 15 511) rfl rfl HT_ ?_;refine zv (i := 9) (N := some 14) (tb 15 1023) rfl rfl HT_ ?_;refine zv (i := 10) (N := some 15) (tb 15 2047) rfl rfl HT_ ?_;refine zv (i := 11) (N := some 16) (tb 15 4095) rfl rfl HT_ ?_;refine zv (i := 12) (N := some 17) (tb 15 8191) rfl rfl HT_ ?_;refine zu (i := 13) (N := some 18) (tb 15 16383) rfl rfl HT_ ?_;refine zu (i := 14) (N := some 4) (tb 15 32767) rfl rfl HT_ ?_;refine Bi (Lh HT_.out (by kernel_rfl)) ?_;try go_wp2
  go_ret;exact ⟨zL0, zh HB.out⟩
 rw [if_pos c4] at H;have c4b0 := decide_eq_true c4;have c4b1 : decide (1 < l1.length) = true := decide_eq_true (by omega);have hlen : 1 < l1.length := by omega
 clear c4;replace H := zB0 H;obtain ⟨t598, A50, H⟩ := H;have A5 := qa.mk A50;clear A50;replace H := zB0 H;obtain ⟨t601, A60, H⟩ := H;have A6 := qa.mk A60;clear A60;replace H := zB0 H;obtain ⟨⟨t604, t605⟩, A70, H⟩ := H;replace H : ((Cg.f k t604 t605 a2_0 l2_1).bind fun t608 => (some t608)) = some r := H;have A7 := qa.mk A70;clear A70;replace H := zB0 H;obtain ⟨t608, A80, H⟩ := H;have A8 := qa.mk A80;clear A80;obtain rfl := Option.some.inj H;obtain ⟨rfl, hbig⟩ := OB A5.out;obtain ⟨i, rfl, hi, hi1, rfl⟩ := XI A6.out;clear A5 A6;obtain ⟨ad, eA, _⟩ := HR1.out.2.2 (by omega);obtain ⟨rows, hrl, hrC, hrK⟩ := Kd.reads_raw HR1.out (fun x c hk => ⟨k40.K_len hk, k40.K_one hk⟩);have hel := qa.mk (show (rows.eraseIdx i).length = (l1.eraseIdx i).length by rw [List.length_eraseIdx, List.length_eraseIdx, hrl]);have HI1 := qa.mk hi1;have HI := qa.mk hi;have HG := qa.mk hbig;have HA := qa.mk eA;have HRL := qa.mk hrl;have HRC := qa.mk hrC;have HRK := qa.mk hrK;clear hi hi1 hbig eA hrl hrC hrK hlen;go_enter Tryz.func38, Tryz.ntmps38;try go_wp2
 have n0_ := qa.mk (Ra BK596.out);have n1_ := qa.mk (Ra BK597.out);have n2_ := qa.mk (Ud HB.out);clear BK596 BK597 HB;have BK596 := n0_;have BK597 := n1_;have HB := n2_;clear n0_ n1_ n2_;refine Kg (n := 15) (S := fun w' => w'.cell? ⟨gb596, 0, none⟩ = some (.slice A1 l1.length c1) ∧ w'.cell? ⟨gb597, 0, none⟩ = some (.int .i64 a2_0) ∧ w'.cell? ⟨gb597, 1, none⟩ = some (.slice A2_1 l2_1.length c2_1)) (ds := []) (tb 15 0) (by kernel_rfl) rfl rfl ⟨(Ya BK596.out 0).trans rfl, (Ya BK597.out 0).trans rfl, (Ya BK597.out 1).trans rfl⟩ (fun hHeld => ?_); refine Ug Pb.tab1 Pb.bits1 (fun HT_ HW_ => ?_);generalize w.drew = w11 at BK596 BK597 HB hHeld ⊢;refine zt (i := 0) (N := some 5) (tb 15 1) rfl rfl (Wd HT_.out HW_.out (by kernel_rfl)) hHeld ?_;refine zu (i := 1) (N := some 6) (tb 15 3) rfl rfl HT_ ?_;refine zu (i := 2) (N := some 7) (tb 15 7) rfl rfl HT_ ?_;refine zu (i := 3) (N := some 8) (tb 15 15) rfl rfl HT_ ?_;refine zu (i := 6) (N := some 11) (tb 15 79) rfl rfl HT_ ?_;refine zu (i := 7) (N := some 12) (tb 15 207) rfl rfl HT_ ?_;refine zu (i := 8) (N := some 13) (tb 15 463) rfl rfl HT_ ?_;refine zt (i := 4) (N := some 9) (tb 15 479) rfl rfl (Wd HT_.out HW_.out (by kernel_rfl)) hHeld ?_;refine zt (i := 11) (N := some 16) (tb 15 2527) rfl rfl (Wd HT_.out HW_.out (by kernel_rfl)) hHeld ?_;refine Uj (i := 5) (N := some 10) (tb 15 2559) rfl rfl (Gh HT_.out (by kernel_rfl)) (by decide) (fun K hK => ?_);refine Di Tryz.func40 (by kernel_rfl) rfl #[.slice A1 l1.length c1] (by rfl) rfl rfl (by (try simp only [List.map_toArray, List.map_cons, List.map_nil]); first | done | rfl | (simp only [List.length_drop, List.length_take]; rfl)) ?_;refine (JI.calls A1 ad HA.out c1 l1.length rows HRL.out _ (Kd.C_below (d := Kd.raw 2) HRC.out (zh HB.out)) (by rw [HRL.out]; exact HC1.out) (by rw [HRL.out]; exact HG.out)).mono ?_;rintro e w12 ⟨v599, rfl, ho0, hb⟩;refine ⟨_, rfl, ?_⟩;have OK596 := BK596;have OK597 := BK597;have OHB := HB;have n0_ := qa.mk ho0;have n1_ := qa.mk (Na (g := gb596) (o := .cells #[.slice A1 l1.length c1] 25 (0, 0)) (zb BK596.out) hb);have n2_ := qa.mk (Na (g := gb597) (o := .cells #[.int .i64 a2_0, .slice A2_1 l2_1.length c2_1] 62 (0, 0)) (zb BK597.out) hb);have hb1 := qa.mk hb;clear BK596 BK597 HB hb ho0;have HO600 := n0_;have BK596 := n1_;have BK597 := n2_;clear n0_ n1_ n2_;obtain ⟨Ao13, co13, eo13⟩ := Kd.R_slice HO600.out;subst eo13;refine hK.out _ _ ⟨(Ya BK596.out 0).trans rfl, (Ya BK597.out 0).trans rfl, (Ya BK597.out 1).trans rfl⟩ (fun hHeld => ?_);clear hK K;refine zn1 ?_;refine Uj (i := 9) (N := some 14) (tb 15 3071) rfl rfl (Gh HT_.out (by kernel_rfl)) (by decide) (fun K hK => ?_);refine Di Tryz.func39 (by kernel_rfl) rfl #[.slice Ao13 rows.length co13, .int .i64 (i : Int), .int .i64 (wrap64 ((i : Int) + 1))] (by rfl) rfl rfl (by (try simp only [List.map_toArray, List.map_cons, List.map_nil]); first | done | rfl | (simp only [List.length_drop, List.length_take]; rfl)) ?_;rw [HI1.out];refine (VI _ _ _ rows i _ HO600.out (by rw [HRL.out]; exact HI.out)).mono ?_;rintro e w14 ⟨v602, rfl, ho0, hb0⟩;refine ⟨_, rfl, ?_⟩;have hb := hb0 _ hb1.out;clear BK596 BK597 hb0;have HO603 := qa.mk ho0;have BK596 := qa.mk (Na (g := gb596) (o := .cells #[.slice A1 l1.length c1] 25 (0, 0)) (zb OK596.out) hb);have BK597 := qa.mk (Na (g := gb597) (o := .cells #[.int .i64 a2_0, .slice A2_1 l2_1.length c2_1] 62 (0, 0)) (zb OK597.out) hb);have HB := qa.mk (Rc (zh OHB.out) hb);clear OK596 OK597 OHB hb hb1 ho0 HO600;obtain ⟨Ao15, co15, eo15⟩ := Kd.R_slice HO603.out;rw [hel.out] at eo15;subst eo15;obtain ⟨_, hc15, hC15⟩ := Kd.R_reads' HO603.out;rw [hel.out] at hC15;have HC15 := qa.mk hc15;have HD15 : qa (Kd.C k40 w14 Ao15 (l1.eraseIdx i).length (l1.eraseIdx i)) := qa.mk (EE (d := k40) hC15 hel.out (fun j x c hx hc => by
  rw [List.getElem?_eraseIdx] at hx hc;split at hx
  ·rename_i hj
   rw [if_pos hj] at hc;exact k40.K_below (zh HB.out) (HRK.out _ _ _ hx hc)
  ·rename_i hj
   rw [if_neg hj] at hc;exact k40.K_below (zh HB.out) (HRK.out _ _ _ hx hc)))
 clear hC15 HO603 hc15;refine hK.out _ _ ⟨(Ya BK596.out 0).trans rfl, (Ya BK597.out 0).trans rfl, (Ya BK597.out 1).trans rfl⟩ (fun hHeld => ?_);clear hK K;refine zn1 ?_;refine Uj (i := 10) (N := some 15) (tb 15 4095) rfl rfl (Gh HT_.out (by kernel_rfl)) (by decide) (fun K hK => ?_);refine Di Tryz.func35 (by kernel_rfl) rfl #[.slice Ao15 (l1.eraseIdx i).length co15, .bool false] (by rfl) rfl rfl (by (try simp only [List.map_toArray, List.map_cons, List.map_nil]); first | done | rfl | (simp only [List.length_drop, List.length_take]; rfl)) ?_
 with_reducible refine (Jb.calls k _ _ (l1.eraseIdx i) false t604 t605 _ ?side1 ?side2 A7.out).mono ?_
 (case side1 => exact HD15.out)
 (case side2 => exact HC15.out)
 rintro e w16 ⟨v606, rfl, ho0, hb⟩;refine ⟨_, rfl, ?_⟩;have n2_ := qa.mk (Kd.R_lower ho0 (Ua (zh HB.out)));have n3_ := qa.mk (Na (g := gb596) (o := .cells #[.slice A1 l1.length c1] 25 (0, 0)) (zb BK596.out) hb);have n4_ := qa.mk (Na (g := gb597) (o := .cells #[.int .i64 a2_0, .slice A2_1 l2_1.length c2_1] 62 (0, 0)) (zb BK597.out) hb);have n5_ := qa.mk (Rc (zh HB.out) hb);clear BK596 BK597 HB;have HO607 := n2_;have BK596 := n3_;have BK597 := n4_;have HB := n5_;clear n2_ n3_ n4_ n5_;(try clear hb)
 (try clear hb2)
 (try clear hk)
 (try clear hi)
 (try clear ho0)
 obtain ⟨Ao17, co17, eo17⟩ := Kd.R_slice HO607.out;(first | subst eo17 | (injection eo17 with f1_ f2_ f3_; have f4_ := f1_.symm; have f5_ := f3_.symm; clear f1_ f2_ f3_; subst f4_; subst f5_))
 refine hK.out _ _ ⟨(Ya BK596.out 0).trans rfl, (Ya BK597.out 0).trans rfl, (Ya BK597.out 1).trans rfl⟩ (fun hHeld => ?_);clear hK K;refine zn1 ?_;refine Uj (i := 12) (N := some 17) (tb 15 8191) rfl rfl (Gh HT_.out (by kernel_rfl)) (by decide) (fun K hK => ?_);refine Di Tryz.func41 (by kernel_rfl) rfl #[.agg #[.int .i64 t604, .slice Ao17 t605.length co17], .agg #[.int .i64 a2_0, .slice A2_1 l2_1.length c2_1]] (by rfl) rfl rfl (by (try simp only [List.map_toArray, List.map_cons, List.map_nil]); first | done | rfl | (simp only [List.length_drop, List.length_take]; rfl)) ?_
 with_reducible refine (Cg.calls k t604 _ _ t605 a2_0 _ _ l2_1 t608 _ ?side1 ?side2 ?side3 ?side4 A8.out).mono ?_
 (case side1 => repeat (first | exact (Kd.R_reads' HO607.out).2.2 | (with_reducible refine Kd.C_alloc ?_ _) | (with_reducible refine Kd.C_drewN ?_ _) | (with_reducible refine Kd.C_drew ?_)))
 (case side2 => exact (Kd.R_reads' HO607.out).2.1)
 (case side3 => repeat (first | exact (Kd.C_below HR2_1.out HB.out) | (with_reducible refine Kd.C_alloc ?_ _) | (with_reducible refine Kd.C_drewN ?_ _) | (with_reducible refine Kd.C_drew ?_)))
 (case side4 => exact HC2_1.out)
 rintro e w18 ⟨rfl, hb⟩;refine ⟨_, rfl, ?_⟩;have n2_ := qa.mk (Kd.R_below (zr HO607.out) hb);have n3_ := qa.mk (Na (g := gb596) (o := .cells #[.slice A1 l1.length c1] 25 (0, 0)) (zb BK596.out) hb);have n4_ := qa.mk (Na (g := gb597) (o := .cells #[.int .i64 a2_0, .slice A2_1 l2_1.length c2_1] 62 (0, 0)) (zb BK597.out) hb);have n5_ := qa.mk (Rc (zh HB.out) hb);clear HO607 BK596 BK597 HB;have HO607 := n2_;have BK596 := n3_;have BK597 := n4_;have HB := n5_;clear n2_ n3_ n4_ n5_;(try clear hb)
 (try clear hb2)
 (try clear hk)
 (try clear hi)
 refine hK.out _ _ ⟨(Ya BK596.out 0).trans rfl, (Ya BK597.out 0).trans rfl, (Ya BK597.out 1).trans rfl⟩ (fun hHeld => ?_);clear hK K;refine zn1 ?_;refine zu (i := 13) (N := some 18) (tb 15 16383) rfl rfl HT_ ?_;refine zu (i := 14) (N := some 4) (tb 15 32767) rfl rfl HT_ ?_;refine Bi (Lh HT_.out (by kernel_rfl)) ?_;try go_wp2
 go_ret;exact ⟨zL0, zh HB.out⟩
def Bj.f (k : Nat) (a0 : Int) (l1 : List S40) (a2_0 : Int) (l2_1 : List Bool) : Option (List Int) := Vd.f k a0 (fun j => Pb.f k j l1 a2_0 l2_1)
theorem Mk {p q : Int → Option Bool} (h : ∀ x, LeO (p x) (q x)) : ∀ k x5 x8 x9, LeO (Vd.l0 p k x5 x8 x9) (Vd.l0 q k x5 x8 x9)
 | 0, _, _, _ => fun r h => by simp [Vd.l0] at h
 | k + 1, x5, x8, x9 => by
  unfold Vd.l0;exact LeO.ite (LeO.bind (h _) fun _ => LeO.ite (LeO.ite (Mk h k _ _ _) (LeO.refl _)) (Mk h k _ _ _)) (LeO.refl _)
theorem Bj.calls (k : Nat) (a0 : Int) (A1 : Option Addr) (c1 : Nat) (l1 : List S40) (a2_0 : Int) (A2_1 : Option Addr) (c2_1 : Nat) (l2_1 : List Bool) (r : List Int) (w : World) (hr1 : Kd.C k40 w A1 l1.length l1) (hc1 : l1.length ≤ c1) (hr2_1 : Kd.C Kd.bool w A2_1 l2_1.length l2_1) (hc2_1 : l2_1.length ≤ c2_1)
 (gb1 : Nat) (h1 : w.heap[gb1]? = some (.cells #[.slice A1 l1.length c1] 25 (0, 0))) (gb2 : Nat) (h2 : w.heap[gb2]? = some (.cells #[.int .i64 a2_0, .slice A2_1 l2_1.length c2_1] 62 (0, 0))) (h : Bj.f k a0 l1 a2_0 l2_1 = some r) :
 Calls Tryz.prog 37 #[.int .i64 a0, .func (.func 38) #[] #[.pointer (some ⟨gb1, 0, none⟩), .pointer (some ⟨gb2, 0, none⟩)]] w fun e w' => ∃ v0_ : Value, e = .returned v0_ ∧ Kd.R (Kd.int .i64) 3 w' w.heap.size (fun _ => True) v0_ r ∧ Below w.heap.size w w' :=
 Vd.calls k a0 _ 38 #[] #[.pointer (some ⟨gb1, 0, none⟩), .pointer (some ⟨gb2, 0, none⟩)] (enters_of Tryz.func38 (by kernel_rfl) rfl) r w
  (fun W x b hb hp => Pb.calls k x A1 c1 l1 a2_0 A2_1 c2_1 l2_1 b W gb1 (Na h1 hb) gb2 (Na h2 hb) (Kd.C_below hr1 hb) hc1 (Kd.C_below hr2_1 hb) hc2_1 hp) h
def Cc.f (k : Nat) (l : List S40) : Option (List Int × Bool) := (Ye.f k l).bind fun t => if t = true then (Jb.f k l false).bind fun v => (Bj.f k (l.length : Int) l v.1 v.2).bind fun r => some (r, true) else some ([], false)
theorem Cc.calls (k : Nat) (A : Option Addr) (c : Nat) (l : List S40) (r1 : List Int) (r2 : Bool) (w : World) (hC : Kd.C k40 w A l.length l) (hc : l.length ≤ c) (h : Cc.f k l = some (r1, r2)) :
 Calls Tryz.prog 12 #[.slice A l.length c] w fun e w' => ∃ v0_ : Value, e = .returned (.tuple #[v0_, .bool r2]) ∧ Kd.R (Kd.int .i64) 3 w' w.heap.size (fun _ => True) v0_ r1 ∧ Below w.heap.size w w' := by
 obtain ⟨t, ht, h⟩ := zB0 h;have HC := qa.mk hC;have HT := qa.mk ht;have u1 := Tryz.underlying62;clear hC ht;cases t
 ·rw [if_neg (by decide)] at h;obtain ⟨rfl, rfl⟩ := Prod.mk.inj (Option.some.inj h);clear h;go_enter Tryz.func12, Tryz.ntmps12;go_wp2_with (go_at_call 34; refine (Ye.calls k A c l false _ ?hC hc HT.out).mono ?_; (case hC => exact Kd.C_alloc HC.out _); rintro e w1 ⟨rfl, hb1⟩; have HB := qa.mk hb1; clear hb1);go_ret2
  exact ⟨_, rfl, Kd.R_nil _ _ _ _ _, ((Below.refl _ w).alloc (Nat.le_refl _) _).trans (HB.out.mono (by simp))⟩
 ·rw [if_pos rfl] at h;obtain ⟨⟨n, v⟩, hv, h⟩ := zB0 h;obtain ⟨r, hr, h⟩ := zB0 h;obtain ⟨rfl, rfl⟩ := Prod.mk.inj (Option.some.inj h);have HV := qa.mk hv;have HR := qa.mk hr;clear h hv hr;go_enter Tryz.func12, Tryz.ntmps12;go_wp2_with (first | (go_at_call 34; refine (Ye.calls k A c l true _ ?hC hc HT.out).mono ?_; (case hC => exact Kd.C_alloc HC.out _); rintro e w1 ⟨rfl, hb1⟩; have HX := qa.mk (Na (Ph w _) hb1); have hcx := (Ya HX.out 0).trans rfl; have HB1 := qa.mk (((Below.refl w.heap.size w).alloc (Nat.le_refl _) _).trans (hb1.mono (by simp))); clear hb1) | (go_at_call 35; refine (Jb.calls k A c l false n v _ ?hC hc HV.out).mono ?_; (case hC => exact Kd.C_below HC.out HB1.out); rintro e w2 ⟨v1, rfl, ho2, hb2⟩; obtain ⟨Av, cv, rfl⟩ := Kd.R_slice ho2; have HO2 := qa.mk (Kd.C_alloc (Kd.R_reads' ho2).2.2 (.cells #[.int .i64 n, .slice Av v.length cv] 62 (0, 0))); have HL2 := qa.mk (Kd.R_reads' ho2).2.1; have HX2 := qa.mk (Qa (Na HX.out hb2) (.cells #[.int .i64 n, .slice Av v.length cv] 62 (0, 0))); have hcx2 := (Ya HX2.out 0).trans rfl; have HB2 := qa.mk ((HB1.out.trans (hb2.mono HB1.out.size)).alloc (Nat.le_trans HB1.out.size hb2.size) (.cells #[.int .i64 n, .slice Av v.length cv] 62 (0, 0))); clear ho2 hb2 hcx));go_wp2_with fail;refine (Bj.calls k (l.length : Int) A c l n Av cv v r _ (Kd.C_below HC.out HB2.out) hc HO2.out HL2.out _ HX2.out _ (Ph w2 _) HR.out).mono ?_;rintro e w3 ⟨v3, rfl, hS, hb3⟩;have HS := qa.mk hS;have HB3 := qa.mk (HB2.out.trans (hb3.mono HB2.out.size));clear hS hb3;go_wp2;go_ret2
  exact ⟨_, rfl, Kd.R_lower HS.out HB2.out.size, HB3.out⟩
def Yg.f (k : Nat) (a0_0 : Int) (l0_1 : List (List Int)) (a1_0 : Int) (l1_1 : List (List Int)) : Option (Bool) := if a0_0 = a1_0 then ((Rf.f k l0_1 l1_1).bind fun t601 => (some t601)) else (some false)
theorem Yg.calls (k : Nat) (a0_0 : Int) (A0_1 : Option Addr) (c0_1 : Nat) (l0_1 : List (List Int)) (a1_0 : Int) (A1_1 : Option Addr) (c1_1 : Nat) (l1_1 : List (List Int)) (r : Bool) (w : World) (hr0_1 : Kd.C (Kd.slice 3 (Kd.int .i64)) w A0_1 l0_1.length l0_1) (hc0_1 : l0_1.length ≤ c0_1) (hr1_1 : Kd.C (Kd.slice 3 (Kd.int .i64)) w A1_1 l1_1.length l1_1) (hc1_1 : l1_1.length ≤ c1_1) (h : Yg.f k a0_0 l0_1 a1_0 l1_1 = some r) :
 Calls Tryz.prog 13 #[.agg #[.int .i64 a0_0, .slice A0_1 l0_1.length c0_1], .agg #[.int .i64 a1_0, .slice A1_1 l1_1.length c1_1]] w fun e w' => e = .returned (.bool r) ∧ Below w.heap.size w w' := by
 have hu24 := Tryz.underlying24;have HR0_1 := qa.mk hr0_1;have HC0_1 := qa.mk hc0_1;clear hr0_1 hc0_1;have HR1_1 := qa.mk hr1_1;have HC1_1 := qa.mk hc1_1;clear hr1_1 hc1_1;have HB := qa.mk (Below.refl w.heap.size w);have H : (if a0_0 = a1_0 then ((Rf.f k l0_1 l1_1).bind fun t601 => (some t601)) else (some false)) = some r := h;clear h;by_cases c3 : a0_0 = a1_0
 rotate_left
 ·rw [if_neg c3] at H;have c3b0 := beq_eq_false_iff_ne.mpr c3;have c3b1 := bne_iff_ne.mpr c3;obtain rfl := Option.some.inj H;go_enter Tryz.func13, Tryz.ntmps13;go_wp2_with (first | ((with_reducible refine Ma (N := 2) rfl ?_); refine zq 2 #[.int .i64 a0_0, .slice A0_1 l0_1.length c0_1] 24 ?_; intro gb599 hg w10 hbox hb; have GW599 := zG hg HB; replace HB := zH hb HB; have BK599 := qa.mk hbox; have GE599 := GW599; clear hb hbox hg) | ((with_reducible refine Ma (N := 3) rfl ?_); refine zq 3 #[.int .i64 a1_0, .slice A1_1 l1_1.length c1_1] 24 ?_; intro gb600 hg w11 hbox hb; have BK600 := qa.mk hbox; have GW600 := zG hg HB; have GE600 := zG hg HB; have NB599_600 := zNa hg BK599; have NB600_599 := zNb hg BK599; replace BK599 := zK BK599 hb; replace HB := zH hb HB; clear hb hbox hg; have hnb12 := NB599_600.out; have hnc12 := NB600_599.out; obtain ⟨hcz13_0, hcz13_1, hfz13_0, hfz13_1⟩ := zC2 BK599; obtain ⟨hcz14_0, hcz14_1, hfz14_0, hfz14_1⟩ := zC2 BK600));go_ret;exact ⟨zL0, zh HB.out⟩
 rw [if_pos c3] at H;have c3b0 := beq_iff_eq.mpr c3;have c3b1 := bne_eq_false_iff_eq.mpr c3;clear c3;replace H := zB0 H;obtain ⟨t601, A40, H⟩ := H;have A4 := qa.mk A40;clear A40;obtain rfl := Option.some.inj H;go_enter Tryz.func13, Tryz.ntmps13;go_wp2_with (first | ((with_reducible refine Ma (N := 2) rfl ?_); refine zq 2 #[.int .i64 a0_0, .slice A0_1 l0_1.length c0_1] 24 ?_; intro gb599 hg w5 hbox hb; have GW599 := zG hg HB; replace HB := zH hb HB; have BK599 := qa.mk hbox; have GE599 := GW599; clear hb hbox hg) | ((with_reducible refine Ma (N := 3) rfl ?_); refine zq 3 #[.int .i64 a1_0, .slice A1_1 l1_1.length c1_1] 24 ?_; intro gb600 hg w6 hbox hb; have BK600 := qa.mk hbox; have GW600 := zG hg HB; have GE600 := zG hg HB; have NB599_600 := zNa hg BK599; have NB600_599 := zNb hg BK599; replace BK599 := zK BK599 hb; replace HB := zH hb HB; clear hb hbox hg; have hnb7 := NB599_600.out; have hnc7 := NB600_599.out; obtain ⟨hcz8_0, hcz8_1, hfz8_0, hfz8_1⟩ := zC2 BK599; obtain ⟨hcz9_0, hcz9_1, hfz9_0, hfz9_1⟩ := zC2 BK600) | (go_at_call 42; (with_reducible refine (Rf.calls k _ _ l0_1 _ _ l1_1 t601 _ ?side1 ?side2 ?side3 ?side4 A4.out).mono ?_); (case side1 => exact zQ (Kd.C_below HR0_1.out HB.out)); (case side2 => exact HC0_1.out); (case side3 => exact zQ (Kd.C_below HR1_1.out HB.out)); (case side4 => exact HC1_1.out); rintro e w' ⟨rfl, ⟨nd, rfl⟩⟩));go_ret;exact ⟨zL0, zh HB.out⟩
def Sb.l0 : Nat → List Int → List Int → Int → Int → Option (Bool)
 | 0, _, _, _, _ => none
 | k + 1, x0, x1, x12, x13 => if x13 < x12 then (if 0 ≤ x13 then (if x13 < (x0.length : Int) then (if x13 < (x1.length : Int) then (if (rd x0 x13) = (rd x1 x13) then (Sb.l0 k x0 x1 x12 (wrap64 (x13 + 1))) else (some false)) else (none)) else (none)) else (none)) else (some true)
def Sb.f (k : Nat) (l0 : List Int) (l1 : List Int) : Option (Bool) := if (l0.length : Int) = (l1.length : Int) then (Sb.l0 k l0 l1 (l0.length : Int) 0) else (some false)
theorem Sb.calls (k : Nat) (A0 : Option Addr) (c0 : Nat) (l0 : List Int) (A1 : Option Addr) (c1 : Nat) (l1 : List Int) (r : Bool) (w : World) (hr0 : Kd.C (Kd.int .i64) w A0 l0.length l0) (hc0 : l0.length ≤ c0) (hr1 : Kd.C (Kd.int .i64) w A1 l1.length l1) (hc1 : l1.length ≤ c1) (h : Sb.f k l0 l1 = some r) :
 Calls Tryz.prog 85 #[.slice A0 l0.length c0, .slice A1 l1.length c1] w fun e w' => e = .returned (.bool r) ∧ Jd w w' := by
 have HR0 := qa.mk hr0;have HC0 := qa.mk hc0;clear hr0 hc0;have HR1 := qa.mk hr1;have HC1 := qa.mk hc1;clear hr1 hc1;have H : (if (l0.length : Int) = (l1.length : Int) then (Sb.l0 k l0 l1 (l0.length : Int) 0) else (some false)) = some r := h;clear h;by_cases c3 : (l0.length : Int) = (l1.length : Int)
 rotate_left
 ·rw [if_neg c3] at H;have c3b0 := beq_eq_false_iff_ne.mpr c3;have c3b1 := bne_iff_ne.mpr c3;have c3b2 : (l0.length == l1.length) = false := by first | simpa using c3 | (simp at c3 ⊢; omega)
  obtain rfl := Option.some.inj H;go_enter Tryz.func85, Tryz.ntmps85;go_wp2;repeat (go_quiet (fail); try go_wp2)
  go_ret;exact za1
 rw [if_pos c3] at H;have c3b0 := beq_iff_eq.mpr c3;have c3b1 := bne_eq_false_iff_eq.mpr c3;have c3b2 : (l0.length == l1.length) = true := by first | simpa using c3 | (simp at c3 ⊢; omega)
 clear c3;have H' := qa.mk H;clear H;go_enter Tryz.func85, Tryz.ntmps85;go_wp2;repeat (go_quiet (fail); try go_wp2)
 go_loopg [13] k (fun kq v13 w' => ∃ (x13_1 : Int), v13 = .int .i64 x13_1 ∧ qa (Sb.l0 kq l0 l1 (l0.length : Int) x13_1 = some r) ∧ qa (kq ≤ k) ∧ Jd w w');case atStart => exact ⟨(0), zE, H', ⟨Nat.le_refl _⟩, zD⟩
 case round =>
  clear H';try clear c1
  try clear p2
  try clear c3
  try clear c3b0
  try clear c3b1
  try clear c3b2
  obtain ⟨x13_1, rfl, HA, HK1, ⟨m1, rfl⟩⟩ := hrel;cases gk with
  | zero => exact absurd HA.out (by simp [Sb.l0])
  | succ k1 =>
   have H := HA.out;clear HA;simp only [Sb.l0] at H;by_cases c4 : x13_1 < (l0.length : Int)
   rotate_left
   ·rw [if_neg c4] at H;have c4b0 := decide_eq_false c4;clear c4;obtain rfl := Option.some.inj H;go_wp2;repeat (go_quiet (fail); try go_wp2)
    go_ret;exact za1
   rw [if_pos c4] at H;have c4b0 := decide_eq_true c4;clear c4;by_cases c5 : 0 ≤ x13_1
   rotate_left
   ·rw [if_neg c5] at H;cases H
   rw [if_pos c5] at H;have c5b0 := decide_eq_true c5;clear c5;by_cases c6 : x13_1 < (l0.length : Int)
   rotate_left
   ·rw [if_neg c6] at H;cases H
   rw [if_pos c6] at H;have c6b0 := decide_eq_true c6;clear c6;by_cases c7 : x13_1 < (l1.length : Int)
   rotate_left
   ·rw [if_neg c7] at H;cases H
   rw [if_pos c7] at H;have c7b0 := decide_eq_true c7;clear c7;by_cases c8 : (rd l0 x13_1) = (rd l1 x13_1)
   rotate_left
   ·rw [if_neg c8] at H;have c8b0 := beq_eq_false_iff_ne.mpr c8;have c8b1 := bne_iff_ne.mpr c8;obtain rfl := Option.some.inj H;obtain ⟨⟨ad614, e614, hx614_0⟩, p614, q614⟩ := zW (Kd.at_int HR0.out x13_1);cases e614;obtain ⟨⟨ad615, e615, hx615_0⟩, p615, q615⟩ := zW (Kd.at_int HR1.out x13_1);cases e615;go_wp2;repeat (go_quiet (fail); try go_wp2)
    go_ret;exact za1
   rw [if_pos c8] at H;have c8b0 := beq_iff_eq.mpr c8;have c8b1 := bne_eq_false_iff_eq.mpr c8;clear c8;have H' := qa.mk H;clear H;obtain ⟨⟨ad614, e614, hx614_0⟩, p614, q614⟩ := zW (Kd.at_int HR0.out x13_1);cases e614;obtain ⟨⟨ad615, e615, hx615_0⟩, p615, q615⟩ := zW (Kd.at_int HR1.out x13_1);cases e615;go_wp2;repeat (go_quiet (fail); try go_wp2)
   go_roundg k1;case measure => have := HK1.out; omega
   case rel => exact ⟨(wrap64 (x13_1 + 1)), zE, H', zO HK1, zD⟩
def Qf.f (k : Nat) (a0_0 : Int) (l0_1 : List Int) (a1_0 : Int) (l1_1 : List Int) : Option (Bool) := if a0_0 = a1_0 then ((Sb.f k l0_1 l1_1).bind fun t618 => (some t618)) else (some false)
theorem Qf.calls (k : Nat) (a0_0 : Int) (A0_1 : Option Addr) (c0_1 : Nat) (l0_1 : List Int) (a1_0 : Int) (A1_1 : Option Addr) (c1_1 : Nat) (l1_1 : List Int) (r : Bool) (w : World) (hr0_1 : Kd.C (Kd.int .i64) w A0_1 l0_1.length l0_1) (hc0_1 : l0_1.length ≤ c0_1) (hr1_1 : Kd.C (Kd.int .i64) w A1_1 l1_1.length l1_1) (hc1_1 : l1_1.length ≤ c1_1) (h : Qf.f k a0_0 l0_1 a1_0 l1_1 = some r) :
 Calls Tryz.prog 44 #[.agg #[.int .i64 a0_0, .slice A0_1 l0_1.length c0_1], .agg #[.int .i64 a1_0, .slice A1_1 l1_1.length c1_1]] w fun e w' => e = .returned (.bool r) ∧ Below w.heap.size w w' := by
 have hu40 := Tryz.underlying40;have HR0_1 := qa.mk hr0_1;have HC0_1 := qa.mk hc0_1;clear hr0_1 hc0_1;have HR1_1 := qa.mk hr1_1;have HC1_1 := qa.mk hc1_1;clear hr1_1 hc1_1;have HB := qa.mk (Below.refl w.heap.size w);have H : (if a0_0 = a1_0 then ((Sb.f k l0_1 l1_1).bind fun t618 => (some t618)) else (some false)) = some r := h;clear h;by_cases c3 : a0_0 = a1_0
 rotate_left
 ·rw [if_neg c3] at H;have c3b0 := beq_eq_false_iff_ne.mpr c3;have c3b1 := bne_iff_ne.mpr c3;obtain rfl := Option.some.inj H;go_enter Tryz.func44, Tryz.ntmps44;go_wp2_with (first | ((with_reducible refine Ma (N := 2) rfl ?_); refine zq 2 #[.int .i64 a0_0, .slice A0_1 l0_1.length c0_1] 40 ?_; intro gb616 hg w10 hbox hb; have GW616 := zG hg HB; replace HB := zH hb HB; have BK616 := qa.mk hbox; have GE616 := GW616; clear hb hbox hg) | ((with_reducible refine Ma (N := 3) rfl ?_); refine zq 3 #[.int .i64 a1_0, .slice A1_1 l1_1.length c1_1] 40 ?_; intro gb617 hg w11 hbox hb; have BK617 := qa.mk hbox; have GW617 := zG hg HB; have GE617 := zG hg HB; have NB616_617 := zNa hg BK616; have NB617_616 := zNb hg BK616; replace BK616 := zK BK616 hb; replace HB := zH hb HB; clear hb hbox hg; have hnb12 := NB616_617.out; have hnc12 := NB617_616.out; obtain ⟨hcz13_0, hcz13_1, hfz13_0, hfz13_1⟩ := zC2 BK616; obtain ⟨hcz14_0, hcz14_1, hfz14_0, hfz14_1⟩ := zC2 BK617));go_ret;exact ⟨zL0, zh HB.out⟩
 rw [if_pos c3] at H;have c3b0 := beq_iff_eq.mpr c3;have c3b1 := bne_eq_false_iff_eq.mpr c3;clear c3;replace H := zB0 H;obtain ⟨t618, A40, H⟩ := H;have A4 := qa.mk A40;clear A40;obtain rfl := Option.some.inj H;go_enter Tryz.func44, Tryz.ntmps44;go_wp2_with (first | ((with_reducible refine Ma (N := 2) rfl ?_); refine zq 2 #[.int .i64 a0_0, .slice A0_1 l0_1.length c0_1] 40 ?_; intro gb616 hg w5 hbox hb; have GW616 := zG hg HB; replace HB := zH hb HB; have BK616 := qa.mk hbox; have GE616 := GW616; clear hb hbox hg) | ((with_reducible refine Ma (N := 3) rfl ?_); refine zq 3 #[.int .i64 a1_0, .slice A1_1 l1_1.length c1_1] 40 ?_; intro gb617 hg w6 hbox hb; have BK617 := qa.mk hbox; have GW617 := zG hg HB; have GE617 := zG hg HB; have NB616_617 := zNa hg BK616; have NB617_616 := zNb hg BK616; replace BK616 := zK BK616 hb; replace HB := zH hb HB; clear hb hbox hg; have hnb7 := NB616_617.out; have hnc7 := NB617_616.out; obtain ⟨hcz8_0, hcz8_1, hfz8_0, hfz8_1⟩ := zC2 BK616; obtain ⟨hcz9_0, hcz9_1, hfz9_0, hfz9_1⟩ := zC2 BK617) | (go_at_call 85; (with_reducible refine (Sb.calls k _ _ l0_1 _ _ l1_1 t618 _ ?side1 ?side2 ?side3 ?side4 A4.out).mono ?_); (case side1 => exact zQ (Kd.C_below HR0_1.out HB.out)); (case side2 => exact HC0_1.out); (case side3 => exact zQ (Kd.C_below HR1_1.out HB.out)); (case side4 => exact HC1_1.out); rintro e w' ⟨rfl, ⟨nd, rfl⟩⟩));go_ret;exact ⟨zL0, zh HB.out⟩
mutual
def Gb.l0 : Nat → Int → List Int → List Int → List Int → Int → Int → Option (List Int)
 | 0, _, _, _, _, _, _ => none
 | k + 1, x0, x3, x4, x16, x17, x18 => if x18 < x17 then (if 0 ≤ x18 then (if x18 < (x16.length : Int) then (Gb.l1 k x0 x3 x4 (rd x16 x18) x16 x17 x18 x3 (x3.length : Int) 0) else (none)) else (none)) else (some x4)
def Gb.l1 : Nat → Int → List Int → List Int → Int → List Int → Int → Int → List Int → Int → Int → Option (List Int)
 | 0, _, _, _, _, _, _, _, _, _, _ => none
 | k + 1, x0, x3, x4, x6, x16, x17, x18, x22, x23, x24 => if x24 < x23 then (if 0 ≤ x24 then (if x24 < (x22.length : Int) then (if (Go.bits .and .i64 x6 (rd x22 x24)) = x6 then (if 0 ≤ (wrap64 (x0 - 1)) then (if x4.length < 17592186044416 then (Gb.l1 k x0 x3 (x4 ++ [Go.bits .or .i64 (shl .i64 (rd x22 x24) (shl .u64 1 (wrap64 (x0 - 1)))) x6]) x6 x16 x17 x18 x22 x23 (wrap64 (x24 + 1))) else (none)) else (none)) else (Gb.l1 k x0 x3 x4 x6 x16 x17 x18 x22 x23 (wrap64 (x24 + 1)))) else (none)) else (none)) else (Gb.l0 k x0 x3 x4 x16 x17 (wrap64 (x18 + 1)))
def Gb.f : Nat → Int → Option (List Int)
 | 0, _ => none
 | k + 1, a0 => if a0 = 0 then (some (([0, 1] : List Int))) else ((Gb.f k (wrap64 (a0 - 1))).bind fun t255 => (Gb.l0 k a0 t255 (([] : List Int)) t255 (t255.length : Int) 0))
end
theorem Gb.mono_l : ∀ k, (∀ y0, LeO (Gb.f k y0) (Gb.f (k + 1) y0)) ∧ (∀ y0 y1 y2 y3 y4 y5, LeO (Gb.l0 k y0 y1 y2 y3 y4 y5) (Gb.l0 (k + 1) y0 y1 y2 y3 y4 y5)) ∧ (∀ y0 y1 y2 y3 y4 y5 y6 y7 y8 y9, LeO (Gb.l1 k y0 y1 y2 y3 y4 y5 y6 y7 y8 y9) (Gb.l1 (k + 1) y0 y1 y2 y3 y4 y5 y6 y7 y8 y9))
 | 0 => ⟨fun _ r h => by simp [Gb.f] at h, fun _ _ _ _ _ _ r h => by simp [Gb.l0] at h, fun _ _ _ _ _ _ _ _ _ _ r h => by simp [Gb.l1] at h⟩
 | k + 1 => by
  obtain ⟨ih0, ih1, ih2⟩ := Gb.mono_l k;refine ⟨?_, ?_, ?_⟩
  ·intro y0;unfold Gb.f;repeat' first
   | (with_reducible exact ih0 _)
   | (with_reducible exact ih1 _ _ _ _ _ _)
   | (with_reducible exact ih2 _ _ _ _ _ _ _ _ _ _)
   | (with_reducible exact LeO.refl _)
   | (with_reducible exact LeO.none _)
   | (with_reducible refine LeO.ite ?_ ?_)
   | (with_reducible refine LeO.bind ?_ (fun _ => ?_))
   | exact ih0 _
   | exact ih1 _ _ _ _ _ _
   | exact ih2 _ _ _ _ _ _ _ _ _ _
   | exact LeO.none _
   | refine LeO.ite ?_ ?_
   | refine LeO.bind ?_ (fun _ => ?_)
  ·intro y0 y1 y2 y3 y4 y5;unfold Gb.l0;repeat' first
   | (with_reducible exact ih0 _)
   | (with_reducible exact ih1 _ _ _ _ _ _)
   | (with_reducible exact ih2 _ _ _ _ _ _ _ _ _ _)
   | (with_reducible exact LeO.refl _)
   | (with_reducible exact LeO.none _)
   | (with_reducible refine LeO.ite ?_ ?_)
   | (with_reducible refine LeO.bind ?_ (fun _ => ?_))
   | exact ih0 _
   | exact ih1 _ _ _ _ _ _
   | exact ih2 _ _ _ _ _ _ _ _ _ _
   | exact LeO.none _
   | refine LeO.ite ?_ ?_
   | refine LeO.bind ?_ (fun _ => ?_)
  ·intro y0 y1 y2 y3 y4 y5 y6 y7 y8 y9;unfold Gb.l1;repeat' first
   | (with_reducible exact ih0 _)
   | (with_reducible exact ih1 _ _ _ _ _ _)
   | (with_reducible exact ih2 _ _ _ _ _ _ _ _ _ _)
   | (with_reducible exact LeO.refl _)
   | (with_reducible exact LeO.none _)
   | (with_reducible refine LeO.ite ?_ ?_)
   | (with_reducible refine LeO.bind ?_ (fun _ => ?_))
   | exact ih0 _
   | exact ih1 _ _ _ _ _ _
   | exact ih2 _ _ _ _ _ _ _ _ _ _
   | exact LeO.none _
   | refine LeO.ite ?_ ?_
   | refine LeO.bind ?_ (fun _ => ?_)
theorem Gb.mono : ∀ a0 k, LeO (Gb.f k a0) (Gb.f (k + 1) a0) := by
 intro a0 k;obtain ⟨ih0, ih1, ih2⟩ := Gb.mono_l k;exact ih0 a0
theorem Gb.calls (k : Nat) : ∀ (a0 : Int) (r : List Int) (w : World) (h : Gb.f k a0 = some r),
 Calls Tryz.prog 109 #[.int .i64 a0] w fun e w' => ∃ v0_ : Value, e = .returned (v0_) ∧ Kd.R (Kd.int .i64) 3 w' w.heap.size (fun _ => True) v0_ r ∧ Below w.heap.size w w' := by
 induction k using Nat.strongRecOn with
 | _ k ih =>
 intro a0 r w h;cases k with
 | zero => exact absurd h (by simp [Gb.f])
 | succ k =>
 simp only [Gb.f] at h;have HB := qa.mk (Below.refl w.heap.size w);have H : (if a0 = 0 then (some (([0, 1] : List Int))) else ((Gb.f k (wrap64 (a0 - 1))).bind fun t255 => (Gb.l0 k a0 t255 (([] : List Int)) t255 (t255.length : Int) 0))) = some r := h;clear h;by_cases c2 : a0 = 0
 ·rw [if_pos c2] at H;have c2b0 := beq_iff_eq.mpr c2;have c2b1 := bne_eq_false_iff_eq.mpr c2;clear c2;obtain ⟨y252, hy252⟩ : ∃ y_ : List Int, y_ = (([0, 1] : List Int)) := ⟨_, rfl⟩;rw [← hy252] at H;have Ny252 := qa.mk hy252;clear hy252;obtain rfl := Option.some.inj H;go_enter Tryz.func109, Tryz.ntmps109;go_wp2_with (first | ((with_reducible refine Ma (N := 11) rfl ?_); refine Kd.R_lit (Kd.int .i64) _ 3 ?hg (N := 11) ?hd (xs := ([0, 1] : List Int)) (inner := [.int .i64 0, .int .i64 1]) (ok := fun _ => True) (okp := fun _ => True) ?hr ?hp (fun _ hk => hk) trivial (Below.refl _ _) (Nat.le_refl _) (by simp) ?_; (case hd => rfl); (case hg => rfl); (case hr => first | (go_simp; done) | (go_simp; rfl)); (case hp => exact (qg.one (show Kd.M (Kd.int .i64) _ _ _ 0 [.int .i64 0] from rfl) (qg.one (show Kd.M (Kd.int .i64) _ _ _ 1 [.int .i64 1] from rfl) (qg.none _ _)))); intro v253 w3 ho4 hb hg_ hnew_; clear hg_ hnew_; (first | rw [← Ny252.out] at ho4 | (simp only [Int.reduceToNat] at ho4; rw [← Ny252.out] at ho4)); have HO254 := qa.mk (Kd.R_lower ho4 (Ua (zh HB.out))); replace HB := zH hb HB; clear hb ho4));go_ret;exact ⟨_, zL0, by (with_reducible repeat (first | apply Kd.R_alloc | apply Kd.R_drewN | apply Kd.R_drew)); exact HO254.out, zh HB.out⟩
 rw [if_neg c2] at H;have c2b0 := beq_eq_false_iff_ne.mpr c2;have c2b1 := bne_iff_ne.mpr c2;replace H := zB0 H;obtain ⟨t255, A50, H⟩ := H;have A5 := qa.mk A50;clear A50;obtain ⟨y258, hy258⟩ : ∃ y_ : List Int, y_ = (([] : List Int)) := ⟨_, rfl⟩;rw [← hy258] at H;have Ny258 := qa.mk hy258;clear hy258;have H' := qa.mk H;clear H;go_enter Tryz.func109, Tryz.ntmps109;go_wp2_with (first | ((with_reducible refine Va (f := 109) rfl ?_); refine zl 14 Tryz.func109 #[.int .i64 (wrap64 (a0 - 1))] ?_; (with_reducible refine (ih k (by omega) (wrap64 (a0 - 1)) t255 _ A5.out).mono ?_); rintro e w6 ⟨v256, rfl, ho0, hb⟩; refine ⟨_, rfl, ?_⟩; have HO257 := qa.mk (Kd.R_lower ho0 (Ua (zh HB.out))); replace HB := zH hb HB; clear hb; (try clear ho0)) | ((with_reducible refine Ma (N := 15) rfl ?_); refine Kd.R_lit (Kd.int .i64) _ 3 ?hg (N := 15) ?hd (xs := ([] : List Int)) (inner := []) (ok := fun _ => True) (okp := fun _ => True) ?hr ?hp (fun _ hk => hk) trivial (Below.refl _ _) (Nat.le_refl _) (by simp) ?_; (case hd => rfl); (case hg => rfl); (case hr => first | (go_simp; done) | (go_simp; rfl)); (case hp => exact (qg.none _ _)); intro v259 w7 ho8 hb hg_ hnew_; clear hg_ hnew_; (first | rw [← Ny258.out] at ho8 | (simp only [Int.reduceToNat] at ho8; rw [← Ny258.out] at ho8)); have HO260 := qa.mk (Kd.R_lower (Kd.R_new' ho8 (Kd.R_lt (zr HO257.out))) (Ua (zh HB.out))); replace HO257 := qa.mk (Kd.R_elder' (zr HO257.out) (Kd.R_base ho8) hb); replace HB := zH hb HB; clear hb ho8; obtain ⟨Ao9, co9, eo9⟩ := Kd.R_slice HO257.out; subst eo9));go_loopg [4, 18] k (fun kq v4 v18 w' => ∃ (x4_1 : List Int) (x18_1 : Int), v18 = .int .i64 x18_1 ∧ qa (Gb.l0 kq a0 t255 x4_1 t255 (t255.length : Int) x18_1 = some r) ∧ qa (kq ≤ k) ∧ qa (Kd.R (Kd.int .i64) 3 w' w.heap.size (fun k_ => some k_ ≠ (v4 : Value).ownBlock) (.slice Ao9 t255.length co9) t255) ∧ qa (Kd.R (Kd.int .i64) 3 w' w.heap.size (fun k_ => some k_ ≠ ((.slice Ao9 t255.length co9) : Value).ownBlock ∧ some k_ ≠ ((.slice Ao9 t255.length co9) : Value).ownBlock) v4 x4_1) ∧ qa (Kd.R (Kd.int .i64) 3 w' w.heap.size (fun k_ => some k_ ≠ (v4 : Value).ownBlock) (.slice Ao9 t255.length co9) t255) ∧ qa (Below w.heap.size w w'));case atStart => exact ⟨(y258), (0), zE, H', ⟨Nat.le_refl _⟩, ⟨zr (Kd.R_mono HO257.out (fun _ hk => hk.2))⟩, ⟨by (with_reducible repeat (first | apply Kd.R_alloc | apply Kd.R_drewN | apply Kd.R_drew)); exact Kd.R_mono HO260.out (fun _ hk => ⟨hk.2, hk.2⟩)⟩, ⟨zr (Kd.R_mono HO257.out (fun _ hk => hk.2))⟩, ⟨zh HB.out⟩⟩
 case round =>
  clear H';try clear c1
  try clear c2
  try clear c2b0
  try clear c2b1
  try clear p2
  try clear p6
  obtain ⟨x4_1, x18_1, rfl, HA, HK1, HO_3, HO_4, HO_16, HB⟩ := hrel;cases gk with
  | zero => exact absurd HA.out (by simp [Gb.l0])
  | succ k1 =>
   have H := HA.out;clear HA;simp only [Gb.l0] at H;by_cases c10 : x18_1 < (t255.length : Int)
   rotate_left
   ·rw [if_neg c10] at H;have c10b0 := decide_eq_false c10;clear c10;obtain rfl := Option.some.inj H;go_wp2;go_ret;exact ⟨_, zL0, by (with_reducible repeat (first | apply Kd.R_alloc | apply Kd.R_drewN | apply Kd.R_drew)); exact Kd.R_mono HO_4.out (fun _ hk => trivial), zh HB.out⟩
   rw [if_pos c10] at H;have c10b0 := decide_eq_true c10;clear c10;by_cases c11 : 0 ≤ x18_1
   rotate_left
   ·rw [if_neg c11] at H;cases H
   rw [if_pos c11] at H;have c11b0 := decide_eq_true c11;clear c11;by_cases c12 : x18_1 < (t255.length : Int)
   rotate_left
   ·rw [if_neg c12] at H;cases H
   rw [if_pos c12] at H;have c12b0 := decide_eq_true c12;clear c12;have H' := qa.mk H;clear H;obtain ⟨⟨ad261, e261, hx261_0⟩, p261, q261⟩ := zW (Kd.at_int (Kd.R_reads' HO_16.out).2.2 x18_1);cases e261;go_wp2;go_loopg [4, 24] k1 (fun kq v4 v24 w' => ∃ (x4_2 : List Int) (x24_2 : Int), v24 = .int .i64 x24_2 ∧ qa (Gb.l1 kq a0 t255 x4_2 (rd t255 x18_1) t255 (t255.length : Int) x18_1 t255 (t255.length : Int) x24_2 = some r) ∧ qa (kq ≤ k1) ∧ qa (Kd.R (Kd.int .i64) 3 w' w.heap.size (fun k_ => some k_ ≠ (v4 : Value).ownBlock) (.slice (some ad261) t255.length co9) t255) ∧ qa (Kd.R (Kd.int .i64) 3 w' w.heap.size (fun k_ => some k_ ≠ ((.slice (some ad261) t255.length co9) : Value).ownBlock ∧ some k_ ≠ ((.slice (some ad261) t255.length co9) : Value).ownBlock ∧ some k_ ≠ ((.slice (some ad261) t255.length co9) : Value).ownBlock) v4 x4_2) ∧ qa (Kd.R (Kd.int .i64) 3 w' w.heap.size (fun k_ => some k_ ≠ (v4 : Value).ownBlock) (.slice (some ad261) t255.length co9) t255) ∧ qa (Kd.R (Kd.int .i64) 3 w' w.heap.size (fun k_ => some k_ ≠ (v4 : Value).ownBlock) (.slice (some ad261) t255.length co9) t255) ∧ qa (Below w.heap.size w w'));case atStart => exact ⟨(x4_1), (0), zE, H', ⟨Nat.le_refl _⟩, ⟨zr HO_3.out⟩, ⟨by (with_reducible repeat (first | apply Kd.R_alloc | apply Kd.R_drewN | apply Kd.R_drew)); exact Kd.R_mono HO_4.out (fun _ hk => ⟨hk.1, ⟨hk.2, hk.1⟩⟩)⟩, ⟨zr HO_16.out⟩, ⟨zr HO_3.out⟩, ⟨zh HB.out⟩⟩
   case round =>
    clear H';try clear c1
    try clear c2
    try clear c2b0
    try clear c2b1
    try clear p2
    try clear q2
    try clear hx2
    try clear p6
    try clear c10
    try clear c10b0
    try clear c11
    try clear c11b0
    try clear c12
    try clear c12b0
    try clear hx261_0
    try clear p2
    try clear p261
    try clear p6
    try clear q261
    obtain ⟨x4_2, x24_2, rfl, HA, HK2, HO_3, HO_4, HO_16, HO_22, HB⟩ := hrel;cases gk with
    | zero => exact absurd HA.out (by simp [Gb.l1])
    | succ k2 =>
     have H := HA.out;clear HA;simp only [Gb.l1] at H;by_cases c13 : x24_2 < (t255.length : Int)
     rotate_left
     ·rw [if_neg c13] at H;have c13b0 := decide_eq_false c13;clear c13;have H' := qa.mk H;clear H;go_wp2;try subst hji17
      try subst hji19
      try subst hji20
      go_roundg k2;case measure => have := HK1.out; have := HK2.out; omega
      case rel => exact ⟨(x4_2), (wrap64 (x18_1 + 1)), zE, H', zO2 HK1 HK2, ⟨zr HO_3.out⟩, ⟨by (with_reducible repeat (first | apply Kd.R_alloc | apply Kd.R_drewN | apply Kd.R_drew)); exact Kd.R_mono HO_4.out (fun _ hk => ⟨hk.1, hk.2.1⟩)⟩, ⟨zr HO_16.out⟩, ⟨zh HB.out⟩⟩
     rw [if_pos c13] at H;have c13b0 := decide_eq_true c13;clear c13;by_cases c14 : 0 ≤ x24_2
     rotate_left
     ·rw [if_neg c14] at H;cases H
     rw [if_pos c14] at H;have c14b0 := decide_eq_true c14;clear c14;by_cases c15 : x24_2 < (t255.length : Int)
     rotate_left
     ·rw [if_neg c15] at H;cases H
     rw [if_pos c15] at H;have c15b0 := decide_eq_true c15;clear c15;by_cases c16 : (Go.bits .and .i64 (rd t255 x18_1) (rd t255 x24_2)) = (rd t255 x18_1)
     rotate_left
     ·rw [if_neg c16] at H;have c16b0 := beq_eq_false_iff_ne.mpr c16;have c16b1 := bne_iff_ne.mpr c16;have H' := qa.mk H;clear H;obtain ⟨⟨ad262, e262, hx262_0⟩, p262, q262⟩ := zW (Kd.at_int (Kd.R_reads' HO_22.out).2.2 x24_2);obtain rfl : ad261 = ad262 := (by injection e262);go_wp2;try subst hji17
      try subst hji19
      try subst hji20
      go_roundg k2;case measure => have := HK1.out; have := HK2.out; omega
      case rel => exact ⟨(x4_2), (wrap64 (x24_2 + 1)), zE, H', zO2 HK1 HK2, ⟨zr HO_3.out⟩, ⟨zr HO_4.out⟩, ⟨zr HO_16.out⟩, ⟨zr HO_22.out⟩, ⟨zh HB.out⟩⟩
     rw [if_pos c16] at H;have c16b0 := beq_iff_eq.mpr c16;have c16b1 := bne_eq_false_iff_eq.mpr c16;clear c16;obtain ⟨ji17, hji17⟩ : ∃ j_ : Int, (wrap64 (a0 - 1)) = j_ := ⟨_, rfl⟩;rw [hji17] at H;have hji17w := (Ff _).trans hji17;by_cases c18 : 0 ≤ (ji17)
     rotate_left
     ·rw [if_neg c18] at H;cases H
     rw [if_pos c18] at H;have c18b0 := eq_true c18;have c18b1 := decide_eq_true c18;clear c18;obtain ⟨ji19, hji19⟩ : ∃ j_ : Int, (shl .u64 1 (ji17)) = j_ := ⟨_, rfl⟩;rw [hji19] at H;have hji19_ : (IntKind.u64.wrap (1 * 2 ^ min (ji17).toNat 64)) = ji19 := hji19;have hji19n : 0 ≤ ji19 := by rw [← hji19_]; exact Rw _
     have hji19n0 := eq_true hji19n;have hji19n1 : decide (0 ≤ ji19) = true := decide_eq_true hji19n;have hji19z : (ji17) ≤ 64 → (IntKind.u64.wrap (1 * 2 ^ (ji17).toNat)) = ji19 := Pm hji19;have hji19u : (IntKind.u64.wrap (2 ^ min (ji17).toNat 64)) = ji19 := by have h_ := hji19_; rw [Int.one_mul] at h_; exact h_
     have hji19v : (ji17) ≤ 64 → (IntKind.u64.wrap (2 ^ (ji17).toNat)) = ji19 := fun hle_ => by have h_ := hji19z hle_; rw [Int.one_mul] at h_; exact h_
     obtain ⟨ji20, hji20⟩ : ∃ j_ : Int, (shl .i64 (rd t255 x24_2) (ji19)) = j_ := ⟨_, rfl⟩;rw [hji20] at H;obtain ⟨hji20_, hji20z, hji20y, hji20x⟩ := zJ hji20;by_cases c21 : x4_2.length < 17592186044416
     rotate_left
     ·rw [if_neg c21] at H;cases H
     rw [if_pos c21] at H;have LMc21 := qa.mk c21;clear c21;obtain ⟨y263, hy263⟩ : ∃ y_ : List Int, y_ = (x4_2 ++ [Go.bits .or .i64 (ji20) (rd t255 x18_1)]) := ⟨_, rfl⟩;rw [← hy263] at H;have Ny263 := qa.mk hy263;clear hy263;have H' := qa.mk H;clear H;obtain ⟨⟨ad262, e262, hx262_0⟩, p262, q262⟩ := zW (Kd.at_int (Kd.R_reads' HO_22.out).2.2 x24_2);obtain rfl : ad261 = ad262 := (by injection e262);go_wp2_with (first | ((with_reducible refine Uc (b := .append) (xs := #[.tmp 33, .tmp 41]) rfl ?_); at_builtin; refine Kd.R_append (Kd.int .i64) (w0 := w) w.heap.size rfl (.tmp 33) (.tmp 41) 35 3 (.int .i64 0) 8 rfl Tryz.underlying35 info3 rfl (by decide) (by omega) u4 x4_2 (Go.bits .or .i64 (ji20) (rd t255 x18_1)) [.int .i64 (Go.bits .or .i64 (ji20) (rd t255 x18_1))] (fun k_ => some k_ ≠ (.slice (some ad261) t255.length co9 : Value).ownBlock ∧ some k_ ≠ (.slice (some ad261) t255.length co9 : Value).ownBlock ∧ some k_ ≠ (.slice (some ad261) t255.length co9 : Value).ownBlock) (fun _ => False) rfl rfl ?aP (fun _ hk => hk.elim) ?aF ?aO ?aB ?aS ?aL ?_; (case aP => exact rfl); (case aB => exact (zh HB.out)); (case aF => exact (fun k_ hk => ⟨Kd.fresh' (Kd.R_lt (zr HO_3.out)) k_ hk, Kd.fresh' (Kd.R_lt (zr HO_16.out)) k_ hk, Kd.fresh' (Kd.R_lt (zr HO_22.out)) k_ hk⟩)); (case aO => exact (zr HO_4.out)); (case aS => exact (Ua (zh HB.out))); (case aL => have := LMc21.out; omega); intro v264 w22 ho hb hg hat; rw [← Ny263.out] at ho; have HO265 := qa.mk (ho); replace HO_3 := qa.mk (Kd.R_after (ok := (fun _ => True)) (by (with_reducible repeat (first | apply Kd.R_alloc | apply Kd.R_drewN | apply Kd.R_drew)); exact Kd.R_mono HO_3.out (fun _ hk => ⟨trivial, hk⟩)) hg hat); replace HO_16 := qa.mk (Kd.R_after (ok := (fun _ => True)) (by (with_reducible repeat (first | apply Kd.R_alloc | apply Kd.R_drewN | apply Kd.R_drew)); exact Kd.R_mono HO_16.out (fun _ hk => ⟨trivial, hk⟩)) hg hat); replace HO_22 := qa.mk (Kd.R_after (ok := (fun _ => True)) (by (with_reducible repeat (first | apply Kd.R_alloc | apply Kd.R_drewN | apply Kd.R_drew)); exact Kd.R_mono HO_22.out (fun _ hk => ⟨trivial, hk⟩)) hg hat); replace HB := qa.mk (hb); clear HO_4 ho hb hg hat));try subst hji17
     try subst hji19
     try subst hji20
     go_roundg k2;case measure => have := HK1.out; have := HK2.out; omega
     case rel => exact ⟨(y263), (wrap64 (x24_2 + 1)), zE, H', zO2 HK1 HK2, ⟨zr (Kd.R_mono HO_3.out (fun _ hk => hk.2))⟩, ⟨zr HO265.out⟩, ⟨zr (Kd.R_mono HO_16.out (fun _ hk => hk.2))⟩, ⟨zr (Kd.R_mono HO_22.out (fun _ hk => hk.2))⟩, ⟨zh HB.out⟩⟩
def Xh.f (a0_0 : Int) (l0_1 : List Bool) : Option (Int) := if 0 ≤ a0_0 then (some (wrap64 ((shl .i64 1 a0_0) - 1))) else (none)
theorem Xh.calls (a0_0 : Int) (A0_1 : Option Addr) (c0_1 : Nat) (l0_1 : List Bool) (r : Int) (w : World) (hr0_1 : Kd.C Kd.bool w A0_1 l0_1.length l0_1) (hc0_1 : l0_1.length ≤ c0_1) (h : Xh.f a0_0 l0_1 = some r) :
 Calls Tryz.prog 112 #[.agg #[.int .i64 a0_0, .slice A0_1 l0_1.length c0_1]] w fun e w' => e = .returned (.int .i64 r) ∧ Below w.heap.size w w' := by
 have hu62 := Tryz.underlying62;have HR0_1 := qa.mk hr0_1;have HC0_1 := qa.mk hc0_1;clear hr0_1 hc0_1;have HB := qa.mk (Below.refl w.heap.size w);have H : (if 0 ≤ a0_0 then (some (wrap64 ((shl .i64 1 a0_0) - 1))) else (none)) = some r := h;clear h;by_cases c2 : 0 ≤ a0_0
 rotate_left
 ·rw [if_neg c2] at H;cases H
 rw [if_pos c2] at H;have c2b0 := eq_true c2;have c2b1 := decide_eq_true c2;clear c2;obtain ⟨ji3, hji3⟩ : ∃ j_ : Int, (shl .i64 1 a0_0) = j_ := ⟨_, rfl⟩;rw [hji3] at H;obtain ⟨hji3_, hji3z, hji3u, hji3v, hji3y, hji3x⟩ := zJ1 hji3;obtain rfl := Option.some.inj H;go_enter Tryz.func112, Tryz.ntmps112;go_wp2_with (first | ((with_reducible refine Ma (N := 1) rfl ?_); refine zq 1 #[.int .i64 a0_0, .slice A0_1 l0_1.length c0_1] 62 ?_; intro gb266 hg w4 hbox hb; have GW266 := zG hg HB; replace HB := zH hb HB; have BK266 := qa.mk hbox; have GE266 := GW266; clear hb hbox hg; obtain ⟨hcz5_0, hcz5_1, hfz5_0, hfz5_1⟩ := zC2 BK266));go_ret;exact ⟨by first | rfl | (simp [Ce, De] <;> rfl) | (simp only [← hji3]; first | rfl | (simp [Ce, De] <;> rfl)) | (simp [*, Ce, De] <;> rfl), zh HB.out⟩
def Gg.f (a0 : Int) (a1 : Int) (a2 : Int) : Option (Bool) := if a0 ≥ a1 then (some (decide (a0 ≤ a2))) else (some false)
theorem Gg.calls (a0 : Int) (a1 : Int) (a2 : Int) (r : Bool) (w : World) (h : Gg.f a0 a1 a2 = some r) :
 Calls Tryz.prog 136 #[.int .i64 a0, .int .i64 a1, .int .i64 a2] w fun e w' => e = .returned (.bool r) ∧ Jd w w' := by
 have H : (if a0 ≥ a1 then (some (decide (a0 ≤ a2))) else (some false)) = some r := h;clear h;by_cases c4 : a0 ≥ a1
 ·rw [if_pos c4] at H;have c4b0 := decide_eq_true c4;clear c4;obtain rfl := Option.some.inj H;go_enter Tryz.func136, Tryz.ntmps136;go_wp2;go_ret;exact za1
 rw [if_neg c4] at H;have c4b0 := decide_eq_false c4;clear c4;obtain rfl := Option.some.inj H;go_enter Tryz.func136, Tryz.ntmps136;go_wp2;go_ret;exact za1
mutual
def Ta.l0 : Nat → List Int → List Int → Int → Option (Bool)
 | 0, _, _, _ => none
 | k + 1, x0, x1, x5 => if x5 < (x0.length : Int) then (Ta.j1 k x0 x1 x5 (decide (x5 < (x1.length : Int)))) else (Ta.j1 k x0 x1 x5 false)
def Ta.j1 : Nat → List Int → List Int → Int → Bool → Option (Bool)
 | 0, _, _, _, _ => none
 | k + 1, x0, x1, x5, x15 => if x15 = true then (if 0 ≤ x5 then (if x5 < (x0.length : Int) then (if x5 < (x1.length : Int) then (if (rd x0 x5) = (rd x1 x5) then (Ta.l0 k x0 x1 (wrap64 (x5 + 1))) else (some (decide ((rd x0 x5) < (rd x1 x5))))) else (none)) else (none)) else (none)) else (some (decide ((x0.length : Int) < (x1.length : Int))))
end
def Ta.f (k : Nat) (l0 : List Int) (l1 : List Int) : Option (Bool) := Ta.l0 k l0 l1 0
theorem Ta.mono_l : ∀ k, (∀ y0 y1 y2, LeO (Ta.l0 k y0 y1 y2) (Ta.l0 (k + 1) y0 y1 y2)) ∧ (∀ y0 y1 y2 y3, LeO (Ta.j1 k y0 y1 y2 y3) (Ta.j1 (k + 1) y0 y1 y2 y3))
 | 0 => ⟨fun _ _ _ r h => by simp [Ta.l0] at h, fun _ _ _ _ r h => by simp [Ta.j1] at h⟩
 | k + 1 => by
  obtain ⟨ih0, ih1⟩ := Ta.mono_l k;refine ⟨?_, ?_⟩
  ·intro y0 y1 y2;unfold Ta.l0;repeat' first
   | (with_reducible exact ih0 _ _ _)
   | (with_reducible exact ih1 _ _ _ _)
   | (with_reducible exact LeO.refl _)
   | (with_reducible exact LeO.none _)
   | (with_reducible refine LeO.ite ?_ ?_)
   | (with_reducible refine LeO.bind ?_ (fun _ => ?_))
   | exact ih0 _ _ _
   | exact ih1 _ _ _ _
   | exact LeO.none _
   | refine LeO.ite ?_ ?_
   | refine LeO.bind ?_ (fun _ => ?_)
  ·intro y0 y1 y2 y3;unfold Ta.j1;repeat' first
   | (with_reducible exact ih0 _ _ _)
   | (with_reducible exact ih1 _ _ _ _)
   | (with_reducible exact LeO.refl _)
   | (with_reducible exact LeO.none _)
   | (with_reducible refine LeO.ite ?_ ?_)
   | (with_reducible refine LeO.bind ?_ (fun _ => ?_))
   | exact ih0 _ _ _
   | exact ih1 _ _ _ _
   | exact LeO.none _
   | refine LeO.ite ?_ ?_
   | refine LeO.bind ?_ (fun _ => ?_)
theorem Ta.mono : ∀ a0 a1 k, LeO (Ta.f k a0 a1) (Ta.f (k + 1) a0 a1) := by
 intro a0 a1 k;obtain ⟨ih0, ih1⟩ := Ta.mono_l k;unfold Ta.f;repeat' first
  | (with_reducible exact ih0 _ _ _)
  | (with_reducible exact ih1 _ _ _ _)
  | (with_reducible exact LeO.refl _)
  | (with_reducible exact LeO.none _)
  | (with_reducible refine LeO.ite ?_ ?_)
  | (with_reducible refine LeO.bind ?_ (fun _ => ?_))
  | exact ih0 _ _ _
  | exact ih1 _ _ _ _
  | exact LeO.none _
  | refine LeO.ite ?_ ?_
  | refine LeO.bind ?_ (fun _ => ?_)
theorem Ta.calls (k : Nat) (A0 : Option Addr) (c0 : Nat) (l0 : List Int) (A1 : Option Addr) (c1 : Nat) (l1 : List Int) (r : Bool) (w : World) (hr0 : Kd.C (Kd.int .i64) w A0 l0.length l0) (hc0 : l0.length ≤ c0) (hr1 : Kd.C (Kd.int .i64) w A1 l1.length l1) (hc1 : l1.length ≤ c1) (h : Ta.f k l0 l1 = some r) :
 Calls Tryz.prog 118 #[.slice A0 l0.length c0, .slice A1 l1.length c1] w fun e w' => e = .returned (.bool r) ∧ Jd w w' := by
 have HR0 := qa.mk hr0;have HC0 := qa.mk hc0;clear hr0 hc0;have HR1 := qa.mk hr1;have HC1 := qa.mk hc1;clear hr1 hc1;have H : (Ta.l0 k l0 l1 0) = some r := h;clear h;have H' := qa.mk H;clear H;go_enter Tryz.func118, Tryz.ntmps118;go_wp2;repeat (go_quiet (fail); try go_wp2)
 go_loopg [5] k (fun kq v5 w' => ∃ (x5_1 : Int), v5 = .int .i64 x5_1 ∧ qa (Ta.l0 kq l0 l1 x5_1 = some r) ∧ qa (kq ≤ k) ∧ Jd w w');case atStart => exact ⟨(0), zE, H', ⟨Nat.le_refl _⟩, zD⟩
 case round =>
  clear H';try clear c1
  try clear p2
  obtain ⟨x5_1, rfl, HA, HK1, ⟨m1, rfl⟩⟩ := hrel;cases gk with
  | zero => exact absurd HA.out (by simp [Ta.l0])
  | succ k1 =>
   have H := HA.out;clear HA;simp only [Ta.l0] at H;have HC3 := qa.mk H;clear H;go_upto_region 2 with (fail)
   repeat (go_quiet (fail); go_upto_region 2 with (fail))
   go_cut [15] (fun v15 wc => ∃ (kq : Nat) (x15_2 : Bool), v15 = .bool x15_2 ∧ qa (Ta.j1 kq l0 l1 x5_1 x15_2 = some r) ∧ qa (kq ≤ k1) ∧ Jd w wc);case first =>
    have H := HC3.out;clear HC3;by_cases c4 : x5_1 < (l0.length : Int)
    ·rw [if_pos c4] at H;have c4b0 := decide_eq_true c4;clear c4;(first | rw [c4b0] | (simp only [Ff, Jh]; rw [c4b0]) | skip)
     have H' := qa.mk H;clear H;go_wp2;repeat (go_quiet (fail); try go_wp2)
     go_meet
     case rel => exact ⟨_, (decide (x5_1 < (l1.length : Int))), zE, H', ⟨by have := HK1.out; first | omega | exact Nat.le_refl _⟩, zD⟩
    ·rw [if_neg c4] at H;have c4b0 := decide_eq_false c4;clear c4;(first | rw [c4b0] | (simp only [Ff, Jh]; rw [c4b0]) | skip)
     have H' := qa.mk H;clear H;go_wp2;repeat (go_quiet (fail); try go_wp2)
     go_meet
     case rel => exact ⟨_, (false), zE, H', ⟨by have := HK1.out; first | omega | exact Nat.le_refl _⟩, zD⟩
   case rest =>
    clear HC3;try clear c1
    try clear p2
    try clear c4
    try clear c4b0
    try clear p2
    obtain ⟨kq, x15_2, rfl, HA, HJ2, ⟨mc2, rfl⟩⟩ := hcut;cases kq with
    | zero => exact absurd HA.out (by simp [Ta.j1])
    | succ kj2 =>
     have H := HA.out;clear HA;simp only [Ta.j1] at H;by_cases c5 : x15_2 = true
     rotate_left
     ·replace c5 := Bool.eq_false_iff.mpr c5;subst c5;rw [if_neg zF] at H;obtain rfl := Option.some.inj H;go_wp2;repeat (go_quiet (fail); try go_wp2)
      go_ret;exact za1
     subst c5;rw [if_pos rfl] at H;by_cases c6 : 0 ≤ x5_1
     rotate_left
     ·rw [if_neg c6] at H;cases H
     rw [if_pos c6] at H;have c6b0 := decide_eq_true c6;clear c6;by_cases c7 : x5_1 < (l0.length : Int)
     rotate_left
     ·rw [if_neg c7] at H;cases H
     rw [if_pos c7] at H;have c7b0 := decide_eq_true c7;clear c7;by_cases c8 : x5_1 < (l1.length : Int)
     rotate_left
     ·rw [if_neg c8] at H;cases H
     rw [if_pos c8] at H;have c8b0 := decide_eq_true c8;clear c8;by_cases c9 : (rd l0 x5_1) = (rd l1 x5_1)
     ·rw [if_pos c9] at H;have c9b0 := beq_iff_eq.mpr c9;have c9b1 := bne_eq_false_iff_eq.mpr c9;clear c9;have H' := qa.mk H;clear H;obtain ⟨⟨ad339, e339, hx339_0⟩, p339, q339⟩ := zW (Kd.at_int HR0.out x5_1);cases e339;obtain ⟨⟨ad340, e340, hx340_0⟩, p340, q340⟩ := zW (Kd.at_int HR1.out x5_1);cases e340;go_wp2;repeat (go_quiet (fail); try go_wp2)
      go_roundg kj2;case measure => have := HK1.out; have := HJ2.out; omega
      case rel => exact ⟨(wrap64 (x5_1 + 1)), zE, H', zO2 HK1 HJ2, zD⟩
     rw [if_neg c9] at H;have c9b0 := beq_eq_false_iff_ne.mpr c9;have c9b1 := bne_iff_ne.mpr c9;obtain rfl := Option.some.inj H;obtain ⟨⟨ad339, e339, hx339_0⟩, p339, q339⟩ := zW (Kd.at_int HR0.out x5_1);cases e339;obtain ⟨⟨ad340, e340, hx340_0⟩, p340, q340⟩ := zW (Kd.at_int HR1.out x5_1);cases e340;obtain ⟨⟨ad341, e341, hx341_0⟩, p341, q341⟩ := zW (Kd.at_int HR0.out x5_1);obtain rfl : ad339 = ad341 := (by injection e341);obtain ⟨⟨ad342, e342, hx342_0⟩, p342, q342⟩ := zW (Kd.at_int HR1.out x5_1);obtain rfl : ad340 = ad342 := (by injection e342);go_wp2;repeat (go_quiet (fail); try go_wp2)
     go_ret;exact za1
def Gi.f (a0 : Int) : Option (Int) := if 0 ≤ a0 then (some (wrap64 ((shl .i64 1 a0) - 1))) else (none)
theorem Gi.calls (a0 : Int) (r : Int) (w : World) (h : Gi.f a0 = some r) :
 Calls Tryz.prog 137 #[.int .i64 a0] w fun e w' => e = .returned (.int .i64 r) ∧ Jd w w' := by
 have H : (if 0 ≤ a0 then (some (wrap64 ((shl .i64 1 a0) - 1))) else (none)) = some r := h;clear h;by_cases c2 : 0 ≤ a0
 rotate_left
 ·rw [if_neg c2] at H;cases H
 rw [if_pos c2] at H;have c2b0 := eq_true c2;have c2b1 := decide_eq_true c2;clear c2;obtain ⟨ji3, hji3⟩ : ∃ j_ : Int, (shl .i64 1 a0) = j_ := ⟨_, rfl⟩;rw [hji3] at H;obtain ⟨hji3_, hji3z, hji3u, hji3v, hji3y, hji3x⟩ := zJ1 hji3;obtain rfl := Option.some.inj H;go_enter Tryz.func137, Tryz.ntmps137;go_wp2;go_ret;exact ⟨by first | rfl | (simp; done) | (simp only [← hji3] <;> (first | rfl | simp)) | (simp [*]; done), by repeat (first | exact Jd.refl _ | apply Jd.step)⟩
def We.l0 : Nat → List (List Int) → Int → Int → Int → List (List Int) → Int → List (List Int) → Option (Bool)
 | 0, _, _, _, _, _, _, _ => none
 | k + 1, x8, x9, x10, x372000, x372001, x373000, x373001 => if x10 < x9 then (if 0 ≤ x10 then (if x10 < (x8.length : Int) then (if x10 ≥ (x373001.length : Int) then (some false) else (if x10 < (x373001.length : Int) then ((Ta.f k (Bd x8 x10) (Bd x373001 x10)).bind fun t375 => (if t375 = true then (some true) else ((Ta.f k (Bd x373001 x10) (Bd x8 x10)).bind fun t377 => (if t377 = true then (some false) else (We.l0 k x8 x9 (wrap64 (x10 + 1)) x372000 x372001 x373000 x373001))))) else (none))) else (none)) else (none)) else (some (decide ((x372001.length : Int) < (x373001.length : Int))))
def We.f (k : Nat) (a0_0 : Int) (l0_1 : List (List Int)) (a1_0 : Int) (l1_1 : List (List Int)) : Option (Bool) := We.l0 k l0_1 (l0_1.length : Int) 0 a0_0 l0_1 a1_0 l1_1
theorem We.calls (k : Nat) (a0_0 : Int) (A0_1 : Option Addr) (c0_1 : Nat) (l0_1 : List (List Int)) (a1_0 : Int) (A1_1 : Option Addr) (c1_1 : Nat) (l1_1 : List (List Int)) (r : Bool) (w : World) (hr0_1 : Kd.C (Kd.slice 3 (Kd.int .i64)) w A0_1 l0_1.length l0_1) (hc0_1 : l0_1.length ≤ c0_1) (hr1_1 : Kd.C (Kd.slice 3 (Kd.int .i64)) w A1_1 l1_1.length l1_1) (hc1_1 : l1_1.length ≤ c1_1) (h : We.f k a0_0 l0_1 a1_0 l1_1 = some r) :
 Calls Tryz.prog 89 #[.agg #[.int .i64 a0_0, .slice A0_1 l0_1.length c0_1], .agg #[.int .i64 a1_0, .slice A1_1 l1_1.length c1_1]] w fun e w' => e = .returned (.bool r) ∧ Below w.heap.size w w' := by
 have hu24 := Tryz.underlying24;have HR0_1 := qa.mk hr0_1;have HC0_1 := qa.mk hc0_1;clear hr0_1 hc0_1;have HR1_1 := qa.mk hr1_1;have HC1_1 := qa.mk hc1_1;clear hr1_1 hc1_1;have HB := qa.mk (Below.refl w.heap.size w);have H : (We.l0 k l0_1 (l0_1.length : Int) 0 a0_0 l0_1 a1_0 l1_1) = some r := h;clear h;have H' := qa.mk H;clear H;go_enter Tryz.func89, Tryz.ntmps89;go_wp2_with (first | ((with_reducible refine Ma (N := 2) rfl ?_); refine zq 2 #[.int .i64 a0_0, .slice A0_1 l0_1.length c0_1] 24 ?_; intro gb371 hg w3 hbox hb; have GW371 := zG hg HB; replace HB := zH hb HB; have BK371 := qa.mk hbox; have GE371 := GW371; clear hb hbox hg) | ((with_reducible refine Ma (N := 3) rfl ?_); refine zq 3 #[.int .i64 a1_0, .slice A1_1 l1_1.length c1_1] 24 ?_; intro gb372 hg w4 hbox hb; have BK372 := qa.mk hbox; have GW372 := zG hg HB; have GE372 := zG hg HB; have NB371_372 := zNa hg BK371; have NB372_371 := zNb hg BK371; replace BK371 := zK BK371 hb; replace HB := zH hb HB; clear hb hbox hg; have hnb5 := NB371_372.out; have hnc5 := NB372_371.out; obtain ⟨hcz6_0, hcz6_1, hfz6_0, hfz6_1⟩ := zC2 BK371));go_loopg [10] k (fun kq v10 w' => ∃ (x10_1 : Int), v10 = .int .i64 x10_1 ∧ qa (We.l0 kq l0_1 (l0_1.length : Int) x10_1 a0_0 l0_1 a1_0 l1_1 = some r) ∧ qa (kq ≤ k) ∧ qa (w'.heap[gb371]? = some (.cells #[.int .i64 a0_0, (.slice A0_1 l0_1.length c0_1)] 24 (0, 0))) ∧ qa (w'.heap[gb372]? = some (.cells #[.int .i64 a1_0, (.slice A1_1 l1_1.length c1_1)] 24 (0, 0))) ∧ qa (Below w.heap.size w w'));case atStart => exact ⟨(0), zE, H', ⟨Nat.le_refl _⟩, ⟨zb BK371.out⟩, ⟨zb BK372.out⟩, ⟨zh HB.out⟩⟩
 case round =>
  clear H';try clear c1
  try clear p2
  try clear c5
  try clear hcz6_0
  try clear hcz6_1
  try clear hfz6_0
  try clear hfz6_1
  obtain ⟨x10_1, rfl, HA, HK1, BK371, BK372, HB⟩ := hrel;cases gk with
  | zero => exact absurd HA.out (by simp [We.l0])
  | succ k1 =>
   have H := HA.out;clear HA;simp only [We.l0] at H;by_cases c7 : x10_1 < (l0_1.length : Int)
   rotate_left
   ·rw [if_neg c7] at H;have c7b0 := decide_eq_false c7;clear c7;obtain rfl := Option.some.inj H;have hnb24 := NB371_372.out;have hnc24 := NB372_371.out;obtain ⟨hcz25_0, hcz25_1, hfz25_0, hfz25_1⟩ := zC2 BK371;obtain ⟨hcz26_0, hcz26_1, hfz26_0, hfz26_1⟩ := zC2 BK372;go_wp2;go_ret;exact ⟨zL0, zh HB.out⟩
   rw [if_pos c7] at H;have c7b0 := decide_eq_true c7;clear c7;by_cases c8 : 0 ≤ x10_1
   rotate_left
   ·rw [if_neg c8] at H;cases H
   rw [if_pos c8] at H;have c8b0 := decide_eq_true c8;clear c8;by_cases c9 : x10_1 < (l0_1.length : Int)
   rotate_left
   ·rw [if_neg c9] at H;cases H
   rw [if_pos c9] at H;have c9b0 := decide_eq_true c9;clear c9;by_cases c10 : x10_1 ≥ (l1_1.length : Int)
   ·rw [if_pos c10] at H;have c10b0 := decide_eq_true c10;clear c10;obtain rfl := Option.some.inj H;obtain ⟨⟨ad373, A373_0, c373_0, e373, hx373_0, hl373_0, hi373_0⟩, p373, q373⟩ := zW (qi HR0_1.out x10_1);cases e373;replace hx373_0 := zx HB.out hx373_0;have HR373_0 := qa.mk hi373_0;have HC373_0 := qa.mk hl373_0;clear hi373_0 hl373_0;have hnb11 := NB372_371.out;have hnc11 := NB371_372.out;obtain ⟨hcz12_0, hcz12_1, hfz12_0, hfz12_1⟩ := zC2 BK372;go_wp2;go_ret;exact ⟨zL0, zh HB.out⟩
   rw [if_neg c10] at H;have c10b0 := decide_eq_false c10;clear c10;by_cases c13 : x10_1 < (l1_1.length : Int)
   rotate_left
   ·rw [if_neg c13] at H;cases H
   rw [if_pos c13] at H;have c13b0 := decide_eq_true c13;clear c13;replace H := zB0 H;obtain ⟨t375, A140, H⟩ := H;have A14 := qa.mk A140;clear A140;by_cases c15 : t375 = true
   ·subst c15;rw [if_pos rfl] at H;obtain rfl := Option.some.inj H;obtain ⟨⟨ad373, A373_0, c373_0, e373, hx373_0, hl373_0, hi373_0⟩, p373, q373⟩ := zW (qi HR0_1.out x10_1);cases e373;replace hx373_0 := zx HB.out hx373_0;have HR373_0 := qa.mk hi373_0;have HC373_0 := qa.mk hl373_0;clear hi373_0 hl373_0;have hnb16 := NB372_371.out;have hnc16 := NB371_372.out;obtain ⟨hcz17_0, hcz17_1, hfz17_0, hfz17_1⟩ := zC2 BK372;obtain ⟨⟨ad374, A374_0, c374_0, e374, hx374_0, hl374_0, hi374_0⟩, p374, q374⟩ := zW (qi HR1_1.out x10_1);cases e374;replace hx374_0 := zx HB.out hx374_0;have HR374_0 := qa.mk hi374_0;have HC374_0 := qa.mk hl374_0;clear hi374_0 hl374_0;go_wp2_with (first | ((with_reducible refine Va (f := 118) rfl ?_); refine zl 26 Tryz.func118 #[.slice A373_0 (Bd l0_1 x10_1).length c373_0, .slice A374_0 (Bd l1_1 x10_1).length c374_0] ?_; (with_reducible refine (Ta.calls k1 _ _ (Bd l0_1 x10_1) _ _ (Bd l1_1 x10_1) true _ ?side1 ?side2 ?side3 ?side4 A14.out).mono ?_); (case side1 => exact zQ (Kd.C_below HR373_0.out HB.out)); (case side2 => exact HC373_0.out); (case side3 => exact zQ (Kd.C_below HR374_0.out HB.out)); (case side4 => exact HC374_0.out); rintro e w' ⟨rfl, ⟨nd, rfl⟩⟩; refine ⟨_, rfl, ?_⟩));go_ret;exact ⟨zL0, zh HB.out⟩
   replace c15 := Bool.eq_false_iff.mpr c15;subst c15;rw [if_neg zF] at H;replace H := zB0 H;obtain ⟨t377, A180, H⟩ := H;have A18 := qa.mk A180;clear A180;by_cases c19 : t377 = true
   ·subst c19;rw [if_pos rfl] at H;obtain rfl := Option.some.inj H;obtain ⟨⟨ad373, A373_0, c373_0, e373, hx373_0, hl373_0, hi373_0⟩, p373, q373⟩ := zW (qi HR0_1.out x10_1);cases e373;replace hx373_0 := zx HB.out hx373_0;have HR373_0 := qa.mk hi373_0;have HC373_0 := qa.mk hl373_0;clear hi373_0 hl373_0;have hnb20 := NB372_371.out;have hnc20 := NB371_372.out;obtain ⟨hcz21_0, hcz21_1, hfz21_0, hfz21_1⟩ := zC2 BK372;obtain ⟨⟨ad374, A374_0, c374_0, e374, hx374_0, hl374_0, hi374_0⟩, p374, q374⟩ := zW (qi HR1_1.out x10_1);cases e374;replace hx374_0 := zx HB.out hx374_0;have HR374_0 := qa.mk hi374_0;have HC374_0 := qa.mk hl374_0;clear hi374_0 hl374_0;go_wp2_with (first | ((with_reducible refine Va (f := 118) rfl ?_); refine zl 26 Tryz.func118 #[.slice A373_0 (Bd l0_1 x10_1).length c373_0, .slice A374_0 (Bd l1_1 x10_1).length c374_0] ?_; (with_reducible refine (Ta.calls k1 _ _ (Bd l0_1 x10_1) _ _ (Bd l1_1 x10_1) false _ ?side1 ?side2 ?side3 ?side4 A14.out).mono ?_); (case side1 => exact zQ (Kd.C_below HR373_0.out HB.out)); (case side2 => exact HC373_0.out); (case side3 => exact zQ (Kd.C_below HR374_0.out HB.out)); (case side4 => exact HC374_0.out); rintro e w' ⟨rfl, ⟨nd, rfl⟩⟩; refine ⟨_, rfl, ?_⟩; have p376 : 0 ≤ (x10_1 : Int) := zk; have q376 : x10_1 < (l1_1.length : Int) := zk; obtain ⟨ad376, A376_0, c376_0, e376, hx376_0, hl376_0, hi376_0⟩ := qi HR1_1.out x10_1 p376 q376; obtain rfl : ad374 = ad376 := (by injection e376); replace hx376_0 := zx HB.out hx376_0; have HR376_0 := qa.mk hi376_0; have HC376_0 := qa.mk hl376_0; clear hi376_0 hl376_0; replace p376 := eq_true p376; replace q376 := eq_true q376; have ea_ := Option.some.inj (hx374_0.symm.trans hx376_0); injection ea_ with ea_ en_ ec_; subst ea_; subst ec_; clear en_) | ((with_reducible refine Va (f := 118) rfl ?_); refine zl 33 Tryz.func118 #[.slice A374_0 (Bd l1_1 x10_1).length c374_0, .slice A373_0 (Bd l0_1 x10_1).length c373_0] ?_; (with_reducible refine (Ta.calls k1 _ _ (Bd l1_1 x10_1) _ _ (Bd l0_1 x10_1) true _ ?side1 ?side2 ?side3 ?side4 A18.out).mono ?_); (case side1 => exact zQ (Kd.C_below HR376_0.out (zh HB.out))); (case side2 => exact HC376_0.out); (case side3 => exact zQ (Kd.C_below HR373_0.out (zh HB.out))); (case side4 => exact HC373_0.out); rintro e w' ⟨rfl, ⟨nd, rfl⟩⟩; refine ⟨_, rfl, ?_⟩));go_ret;exact ⟨zL0, zh HB.out⟩
   replace c19 := Bool.eq_false_iff.mpr c19;subst c19;rw [if_neg zF] at H;have H' := qa.mk H;clear H;obtain ⟨⟨ad373, A373_0, c373_0, e373, hx373_0, hl373_0, hi373_0⟩, p373, q373⟩ := zW (qi HR0_1.out x10_1);cases e373;replace hx373_0 := zx HB.out hx373_0;have HR373_0 := qa.mk hi373_0;have HC373_0 := qa.mk hl373_0;clear hi373_0 hl373_0;have hnb22 := NB372_371.out;have hnc22 := NB371_372.out;obtain ⟨hcz23_0, hcz23_1, hfz23_0, hfz23_1⟩ := zC2 BK372;obtain ⟨⟨ad374, A374_0, c374_0, e374, hx374_0, hl374_0, hi374_0⟩, p374, q374⟩ := zW (qi HR1_1.out x10_1);cases e374;replace hx374_0 := zx HB.out hx374_0;have HR374_0 := qa.mk hi374_0;have HC374_0 := qa.mk hl374_0;clear hi374_0 hl374_0;go_wp2_with (first | ((with_reducible refine Va (f := 118) rfl ?_); refine zl 26 Tryz.func118 #[.slice A373_0 (Bd l0_1 x10_1).length c373_0, .slice A374_0 (Bd l1_1 x10_1).length c374_0] ?_; (with_reducible refine (Ta.calls k1 _ _ (Bd l0_1 x10_1) _ _ (Bd l1_1 x10_1) false _ ?side1 ?side2 ?side3 ?side4 A14.out).mono ?_); (case side1 => exact zQ (Kd.C_below HR373_0.out HB.out)); (case side2 => exact HC373_0.out); (case side3 => exact zQ (Kd.C_below HR374_0.out HB.out)); (case side4 => exact HC374_0.out); rintro e w' ⟨rfl, ⟨nd, rfl⟩⟩; refine ⟨_, rfl, ?_⟩; have p376 : 0 ≤ (x10_1 : Int) := zk; have q376 : x10_1 < (l1_1.length : Int) := zk; obtain ⟨ad376, A376_0, c376_0, e376, hx376_0, hl376_0, hi376_0⟩ := qi HR1_1.out x10_1 p376 q376; obtain rfl : ad374 = ad376 := (by injection e376); replace hx376_0 := zx HB.out hx376_0; have HR376_0 := qa.mk hi376_0; have HC376_0 := qa.mk hl376_0; clear hi376_0 hl376_0; replace p376 := eq_true p376; replace q376 := eq_true q376; have ea_ := Option.some.inj (hx374_0.symm.trans hx376_0); injection ea_ with ea_ en_ ec_; subst ea_; subst ec_; clear en_) | ((with_reducible refine Va (f := 118) rfl ?_); refine zl 33 Tryz.func118 #[.slice A374_0 (Bd l1_1 x10_1).length c374_0, .slice A373_0 (Bd l0_1 x10_1).length c373_0] ?_; (with_reducible refine (Ta.calls k1 _ _ (Bd l1_1 x10_1) _ _ (Bd l0_1 x10_1) false _ ?side1 ?side2 ?side3 ?side4 A18.out).mono ?_); (case side1 => exact zQ (Kd.C_below HR376_0.out (zh HB.out))); (case side2 => exact HC376_0.out); (case side3 => exact zQ (Kd.C_below HR373_0.out (zh HB.out))); (case side4 => exact HC373_0.out); rintro e w' ⟨rfl, ⟨nd, rfl⟩⟩; refine ⟨_, rfl, ?_⟩));go_roundg k1;case measure => have := HK1.out; omega
   case rel => exact ⟨(wrap64 (x10_1 + 1)), zE, H', zO HK1, ⟨zb BK371.out⟩, ⟨zb BK372.out⟩, ⟨zh HB.out⟩⟩
def Jc.l0 : Nat → Int → List Int → Int → Option (List Int)
 | 0, _, _, _ => none
 | k + 1, x0, x3, x4 => if 0 ≤ x4 then (if (shr .i64 x0 x4) > 0 then (if (Int.tmod (shr .i64 x0 x4) 2) = 1 then (if x3.length < 17592186044416 then (Jc.l0 k x0 (x3 ++ [x4]) (wrap64 (x4 + 1))) else (none)) else (Jc.l0 k x0 x3 (wrap64 (x4 + 1)))) else (some x3)) else (none)
def Jc.f (k : Nat) (a0 : Int) : Option (List Int) := Jc.l0 k a0 ([] : List Int) 0
theorem Jc.mono_l : ∀ k, (∀ y0 y1 y2, LeO (Jc.l0 k y0 y1 y2) (Jc.l0 (k + 1) y0 y1 y2))
 | 0 => fun _ _ _ r h => by simp [Jc.l0] at h
 | k + 1 => by
  have ih0 := Jc.mono_l k
  ·intro y0 y1 y2;unfold Jc.l0;repeat' first
   | (with_reducible exact ih0 _ _ _)
   | (with_reducible exact LeO.refl _)
   | (with_reducible exact LeO.none _)
   | (with_reducible refine LeO.ite ?_ ?_)
   | (with_reducible refine LeO.bind ?_ (fun _ => ?_))
   | exact ih0 _ _ _
   | exact LeO.none _
   | refine LeO.ite ?_ ?_
   | refine LeO.bind ?_ (fun _ => ?_)
theorem Jc.mono : ∀ a0 k, LeO (Jc.f k a0) (Jc.f (k + 1) a0) := by
 intro a0 k;have ih0 := Jc.mono_l k;unfold Jc.f;repeat' first
  | (with_reducible exact ih0 _ _ _)
  | (with_reducible exact LeO.refl _)
  | (with_reducible exact LeO.none _)
  | (with_reducible refine LeO.ite ?_ ?_)
  | (with_reducible refine LeO.bind ?_ (fun _ => ?_))
  | exact ih0 _ _ _
  | exact LeO.none _
  | refine LeO.ite ?_ ?_
  | refine LeO.bind ?_ (fun _ => ?_)
theorem Jc.calls (k : Nat) (a0 : Int) (r : List Int) (w : World) (h : Jc.f k a0 = some r) :
 Calls Tryz.prog 140 #[.int .i64 a0] w fun e w' => ∃ v0_ : Value, e = .returned (v0_) ∧ Kd.R (Kd.int .i64) 3 w' w.heap.size (fun _ => True) v0_ r ∧ Below w.heap.size w w' := by
 have HB := qa.mk (Below.refl w.heap.size w);have H : (Jc.l0 k a0 ([] : List Int) 0) = some r := h;clear h;have H' := qa.mk H;clear H;go_enter Tryz.func140, Tryz.ntmps140;go_wp2;go_loopg [3, 4] k (fun kq v3 v4 w' => ∃ (x3_1 : List Int) (x4_1 : Int), v4 = .int .i64 x4_1 ∧ qa (Jc.l0 kq a0 x3_1 x4_1 = some r) ∧ qa (kq ≤ k) ∧ qa (Kd.R (Kd.int .i64) 3 w' w.heap.size (fun _ => True) v3 x3_1) ∧ qa (Below w.heap.size w w'));case atStart => exact ⟨(([] : List Int)), (0), zE, H', ⟨Nat.le_refl _⟩, ⟨by first | exact Kd.R_nil _ _ _ _ _ | exact Kd.N_nil _ _ _ _ _ | exact Kd.V_nil _ _ _ _ _ | exact Kd.Q_nil _ _ _ _ _ | exact Kd.S_nil _ _ _ _ _⟩, ⟨zh HB.out⟩⟩
 case round =>
  clear H';try clear c1
  obtain ⟨x3_1, x4_1, rfl, HA, HK1, HO_3, HB⟩ := hrel;cases gk with
  | zero => exact absurd HA.out (by simp [Jc.l0])
  | succ k1 =>
   have H := HA.out;clear HA;simp only [Jc.l0] at H;by_cases c2 : 0 ≤ x4_1
   rotate_left
   ·rw [if_neg c2] at H;cases H
   rw [if_pos c2] at H;have c2b0 := eq_true c2;have c2b1 := decide_eq_true c2;clear c2;obtain ⟨ji3, hji3⟩ : ∃ j_ : Int, (shr .i64 a0 x4_1) = j_ := ⟨_, rfl⟩;rw [hji3] at H;obtain ⟨hji3_, hji3z⟩ := zI hji3;by_cases c4 : (ji3) > 0
   rotate_left
   ·rw [if_neg c4] at H;have c4b0 := decide_eq_false c4;clear c4;obtain rfl := Option.some.inj H;go_wp2;go_ret;exact ⟨_, by first | rfl | (simp [Ce, De] <;> rfl) | (simp only [← hji3]; first | rfl | (simp [Ce, De] <;> rfl)) | (simp [*, Ce, De] <;> rfl), by (with_reducible repeat (first | apply Kd.R_alloc | apply Kd.R_drewN | apply Kd.R_drew)); exact HO_3.out, zh HB.out⟩
   rw [if_pos c4] at H;have c4b0 := decide_eq_true c4;clear c4;have c5b0 := eq_true (zk : 0 ≤ x4_1);by_cases c6 : (Int.tmod (ji3) 2) = 1
   rotate_left
   ·rw [if_neg c6] at H;have c6b0 := beq_eq_false_iff_ne.mpr c6;have c6b1 := bne_iff_ne.mpr c6;have H' := qa.mk H;clear H;go_wp2;go_roundg k1;case measure => have := HK1.out; omega
    case rel => exact ⟨(x3_1), (wrap64 (x4_1 + 1)), zE, H', zO HK1, ⟨zr HO_3.out⟩, ⟨zh HB.out⟩⟩
   rw [if_pos c6] at H;have c6b0 := beq_iff_eq.mpr c6;have c6b1 := bne_eq_false_iff_eq.mpr c6;clear c6;by_cases c7 : x3_1.length < 17592186044416
   rotate_left
   ·rw [if_neg c7] at H;cases H
   rw [if_pos c7] at H;have LMc7 := qa.mk c7;clear c7;obtain ⟨y383, hy383⟩ : ∃ y_ : List Int, y_ = (x3_1 ++ [x4_1]) := ⟨_, rfl⟩;rw [← hy383] at H;have Ny383 := qa.mk hy383;clear hy383;have H' := qa.mk H;clear H;go_wp2_with (first | ((with_reducible refine Uc (b := .append) (xs := #[.tmp 16, .tmp 18]) rfl ?_); at_builtin; refine Kd.R_append (Kd.int .i64) (w0 := w) w.heap.size rfl (.tmp 16) (.tmp 18) 35 3 (.int .i64 0) 8 rfl Tryz.underlying35 info3 rfl (by decide) (by omega) u3 x3_1 x4_1 [.int .i64 x4_1] (fun _ => True) (fun _ => False) rfl rfl ?aP (fun _ hk => hk.elim) ?aF ?aO ?aB ?aS ?aL ?_; (case aP => exact rfl); (case aB => exact (zh HB.out)); (case aF => exact (fun _ _ => trivial)); (case aO => exact (zr HO_3.out)); (case aS => exact (Ua (zh HB.out))); (case aL => have := LMc7.out; omega); intro v384 w8 ho hb hg hat; rw [← Ny383.out] at ho; have HO385 := qa.mk (ho); replace HB := qa.mk (hb); clear HO_3 ho hb hg hat));go_roundg k1;case measure => have := HK1.out; omega
   case rel => exact ⟨(y383), (wrap64 (x4_1 + 1)), zE, H', zO HK1, ⟨zr HO385.out⟩, ⟨zh HB.out⟩⟩
structure Q_ (W : World) (ok : Nat → Prop) where
 A : Option Addr
 c : Nat
 l : List Int
 hl : l.length ≤ c
 hF : Kd.F (Kd.int .i64) W ok A l.length l
section
variable {W w : World} {ok ok' : Nat → Prop}
@[reducible] def Q_.val (x : Q_ W ok) : Value := .slice x.A x.l.length x.c
def Q_.nil : Q_ W ok := ⟨none, 0, [], Nat.le_refl _, Kd.F_nil _ _ _⟩
def KQ_ (W : World) (ok : Nat → Prop) : Kd (Q_ W ok) := Kd.scalar Q_.val (fun _ => rfl)
theorem UI {A : Option Addr} {n : Nat} {xs : List (Q_ W ok)} (h : (KQ_ W ok).C w A n xs) (i : Int) (h0 : 0 ≤ i) (h1 : i < n) : ∃ ad, A = some ad ∧ w.cell? (ad.add i.toNat) = some (Q_.val (yf Q_.nil xs i)) :=
 Mh.at_ (Kd.reads_of_C (enc := Q_.val) (d := Q_.nil) (h1 := fun _ => rfl) h) i h0 h1
theorem IK {A : Option Addr} {n : Nat} {xs : List (List Int)} (h : Kd.F (Kd.slice 3 (Kd.int .i64)) W ok A n xs) : ∃ qs : List (Q_ W ok), qs.map Q_.l = xs ∧ Kd.C (KQ_ W ok) W A n qs := by
 have hC := Kd.F_now h;have hn : xs.length = n := hC.1;have key : ∀ i : Nat, ∃ q : Q_ W ok, i < n → q.l = xs.getD i [] ∧ ∀ ad, A = some ad → W.cell? (ad.add i) = some q.val := by
  intro i;by_cases hi : i < n
  ·obtain ⟨ad, c, rfl, _, hK, hcc, _⟩ := Kd.F_get h [] (i : Int) (by omega) (by omega);obtain ⟨A', c', rfl, hl, hF⟩ := Kd.FK_slice_open hK;rw [Int.toNat_natCast] at hl hF hcc;refine ⟨⟨A', c', _, hl, hF⟩, fun _ => ⟨rfl, fun ad' e => ?_⟩⟩;injection e with e;subst e;have := hcc 0 _ rfl;rwa [show i * (Kd.slice 3 (Kd.int .i64)).sz + 0 = i from by show i * 1 + 0 = i; omega] at this
  ·exact ⟨Q_.nil, fun e => absurd e hi⟩
 obtain ⟨f, hf⟩ := Classical.axiomOfChoice key;refine ⟨(List.range n).map f, ?_, ?_, hC.2.1, fun h0 => ?_⟩
 ·refine List.ext_getElem (by simp [hn]) fun i h1 h2 => ?_;have hi : i < n := by omega
  rw [List.getElem_map, List.getElem_map, List.getElem_range, (hf i hi).1, List.getD_eq_getElem?_getD, List.getElem?_eq_getElem h2]; rfl
 ·simp
 ·obtain ⟨ad, rfl, _⟩ := hC.2.2 h0;refine ⟨ad, rfl, fun j p hj => ?_⟩;rw [List.getElem?_map] at hj;obtain ⟨j', hj', rfl⟩ := Option.map_eq_some_iff.1 hj;obtain ⟨hlt, e⟩ := List.getElem?_eq_some_iff.1 hj';rw [List.getElem_range] at e;subst e;refine ⟨[(f j).val], rfl, rfl, fun i u hu => ?_⟩;cases i with
  | zero =>
   injection hu with hu;subst hu;rw [show j * (KQ_ W ok).sz + 0 = j from by show j * 1 + 0 = j; omega];exact (hf j (by simpa using hlt)).2 ad rfl
  | succ i => simp at hu
theorem LK {A : Option Addr} {n : Nat} {qs : List (Q_ W ok)} (hb : Below W.heap.size W w) (h : Kd.F (KQ_ W ok) w ok' A n qs) (hok : ∀ k, ok k → ok' k) : Kd.F (Kd.slice 3 (Kd.int .i64)) w ok' A n (qs.map Q_.l) := by
 intro W' hW;obtain ⟨h1, h2, h3⟩ := h W' hW;refine ⟨by rw [List.length_map]; exact h1, h2, fun h0 => ?_⟩;obtain ⟨ad, e, hc⟩ := h3 h0;refine ⟨ad, e, fun j p hj => ?_⟩;rw [List.getElem?_map] at hj;obtain ⟨q, hq, rfl⟩ := Option.map_eq_some_iff.1 hj;obtain ⟨c, hcl, hK, hcc⟩ := hc j q hq;have hK1 : c = [q.val] := hK;subst hK1;exact ⟨_, rfl, ⟨q.A, q.c, rfl, q.hl, (Kd.F_mono (Kd.F_below q.hF hb) hok) W' hW⟩, hcc⟩
end
section
variable {W_ : World} {ok_ : Nat → Prop}
def yh.f (k : Nat) (x y : Q_ W_ ok_) : Option Bool := Ta.f k x.l y.l
theorem yh.calls (k : Nat) (x y : Q_ W_ ok_) (r : Bool) (w : World) (h : yh.f k x y = some r) (hB : Below W_.heap.size W_ w := by repeat (first | (with_reducible first | exact qa.out (by with_reducible assumption) | apply Yf | apply Mf | apply Ud) | exact qa.out (by with_reducible assumption))) :
 Calls Tryz.prog 118 #[Q_.val x, Q_.val y] w fun e w' => e = .returned (.bool r) ∧ Below w.heap.size w w' :=
 (Ta.calls k x.A x.c x.l y.A y.c y.l r w (Kd.F_now (Kd.F_below x.hF hB)) x.hl (Kd.F_now (Kd.F_below y.hF hB)) y.hl h).mono fun _ _ ⟨he, hd⟩ => ⟨he, hd.below⟩
mutual
def Ib.l0 : Nat → List (Q_ W_ ok_) → List (Q_ W_ ok_) → Int → Int → Option (List (Q_ W_ ok_))
 | 0, _, _, _, _ => none
 | k + 1, x3, x8, x9, x10 => if x10 < x9 then (if 0 ≤ x10 then (if x10 < (x8.length : Int) then (Ib.l1 k x3 (yf Q_.nil x8 x10) 0 x8 x9 x10) else (none)) else (none)) else (some x3)
def Ib.l1 : Nat → List (Q_ W_ ok_) → (Q_ W_ ok_) → Int → List (Q_ W_ ok_) → Int → Int → Option (List (Q_ W_ ok_))
 | 0, _, _, _, _, _, _ => none
 | k + 1, x3, x5, x6, x8, x9, x10 => if x6 < (x3.length : Int) then (if 0 ≤ x6 then ((yh.f k (yf Q_.nil x3 x6) x5).bind fun t103 => (if t103 = true then (Ib.l1 k x3 x5 (wrap64 (x6 + 1)) x8 x9 x10) else ((some (([] : List (Q_ W_ ok_)) : List (Q_ W_ ok_))).bind fun y104 => (if x6 ≤ (x3.length : Int) then ((some (x3.take (x6 : Int).toNat : List (Q_ W_ ok_))).bind fun y107 => (if y104.length + y107.length < 5864062014805 then ((some (y104 ++ y107 : List (Q_ W_ ok_))).bind fun y111 => (if y111.length < 5864062014805 then ((some (y111 ++ [x5] : List (Q_ W_ ok_))).bind fun y114 => ((some (x3.drop (x6 : Int).toNat : List (Q_ W_ ok_))).bind fun y117 => (if y114.length + y117.length < 5864062014805 then (Ib.l0 k (y114 ++ y117) x8 x9 (wrap64 (x10 + 1))) else (none)))) else (none))) else (none))) else (none))))) else (none)) else ((some (([] : List (Q_ W_ ok_)) : List (Q_ W_ ok_))).bind fun y124 => (if 0 ≤ x6 then (if x6 ≤ (x3.length : Int) then ((some (x3.take (x6 : Int).toNat : List (Q_ W_ ok_))).bind fun y127 => (if y124.length + y127.length < 5864062014805 then ((some (y124 ++ y127 : List (Q_ W_ ok_))).bind fun y131 => (if y131.length < 5864062014805 then ((some (y131 ++ [x5] : List (Q_ W_ ok_))).bind fun y134 => ((some (x3.drop (x6 : Int).toNat : List (Q_ W_ ok_))).bind fun y137 => (if y134.length + y137.length < 5864062014805 then (Ib.l0 k (y134 ++ y137) x8 x9 (wrap64 (x10 + 1))) else (none)))) else (none))) else (none))) else (none)) else (none)))
end
def Ib.f (k : Nat) (l0 : List (Q_ W_ ok_)) : Option (List (Q_ W_ ok_)) := Ib.l0 k ([] : List (Q_ W_ ok_)) l0 (l0.length : Int) 0
theorem Ib.calls (w : World) (ok_ : Nat → Prop) (k : Nat) (A0 : Option Addr) (c0 : Nat) (l0 : List (Q_ w ok_)) (r : List (Q_ w ok_)) (hr0 : Kd.C (KQ_ w ok_) w A0 l0.length l0) (hc0 : l0.length ≤ c0) (h : Ib.f k l0 = some r) :
 Calls Tryz.prog 184 #[.slice A0 l0.length c0] w fun e w' => ∃ v0_ : Value, e = .returned (v0_) ∧ Kd.R (KQ_ w ok_) 35 w' w.heap.size (fun _ => True) v0_ r ∧ Below w.heap.size w w' := by
 have HR0 := qa.mk hr0;have HC0 := qa.mk hc0;clear hr0 hc0;have HB := qa.mk (Below.refl w.heap.size w);have H : (Ib.l0 k ([] : List (Q_ w ok_)) l0 (l0.length : Int) 0) = some r := h;clear h;have H' := qa.mk H;clear H;go_enter Tryz.func184, Tryz.ntmps184;go_wp2;go_loopg [3, 10] k (fun kq v3 v10 w' => ∃ (x3_1 : List (Q_ w ok_)) (x10_1 : Int), v10 = .int .i64 x10_1 ∧ qa (Ib.l0 kq x3_1 l0 (l0.length : Int) x10_1 = some r) ∧ qa (kq ≤ k) ∧ qa (Kd.R (KQ_ w ok_) 35 w' w.heap.size (fun _ => True) v3 x3_1) ∧ qa (Below w.heap.size w w'));case atStart => exact ⟨(([] : List (Q_ w ok_))), (0), zE, H', ⟨Nat.le_refl _⟩, ⟨by first | exact Kd.R_nil _ _ _ _ _ | exact Kd.N_nil _ _ _ _ _ | exact Kd.V_nil _ _ _ _ _ | exact Kd.Q_nil _ _ _ _ _ | exact Kd.S_nil _ _ _ _ _⟩, ⟨zh HB.out⟩⟩
 case round =>
  clear H';try clear c1
  obtain ⟨x3_1, x10_1, rfl, HA, HK1, HO_3, HB⟩ := hrel;cases gk with
  | zero => exact absurd HA.out (by simp [Ib.l0])
  | succ k1 =>
   have H := HA.out;clear HA;simp only [Ib.l0] at H;by_cases c2 : x10_1 < (l0.length : Int)
   rotate_left
   ·rw [if_neg c2] at H;have c2b0 := decide_eq_false c2;clear c2;obtain rfl := Option.some.inj H;go_wp2;go_ret;exact ⟨_, by first | rfl | (simp [Ce, De] <;> rfl) | (simp [*, Ce, De] <;> rfl), by (with_reducible repeat (first | apply Kd.R_alloc | apply Kd.R_drewN | apply Kd.R_drew)); exact HO_3.out, zh HB.out⟩
   rw [if_pos c2] at H;have c2b0 := decide_eq_true c2;clear c2;by_cases c3 : 0 ≤ x10_1
   rotate_left
   ·rw [if_neg c3] at H;cases H
   rw [if_pos c3] at H;have c3b0 := decide_eq_true c3;clear c3;by_cases c4 : x10_1 < (l0.length : Int)
   rotate_left
   ·rw [if_neg c4] at H;cases H
   rw [if_pos c4] at H;have c4b0 := decide_eq_true c4;clear c4;have H' := qa.mk H;clear H;obtain ⟨⟨ad101, e101, hx101_0⟩, p101, q101⟩ := zW (UI HR0.out x10_1);cases e101;replace hx101_0 := zx HB.out hx101_0;go_wp2;go_loopg [6] k1 (fun kq v6 w' => ∃ (x6_2 : Int), v6 = .int .i64 x6_2 ∧ qa (Ib.l1 kq x3_1 (yf Q_.nil l0 x10_1) x6_2 l0 (l0.length : Int) x10_1 = some r) ∧ qa (kq ≤ k1) ∧ qa (Kd.R (KQ_ w ok_) 35 w' w.heap.size (fun _ => True) u3 x3_1) ∧ qa (Below w.heap.size w w'));case atStart => exact ⟨(0), zE, H', ⟨Nat.le_refl _⟩, ⟨zr HO_3.out⟩, ⟨zh HB.out⟩⟩
   case round =>
    clear H';try clear c1
    try clear p1
    try clear q1
    try clear hx1
    try clear c2
    try clear c2b0
    try clear p2
    try clear c3
    try clear c3b0
    try clear c4
    try clear c4b0
    try clear hx101_0
    try clear p101
    try clear q101
    obtain ⟨x6_2, rfl, HA, HK2, HO_3, HB⟩ := hrel;cases gk with
    | zero => exact absurd HA.out (by simp [Ib.l1])
    | succ k2 =>
     have H := HA.out;clear HA;simp only [Ib.l1] at H;by_cases c5 : x6_2 < (x3_1.length : Int)
     rotate_left
     ·rw [if_neg c5] at H;have c5b0 := decide_eq_false c5;clear c5;replace H := zY H;obtain ⟨y124, Ny124, H⟩ := H;by_cases c27 : 0 ≤ x6_2
      rotate_left
      ·rw [if_neg c27] at H;cases H
      rw [if_pos c27] at H;have c27b0 := eq_true c27;have c27b1 := decide_eq_true c27;clear c27;by_cases c28 : x6_2 ≤ (x3_1.length : Int)
      rotate_left
      ·rw [if_neg c28] at H;cases H
      rw [if_pos c28] at H;have c28b0 := eq_true c28;have c28b1 := decide_eq_true c28;clear c28;replace H := zY H;obtain ⟨y127, Ny127, H⟩ := H;by_cases c29 : y124.length + y127.length < 5864062014805
      rotate_left
      ·rw [if_neg c29] at H;cases H
      rw [if_pos c29] at H;have LMc29 := qa.mk c29;clear c29;replace H := zY H;obtain ⟨y131, Ny131, H⟩ := H;by_cases c30 : y131.length < 5864062014805
      rotate_left
      ·rw [if_neg c30] at H;cases H
      rw [if_pos c30] at H;have LMc30 := qa.mk c30;clear c30;replace H := zY H;obtain ⟨y134, Ny134, H⟩ := H;have c31b0 := eq_true (zk : 0 ≤ x6_2);have c32b0 := eq_true (zk : x6_2 ≤ (x3_1.length : Int));replace H := zY H;obtain ⟨y137, Ny137, H⟩ := H;by_cases c33 : y134.length + y137.length < 5864062014805
      rotate_left
      ·rw [if_neg c33] at H;cases H
      rw [if_pos c33] at H;have LMc33 := qa.mk c33;clear c33;obtain ⟨y141, hy141⟩ : ∃ y_ : List (Q_ w ok_), y_ = (y134 ++ y137) := ⟨_, rfl⟩;rw [← hy141] at H;have Ny141 := qa.mk hy141;clear hy141;have H' := qa.mk H;clear H;obtain ⟨Ao34, co34, eo34⟩ := Kd.R_slice HO_3.out;subst eo34;go_wp2_with (first | ((with_reducible refine Ma (N := 28) rfl ?_); refine Kd.R_lit (KQ_ w ok_) _ 35 ?hg (N := 28) ?hd (xs := ([] : List (Q_ w ok_))) (inner := []) (ok := fun _ => True) (okp := fun _ => True) ?hr ?hp (fun _ hk => hk) trivial (Below.refl _ _) (Nat.le_refl _) (by simp) ?_; (case hd => rfl); (case hg => rfl); (case hr => first | (go_simp; done) | (go_simp; rfl)); (case hp => exact (qg.none _ _)); intro v125 w35 ho36 hb hg_ hnew_; clear hg_ hnew_; (first | rw [← Ny124.out] at ho36 | (simp only [Int.reduceToNat] at ho36; rw [← Ny124.out] at ho36)); have HO126 := qa.mk (Kd.R_lower (Kd.R_new' ho36 (Kd.R_lt (zr HO_3.out))) (Ua (zh HB.out))); replace HO_3 := qa.mk (Kd.R_elder' (zr HO_3.out) (Kd.R_base ho36) hb); replace HB := zH hb HB; clear hb ho36; have q37 : (x6_2 : Int) ≤ ((x3_1.length : Int) : Int) := zk; obtain ⟨i037, hi037, _, hsz37, _⟩ := info_parts Tj; have hroom37 : x3_1.length ≤ co34 := (Kd.R_reads' HO_3.out).2.1; have hC37 : Kd.C (KQ_ w ok_) _ Ao34 x3_1.length x3_1 := (Kd.R_reads' HO_3.out).2.2; have hcut37 := qy (P := Tryz.prog) 22 35 .i64 Tryz.underlying22 hi037 Ao34 x3_1.length co34 x6_2 (zk) q37 hroom37; have hr37 := Kd.C_take (m := (x6_2 : Int).toNat) hC37 (by omega); have hy37 : y127.length = (x6_2 : Int).toNat := (by rw [Ny127.out, List.length_take]; omega); rw [← Ny127.out] at hr37; rw [← hy37] at hcut37; have HR130 := qa.mk hr37; have HC130 := qa.mk (show y127.length ≤ co34 from by omega); clear hr37 hC37 hroom37 hi037 hsz37; have KY37 := qa.mk hy37; clear hy37; have KL37 := qa.mk (show (x6_2 : Int).toNat ≤ x3_1.length from by omega); replace q37 := eq_true q37) | ((with_reducible refine Uc (b := .append) (xs := #[.tmp 28, .tmp 31]) rfl ?_); at_builtin; refine Kd.R_append_rows (KQ_ w ok_) (w0 := w) w.heap.size rfl (.tmp 28) (.tmp 31) 22 35 (.slice none 0 0) 24 rfl Tryz.underlying22 Tj rfl (by first | decide | exact Nat.zero_lt_one) (by omega) v125 y124 y127 _ _ _ (fun k_ => some k_ ≠ (.slice Ao34 x3_1.length co34 : Value).ownBlock) (fun _ => False) rfl rfl ?aO ?aR (fun _ _ h => h) (fun _ h => h.elim) ?aF ?aB ?aS ?aL ?_; (case aR => repeat (first | exact (by repeat (first | (with_reducible exact HR130.out) | (with_reducible refine Kd.C_alloc ?_ _) | (with_reducible refine Kd.C_drewN ?_ _) | (with_reducible refine Kd.C_drew ?_) | exact HR130.out)) | (with_reducible refine Kd.C_alloc ?_ _) | (with_reducible refine Kd.C_drewN ?_ _) | (with_reducible refine Kd.C_drew ?_))); (case aB => exact (zh HB.out)); (case aF => exact (fun k_ hk => Kd.fresh' (Kd.R_lt (zr HO_3.out)) k_ hk)); (case aO => exact (zr (Kd.R_mono HO126.out (fun _ hk => hk.2)))); (case aS => exact (Ua (zh HB.out))); (case aL => have := LMc29.out; omega); intro v132 w38 ho hb hg hat; rw [← Ny131.out] at ho; have HO133 := qa.mk (ho); replace HB := qa.mk (hb); replace HR130 := qa.mk ((show Kd.C (KQ_ w ok_) w38 Ao34 y127.length y127 from by rw [Ny127.out]; exact Kd.C_take (m := (x6_2 : Int).toNat) ((Kd.R_reads' (Kd.R_after (ok := (fun _ => True)) (zr HO_3.out) hg hat)).2.2) KL37.out)); replace HO_3 := qa.mk (Kd.R_after (ok := (fun _ => True)) (zr HO_3.out) hg hat); clear HO126 ho hb hg hat) | ((with_reducible refine Uc (b := .append) (xs := #[.tmp 32, .tmp 34]) rfl ?_); at_builtin; refine Kd.R_append (KQ_ w ok_) (w0 := w) w.heap.size rfl (.tmp 32) (.tmp 34) 22 35 (.slice none 0 0) 24 rfl Tryz.underlying22 Tj rfl (by first | decide | exact Nat.zero_lt_one) (by omega) v132 y131 (yf Q_.nil l0 x10_1) [Q_.val (yf Q_.nil l0 x10_1)] (fun k_ => some k_ ≠ (.slice Ao34 x3_1.length co34 : Value).ownBlock) (fun _ => False) rfl rfl ?aP (fun _ hk => hk.elim) ?aF ?aO ?aB ?aS ?aL ?_; (case aP => exact rfl); (case aB => exact (zh HB.out)); (case aF => exact (fun k_ hk => Kd.fresh' (Kd.R_lt (zr HO_3.out)) k_ hk)); (case aO => exact (zr HO133.out)); (case aS => exact (Ua (zh HB.out))); (case aL => have := LMc30.out; omega); intro v135 w39 ho hb hg hat; rw [← Ny134.out] at ho; have HO136 := qa.mk (ho); replace HB := qa.mk (hb); replace HR130 := qa.mk ((show Kd.C (KQ_ w ok_) w39 Ao34 y127.length y127 from by rw [Ny127.out]; exact Kd.C_take (m := (x6_2 : Int).toNat) ((Kd.R_reads' (Kd.R_after (ok := (fun _ => True)) (zr HO_3.out) hg hat)).2.2) KL37.out)); replace HO_3 := qa.mk (Kd.R_after (ok := (fun _ => True)) (zr HO_3.out) hg hat); clear HO133 ho hb hg hat; have q40 : (x6_2 : Int) ≤ ((x3_1.length : Int) : Int) := zk; obtain ⟨i040, hi040, _, hsz40, _⟩ := info_parts Tj; have hroom40 : x3_1.length ≤ co34 := (Kd.R_reads' HO_3.out).2.1; have hC40 : Kd.C (KQ_ w ok_) _ Ao34 x3_1.length x3_1 := (Kd.R_reads' HO_3.out).2.2; have q040 : (0 : Int) ≤ (x6_2 : Int) := zk; have hcut40 := Uk (P := Tryz.prog) 22 35 .i64 Tryz.underlying22 hi040 1 hsz40 Ao34 x3_1.length co34 x6_2 q040 q40; have hr40 := Kd.C_drop (m := (x6_2 : Int).toNat) (c := co34) hC40 (by omega) hroom40; obtain ⟨A40, hA40⟩ : ∃ A1, A1 = (if co34 = (x6_2 : Int).toNat then Ao34 else (Ao34 : Option Addr).map (·.add ((x6_2 : Int).toNat * 1))) := ⟨_, rfl⟩; obtain ⟨c40, hc40⟩ : ∃ c1, c1 = co34 - (x6_2 : Int).toNat := ⟨_, rfl⟩; have hy40 : y137.length = x3_1.length - (x6_2 : Int).toNat := (by rw [Ny137.out, List.length_drop] <;> omega); rw [show (x3_1).drop (x6_2 : Int).toNat = y137 from Ny137.out.symm] at hr40; replace hr40 : Kd.C (KQ_ w ok_) _ A40 y137.length y137 := (by rw [hA40]; exact hr40); rw [← hy40, ← hA40, ← hc40] at hcut40; have HR140 := qa.mk hr40; have HC140 := qa.mk (show y137.length ≤ c40 from by rw [hy40, hc40]; exact Nat.sub_le_sub_right hroom40 _); clear hr40 hC40 hroom40 hi040 hsz40 hc40; have KY40 := qa.mk hy40; have KA40 := qa.mk hA40; clear hy40 hA40; have KL40 := qa.mk (show (x6_2 : Int).toNat ≤ x3_1.length from by omega); replace q40 := eq_true q40) | ((with_reducible refine Uc (b := .append) (xs := #[.tmp 36, .tmp 39]) rfl ?_); at_builtin; refine Kd.R_append_rows (KQ_ w ok_) (w0 := w) w.heap.size rfl (.tmp 36) (.tmp 39) 22 35 (.slice none 0 0) 24 rfl Tryz.underlying22 Tj rfl (by first | decide | exact Nat.zero_lt_one) (by omega) v135 y134 y137 _ _ _ (fun k_ => some k_ ≠ (.slice Ao34 x3_1.length co34 : Value).ownBlock) (fun _ => False) rfl rfl ?aO ?aR (fun _ _ h => h) (fun _ h => h.elim) ?aF ?aB ?aS ?aL ?_; (case aR => repeat (first | exact (by repeat (first | (with_reducible exact HR140.out) | (with_reducible refine Kd.C_alloc ?_ _) | (with_reducible refine Kd.C_drewN ?_ _) | (with_reducible refine Kd.C_drew ?_) | exact HR140.out)) | (with_reducible refine Kd.C_alloc ?_ _) | (with_reducible refine Kd.C_drewN ?_ _) | (with_reducible refine Kd.C_drew ?_))); (case aB => exact (zh HB.out)); (case aF => exact (fun k_ hk => Kd.fresh' (Kd.R_lt (zr HO_3.out)) k_ hk)); (case aO => exact (zr HO136.out)); (case aS => exact (Ua (zh HB.out))); (case aL => have := LMc33.out; omega); intro v142 w41 ho hb hg hat; rw [← Ny141.out] at ho; have HO143 := qa.mk (ho); replace HB := qa.mk (hb); replace HR130 := qa.mk ((show Kd.C (KQ_ w ok_) w41 Ao34 y127.length y127 from by rw [Ny127.out]; exact Kd.C_take (m := (x6_2 : Int).toNat) ((Kd.R_reads' (Kd.R_after (ok := (fun _ => True)) (zr HO_3.out) hg hat)).2.2) KL37.out)); replace HR140 := qa.mk ((show Kd.C (KQ_ w ok_) w41 A40 y137.length y137 from by rw [Ny137.out, KA40.out]; exact Kd.C_drop (m := (x6_2 : Int).toNat) (c := co34) ((Kd.R_reads' (Kd.R_after (ok := (fun _ => True)) (zr HO_3.out) hg hat)).2.2) KL40.out ((Kd.R_reads' (Kd.R_after (ok := (fun _ => True)) (zr HO_3.out) hg hat)).2.1))); replace HO_3 := qa.mk (Kd.R_after (ok := (fun _ => True)) (zr HO_3.out) hg hat); clear HO136 ho hb hg hat));go_roundg k2;case measure => have := HK1.out; have := HK2.out; omega
      case rel => exact ⟨(y141), (wrap64 (x10_1 + 1)), zE, H', zO2 HK1 HK2, ⟨zr (Kd.R_mono HO143.out (fun _ hk => trivial))⟩, ⟨zh HB.out⟩⟩
     rw [if_pos c5] at H;have c5b0 := decide_eq_true c5;clear c5;by_cases c6 : 0 ≤ x6_2
     rotate_left
     ·rw [if_neg c6] at H;cases H
     rw [if_pos c6] at H;have c6b0 := decide_eq_true c6;clear c6;replace H := zB0 H;obtain ⟨t103, A70, H⟩ := H;have A7 := qa.mk A70;clear A70;by_cases c8 : t103 = true
     ·subst c8;rw [if_pos rfl] at H;have H' := qa.mk H;clear H;obtain ⟨Ao9, co9, eo9⟩ := Kd.R_slice HO_3.out;subst eo9;obtain ⟨⟨ad102, e102, hx102_0⟩, p102, q102⟩ := zW (UI (Kd.R_reads' HO_3.out).2.2 x6_2);cases e102;go_wp2_with (first | (go_at_call 118; (with_reducible refine (yh.calls k2 (yf Q_.nil x3_1 x6_2) (yf Q_.nil l0 x10_1) true _ A7.out).mono ?_); rintro e w10 ⟨rfl, hb⟩; replace HO_3 := qa.mk (Kd.R_below (zr HO_3.out) hb); replace HB := zH hb HB; clear hb));go_roundg k2;case measure => have := HK1.out; have := HK2.out; omega
      case rel => exact ⟨(wrap64 (x6_2 + 1)), zE, H', zO2 HK1 HK2, ⟨zr HO_3.out⟩, ⟨zh HB.out⟩⟩
     replace c8 := Bool.eq_false_iff.mpr c8;subst c8;rw [if_neg zF] at H;replace H := zY H;obtain ⟨y104, Ny104, H⟩ := H;have c11b0 := eq_true (zk : 0 ≤ x6_2);by_cases c12 : x6_2 ≤ (x3_1.length : Int)
     rotate_left
     ·rw [if_neg c12] at H;cases H
     rw [if_pos c12] at H;have c12b0 := eq_true c12;have c12b1 := decide_eq_true c12;clear c12;replace H := zY H;obtain ⟨y107, Ny107, H⟩ := H;by_cases c13 : y104.length + y107.length < 5864062014805
     rotate_left
     ·rw [if_neg c13] at H;cases H
     rw [if_pos c13] at H;have LMc13 := qa.mk c13;clear c13;replace H := zY H;obtain ⟨y111, Ny111, H⟩ := H;by_cases c14 : y111.length < 5864062014805
     rotate_left
     ·rw [if_neg c14] at H;cases H
     rw [if_pos c14] at H;have LMc14 := qa.mk c14;clear c14;replace H := zY H;obtain ⟨y114, Ny114, H⟩ := H;have c15b0 := eq_true (zk : 0 ≤ x6_2);have c16b0 := eq_true (zk : x6_2 ≤ (x3_1.length : Int));replace H := zY H;obtain ⟨y117, Ny117, H⟩ := H;by_cases c17 : y114.length + y117.length < 5864062014805
     rotate_left
     ·rw [if_neg c17] at H;cases H
     rw [if_pos c17] at H;have LMc17 := qa.mk c17;clear c17;obtain ⟨y121, hy121⟩ : ∃ y_ : List (Q_ w ok_), y_ = (y114 ++ y117) := ⟨_, rfl⟩;rw [← hy121] at H;have Ny121 := qa.mk hy121;clear hy121;have H' := qa.mk H;clear H;obtain ⟨Ao18, co18, eo18⟩ := Kd.R_slice HO_3.out;subst eo18;obtain ⟨⟨ad102, e102, hx102_0⟩, p102, q102⟩ := zW (UI (Kd.R_reads' HO_3.out).2.2 x6_2);cases e102;go_wp2_with (first | (go_at_call 118; (with_reducible refine (yh.calls k2 (yf Q_.nil x3_1 x6_2) (yf Q_.nil l0 x10_1) false _ A7.out).mono ?_); rintro e w19 ⟨rfl, hb⟩; replace HO_3 := qa.mk (Kd.R_below (zr HO_3.out) hb); replace HB := zH hb HB; clear hb) | ((with_reducible refine Ma (N := 28) rfl ?_); refine Kd.R_lit (KQ_ w ok_) _ 35 ?hg (N := 28) ?hd (xs := ([] : List (Q_ w ok_))) (inner := []) (ok := fun _ => True) (okp := fun _ => True) ?hr ?hp (fun _ hk => hk) trivial (Below.refl _ _) (Nat.le_refl _) (by simp) ?_; (case hd => rfl); (case hg => rfl); (case hr => first | (go_simp; done) | (go_simp; rfl)); (case hp => exact (qg.none _ _)); intro v105 w20 ho21 hb hg_ hnew_; clear hg_ hnew_; (first | rw [← Ny104.out] at ho21 | (simp only [Int.reduceToNat] at ho21; rw [← Ny104.out] at ho21)); have HO106 := qa.mk (Kd.R_lower (Kd.R_new' ho21 (Kd.R_lt (zr HO_3.out))) (Ua (zh HB.out))); replace HO_3 := qa.mk (Kd.R_elder' (zr HO_3.out) (Kd.R_base ho21) hb); replace HB := zH hb HB; clear hb ho21; have q22 : (x6_2 : Int) ≤ ((x3_1.length : Int) : Int) := zk; obtain ⟨i022, hi022, _, hsz22, _⟩ := info_parts Tj; have hroom22 : x3_1.length ≤ co18 := (Kd.R_reads' HO_3.out).2.1; have hC22 : Kd.C (KQ_ w ok_) _ (some ad102) x3_1.length x3_1 := (Kd.R_reads' HO_3.out).2.2; have hcut22 := qy (P := Tryz.prog) 22 35 .i64 Tryz.underlying22 hi022 (some ad102) x3_1.length co18 x6_2 (zk) q22 hroom22; have hr22 := Kd.C_take (m := (x6_2 : Int).toNat) hC22 (by omega); have hy22 : y107.length = (x6_2 : Int).toNat := (by rw [Ny107.out, List.length_take]; omega); rw [← Ny107.out] at hr22; rw [← hy22] at hcut22; have HR110 := qa.mk hr22; have HC110 := qa.mk (show y107.length ≤ co18 from by omega); clear hr22 hC22 hroom22 hi022 hsz22; have KY22 := qa.mk hy22; clear hy22; have KL22 := qa.mk (show (x6_2 : Int).toNat ≤ x3_1.length from by omega); replace q22 := eq_true q22) | ((with_reducible refine Uc (b := .append) (xs := #[.tmp 28, .tmp 31]) rfl ?_); at_builtin; refine Kd.R_append_rows (KQ_ w ok_) (w0 := w) w.heap.size rfl (.tmp 28) (.tmp 31) 22 35 (.slice none 0 0) 24 rfl Tryz.underlying22 Tj rfl (by first | decide | exact Nat.zero_lt_one) (by omega) v105 y104 y107 _ _ _ (fun k_ => some k_ ≠ (.slice (some ad102) x3_1.length co18 : Value).ownBlock) (fun _ => False) rfl rfl ?aO ?aR (fun _ _ h => h) (fun _ h => h.elim) ?aF ?aB ?aS ?aL ?_; (case aR => repeat (first | exact (by repeat (first | (with_reducible exact HR110.out) | (with_reducible refine Kd.C_alloc ?_ _) | (with_reducible refine Kd.C_drewN ?_ _) | (with_reducible refine Kd.C_drew ?_) | exact HR110.out)) | (with_reducible refine Kd.C_alloc ?_ _) | (with_reducible refine Kd.C_drewN ?_ _) | (with_reducible refine Kd.C_drew ?_))); (case aB => exact (zh HB.out)); (case aF => exact (fun k_ hk => Kd.fresh' (Kd.R_lt (zr HO_3.out)) k_ hk)); (case aO => exact (zr (Kd.R_mono HO106.out (fun _ hk => hk.2)))); (case aS => exact (Ua (zh HB.out))); (case aL => have := LMc13.out; omega); intro v112 w23 ho hb hg hat; rw [← Ny111.out] at ho; have HO113 := qa.mk (ho); replace HB := qa.mk (hb); replace HR110 := qa.mk ((show Kd.C (KQ_ w ok_) w23 (some ad102) y107.length y107 from by rw [Ny107.out]; exact Kd.C_take (m := (x6_2 : Int).toNat) ((Kd.R_reads' (Kd.R_after (ok := (fun _ => True)) (zr HO_3.out) hg hat)).2.2) KL22.out)); replace HO_3 := qa.mk (Kd.R_after (ok := (fun _ => True)) (zr HO_3.out) hg hat); clear HO106 ho hb hg hat) | ((with_reducible refine Uc (b := .append) (xs := #[.tmp 32, .tmp 34]) rfl ?_); at_builtin; refine Kd.R_append (KQ_ w ok_) (w0 := w) w.heap.size rfl (.tmp 32) (.tmp 34) 22 35 (.slice none 0 0) 24 rfl Tryz.underlying22 Tj rfl (by first | decide | exact Nat.zero_lt_one) (by omega) v112 y111 (yf Q_.nil l0 x10_1) [Q_.val (yf Q_.nil l0 x10_1)] (fun k_ => some k_ ≠ (.slice (some ad102) x3_1.length co18 : Value).ownBlock) (fun _ => False) rfl rfl ?aP (fun _ hk => hk.elim) ?aF ?aO ?aB ?aS ?aL ?_; (case aP => exact rfl); (case aB => exact (zh HB.out)); (case aF => exact (fun k_ hk => Kd.fresh' (Kd.R_lt (zr HO_3.out)) k_ hk)); (case aO => exact (zr HO113.out)); (case aS => exact (Ua (zh HB.out))); (case aL => have := LMc14.out; omega); intro v115 w24 ho hb hg hat; rw [← Ny114.out] at ho; have HO116 := qa.mk (ho); replace HB := qa.mk (hb); replace HR110 := qa.mk ((show Kd.C (KQ_ w ok_) w24 (some ad102) y107.length y107 from by rw [Ny107.out]; exact Kd.C_take (m := (x6_2 : Int).toNat) ((Kd.R_reads' (Kd.R_after (ok := (fun _ => True)) (zr HO_3.out) hg hat)).2.2) KL22.out)); replace HO_3 := qa.mk (Kd.R_after (ok := (fun _ => True)) (zr HO_3.out) hg hat); clear HO113 ho hb hg hat; have q25 : (x6_2 : Int) ≤ ((x3_1.length : Int) : Int) := zk; obtain ⟨i025, hi025, _, hsz25, _⟩ := info_parts Tj; have hroom25 : x3_1.length ≤ co18 := (Kd.R_reads' HO_3.out).2.1; have hC25 : Kd.C (KQ_ w ok_) _ (some ad102) x3_1.length x3_1 := (Kd.R_reads' HO_3.out).2.2; have q025 : (0 : Int) ≤ (x6_2 : Int) := zk; have hcut25 := Uk (P := Tryz.prog) 22 35 .i64 Tryz.underlying22 hi025 1 hsz25 (some ad102) x3_1.length co18 x6_2 q025 q25; have hr25 := Kd.C_drop (m := (x6_2 : Int).toNat) (c := co18) hC25 (by omega) hroom25; obtain ⟨A25, hA25⟩ : ∃ A1, A1 = (if co18 = (x6_2 : Int).toNat then (some ad102) else ((some ad102) : Option Addr).map (·.add ((x6_2 : Int).toNat * 1))) := ⟨_, rfl⟩; obtain ⟨c25, hc25⟩ : ∃ c1, c1 = co18 - (x6_2 : Int).toNat := ⟨_, rfl⟩; have hy25 : y117.length = x3_1.length - (x6_2 : Int).toNat := (by rw [Ny117.out, List.length_drop] <;> omega); rw [show (x3_1).drop (x6_2 : Int).toNat = y117 from Ny117.out.symm] at hr25; replace hr25 : Kd.C (KQ_ w ok_) _ A25 y117.length y117 := (by rw [hA25]; exact hr25); rw [← hy25, ← hA25, ← hc25] at hcut25; have HR120 := qa.mk hr25; have HC120 := qa.mk (show y117.length ≤ c25 from by rw [hy25, hc25]; exact Nat.sub_le_sub_right hroom25 _); clear hr25 hC25 hroom25 hi025 hsz25 hc25; have KY25 := qa.mk hy25; have KA25 := qa.mk hA25; clear hy25 hA25; have KL25 := qa.mk (show (x6_2 : Int).toNat ≤ x3_1.length from by omega); replace q25 := eq_true q25) | ((with_reducible refine Uc (b := .append) (xs := #[.tmp 36, .tmp 39]) rfl ?_); at_builtin; refine Kd.R_append_rows (KQ_ w ok_) (w0 := w) w.heap.size rfl (.tmp 36) (.tmp 39) 22 35 (.slice none 0 0) 24 rfl Tryz.underlying22 Tj rfl (by first | decide | exact Nat.zero_lt_one) (by omega) v115 y114 y117 _ _ _ (fun k_ => some k_ ≠ (.slice (some ad102) x3_1.length co18 : Value).ownBlock) (fun _ => False) rfl rfl ?aO ?aR (fun _ _ h => h) (fun _ h => h.elim) ?aF ?aB ?aS ?aL ?_; (case aR => repeat (first | exact (by repeat (first | (with_reducible exact HR120.out) | (with_reducible refine Kd.C_alloc ?_ _) | (with_reducible refine Kd.C_drewN ?_ _) | (with_reducible refine Kd.C_drew ?_) | exact HR120.out)) | (with_reducible refine Kd.C_alloc ?_ _) | (with_reducible refine Kd.C_drewN ?_ _) | (with_reducible refine Kd.C_drew ?_))); (case aB => exact (zh HB.out)); (case aF => exact (fun k_ hk => Kd.fresh' (Kd.R_lt (zr HO_3.out)) k_ hk)); (case aO => exact (zr HO116.out)); (case aS => exact (Ua (zh HB.out))); (case aL => have := LMc17.out; omega); intro v122 w26 ho hb hg hat; rw [← Ny121.out] at ho; have HO123 := qa.mk (ho); replace HB := qa.mk (hb); replace HR110 := qa.mk ((show Kd.C (KQ_ w ok_) w26 (some ad102) y107.length y107 from by rw [Ny107.out]; exact Kd.C_take (m := (x6_2 : Int).toNat) ((Kd.R_reads' (Kd.R_after (ok := (fun _ => True)) (zr HO_3.out) hg hat)).2.2) KL22.out)); replace HR120 := qa.mk ((show Kd.C (KQ_ w ok_) w26 A25 y117.length y117 from by rw [Ny117.out, KA25.out]; exact Kd.C_drop (m := (x6_2 : Int).toNat) (c := co18) ((Kd.R_reads' (Kd.R_after (ok := (fun _ => True)) (zr HO_3.out) hg hat)).2.2) KL25.out ((Kd.R_reads' (Kd.R_after (ok := (fun _ => True)) (zr HO_3.out) hg hat)).2.1))); replace HO_3 := qa.mk (Kd.R_after (ok := (fun _ => True)) (zr HO_3.out) hg hat); clear HO116 ho hb hg hat));go_roundg k2;case measure => have := HK1.out; have := HK2.out; omega
     case rel => exact ⟨(y121), (wrap64 (x10_1 + 1)), zE, H', zO2 HK1 HK2, ⟨zr (Kd.R_mono HO123.out (fun _ hk => trivial))⟩, ⟨zh HB.out⟩⟩
end
mutual
def qb.l0 : Nat → List (List Int) → List (List Int) → Int → Int → Option (List (List Int))
 | 0, _, _, _, _ => none
 | k + 1, x3, x8, x9, x10 => if x10 < x9 then (if 0 ≤ x10 then (if x10 < (x8.length : Int) then (qb.l1 k x3 (yf [] x8 x10) 0 x8 x9 x10) else (none)) else (none)) else (some x3)
def qb.l1 : Nat → List (List Int) → (List Int) → Int → List (List Int) → Int → Int → Option (List (List Int))
 | 0, _, _, _, _, _, _ => none
 | k + 1, x3, x5, x6, x8, x9, x10 => if x6 < (x3.length : Int) then (if 0 ≤ x6 then ((Ta.f k (yf [] x3 x6) x5).bind fun t103 => (if t103 = true then (qb.l1 k x3 x5 (wrap64 (x6 + 1)) x8 x9 x10) else ((some (([] : List (List Int)) : List (List Int))).bind fun y104 => (if x6 ≤ (x3.length : Int) then ((some (x3.take (x6 : Int).toNat : List (List Int))).bind fun y107 => (if y104.length + y107.length < 5864062014805 then ((some (y104 ++ y107 : List (List Int))).bind fun y111 => (if y111.length < 5864062014805 then ((some (y111 ++ [x5] : List (List Int))).bind fun y114 => ((some (x3.drop (x6 : Int).toNat : List (List Int))).bind fun y117 => (if y114.length + y117.length < 5864062014805 then (qb.l0 k (y114 ++ y117) x8 x9 (wrap64 (x10 + 1))) else (none)))) else (none))) else (none))) else (none))))) else (none)) else ((some (([] : List (List Int)) : List (List Int))).bind fun y124 => (if 0 ≤ x6 then (if x6 ≤ (x3.length : Int) then ((some (x3.take (x6 : Int).toNat : List (List Int))).bind fun y127 => (if y124.length + y127.length < 5864062014805 then ((some (y124 ++ y127 : List (List Int))).bind fun y131 => (if y131.length < 5864062014805 then ((some (y131 ++ [x5] : List (List Int))).bind fun y134 => ((some (x3.drop (x6 : Int).toNat : List (List Int))).bind fun y137 => (if y134.length + y137.length < 5864062014805 then (qb.l0 k (y134 ++ y137) x8 x9 (wrap64 (x10 + 1))) else (none)))) else (none))) else (none))) else (none)) else (none)))
end
def qb.f (k : Nat) (l0 : List (List Int)) : Option (List (List Int)) := qb.l0 k ([] : List (List Int)) l0 (l0.length : Int) 0
theorem qb.mono_l : ∀ k, (∀ y0 y1 y2 y3, LeO (qb.l0 k y0 y1 y2 y3) (qb.l0 (k + 1) y0 y1 y2 y3)) ∧ (∀ y0 y1 y2 y3 y4 y5, LeO (qb.l1 k y0 y1 y2 y3 y4 y5) (qb.l1 (k + 1) y0 y1 y2 y3 y4 y5))
 | 0 => ⟨fun _ _ _ _ r h => by simp [qb.l0] at h, fun _ _ _ _ _ _ r h => by simp [qb.l1] at h⟩
 | k + 1 => by
  obtain ⟨ih0, ih1⟩ := qb.mono_l k;refine ⟨?_, ?_⟩
  ·intro y0 y1 y2 y3;unfold qb.l0;repeat' first
   | (with_reducible exact ih0 _ _ _ _)
   | (with_reducible exact ih1 _ _ _ _ _ _)
   | (with_reducible exact Ta.mono _ _ _)
   | (with_reducible exact LeO.refl _)
   | (with_reducible exact LeO.none _)
   | (with_reducible refine LeO.ite ?_ ?_)
   | (with_reducible refine LeO.bind ?_ (fun _ => ?_))
   | exact ih0 _ _ _ _
   | exact ih1 _ _ _ _ _ _
   | exact Ta.mono _ _ _
   | exact LeO.none _
   | refine LeO.ite ?_ ?_
   | refine LeO.bind ?_ (fun _ => ?_)
  ·intro y0 y1 y2 y3 y4 y5;unfold qb.l1;repeat' first
   | (with_reducible exact ih0 _ _ _ _)
   | (with_reducible exact ih1 _ _ _ _ _ _)
   | (with_reducible exact Ta.mono _ _ _)
   | (with_reducible exact LeO.refl _)
   | (with_reducible exact LeO.none _)
   | (with_reducible refine LeO.ite ?_ ?_)
   | (with_reducible refine LeO.bind ?_ (fun _ => ?_))
   | exact ih0 _ _ _ _
   | exact ih1 _ _ _ _ _ _
   | exact Ta.mono _ _ _
   | exact LeO.none _
   | refine LeO.ite ?_ ?_
   | refine LeO.bind ?_ (fun _ => ?_)
theorem qb.mono : ∀ a0 k, LeO (qb.f k a0) (qb.f (k + 1) a0) := by
 intro a0 k;obtain ⟨ih0, ih1⟩ := qb.mono_l k;unfold qb.f;repeat' first
  | (with_reducible exact ih0 _ _ _ _)
  | (with_reducible exact ih1 _ _ _ _ _ _)
  | (with_reducible exact Ta.mono _ _ _)
  | (with_reducible exact LeO.refl _)
  | (with_reducible exact LeO.none _)
  | (with_reducible refine LeO.ite ?_ ?_)
  | (with_reducible refine LeO.bind ?_ (fun _ => ?_))
  | exact ih0 _ _ _ _
  | exact ih1 _ _ _ _ _ _
  | exact Ta.mono _ _ _
  | exact LeO.none _
  | refine LeO.ite ?_ ?_
  | refine LeO.bind ?_ (fun _ => ?_)
section
variable {W_ : World} {ok_ : Nat → Prop}
theorem rdQ (xs : List (Q_ W_ ok_)) (i : Int) : (yf Q_.nil xs i).l = yf [] (xs.map Q_.l) i := by
 unfold yf;rw [List.getD_eq_getElem?_getD, List.getD_eq_getElem?_getD, List.getElem?_map];cases xs[i.toNat]? <;> rfl
theorem Wi {α β : Type} {c : Prop} [Decidable c] {x y : Option α} {x' y' : Option β} {g : α → β} (h1 : c → x.map g = x') (h2 : ¬ c → y.map g = y') : (if c then x else y).map g = if c then x' else y' := by
 by_cases h : c
 ·rw [if_pos h, if_pos h]; exact h1 h
 ·rw [if_neg h, if_neg h]; exact h2 h
theorem SB {α β δ : Type} {x : Option α} {f : α → Option β} {f' : α → Option δ} {g : β → δ} (h : ∀ t, (f t).map g = f' t) : (x.bind f).map g = x.bind f' := by
 cases x with
 | none => rfl
 | some t => exact h t
theorem Vo : ∀ k, (∀ (x3 x8 : List (Q_ W_ ok_)) x9 x10, (Ib.l0 k x3 x8 x9 x10).map (List.map Q_.l) = qb.l0 k (x3.map Q_.l) (x8.map Q_.l) x9 x10) ∧
 (∀ (x3 : List (Q_ W_ ok_)) (x5 : Q_ W_ ok_) x6 x8 x9 x10, (Ib.l1 k x3 x5 x6 x8 x9 x10).map (List.map Q_.l) = qb.l1 k (x3.map Q_.l) x5.l x6 (x8.map Q_.l) x9 x10)
 | 0 => ⟨fun _ _ _ _ => by simp [Ib.l0, qb.l0], fun _ _ _ _ _ _ => by simp [Ib.l1, qb.l1]⟩
 | k + 1 => by
  obtain ⟨ih0, ih1⟩ := Vo k;refine ⟨fun x3 x8 x9 x10 => ?_, fun x3 x5 x6 x8 x9 x10 => ?_⟩
  ·simp only [Ib.l0, qb.l0];refine Wi (fun _ => Wi (fun _ => ?_) (fun _ => rfl)) (fun _ => rfl);rw [List.length_map];refine Wi (fun _ => ?_) (fun _ => rfl);rw [ih1, rdQ]
  ·simp only [Ib.l1, qb.l1, Option.bind_some, ← List.map_take, ← List.map_drop, List.nil_append, List.length_append, List.length_cons, List.length_nil, List.length_map];refine Wi (fun _ => Wi (fun _ => ?_) (fun _ => rfl)) (fun _ => ?_)
   ·refine (SB fun t => ?_).trans (congrArg (fun z => Option.bind z _) (show yh.f k _ _ = Ta.f k _ _ from by rw [← rdQ]; rfl));refine Wi (fun _ => ih1 _ _ _ _ _ _) (fun _ => Wi (fun _ => Wi (fun _ => Wi (fun _ => Wi (fun _ => ?_) (fun _ => rfl)) (fun _ => rfl)) (fun _ => rfl)) (fun _ => rfl));rw [ih0]; simp
   ·refine Wi (fun _ => Wi (fun _ => Wi (fun _ => Wi (fun _ => Wi (fun _ => ?_) (fun _ => rfl)) (fun _ => rfl)) (fun _ => rfl)) (fun _ => rfl)) (fun _ => rfl);rw [ih0]; simp
theorem Tz (k : Nat) (l : List (Q_ W_ ok_)) : (Ib.f k l).map (List.map Q_.l) = qb.f k (l.map Q_.l) := by
 unfold Ib.f qb.f;rw [(Vo k).1, List.length_map]; rfl
end
theorem qb.calls (k : Nat) (P0_ : Nat → Prop) (A0 : Option Addr) (c0 : Nat) (l0 r : List (List Int)) (w : World) (hV : Kd.V (Kd.slice 3 (Kd.int .i64)) 35 w 0 P0_ (.slice A0 l0.length c0) l0) (h : qb.f k l0 = some r) :
 Calls Tryz.prog 184 #[.slice A0 l0.length c0] w fun e w' => ∃ v0_ : Value, e = .returned v0_ ∧ Kd.V (Kd.slice 3 (Kd.int .i64)) 35 w' w.heap.size (fun k_ => P0_ k_ ∨ w.heap.size ≤ k_) v0_ r ∧ Below w.heap.size w w' := by
 obtain ⟨A, c, hv, hl, hF⟩ := hV;injection hv with hv1 _ hv2;subst hv1; subst hv2;obtain ⟨qs, rfl, hC⟩ := IK hF;rw [← Tz] at h;obtain ⟨rq, hq, rfl⟩ := Option.map_eq_some_iff.1 h;rw [List.length_map] at hC hl ⊢;refine (Ib.calls w P0_ k A0 c0 qs rq hC hl hq).mono ?_;rintro e w' ⟨v, rfl, hR, hb⟩;have hR2 := Kd.R_bound hR;obtain ⟨A', c', rfl⟩ := Kd.R_slice hR;refine ⟨_, rfl, ⟨A', c', by rw [List.length_map], by rw [List.length_map]; exact (Kd.R_reads' hR).2.1, ?_⟩, hb⟩;rw [List.length_map];exact LK hb (Kd.F_mono (Kd.R_F hR2) (fun k hk => .inr hk.2.1)) (fun k hk => .inl hk)
mutual
def Cb.l0 : Nat → List Bool → List (List Int) → List Bool → Int → Int → Option ((List (List Int)))
 | 0, _, _, _, _, _ => none
 | k + 1, x0, x3, x9, x10, x11 => if x11 < x10 then (if 0 ≤ x11 then (if x11 < (x9.length : Int) then (if yf false x9 x11 = true then ((Jc.f k x11).bind fun t390 => (Cb.l1 k x0 x3 x11 true x9 x10 x11 t390 (t390.length : Int) 0)) else (Cb.l0 k x0 x3 x9 x10 (wrap64 (x11 + 1)))) else (none)) else (none)) else ((qb.f k x3).bind fun t386 => (some t386))
def Cb.l1 : Nat → List Bool → List (List Int) → Int → Bool → List Bool → Int → Int → List Int → Int → Int → Option ((List (List Int)))
 | 0, _, _, _, _, _, _, _, _, _, _ => none
 | k + 1, x0, x3, x4, x6, x9, x10, x11, x19, x20, x21 => if x21 < x20 then (if 0 ≤ x21 then (if x21 < (x19.length : Int) then (if x6 = true then (if 0 ≤ (rd x19 x21) then (if 0 ≤ (wrap64 (x4 - (shl .i64 1 (rd x19 x21)))) then (if (wrap64 (x4 - (shl .i64 1 (rd x19 x21)))) < (x0.length : Int) then (Cb.l1 k x0 x3 x4 (!(yf false x0 (wrap64 (x4 - (shl .i64 1 (rd x19 x21)))))) x9 x10 x11 x19 x20 (wrap64 (x21 + 1))) else (none)) else (none)) else (none)) else (Cb.l1 k x0 x3 x4 false x9 x10 x11 x19 x20 (wrap64 (x21 + 1)))) else (none)) else (none)) else (if x6 = true then ((Jc.f k x4).bind fun t395 => (if x3.length < 5864062014805 then (Cb.l0 k x0 (x3 ++ [t395]) x9 x10 (wrap64 (x11 + 1))) else (none))) else (Cb.l0 k x0 x3 x9 x10 (wrap64 (x11 + 1))))
end
def Cb.f (k : Nat) (l0 : List Bool) : Option ((List (List Int))) := Cb.l0 k l0 ([] : List (List Int)) l0 (l0.length : Int) 0
theorem Cb.mono_l : ∀ k, (∀ y0 y1 y2 y3 y4, LeO (Cb.l0 k y0 y1 y2 y3 y4) (Cb.l0 (k + 1) y0 y1 y2 y3 y4)) ∧ (∀ y0 y1 y2 y3 y4 y5 y6 y7 y8 y9, LeO (Cb.l1 k y0 y1 y2 y3 y4 y5 y6 y7 y8 y9) (Cb.l1 (k + 1) y0 y1 y2 y3 y4 y5 y6 y7 y8 y9))
 | 0 => ⟨fun _ _ _ _ _ r h => by simp [Cb.l0] at h, fun _ _ _ _ _ _ _ _ _ _ r h => by simp [Cb.l1] at h⟩
 | k + 1 => by
  obtain ⟨ih0, ih1⟩ := Cb.mono_l k;refine ⟨?_, ?_⟩
  ·intro y0 y1 y2 y3 y4;unfold Cb.l0;repeat' first
   | (with_reducible exact ih0 _ _ _ _ _)
   | (with_reducible exact ih1 _ _ _ _ _ _ _ _ _ _)
   | (with_reducible exact Jc.mono _ _)
   | (with_reducible exact qb.mono _ _)
   | (with_reducible exact LeO.refl _)
   | (with_reducible exact LeO.none _)
   | (with_reducible refine LeO.ite ?_ ?_)
   | (with_reducible refine LeO.bind ?_ (fun _ => ?_))
   | exact ih0 _ _ _ _ _
   | exact ih1 _ _ _ _ _ _ _ _ _ _
   | exact Jc.mono _ _
   | exact qb.mono _ _
   | exact LeO.none _
   | refine LeO.ite ?_ ?_
   | refine LeO.bind ?_ (fun _ => ?_)
  ·intro y0 y1 y2 y3 y4 y5 y6 y7 y8 y9;unfold Cb.l1;repeat' first
   | (with_reducible exact ih0 _ _ _ _ _)
   | (with_reducible exact ih1 _ _ _ _ _ _ _ _ _ _)
   | (with_reducible exact Jc.mono _ _)
   | (with_reducible exact qb.mono _ _)
   | (with_reducible exact LeO.refl _)
   | (with_reducible exact LeO.none _)
   | (with_reducible refine LeO.ite ?_ ?_)
   | (with_reducible refine LeO.bind ?_ (fun _ => ?_))
   | exact ih0 _ _ _ _ _
   | exact ih1 _ _ _ _ _ _ _ _ _ _
   | exact Jc.mono _ _
   | exact qb.mono _ _
   | exact LeO.none _
   | refine LeO.ite ?_ ?_
   | refine LeO.bind ?_ (fun _ => ?_)
theorem Cb.mono : ∀ a0 k, LeO (Cb.f k a0) (Cb.f (k + 1) a0) := by
 intro a0 k;obtain ⟨ih0, ih1⟩ := Cb.mono_l k;unfold Cb.f;repeat' first
  | (with_reducible exact ih0 _ _ _ _ _)
  | (with_reducible exact ih1 _ _ _ _ _ _ _ _ _ _)
  | (with_reducible exact Jc.mono _ _)
  | (with_reducible exact qb.mono _ _)
  | (with_reducible exact LeO.refl _)
  | (with_reducible exact LeO.none _)
  | (with_reducible refine LeO.ite ?_ ?_)
  | (with_reducible refine LeO.bind ?_ (fun _ => ?_))
  | exact ih0 _ _ _ _ _
  | exact ih1 _ _ _ _ _ _ _ _ _ _
  | exact Jc.mono _ _
  | exact qb.mono _ _
  | exact LeO.none _
  | refine LeO.ite ?_ ?_
  | refine LeO.bind ?_ (fun _ => ?_)
theorem Cb.calls (k : Nat) (A0 : Option Addr) (c0 : Nat) (l0 : List Bool) (r : List (List Int)) (w : World) (hr0 : Kd.C Kd.bool w A0 l0.length l0) (hc0 : l0.length ≤ c0) (h : Cb.f k l0 = some r) :
 Calls Tryz.prog 165 #[.slice A0 l0.length c0] w fun e w' => ∃ v0_ : Value, e = .returned (v0_) ∧ Kd.V (Kd.slice 3 (Kd.int .i64)) 35 w' w.heap.size (fun k_ => (w.heap.size ≤ k_)) v0_ r ∧ Below w.heap.size w w' := by
 have HR0 := qa.mk hr0;have HC0 := qa.mk hc0;clear hr0 hc0;have HB := qa.mk (Below.refl w.heap.size w);have H : (Cb.l0 k l0 ([] : List (List Int)) l0 (l0.length : Int) 0) = some r := h;clear h;have H' := qa.mk H;clear H;go_enter Tryz.func165, Tryz.ntmps165;go_wp2;go_loopg [3, 11] k (fun kq v3 v11 w' => ∃ (x3_1 : List (List Int)) (x11_1 : Int), v11 = .int .i64 x11_1 ∧ qa (Cb.l0 kq l0 x3_1 l0 (l0.length : Int) x11_1 = some r) ∧ qa (kq ≤ k) ∧ qa (Kd.S (Kd.slice 3 (Kd.int .i64)) 35 w' w.heap.size (fun k_ => (w.heap.size ≤ k_)) v3 x3_1) ∧ qa (Below w.heap.size w w'));case atStart => exact ⟨(([] : List (List Int))), (0), zE, H', ⟨Nat.le_refl _⟩, ⟨by first | exact Kd.S_nil _ _ _ _ _ | exact Kd.N_nil _ _ _ _ _ | exact Kd.V_nil _ _ _ _ _ | exact Kd.Q_nil _ _ _ _ _ | exact Kd.R_nil _ _ _ _ _⟩, ⟨zh HB.out⟩⟩
 case round =>
  clear H';try clear c1
  obtain ⟨x3_1, x11_1, rfl, HA, HK1, HO_3, HB⟩ := hrel;cases gk with
  | zero => exact absurd HA.out (by simp [Cb.l0])
  | succ k1 =>
   have H := HA.out;clear HA;simp only [Cb.l0] at H;by_cases c2 : x11_1 < (l0.length : Int)
   rotate_left
   ·rw [if_neg c2] at H;have c2b0 := decide_eq_false c2;clear c2;replace H := zB0 H;obtain ⟨t386, A250, H⟩ := H;have A25 := qa.mk A250;clear A250;obtain rfl := Option.some.inj H;obtain ⟨Ao26, co26, eo26⟩ := Kd.S_slice HO_3.out;subst eo26;go_wp2_with (first | ((with_reducible refine Va (f := 184) rfl ?_); refine zl 45 Tryz.func184 #[.slice Ao26 x3_1.length co26] ?_; (with_reducible refine (qb.calls k1 (fun k_ => (w.heap.size ≤ k_)) _ _ x3_1 t386 _ ?side1 A25.out).mono ?_); (case side1 => exact Kd.S_V (HO_3.out)); rintro e w27 ⟨v387, rfl, ho0, hb⟩; refine ⟨_, rfl, ?_⟩; have HO388 := qa.mk (Kd.V_lower (Kd.V_mono (ok' := fun k_ => (w.heap.size ≤ k_)) ho0 (fun k_ hk_ => Or.elim hk_ (fun hs_ => hs_) (fun hn_ => (Nat.le_trans (Ua (zh HB.out)) hn_)))) (Ua (zh HB.out))); replace HO_3 := qa.mk (Kd.S_below (by (with_reducible repeat (first | apply Kd.S_alloc | apply Kd.S_drewN | apply Kd.S_drew)); exact HO_3.out) hb); replace HB := zH hb HB; clear hb; (try clear ho0)));go_ret;exact ⟨_, zL0, by (with_reducible repeat (first | apply Kd.V_alloc | apply Kd.V_drewN | apply Kd.V_drew)); exact HO388.out, zh HB.out⟩
   rw [if_pos c2] at H;have c2b0 := decide_eq_true c2;clear c2;by_cases c3 : 0 ≤ x11_1
   rotate_left
   ·rw [if_neg c3] at H;cases H
   rw [if_pos c3] at H;have c3b0 := decide_eq_true c3;clear c3;by_cases c4 : x11_1 < (l0.length : Int)
   rotate_left
   ·rw [if_neg c4] at H;cases H
   rw [if_pos c4] at H;have c4b0 := decide_eq_true c4;clear c4;obtain ⟨bq5, hbq5⟩ : ∃ b_ : Bool, b_ = (yf false l0 x11_1) := ⟨_, rfl⟩;rw [← hbq5] at H;have Nbq5 := qa.mk hbq5;clear hbq5;by_cases c6 : bq5 = true
   rotate_left
   ·replace c6 := Bool.eq_false_iff.mpr c6;subst c6;rw [if_neg zF] at H;have H' := qa.mk H;clear H;obtain ⟨⟨ad389, e389, hx389_0⟩, p389, q389⟩ := zW (Kd.at_bool HR0.out x11_1);(try rw [← Nbq5.out] at hx389_0)
    cases e389;replace hx389_0 := zx HB.out hx389_0;go_wp2;go_roundg k1;case measure => have := HK1.out; omega
    case rel => exact ⟨(x3_1), (wrap64 (x11_1 + 1)), zE, H', zO HK1, ⟨zS HO_3.out⟩, ⟨zh HB.out⟩⟩
   subst c6;rw [if_pos rfl] at H;replace H := zB0 H;obtain ⟨t390, A70, H⟩ := H;have A7 := qa.mk A70;clear A70;have H' := qa.mk H;clear H;obtain ⟨⟨ad389, e389, hx389_0⟩, p389, q389⟩ := zW (Kd.at_bool HR0.out x11_1);(try rw [← Nbq5.out] at hx389_0)
   cases e389;replace hx389_0 := zx HB.out hx389_0;go_wp2_with (first | ((with_reducible refine Va (f := 140) rfl ?_); refine zl 19 Tryz.func140 #[.int .i64 x11_1] ?_; (with_reducible refine (Jc.calls k1 x11_1 t390 _ A7.out).mono ?_); rintro e w8 ⟨v391, rfl, ho0, hb⟩; refine ⟨_, rfl, ?_⟩; have HO392 := qa.mk (Kd.R_lower (Kd.R_newM (M := fun k_ => (w.heap.size ≤ k_)) ho0 (Ua (zh HB.out)) (fun k_ h_ => h_)) (Ua (zh HB.out))); replace HO_3 := qa.mk (Kd.S_elder' (by (with_reducible repeat (first | apply Kd.S_alloc | apply Kd.S_drewN | apply Kd.S_drew)); exact HO_3.out) (Kd.R_base ho0) hb); replace HB := zH hb HB; clear hb; (try clear ho0); obtain ⟨Ao9, co9, eo9⟩ := Kd.R_slice HO392.out; subst eo9));go_loopg [6, 21] k1 (fun kq v6 v21 w' => ∃ (x6_2 : Bool) (x21_2 : Int), v6 = .bool x6_2 ∧ v21 = .int .i64 x21_2 ∧ qa (Cb.l1 kq l0 x3_1 x11_1 x6_2 l0 (l0.length : Int) x11_1 t390 (t390.length : Int) x21_2 = some r) ∧ qa (kq ≤ k1) ∧ qa (Kd.S (Kd.slice 3 (Kd.int .i64)) 35 w' w.heap.size (fun k_ => (w.heap.size ≤ k_) ∧ some k_ ≠ ((.slice Ao9 t390.length co9) : Value).ownBlock) u3 x3_1) ∧ qa (Kd.R (Kd.int .i64) 3 w' w.heap.size (fun k_ => (w.heap.size ≤ k_)) (.slice Ao9 t390.length co9) t390) ∧ qa (Below w.heap.size w w'));case atStart => exact ⟨(true), (0), zE, zE, H', ⟨Nat.le_refl _⟩, ⟨zS HO_3.out⟩, ⟨zr (Kd.R_mono HO392.out (fun _ hk => hk.1))⟩, ⟨zh HB.out⟩⟩
   case round =>
    clear H';try clear c1
    try clear c2
    try clear c2b0
    try clear p2
    try clear c3
    try clear c3b0
    try clear p3
    try clear q3
    try clear hx3
    try clear c4
    try clear c4b0
    try clear q5
    try clear c6
    try clear p6
    try clear hx389_0
    try clear p389
    try clear q389
    obtain ⟨x6_2, x21_2, rfl, rfl, HA, HK2, HO_3, HO_19, HB⟩ := hrel;cases gk with
    | zero => exact absurd HA.out (by simp [Cb.l1])
    | succ k2 =>
     have H := HA.out;clear HA;simp only [Cb.l1] at H;by_cases c10 : x21_2 < (t390.length : Int)
     rotate_left
     ·rw [if_neg c10] at H;have c10b0 := decide_eq_false c10;clear c10;by_cases c19 : x6_2 = true
      rotate_left
      ·replace c19 := Bool.eq_false_iff.mpr c19;subst c19;rw [if_neg zF] at H;have H' := qa.mk H;clear H;go_wp2;go_roundg k2;case measure => have := HK1.out; have := HK2.out; omega
       case rel => exact ⟨(x3_1), (wrap64 (x11_1 + 1)), zE, H', zO2 HK1 HK2, ⟨zS (Kd.S_mono HO_3.out (fun _ hk => hk.1))⟩, ⟨zh HB.out⟩⟩
      subst c19;rw [if_pos rfl] at H;replace H := zB0 H;obtain ⟨t395, A200, H⟩ := H;have A20 := qa.mk A200;clear A200;by_cases c21 : x3_1.length < 5864062014805
      rotate_left
      ·rw [if_neg c21] at H;cases H
      rw [if_pos c21] at H;have LMc21 := qa.mk c21;clear c21;obtain ⟨y398, hy398⟩ : ∃ y_ : List (List Int), y_ = (x3_1 ++ [t395]) := ⟨_, rfl⟩;rw [← hy398] at H;have Ny398 := qa.mk hy398;clear hy398;have H' := qa.mk H;clear H;go_wp2_with (first | ((with_reducible refine Va (f := 140) rfl ?_); refine zl 40 Tryz.func140 #[.int .i64 x11_1] ?_; (with_reducible refine (Jc.calls k2 x11_1 t395 _ A20.out).mono ?_); rintro e w22 ⟨v396, rfl, ho0, hb⟩; refine ⟨_, rfl, ?_⟩; have HO397 := qa.mk (Kd.R_lower (Kd.R_new' (Kd.R_newM (M := fun k_ => (w.heap.size ≤ k_)) ho0 (Ua (zh HB.out)) (fun k_ h_ => h_)) (Kd.R_lt (zr HO_19.out))) (Ua (zh HB.out))); replace HO_3 := qa.mk (Kd.S_elder' (by (with_reducible repeat (first | apply Kd.S_alloc | apply Kd.S_drewN | apply Kd.S_drew)); exact HO_3.out) (Kd.R_base ho0) hb); replace HO_19 := qa.mk (Kd.R_elder' (zr HO_19.out) (Kd.R_base ho0) hb); replace HB := zH hb HB; clear hb; (try clear ho0); obtain ⟨Ao24, co24, eo24⟩ := Kd.R_slice HO397.out; subst eo24) | ((with_reducible refine Uc (b := .append) (xs := #[.tmp 38, .tmp 41]) rfl ?_); at_builtin; refine Kd.S_append (Kd.slice 3 (Kd.int .i64)) (w0 := w) w.heap.size rfl (.tmp 38) (.tmp 41) 22 35 (.slice none 0 0) 24 rfl Tryz.underlying22 Tj rfl (by decide) (by omega) u3 x3_1 t395 [.slice Ao24 t395.length co24] (fun k_ => (w.heap.size ≤ k_) ∧ some k_ ≠ (.slice Ao9 t390.length co9 : Value).ownBlock) (fun k_ => some k_ = (.slice Ao24 t395.length co24 : Value).ownBlock) rfl rfl ?aP (fun k_ hk_ => ((Kd.R_mono (ok' := fun k_ => ((fun k_ => (w.heap.size ≤ k_) ∧ some k_ ≠ (.slice Ao9 t390.length co9 : Value).ownBlock)) k_ ∧ some k_ ≠ (u3 : Value).ownBlock) (Kd.R_apart' (HO397.out) (Kd.S_typed HO_3.out) (by decide)) (fun k_ hk => ⟨⟨hk.1.1.1, hk.1.2⟩, hk.2⟩))).1 k_ hk_.symm) ?aF ?aO ?aB ?aS ?aL ?_; (case aP => exact Kd.M_row (Kd.R_mono (Kd.R_tight rfl (Kd.R_mono (ok' := fun k_ => ((fun k_ => (w.heap.size ≤ k_) ∧ some k_ ≠ (.slice Ao9 t390.length co9 : Value).ownBlock)) k_ ∧ some k_ ≠ (u3 : Value).ownBlock) (Kd.R_apart' (HO397.out) (Kd.S_typed HO_3.out) (by decide)) (fun k_ hk => ⟨⟨hk.1.1.1, hk.1.2⟩, hk.2⟩))) (fun _ h_ => h_))); (case aB => exact (zh HB.out)); (case aF => exact (fun k_ hk => ⟨(Nat.le_trans (Ua (zh HB.out)) hk), Kd.fresh' (Kd.R_lt (zr HO_19.out)) k_ hk⟩)); (case aO => exact (by (with_reducible repeat (first | apply Kd.S_alloc | apply Kd.S_drewN | apply Kd.S_drew)); exact Kd.S_mono HO_3.out (fun k_ hk => ⟨⟨hk.1.1, hk.1.2⟩, fun e_ => hk.2 e_⟩))); (case aS => exact (Ua (zh HB.out))); (case aL => have := LMc21.out; omega); intro v399 w23 ho hb hg hat; rw [← Ny398.out] at ho; have HO400 := qa.mk (ho); replace HO_19 := qa.mk (Kd.R_over' (zr HO_19.out) (Kd.S_typed (by (with_reducible repeat (first | apply Kd.S_alloc | apply Kd.S_drewN | apply Kd.S_drew)); exact HO_3.out)) (by decide) hg); replace HB := qa.mk (hb); clear HO_3 HO397 ho hb hg hat));go_roundg k2;case measure => have := HK1.out; have := HK2.out; omega
      case rel => exact ⟨(y398), (wrap64 (x11_1 + 1)), zE, H', zO2 HK1 HK2, ⟨zS (Kd.S_mono HO400.out (fun _ hk => hk.1))⟩, ⟨zh HB.out⟩⟩
     rw [if_pos c10] at H;have c10b0 := decide_eq_true c10;clear c10;by_cases c11 : 0 ≤ x21_2
     rotate_left
     ·rw [if_neg c11] at H;cases H
     rw [if_pos c11] at H;have c11b0 := decide_eq_true c11;clear c11;by_cases c12 : x21_2 < (t390.length : Int)
     rotate_left
     ·rw [if_neg c12] at H;cases H
     rw [if_pos c12] at H;have c12b0 := decide_eq_true c12;clear c12;by_cases c13 : x6_2 = true
     rotate_left
     ·replace c13 := Bool.eq_false_iff.mpr c13;subst c13;rw [if_neg zF] at H;have H' := qa.mk H;clear H;obtain ⟨⟨ad393, e393, hx393_0⟩, p393, q393⟩ := zW (Kd.at_int (Kd.R_reads' HO_19.out).2.2 x21_2);cases e393;go_wp2;go_roundg k2;case measure => have := HK1.out; have := HK2.out; omega
      case rel => exact ⟨(false), (wrap64 (x21_2 + 1)), zE, zE, H', zO2 HK1 HK2, ⟨zS HO_3.out⟩, ⟨zr HO_19.out⟩, ⟨zh HB.out⟩⟩
     subst c13;rw [if_pos rfl] at H;by_cases c14 : 0 ≤ (rd t390 x21_2)
     rotate_left
     ·rw [if_neg c14] at H;cases H
     rw [if_pos c14] at H;have c14b0 := eq_true c14;have c14b1 := decide_eq_true c14;clear c14;obtain ⟨ji15, hji15⟩ : ∃ j_ : Int, (shl .i64 1 (rd t390 x21_2)) = j_ := ⟨_, rfl⟩;rw [hji15] at H;obtain ⟨hji15_, hji15z, hji15u, hji15v, hji15y, hji15x⟩ := zJ1 hji15;obtain ⟨ji16, hji16⟩ : ∃ j_ : Int, (wrap64 (x11_1 - (ji15))) = j_ := ⟨_, rfl⟩;rw [hji16] at H;have hji16w := (Ff _).trans hji16;by_cases c17 : 0 ≤ (ji16)
     rotate_left
     ·rw [if_neg c17] at H;cases H
     rw [if_pos c17] at H;have c17b0 := decide_eq_true c17;clear c17;by_cases c18 : (ji16) < (l0.length : Int)
     rotate_left
     ·rw [if_neg c18] at H;cases H
     rw [if_pos c18] at H;have c18b0 := decide_eq_true c18;clear c18;have H' := qa.mk H;clear H;obtain ⟨⟨ad393, e393, hx393_0⟩, p393, q393⟩ := zW (Kd.at_int (Kd.R_reads' HO_19.out).2.2 x21_2);cases e393;obtain ⟨⟨ad394, e394, hx394_0⟩, p394, q394⟩ := zW (Kd.at_bool HR0.out (ji16));(try rw [← Nbq5.out] at hx394_0)
     obtain rfl : ad389 = ad394 := (by injection e394);replace hx394_0 := zx HB.out hx394_0;go_wp2;go_roundg k2;case measure => have := HK1.out; have := HK2.out; omega
     case rel => exact ⟨(!(yf false l0 (ji16))), (wrap64 (x21_2 + 1)), (by first | rfl | (simp; done) | (simp only [← hji16] <;> (first | rfl | simp)) | (simp [*]; done)), zE, H', zO2 HK1 HK2, ⟨zS HO_3.out⟩, ⟨zr HO_19.out⟩, ⟨zh HB.out⟩⟩
def Yi.f (k : Nat) (a0 : Int) (l1 : List Bool) : Option (Int × (List (List Int))) := (Cb.f k l1).bind fun t402 => (some (a0, t402))
theorem Yi.mono : ∀ a0 a1 k, LeO (Yi.f k a0 a1) (Yi.f (k + 1) a0 a1) := by
 intro a0 a1 k;unfold Yi.f;repeat' first
  | (with_reducible exact Cb.mono _ _)
  | (with_reducible exact LeO.refl _)
  | (with_reducible exact LeO.none _)
  | (with_reducible refine LeO.ite ?_ ?_)
  | (with_reducible refine LeO.bind ?_ (fun _ => ?_))
  | exact Cb.mono _ _
  | exact LeO.none _
  | refine LeO.ite ?_ ?_
  | refine LeO.bind ?_ (fun _ => ?_)
theorem Yi.calls (k : Nat) (a0 : Int) (A1 : Option Addr) (c1 : Nat) (l1 : List Bool) (r1 : Int) (r2 : List (List Int)) (w : World) (hr1 : Kd.C Kd.bool w A1 l1.length l1) (hc1 : l1.length ≤ c1) (h : Yi.f k a0 l1 = some (r1, r2)) :
 Calls Tryz.prog 139 #[.int .i64 a0, .slice A1 l1.length c1] w fun e w' => ∃ v1_ : Value, e = .returned (.agg #[.int .i64 r1, v1_]) ∧ Kd.V (Kd.slice 3 (Kd.int .i64)) 35 w' w.heap.size (fun k_ => (w.heap.size ≤ k_)) v1_ r2 ∧ Below w.heap.size w w' := by
 have hu24 := Tryz.underlying24;have HR1 := qa.mk hr1;have HC1 := qa.mk hc1;clear hr1 hc1;have HB := qa.mk (Below.refl w.heap.size w);have H : ((Cb.f k l1).bind fun t402 => (some (a0, t402))) = some (r1, r2) := h;clear h;replace H := zB0 H;obtain ⟨t402, A30, H⟩ := H;replace H : (some (a0, t402)) = some (r1, r2) := H;have A3 := qa.mk A30;clear A30;simp only [Option.some.injEq, Prod.mk.injEq] at H;obtain ⟨rfl, rfl⟩ := H;go_enter Tryz.func139, Tryz.ntmps139;go_wp2_with (first | ((with_reducible refine Ma (N := 4) rfl ?_); refine zq 4 #[.int .i64 0, .slice none 0 0] 24 ?_; intro gb401 hg w4 hbox hb; have GW401 := zG hg HB; replace HB := zH hb HB; have BK401 := qa.mk hbox; have GE401 := GW401; clear hb hbox hg) | ((with_reducible refine Va (f := 165) rfl ?_); refine zl 7 Tryz.func165 #[.slice A1 l1.length c1] ?_; (with_reducible refine (Cb.calls k _ _ l1 t402 _ ?side1 ?side2 A3.out).mono ?_); (case side1 => exact zQ (Kd.C_below HR1.out HB.out)); (case side2 => exact HC1.out); rintro e w5 ⟨v403, rfl, ho0, hb⟩; refine ⟨_, rfl, ?_⟩; have HO404 := qa.mk (Kd.V_lower (Kd.V_mono (ok' := fun k_ => (w.heap.size ≤ k_) ∧ k_ ≠ gb401) ho0 (fun k_ hk_ => ⟨(Nat.le_trans (Ua (zh HB.out)) hk_), (Kd.freshB (g := gb401) (o := .cells #[.int .i64 0, .slice none 0 0] 24 (0, 0)) (zb BK401.out) k_ hk_)⟩)) (Ua (zh HB.out))); replace BK401 := zK BK401 hb; replace HB := zH hb HB; clear hb; (try clear ho0); obtain ⟨Ao6, co6, eo6⟩ := Kd.V_slice HO404.out; subst eo6; obtain ⟨hcz7_0, hcz7_1, hfz7_0, hfz7_1⟩ := zC2 BK401));refine bodyPost_ret (results_cell_row rfl _ _ gb401 24 #[.int .i64 a0, .slice Ao6 t402.length co6] (0, 0) _ rfl (by (with_reducible repeat (first | refine Ca ?_ _ | refine Ra ?_ | refine Qa ?_ _)); refine Yb (cs := #[.int .i64 a0, .slice none 0 0]) ?_ 1 _ rfl; (with_reducible repeat (first | refine Ca ?_ _ | refine Ra ?_ | refine Qa ?_ _)); refine Yb (cs := #[.int .i64 0, .slice none 0 0]) ?_ 0 _ rfl; exact zb BK401.out) Tryz.underlying24 rfl (by kernel_rfl)) rfl ?_;exact ⟨_, zL0, by (with_reducible repeat (first | apply Kd.V_alloc | apply Kd.V_drewN | apply Kd.V_drew)); exact Kd.V_mono (Kd.V_far (p := ⟨gb401, 1, none⟩) (Kd.V_far (p := ⟨gb401, 0, none⟩) (Kd.V_mono HO404.out (fun k_ hk => (⟨hk, hk.2⟩ : _ ∧ k_ ≠ gb401))) (fun _ hk => hk.2) (.int .i64 a0)) (fun _ hk => hk.2) (.slice Ao6 t402.length co6)) (fun _ hk => hk.1.1), zh HB.out⟩
def Fp (p : List Bool) : List Int → Bool → Option Bool
 | [], m => some m
 | i :: s, m => if m = true then Fp p s true else if 0 ≤ i then (if 0 ≤ wrap64 ((p.length : Int) - shl .i64 1 i) ∧ wrap64 ((p.length : Int) - shl .i64 1 i) < (p.length : Int) then Fp p s (yf false p (wrap64 ((p.length : Int) - shl .i64 1 i))) else none) else none
theorem rdN {xs : List Bool} {i : Nat} (h : i < xs.length) : yf false xs (i : Int) = xs[i] := by
 unfold yf;rw [Int.toNat_natCast, List.getD_eq_getElem?_getD, List.getElem?_eq_getElem h]; rfl
theorem Cw {w : World} {g e : Nat} {ws : List Bool} (hb : w.heap[g]? = some (.cells (ws.map Value.bool).toArray e (0, 0))) (hm : ws.length ≤ 65536) : Kd.C Kd.bool w (some ⟨g, 0, none⟩) ws.length ws := by
 refine ⟨rfl, Nat.le_trans hm (by decide), fun _ => ⟨_, rfl, fun j p hj => ⟨[.bool p], rfl, rfl, fun i u hu => ?_⟩⟩⟩;cases i with
 | zero =>
  have : Value.bool p = u := by simpa using hu
  subst this;rw [qB, show (0 : Nat) + (j * Kd.bool.sz + 0) = j from by show 0 + (j * 1 + 0) = j; omega, Ya hb, List.getElem?_toArray, List.getElem?_map, hj]; rfl
 | succ i => simp at hu
structure Cm (gw go : Nat) (w0 w : World) (ws : List Bool) (v : Value) (gs : List S24) : Prop where
 N : Kd.N k24 24 w w0.heap.size (fun z => w0.heap.size ≤ z ∧ z ≠ gw ∧ z ≠ go) v gs
 O : w.heap[go]? = some (.cells #[v] 47 (0, 0))
 W : w.heap[gw]? = some (.cells (ws.map Value.bool).toArray 4 (0, 0))
 B : Below w0.heap.size w0 w
section
variable {gw go : Nat} {w0 w w1 : World} {ws : List Bool} {v : Value} {gs : List S24}
theorem Cm.below (h : Cm gw go w0 w ws v gs) (hb : Below w.heap.size w w1) : Cm gw go w0 w1 ws v gs :=
 ⟨Kd.N_below h.N hb, Na h.O hb, Na h.W hb, h.B.trans (hb.mono h.B.size)⟩
theorem Cm.alloc (h : Cm gw go w0 w ws v gs) (o : Obj) : Cm gw go w0 (w.alloc o) ws v gs := h.below ((Below.refl _ _).alloc (Nat.le_refl _) o)
theorem Cm.put (h : Cm gw go w0 w ws v gs) (hne : gw ≠ go) (hbw : w0.heap.size ≤ gw) (i : Nat) (b : Bool) : Cm gw go w0 (w.setCell ⟨gw, i, none⟩ (.bool b)) (ws.set i b) v gs :=
 ⟨Kd.N_far h.N (fun _ hk => hk.2.1) _, Nh h.O (Ne.symm hne) _, Yb h.W i _ (by simp), Re h.B hbw⟩
end
theorem om1 {m d N : Nat} (h : m + (d + 1) = N) : m + 1 + d = N := by omega
theorem om2 {k n g : Nat} (h : k < n) (hg : n - k ≤ g) : n - (k + 1) < g := by omega
theorem om3 {k n : Nat} (h : k < n) (hn : n ≤ 9223372036854775807) : wrap64 ((k : Int) + 1) = ((k + 1 : Nat) : Int) := by unfold wrap64; omega
theorem om4 {a b c d : Nat} (h : a + (b + c) ≤ d) : a + b ≤ d := by omega
theorem om5 {a b c d : Nat} (h : a + (b + c) ≤ d) : a + b + c ≤ d := by omega
theorem Bz {p : List Bool} {s : List Int} {i : Nat} {m : Bool} (h : i < s.length) : Fp p (s.drop i) m = if m = true then Fp p (s.drop (i + 1)) true else if 0 ≤ rd s (i : Int) then (if 0 ≤ wrap64 ((p.length : Int) - shl .i64 1 (rd s (i : Int))) ∧ wrap64 ((p.length : Int) - shl .i64 1 (rd s (i : Int))) < (p.length : Int) then Fp p (s.drop (i + 1)) (yf false p (wrap64 ((p.length : Int) - shl .i64 1 (rd s (i : Int))))) else none) else none := by
 have e : rd s (i : Int) = s[i] := by unfold rd; rw [Int.toNat_natCast, List.getD_eq_getElem?_getD, List.getElem?_eq_getElem h]; rfl
 rw [e, List.drop_eq_getElem_cons h, Fp]
theorem qC {p ws : List Bool} (h : ws.take p.length = p) {j : Int} (h0 : 0 ≤ j) (h1 : j < (p.length : Int)) : ∃ hj : j.toNat < ws.length, ws[j.toNat] = yf false p j := by
 have hl : p.length ≤ ws.length := by have := congrArg List.length h; rw [List.length_take] at this; omega
 refine ⟨by omega, ?_⟩;unfold yf;have : p.getD j.toNat false = (ws.take p.length).getD j.toNat false := by rw [h]
 rw [this, List.getD_eq_getElem?_getD, List.getElem?_take_of_lt (by omega), List.getElem?_eq_getElem (by omega)]; rfl
theorem Dm {p ws : List Bool} (h : ws.take p.length = p) (hl : p.length < ws.length) (b : Bool) : (ws.set p.length b).take (p ++ [b]).length = p ++ [b] := by
 rw [List.length_append, List.length_singleton, List.take_succ_eq_append_getElem (by rw [List.length_set]; exact hl), List.getElem_set_self, List.take_set_of_le (Nat.le_refl _), h]
theorem Yv {p ws : List Bool} {b : Bool} (h : ws.take (p ++ [b]).length = p ++ [b]) : ws.take p.length = p := by
 have := congrArg (List.take p.length) h;rw [List.length_append, List.length_singleton, List.take_take, Nat.min_eq_left (by omega), List.take_left'] at this
 ·exact this
 ·rfl
mutual
def Oa.l0 : Nat → Int → Int → List Bool → Int → Int → Int → List Int → Option (Int × Int)
 | 0, _, _, _, _, _, _, _ => none
 | k + 1, x7, x8, x15, x16, x17, x306000, x306001 => if x17 < x16 then (if 0 ≤ x17 then (if x17 < (x15.length : Int) then ((Ub.f k x306000 x306001 x17).bind fun t307 => (if yf false x15 x17 = true then (if x7 < 0 then (Oa.j1 k x7 x8 (yf false x15 x17) t307 x15 x16 x17 true x306000 x306001) else (Oa.j1 k x7 x8 (yf false x15 x17) t307 x15 x16 x17 (decide (t307 < x7)) x306000 x306001)) else (Oa.j1 k x7 x8 (yf false x15 x17) t307 x15 x16 x17 false x306000 x306001))) else (none)) else (none)) else (some (x7, x8))
def Oa.j1 : Nat → Int → Int → Bool → Int → List Bool → Int → Int → Bool → Int → List Int → Option (Int × Int)
 | 0, _, _, _, _, _, _, _, _, _, _ => none
 | k + 1, x7, x8, x10, x11, x15, x16, x17, x34, x306000, x306001 => if x34 = true then (if x10 = true then (Oa.l0 k x11 x8 x15 x16 (wrap64 (x17 + 1)) x306000 x306001) else (Oa.l0 k x11 (mx x8 x11) x15 x16 (wrap64 (x17 + 1)) x306000 x306001)) else (if x10 = true then (Oa.l0 k x7 x8 x15 x16 (wrap64 (x17 + 1)) x306000 x306001) else (Oa.l0 k x7 (mx x8 x11) x15 x16 (wrap64 (x17 + 1)) x306000 x306001))
end
def Oa.f (k : Nat) (a0_0 : Int) (l0_1 : List Bool) (l1 : List Int) : Option (Int × Int) := Oa.l0 k (-1) (-1) l0_1 (l0_1.length : Int) 0 0 l1
theorem Oa.calls (k : Nat) (a0_0 : Int) (A0_1 : Option Addr) (c0_1 : Nat) (l0_1 : List Bool) (A1 : Option Addr) (c1 : Nat) (l1 : List Int) (r1 : Int) (r2 : Int) (w : World) (hr0_1 : Kd.C Kd.bool w A0_1 l0_1.length l0_1) (hc0_1 : l0_1.length ≤ c0_1) (hr1 : Kd.C (Kd.int .i64) w A1 l1.length l1) (hc1 : l1.length ≤ c1) (h : Oa.f k a0_0 l0_1 l1 = some (r1, r2)) :
 Calls Tryz.prog 63 #[.agg #[.int .i64 a0_0, .slice A0_1 l0_1.length c0_1], .slice A1 l1.length c1] w fun e w' => e = .returned (.tuple #[.int .i64 r1, .int .i64 r2]) ∧ Below w.heap.size w w' := by
 have hu62 := Tryz.underlying62;have hu40 := Tryz.underlying40;have HR0_1 := qa.mk hr0_1;have HC0_1 := qa.mk hc0_1;clear hr0_1 hc0_1;have HR1 := qa.mk hr1;have HC1 := qa.mk hc1;clear hr1 hc1;have HB := qa.mk (Below.refl w.heap.size w);have H : (Oa.l0 k (-1) (-1) l0_1 (l0_1.length : Int) 0 0 l1) = some (r1, r2) := h;clear h;have H' := qa.mk H;clear H;go_enter Tryz.func63, Tryz.ntmps63;go_wp2_with (first | ((with_reducible refine Ma (N := 2) rfl ?_); refine zq 2 #[.int .i64 a0_0, .slice A0_1 l0_1.length c0_1] 62 ?_; intro gb304 hg w3 hbox hb; have GW304 := zG hg HB; replace HB := zH hb HB; have BK304 := qa.mk hbox; have GE304 := GW304; clear hb hbox hg) | ((with_reducible refine Ma (N := 6) rfl ?_); refine zq 6 #[.int .i64 0, .slice none 0 0] 40 ?_; intro gb305 hg w4 hbox hb; have BK305 := qa.mk hbox; have GW305 := zG hg HB; have GE305 := zG hg HB; have NB304_305 := zNa hg BK304; have NB305_304 := zNb hg BK304; replace BK304 := zK BK304 hb; replace HB := zH hb HB; clear hb hbox hg; have hnb5 := NB305_304.out; have hnc5 := NB304_305.out; obtain ⟨hcz6_0, hcz6_1, hfz6_0, hfz6_1⟩ := zC2 BK305; obtain ⟨hcz7_0, hcz7_1, hfz7_0, hfz7_1⟩ := zC2 BK304));go_loopg [7, 8, 17] k (fun kq v7 v8 v17 w' => ∃ (x7_1 : Int) (x8_1 : Int) (x17_1 : Int), v7 = .int .i64 x7_1 ∧ v8 = .int .i64 x8_1 ∧ v17 = .int .i64 x17_1 ∧ qa (Oa.l0 kq x7_1 x8_1 l0_1 (l0_1.length : Int) x17_1 0 l1 = some (r1, r2)) ∧ qa (kq ≤ k) ∧ qa (w'.heap[gb304]? = some (.cells #[.int .i64 a0_0, (.slice A0_1 l0_1.length c0_1)] 62 (0, 0))) ∧ qa (w'.heap[gb305]? = some (.cells #[.int .i64 0, (.slice A1 l1.length c1)] 40 (0, 0))) ∧ qa (Below w.heap.size w w'));case atStart => exact ⟨((-1)), ((-1)), (0), zE, zE, zE, H', ⟨Nat.le_refl _⟩, ⟨zf2 BK304.out NB304_305.out NB304_305.out⟩, ⟨by (with_reducible repeat (first | refine Ca ?_ _ | refine Ra ?_ | refine Qa ?_ _)); refine Yb (cs := #[.int .i64 0, .slice none 0 0]) ?_ 1 _ rfl; (with_reducible repeat (first | refine Ca ?_ _ | refine Ra ?_ | refine Qa ?_ _)); refine Yb (cs := #[.int .i64 0, .slice none 0 0]) ?_ 0 _ rfl; exact zb BK305.out⟩, ⟨zh HB.out⟩⟩
 case round =>
  clear H';try clear c1
  try clear p2
  try clear c5
  try clear c6
  try clear hcz6_0
  try clear hcz6_1
  try clear hcz7_0
  try clear hcz7_1
  try clear hfz6_0
  try clear hfz6_1
  try clear hfz7_0
  try clear hfz7_1
  obtain ⟨x7_1, x8_1, x17_1, rfl, rfl, rfl, HA, HK1, BK304, BK305, HB⟩ := hrel;cases gk with
  | zero => exact absurd HA.out (by simp [Oa.l0])
  | succ k1 =>
   have H := HA.out;clear HA;simp only [Oa.l0] at H;by_cases c8 : x17_1 < (l0_1.length : Int)
   rotate_left
   ·rw [if_neg c8] at H;have c8b0 := decide_eq_false c8;clear c8;simp only [Option.some.injEq, Prod.mk.injEq] at H;obtain ⟨rfl, rfl⟩ := H;go_wp2;go_ret2
    exact ⟨zL0, zh HB.out⟩
   rw [if_pos c8] at H;have c8b0 := decide_eq_true c8;clear c8;by_cases c9 : 0 ≤ x17_1
   rotate_left
   ·rw [if_neg c9] at H;cases H
   rw [if_pos c9] at H;have c9b0 := decide_eq_true c9;clear c9;by_cases c10 : x17_1 < (l0_1.length : Int)
   rotate_left
   ·rw [if_neg c10] at H;cases H
   rw [if_pos c10] at H;have c10b0 := decide_eq_true c10;clear c10;replace H := zB0 H;obtain ⟨t307, A110, H⟩ := H;replace H : (if yf false l0_1 x17_1 = true then (if x7_1 < 0 then (Oa.j1 k1 x7_1 x8_1 (yf false l0_1 x17_1) t307 l0_1 (l0_1.length : Int) x17_1 true 0 l1) else (Oa.j1 k1 x7_1 x8_1 (yf false l0_1 x17_1) t307 l0_1 (l0_1.length : Int) x17_1 (decide (t307 < x7_1)) 0 l1)) else (Oa.j1 k1 x7_1 x8_1 (yf false l0_1 x17_1) t307 l0_1 (l0_1.length : Int) x17_1 false 0 l1)) = some (r1, r2) := H;have A11 := qa.mk A110;clear A110;have HC12 := qa.mk H;clear H;obtain ⟨⟨ad306, e306, hx306_0⟩, p306, q306⟩ := zW (Kd.at_bool HR0_1.out x17_1);cases e306;replace hx306_0 := zx HB.out hx306_0;obtain ⟨bz306, hbz306⟩ : ∃ b_ : Bool, b_ = (yf false l0_1 x17_1) := ⟨_, rfl⟩;(try rw [← hbz306] at hx306_0)
   (try rw [← hbz306] at H)
   (try (have H2_ := H'.out; rw [← hbz306] at H2_; clear H'; have H' := qa.mk H2_; clear H2_))
   (try (have H2_ := HC12.out; rw [← hbz306] at H2_; clear HC12; have HC12 := qa.mk H2_; clear H2_))
   have Nbz306 := qa.mk hbz306;clear hbz306;have hnb13 := NB305_304.out;have hnc13 := NB304_305.out;obtain ⟨hcz14_0, hcz14_1, hfz14_0, hfz14_1⟩ := zC2 BK305;go_upto_region 7 with (first | ((with_reducible refine Va (f := 116) rfl ?_); refine zl 24 Tryz.func116 #[.agg #[.int .i64 0, .slice A1 l1.length c1], .int .i64 x17_1] ?_; (with_reducible refine (Ub.calls k1 0 _ _ l1 x17_1 t307 _ ?side1 ?side2 A11.out).mono ?_); (case side1 => repeat (first | exact (Kd.C_below HR1.out HB.out) | (with_reducible refine Kd.C_alloc ?_ _) | (with_reducible refine Kd.C_drewN ?_ _) | (with_reducible refine Kd.C_drew ?_))); (case side2 => exact HC1.out); rintro e w15 ⟨rfl, hb⟩; refine ⟨_, rfl, ?_⟩; have n0_ := qa.mk (Na (g := gb304) (o := .cells #[.int .i64 a0_0, .slice (some ad306) l0_1.length c0_1] 62 (0, 0)) (zb BK304.out) hb); have n1_ := qa.mk (Na (g := gb305) (o := .cells #[.int .i64 0, .slice A1 l1.length c1] 40 (0, 0)) (zb BK305.out) hb); have n2_ := qa.mk (Rc (zh HB.out) hb); clear BK304; clear BK305; clear HB; have BK304 := n0_; have BK305 := n1_; have HB := n2_; clear n0_ n1_ n2_; (try clear hb); (try clear hb2); (try clear hk); (try clear hi)))
   (try simp only [Act.put, List.setIfInBounds_toArray, List.set_cons_zero, List.set_cons_succ])
   go_cut [34] (fun v34 wc => ∃ (kq : Nat) (x34_11 : Bool), v34 = .bool x34_11 ∧ qa (Oa.j1 kq x7_1 x8_1 bz306 t307 l0_1 (l0_1.length : Int) x17_1 x34_11 0 l1 = some (r1, r2)) ∧ qa (kq ≤ k1) ∧ qa (wc.heap[gb304]? = some (.cells #[.int .i64 a0_0, (.slice (some ad306) l0_1.length c0_1)] 62 (0, 0))) ∧ qa (wc.heap[gb305]? = some (.cells #[.int .i64 0, (.slice A1 l1.length c1)] 40 (0, 0))) ∧ qa (Below w.heap.size w wc));case first =>
    have H := HC12.out;clear HC12;(try rw [← Nbz306.out])
    by_cases c17 : bz306 = true
    ·subst c17;rw [if_pos rfl] at H;by_cases c18 : x7_1 < 0
     ·rw [if_pos c18] at H;have c18b0 := decide_eq_true c18;clear c18;have H' := qa.mk H;clear H;go_wp2;go_meet
      case rel => exact ⟨_, (true), zE, H', ⟨by have := HK1.out; first | omega | exact Nat.le_refl _⟩, ⟨zb BK304.out⟩, ⟨zb BK305.out⟩, ⟨zh HB.out⟩⟩
     ·rw [if_neg c18] at H;have c18b0 := decide_eq_false c18;clear c18;have H' := qa.mk H;clear H;go_wp2;go_meet
      case rel => exact ⟨_, (decide (t307 < x7_1)), zE, H', ⟨by have := HK1.out; first | omega | exact Nat.le_refl _⟩, ⟨zb BK304.out⟩, ⟨zb BK305.out⟩, ⟨zh HB.out⟩⟩
    ·replace c17 := Bool.eq_false_iff.mpr c17;subst c17;rw [if_neg zF] at H;have H' := qa.mk H;clear H;go_wp2;go_meet
     case rel => exact ⟨_, (false), zE, H', ⟨by have := HK1.out; first | omega | exact Nat.le_refl _⟩, ⟨zb BK304.out⟩, ⟨zb BK305.out⟩, ⟨zh HB.out⟩⟩
   case rest =>
    clear HC12;try clear c1
    try clear q1
    try clear p2
    try clear p3
    try clear q3
    try clear hx3
    try clear c5
    try clear c6
    try clear c8
    try clear c8b0
    try clear c9
    try clear c9b0
    try clear c10
    try clear c10b0
    try clear c11
    try clear c13
    try clear q16
    try clear c17
    try clear c18
    try clear c18b0
    try clear hcz14_0
    try clear hcz14_1
    try clear hcz6_0
    try clear hcz6_1
    try clear hcz7_0
    try clear hcz7_1
    try clear hfz14_0
    try clear hfz14_1
    try clear hfz6_0
    try clear hfz6_1
    try clear hfz7_0
    try clear hfz7_1
    try clear hx306_0
    try clear p2
    try clear p306
    try clear q306
    obtain ⟨kq, x34_11, rfl, HA, HJ11, BK304, BK305, HB⟩ := hcut;cases kq with
    | zero => exact absurd HA.out (by simp [Oa.j1])
    | succ kj11 =>
     have H := HA.out;clear HA;simp only [Oa.j1] at H;by_cases c19 : x34_11 = true
     ·subst c19;rw [if_pos rfl] at H;by_cases c21 : (bz306) = true
      ·rw [if_pos c21] at H;subst c21;have H' := qa.mk H;clear H;go_wp2;go_roundg kj11;case measure => have := HK1.out; have := HJ11.out; omega
       case rel => exact ⟨(t307), (x8_1), (wrap64 (x17_1 + 1)), zE, zE, zE, H', zO2 HK1 HJ11, ⟨zb BK304.out⟩, ⟨zb BK305.out⟩, ⟨zh HB.out⟩⟩
      rw [if_neg c21] at H;have c21b0 := Bool.eq_false_iff.mpr c21;clear c21;obtain ⟨ji22, hji22⟩ : ∃ j_ : Int, (mx x8_1 t307) = j_ := ⟨_, rfl⟩;rw [hji22] at H;have hji22_ : (if x8_1 < t307 then t307 else x8_1) = ji22 := hji22;have H' := qa.mk H;clear H;go_wp2;go_roundg kj11;case measure => have := HK1.out; have := HJ11.out; omega
      case rel => exact ⟨(t307), (ji22), (wrap64 (x17_1 + 1)), zE, (by first | rfl | (simp; done) | (simp only [← hji22] <;> (first | rfl | simp)) | (simp [*]; done)), zE, H', zO2 HK1 HJ11, ⟨zb BK304.out⟩, ⟨zb BK305.out⟩, ⟨zh HB.out⟩⟩
     replace c19 := Bool.eq_false_iff.mpr c19;subst c19;rw [if_neg zF] at H;by_cases c24 : (bz306) = true
     ·rw [if_pos c24] at H;subst c24;have H' := qa.mk H;clear H;go_wp2;go_roundg kj11;case measure => have := HK1.out; have := HJ11.out; omega
      case rel => exact ⟨(x7_1), (x8_1), (wrap64 (x17_1 + 1)), zE, zE, zE, H', zO2 HK1 HJ11, ⟨zb BK304.out⟩, ⟨zb BK305.out⟩, ⟨zh HB.out⟩⟩
     rw [if_neg c24] at H;have c24b0 := Bool.eq_false_iff.mpr c24;clear c24;obtain ⟨ji25, hji25⟩ : ∃ j_ : Int, (mx x8_1 t307) = j_ := ⟨_, rfl⟩;rw [hji25] at H;have hji25_ : (if x8_1 < t307 then t307 else x8_1) = ji25 := hji25;have H' := qa.mk H;clear H;go_wp2;go_roundg kj11;case measure => have := HK1.out; have := HJ11.out; omega
     case rel => exact ⟨(x7_1), (ji25), (wrap64 (x17_1 + 1)), zE, (by first | rfl | (simp; done) | (simp only [← hji25] <;> (first | rfl | simp)) | (simp [*]; done)), zE, H', zO2 HK1 HJ11, ⟨zb BK304.out⟩, ⟨zb BK305.out⟩, ⟨zh HB.out⟩⟩
def Hd.l0 : Nat → List Int → Int → Int → List Int → Int → Int → Option (Bool)
 | 0, _, _, _, _, _, _ => none
 | k + 1, x0, x1, x2, x9, x10, x11 => if x11 < x10 then (if 0 ≤ x11 then (if x11 < (x9.length : Int) then ((Gg.f (rd x9 x11) x1 x2).bind fun t332 => (if t332 = true then (if x11 > 0 then (if 0 ≤ (wrap64 (x11 - 1)) then (if (wrap64 (x11 - 1)) < (x0.length : Int) then (if (rd x0 (wrap64 (x11 - 1))) ≥ (rd x9 x11) then (some false) else (Hd.l0 k x0 x1 x2 x9 x10 (wrap64 (x11 + 1)))) else (none)) else (none)) else (Hd.l0 k x0 x1 x2 x9 x10 (wrap64 (x11 + 1)))) else (some false))) else (none)) else (none)) else (some true)
def Hd.f (k : Nat) (l0 : List Int) (a1 : Int) (a2 : Int) : Option (Bool) := Hd.l0 k l0 a1 a2 l0 (l0.length : Int) 0
theorem Hd.calls (k : Nat) (A0 : Option Addr) (c0 : Nat) (l0 : List Int) (a1 : Int) (a2 : Int) (r : Bool) (w : World) (hr0 : Kd.C (Kd.int .i64) w A0 l0.length l0) (hc0 : l0.length ≤ c0) (h : Hd.f k l0 a1 a2 = some r) :
 Calls Tryz.prog 180 #[.slice A0 l0.length c0, .int .i64 a1, .int .i64 a2] w fun e w' => e = .returned (.bool r) ∧ Jd w w' := by
 have HR0 := qa.mk hr0;have HC0 := qa.mk hc0;clear hr0 hc0;have H : (Hd.l0 k l0 a1 a2 l0 (l0.length : Int) 0) = some r := h;clear h;have H' := qa.mk H;clear H;go_enter Tryz.func180, Tryz.ntmps180;go_wp2;go_loopg [11] k (fun kq v11 w' => ∃ (x11_1 : Int), v11 = .int .i64 x11_1 ∧ qa (Hd.l0 kq l0 a1 a2 l0 (l0.length : Int) x11_1 = some r) ∧ qa (kq ≤ k) ∧ Jd w w');case atStart => exact ⟨(0), zE, H', ⟨Nat.le_refl _⟩, zD⟩
 case round =>
  clear H';try clear c1
  try clear p2
  obtain ⟨x11_1, rfl, HA, HK1, ⟨m1, rfl⟩⟩ := hrel;cases gk with
  | zero => exact absurd HA.out (by simp [Hd.l0])
  | succ k1 =>
   have H := HA.out;clear HA;simp only [Hd.l0] at H;by_cases c4 : x11_1 < (l0.length : Int)
   rotate_left
   ·rw [if_neg c4] at H;have c4b0 := decide_eq_false c4;clear c4;obtain rfl := Option.some.inj H;go_wp2;go_ret;exact za1
   rw [if_pos c4] at H;have c4b0 := decide_eq_true c4;clear c4;by_cases c5 : 0 ≤ x11_1
   rotate_left
   ·rw [if_neg c5] at H;cases H
   rw [if_pos c5] at H;have c5b0 := decide_eq_true c5;clear c5;by_cases c6 : x11_1 < (l0.length : Int)
   rotate_left
   ·rw [if_neg c6] at H;cases H
   rw [if_pos c6] at H;have c6b0 := decide_eq_true c6;clear c6;replace H := zB0 H;obtain ⟨t332, A70, H⟩ := H;have A7 := qa.mk A70;clear A70;by_cases c8 : t332 = true
   rotate_left
   ·replace c8 := Bool.eq_false_iff.mpr c8;subst c8;rw [if_neg zF] at H;obtain rfl := Option.some.inj H;obtain ⟨⟨ad331, e331, hx331_0⟩, p331, q331⟩ := zW (Kd.at_int HR0.out x11_1);cases e331;go_wp2_with (first | ((with_reducible refine Va (f := 136) rfl ?_); refine zl 19 Tryz.func136 #[.int .i64 (rd l0 x11_1), .int .i64 a1, .int .i64 a2] ?_; (with_reducible refine (Gg.calls (rd l0 x11_1) a1 a2 false _ A7.out).mono ?_); rintro e w' ⟨rfl, ⟨nd, rfl⟩⟩; refine ⟨_, rfl, ?_⟩));go_ret;exact za1
   subst c8;rw [if_pos rfl] at H;by_cases c9 : x11_1 > 0
   rotate_left
   ·rw [if_neg c9] at H;have c9b0 := decide_eq_false c9;clear c9;have H' := qa.mk H;clear H;obtain ⟨⟨ad331, e331, hx331_0⟩, p331, q331⟩ := zW (Kd.at_int HR0.out x11_1);cases e331;go_wp2_with (first | ((with_reducible refine Va (f := 136) rfl ?_); refine zl 19 Tryz.func136 #[.int .i64 (rd l0 x11_1), .int .i64 a1, .int .i64 a2] ?_; (with_reducible refine (Gg.calls (rd l0 x11_1) a1 a2 true _ A7.out).mono ?_); rintro e w' ⟨rfl, ⟨nd, rfl⟩⟩; refine ⟨_, rfl, ?_⟩));go_roundg k1;case measure => have := HK1.out; omega
    case rel => exact ⟨(wrap64 (x11_1 + 1)), zE, H', zO HK1, zD⟩
   rw [if_pos c9] at H;have c9b0 := decide_eq_true c9;clear c9;obtain ⟨ji10, hji10⟩ : ∃ j_ : Int, (wrap64 (x11_1 - 1)) = j_ := ⟨_, rfl⟩;rw [hji10] at H;(try rw [hji10] at A7)
   have hji10w := (Ff _).trans hji10;by_cases c11 : 0 ≤ (ji10)
   rotate_left
   ·rw [if_neg c11] at H;cases H
   rw [if_pos c11] at H;have c11b0 := decide_eq_true c11;clear c11;by_cases c12 : (ji10) < (l0.length : Int)
   rotate_left
   ·rw [if_neg c12] at H;cases H
   rw [if_pos c12] at H;have c12b0 := decide_eq_true c12;clear c12;by_cases c13 : (rd l0 (ji10)) ≥ (rd l0 x11_1)
   ·rw [if_pos c13] at H;have c13b0 := decide_eq_true c13;clear c13;obtain rfl := Option.some.inj H;obtain ⟨⟨ad331, e331, hx331_0⟩, p331, q331⟩ := zW (Kd.at_int HR0.out x11_1);cases e331;go_wp2_with (first | ((with_reducible refine Va (f := 136) rfl ?_); refine zl 19 Tryz.func136 #[.int .i64 (rd l0 x11_1), .int .i64 a1, .int .i64 a2] ?_; (with_reducible refine (Gg.calls (rd l0 x11_1) a1 a2 true _ A7.out).mono ?_); rintro e w' ⟨rfl, ⟨nd, rfl⟩⟩; refine ⟨_, rfl, ?_⟩; have p333 : 0 ≤ ((ji10) : Int) := zk; have q333 : (ji10) < (l0.length : Int) := zk; obtain ⟨ad333, e333, hx333_0⟩ := Kd.at_int HR0.out (ji10) p333 q333; obtain rfl : ad331 = ad333 := (by injection e333); replace p333 := eq_true p333; replace q333 := eq_true q333));go_ret;exact ⟨by first | rfl | (simp; done) | (simp only [← hji10] <;> (first | rfl | simp)) | (simp [*]; done), by repeat (first | exact Jd.refl _ | apply Jd.step)⟩
   rw [if_neg c13] at H;have c13b0 := decide_eq_false c13;clear c13;have H' := qa.mk H;clear H;obtain ⟨⟨ad331, e331, hx331_0⟩, p331, q331⟩ := zW (Kd.at_int HR0.out x11_1);cases e331;go_wp2_with (first | ((with_reducible refine Va (f := 136) rfl ?_); refine zl 19 Tryz.func136 #[.int .i64 (rd l0 x11_1), .int .i64 a1, .int .i64 a2] ?_; (with_reducible refine (Gg.calls (rd l0 x11_1) a1 a2 true _ A7.out).mono ?_); rintro e w' ⟨rfl, ⟨nd, rfl⟩⟩; refine ⟨_, rfl, ?_⟩; have p333 : 0 ≤ ((ji10) : Int) := zk; have q333 : (ji10) < (l0.length : Int) := zk; obtain ⟨ad333, e333, hx333_0⟩ := Kd.at_int HR0.out (ji10) p333 q333; obtain rfl : ad331 = ad333 := (by injection e333); replace p333 := eq_true p333; replace q333 := eq_true q333));go_roundg k1;case measure => have := HK1.out; omega
   case rel => exact ⟨(wrap64 (x11_1 + 1)), zE, H', zO HK1, zD⟩
def Ii.f (k : Nat) (a0 : Int) (l1 : List Int) : Option (Bool) := (Hd.f k l1 0 (wrap64 (a0 - 1))).bind fun t334 => (some t334)
theorem Ii.calls (k : Nat) (a0 : Int) (A1 : Option Addr) (c1 : Nat) (l1 : List Int) (r : Bool) (w : World) (hr1 : Kd.C (Kd.int .i64) w A1 l1.length l1) (hc1 : l1.length ≤ c1) (h : Ii.f k a0 l1 = some r) :
 Calls Tryz.prog 157 #[.int .i64 a0, .slice A1 l1.length c1] w fun e w' => e = .returned (.bool r) ∧ Jd w w' := by
 have HR1 := qa.mk hr1;have HC1 := qa.mk hc1;clear hr1 hc1;have H : ((Hd.f k l1 0 (wrap64 (a0 - 1))).bind fun t334 => (some t334)) = some r := h;clear h;replace H := zB0 H;obtain ⟨t334, A30, H⟩ := H;have A3 := qa.mk A30;clear A30;obtain rfl := Option.some.inj H;go_enter Tryz.func157, Tryz.ntmps157;go_wp2_with (first | ((with_reducible refine Va (f := 180) rfl ?_); refine zl 8 Tryz.func180 #[.slice A1 l1.length c1, .int .i64 0, .int .i64 (wrap64 (a0 - 1))] ?_; (with_reducible refine (Hd.calls k _ _ l1 0 (wrap64 (a0 - 1)) t334 _ ?side1 ?side2 A3.out).mono ?_); (case side1 => exact zQ HR1.out); (case side2 => exact HC1.out); rintro e w' ⟨rfl, ⟨nd, rfl⟩⟩; refine ⟨_, rfl, ?_⟩));go_ret;exact za1
mutual
def Oc.j0 : Nat → Int → List (List Int) → Bool → Option (Bool)
 | 0, _, _, _ => none
 | k + 1, x0, x1, x18 => if x18 = true then (some false) else (Oc.l0 k x0 x1 (x1.length : Int) 0)
def Oc.l0 : Nat → Int → List (List Int) → Int → Int → Option (Bool)
 | 0, _, _, _, _ => none
 | k + 1, x0, x19, x20, x21 => if x21 < x20 then (if 0 ≤ x21 then (if x21 < (x19.length : Int) then (if ((Bd x19 x21).length : Int) = 0 then (some false) else ((Ii.f k x0 (Bd x19 x21)).bind fun t338 => (if t338 = true then (Oc.l0 k x0 x19 x20 (wrap64 (x21 + 1))) else (some false)))) else (none)) else (none)) else (some true)
end
def Oc.f (k : Nat) (a0 : Int) (l1 : List (List Int)) (a2 : Int) : Option (Bool) := (Gg.f a0 1 9).bind fun t335 => (if t335 = true then ((Gg.f (l1.length : Int) 1 a2).bind fun t336 => (Oc.j0 k a0 l1 (!t336))) else (Oc.j0 k a0 l1 true))
theorem Oc.calls (k : Nat) (a0 : Int) (A1 : Option Addr) (c1 : Nat) (l1 : List (List Int)) (a2 : Int) (r : Bool) (w : World) (hr1 : Kd.C (Kd.slice 3 (Kd.int .i64)) w A1 l1.length l1) (hc1 : l1.length ≤ c1) (h : Oc.f k a0 l1 a2 = some r) :
 Calls Tryz.prog 117 #[.int .i64 a0, .slice A1 l1.length c1, .int .i64 a2] w fun e w' => e = .returned (.bool r) ∧ Jd w w' := by
 have HR1 := qa.mk hr1;have HC1 := qa.mk hc1;clear hr1 hc1;have H : ((Gg.f a0 1 9).bind fun t335 => (if t335 = true then ((Gg.f (l1.length : Int) 1 a2).bind fun t336 => (Oc.j0 k a0 l1 (!t336))) else (Oc.j0 k a0 l1 true))) = some r := h;clear h;have HC4 := qa.mk H;clear H;go_enter Tryz.func117, Tryz.ntmps117;go_upto_region 1 with (fail)
 go_cut [18] (fun v18 wc => ∃ (kq : Nat) (x18_3 : Bool), v18 = .bool x18_3 ∧ qa (Oc.j0 kq a0 l1 x18_3 = some r) ∧ qa (kq ≤ k) ∧ Jd w wc);case first =>
  have H := HC4.out;clear HC4;replace H := zB0 H;obtain ⟨t335, A50, H⟩ := H;have A5 := qa.mk A50;clear A50;by_cases c6 : t335 = true
  ·subst c6;rw [if_pos rfl] at H;replace H := zB0 H;obtain ⟨t336, A70, H⟩ := H;have A7 := qa.mk A70;clear A70;have H' := qa.mk H;clear H;go_wp2_with (first | ((with_reducible refine Va (f := 136) rfl ?_); refine zl 10 Tryz.func136 #[.int .i64 a0, .int .i64 1, .int .i64 9] ?_; (with_reducible refine (Gg.calls a0 1 9 true _ A5.out).mono ?_); rintro e w' ⟨rfl, ⟨nd, rfl⟩⟩; refine ⟨_, rfl, ?_⟩) | (go_at_call 136; (with_reducible refine (Gg.calls (l1.length : Int) 1 a2 t336 _ A7.out).mono ?_); rintro e w' ⟨rfl, ⟨nd, rfl⟩⟩));go_meet
   case rel => exact ⟨_, (!t336), zE, H', ⟨by first | omega | exact Nat.le_refl _⟩, zD⟩
  ·replace c6 := Bool.eq_false_iff.mpr c6;subst c6;rw [if_neg zF] at H;have H' := qa.mk H;clear H;go_wp2_with (first | ((with_reducible refine Va (f := 136) rfl ?_); refine zl 10 Tryz.func136 #[.int .i64 a0, .int .i64 1, .int .i64 9] ?_; (with_reducible refine (Gg.calls a0 1 9 false _ A5.out).mono ?_); rintro e w' ⟨rfl, ⟨nd, rfl⟩⟩; refine ⟨_, rfl, ?_⟩));go_meet
   case rel => exact ⟨_, (true), zE, H', ⟨by first | omega | exact Nat.le_refl _⟩, zD⟩
 case rest =>
  clear HC4;try clear c1
  try clear p2
  try clear c6
  obtain ⟨kq, x18_3, rfl, HA, HJ3, ⟨mc3, rfl⟩⟩ := hcut;cases kq with
  | zero => exact absurd HA.out (by simp [Oc.j0])
  | succ kj3 =>
   have H := HA.out;clear HA;simp only [Oc.j0] at H;by_cases c8 : x18_3 = true
   ·subst c8;rw [if_pos rfl] at H;obtain rfl := Option.some.inj H;go_wp2;go_ret;exact za1
   replace c8 := Bool.eq_false_iff.mpr c8;subst c8;rw [if_neg zF] at H;have H' := qa.mk H;clear H;go_wp2;go_loopg [21] kj3 (fun kq v21 w' => ∃ (x21_2 : Int), v21 = .int .i64 x21_2 ∧ qa (Oc.l0 kq a0 l1 (l1.length : Int) x21_2 = some r) ∧ qa (kq ≤ kj3) ∧ Jd w w');case atStart => exact ⟨(0), zE, H', ⟨Nat.le_refl _⟩, zD⟩
   case round =>
    clear H';try clear c1
    try clear p2
    try clear c3
    try clear c6
    try clear c8
    try clear p2
    obtain ⟨x21_2, rfl, HA, HK2, ⟨m2, rfl⟩⟩ := hrel;cases gk with
    | zero => exact absurd HA.out (by simp [Oc.l0])
    | succ k2 =>
     have H := HA.out;clear HA;simp only [Oc.l0] at H;by_cases c9 : x21_2 < (l1.length : Int)
     rotate_left
     ·rw [if_neg c9] at H;have c9b0 := decide_eq_false c9;clear c9;obtain rfl := Option.some.inj H;go_wp2;go_ret;exact za1
     rw [if_pos c9] at H;have c9b0 := decide_eq_true c9;clear c9;by_cases c10 : 0 ≤ x21_2
     rotate_left
     ·rw [if_neg c10] at H;cases H
     rw [if_pos c10] at H;have c10b0 := decide_eq_true c10;clear c10;by_cases c11 : x21_2 < (l1.length : Int)
     rotate_left
     ·rw [if_neg c11] at H;cases H
     rw [if_pos c11] at H;have c11b0 := decide_eq_true c11;clear c11;by_cases c12 : ((Bd l1 x21_2).length : Int) = 0
     ·rw [if_pos c12] at H;have c12b0 := beq_iff_eq.mpr c12;have c12b1 := bne_eq_false_iff_eq.mpr c12;clear c12;obtain rfl := Option.some.inj H;obtain ⟨⟨ad337, A337_0, c337_0, e337, hx337_0, hl337_0, hi337_0⟩, p337, q337⟩ := zW (qi HR1.out x21_2);cases e337;have HR337_0 := qa.mk hi337_0;have HC337_0 := qa.mk hl337_0;clear hi337_0 hl337_0;go_wp2;go_ret;exact za1
     rw [if_neg c12] at H;have c12b0 := beq_eq_false_iff_ne.mpr c12;have c12b1 := bne_iff_ne.mpr c12;have c12b2 : ¬ ((Bd l1 x21_2) = []) := fun h_ => c12 (by rw [h_]; rfl);replace H := zB0 H;obtain ⟨t338, A130, H⟩ := H;have A13 := qa.mk A130;clear A130;by_cases c14 : t338 = true
     rotate_left
     ·replace c14 := Bool.eq_false_iff.mpr c14;subst c14;rw [if_neg zF] at H;obtain rfl := Option.some.inj H;obtain ⟨⟨ad337, A337_0, c337_0, e337, hx337_0, hl337_0, hi337_0⟩, p337, q337⟩ := zW (qi HR1.out x21_2);cases e337;have HR337_0 := qa.mk hi337_0;have HC337_0 := qa.mk hl337_0;clear hi337_0 hl337_0;go_wp2_with (first | (go_at_call 157; (with_reducible refine (Ii.calls k2 a0 _ _ (Bd l1 x21_2) false _ ?side1 ?side2 A13.out).mono ?_); (case side1 => exact zQ HR337_0.out); (case side2 => exact HC337_0.out); rintro e w' ⟨rfl, ⟨nd, rfl⟩⟩));go_ret;exact za1
     subst c14;rw [if_pos rfl] at H;have H' := qa.mk H;clear H;obtain ⟨⟨ad337, A337_0, c337_0, e337, hx337_0, hl337_0, hi337_0⟩, p337, q337⟩ := zW (qi HR1.out x21_2);cases e337;have HR337_0 := qa.mk hi337_0;have HC337_0 := qa.mk hl337_0;clear hi337_0 hl337_0;go_wp2_with (first | (go_at_call 157; (with_reducible refine (Ii.calls k2 a0 _ _ (Bd l1 x21_2) true _ ?side1 ?side2 A13.out).mono ?_); (case side1 => exact zQ HR337_0.out); (case side2 => exact HC337_0.out); rintro e w' ⟨rfl, ⟨nd, rfl⟩⟩));go_roundg k2;case measure => have := HJ3.out; have := HK2.out; omega
     case rel => exact ⟨(wrap64 (x21_2 + 1)), zE, H', zO2 HJ3 HK2, zD⟩
def Qd.l0 : Nat → Int → List Int → Int → Int → Option (Int)
 | 0, _, _, _, _ => none
 | k + 1, x3, x6, x7, x8 => if x8 < x7 then (if 0 ≤ x8 then (if x8 < (x6.length : Int) then (if 0 ≤ (rd x6 x8) then (Qd.l0 k (Go.bits .or .i64 x3 (shl .i64 1 (rd x6 x8))) x6 x7 (wrap64 (x8 + 1))) else (none)) else (none)) else (none)) else (some x3)
def Qd.f (k : Nat) (l0 : List Int) : Option (Int) := Qd.l0 k 0 l0 (l0.length : Int) 0
theorem Qd.calls (k : Nat) (A0 : Option Addr) (c0 : Nat) (l0 : List Int) (r : Int) (w : World) (hr0 : Kd.C (Kd.int .i64) w A0 l0.length l0) (hc0 : l0.length ≤ c0) (h : Qd.f k l0 = some r) :
 Calls Tryz.prog 119 #[.slice A0 l0.length c0] w fun e w' => e = .returned (.int .i64 r) ∧ Jd w w' := by
 have HR0 := qa.mk hr0;have HC0 := qa.mk hc0;clear hr0 hc0;have H : (Qd.l0 k 0 l0 (l0.length : Int) 0) = some r := h;clear h;have H' := qa.mk H;clear H;go_enter Tryz.func119, Tryz.ntmps119;go_wp2;go_loopg [3, 8] k (fun kq v3 v8 w' => ∃ (x3_1 : Int) (x8_1 : Int), v3 = .int .i64 x3_1 ∧ v8 = .int .i64 x8_1 ∧ qa (Qd.l0 kq x3_1 l0 (l0.length : Int) x8_1 = some r) ∧ qa (kq ≤ k) ∧ Jd w w');case atStart => exact ⟨(0), (0), zE, zE, H', ⟨Nat.le_refl _⟩, zD⟩
 case round =>
  clear H';try clear c1
  obtain ⟨x3_1, x8_1, rfl, rfl, HA, HK1, ⟨m1, rfl⟩⟩ := hrel;cases gk with
  | zero => exact absurd HA.out (by simp [Qd.l0])
  | succ k1 =>
   have H := HA.out;clear HA;simp only [Qd.l0] at H;by_cases c2 : x8_1 < (l0.length : Int)
   rotate_left
   ·rw [if_neg c2] at H;have c2b0 := decide_eq_false c2;clear c2;obtain rfl := Option.some.inj H;go_wp2;go_ret;exact za1
   rw [if_pos c2] at H;have c2b0 := decide_eq_true c2;clear c2;by_cases c3 : 0 ≤ x8_1
   rotate_left
   ·rw [if_neg c3] at H;cases H
   rw [if_pos c3] at H;have c3b0 := decide_eq_true c3;clear c3;by_cases c4 : x8_1 < (l0.length : Int)
   rotate_left
   ·rw [if_neg c4] at H;cases H
   rw [if_pos c4] at H;have c4b0 := decide_eq_true c4;clear c4;by_cases c5 : 0 ≤ (rd l0 x8_1)
   rotate_left
   ·rw [if_neg c5] at H;cases H
   rw [if_pos c5] at H;have c5b0 := eq_true c5;have c5b1 := decide_eq_true c5;clear c5;obtain ⟨ji6, hji6⟩ : ∃ j_ : Int, (shl .i64 1 (rd l0 x8_1)) = j_ := ⟨_, rfl⟩;rw [hji6] at H;obtain ⟨hji6_, hji6z, hji6u, hji6v, hji6y, hji6x⟩ := zJ1 hji6;have H' := qa.mk H;clear H;obtain ⟨⟨ad343, e343, hx343_0⟩, p343, q343⟩ := zW (Kd.at_int HR0.out x8_1);cases e343;go_wp2;go_roundg k1;case measure => have := HK1.out; omega
   case rel => exact ⟨(Go.bits .or .i64 x3_1 (ji6)), (wrap64 (x8_1 + 1)), (by first | rfl | (simp; done) | (simp only [← hji6] <;> (first | rfl | simp)) | (simp [*]; done)), zE, H', zO HK1, zD⟩
mutual
def Ec.l0 : Nat → List (List Int) → List Bool → Int → Int → Option (List Bool)
 | 0, _, _, _, _ => none
 | k + 1, x1, x5, x15, x16 => if x16 < x15 then (Ec.l1 k x1 x5 x16 x15 x16 x1 (x1.length : Int) 0) else (some x5)
def Ec.l1 : Nat → List (List Int) → List Bool → Int → Int → Int → List (List Int) → Int → Int → Option (List Bool)
 | 0, _, _, _, _, _, _, _, _ => none
 | k + 1, x1, x5, x6, x15, x16, x19, x20, x21 => if x21 < x20 then (if 0 ≤ x21 then (if x21 < (x19.length : Int) then ((Qd.f k (Bd x19 x21)).bind fun t363 => (if 0 ≤ x6 then (if x6 < (x5.length : Int) then (if yf false x5 x6 = true then (Ec.l1 k x1 (x5.set (x6 : Int).toNat true) x6 x15 x16 x19 x20 (wrap64 (x21 + 1))) else (Ec.l1 k x1 (x5.set (x6 : Int).toNat ((Go.bits .and .i64 x6 t363) == t363)) x6 x15 x16 x19 x20 (wrap64 (x21 + 1)))) else (none)) else (none))) else (none)) else (none)) else (Ec.l0 k x1 x5 x15 (wrap64 (x16 + 1)))
end
def Ec.f (k : Nat) (a0 : Int) (l1 : List (List Int)) : Option (List Bool) := (Gi.f a0).bind fun t358 => (if 0 ≤ (wrap64 (t358 + 1)) then (if (wrap64 (t358 + 1) : Int).toNat ≤ 281474976710656 then ((some (List.replicate (wrap64 (t358 + 1) : Int).toNat false : List Bool)).bind fun y359 => (Ec.l0 k l1 y359 (y359.length : Int) 0)) else (none)) else (none))
theorem Ec.calls (k : Nat) (a0 : Int) (A1 : Option Addr) (c1 : Nat) (l1 : List (List Int)) (r : List Bool) (w : World) (hr1 : Kd.C (Kd.slice 3 (Kd.int .i64)) w A1 l1.length l1) (hc1 : l1.length ≤ c1) (h : Ec.f k a0 l1 = some r) :
 Calls Tryz.prog 122 #[.int .i64 a0, .slice A1 l1.length c1] w fun e w' => ∃ v0_ : Value, e = .returned (v0_) ∧ Kd.R Kd.bool 4 w' w.heap.size (fun _ => True) v0_ r ∧ Below w.heap.size w w' := by
 have HR1 := qa.mk hr1;have HC1 := qa.mk hc1;clear hr1 hc1;have HB := qa.mk (Below.refl w.heap.size w);have H : ((Gi.f a0).bind fun t358 => (if 0 ≤ (wrap64 (t358 + 1)) then (if (wrap64 (t358 + 1) : Int).toNat ≤ 281474976710656 then ((some (List.replicate (wrap64 (t358 + 1) : Int).toNat false : List Bool)).bind fun y359 => (Ec.l0 k l1 y359 (y359.length : Int) 0)) else (none)) else (none))) = some r := h;clear h;replace H := zB0 H;obtain ⟨t358, A30, H⟩ := H;have A3 := qa.mk A30;clear A30;obtain ⟨ji4, hji4⟩ : ∃ j_ : Int, (wrap64 (t358 + 1)) = j_ := ⟨_, rfl⟩;first | rw [hji4] at H | simp only [hji4] at H
 (try rw [hji4] at A3)
 have hji4w := (Ff _).trans hji4;by_cases c5 : 0 ≤ (ji4)
 rotate_left
 ·rw [if_neg c5] at H;cases H
 rw [if_pos c5] at H;have c5b0 := eq_true c5;have c5b1 := decide_eq_true c5;clear c5;by_cases c6 : (ji4 : Int).toNat ≤ 281474976710656
 rotate_left
 ·rw [if_neg c6] at H;cases H
 rw [if_pos c6] at H;have c6b0 := eq_true c6;have c6b1 := decide_eq_true c6;clear c6;replace H := zY H;obtain ⟨y359, Ny359, H⟩ := H;have H' := qa.mk H;clear H;go_enter Tryz.func122, Tryz.ntmps122;go_wp2_with (first | ((with_reducible refine Va (f := 137) rfl ?_); refine zl 11 Tryz.func137 #[.int .i64 a0] ?_; (with_reducible refine (Gi.calls a0 t358 _ A3.out).mono ?_); rintro e w' ⟨rfl, ⟨nd, rfl⟩⟩; refine ⟨_, rfl, ?_⟩) | ((with_reducible refine Ma (N := 13) rfl ?_); refine Kd.R_make Kd.bool _ 4 rfl (N := 13) rfl 60 _ _ rfl ji4 rfl rfl Tryz.underlying60 (.bool false) 1 SH rfl (by decide) (by omega) false (ok := fun _ => True) (okp := fun _ => True) rfl (fun _ hk => hk) trivial (zk) (Nat.le_trans (Nat.mul_le_mul_right _ (zk : ji4.toNat ≤ 281474976710656)) (by omega)) (Below.refl _ _) (Nat.le_refl _) ?_; intro v360 w7 ho8 hb hg_ hnew_; clear hg_ hnew_; (first | rw [← Ny359.out] at ho8 | (simp only [Int.reduceToNat] at ho8; rw [← Ny359.out] at ho8)); have HO361 := qa.mk (Kd.R_lower ho8 (Ua (zh HB.out))); replace HB := zH hb HB; clear hb ho8; obtain ⟨Ao9, co9, eo9⟩ := Kd.R_slice HO361.out; subst eo9));go_loopg [16] k (fun kq v16 w' => ∃ (x5_1 : List Bool) (x16_1 : Int), v16 = .int .i64 x16_1 ∧ qa (Ec.l0 kq l1 x5_1 (y359.length : Int) x16_1 = some r) ∧ qa (kq ≤ k) ∧ qa (Kd.R Kd.bool 4 w' w.heap.size (fun _ => True) (.slice Ao9 y359.length co9) x5_1) ∧ qa (Below w.heap.size w w'));case atStart => exact ⟨(y359), (0), zE, H', ⟨Nat.le_refl _⟩, ⟨zr HO361.out⟩, ⟨zh HB.out⟩⟩
 case round =>
  clear H';try clear c1
  try clear p2
  try clear c5
  try clear c5b0
  try clear c5b1
  try clear c6
  try clear c6b0
  try clear c6b1
  try clear p6
  obtain ⟨x5_1, x16_1, rfl, HA, HK1, HO_5, HB⟩ := hrel;have hl5_1 := (Kd.R_reads' HO_5.out).1;rw [hl5_1] at HO_5;(try simp only [hl5_1])
  cases gk with
  | zero => exact absurd HA.out (by simp [Ec.l0])
  | succ k1 =>
   have H := HA.out;clear HA;simp only [Ec.l0] at H;by_cases c10 : x16_1 < (y359.length : Int)
   rotate_left
   ·rw [if_neg c10] at H;have c10b0 := decide_eq_false c10;(try simp only [hl5_2] at c10b0)
    (try simp only [hl5_1] at c10b0)
    clear c10;obtain rfl := Option.some.inj H;go_wp2;go_ret;exact ⟨_, by first | rfl | (simp [Ce, De] <;> rfl) | (simp only [← hji4]; first | rfl | (simp [Ce, De] <;> rfl)) | (simp [*, Ce, De] <;> rfl), by (with_reducible repeat (first | apply Kd.R_alloc | apply Kd.R_drewN | apply Kd.R_drew)); exact HO_5.out, zh HB.out⟩
   rw [if_pos c10] at H;have c10b0 := decide_eq_true c10;(try simp only [hl5_1] at c10b0)
   clear c10;have H' := qa.mk H;clear H;go_wp2;go_loopg [21] k1 (fun kq v21 w' => ∃ (x5_2 : List Bool) (x21_2 : Int), v21 = .int .i64 x21_2 ∧ qa (Ec.l1 kq l1 x5_2 x16_1 (y359.length : Int) x16_1 l1 (l1.length : Int) x21_2 = some r) ∧ qa (kq ≤ k1) ∧ qa (Kd.R Kd.bool 4 w' w.heap.size (fun _ => True) (.slice Ao9 x5_1.length co9) x5_2) ∧ qa (Below w.heap.size w w'));case atStart => exact ⟨(x5_1), (0), zE, H', ⟨Nat.le_refl _⟩, ⟨by (try simp only [hl5_1]); (with_reducible repeat (first | apply Kd.R_alloc | apply Kd.R_drewN | apply Kd.R_drew)); exact HO_5.out⟩, ⟨zh HB.out⟩⟩
   case round =>
    clear H';try clear c1
    try clear p2
    try clear c5
    try clear c5b0
    try clear c5b1
    try clear c6
    try clear c6b0
    try clear c6b1
    try clear p6
    try clear c10
    try clear c10b0
    try clear p2
    try clear p6
    obtain ⟨x5_2, x21_2, rfl, HA, HK2, HO_5, HB⟩ := hrel;have hl5_2 := (Kd.R_reads' HO_5.out).1;rw [hl5_2] at HO_5;(try simp only [hl5_2])
    cases gk with
    | zero => exact absurd HA.out (by simp [Ec.l1])
    | succ k2 =>
     have H := HA.out;clear HA;simp only [Ec.l1] at H;by_cases c11 : x21_2 < (l1.length : Int)
     rotate_left
     ·rw [if_neg c11] at H;have c11b0 := decide_eq_false c11;clear c11;have H' := qa.mk H;clear H;go_wp2;(try simp only [← hl5_1, ← hl5_2])
      go_roundg k2;case measure => have := HK1.out; have := HK2.out; omega
      case rel => exact ⟨(x5_2), (wrap64 (x16_1 + 1)), zE, H', zO2 HK1 HK2, ⟨by (try simp only [hl5_1]); (try simp only [hl5_2]); (with_reducible repeat (first | apply Kd.R_alloc | apply Kd.R_drewN | apply Kd.R_drew)); exact HO_5.out⟩, ⟨zh HB.out⟩⟩
     rw [if_pos c11] at H;have c11b0 := decide_eq_true c11;clear c11;by_cases c12 : 0 ≤ x21_2
     rotate_left
     ·rw [if_neg c12] at H;cases H
     rw [if_pos c12] at H;have c12b0 := decide_eq_true c12;clear c12;by_cases c13 : x21_2 < (l1.length : Int)
     rotate_left
     ·rw [if_neg c13] at H;cases H
     rw [if_pos c13] at H;have c13b0 := decide_eq_true c13;clear c13;replace H := zB0 H;obtain ⟨t363, A140, H⟩ := H;have A14 := qa.mk A140;clear A140;by_cases c15 : 0 ≤ x16_1
     rotate_left
     ·rw [if_neg c15] at H;cases H
     rw [if_pos c15] at H;have c15b0 := decide_eq_true c15;clear c15;by_cases c16 : x16_1 < (x5_2.length : Int)
     rotate_left
     ·rw [if_neg c16] at H;cases H
     rw [if_pos c16] at H;have c16b0 := decide_eq_true c16;clear c16;obtain ⟨bq17, hbq17⟩ : ∃ b_ : Bool, b_ = (yf false x5_2 x16_1) := ⟨_, rfl⟩;rw [← hbq17] at H;have Nbq17 := qa.mk hbq17;clear hbq17;by_cases c18 : bq17 = true
     ·subst c18;rw [if_pos rfl] at H;obtain ⟨y365, hy365⟩ : ∃ y_ : List Bool, y_ = (x5_2.set (x16_1 : Int).toNat true) := ⟨_, rfl⟩;rw [← hy365] at H;have Ny365 := qa.mk hy365;clear hy365;have H' := qa.mk H;clear H;obtain ⟨⟨ad362, A362_0, c362_0, e362, hx362_0, hl362_0, hi362_0⟩, p362, q362⟩ := zW (qi HR1.out x21_2);cases e362;replace hx362_0 := zx HB.out hx362_0;have HR362_0 := qa.mk hi362_0;have HC362_0 := qa.mk hl362_0;clear hi362_0 hl362_0;go_wp2_with (first | ((with_reducible refine Va (f := 119) rfl ?_); refine zl 26 Tryz.func119 #[.slice A362_0 (Bd l1 x21_2).length c362_0] ?_; (with_reducible refine (Qd.calls k2 _ _ (Bd l1 x21_2) t363 _ ?side1 ?side2 A14.out).mono ?_); (case side1 => exact zQ (Kd.C_below HR362_0.out HB.out)); (case side2 => exact HC362_0.out); rintro e w' ⟨rfl, ⟨nd, rfl⟩⟩; refine ⟨_, rfl, ?_⟩; (try (rw [Xl wr]; generalize hq_ : World.drewN wr _ = wr; have n0_ : qa (Kd.R Kd.bool 4 wr w.heap.size (fun _ => True) (.slice Ao9 x5_2.length co9) x5_2) := ⟨by rw [← hq_]; exact (zr HO_5.out)⟩; have n1_ : qa (Below w.heap.size w wr) := ⟨by rw [← hq_]; exact (zh HB.out)⟩; clear HO_5 HB hq_; have HO_5 := n0_; have HB := n1_; clear n0_ n1_)); have p364 : 0 ≤ (x16_1 : Int) := zk; have q364 : x16_1 < (x5_2.length : Int) := zk; obtain ⟨ad364, e364, hx364_0⟩ := Kd.at_bool (Kd.R_reads' HO_5.out).2.2 x16_1 p364 q364; (try rw [← Nbq17.out] at hx364_0); cases e364; replace p364 := eq_true p364; replace q364 := eq_true q364; have p19 : 0 ≤ (x16_1 : Int) := zk; have q19 : (x16_1 : Int) < ((x5_2.length : Int) : Int) := zk; obtain ⟨go19, co19, eo19, gb19, gl19, cl19, HG19⟩ := Kd.R_form HO_5.out (by omega); (first | cases eo19 | (injection eo19 with ea_ en_ ec_; (first | subst ea_ | (injection ea_ with ea_; subst ea_)); subst ec_; clear en_)); have GB19 := qa.mk gb19; have GG19 := qa.mk HG19; clear gb19 gl19 HG19; (first | simp only [add_plain] at hx364_0 | skip); obtain ⟨hx19_0, hf19_0⟩ := Kd.R_celln false HO_5.out (x16_1 : Int) p19 q19; replace p19 := eq_true p19; replace q19 := eq_true q19; obtain ⟨hy20_, hz20_⟩ := Kd.R_celln false HO_5.out (x16_1 : Int) (zk) (zk); have HP20 := Kd.R_putg HO_5.out (x16_1 : Int) true) | ((with_reducible refine Fh (t := 4) (p := 40) rfl ?_); refine Yh (t := 4) (p := 40) (v := ?vo_w21) (w1 := (wr.setCell ⟨go19, (x16_1 : Int).toNat, none⟩ (.bool true))) ?hg ?ho ?hn ?hr ?_; (case ho => rfl); (case hg => rfl); (case hn => rfl); (case hr => first | (go_simp; done) | (go_simp; rfl)); intro w21 hw; have hg : wr.grownBy w21 (some go19) := (by rw [hw]; exact HP20.2); have hp_ : Kd.R Kd.bool 4 w21 w.heap.size (fun _ => True) (.slice (some ⟨go19, 0, none⟩) x5_2.length co9) y365 := (by rw [hw, Ny365.out]; exact HP20.1); clear HP20; replace HO_5 := qa.mk (hp_); replace HB := qa.mk ((by rw [hw]; exact Re (HB.out) GB19.out : Below w.heap.size w w21)); clear hg hw hp_));(try simp only [← hl5_2])
      go_roundg k2;case measure => have := HK1.out; have := HK2.out; omega
      case rel => exact ⟨(y365), (wrap64 (x21_2 + 1)), zE, H', zO2 HK1 HK2, ⟨by (try simp only [hl5_1]); (try simp only [hl5_2]); (with_reducible repeat (first | apply Kd.R_alloc | apply Kd.R_drewN | apply Kd.R_drew)); exact HO_5.out⟩, ⟨zh HB.out⟩⟩
     replace c18 := Bool.eq_false_iff.mpr c18;subst c18;rw [if_neg zF] at H;obtain ⟨y366, hy366⟩ : ∃ y_ : List Bool, y_ = (x5_2.set (x16_1 : Int).toNat ((Go.bits .and .i64 x16_1 t363) == t363)) := ⟨_, rfl⟩;rw [← hy366] at H;have Ny366 := qa.mk hy366;clear hy366;have H' := qa.mk H;clear H;obtain ⟨⟨ad362, A362_0, c362_0, e362, hx362_0, hl362_0, hi362_0⟩, p362, q362⟩ := zW (qi HR1.out x21_2);cases e362;replace hx362_0 := zx HB.out hx362_0;have HR362_0 := qa.mk hi362_0;have HC362_0 := qa.mk hl362_0;clear hi362_0 hl362_0;go_wp2_with (first | ((with_reducible refine Va (f := 119) rfl ?_); refine zl 26 Tryz.func119 #[.slice A362_0 (Bd l1 x21_2).length c362_0] ?_; (with_reducible refine (Qd.calls k2 _ _ (Bd l1 x21_2) t363 _ ?side1 ?side2 A14.out).mono ?_); (case side1 => exact zQ (Kd.C_below HR362_0.out HB.out)); (case side2 => exact HC362_0.out); rintro e w' ⟨rfl, ⟨nd, rfl⟩⟩; refine ⟨_, rfl, ?_⟩; (try (rw [Xl wr]; generalize hq_ : World.drewN wr _ = wr; have n0_ : qa (Kd.R Kd.bool 4 wr w.heap.size (fun _ => True) (.slice Ao9 x5_2.length co9) x5_2) := ⟨by rw [← hq_]; exact (zr HO_5.out)⟩; have n1_ : qa (Below w.heap.size w wr) := ⟨by rw [← hq_]; exact (zh HB.out)⟩; clear HO_5 HB hq_; have HO_5 := n0_; have HB := n1_; clear n0_ n1_)); have p364 : 0 ≤ (x16_1 : Int) := zk; have q364 : x16_1 < (x5_2.length : Int) := zk; obtain ⟨ad364, e364, hx364_0⟩ := Kd.at_bool (Kd.R_reads' HO_5.out).2.2 x16_1 p364 q364; (try rw [← Nbq17.out] at hx364_0); cases e364; replace p364 := eq_true p364; replace q364 := eq_true q364; have p22 : 0 ≤ (x16_1 : Int) := zk; have q22 : (x16_1 : Int) < ((x5_2.length : Int) : Int) := zk; obtain ⟨go22, co22, eo22, gb22, gl22, cl22, HG22⟩ := Kd.R_form HO_5.out (by omega); (first | cases eo22 | (injection eo22 with ea_ en_ ec_; (first | subst ea_ | (injection ea_ with ea_; subst ea_)); subst ec_; clear en_)); have GB22 := qa.mk gb22; have GG22 := qa.mk HG22; clear gb22 gl22 HG22; (first | simp only [add_plain] at hx364_0 | skip); obtain ⟨hx22_0, hf22_0⟩ := Kd.R_celln false HO_5.out (x16_1 : Int) p22 q22; replace p22 := eq_true p22; replace q22 := eq_true q22; obtain ⟨hy23_, hz23_⟩ := Kd.R_celln false HO_5.out (x16_1 : Int) (zk) (zk); have HP23 := Kd.R_putg HO_5.out (x16_1 : Int) ((Go.bits .and .i64 x16_1 t363) == t363)) | ((with_reducible refine Fh (t := 4) (p := 40) rfl ?_); refine Yh (t := 4) (p := 40) (v := ?vo_w24) (w1 := (wr.setCell ⟨go22, (x16_1 : Int).toNat, none⟩ (.bool ((Go.bits .and .i64 x16_1 t363) == t363)))) ?hg ?ho ?hn ?hr ?_; (case ho => rfl); (case hg => rfl); (case hn => rfl); (case hr => first | (go_simp; done) | (go_simp; rfl)); intro w24 hw; have hg : wr.grownBy w24 (some go22) := (by rw [hw]; exact HP23.2); have hp_ : Kd.R Kd.bool 4 w24 w.heap.size (fun _ => True) (.slice (some ⟨go22, 0, none⟩) x5_2.length co9) y366 := (by rw [hw, Ny366.out]; exact HP23.1); clear HP23; replace HO_5 := qa.mk (hp_); replace HB := qa.mk ((by rw [hw]; exact Re (HB.out) GB22.out : Below w.heap.size w w24)); clear hg hw hp_));(try simp only [← hl5_2])
     go_roundg k2;case measure => have := HK1.out; have := HK2.out; omega
     case rel => exact ⟨(y366), (wrap64 (x21_2 + 1)), zE, H', zO2 HK1 HK2, ⟨by (try simp only [hl5_1]); (try simp only [hl5_2]); (with_reducible repeat (first | apply Kd.R_alloc | apply Kd.R_drewN | apply Kd.R_drew)); exact HO_5.out⟩, ⟨zh HB.out⟩⟩
def Be.f (k : Nat) (a0_0 : Int) (l0_1 : List (List Int)) : Option (List Bool) := (Ec.f k a0_0 l0_1).bind fun t368 => (some t368)
theorem Be.calls (k : Nat) (a0_0 : Int) (A0_1 : Option Addr) (c0_1 : Nat) (l0_1 : List (List Int)) (r : List Bool) (w : World) (hr0_1 : Kd.C (Kd.slice 3 (Kd.int .i64)) w A0_1 l0_1.length l0_1) (hc0_1 : l0_1.length ≤ c0_1) (h : Be.f k a0_0 l0_1 = some r) :
 Calls Tryz.prog 67 #[.agg #[.int .i64 a0_0, .slice A0_1 l0_1.length c0_1]] w fun e w' => ∃ v0_ : Value, e = .returned (v0_) ∧ Kd.R Kd.bool 4 w' w.heap.size (fun _ => True) v0_ r ∧ Below w.heap.size w w' := by
 have hu24 := Tryz.underlying24;have HR0_1 := qa.mk hr0_1;have HC0_1 := qa.mk hc0_1;clear hr0_1 hc0_1;have HB := qa.mk (Below.refl w.heap.size w);have H : ((Ec.f k a0_0 l0_1).bind fun t368 => (some t368)) = some r := h;clear h;replace H := zB0 H;obtain ⟨t368, A20, H⟩ := H;have A2 := qa.mk A20;clear A20;obtain rfl := Option.some.inj H;go_enter Tryz.func67, Tryz.ntmps67;go_wp2_with (first | ((with_reducible refine Ma (N := 1) rfl ?_); refine zq 1 #[.int .i64 a0_0, .slice A0_1 l0_1.length c0_1] 24 ?_; intro gb367 hg w3 hbox hb; have GW367 := zG hg HB; replace HB := zH hb HB; have BK367 := qa.mk hbox; have GE367 := GW367; clear hb hbox hg; obtain ⟨hcz4_0, hcz4_1, hfz4_0, hfz4_1⟩ := zC2 BK367) | ((with_reducible refine Va (f := 122) rfl ?_); refine zl 7 Tryz.func122 #[.int .i64 a0_0, .slice A0_1 l0_1.length c0_1] ?_; (with_reducible refine (Ec.calls k a0_0 _ _ l0_1 t368 _ ?side1 ?side2 A2.out).mono ?_); (case side1 => exact zQ (Kd.C_below HR0_1.out HB.out)); (case side2 => exact HC0_1.out); rintro e w5 ⟨v369, rfl, ho0, hb⟩; refine ⟨_, rfl, ?_⟩; have HO370 := qa.mk (Kd.R_lower ho0 (Ua (zh HB.out))); replace BK367 := zK BK367 hb; replace HB := zH hb HB; clear hb; (try clear ho0)));go_ret;exact ⟨_, zL0, by (with_reducible repeat (first | apply Kd.R_alloc | apply Kd.R_drewN | apply Kd.R_drew)); exact HO370.out, zh HB.out⟩
def Sc.l0 : Nat → List Bool → Int → Int → Int → Int → Option (Bool)
 | 0, _, _, _, _, _ => none
 | k + 1, x0, x1, x2, x9, x10 => if x10 < x9 then (if 0 ≤ x1 then (if (Int.tmod (shr .i64 x10 x1) 2) = 0 then (if 0 ≤ x2 then (if (Int.tmod (shr .i64 x10 x2) 2) = 0 then (if 0 ≤ (wrap64 (x10 + (shl .i64 1 x2))) then (if (wrap64 (x10 + (shl .i64 1 x2))) < (x0.length : Int) then (if yf false x0 (wrap64 (x10 + (shl .i64 1 x2))) = true then (if 0 ≤ (wrap64 (x10 + (shl .i64 1 x1))) then (if (wrap64 (x10 + (shl .i64 1 x1))) < (x0.length : Int) then (if (yf false x0 (wrap64 (x10 + (shl .i64 1 x1))) = true) then (Sc.l0 k x0 x1 x2 x9 (wrap64 (x10 + 1))) else (some false)) else (none)) else (none)) else (Sc.l0 k x0 x1 x2 x9 (wrap64 (x10 + 1)))) else (none)) else (none)) else (Sc.l0 k x0 x1 x2 x9 (wrap64 (x10 + 1)))) else (none)) else (Sc.l0 k x0 x1 x2 x9 (wrap64 (x10 + 1)))) else (none)) else (some true)
def Sc.f (k : Nat) (l0 : List Bool) (a1 : Int) (a2 : Int) : Option (Bool) := Sc.l0 k l0 a1 a2 (l0.length : Int) 0
theorem Sc.calls (k : Nat) (A0 : Option Addr) (c0 : Nat) (l0 : List Bool) (a1 : Int) (a2 : Int) (r : Bool) (w : World) (hr0 : Kd.C Kd.bool w A0 l0.length l0) (hc0 : l0.length ≤ c0) (h : Sc.f k l0 a1 a2 = some r) :
 Calls Tryz.prog 158 #[.slice A0 l0.length c0, .int .i64 a1, .int .i64 a2] w fun e w' => e = .returned (.bool r) ∧ Jd w w' := by
 have HR0 := qa.mk hr0;have HC0 := qa.mk hc0;clear hr0 hc0;have H : (Sc.l0 k l0 a1 a2 (l0.length : Int) 0) = some r := h;clear h;have H' := qa.mk H;clear H;go_enter Tryz.func158, Tryz.ntmps158;go_wp2;go_loopg [10] k (fun kq v10 w' => ∃ (x10_1 : Int), v10 = .int .i64 x10_1 ∧ qa (Sc.l0 kq l0 a1 a2 (l0.length : Int) x10_1 = some r) ∧ qa (kq ≤ k) ∧ Jd w w');case atStart => exact ⟨(0), zE, H', ⟨Nat.le_refl _⟩, zD⟩
 case round =>
  clear H';try clear c1
  try clear p2
  obtain ⟨x10_1, rfl, HA, HK1, ⟨m1, rfl⟩⟩ := hrel;cases gk with
  | zero => exact absurd HA.out (by simp [Sc.l0])
  | succ k1 =>
   have H := HA.out;clear HA;simp only [Sc.l0] at H;by_cases c4 : x10_1 < (l0.length : Int)
   rotate_left
   ·rw [if_neg c4] at H;have c4b0 := decide_eq_false c4;clear c4;obtain rfl := Option.some.inj H;go_wp2;go_ret;exact za1
   rw [if_pos c4] at H;have c4b0 := decide_eq_true c4;clear c4;by_cases c5 : 0 ≤ a1
   rotate_left
   ·rw [if_neg c5] at H;cases H
   rw [if_pos c5] at H;have c5b0 := eq_true c5;have c5b1 := decide_eq_true c5;clear c5;obtain ⟨ji6, hji6⟩ : ∃ j_ : Int, (shr .i64 x10_1 a1) = j_ := ⟨_, rfl⟩;rw [hji6] at H;obtain ⟨hji6_, hji6z⟩ := zI hji6;by_cases c7 : (Int.tmod (ji6) 2) = 0
   rotate_left
   ·rw [if_neg c7] at H;have c7b0 := beq_eq_false_iff_ne.mpr c7;have c7b1 := bne_iff_ne.mpr c7;have H' := qa.mk H;clear H;go_wp2;go_roundg k1;case measure => have := HK1.out; omega
    case rel => exact ⟨(wrap64 (x10_1 + 1)), zE, H', zO HK1, zD⟩
   rw [if_pos c7] at H;have c7b0 := beq_iff_eq.mpr c7;have c7b1 := bne_eq_false_iff_eq.mpr c7;clear c7;by_cases c8 : 0 ≤ a2
   rotate_left
   ·rw [if_neg c8] at H;cases H
   rw [if_pos c8] at H;have c8b0 := eq_true c8;have c8b1 := decide_eq_true c8;clear c8;obtain ⟨ji9, hji9⟩ : ∃ j_ : Int, (shr .i64 x10_1 a2) = j_ := ⟨_, rfl⟩;rw [hji9] at H;obtain ⟨hji9_, hji9z⟩ := zI hji9;by_cases c10 : (Int.tmod (ji9) 2) = 0
   rotate_left
   ·rw [if_neg c10] at H;have c10b0 := beq_eq_false_iff_ne.mpr c10;have c10b1 := bne_iff_ne.mpr c10;have H' := qa.mk H;clear H;go_wp2;go_roundg k1;case measure => have := HK1.out; omega
    case rel => exact ⟨(wrap64 (x10_1 + 1)), zE, H', zO HK1, zD⟩
   rw [if_pos c10] at H;have c10b0 := beq_iff_eq.mpr c10;have c10b1 := bne_eq_false_iff_eq.mpr c10;clear c10;have c11b0 := eq_true (zk : 0 ≤ a2);obtain ⟨ji12, hji12⟩ : ∃ j_ : Int, (shl .i64 1 a2) = j_ := ⟨_, rfl⟩;rw [hji12] at H;obtain ⟨hji12_, hji12z, hji12u, hji12v, hji12y, hji12x⟩ := zJ1 hji12;obtain ⟨ji13, hji13⟩ : ∃ j_ : Int, (wrap64 (x10_1 + (ji12))) = j_ := ⟨_, rfl⟩;rw [hji13] at H;have hji13w := (Ff _).trans hji13;by_cases c14 : 0 ≤ (ji13)
   rotate_left
   ·rw [if_neg c14] at H;cases H
   rw [if_pos c14] at H;have c14b0 := decide_eq_true c14;clear c14;by_cases c15 : (ji13) < (l0.length : Int)
   rotate_left
   ·rw [if_neg c15] at H;cases H
   rw [if_pos c15] at H;have c15b0 := decide_eq_true c15;clear c15;obtain ⟨bq16, hbq16⟩ : ∃ b_ : Bool, b_ = (yf false l0 (ji13)) := ⟨_, rfl⟩;rw [← hbq16] at H;have Nbq16 := qa.mk hbq16;clear hbq16;by_cases c17 : bq16 = true
   rotate_left
   ·replace c17 := Bool.eq_false_iff.mpr c17;subst c17;rw [if_neg zF] at H;have H' := qa.mk H;clear H;obtain ⟨⟨ad378, e378, hx378_0⟩, p378, q378⟩ := zW (Kd.at_bool HR0.out (ji13));(try rw [← Nbq16.out] at hx378_0)
    cases e378;go_wp2;go_roundg k1;case measure => have := HK1.out; omega
    case rel => exact ⟨(wrap64 (x10_1 + 1)), zE, H', zO HK1, zD⟩
   subst c17;rw [if_pos rfl] at H;have c18b0 := eq_true (zk : 0 ≤ a1);obtain ⟨ji19, hji19⟩ : ∃ j_ : Int, (shl .i64 1 a1) = j_ := ⟨_, rfl⟩;rw [hji19] at H;obtain ⟨hji19_, hji19z, hji19u, hji19v, hji19y, hji19x⟩ := zJ1 hji19;obtain ⟨ji20, hji20⟩ : ∃ j_ : Int, (wrap64 (x10_1 + (ji19))) = j_ := ⟨_, rfl⟩;rw [hji20] at H;have hji20w := (Ff _).trans hji20;by_cases c21 : 0 ≤ (ji20)
   rotate_left
   ·rw [if_neg c21] at H;cases H
   rw [if_pos c21] at H;have c21b0 := decide_eq_true c21;clear c21;by_cases c22 : (ji20) < (l0.length : Int)
   rotate_left
   ·rw [if_neg c22] at H;cases H
   rw [if_pos c22] at H;have c22b0 := decide_eq_true c22;clear c22;obtain ⟨bq23, hbq23⟩ : ∃ b_ : Bool, b_ = (yf false l0 (ji20)) := ⟨_, rfl⟩;rw [← hbq23] at H;have Nbq23 := qa.mk hbq23;clear hbq23;by_cases c24 : (bq23 = true)
   rotate_left
   ·replace c24 := Bool.eq_false_iff.mpr c24;subst c24;rw [if_neg zF] at H;obtain rfl := Option.some.inj H;obtain ⟨⟨ad378, e378, hx378_0⟩, p378, q378⟩ := zW (Kd.at_bool HR0.out (ji13));(try rw [← Nbq16.out] at hx378_0)
    (try rw [← Nbq23.out] at hx378_0)
    cases e378;obtain ⟨⟨ad379, e379, hx379_0⟩, p379, q379⟩ := zW (Kd.at_bool HR0.out (ji20));(try rw [← Nbq16.out] at hx379_0)
    (try rw [← Nbq23.out] at hx379_0)
    obtain rfl : ad378 = ad379 := (by injection e379);go_wp2;go_ret;exact ⟨by first | rfl | (simp; done) | (simp only [← hji6, ← hji9, ← hji12, ← hji13, ← hji19, ← hji20] <;> (first | rfl | simp)) | (simp [*]; done), by repeat (first | exact Jd.refl _ | apply Jd.step)⟩
   subst c24;rw [if_pos rfl] at H;have H' := qa.mk H;clear H;obtain ⟨⟨ad378, e378, hx378_0⟩, p378, q378⟩ := zW (Kd.at_bool HR0.out (ji13));(try rw [← Nbq16.out] at hx378_0)
   (try rw [← Nbq23.out] at hx378_0)
   cases e378;obtain ⟨⟨ad379, e379, hx379_0⟩, p379, q379⟩ := zW (Kd.at_bool HR0.out (ji20));(try rw [← Nbq16.out] at hx379_0)
   (try rw [← Nbq23.out] at hx379_0)
   obtain rfl : ad378 = ad379 := (by injection e379);go_wp2;go_roundg k1;case measure => have := HK1.out; omega
   case rel => exact ⟨(wrap64 (x10_1 + 1)), zE, H', zO HK1, zD⟩
def Ng.f (k : Nat) (l0 : List Bool) (a1 : Int) (a2 : Int) : Option (Bool) := (Sc.f k l0 a1 a2).bind fun t380 => (if t380 = true then (some false) else ((Sc.f k l0 a2 a1).bind fun t381 => (some (!t381))))
theorem Ng.calls (k : Nat) (A0 : Option Addr) (c0 : Nat) (l0 : List Bool) (a1 : Int) (a2 : Int) (r : Bool) (w : World) (hr0 : Kd.C Kd.bool w A0 l0.length l0) (hc0 : l0.length ≤ c0) (h : Ng.f k l0 a1 a2 = some r) :
 Calls Tryz.prog 123 #[.slice A0 l0.length c0, .int .i64 a1, .int .i64 a2] w fun e w' => e = .returned (.bool r) ∧ Jd w w' := by
 have HR0 := qa.mk hr0;have HC0 := qa.mk hc0;clear hr0 hc0;have H : ((Sc.f k l0 a1 a2).bind fun t380 => (if t380 = true then (some false) else ((Sc.f k l0 a2 a1).bind fun t381 => (some (!t381))))) = some r := h;clear h;replace H := zB0 H;obtain ⟨t380, A40, H⟩ := H;have A4 := qa.mk A40;clear A40;by_cases c5 : t380 = true
 ·subst c5;rw [if_pos rfl] at H;obtain rfl := Option.some.inj H;go_enter Tryz.func123, Tryz.ntmps123;go_wp2_with (first | ((with_reducible refine Va (f := 158) rfl ?_); refine zl 10 Tryz.func158 #[.slice A0 l0.length c0, .int .i64 a1, .int .i64 a2] ?_; (with_reducible refine (Sc.calls k _ _ l0 a1 a2 true _ ?side1 ?side2 A4.out).mono ?_); (case side1 => exact zQ HR0.out); (case side2 => exact HC0.out); rintro e w' ⟨rfl, ⟨nd, rfl⟩⟩; refine ⟨_, rfl, ?_⟩));go_ret;exact za1
 replace c5 := Bool.eq_false_iff.mpr c5;subst c5;rw [if_neg zF] at H;replace H := zB0 H;obtain ⟨t381, A60, H⟩ := H;have A6 := qa.mk A60;clear A60;obtain rfl := Option.some.inj H;go_enter Tryz.func123, Tryz.ntmps123;go_wp2_with (first | ((with_reducible refine Va (f := 158) rfl ?_); refine zl 10 Tryz.func158 #[.slice A0 l0.length c0, .int .i64 a1, .int .i64 a2] ?_; (with_reducible refine (Sc.calls k _ _ l0 a1 a2 false _ ?side1 ?side2 A4.out).mono ?_); (case side1 => exact zQ HR0.out); (case side2 => exact HC0.out); rintro e w' ⟨rfl, ⟨nd, rfl⟩⟩; refine ⟨_, rfl, ?_⟩) | (go_at_call 158; (with_reducible refine (Sc.calls k _ _ l0 a2 a1 t381 _ ?side1 ?side2 A6.out).mono ?_); (case side1 => exact zQ HR0.out); (case side2 => exact HC0.out); rintro e w' ⟨rfl, ⟨nd, rfl⟩⟩));go_ret;exact za1
end Go.Proofs.YtodchjdgpnpdcaaGreat.Q
end

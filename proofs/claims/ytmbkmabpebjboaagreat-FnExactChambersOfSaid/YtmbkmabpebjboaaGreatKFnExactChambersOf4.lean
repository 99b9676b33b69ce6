/- Part 4 of the proof of FnExactChambersOf: what it leans on (no condition). -/
import Derived.Test.YtmbkmabpebjboaaGreatKFnExactChambersOf3
import Derived.Shelf.SlSortCmp.WholeK
import Derived.Lib.LazyBuf
section
namespace Go.Proofs.YtmbkmabpebjboaaGreat.Q
open Go.RowKit Go.Proofs.YtmbkmabpebjboaaGreatW.PrintWords Go.Proofs.YtmbkmabpebjboaaGreatW.PrintLast Go.Proofs.YtmbkmabpebjboaaGreatW.PrintMore
attribute [local go_sem] max2_int min2_int max_two min_two max_three min_three max_four min_four
set_option linter.unusedVariables false
set_option linter.unusedSimpArgs false
section
variable (a1 : Int → Int → Int → Int → Option Bool)
mutual
def impl_votes_firstOfTwo.l0 : Nat → List Int → List Int → Int → Int → Int → List Bool → Option ((List (List Int)) × (List (List Int)) × Bool)
 | 0, _, _, _, _, _, _ => none
 | k + 1, x6, x16, x17, x18, x386000, x386001 => if x18 < x17 then (if 0 ≤ x18 then (if x18 < (x16.length : Int) then (if x18 ≤ (x6.length : Int) then ((some (x6.drop (x18 : Int).toNat : List Int)).bind fun y391 => (impl_votes_firstOfTwo.l1 k x6 (rd x16 x18) x16 x17 x18 y391 (y391.length : Int) 0 x386000 x386001)) else (none)) else (none)) else (none)) else (some (([] : List (List Int)), ([] : List (List Int)), false))
def impl_votes_firstOfTwo.l1 : Nat → List Int → Int → List Int → Int → Int → List Int → Int → Int → Int → List Bool → Option ((List (List Int)) × (List (List Int)) × Bool)
 | 0, _, _, _, _, _, _, _, _, _, _ => none
 | k + 1, x6, x8, x16, x17, x18, x25, x26, x27, x386000, x386001 => if x27 < x26 then (if 0 ≤ x27 then (if x27 < (x25.length : Int) then (if 0 ≤ x8 then (if x8 < (x386001.length : Int) then (if rdOf false x386001 x8 = true then (if 0 ≤ (rd x25 x27) then (if (rd x25 x27) < (x386001.length : Int) then (impl_votes_firstOfTwo.j2 k x6 x8 (rd x25 x27) x16 x17 x18 x25 x26 x27 (!(rdOf false x386001 (rd x25 x27))) x386000 x386001) else (none)) else (none)) else (impl_votes_firstOfTwo.j2 k x6 x8 (rd x25 x27) x16 x17 x18 x25 x26 x27 true x386000 x386001)) else (none)) else (none)) else (none)) else (none)) else (impl_votes_firstOfTwo.l0 k x6 x16 x17 (wrap64 (x18 + 1)) x386000 x386001)
def impl_votes_firstOfTwo.j2 : Nat → List Int → Int → Int → List Int → Int → Int → List Int → Int → Int → Bool → Int → List Bool → Option ((List (List Int)) × (List (List Int)) × Bool)
 | 0, _, _, _, _, _, _, _, _, _, _, _, _ => none
 | k + 1, x6, x8, x10, x16, x17, x18, x25, x26, x27, x44, x386000, x386001 => if x44 = true then (impl_votes_firstOfTwo.l1 k x6 x8 x16 x17 x18 x25 x26 (wrap64 (x27 + 1)) x386000 x386001) else (impl_votes_firstOfTwo.l2 k x6 x8 x10 x16 x17 x18 x25 x26 x27 x6 (x6.length : Int) 0 x386000 x386001)
def impl_votes_firstOfTwo.l2 : Nat → List Int → Int → Int → List Int → Int → Int → List Int → Int → Int → List Int → Int → Int → Int → List Bool → Option ((List (List Int)) × (List (List Int)) × Bool)
 | 0, _, _, _, _, _, _, _, _, _, _, _, _, _, _ => none
 | k + 1, x6, x8, x10, x16, x17, x18, x25, x26, x27, x45, x46, x47, x386000, x386001 => if x47 < x46 then (if 0 ≤ x47 then (if x47 < (x45.length : Int) then (if 0 ≤ (rd x45 x47) then (if (rd x45 x47) < (x386001.length : Int) then (if rdOf false x386001 (rd x45 x47) = true then (impl_votes_firstOfTwo.j4 k x6 x8 x10 x47 (rd x45 x47) x16 x17 x18 x25 x26 x27 x45 x46 x47 true x386000 x386001) else (if (Go.bits .and .i64 (rd x45 x47) (Go.bits .and .i64 x8 x10)) = (Go.bits .and .i64 x8 x10) then (impl_votes_firstOfTwo.j4 k x6 x8 x10 x47 (rd x45 x47) x16 x17 x18 x25 x26 x27 x45 x46 x47 ((Go.bits .andNot .i64 (rd x45 x47) (Go.bits .or .i64 x8 x10)) != 0) x386000 x386001) else (impl_votes_firstOfTwo.j4 k x6 x8 x10 x47 (rd x45 x47) x16 x17 x18 x25 x26 x27 x45 x46 x47 true x386000 x386001))) else (none)) else (none)) else (none)) else (none)) else (impl_votes_firstOfTwo.l1 k x6 x8 x16 x17 x18 x25 x26 (wrap64 (x27 + 1)) x386000 x386001)
def impl_votes_firstOfTwo.j4 : Nat → List Int → Int → Int → Int → Int → List Int → Int → Int → List Int → Int → Int → List Int → Int → Int → Bool → Int → List Bool → Option ((List (List Int)) × (List (List Int)) × Bool)
 | 0, _, _, _, _, _, _, _, _, _, _, _, _, _, _, _, _, _ => none
 | k + 1, x6, x8, x10, x11, x12, x16, x17, x18, x25, x26, x27, x45, x46, x47, x75, x386000, x386001 => if x75 = true then (impl_votes_firstOfTwo.l2 k x6 x8 x10 x16 x17 x18 x25 x26 x27 x45 x46 (wrap64 (x47 + 1)) x386000 x386001) else (if 0 ≤ (Go.bits .or .i64 (Go.bits .and .i64 x8 x10) (Go.bits .andNot .i64 (Go.bits .or .i64 x8 x10) x12)) then (if (Go.bits .or .i64 (Go.bits .and .i64 x8 x10) (Go.bits .andNot .i64 (Go.bits .or .i64 x8 x10) x12)) < (x386001.length : Int) then (if (rdOf false x386001 (Go.bits .or .i64 (Go.bits .and .i64 x8 x10) (Go.bits .andNot .i64 (Go.bits .or .i64 x8 x10) x12)) = true) then (impl_votes_firstOfTwo.l2 k x6 x8 x10 x16 x17 x18 x25 x26 x27 x45 x46 (wrap64 (x47 + 1)) x386000 x386001) else (if 0 ≤ x11 then (if x11 ≤ (x6.length : Int) then ((slices_Contains_int_int.f k (x6.drop (x11 : Int).toNat) (Go.bits .or .i64 (Go.bits .and .i64 x8 x10) (Go.bits .andNot .i64 (Go.bits .or .i64 x8 x10) x12))).bind fun t405 => (if t405 = true then ((a1 x8 x10 x12 (Go.bits .or .i64 (Go.bits .and .i64 x8 x10) (Go.bits .andNot .i64 (Go.bits .or .i64 x8 x10) x12))).bind fun t406 => (if t406 = true then ((impl_pairs.f k (([x8, x10] : List Int)) (([x12, Go.bits .or .i64 (Go.bits .and .i64 x8 x10) (Go.bits .andNot .i64 (Go.bits .or .i64 x8 x10) x12)] : List Int))).bind fun bt413 => (some (bt413.1, bt413.2, true))) else (impl_votes_firstOfTwo.l2 k x6 x8 x10 x16 x17 x18 x25 x26 x27 x45 x46 (wrap64 (x47 + 1)) x386000 x386001))) else (impl_votes_firstOfTwo.l2 k x6 x8 x10 x16 x17 x18 x25 x26 x27 x45 x46 (wrap64 (x47 + 1)) x386000 x386001))) else (none)) else (none))) else (none)) else (none))
end
def impl_votes_firstOfTwo.f (k : Nat) (a0_0 : Int) (l0_1 : List Bool) (a1 : Int → Int → Int → Int → Option Bool) : Option ((List (List Int)) × (List (List Int)) × Bool) := (impl_votes_ordered.f k a0_0 l0_1).bind fun t387 => (impl_votes_firstOfTwo.l0 a1 k t387 t387 (t387.length : Int) 0 a0_0 l0_1)
set_option maxHeartbeats 8000000 in
set_option maxRecDepth 100000 in
theorem impl_votes_firstOfTwo.calls (k : Nat) (a0_0 : Int) (A0_1 : Option Addr) (c0_1 : Nat) (l0_1 : List Bool) (a1 : Int → Int → Int → Int → Option Bool) (g_ : Nat) (fa_ lb_ : Array Value) (eg_ : ∀ args w, (callFunc g_ args).run Tryz.prog w = .ok (.enter g_ args) w) (r1 : List (List Int)) (r2 : List (List Int)) (r3 : Bool) (w : World) (hp0_ : PredI4 Tryz.prog g_ fa_ lb_ w a1) (hr0_1 : Kd.C Kd.bool w A0_1 l0_1.length l0_1) (hc0_1 : l0_1.length ≤ c0_1) (h : impl_votes_firstOfTwo.f k a0_0 l0_1 a1 = some (r1, r2, r3)) :
  Calls Tryz.prog 103 #[.agg #[.int .i64 a0_0, .slice A0_1 l0_1.length c0_1], .func (.func g_) fa_ lb_] w fun e w' => ∃ v0_ v1_ : Value, e = .returned (.tuple #[.agg #[v0_, v1_], .bool r3]) ∧ ∃ ow_ : Nat → Bool, Kd.S (Kd.slice 3 (Kd.int .i64)) 65 w' w.heap.size (fun k_ => ow_ k_ = true) v0_ r1 ∧ Kd.S (Kd.slice 3 (Kd.int .i64)) 65 w' w.heap.size (fun k_ => ow_ k_ = false) v1_ r2 ∧ Below w.heap.size w w' := by
 have hp_ := Aside0.mk hp0_
 clear hp0_
 have hu61 := Tryz.underlying61
 have hu86 := Tryz.underlying86
 have HR0_1 := Aside0.mk hr0_1
 have HC0_1 := Aside0.mk hc0_1
 clear hr0_1 hc0_1
 have HB := Aside0.mk (Below.refl w.heap.size w)
 have H : ((impl_votes_ordered.f k a0_0 l0_1).bind fun t387 => (impl_votes_firstOfTwo.l0 a1 k t387 t387 (t387.length : Int) 0 a0_0 l0_1)) = some (r1, r2, r3) := h
 clear h
 replace H := Option.bind_eq_some_iff.mp H
 obtain ⟨t387, A30, H⟩ := H
 replace H : (impl_votes_firstOfTwo.l0 a1 k t387 t387 (t387.length : Int) 0 a0_0 l0_1) = some (r1, r2, r3) := H
 have A3 := Aside0.mk A30
 clear A30
 have H' := Aside0.mk H
 clear H
 go_enter Tryz.func103, Tryz.ntmps103
 go_wp2_with (first | ((with_reducible refine gate_dst (N := 2) rfl ?_); refine zq 2 #[.int .i64 a0_0, .slice A0_1 l0_1.length c0_1] 61 ?_; intro gb385 hg w4 hbox hb; have GW385 := zG hg HB; replace HB := zH hb HB; have BK385 := Aside0.mk hbox; have GE385 := GW385; clear hb hbox hg) | ((with_reducible refine gate_dst (N := 4) rfl ?_); refine zq 4 #[.slice none 0 0, .slice none 0 0] 86 ?_; intro gb386 hg w5 hbox hb; have BK386 := Aside0.mk hbox; have GW386 := zG hg HB; have GE386 := zG hg HB; have NB385_386 := zNa hg BK385; have NB386_385 := zNb hg BK385; replace BK385 := zK BK385 hb; replace HB := zH hb HB; clear hb hbox hg; have hnb6 := NB385_386.out; have hnc6 := NB386_385.out; obtain ⟨hcz7_0, hcz7_1, hfz7_0, hfz7_1⟩ := zC2 BK385) | ((with_reducible refine gate_callee (f := 132) rfl ?_); refine zl 15 Tryz.func132 #[.agg #[.int .i64 a0_0, .slice A0_1 l0_1.length c0_1]] ?_; (with_reducible refine (impl_votes_ordered.calls k a0_0 _ _ l0_1 t387 _ ?side1 ?side2 A3.out).mono ?_); (case side1 => exact zQ (Kd.C_below HR0_1.out HB.out)); (case side2 => exact HC0_1.out); rintro e w8 ⟨v388, rfl, ho0, hb⟩; refine ⟨_, rfl, ?_⟩; have HO389 := Aside0.mk (Kd.R_lower ho0 (below_size (zh HB.out))); replace BK385 := zK BK385 hb; replace BK386 := zK BK386 hb; replace HB := zH hb HB; clear hb; (try clear ho0); obtain ⟨Ao9, co9, eo9⟩ := Kd.R_slice HO389.out; subst eo9))
 go_loopg [18] k (fun kq v18 w' => ∃ (x18_1 : Int), v18 = .int .i64 x18_1 ∧ Aside0 (impl_votes_firstOfTwo.l0 a1 kq t387 t387 (t387.length : Int) x18_1 a0_0 l0_1 = some (r1, r2, r3)) ∧ Aside0 (kq ≤ k) ∧ Aside0 (Kd.R (Kd.int .i64) 3 w' w.heap.size (fun _ => True) (.slice Ao9 t387.length co9) t387) ∧ Aside0 (Kd.R (Kd.int .i64) 3 w' w.heap.size (fun _ => True) (.slice Ao9 t387.length co9) t387) ∧ Aside0 (w'.heap[gb385]? = some (.cells #[.int .i64 a0_0, (.slice A0_1 l0_1.length c0_1)] 61 (0, 0))) ∧ Aside0 (w'.heap[gb386]? = some (.cells #[(.slice none 0 0), (.slice none 0 0)] 86 (0, 0))) ∧ Aside0 (Below w.heap.size w w'))
 case atStart => exact ⟨(0), zE, H', ⟨Nat.le_refl _⟩, ⟨zr HO389.out⟩, ⟨zr HO389.out⟩, ⟨zb BK385.out⟩, ⟨zb BK386.out⟩, ⟨zh HB.out⟩⟩
 case round =>
  clear H'
  try clear c1
  try clear p2
  try clear c6
  try clear hcz7_0
  try clear hcz7_1
  try clear hfz7_0
  try clear hfz7_1
  obtain ⟨x18_1, rfl, HA, HK1, HO_6, HO_16, BK385, BK386, HB⟩ := hrel
  cases gk with
  | zero => exact absurd HA.out (by simp [impl_votes_firstOfTwo.l0])
  | succ k1 =>
   have H := HA.out
   clear HA
   simp only [impl_votes_firstOfTwo.l0] at H
   by_cases c10 : x18_1 < (t387.length : Int)
   ·rw [if_pos c10] at H
    have c10b0 := decide_eq_true c10
    clear c10
    by_cases c11 : 0 ≤ x18_1
    ·rw [if_pos c11] at H
     have c11b0 := decide_eq_true c11
     clear c11
     by_cases c12 : x18_1 < (t387.length : Int)
     ·rw [if_pos c12] at H
      have c12b0 := decide_eq_true c12
      clear c12
      have c13b0 := eq_true (zk : 0 ≤ x18_1)
      by_cases c14 : x18_1 ≤ (t387.length : Int)
      ·rw [if_pos c14] at H
       have c14b0 := eq_true c14
       have c14b1 := decide_eq_true c14
       clear c14
       replace H := zY H
       obtain ⟨y391, Ny391, H⟩ := H
       have H' := Aside0.mk H
       clear H
       obtain ⟨⟨ad390, e390, hx390_0⟩, p390, q390⟩ := zW (Kd.at_int (Kd.R_reads' HO_16.out).2.2 x18_1)
       cases e390
       have q15 : (x18_1 : Int) ≤ ((t387.length : Int) : Int) := zk
       obtain ⟨i015, hi015, _, hsz15, _⟩ := info_parts info3
       have hroom15 : t387.length ≤ co9 := (Kd.R_reads' HO_6.out).2.1
       have hC15 : Kd.C (Kd.int .i64) _ (some ad390) t387.length t387 := (Kd.R_reads' HO_6.out).2.2
       have q015 : (0 : Int) ≤ (x18_1 : Int) := zk
       have hcut15 := cut_from (P := Tryz.prog) 65 3 .i64 Tryz.underlying65 hi015 1 hsz15 (some ad390) t387.length co9 x18_1 q015 q15
       have hr15 := Kd.C_drop (m := (x18_1 : Int).toNat) (c := co9) hC15 (by omega) hroom15
       obtain ⟨A394, hA15⟩ : ∃ A1, A1 = (if co9 = (x18_1 : Int).toNat then (some ad390) else ((some ad390) : Option Addr).map (·.add ((x18_1 : Int).toNat * 1))) := ⟨_, rfl⟩
       obtain ⟨c15, hc15⟩ : ∃ c1, c1 = co9 - (x18_1 : Int).toNat := ⟨_, rfl⟩
       have hy15 : y391.length = t387.length - (x18_1 : Int).toNat := (by rw [Ny391.out, List.length_drop] <;> omega)
       rw [show (t387).drop (x18_1 : Int).toNat = y391 from Ny391.out.symm] at hr15
       replace hr15 : Kd.C (Kd.int .i64) _ A394 y391.length y391 := (by rw [hA15]; exact hr15)
       rw [← hy15, ← hA15, ← hc15] at hcut15
       have HR394 := Aside0.mk hr15
       have HC394 := Aside0.mk (show y391.length ≤ c15 from by rw [hy15, hc15]; exact Nat.sub_le_sub_right hroom15 _)
       clear hr15 hC15 hroom15 hi015 hsz15 hc15
       have KY15 := Aside0.mk hy15
       have KA15 := Aside0.mk hA15
       clear hy15 hA15
       have KL15 := Aside0.mk (show (x18_1 : Int).toNat ≤ t387.length from by omega)
       replace q15 := eq_true q15
       go_wp2
       go_loopg [27] k1 (fun kq v27 w' => ∃ (x27_2 : Int), v27 = .int .i64 x27_2 ∧ Aside0 (impl_votes_firstOfTwo.l1 a1 kq t387 (rd t387 x18_1) t387 (t387.length : Int) x18_1 y391 (y391.length : Int) x27_2 a0_0 l0_1 = some (r1, r2, r3)) ∧ Aside0 (kq ≤ k1) ∧ Aside0 (Kd.R (Kd.int .i64) 3 w' w.heap.size (fun _ => True) (.slice (some ad390) t387.length co9) t387) ∧ Aside0 (Kd.R (Kd.int .i64) 3 w' w.heap.size (fun _ => True) (.slice (some ad390) t387.length co9) t387) ∧ Aside0 (w'.heap[gb385]? = some (.cells #[.int .i64 a0_0, (.slice A0_1 l0_1.length c0_1)] 61 (0, 0))) ∧ Aside0 (w'.heap[gb386]? = some (.cells #[(.slice none 0 0), (.slice none 0 0)] 86 (0, 0))) ∧ Aside0 (Kd.C (Kd.int .i64) w' A394 y391.length y391) ∧ Aside0 (Below w.heap.size w w'))
       case atStart => exact ⟨(0), zE, H', ⟨Nat.le_refl _⟩, ⟨zr HO_6.out⟩, ⟨zr HO_16.out⟩, ⟨zb BK385.out⟩, ⟨zb BK386.out⟩, ⟨by repeat (first | (with_reducible exact HR394.out) | (with_reducible refine Kd.C_alloc ?_ _) | (with_reducible refine Kd.C_drewN ?_ _) | (with_reducible refine Kd.C_drew ?_) | exact HR394.out)⟩, ⟨zh HB.out⟩⟩
       case round =>
        clear H'
        try clear c1
        try clear q1
        try clear p2
        try clear p3
        try clear q3
        try clear hx3
        try clear c6
        try clear c10
        try clear c10b0
        try clear c11
        try clear c11b0
        try clear c12
        try clear c12b0
        try clear c13
        try clear c13b0
        try clear c14
        try clear c14b0
        try clear c14b1
        try clear c15
        try clear q15
        try clear hcz7_0
        try clear hcz7_1
        try clear hfz7_0
        try clear hfz7_1
        try clear hx390_0
        try clear p2
        try clear p390
        try clear q015
        try clear q15
        try clear q390
        obtain ⟨x27_2, rfl, HA, HK2, HO_6, HO_16, BK385, BK386, HR394, HB⟩ := hrel
        cases gk with
        | zero => exact absurd HA.out (by simp [impl_votes_firstOfTwo.l1])
        | succ k2 =>
         have H := HA.out
         clear HA
         simp only [impl_votes_firstOfTwo.l1] at H
         by_cases c16 : x27_2 < (y391.length : Int)
         ·rw [if_pos c16] at H
          have c16b0 := decide_eq_true c16
          clear c16
          by_cases c17 : 0 ≤ x27_2
          ·rw [if_pos c17] at H
           have c17b0 := decide_eq_true c17
           clear c17
           by_cases c18 : x27_2 < (y391.length : Int)
           ·rw [if_pos c18] at H
            have c18b0 := decide_eq_true c18
            clear c18
            have HC19 := Aside0.mk H
            clear H
            obtain ⟨⟨ad395, e395, hx395_0⟩, p395, q395⟩ := zW (Kd.at_int HR394.out x27_2)
            cases e395
            (try replace hx395_0 := zx HB.out hx395_0)
            go_upto_region 8 with (fail)
            go_cut [44] (fun v44 wc => ∃ (kq : Nat) (x44_18 : Bool), v44 = .bool x44_18 ∧ Aside0 (impl_votes_firstOfTwo.j2 a1 kq t387 (rd t387 x18_1) (rd y391 x27_2) t387 (t387.length : Int) x18_1 y391 (y391.length : Int) x27_2 x44_18 a0_0 l0_1 = some (r1, r2, r3)) ∧ Aside0 (kq ≤ k2) ∧ Aside0 (Kd.R (Kd.int .i64) 3 wc w.heap.size (fun _ => True) (.slice (some ad390) t387.length co9) t387) ∧ Aside0 (Kd.R (Kd.int .i64) 3 wc w.heap.size (fun _ => True) (.slice (some ad390) t387.length co9) t387) ∧ Aside0 (wc.heap[gb385]? = some (.cells #[.int .i64 a0_0, (.slice A0_1 l0_1.length c0_1)] 61 (0, 0))) ∧ Aside0 (wc.heap[gb386]? = some (.cells #[(.slice none 0 0), (.slice none 0 0)] 86 (0, 0))) ∧ Aside0 (Kd.C (Kd.int .i64) wc (some ad395) y391.length y391) ∧ Aside0 (Below w.heap.size w wc))
            case first =>
             have H := HC19.out
             clear HC19
             by_cases c20 : 0 ≤ (rd t387 x18_1)
             ·rw [if_pos c20] at H
              have c20b0 := decide_eq_true c20
              clear c20
              (first | rw [c20b0] | (simp only [i64_w, i32_w]; rw [c20b0]) | skip)
              by_cases c21 : (rd t387 x18_1) < (l0_1.length : Int)
              ·rw [if_pos c21] at H
               have c21b0 := decide_eq_true c21
               clear c21
               obtain ⟨bq22, hbq22⟩ : ∃ b_ : Bool, b_ = (rdOf false l0_1 (rd t387 x18_1)) := ⟨_, rfl⟩
               rw [← hbq22] at H
               have Nbq22 := Aside0.mk hbq22
               clear hbq22
               by_cases c23 : bq22 = true
               ·subst c23
                rw [if_pos rfl] at H
                by_cases c24 : 0 ≤ (rd y391 x27_2)
                ·rw [if_pos c24] at H
                 have c24b0 := decide_eq_true c24
                 clear c24
                 by_cases c25 : (rd y391 x27_2) < (l0_1.length : Int)
                 ·rw [if_pos c25] at H
                  have c25b0 := decide_eq_true c25
                  clear c25
                  have H' := Aside0.mk H
                  clear H
                  have hnb26 := NB385_386.out
                  have hnc26 := NB386_385.out
                  obtain ⟨hcz27_0, hcz27_1, hfz27_0, hfz27_1⟩ := zC2 BK385
                  obtain ⟨⟨ad396, e396, hx396_0⟩, p396, q396⟩ := zW (Kd.at_bool HR0_1.out (rd t387 x18_1))
                  (try rw [← Nbq22.out] at hx396_0)
                  cases e396
                  (try replace hx396_0 := zx HB.out hx396_0)
                  obtain ⟨⟨ad397, e397, hx397_0⟩, p397, q397⟩ := zW (Kd.at_bool HR0_1.out (rd y391 x27_2))
                  (try rw [← Nbq22.out] at hx397_0)
                  obtain rfl : ad396 = ad397 := (by injection e397)
                  (try replace hx397_0 := zx HB.out hx397_0)
                  go_wp2
                  go_meet
                  case rel => exact ⟨_, (!(rdOf false l0_1 (rd y391 x27_2))), zE, H', ⟨by have := HK1.out; have := HK2.out; first | omega | exact Nat.le_refl _⟩, ⟨zr HO_6.out⟩, ⟨zr HO_16.out⟩, ⟨zb BK385.out⟩, ⟨zb BK386.out⟩, ⟨by repeat (first | (with_reducible exact HR394.out) | (with_reducible refine Kd.C_alloc ?_ _) | (with_reducible refine Kd.C_drewN ?_ _) | (with_reducible refine Kd.C_drew ?_) | exact HR394.out)⟩, ⟨zh HB.out⟩⟩
                 ·rw [if_neg c25] at H
                  cases H
                ·rw [if_neg c24] at H
                 cases H
               ·replace c23 := Bool.eq_false_iff.mpr c23
                subst c23
                rw [if_neg zF] at H
                have H' := Aside0.mk H
                clear H
                have hnb28 := NB385_386.out
                have hnc28 := NB386_385.out
                obtain ⟨hcz29_0, hcz29_1, hfz29_0, hfz29_1⟩ := zC2 BK385
                obtain ⟨⟨ad396, e396, hx396_0⟩, p396, q396⟩ := zW (Kd.at_bool HR0_1.out (rd t387 x18_1))
                (try rw [← Nbq22.out] at hx396_0)
                cases e396
                (try replace hx396_0 := zx HB.out hx396_0)
                go_wp2
                go_meet
                case rel => exact ⟨_, (true), zE, H', ⟨by have := HK1.out; have := HK2.out; first | omega | exact Nat.le_refl _⟩, ⟨zr HO_6.out⟩, ⟨zr HO_16.out⟩, ⟨zb BK385.out⟩, ⟨zb BK386.out⟩, ⟨by repeat (first | (with_reducible exact HR394.out) | (with_reducible refine Kd.C_alloc ?_ _) | (with_reducible refine Kd.C_drewN ?_ _) | (with_reducible refine Kd.C_drew ?_) | exact HR394.out)⟩, ⟨zh HB.out⟩⟩
              ·rw [if_neg c21] at H
               cases H
             ·rw [if_neg c20] at H
              cases H
            case rest =>
             clear HC19
             try clear c1
             try clear q1
             try clear c2
             try clear p2
             try clear q2
             try clear p3
             try clear q3
             try clear hx3
             try clear c6
             try clear c10
             try clear c10b0
             try clear c11
             try clear c11b0
             try clear c12
             try clear c12b0
             try clear c13
             try clear c13b0
             try clear c14
             try clear c14b0
             try clear c14b1
             try clear c15
             try clear q15
             try clear c16
             try clear c16b0
             try clear c17
             try clear c17b0
             try clear c18
             try clear c18b0
             try clear c20
             try clear c20b0
             try clear c21
             try clear c21b0
             try clear q22
             try clear c23
             try clear c24
             try clear c24b0
             try clear c25
             try clear c25b0
             try clear c26
             try clear c28
             try clear hcz27_0
             try clear hcz27_1
             try clear hcz29_0
             try clear hcz29_1
             try clear hcz7_0
             try clear hcz7_1
             try clear hfz27_0
             try clear hfz27_1
             try clear hfz29_0
             try clear hfz29_1
             try clear hfz7_0
             try clear hfz7_1
             try clear hx390_0
             try clear hx395_0
             try clear hx396_0
             try clear hx397_0
             try clear p2
             try clear p3
             try clear p390
             try clear p395
             try clear p396
             try clear p397
             try clear q015
             try clear q1
             try clear q15
             try clear q3
             try clear q390
             try clear q395
             try clear q396
             try clear q397
             obtain ⟨kq, x44_18, rfl, HA, HJ18, HO_6, HO_16, BK385, BK386, HR394, HB⟩ := hcut
             cases kq with
             | zero => exact absurd HA.out (by simp [impl_votes_firstOfTwo.j2])
             | succ kj18 =>
              have H := HA.out
              clear HA
              simp only [impl_votes_firstOfTwo.j2] at H
              by_cases c30 : x44_18 = true
              ·subst c30
               rw [if_pos rfl] at H
               have H' := Aside0.mk H
               clear H
               go_wp2
               go_roundg kj18
               case measure => have := HK1.out; have := HK2.out; have := HJ18.out; omega
               case rel => exact ⟨(wrap64 (x27_2 + 1)), zE, H', ⟨by have := HK1.out; have := HK2.out; have := HJ18.out; omega⟩, ⟨zr HO_6.out⟩, ⟨zr HO_16.out⟩, ⟨zb BK385.out⟩, ⟨zb BK386.out⟩, ⟨by repeat (first | (with_reducible exact HR394.out) | (with_reducible refine Kd.C_alloc ?_ _) | (with_reducible refine Kd.C_drewN ?_ _) | (with_reducible refine Kd.C_drew ?_) | exact HR394.out)⟩, ⟨zh HB.out⟩⟩
              ·replace c30 := Bool.eq_false_iff.mpr c30
               subst c30
               rw [if_neg zF] at H
               have H' := Aside0.mk H
               clear H
               go_wp2
               go_loopg [47] kj18 (fun kq v47 w' => ∃ (x47_4 : Int), v47 = .int .i64 x47_4 ∧ Aside0 (impl_votes_firstOfTwo.l2 a1 kq t387 (rd t387 x18_1) (rd y391 x27_2) t387 (t387.length : Int) x18_1 y391 (y391.length : Int) x27_2 t387 (t387.length : Int) x47_4 a0_0 l0_1 = some (r1, r2, r3)) ∧ Aside0 (kq ≤ kj18) ∧ Aside0 (Kd.R (Kd.int .i64) 3 w' w.heap.size (fun _ => True) (.slice (some ad390) t387.length co9) t387) ∧ Aside0 (Kd.R (Kd.int .i64) 3 w' w.heap.size (fun _ => True) (.slice (some ad390) t387.length co9) t387) ∧ Aside0 (Kd.R (Kd.int .i64) 3 w' w.heap.size (fun _ => True) (.slice (some ad390) t387.length co9) t387) ∧ Aside0 (w'.heap[gb385]? = some (.cells #[.int .i64 a0_0, (.slice A0_1 l0_1.length c0_1)] 61 (0, 0))) ∧ Aside0 (w'.heap[gb386]? = some (.cells #[(.slice none 0 0), (.slice none 0 0)] 86 (0, 0))) ∧ Aside0 (Kd.C (Kd.int .i64) w' (some ad395) y391.length y391) ∧ Aside0 (Below w.heap.size w w'))
               case atStart => exact ⟨(0), zE, H', ⟨Nat.le_refl _⟩, ⟨zr HO_6.out⟩, ⟨zr HO_16.out⟩, ⟨zr HO_6.out⟩, ⟨zb BK385.out⟩, ⟨zb BK386.out⟩, ⟨by repeat (first | (with_reducible exact HR394.out) | (with_reducible refine Kd.C_alloc ?_ _) | (with_reducible refine Kd.C_drewN ?_ _) | (with_reducible refine Kd.C_drew ?_) | exact HR394.out)⟩, ⟨zh HB.out⟩⟩
               case round =>
                clear H'
                try clear c1
                try clear q1
                try clear c2
                try clear p2
                try clear q2
                try clear c3
                try clear p3
                try clear q3
                try clear hx3
                try clear c6
                try clear p6
                try clear c10
                try clear c10b0
                try clear c11
                try clear c11b0
                try clear c12
                try clear c12b0
                try clear c13
                try clear c13b0
                try clear c14
                try clear c14b0
                try clear c14b1
                try clear c15
                try clear q15
                try clear c16
                try clear c16b0
                try clear c17
                try clear c17b0
                try clear c18
                try clear c18b0
                try clear c20
                try clear c20b0
                try clear c21
                try clear c21b0
                try clear q22
                try clear c23
                try clear c24
                try clear c24b0
                try clear c25
                try clear c25b0
                try clear c26
                try clear c28
                try clear c30
                try clear hcz27_0
                try clear hcz27_1
                try clear hcz29_0
                try clear hcz29_1
                try clear hcz7_0
                try clear hcz7_1
                try clear hfz27_0
                try clear hfz27_1
                try clear hfz29_0
                try clear hfz29_1
                try clear hfz7_0
                try clear hfz7_1
                try clear hx390_0
                try clear hx395_0
                try clear hx396_0
                try clear hx397_0
                try clear p2
                try clear p3
                try clear p390
                try clear p395
                try clear p396
                try clear p397
                try clear q015
                try clear q1
                try clear q15
                try clear q2
                try clear q22
                try clear q3
                try clear q390
                try clear q395
                try clear q396
                try clear q397
                obtain ⟨x47_4, rfl, HA, HK4, HO_6, HO_16, HO_45, BK385, BK386, HR394, HB⟩ := hrel
                cases gk with
                | zero => exact absurd HA.out (by simp [impl_votes_firstOfTwo.l2])
                | succ k4 =>
                 have H := HA.out
                 clear HA
                 simp only [impl_votes_firstOfTwo.l2] at H
                 by_cases c31 : x47_4 < (t387.length : Int)
                 ·rw [if_pos c31] at H
                  have c31b0 := decide_eq_true c31
                  clear c31
                  by_cases c32 : 0 ≤ x47_4
                  ·rw [if_pos c32] at H
                   have c32b0 := decide_eq_true c32
                   clear c32
                   by_cases c33 : x47_4 < (t387.length : Int)
                   ·rw [if_pos c33] at H
                    have c33b0 := decide_eq_true c33
                    clear c33
                    have HC34 := Aside0.mk H
                    clear H
                    obtain ⟨⟨ad398, e398, hx398_0⟩, p398, q398⟩ := zW (Kd.at_int (Kd.R_reads' HO_45.out).2.2 x47_4)
                    obtain rfl : ad390 = ad398 := (by injection e398)
                    go_upto_region 12 with (fail)
                    go_cut [75] (fun v75 wc => ∃ (kq : Nat) (x75_33 : Bool), v75 = .bool x75_33 ∧ Aside0 (impl_votes_firstOfTwo.j4 a1 kq t387 (rd t387 x18_1) (rd y391 x27_2) x47_4 (rd t387 x47_4) t387 (t387.length : Int) x18_1 y391 (y391.length : Int) x27_2 t387 (t387.length : Int) x47_4 x75_33 a0_0 l0_1 = some (r1, r2, r3)) ∧ Aside0 (kq ≤ k4) ∧ Aside0 (Kd.R (Kd.int .i64) 3 wc w.heap.size (fun _ => True) (.slice (some ad390) t387.length co9) t387) ∧ Aside0 (Kd.R (Kd.int .i64) 3 wc w.heap.size (fun _ => True) (.slice (some ad390) t387.length co9) t387) ∧ Aside0 (Kd.R (Kd.int .i64) 3 wc w.heap.size (fun _ => True) (.slice (some ad390) t387.length co9) t387) ∧ Aside0 (wc.heap[gb385]? = some (.cells #[.int .i64 a0_0, (.slice A0_1 l0_1.length c0_1)] 61 (0, 0))) ∧ Aside0 (wc.heap[gb386]? = some (.cells #[(.slice none 0 0), (.slice none 0 0)] 86 (0, 0))) ∧ Aside0 (Kd.C (Kd.int .i64) wc (some ad395) y391.length y391) ∧ Aside0 (Below w.heap.size w wc))
                    case first =>
                     have H := HC34.out
                     clear HC34
                     by_cases c35 : 0 ≤ (rd t387 x47_4)
                     ·rw [if_pos c35] at H
                      have c35b0 := decide_eq_true c35
                      clear c35
                      (first | rw [c35b0] | (simp only [i64_w, i32_w]; rw [c35b0]) | skip)
                      by_cases c36 : (rd t387 x47_4) < (l0_1.length : Int)
                      ·rw [if_pos c36] at H
                       have c36b0 := decide_eq_true c36
                       clear c36
                       obtain ⟨bq37, hbq37⟩ : ∃ b_ : Bool, b_ = (rdOf false l0_1 (rd t387 x47_4)) := ⟨_, rfl⟩
                       rw [← hbq37] at H
                       have Nbq37 := Aside0.mk hbq37
                       clear hbq37
                       by_cases c38 : bq37 = true
                       ·subst c38
                        rw [if_pos rfl] at H
                        have H' := Aside0.mk H
                        clear H
                        have hnb39 := NB385_386.out
                        have hnc39 := NB386_385.out
                        obtain ⟨hcz40_0, hcz40_1, hfz40_0, hfz40_1⟩ := zC2 BK385
                        obtain ⟨⟨ad399, e399, hx399_0⟩, p399, q399⟩ := zW (Kd.at_bool HR0_1.out (rd t387 x47_4))
                        (try rw [← Nbq37.out] at hx399_0)
                        cases e399
                        (try replace hx399_0 := zx HB.out hx399_0)
                        go_wp2
                        go_meet
                        case rel => exact ⟨_, (true), zE, H', ⟨by have := HK1.out; have := HK2.out; have := HJ18.out; have := HK4.out; first | omega | exact Nat.le_refl _⟩, ⟨zr HO_6.out⟩, ⟨zr HO_16.out⟩, ⟨zr HO_45.out⟩, ⟨zb BK385.out⟩, ⟨zb BK386.out⟩, ⟨by repeat (first | (with_reducible exact HR394.out) | (with_reducible refine Kd.C_alloc ?_ _) | (with_reducible refine Kd.C_drewN ?_ _) | (with_reducible refine Kd.C_drew ?_) | exact HR394.out)⟩, ⟨zh HB.out⟩⟩
                       ·replace c38 := Bool.eq_false_iff.mpr c38
                        subst c38
                        rw [if_neg zF] at H
                        by_cases c41 : (Go.bits .and .i64 (rd t387 x47_4) (Go.bits .and .i64 (rd t387 x18_1) (rd y391 x27_2))) = (Go.bits .and .i64 (rd t387 x18_1) (rd y391 x27_2))
                        ·rw [if_pos c41] at H
                         have c41b0 := beq_iff_eq.mpr c41
                         have c41b1 := bne_eq_false_iff_eq.mpr c41
                         clear c41
                         have H' := Aside0.mk H
                         clear H
                         have hnb42 := NB385_386.out
                         have hnc42 := NB386_385.out
                         obtain ⟨hcz43_0, hcz43_1, hfz43_0, hfz43_1⟩ := zC2 BK385
                         obtain ⟨⟨ad399, e399, hx399_0⟩, p399, q399⟩ := zW (Kd.at_bool HR0_1.out (rd t387 x47_4))
                         (try rw [← Nbq37.out] at hx399_0)
                         cases e399
                         (try replace hx399_0 := zx HB.out hx399_0)
                         go_wp2
                         go_meet
                         case rel => exact ⟨_, (((Go.bits .andNot .i64 (rd t387 x47_4) (Go.bits .or .i64 (rd t387 x18_1) (rd y391 x27_2))) != 0)), zE, H', ⟨by have := HK1.out; have := HK2.out; have := HJ18.out; have := HK4.out; first | omega | exact Nat.le_refl _⟩, ⟨zr HO_6.out⟩, ⟨zr HO_16.out⟩, ⟨zr HO_45.out⟩, ⟨zb BK385.out⟩, ⟨zb BK386.out⟩, ⟨by repeat (first | (with_reducible exact HR394.out) | (with_reducible refine Kd.C_alloc ?_ _) | (with_reducible refine Kd.C_drewN ?_ _) | (with_reducible refine Kd.C_drew ?_) | exact HR394.out)⟩, ⟨zh HB.out⟩⟩
                        ·rw [if_neg c41] at H
                         have c41b0 := beq_eq_false_iff_ne.mpr c41
                         have c41b1 := bne_iff_ne.mpr c41
                         have H' := Aside0.mk H
                         clear H
                         have hnb44 := NB385_386.out
                         have hnc44 := NB386_385.out
                         obtain ⟨hcz45_0, hcz45_1, hfz45_0, hfz45_1⟩ := zC2 BK385
                         obtain ⟨⟨ad399, e399, hx399_0⟩, p399, q399⟩ := zW (Kd.at_bool HR0_1.out (rd t387 x47_4))
                         (try rw [← Nbq37.out] at hx399_0)
                         cases e399
                         (try replace hx399_0 := zx HB.out hx399_0)
                         go_wp2
                         go_meet
                         case rel => exact ⟨_, (true), zE, H', ⟨by have := HK1.out; have := HK2.out; have := HJ18.out; have := HK4.out; first | omega | exact Nat.le_refl _⟩, ⟨zr HO_6.out⟩, ⟨zr HO_16.out⟩, ⟨zr HO_45.out⟩, ⟨zb BK385.out⟩, ⟨zb BK386.out⟩, ⟨by repeat (first | (with_reducible exact HR394.out) | (with_reducible refine Kd.C_alloc ?_ _) | (with_reducible refine Kd.C_drewN ?_ _) | (with_reducible refine Kd.C_drew ?_) | exact HR394.out)⟩, ⟨zh HB.out⟩⟩
                      ·rw [if_neg c36] at H
                       cases H
                     ·rw [if_neg c35] at H
                      cases H
                    case rest =>
                     clear HC34
                     try clear c1
                     try clear q1
                     try clear c2
                     try clear p2
                     try clear q2
                     try clear c3
                     try clear p3
                     try clear q3
                     try clear hx3
                     try clear c4
                     try clear c6
                     try clear p6
                     try clear c10
                     try clear c10b0
                     try clear c11
                     try clear c11b0
                     try clear c12
                     try clear c12b0
                     try clear c13
                     try clear c13b0
                     try clear c14
                     try clear c14b0
                     try clear c14b1
                     try clear c15
                     try clear q15
                     try clear c16
                     try clear c16b0
                     try clear c17
                     try clear c17b0
                     try clear c18
                     try clear c18b0
                     try clear c20
                     try clear c20b0
                     try clear c21
                     try clear c21b0
                     try clear q22
                     try clear c23
                     try clear c24
                     try clear c24b0
                     try clear c25
                     try clear c25b0
                     try clear c26
                     try clear c28
                     try clear c30
                     try clear c31
                     try clear c31b0
                     try clear c32
                     try clear c32b0
                     try clear c33
                     try clear c33b0
                     try clear c35
                     try clear c35b0
                     try clear c36
                     try clear c36b0
                     try clear q37
                     try clear c38
                     try clear c39
                     try clear p39
                     try clear q39
                     try clear hx39
                     try clear c41
                     try clear c41b0
                     try clear c41b1
                     try clear c42
                     try clear c44
                     try clear hcz27_0
                     try clear hcz27_1
                     try clear hcz29_0
                     try clear hcz29_1
                     try clear hcz40_0
                     try clear hcz40_1
                     try clear hcz43_0
                     try clear hcz43_1
                     try clear hcz45_0
                     try clear hcz45_1
                     try clear hcz7_0
                     try clear hcz7_1
                     try clear hfz27_0
                     try clear hfz27_1
                     try clear hfz29_0
                     try clear hfz29_1
                     try clear hfz40_0
                     try clear hfz40_1
                     try clear hfz43_0
                     try clear hfz43_1
                     try clear hfz45_0
                     try clear hfz45_1
                     try clear hfz7_0
                     try clear hfz7_1
                     try clear hx390_0
                     try clear hx395_0
                     try clear hx396_0
                     try clear hx397_0
                     try clear hx398_0
                     try clear hx399_0
                     try clear p2
                     try clear p3
                     try clear p390
                     try clear p395
                     try clear p396
                     try clear p397
                     try clear p398
                     try clear p399
                     try clear p6
                     try clear q015
                     try clear q1
                     try clear q15
                     try clear q2
                     try clear q22
                     try clear q3
                     try clear q390
                     try clear q395
                     try clear q396
                     try clear q397
                     try clear q398
                     try clear q399
                     obtain ⟨kq, x75_33, rfl, HA, HJ33, HO_6, HO_16, HO_45, BK385, BK386, HR394, HB⟩ := hcut
                     cases kq with
                     | zero => exact absurd HA.out (by simp [impl_votes_firstOfTwo.j4])
                     | succ kj33 =>
                      have H := HA.out
                      clear HA
                      simp only [impl_votes_firstOfTwo.j4] at H
                      by_cases c46 : x75_33 = true
                      ·subst c46
                       rw [if_pos rfl] at H
                       have H' := Aside0.mk H
                       clear H
                       go_wp2
                       go_roundg kj33
                       case measure => have := HK1.out; have := HK2.out; have := HJ18.out; have := HK4.out; have := HJ33.out; omega
                       case rel => exact ⟨(wrap64 (x47_4 + 1)), zE, H', ⟨by have := HK1.out; have := HK2.out; have := HJ18.out; have := HK4.out; have := HJ33.out; omega⟩, ⟨zr HO_6.out⟩, ⟨zr HO_16.out⟩, ⟨zr HO_45.out⟩, ⟨zb BK385.out⟩, ⟨zb BK386.out⟩, ⟨by repeat (first | (with_reducible exact HR394.out) | (with_reducible refine Kd.C_alloc ?_ _) | (with_reducible refine Kd.C_drewN ?_ _) | (with_reducible refine Kd.C_drew ?_) | exact HR394.out)⟩, ⟨zh HB.out⟩⟩
                      ·replace c46 := Bool.eq_false_iff.mpr c46
                       subst c46
                       rw [if_neg zF] at H
                       by_cases c47 : 0 ≤ (Go.bits .or .i64 (Go.bits .and .i64 (rd t387 x18_1) (rd y391 x27_2)) (Go.bits .andNot .i64 (Go.bits .or .i64 (rd t387 x18_1) (rd y391 x27_2)) (rd t387 x47_4)))
                       ·rw [if_pos c47] at H
                        have c47b0 := decide_eq_true c47
                        clear c47
                        by_cases c48 : (Go.bits .or .i64 (Go.bits .and .i64 (rd t387 x18_1) (rd y391 x27_2)) (Go.bits .andNot .i64 (Go.bits .or .i64 (rd t387 x18_1) (rd y391 x27_2)) (rd t387 x47_4))) < (l0_1.length : Int)
                        ·rw [if_pos c48] at H
                         have c48b0 := decide_eq_true c48
                         clear c48
                         obtain ⟨bq49, hbq49⟩ : ∃ b_ : Bool, b_ = (rdOf false l0_1 (Go.bits .or .i64 (Go.bits .and .i64 (rd t387 x18_1) (rd y391 x27_2)) (Go.bits .andNot .i64 (Go.bits .or .i64 (rd t387 x18_1) (rd y391 x27_2)) (rd t387 x47_4)))) := ⟨_, rfl⟩
                         rw [← hbq49] at H
                         have Nbq49 := Aside0.mk hbq49
                         clear hbq49
                         by_cases c50 : (bq49 = true)
                         ·subst c50
                          rw [if_pos rfl] at H
                          have H' := Aside0.mk H
                          clear H
                          have hnb51 := NB385_386.out
                          have hnc51 := NB386_385.out
                          obtain ⟨hcz52_0, hcz52_1, hfz52_0, hfz52_1⟩ := zC2 BK385
                          obtain ⟨⟨ad400, e400, hx400_0⟩, p400, q400⟩ := zW (Kd.at_bool HR0_1.out (Go.bits .or .i64 (Go.bits .and .i64 (rd t387 x18_1) (rd y391 x27_2)) (Go.bits .andNot .i64 (Go.bits .or .i64 (rd t387 x18_1) (rd y391 x27_2)) (rd t387 x47_4))))
                          (try rw [← Nbq49.out] at hx400_0)
                          cases e400
                          (try replace hx400_0 := zx HB.out hx400_0)
                          go_wp2
                          go_roundg kj33
                          case measure => have := HK1.out; have := HK2.out; have := HJ18.out; have := HK4.out; have := HJ33.out; omega
                          case rel => exact ⟨(wrap64 (x47_4 + 1)), zE, H', ⟨by have := HK1.out; have := HK2.out; have := HJ18.out; have := HK4.out; have := HJ33.out; omega⟩, ⟨zr HO_6.out⟩, ⟨zr HO_16.out⟩, ⟨zr HO_45.out⟩, ⟨zb BK385.out⟩, ⟨zb BK386.out⟩, ⟨by repeat (first | (with_reducible exact HR394.out) | (with_reducible refine Kd.C_alloc ?_ _) | (with_reducible refine Kd.C_drewN ?_ _) | (with_reducible refine Kd.C_drew ?_) | exact HR394.out)⟩, ⟨zh HB.out⟩⟩
                         ·replace c50 := Bool.eq_false_iff.mpr c50
                          subst c50
                          rw [if_neg zF] at H
                          by_cases c53 : 0 ≤ x47_4
                          ·rw [if_pos c53] at H
                           have c53b0 := eq_true c53
                           have c53b1 := decide_eq_true c53
                           clear c53
                           by_cases c54 : x47_4 ≤ (t387.length : Int)
                           ·rw [if_pos c54] at H
                            have c54b0 := eq_true c54
                            have c54b1 := decide_eq_true c54
                            clear c54
                            obtain ⟨y401, hy401⟩ : ∃ y_ : List Int, y_ = (t387.drop (x47_4 : Int).toNat) := ⟨_, rfl⟩
                            rw [← hy401] at H
                            have Ny401 := Aside0.mk hy401
                            clear hy401
                            replace H := Option.bind_eq_some_iff.mp H
                            obtain ⟨t405, A550, H⟩ := H
                            replace H : (if t405 = true then ((a1 (rd t387 x18_1) (rd y391 x27_2) (rd t387 x47_4) (Go.bits .or .i64 (Go.bits .and .i64 (rd t387 x18_1) (rd y391 x27_2)) (Go.bits .andNot .i64 (Go.bits .or .i64 (rd t387 x18_1) (rd y391 x27_2)) (rd t387 x47_4)))).bind fun t406 => (if t406 = true then ((impl_pairs.f kj33 (([(rd t387 x18_1), (rd y391 x27_2)] : List Int)) (([(rd t387 x47_4), Go.bits .or .i64 (Go.bits .and .i64 (rd t387 x18_1) (rd y391 x27_2)) (Go.bits .andNot .i64 (Go.bits .or .i64 (rd t387 x18_1) (rd y391 x27_2)) (rd t387 x47_4))] : List Int))).bind fun bt413 => (some (bt413.1, bt413.2, true))) else (impl_votes_firstOfTwo.l2 a1 kj33 t387 (rd t387 x18_1) (rd y391 x27_2) t387 (t387.length : Int) x18_1 y391 (y391.length : Int) x27_2 t387 (t387.length : Int) (wrap64 (x47_4 + 1)) a0_0 l0_1))) else (impl_votes_firstOfTwo.l2 a1 kj33 t387 (rd t387 x18_1) (rd y391 x27_2) t387 (t387.length : Int) x18_1 y391 (y391.length : Int) x27_2 t387 (t387.length : Int) (wrap64 (x47_4 + 1)) a0_0 l0_1)) = some (r1, r2, r3) := H
                            have A55 := Aside0.mk A550
                            clear A550
                            by_cases c56 : t405 = true
                            ·subst c56
                             rw [if_pos rfl] at H
                             replace H := Option.bind_eq_some_iff.mp H
                             obtain ⟨t406, A570, H⟩ := H
                             replace H : (if t406 = true then ((impl_pairs.f kj33 (([(rd t387 x18_1), (rd y391 x27_2)] : List Int)) (([(rd t387 x47_4), Go.bits .or .i64 (Go.bits .and .i64 (rd t387 x18_1) (rd y391 x27_2)) (Go.bits .andNot .i64 (Go.bits .or .i64 (rd t387 x18_1) (rd y391 x27_2)) (rd t387 x47_4))] : List Int))).bind fun bt413 => (some (bt413.1, bt413.2, true))) else (impl_votes_firstOfTwo.l2 a1 kj33 t387 (rd t387 x18_1) (rd y391 x27_2) t387 (t387.length : Int) x18_1 y391 (y391.length : Int) x27_2 t387 (t387.length : Int) (wrap64 (x47_4 + 1)) a0_0 l0_1)) = some (r1, r2, r3) := H
                             have A57 := Aside0.mk A570
                             clear A570
                             by_cases c58 : t406 = true
                             ·subst c58
                              rw [if_pos rfl] at H
                              obtain ⟨y407, hy407⟩ : ∃ y_ : List Int, y_ = (([(rd t387 x18_1), (rd y391 x27_2)] : List Int)) := ⟨_, rfl⟩
                              rw [← hy407] at H
                              have Ny407 := Aside0.mk hy407
                              clear hy407
                              obtain ⟨y410, hy410⟩ : ∃ y_ : List Int, y_ = (([(rd t387 x47_4), Go.bits .or .i64 (Go.bits .and .i64 (rd t387 x18_1) (rd y391 x27_2)) (Go.bits .andNot .i64 (Go.bits .or .i64 (rd t387 x18_1) (rd y391 x27_2)) (rd t387 x47_4))] : List Int)) := ⟨_, rfl⟩
                              rw [← hy410] at H
                              have Ny410 := Aside0.mk hy410
                              clear hy410
                              replace H := Option.bind_eq_some_iff.mp H
                              obtain ⟨⟨t413, t416⟩, A590, H⟩ := H
                              replace H : (some (t413, t416, true)) = some (r1, r2, r3) := H
                              have A59 := Aside0.mk A590
                              clear A590
                              simp only [Option.some.injEq, Prod.mk.injEq] at H
                              obtain ⟨rfl, rfl, rfl⟩ := H
                              have hnb60 := NB385_386.out
                              have hnc60 := NB386_385.out
                              obtain ⟨hcz61_0, hcz61_1, hfz61_0, hfz61_1⟩ := zC2 BK385
                              obtain ⟨⟨ad400, e400, hx400_0⟩, p400, q400⟩ := zW (Kd.at_bool HR0_1.out (Go.bits .or .i64 (Go.bits .and .i64 (rd t387 x18_1) (rd y391 x27_2)) (Go.bits .andNot .i64 (Go.bits .or .i64 (rd t387 x18_1) (rd y391 x27_2)) (rd t387 x47_4))))
                              (try rw [← Nbq49.out] at hx400_0)
                              cases e400
                              (try replace hx400_0 := zx HB.out hx400_0)
                              have q62 : (x47_4 : Int) ≤ ((t387.length : Int) : Int) := zk
                              obtain ⟨i062, hi062, _, hsz62, _⟩ := info_parts info3
                              have hroom62 : t387.length ≤ co9 := (Kd.R_reads' HO_6.out).2.1
                              have hC62 : Kd.C (Kd.int .i64) _ (some ad390) t387.length t387 := (Kd.R_reads' HO_6.out).2.2
                              have q062 : (0 : Int) ≤ (x47_4 : Int) := zk
                              have hcut62 := cut_from (P := Tryz.prog) 65 3 .i64 Tryz.underlying65 hi062 1 hsz62 (some ad390) t387.length co9 x47_4 q062 q62
                              have hr62 := Kd.C_drop (m := (x47_4 : Int).toNat) (c := co9) hC62 (by omega) hroom62
                              obtain ⟨A62, hA62⟩ : ∃ A1, A1 = (if co9 = (x47_4 : Int).toNat then (some ad390) else ((some ad390) : Option Addr).map (·.add ((x47_4 : Int).toNat * 1))) := ⟨_, rfl⟩
                              obtain ⟨c62, hc62⟩ : ∃ c1, c1 = co9 - (x47_4 : Int).toNat := ⟨_, rfl⟩
                              have hy62 : y401.length = t387.length - (x47_4 : Int).toNat := (by rw [Ny401.out, List.length_drop] <;> omega)
                              rw [show (t387).drop (x47_4 : Int).toNat = y401 from Ny401.out.symm] at hr62
                              replace hr62 : Kd.C (Kd.int .i64) _ A62 y401.length y401 := (by rw [hA62]; exact hr62)
                              rw [← hy62, ← hA62, ← hc62] at hcut62
                              have HR404 := Aside0.mk hr62
                              have HC404 := Aside0.mk (show y401.length ≤ c62 from by rw [hy62, hc62]; exact Nat.sub_le_sub_right hroom62 _)
                              clear hr62 hC62 hroom62 hi062 hsz62 hc62
                              have KY62 := Aside0.mk hy62
                              have KA62 := Aside0.mk hA62
                              clear hy62 hA62
                              have KL62 := Aside0.mk (show (x47_4 : Int).toNat ≤ t387.length from by omega)
                              replace q62 := eq_true q62
                              go_wp2_with (first | (go_at_call 133; (with_reducible refine (slices_Contains_int_int.calls kj33 _ _ y401 (Go.bits .or .i64 (Go.bits .and .i64 (rd t387 x18_1) (rd y391 x27_2)) (Go.bits .andNot .i64 (Go.bits .or .i64 (rd t387 x18_1) (rd y391 x27_2)) (rd t387 x47_4))) true _ ?side1 ?side2 A55.out).mono ?_); (case side1 => repeat (first | exact (by repeat (first | (with_reducible exact HR404.out) | (with_reducible refine Kd.C_alloc ?_ _) | (with_reducible refine Kd.C_drewN ?_ _) | (with_reducible refine Kd.C_drew ?_) | exact HR404.out)) | (with_reducible refine Kd.C_alloc ?_ _) | (with_reducible refine Kd.C_drewN ?_ _) | (with_reducible refine Kd.C_drew ?_))); (case side2 => exact HC404.out); rintro e w' ⟨rfl, ⟨nd, rfl⟩⟩; (try (rw [drewN_self wc]; generalize hq_ : World.drewN wc _ = wc; have nz_ : Aside0 (Kd.C (Kd.int .i64) wc (some ad395) y391.length y391) := ⟨by rw [← hq_]; exact Kd.C_drewN HR394.out _⟩; have n0_ : Aside0 (Kd.R (Kd.int .i64) 3 wc w.heap.size (fun _ => True) (.slice (some ad390) t387.length co9) t387) := ⟨by rw [← hq_]; exact (zr HO_16.out)⟩; have n1_ : Aside0 (Kd.R (Kd.int .i64) 3 wc w.heap.size (fun _ => True) (.slice (some ad390) t387.length co9) t387) := ⟨by rw [← hq_]; exact (zr HO_45.out)⟩; have n2_ : Aside0 (Kd.R (Kd.int .i64) 3 wc w.heap.size (fun _ => True) (.slice (some ad390) t387.length co9) t387) := ⟨by rw [← hq_]; exact (zr HO_6.out)⟩; have n3_ : Aside0 (wc.heap[gb385]? = some (.cells #[.int .i64 a0_0, .slice (some ad400) l0_1.length c0_1] 61 (0, 0))) := ⟨by rw [← hq_]; exact (zb BK385.out)⟩; have n4_ : Aside0 (wc.heap[gb386]? = some (.cells #[.slice none 0 0, .slice none 0 0] 86 (0, 0))) := ⟨by rw [← hq_]; exact (zb BK386.out)⟩; have n5_ : Aside0 (Below w.heap.size w wc) := ⟨by rw [← hq_]; exact (zh HB.out)⟩; have n6_ : Aside0 (Kd.C (Kd.int .i64) wc A62 y401.length y401) := ⟨by rw [← hq_]; exact (by repeat (first | (with_reducible exact HR404.out) | (with_reducible refine Kd.C_alloc ?_ _) | (with_reducible refine Kd.C_drewN ?_ _) | (with_reducible refine Kd.C_drew ?_) | exact HR404.out))⟩; clear HO_16 HO_45 HO_6 BK385 BK386 HB HR404 HR394 hq_; have HR394 := nz_; clear nz_; have HO_16 := n0_; have HO_45 := n1_; have HO_6 := n2_; have BK385 := n3_; have BK386 := n4_; have HB := n5_; have HR404 := n6_; clear n0_ n1_ n2_ n3_ n4_ n5_ n6_))))
                              rw [← Array.append_assoc]
                              refine (hp_.out _ (rd t387 x18_1) (rd y391 x27_2) (rd t387 x47_4) (Go.bits .or .i64 (Go.bits .and .i64 (rd t387 x18_1) (rd y391 x27_2)) (Go.bits .andNot .i64 (Go.bits .or .i64 (rd t387 x18_1) (rd y391 x27_2)) (rd t387 x47_4))) true (zh HB.out) A57.out).mono ?_
                              rename_i K_ hK_
                              rintro e w63 ⟨rfl, hb⟩
                              (have n0_ := Aside0.mk (Kd.R_below (zr HO_6.out) hb); have n1_ := Aside0.mk (Kd.R_below (zr HO_16.out) hb); have n2_ := Aside0.mk (Kd.R_below (zr HO_45.out) hb); have n3_ := Aside0.mk (blk_below (g := gb385) (o := .cells #[.int .i64 a0_0, .slice (some ad400) l0_1.length c0_1] 61 (0, 0)) (zb BK385.out) hb); have n4_ := Aside0.mk (blk_below (g := gb386) (o := .cells #[.slice none 0 0, .slice none 0 0] 86 (0, 0)) (zb BK386.out) hb); have n5_ := Aside0.mk (Kd.C_below (by repeat (first | (with_reducible exact HR394.out) | (with_reducible refine Kd.C_alloc ?_ _) | (with_reducible refine Kd.C_drewN ?_ _) | (with_reducible refine Kd.C_drew ?_) | exact HR394.out)) hb); have n6_ := Aside0.mk (Kd.C_below (by repeat (first | (with_reducible exact HR404.out) | (with_reducible refine Kd.C_alloc ?_ _) | (with_reducible refine Kd.C_drewN ?_ _) | (with_reducible refine Kd.C_drew ?_) | exact HR404.out)) hb); have n7_ := Aside0.mk (below_step (zh HB.out) hb); clear HO_6; clear HO_16; clear HO_45; clear BK385; clear BK386; clear HR394; clear HR404; clear HB; have HO_6 := n0_; have HO_16 := n1_; have HO_45 := n2_; have BK385 := n3_; have BK386 := n4_; have HR394 := n5_; have HR404 := n6_; have HB := n7_; clear n0_ n1_ n2_ n3_ n4_ n5_ n6_ n7_; (try clear hb); (try clear hb2); (try clear hk); (try clear hi))
                              refine hK_ _ _ ?_
                              clear hK_ K_
                              go_wp2_with (first | ((with_reducible refine gate_dst (N := 108) rfl ?_); refine Kd.R_lit (Kd.int .i64) _ 3 ?hg (N := 108) ?hd (xs := ([(rd t387 x18_1), (rd y391 x27_2)] : List Int)) (inner := [.int .i64 (rd t387 x18_1), .int .i64 (rd y391 x27_2)]) (ok := fun _ => True) (okp := fun _ => True) ?hr ?hp (fun _ hk => hk) trivial (Below.refl _ _) (Nat.le_refl _) (by simp) ?_; (case hd => rfl); (case hg => rfl); (case hr => first | (go_simp; done) | (go_simp; rfl)); (case hp => exact (Reps.one (show Kd.M (Kd.int .i64) _ _ _ (rd t387 x18_1) [.int .i64 (rd t387 x18_1)] from rfl) (Reps.one (show Kd.M (Kd.int .i64) _ _ _ (rd y391 x27_2) [.int .i64 (rd y391 x27_2)] from rfl) (Reps.none _ _)))); intro v408 w64 ho65 hb hg_ hnew_; clear hg_ hnew_; (first | rw [← Ny407.out] at ho65 | (simp only [Int.reduceToNat] at ho65; rw [← Ny407.out] at ho65)); have HO409 := Aside0.mk (Kd.R_lower (Kd.R_new' (Kd.R_new' (Kd.R_new' ho65 (Kd.R_lt (zr HO_6.out))) (Kd.R_lt (zr HO_16.out))) (Kd.R_lt (zr HO_45.out))) (below_size (zh HB.out))); replace HO_6 := Aside0.mk (Kd.R_elder' (zr HO_6.out) (Kd.R_base ho65) hb); replace HO_16 := Aside0.mk (Kd.R_elder' (zr HO_16.out) (Kd.R_base ho65) hb); replace HO_45 := Aside0.mk (Kd.R_elder' (zr HO_45.out) (Kd.R_base ho65) hb); replace BK385 := zK BK385 hb; replace BK386 := zK BK386 hb; replace HR394 := Aside0.mk (Kd.C_below (by repeat (first | (with_reducible exact HR394.out) | (with_reducible refine Kd.C_alloc ?_ _) | (with_reducible refine Kd.C_drewN ?_ _) | (with_reducible refine Kd.C_drew ?_) | exact HR394.out)) hb); replace HR404 := Aside0.mk (Kd.C_below (by repeat (first | (with_reducible exact HR404.out) | (with_reducible refine Kd.C_alloc ?_ _) | (with_reducible refine Kd.C_drewN ?_ _) | (with_reducible refine Kd.C_drew ?_) | exact HR404.out)) hb); replace HB := zH hb HB; clear hb ho65) | ((with_reducible refine gate_dst (N := 111) rfl ?_); refine Kd.R_lit (Kd.int .i64) _ 3 ?hg (N := 111) ?hd (xs := ([(rd t387 x47_4), Go.bits .or .i64 (Go.bits .and .i64 (rd t387 x18_1) (rd y391 x27_2)) (Go.bits .andNot .i64 (Go.bits .or .i64 (rd t387 x18_1) (rd y391 x27_2)) (rd t387 x47_4))] : List Int)) (inner := [.int .i64 (rd t387 x47_4), .int .i64 (Go.bits .or .i64 (Go.bits .and .i64 (rd t387 x18_1) (rd y391 x27_2)) (Go.bits .andNot .i64 (Go.bits .or .i64 (rd t387 x18_1) (rd y391 x27_2)) (rd t387 x47_4)))]) (ok := fun _ => True) (okp := fun _ => True) ?hr ?hp (fun _ hk => hk) trivial (Below.refl _ _) (Nat.le_refl _) (by simp) ?_; (case hd => rfl); (case hg => rfl); (case hr => first | (go_simp; done) | (go_simp; rfl)); (case hp => exact (Reps.one (show Kd.M (Kd.int .i64) _ _ _ (rd t387 x47_4) [.int .i64 (rd t387 x47_4)] from rfl) (Reps.one (show Kd.M (Kd.int .i64) _ _ _ (Go.bits .or .i64 (Go.bits .and .i64 (rd t387 x18_1) (rd y391 x27_2)) (Go.bits .andNot .i64 (Go.bits .or .i64 (rd t387 x18_1) (rd y391 x27_2)) (rd t387 x47_4))) [.int .i64 (Go.bits .or .i64 (Go.bits .and .i64 (rd t387 x18_1) (rd y391 x27_2)) (Go.bits .andNot .i64 (Go.bits .or .i64 (rd t387 x18_1) (rd y391 x27_2)) (rd t387 x47_4)))] from rfl) (Reps.none _ _)))); intro v411 w66 ho67 hb hg_ hnew_; clear hg_ hnew_; (first | rw [← Ny410.out] at ho67 | (simp only [Int.reduceToNat] at ho67; rw [← Ny410.out] at ho67)); have HO412 := Aside0.mk (Kd.R_lower (Kd.R_new' (Kd.R_new' (Kd.R_new' (Kd.R_new' ho67 (Kd.R_lt (zr HO_6.out))) (Kd.R_lt (zr HO_16.out))) (Kd.R_lt (zr HO_45.out))) (Kd.R_lt (zr HO409.out))) (below_size (zh HB.out))); replace HO_6 := Aside0.mk (Kd.R_elder' (zr HO_6.out) (Kd.R_base ho67) hb); replace HO_16 := Aside0.mk (Kd.R_elder' (zr HO_16.out) (Kd.R_base ho67) hb); replace HO_45 := Aside0.mk (Kd.R_elder' (zr HO_45.out) (Kd.R_base ho67) hb); replace HO409 := Aside0.mk (Kd.R_elder' (zr HO409.out) (Kd.R_base ho67) hb); replace BK385 := zK BK385 hb; replace BK386 := zK BK386 hb; replace HR394 := Aside0.mk (Kd.C_below (by repeat (first | (with_reducible exact HR394.out) | (with_reducible refine Kd.C_alloc ?_ _) | (with_reducible refine Kd.C_drewN ?_ _) | (with_reducible refine Kd.C_drew ?_) | exact HR394.out)) hb); replace HR404 := Aside0.mk (Kd.C_below (by repeat (first | (with_reducible exact HR404.out) | (with_reducible refine Kd.C_alloc ?_ _) | (with_reducible refine Kd.C_drewN ?_ _) | (with_reducible refine Kd.C_drew ?_) | exact HR404.out)) hb); replace HB := zH hb HB; clear hb ho67; obtain ⟨Ao68, co68, eo68⟩ := Kd.R_slice HO409.out; subst eo68; obtain ⟨Ao69, co69, eo69⟩ := Kd.R_slice HO412.out; subst eo69) | ((with_reducible refine gate_callee (f := 134) rfl ?_); refine zl 112 Tryz.func134 #[.slice Ao68 y407.length co68, .slice Ao69 y410.length co69] ?_; (with_reducible refine (impl_pairs.calls kj33 _ _ y407 _ _ y410 t413 t416 _ ?side1 ?side2 ?side3 ?side4 A59.out).mono ?_); (case side1 => exact zQ ((Kd.R_reads' HO409.out).2.2)); (case side2 => exact (Kd.R_reads' HO409.out).2.1); (case side3 => exact zQ ((Kd.R_reads' HO412.out).2.2)); (case side4 => exact (Kd.R_reads' HO412.out).2.1); rintro e w70 ⟨v414, v417, rfl, ow_, ho0, ho1, hb⟩; refine ⟨_, rfl, ?_⟩; have HO415 := Aside0.mk (Kd.S_lower (Kd.S_new' (Kd.S_new' (Kd.S_new' (Kd.S_new' (Kd.S_new' ho0 (Kd.R_lt (zr HO_6.out))) (Kd.R_lt (zr HO_16.out))) (Kd.R_lt (zr HO_45.out))) (Kd.R_lt (zr HO409.out))) (Kd.R_lt (zr HO412.out))) (below_size (zh HB.out))); have HO418 := Aside0.mk (Kd.S_lower (Kd.S_new' (Kd.S_new' (Kd.S_new' (Kd.S_new' (Kd.S_new' ho1 (Kd.R_lt (zr HO_6.out))) (Kd.R_lt (zr HO_16.out))) (Kd.R_lt (zr HO_45.out))) (Kd.R_lt (zr HO409.out))) (Kd.R_lt (zr HO412.out))) (below_size (zh HB.out))); replace HO_6 := Aside0.mk (Kd.R_below (zr HO_6.out) hb); replace HO_16 := Aside0.mk (Kd.R_below (zr HO_16.out) hb); replace HO_45 := Aside0.mk (Kd.R_below (zr HO_45.out) hb); replace HO409 := Aside0.mk (Kd.R_below (zr HO409.out) hb); replace HO412 := Aside0.mk (Kd.R_below (zr HO412.out) hb); replace BK385 := zK BK385 hb; replace BK386 := zK BK386 hb; replace HR394 := Aside0.mk (Kd.C_below (by repeat (first | (with_reducible exact HR394.out) | (with_reducible refine Kd.C_alloc ?_ _) | (with_reducible refine Kd.C_drewN ?_ _) | (with_reducible refine Kd.C_drew ?_) | exact HR394.out)) hb); replace HR404 := Aside0.mk (Kd.C_below (by repeat (first | (with_reducible exact HR404.out) | (with_reducible refine Kd.C_alloc ?_ _) | (with_reducible refine Kd.C_drewN ?_ _) | (with_reducible refine Kd.C_drew ?_) | exact HR404.out)) hb); replace HB := zH hb HB; clear hb; (try clear ho0); (try clear ho1); obtain ⟨Ao71, co71, eo71⟩ := Kd.S_slice HO415.out; subst eo71; obtain ⟨hcz72_0, hcz72_1, hfz72_0, hfz72_1⟩ := zC2 BK386; obtain ⟨Ao73, co73, eo73⟩ := Kd.S_slice HO418.out; subst eo73))
                              refine bodyPost_ret (results_ct rfl _ _ gb386 86 #[.slice Ao71 t413.length co71, .slice Ao73 t416.length co73] (0, 0) _ rfl (by (with_reducible repeat (first | refine blk_drewN ?_ _ | refine blk_drew ?_ | refine blk_alloc ?_ _)); refine blk_put (cs := #[.slice Ao71 t413.length co71, .slice none 0 0]) ?_ 1 _ rfl; (with_reducible repeat (first | refine blk_drewN ?_ _ | refine blk_drew ?_ | refine blk_alloc ?_ _)); refine blk_put (cs := #[.slice none 0 0, .slice none 0 0]) ?_ 0 _ rfl; (with_reducible repeat (first | refine blk_drewN ?_ _ | refine blk_drew ?_ | refine blk_alloc ?_ _)); exact BK386.out) Tryz.underlying86 rfl (by kernel_rfl)) rfl ?_
                              exact ⟨_, _, by first | rfl | (simp [*, errW_none, errW_some] <;> rfl), ow_, by (with_reducible repeat (first | apply Kd.S_alloc | apply Kd.S_drewN | apply Kd.S_drew)); exact Kd.S_mono (Kd.S_far (p := ⟨gb386, 1, none⟩) (Kd.S_far (p := ⟨gb386, 0, none⟩) (Kd.S_types HO415.out BK386.out (by decide)) (fun _ hk => hk.2) (.slice Ao71 t413.length co71)) (fun _ hk => hk.2) (.slice Ao73 t416.length co73)) (fun _ hk => hk.1.1.1.1.1.1), by (with_reducible repeat (first | apply Kd.S_alloc | apply Kd.S_drewN | apply Kd.S_drew)); exact Kd.S_mono (Kd.S_far (p := ⟨gb386, 1, none⟩) (Kd.S_far (p := ⟨gb386, 0, none⟩) (Kd.S_types HO418.out BK386.out (by decide)) (fun _ hk => hk.2) (.slice Ao71 t413.length co71)) (fun _ hk => hk.2) (.slice Ao73 t416.length co73)) (fun _ hk => hk.1.1.1.1.1.1), zh HB.out⟩
                             ·replace c58 := Bool.eq_false_iff.mpr c58
                              subst c58
                              rw [if_neg zF] at H
                              have H' := Aside0.mk H
                              clear H
                              have hnb74 := NB385_386.out
                              have hnc74 := NB386_385.out
                              obtain ⟨hcz75_0, hcz75_1, hfz75_0, hfz75_1⟩ := zC2 BK385
                              obtain ⟨⟨ad400, e400, hx400_0⟩, p400, q400⟩ := zW (Kd.at_bool HR0_1.out (Go.bits .or .i64 (Go.bits .and .i64 (rd t387 x18_1) (rd y391 x27_2)) (Go.bits .andNot .i64 (Go.bits .or .i64 (rd t387 x18_1) (rd y391 x27_2)) (rd t387 x47_4))))
                              (try rw [← Nbq49.out] at hx400_0)
                              cases e400
                              (try replace hx400_0 := zx HB.out hx400_0)
                              have q76 : (x47_4 : Int) ≤ ((t387.length : Int) : Int) := zk
                              obtain ⟨i076, hi076, _, hsz76, _⟩ := info_parts info3
                              have hroom76 : t387.length ≤ co9 := (Kd.R_reads' HO_6.out).2.1
                              have hC76 : Kd.C (Kd.int .i64) _ (some ad390) t387.length t387 := (Kd.R_reads' HO_6.out).2.2
                              have q076 : (0 : Int) ≤ (x47_4 : Int) := zk
                              have hcut76 := cut_from (P := Tryz.prog) 65 3 .i64 Tryz.underlying65 hi076 1 hsz76 (some ad390) t387.length co9 x47_4 q076 q76
                              have hr76 := Kd.C_drop (m := (x47_4 : Int).toNat) (c := co9) hC76 (by omega) hroom76
                              obtain ⟨A76, hA76⟩ : ∃ A1, A1 = (if co9 = (x47_4 : Int).toNat then (some ad390) else ((some ad390) : Option Addr).map (·.add ((x47_4 : Int).toNat * 1))) := ⟨_, rfl⟩
                              obtain ⟨c76, hc76⟩ : ∃ c1, c1 = co9 - (x47_4 : Int).toNat := ⟨_, rfl⟩
                              have hy76 : y401.length = t387.length - (x47_4 : Int).toNat := (by rw [Ny401.out, List.length_drop] <;> omega)
                              rw [show (t387).drop (x47_4 : Int).toNat = y401 from Ny401.out.symm] at hr76
                              replace hr76 : Kd.C (Kd.int .i64) _ A76 y401.length y401 := (by rw [hA76]; exact hr76)
                              rw [← hy76, ← hA76, ← hc76] at hcut76
                              have HR404 := Aside0.mk hr76
                              have HC404 := Aside0.mk (show y401.length ≤ c76 from by rw [hy76, hc76]; exact Nat.sub_le_sub_right hroom76 _)
                              clear hr76 hC76 hroom76 hi076 hsz76 hc76
                              have KY76 := Aside0.mk hy76
                              have KA76 := Aside0.mk hA76
                              clear hy76 hA76
                              have KL76 := Aside0.mk (show (x47_4 : Int).toNat ≤ t387.length from by omega)
                              replace q76 := eq_true q76
                              go_wp2_with (first | (go_at_call 133; (with_reducible refine (slices_Contains_int_int.calls kj33 _ _ y401 (Go.bits .or .i64 (Go.bits .and .i64 (rd t387 x18_1) (rd y391 x27_2)) (Go.bits .andNot .i64 (Go.bits .or .i64 (rd t387 x18_1) (rd y391 x27_2)) (rd t387 x47_4))) true _ ?side1 ?side2 A55.out).mono ?_); (case side1 => repeat (first | exact (by repeat (first | (with_reducible exact HR404.out) | (with_reducible refine Kd.C_alloc ?_ _) | (with_reducible refine Kd.C_drewN ?_ _) | (with_reducible refine Kd.C_drew ?_) | exact HR404.out)) | (with_reducible refine Kd.C_alloc ?_ _) | (with_reducible refine Kd.C_drewN ?_ _) | (with_reducible refine Kd.C_drew ?_))); (case side2 => exact HC404.out); rintro e w' ⟨rfl, ⟨nd, rfl⟩⟩))
                              rw [← Array.append_assoc]
                              refine (hp_.out _ (rd t387 x18_1) (rd y391 x27_2) (rd t387 x47_4) (Go.bits .or .i64 (Go.bits .and .i64 (rd t387 x18_1) (rd y391 x27_2)) (Go.bits .andNot .i64 (Go.bits .or .i64 (rd t387 x18_1) (rd y391 x27_2)) (rd t387 x47_4))) false (zh HB.out) A57.out).mono ?_
                              rename_i K_ hK_
                              rintro e w77 ⟨rfl, hb⟩
                              (have n0_ := Aside0.mk (Kd.R_below (zr HO_6.out) hb); have n1_ := Aside0.mk (Kd.R_below (zr HO_16.out) hb); have n2_ := Aside0.mk (Kd.R_below (zr HO_45.out) hb); have n3_ := Aside0.mk (blk_below (g := gb385) (o := .cells #[.int .i64 a0_0, .slice (some ad400) l0_1.length c0_1] 61 (0, 0)) (zb BK385.out) hb); have n4_ := Aside0.mk (blk_below (g := gb386) (o := .cells #[.slice none 0 0, .slice none 0 0] 86 (0, 0)) (zb BK386.out) hb); have n5_ := Aside0.mk (Kd.C_below (Kd.C_drewN HR394.out _) hb); have n6_ := Aside0.mk (Kd.C_below (Kd.C_drewN HR404.out _) hb); have n7_ := Aside0.mk (below_step (zh HB.out) hb); clear HO_6; clear HO_16; clear HO_45; clear BK385; clear BK386; clear HR394; clear HR404; clear HB; have HO_6 := n0_; have HO_16 := n1_; have HO_45 := n2_; have BK385 := n3_; have BK386 := n4_; have HR394 := n5_; have HR404 := n6_; have HB := n7_; clear n0_ n1_ n2_ n3_ n4_ n5_ n6_ n7_; (try clear hb); (try clear hb2); (try clear hk); (try clear hi))
                              refine hK_ _ _ ?_
                              clear hK_ K_
                              go_wp2
                              go_roundg kj33
                              case measure => have := HK1.out; have := HK2.out; have := HJ18.out; have := HK4.out; have := HJ33.out; omega
                              case rel => exact ⟨(wrap64 (x47_4 + 1)), zE, H', ⟨by have := HK1.out; have := HK2.out; have := HJ18.out; have := HK4.out; have := HJ33.out; omega⟩, ⟨zr HO_6.out⟩, ⟨zr HO_16.out⟩, ⟨zr HO_45.out⟩, ⟨zb BK385.out⟩, ⟨zb BK386.out⟩, ⟨by repeat (first | (with_reducible exact HR394.out) | (with_reducible refine Kd.C_alloc ?_ _) | (with_reducible refine Kd.C_drewN ?_ _) | (with_reducible refine Kd.C_drew ?_) | exact HR394.out)⟩, ⟨zh HB.out⟩⟩
                            ·replace c56 := Bool.eq_false_iff.mpr c56
                             subst c56
                             rw [if_neg zF] at H
                             have H' := Aside0.mk H
                             clear H
                             have hnb78 := NB385_386.out
                             have hnc78 := NB386_385.out
                             obtain ⟨hcz79_0, hcz79_1, hfz79_0, hfz79_1⟩ := zC2 BK385
                             obtain ⟨⟨ad400, e400, hx400_0⟩, p400, q400⟩ := zW (Kd.at_bool HR0_1.out (Go.bits .or .i64 (Go.bits .and .i64 (rd t387 x18_1) (rd y391 x27_2)) (Go.bits .andNot .i64 (Go.bits .or .i64 (rd t387 x18_1) (rd y391 x27_2)) (rd t387 x47_4))))
                             (try rw [← Nbq49.out] at hx400_0)
                             cases e400
                             (try replace hx400_0 := zx HB.out hx400_0)
                             have q80 : (x47_4 : Int) ≤ ((t387.length : Int) : Int) := zk
                             obtain ⟨i080, hi080, _, hsz80, _⟩ := info_parts info3
                             have hroom80 : t387.length ≤ co9 := (Kd.R_reads' HO_6.out).2.1
                             have hC80 : Kd.C (Kd.int .i64) _ (some ad390) t387.length t387 := (Kd.R_reads' HO_6.out).2.2
                             have q080 : (0 : Int) ≤ (x47_4 : Int) := zk
                             have hcut80 := cut_from (P := Tryz.prog) 65 3 .i64 Tryz.underlying65 hi080 1 hsz80 (some ad390) t387.length co9 x47_4 q080 q80
                             have hr80 := Kd.C_drop (m := (x47_4 : Int).toNat) (c := co9) hC80 (by omega) hroom80
                             obtain ⟨A80, hA80⟩ : ∃ A1, A1 = (if co9 = (x47_4 : Int).toNat then (some ad390) else ((some ad390) : Option Addr).map (·.add ((x47_4 : Int).toNat * 1))) := ⟨_, rfl⟩
                             obtain ⟨c80, hc80⟩ : ∃ c1, c1 = co9 - (x47_4 : Int).toNat := ⟨_, rfl⟩
                             have hy80 : y401.length = t387.length - (x47_4 : Int).toNat := (by rw [Ny401.out, List.length_drop] <;> omega)
                             rw [show (t387).drop (x47_4 : Int).toNat = y401 from Ny401.out.symm] at hr80
                             replace hr80 : Kd.C (Kd.int .i64) _ A80 y401.length y401 := (by rw [hA80]; exact hr80)
                             rw [← hy80, ← hA80, ← hc80] at hcut80
                             have HR404 := Aside0.mk hr80
                             have HC404 := Aside0.mk (show y401.length ≤ c80 from by rw [hy80, hc80]; exact Nat.sub_le_sub_right hroom80 _)
                             clear hr80 hC80 hroom80 hi080 hsz80 hc80
                             have KY80 := Aside0.mk hy80
                             have KA80 := Aside0.mk hA80
                             clear hy80 hA80
                             have KL80 := Aside0.mk (show (x47_4 : Int).toNat ≤ t387.length from by omega)
                             replace q80 := eq_true q80
                             go_wp2_with (first | (go_at_call 133; (with_reducible refine (slices_Contains_int_int.calls kj33 _ _ y401 (Go.bits .or .i64 (Go.bits .and .i64 (rd t387 x18_1) (rd y391 x27_2)) (Go.bits .andNot .i64 (Go.bits .or .i64 (rd t387 x18_1) (rd y391 x27_2)) (rd t387 x47_4))) false _ ?side1 ?side2 A55.out).mono ?_); (case side1 => repeat (first | exact (by repeat (first | (with_reducible exact HR404.out) | (with_reducible refine Kd.C_alloc ?_ _) | (with_reducible refine Kd.C_drewN ?_ _) | (with_reducible refine Kd.C_drew ?_) | exact HR404.out)) | (with_reducible refine Kd.C_alloc ?_ _) | (with_reducible refine Kd.C_drewN ?_ _) | (with_reducible refine Kd.C_drew ?_))); (case side2 => exact HC404.out); rintro e w' ⟨rfl, ⟨nd, rfl⟩⟩))
                             go_roundg kj33
                             case measure => have := HK1.out; have := HK2.out; have := HJ18.out; have := HK4.out; have := HJ33.out; omega
                             case rel => exact ⟨(wrap64 (x47_4 + 1)), zE, H', ⟨by have := HK1.out; have := HK2.out; have := HJ18.out; have := HK4.out; have := HJ33.out; omega⟩, ⟨zr HO_6.out⟩, ⟨zr HO_16.out⟩, ⟨zr HO_45.out⟩, ⟨zb BK385.out⟩, ⟨zb BK386.out⟩, ⟨by repeat (first | (with_reducible exact HR394.out) | (with_reducible refine Kd.C_alloc ?_ _) | (with_reducible refine Kd.C_drewN ?_ _) | (with_reducible refine Kd.C_drew ?_) | exact HR394.out)⟩, ⟨zh HB.out⟩⟩
                           ·rw [if_neg c54] at H
                            cases H
                          ·rw [if_neg c53] at H
                           cases H
                        ·rw [if_neg c48] at H
                         cases H
                       ·rw [if_neg c47] at H
                        cases H
                   ·rw [if_neg c33] at H
                    cases H
                  ·rw [if_neg c32] at H
                   cases H
                 ·rw [if_neg c31] at H
                  have c31b0 := decide_eq_false c31
                  clear c31
                  have H' := Aside0.mk H
                  clear H
                  go_wp2
                  go_roundg k4
                  case measure => have := HK1.out; have := HK2.out; have := HJ18.out; have := HK4.out; omega
                  case rel => exact ⟨(wrap64 (x27_2 + 1)), zE, H', ⟨by have := HK1.out; have := HK2.out; have := HJ18.out; have := HK4.out; omega⟩, ⟨zr HO_6.out⟩, ⟨zr HO_16.out⟩, ⟨zb BK385.out⟩, ⟨zb BK386.out⟩, ⟨by repeat (first | (with_reducible exact HR394.out) | (with_reducible refine Kd.C_alloc ?_ _) | (with_reducible refine Kd.C_drewN ?_ _) | (with_reducible refine Kd.C_drew ?_) | exact HR394.out)⟩, ⟨zh HB.out⟩⟩
           ·rw [if_neg c18] at H
            cases H
          ·rw [if_neg c17] at H
           cases H
         ·rw [if_neg c16] at H
          have c16b0 := decide_eq_false c16
          clear c16
          have H' := Aside0.mk H
          clear H
          go_wp2
          go_roundg k2
          case measure => have := HK1.out; have := HK2.out; omega
          case rel => exact ⟨(wrap64 (x18_1 + 1)), zE, H', zO2 HK1 HK2, ⟨zr HO_6.out⟩, ⟨zr HO_16.out⟩, ⟨zb BK385.out⟩, ⟨zb BK386.out⟩, ⟨zh HB.out⟩⟩
      ·rw [if_neg c14] at H
       cases H
     ·rw [if_neg c12] at H
      cases H
    ·rw [if_neg c11] at H
     cases H
   ·rw [if_neg c10] at H
    have c10b0 := decide_eq_false c10
    clear c10
    simp only [Option.some.injEq, Prod.mk.injEq] at H
    obtain ⟨rfl, rfl, rfl⟩ := H
    have hnb81 := NB386_385.out
    have hnc81 := NB385_386.out
    obtain ⟨hcz82_0, hcz82_1, hfz82_0, hfz82_1⟩ := zC2 BK386
    go_wp2
    refine bodyPost_ret (results_ct rfl _ _ gb386 86 #[.slice none 0 0, .slice none 0 0] (0, 0) _ rfl (by (with_reducible repeat (first | refine blk_drewN ?_ _ | refine blk_drew ?_ | refine blk_alloc ?_ _)); refine blk_put (cs := #[.slice none 0 0, .slice none 0 0]) ?_ 1 _ rfl; (with_reducible repeat (first | refine blk_drewN ?_ _ | refine blk_drew ?_ | refine blk_alloc ?_ _)); refine blk_put (cs := #[.slice none 0 0, .slice none 0 0]) ?_ 0 _ rfl; (with_reducible repeat (first | refine blk_drewN ?_ _ | refine blk_drew ?_ | refine blk_alloc ?_ _)); exact BK386.out) Tryz.underlying86 rfl (by kernel_rfl)) rfl ?_
    exact ⟨_, _, by first | rfl | (simp [*, errW_none, errW_some] <;> rfl), fun _ => true, by first | exact Kd.S_nil _ _ _ _ _ | exact Kd.N_nil _ _ _ _ _ | exact Kd.V_nil _ _ _ _ _ | exact Kd.Q_nil _ _ _ _ _ | exact Kd.R_nil _ _ _ _ _, by first | exact Kd.S_nil _ _ _ _ _ | exact Kd.N_nil _ _ _ _ _ | exact Kd.V_nil _ _ _ _ _ | exact Kd.Q_nil _ _ _ _ _ | exact Kd.R_nil _ _ _ _ _, zh HB.out⟩
end
end Go.Proofs.YtmbkmabpebjboaaGreat.Q
end
section
namespace Go.Proofs.YtmbkmabpebjboaaGreat.Q
open Go.RowKit Go.Proofs.YtmbkmabpebjboaaGreatW.PrintWords Go.Proofs.YtmbkmabpebjboaaGreatW.PrintLast Go.Proofs.YtmbkmabpebjboaaGreatW.PrintMore
set_option linter.unusedVariables false
set_option linter.unusedSimpArgs false
theorem firstTrade_1.pred (w : World) : PredI4 Tryz.prog 104 #[] #[] w (fun _ _ _ _ => some true) := by
  intro W x y z u b hb hp
  obtain rfl := Option.some.inj hp
  show Calls Tryz.prog 104 #[.int .i64 x, .int .i64 y, .int .i64 z, .int .i64 u] W _
  clear hp
  go_enter Tryz.func104, Tryz.ntmps104
  go_wp2
  go_ret
  exact ⟨rfl, Below.refl _ _⟩
def firstOfAny.f (k : Nat) (a0_0 : Int) (l0_1 : List Bool) : Option ((List (List Int)) × (List (List Int)) × Bool) := impl_votes_firstOfTwo.f k a0_0 l0_1 (fun _ _ _ _ => some true)
theorem firstOfAny.calls (k : Nat) (a0_0 : Int) (A0_1 : Option Addr) (c0_1 : Nat) (l0_1 : List Bool) (r1 : List (List Int)) (r2 : List (List Int)) (r3 : Bool) (w : World) (hr0_1 : Kd.C Kd.bool w A0_1 l0_1.length l0_1) (hc0_1 : l0_1.length ≤ c0_1) (h : firstOfAny.f k a0_0 l0_1 = some (r1, r2, r3)) :
    Calls Tryz.prog 103 #[.agg #[.int .i64 a0_0, .slice A0_1 l0_1.length c0_1], .func (.func 104) #[] #[]] w fun e w' => ∃ v0_ v1_ : Value, e = .returned (.tuple #[.agg #[v0_, v1_], .bool r3]) ∧ ∃ ow_ : Nat → Bool, Kd.S (Kd.slice 3 (Kd.int .i64)) 65 w' w.heap.size (fun k_ => ow_ k_ = true) v0_ r1 ∧ Kd.S (Kd.slice 3 (Kd.int .i64)) 65 w' w.heap.size (fun k_ => ow_ k_ = false) v1_ r2 ∧ Below w.heap.size w w' :=
  impl_votes_firstOfTwo.calls k a0_0 A0_1 c0_1 l0_1 _ 104 #[] #[] (enters_of Tryz.func104 (by kernel_rfl) rfl) r1 r2 r3 w (firstTrade_1.pred w) hr0_1 hc0_1 h
end Go.Proofs.YtmbkmabpebjboaaGreat.Q
end
section
namespace Go.Proofs.YtmbkmabpebjboaaGreat.Q
open Go.RowKit Go.Proofs.YtmbkmabpebjboaaGreatW.PrintWords Go.Proofs.YtmbkmabpebjboaaGreatW.PrintLast Go.Proofs.YtmbkmabpebjboaaGreatW.PrintMore
attribute [local go_sem] max2_int min2_int max_two min_two max_three min_three max_four min_four
set_option linter.unusedVariables false
set_option linter.unusedSimpArgs false
def impl_votes_firstTrade.f (k : Nat) (a0_0 : Int) (l0_1 : List Bool) : Option ((List (List Int)) × (List (List Int)) × Bool) := (firstOfAny.f k a0_0 l0_1).bind fun bt421 => (some (bt421.1, bt421.2.1, bt421.2.2))
set_option maxHeartbeats 8000000 in
set_option maxRecDepth 100000 in
theorem impl_votes_firstTrade.calls (k : Nat) (a0_0 : Int) (A0_1 : Option Addr) (c0_1 : Nat) (l0_1 : List Bool) (r1 : List (List Int)) (r2 : List (List Int)) (r3 : Bool) (w : World) (hr0_1 : Kd.C Kd.bool w A0_1 l0_1.length l0_1) (hc0_1 : l0_1.length ≤ c0_1) (h : impl_votes_firstTrade.f k a0_0 l0_1 = some (r1, r2, r3)) :
  Calls Tryz.prog 59 #[.agg #[.int .i64 a0_0, .slice A0_1 l0_1.length c0_1]] w fun e w' => ∃ v0_ v1_ : Value, e = .returned (.tuple #[.agg #[v0_, v1_], .bool r3]) ∧ ∃ ow_ : Nat → Bool, Kd.S (Kd.slice 3 (Kd.int .i64)) 65 w' w.heap.size (fun k_ => ow_ k_ = true) v0_ r1 ∧ Kd.S (Kd.slice 3 (Kd.int .i64)) 65 w' w.heap.size (fun k_ => ow_ k_ = false) v1_ r2 ∧ Below w.heap.size w w' := by
 have hu61 := Tryz.underlying61
 have hu86 := Tryz.underlying86
 have HR0_1 := Aside0.mk hr0_1
 have HC0_1 := Aside0.mk hc0_1
 clear hr0_1 hc0_1
 have HB := Aside0.mk (Below.refl w.heap.size w)
 have H : ((firstOfAny.f k a0_0 l0_1).bind fun bt421 => (some (bt421.1, bt421.2.1, bt421.2.2))) = some (r1, r2, r3) := h
 clear h
 replace H := Option.bind_eq_some_iff.mp H
 obtain ⟨⟨t421, t424, t427⟩, A20, H⟩ := H
 replace H : (some (t421, t424, t427)) = some (r1, r2, r3) := H
 have A2 := Aside0.mk A20
 clear A20
 simp only [Option.some.injEq, Prod.mk.injEq] at H
 obtain ⟨rfl, rfl, rfl⟩ := H
 go_enter Tryz.func59, Tryz.ntmps59
 go_wp2_with (first | ((with_reducible refine gate_dst (N := 1) rfl ?_); refine zq 1 #[.int .i64 a0_0, .slice A0_1 l0_1.length c0_1] 61 ?_; intro gb419 hg w3 hbox hb; have GW419 := zG hg HB; replace HB := zH hb HB; have BK419 := Aside0.mk hbox; have GE419 := GW419; clear hb hbox hg) | ((with_reducible refine gate_dst (N := 2) rfl ?_); refine zq 2 #[.slice none 0 0, .slice none 0 0] 86 ?_; intro gb420 hg w4 hbox hb; have BK420 := Aside0.mk hbox; have GW420 := zG hg HB; have GE420 := zG hg HB; have NB419_420 := zNa hg BK419; have NB420_419 := zNb hg BK419; replace BK419 := zK BK419 hb; replace HB := zH hb HB; clear hb hbox hg; have hnb5 := NB419_420.out; have hnc5 := NB420_419.out; obtain ⟨hcz6_0, hcz6_1, hfz6_0, hfz6_1⟩ := zC2 BK419) | ((with_reducible refine gate_callee (f := 103) rfl ?_); refine zl 5 Tryz.func103 #[.agg #[.int .i64 a0_0, .slice A0_1 l0_1.length c0_1], .func (.func 104) #[] #[]] ?_; (with_reducible refine (firstOfAny.calls k a0_0 _ _ l0_1 t421 t424 t427 _ ?side1 ?side2 A2.out).mono ?_); (case side1 => exact zQ (Kd.C_below HR0_1.out HB.out)); (case side2 => exact HC0_1.out); rintro e w7 ⟨v422, v425, rfl, ow_, ho0, ho1, hb⟩; refine ⟨_, rfl, ?_⟩; have HO423 := Aside0.mk (Kd.S_lower ho0 (below_size (zh HB.out))); have HO426 := Aside0.mk (Kd.S_lower ho1 (below_size (zh HB.out))); replace BK419 := zK BK419 hb; replace BK420 := zK BK420 hb; replace HB := zH hb HB; clear hb; (try clear ho0); (try clear ho1); obtain ⟨Ao8, co8, eo8⟩ := Kd.S_slice HO423.out; subst eo8; obtain ⟨hcz9_0, hcz9_1, hfz9_0, hfz9_1⟩ := zC2 BK420; obtain ⟨Ao10, co10, eo10⟩ := Kd.S_slice HO426.out; subst eo10))
 refine bodyPost_ret (results_ct rfl _ _ gb420 86 #[.slice Ao8 t421.length co8, .slice Ao10 t424.length co10] (0, 0) _ rfl (by (with_reducible repeat (first | refine blk_drewN ?_ _ | refine blk_drew ?_ | refine blk_alloc ?_ _)); refine blk_put (cs := #[.slice Ao8 t421.length co8, .slice none 0 0]) ?_ 1 _ rfl; (with_reducible repeat (first | refine blk_drewN ?_ _ | refine blk_drew ?_ | refine blk_alloc ?_ _)); refine blk_put (cs := #[.slice none 0 0, .slice none 0 0]) ?_ 0 _ rfl; (with_reducible repeat (first | refine blk_drewN ?_ _ | refine blk_drew ?_ | refine blk_alloc ?_ _)); exact BK420.out) Tryz.underlying86 rfl (by kernel_rfl)) rfl ?_
 exact ⟨_, _, by first | rfl | (simp [*, errW_none, errW_some] <;> rfl), ow_, by (with_reducible repeat (first | apply Kd.S_alloc | apply Kd.S_drewN | apply Kd.S_drew)); exact Kd.S_mono (Kd.S_far (p := ⟨gb420, 1, none⟩) (Kd.S_far (p := ⟨gb420, 0, none⟩) (Kd.S_types HO423.out BK420.out (by decide)) (fun _ hk => hk.2) (.slice Ao8 t421.length co8)) (fun _ hk => hk.2) (.slice Ao10 t424.length co10)) (fun _ hk => hk.1), by (with_reducible repeat (first | apply Kd.S_alloc | apply Kd.S_drewN | apply Kd.S_drew)); exact Kd.S_mono (Kd.S_far (p := ⟨gb420, 1, none⟩) (Kd.S_far (p := ⟨gb420, 0, none⟩) (Kd.S_types HO426.out BK420.out (by decide)) (fun _ hk => hk.2) (.slice Ao8 t421.length co8)) (fun _ hk => hk.2) (.slice Ao10 t424.length co10)) (fun _ hk => hk.1), zh HB.out⟩
end Go.Proofs.YtmbkmabpebjboaaGreat.Q
end
section
namespace Go.Proofs.YtmbkmabpebjboaaGreat.Q
open Go.RowKit Go.Proofs.YtmbkmabpebjboaaGreatW.PrintWords Go.Proofs.YtmbkmabpebjboaaGreatW.PrintLast Go.Proofs.YtmbkmabpebjboaaGreatW.PrintMore
set_option linter.unusedVariables false
set_option linter.unusedSimpArgs false
set_option maxHeartbeats 1000000 in
theorem impl_allGames_1.pred (t : Int) (b1 : Nat) (w : World) (h1 : w.cell? ⟨b1, 0, none⟩ = some (.int .i64 t)) : PredI Tryz.prog 97 #[] #[.pointer (some ⟨b1, 0, none⟩)] w (fun mask => impl_has.f t mask) := by
  intro W x b hb hp
  show Calls Tryz.prog 97 #[.int .i64 x, .pointer (some ⟨b1, 0, none⟩)] W _
  have q1 := (hb.cell (World.block_lt_of_cell? w _ h1)).trans h1
  have hE := Aside0.mk hp
  clear h1 hb hp
  go_enter Tryz.func97, Tryz.ntmps97
  go_wp2_with (go_at_call 98; refine (impl_has.calls t x b _ hE.out).mono ?_; rintro e w' ⟨rfl, hq⟩; have HQ := Aside0.mk hq; clear hq)
  go_ret
  exact ⟨rfl, HQ.out.below⟩
def votesOf_allGames.f (k : Nat) (a0 t : Int) : Option (Int × List Bool) := impl_votesOf.f k a0 (fun mask => impl_has.f t mask)
theorem votesOf_allGames.mono : ∀ a0 t k, LeO (votesOf_allGames.f k a0 t) (votesOf_allGames.f (k + 1) a0 t) := fun a0 t k => impl_votesOf.mono a0 _ k
theorem votesOf_allGames.calls (k : Nat) (a0 t : Int) (r1 : Int) (r2 : List Bool) (w : World) (gb : Nat) (hcell : w.cell? ⟨gb, 0, none⟩ = some (.int .i64 t)) (h : votesOf_allGames.f k a0 t = some (r1, r2)) :
    Calls Tryz.prog 92 #[.int .i64 a0, .func (.func 97) #[] #[.pointer (some ⟨gb, 0, none⟩)]] w fun e w' => ∃ v1_ : Value, e = .returned (.agg #[.int .i64 r1, v1_]) ∧ Kd.R Kd.bool 4 w' w.heap.size (fun _ => True) v1_ r2 ∧ Below w.heap.size w w' :=
  impl_votesOf.calls k a0 _ 97 #[] #[.pointer (some ⟨gb, 0, none⟩)] (enters_of Tryz.func97 (by kernel_rfl) rfl) r1 r2 w (impl_allGames_1.pred t gb w hcell) h
theorem isLeast.predL (k : Nat) (n : Int) (A : Option Addr) (c : Nat) (l : List Bool) (w : World) (hC : Kd.C Kd.bool w A l.length l) (hc : l.length ≤ c) : PredI Tryz.prog 145 #[.agg #[.int .i64 n, .slice A l.length c]] #[] w (impl_votes_isLeast.f k n l) :=
  fun W x b hb hp => impl_votes_isLeast.calls k n A c l x b W (Kd.C_below hC hb) hc hp
def impl_votes_least.f (k : Nat) (n : Int) (l : List Bool) : Option (List (List Int)) := impl_votes_sets.f k n l (impl_votes_isLeast.f k n l)
theorem sets_pmono {p q : Int → Option Bool} (h : ∀ x, LeO (p x) (q x)) : ∀ k x5 x10 x11, LeO (impl_votes_sets.l0 p k x5 x10 x11) (impl_votes_sets.l0 q k x5 x10 x11)
  | 0, _, _, _ => fun r h => by simp [impl_votes_sets.l0] at h
  | k + 1, x5, x10, x11 => by
    unfold impl_votes_sets.l0
    refine LeO.ite (LeO.bind (h _) fun _ => LeO.ite (LeO.bind (LeO.refl _) fun _ => LeO.ite (sets_pmono h k _ _ _) (LeO.refl _)) (sets_pmono h k _ _ _)) (LeO.refl _)
theorem impl_votes_least.mono : ∀ n l k, LeO (impl_votes_least.f k n l) (impl_votes_least.f (k + 1) n l) := by
  intro n l k r hr
  have h1 := impl_votes_sets.mono n l (impl_votes_isLeast.f k n l) k r hr
  unfold impl_votes_least.f impl_votes_sets.f at *
  exact sets_pmono (fun x => impl_votes_isLeast.mono n l x k) _ _ _ _ _ h1
set_option maxHeartbeats 1000000 in
theorem impl_votes_least.calls (k : Nat) (n : Int) (A : Option Addr) (c : Nat) (l : List Bool) (r : List (List Int)) (w : World) (hC : Kd.C Kd.bool w A l.length l) (hc : l.length ≤ c) (h : impl_votes_least.f k n l = some r) :
    Calls Tryz.prog 128 #[.agg #[.int .i64 n, .slice A l.length c]] w fun e w' => ∃ v0_ : Value, e = .returned v0_ ∧ Kd.S (Kd.slice 3 (Kd.int .i64)) 65 w' w.heap.size (fun _ => True) v0_ r ∧ Below w.heap.size w w' := by
  have HC := Aside0.mk hC
  have HH := Aside0.mk h
  have u1 := Tryz.underlying61
  clear hC h
  go_enter Tryz.func128, Tryz.ntmps128
  go_wp2_with fail
  have hb : ∀ o : Obj, Below w.heap.size w (w.alloc o) := fun _ => (Below.refl _ w).alloc (Nat.le_refl _) _
  refine (impl_votes_sets.calls k n A c l _ 145 #[.agg #[.int .i64 n, .slice A l.length c]] #[] (enters_of Tryz.func145 (by kernel_rfl) rfl) r _ (isLeast.predL k n A c l _ (Kd.C_alloc HC.out _) hc) (Kd.C_alloc HC.out _) hc HH.out).mono ?_
  rintro e w1 ⟨v0, rfl, hS, hb1⟩
  have HS := Aside0.mk hS
  have HB := Aside0.mk hb1
  clear hS hb1
  go_wp2
  go_ret
  exact ⟨v0, rfl, Kd.S_lower HS.out (hb _).size, (hb _).trans (HB.out.mono (hb _).size)⟩
end Go.Proofs.YtmbkmabpebjboaaGreat.Q
end
section
namespace Go.Proofs.YtmbkmabpebjboaaGreat.Q
open Go.RowKit Go.Proofs.YtmbkmabpebjboaaGreatW.PrintWords Go.Proofs.YtmbkmabpebjboaaGreatW.PrintLast Go.Proofs.YtmbkmabpebjboaaGreatW.PrintMore
attribute [local go_sem] max2_int min2_int max_two min_two max_three min_three max_four min_four
set_option linter.unusedVariables false
set_option linter.unusedSimpArgs false
def impl_votes_game.f (k : Nat) (a0_0 : Int) (l0_1 : List Bool) : Option (Int × (List (List Int))) := (impl_votes_least.f k a0_0 l0_1).bind fun t329 => (some (a0_0, t329))
theorem impl_votes_game.mono : ∀ a0 a1 k, LeO (impl_votes_game.f k a0 a1) (impl_votes_game.f (k + 1) a0 a1) := by
 intro a0 a1 k
 unfold impl_votes_game.f
 repeat' first
   | (with_reducible exact impl_votes_least.mono _ _ _)
   | (with_reducible exact LeO.refl _)
   | (with_reducible exact LeO.none _)
   | (with_reducible refine LeO.ite ?_ ?_)
   | (with_reducible refine LeO.bind ?_ (fun _ => ?_))
   | exact impl_votes_least.mono _ _ _
   | exact LeO.none _
   | refine LeO.ite ?_ ?_
   | refine LeO.bind ?_ (fun _ => ?_)
set_option maxHeartbeats 8000000 in
set_option maxRecDepth 100000 in
theorem impl_votes_game.calls (k : Nat) (a0_0 : Int) (A0_1 : Option Addr) (c0_1 : Nat) (l0_1 : List Bool) (r1 : Int) (r2 : List (List Int)) (w : World) (hr0_1 : Kd.C Kd.bool w A0_1 l0_1.length l0_1) (hc0_1 : l0_1.length ≤ c0_1) (h : impl_votes_game.f k a0_0 l0_1 = some (r1, r2)) :
  Calls Tryz.prog 100 #[.agg #[.int .i64 a0_0, .slice A0_1 l0_1.length c0_1]] w fun e w' => ∃ v1_ : Value, e = .returned (.agg #[.int .i64 r1, v1_]) ∧ Kd.S (Kd.slice 3 (Kd.int .i64)) 65 w' w.heap.size (fun _ => True) v1_ r2 ∧ Below w.heap.size w w' := by
 have hu61 := Tryz.underlying61
 have hu28 := Tryz.underlying28
 have HR0_1 := Aside0.mk hr0_1
 have HC0_1 := Aside0.mk hc0_1
 clear hr0_1 hc0_1
 have HB := Aside0.mk (Below.refl w.heap.size w)
 have H : ((impl_votes_least.f k a0_0 l0_1).bind fun t329 => (some (a0_0, t329))) = some (r1, r2) := h
 clear h
 replace H := Option.bind_eq_some_iff.mp H
 obtain ⟨t329, A20, H⟩ := H
 replace H : (some (a0_0, t329)) = some (r1, r2) := H
 have A2 := Aside0.mk A20
 clear A20
 simp only [Option.some.injEq, Prod.mk.injEq] at H
 obtain ⟨rfl, rfl⟩ := H
 go_enter Tryz.func100, Tryz.ntmps100
 try go_wp2_with (first | ((with_reducible refine gate_dst (N := 1) rfl ?_); refine zq 1 #[.int .i64 a0_0, .slice A0_1 l0_1.length c0_1] 61 ?_; intro gb327 hg w3 hbox hb; have GW327 := zG hg HB; replace HB := zH hb HB; have BK327 := Aside0.mk hbox; have GE327 := GW327; clear hb hbox hg) | ((with_reducible refine gate_dst (N := 2) rfl ?_); refine zq 2 #[.int .i64 0, .slice none 0 0] 28 ?_; intro gb328 hg w4 hbox hb; have BK328 := Aside0.mk hbox; have GW328 := zG hg HB; have GE328 := zG hg HB; have NB327_328 := zNa hg BK327; have NB328_327 := zNb hg BK327; replace BK327 := zK BK327 hb; replace HB := zH hb HB; clear hb hbox hg))
 have n0_ := Aside0.mk (blk_drew BK327.out)
 have n1_ := Aside0.mk (blk_drew BK328.out)
 have n2_ := Aside0.mk (below_drew1 HB.out)
 clear BK327 BK328 HB
 have BK327 := n0_
 have BK328 := n1_
 have HB := n2_
 clear n0_ n1_ n2_
 refine start_ (n := 6) (S := fun w' => w'.cell? ⟨gb327, 0, none⟩ = some (.int .i64 a0_0) ∧ w'.cell? ⟨gb327, 1, none⟩ = some (.slice A0_1 l0_1.length c0_1)) (ds := []) (tb 6 0) (by kernel_rfl) rfl rfl ⟨(blk_cell BK327.out 0).trans rfl, (blk_cell BK327.out 1).trans rfl⟩ (fun hHeld => ?_)
 generalize w4.drew = w5 at BK327 BK328 HB hHeld ⊢
 refine zp1 (i := 0) (N := some 3) (tb 6 1) rfl rfl (by kernel_rfl) ?_
 refine zt (i := 1) (N := some 4) (tb 6 3) rfl rfl (by kernel_rfl) hHeld ?_
 refine zt (i := 2) (N := some 5) (tb 6 7) rfl rfl (by kernel_rfl) hHeld ?_
 refine one_ (i := 3) (N := some 6) (tb 6 15) rfl rfl (by kernel_rfl) (by decide) (fun K hK => ?_)
 refine goes_ Tryz.func128 (by kernel_rfl) rfl #[.agg #[.int .i64 a0_0, .slice A0_1 l0_1.length c0_1]] (by rfl) rfl rfl (by (try simp only [List.map_toArray, List.map_cons, List.map_nil]); first | done | rfl | (simp only [List.length_drop, List.length_take]; rfl)) ?_
 with_reducible refine (impl_votes_least.calls k a0_0 _ _ l0_1 t329 _ ?side1 ?side2 A2.out).mono ?_
 (case side1 => repeat (first | exact (Kd.C_below HR0_1.out HB.out) | (with_reducible refine Kd.C_alloc ?_ _) | (with_reducible refine Kd.C_drewN ?_ _) | (with_reducible refine Kd.C_drew ?_)))
 (case side2 => exact HC0_1.out)
 rintro e w6 ⟨v330, rfl, ho0, hb⟩
 refine ⟨_, rfl, ?_⟩
 have n0_ := Aside0.mk (Kd.S_lower ho0 (below_size (zh HB.out)))
 have n1_ := Aside0.mk (blk_below (g := gb327) (o := .cells #[.int .i64 a0_0, .slice A0_1 l0_1.length c0_1] 61 (0, 0)) (zb BK327.out) hb)
 have n2_ := Aside0.mk (blk_below (g := gb328) (o := .cells #[.int .i64 0, .slice none 0 0] 28 (0, 0)) (zb BK328.out) hb)
 have n3_ := Aside0.mk (below_step (zh HB.out) hb)
 clear BK327 BK328 HB
 have HO331 := n0_
 have BK327 := n1_
 have BK328 := n2_
 have HB := n3_
 clear n0_ n1_ n2_ n3_
 (try clear hb)
 (try clear hb2)
 (try clear hk)
 (try clear hi)
 (try clear ho0)
 obtain ⟨Ao7, co7, eo7⟩ := Kd.S_slice HO331.out
 (first | subst eo7 | (injection eo7 with f1_ f2_ f3_; have f4_ := f1_.symm; have f5_ := f3_.symm; clear f1_ f2_ f3_; subst f4_; subst f5_))
 refine hK.out _ _ ⟨(blk_cell BK327.out 0).trans rfl, (blk_cell BK327.out 1).trans rfl⟩ (fun hHeld => ?_)
 clear hK K
 refine zn1 ?_
 refine zp1 (i := 4) (N := some 7) (tb 6 31) rfl rfl (by kernel_rfl) ?_
 refine one_ (i := 5) (N := none) (tb 6 63) rfl rfl (by kernel_rfl) (by decide) (fun K hK => ?_)
 have hs8 : w6.cell? ⟨gb328, 0, none⟩ = some (.int .i64 0) := (blk_cell BK328.out 0).trans rfl
 have hfs8 := blk_frozen BK328.out 0
 have hns8_0 := NB327_328.out
 have hms8_0 := NB328_327.out
 have hs9 : w6.cell? ⟨gb328, 1, none⟩ = some (.slice none 0 0) := (blk_cell BK328.out 1).trans rfl
 have hfs9 := blk_frozen BK328.out 1
 have hns9_0 := NB327_328.out
 have hms9_0 := NB328_327.out
 refine skip_ (w1 := ?_) (by rfl) rfl ?_ ?_
 rotate_left
 ·go_simp
  rfl
 refine hK.out _ _ ⟨((cell_far (p := ⟨gb328, _, none⟩) NB327_328.out _).trans (((cell_far (p := ⟨gb328, _, none⟩) NB327_328.out _).trans (hHeld.1)))), ((cell_far (p := ⟨gb328, _, none⟩) NB327_328.out _).trans (((cell_far (p := ⟨gb328, _, none⟩) NB327_328.out _).trans (hHeld.2))))⟩ (fun hHeld => ?_)
 clear hK K
 refine done_ (by kernel_rfl) ?_
 try go_wp2
 refine bodyPost_ret (results_cell_row rfl _ _ gb328 28 #[.int .i64 a0_0, .slice Ao7 t329.length co7] (0, 0) _ rfl (by (with_reducible repeat (first | refine blk_drewN ?_ _ | refine blk_drew ?_ | refine blk_alloc ?_ _)); refine blk_put (cs := #[.int .i64 a0_0, .slice none 0 0]) ?_ 1 _ rfl; (with_reducible repeat (first | refine blk_drewN ?_ _ | refine blk_drew ?_ | refine blk_alloc ?_ _)); refine blk_put (cs := #[.int .i64 0, .slice none 0 0]) ?_ 0 _ rfl; (with_reducible repeat (first | refine blk_drewN ?_ _ | refine blk_drew ?_ | refine blk_alloc ?_ _)); exact BK328.out) Tryz.underlying28 rfl (by kernel_rfl)) rfl ?_
 exact ⟨_, by first | rfl | (simp [*, errW_none, errW_some] <;> rfl), by (with_reducible repeat (first | apply Kd.S_alloc | apply Kd.S_drewN | apply Kd.S_drew)); exact Kd.S_mono (Kd.S_far (p := ⟨gb328, 1, none⟩) (Kd.S_far (p := ⟨gb328, 0, none⟩) (Kd.S_types HO331.out BK328.out (by decide)) (fun _ hk => hk.2) (.int .i64 a0_0)) (fun _ hk => hk.2) (.slice Ao7 t329.length co7)) (fun _ hk => trivial), zh HB.out⟩
end Go.Proofs.YtmbkmabpebjboaaGreat.Q
end
section
namespace Go.Proofs.YtmbkmabpebjboaaGreat.Q
open Go.RowKit Go.Proofs.YtmbkmabpebjboaaGreatW.PrintWords Go.Proofs.YtmbkmabpebjboaaGreatW.PrintLast Go.Proofs.YtmbkmabpebjboaaGreatW.PrintMore
set_option linter.unusedVariables false
set_option linter.unusedSimpArgs false
def lexG : List (List Int) → List (List Int) → Bool
  | [], [] => false
  | [], _ :: _ => true
  | _ :: _, [] => false
  | x :: xs, y :: ys => if x = y then lexG xs ys else lexB x y
def cmpG : List (List Int) → List (List Int) → Int
  | [], [] => 0
  | [], _ :: _ => -1
  | _ :: _, [] => 1
  | x :: xs, y :: ys => if x = y then cmpG xs ys else cmpL x y
theorem cmpG_lt : ∀ a b, decide (cmpG a b < 0) = lexG a b
  | [], [] => rfl
  | [], _ :: _ => rfl
  | _ :: _, [] => rfl
  | x :: xs, y :: ys => by
    unfold cmpG lexG
    by_cases h : x = y
    · rw [if_pos h, if_pos h]; exact cmpG_lt xs ys
    · rw [if_neg h, if_neg h]; exact cmpL_lt x y
theorem cmpL_zero : ∀ a b, cmpL a b = 0 ↔ a = b
  | [], [] => by simp [cmpL]
  | [], _ :: _ => by simp [cmpL]
  | _ :: _, [] => by simp [cmpL]
  | x :: xs, y :: ys => by
    unfold cmpL
    by_cases h : x = y
    · subst h; rw [if_pos rfl, cmpL_zero xs ys]; simp
    · rw [if_neg h]
      by_cases h2 : x < y
      · rw [if_pos h2]; simp [h]
      · rw [if_neg h2]; simp [h]
theorem lexG_irrefl : ∀ a, lexG a a = false
  | [] => rfl
  | x :: xs => by rw [lexG, if_pos rfl]; exact lexG_irrefl xs
theorem lexG_trans : ∀ a b c, lexG a b = true → lexG b c = true → lexG a c = true
  | [], [], _, h, _ => by cases h
  | [], _ :: _, [], _, h => by cases h
  | [], _ :: _, _ :: _, _, _ => rfl
  | _ :: _, [], _, h, _ => by cases h
  | _ :: _, _ :: _, [], _, h => by cases h
  | x :: xs, y :: ys, z :: zs, h1, h2 => by
    rw [lexG] at h1 h2 ⊢
    by_cases e1 : x = y
    · subst e1
      rw [if_pos rfl] at h1
      by_cases e2 : x = z
      · subst e2
        rw [if_pos rfl] at h2 ⊢
        exact lexG_trans xs ys zs h1 h2
      · rw [if_neg e2] at h2 ⊢; exact h2
    · rw [if_neg e1] at h1
      by_cases e2 : y = z
      · subst e2
        rw [if_neg e1]; exact h1
      · rw [if_neg e2] at h2
        have h3 := lexB_trans _ _ _ h1 h2
        rw [if_neg (fun e => by subst e; rw [lexB_irrefl] at h3; cases h3)]
        exact h3
theorem lexG_total : ∀ a b, lexG a b = false → lexG b a = false → a = b
  | [], [], _, _ => rfl
  | [], _ :: _, h, _ => by cases h
  | _ :: _, [], _, h => by cases h
  | x :: xs, y :: ys, h1, h2 => by
    rw [lexG] at h1 h2
    by_cases e : x = y
    · subst e
      rw [if_pos rfl] at h1 h2
      rw [lexG_total xs ys h1 h2]
    · rw [if_neg e] at h1
      rw [if_neg (fun q => e q.symm)] at h2
      exact absurd (lexB_total _ _ h1 h2) e
theorem lexG_asymm {a b : List (List Int)} (h : lexG a b = true) : lexG b a = false := by
  cases h2 : lexG b a
  · rfl
  · have := lexG_trans _ _ _ h h2
    rw [lexG_irrefl] at this; cases this
theorem lexG_ntrans (a b c : List (List Int)) (h1 : lexG a b = false) (h2 : lexG b c = false) : lexG a c = false := by
  cases h3 : lexG a c
  · rfl
  · cases h4 : lexG b a
    · have := lexG_total a b h1 h4
      subst this
      rw [h2] at h3; cases h3
    · rw [lexG_trans _ _ _ h4 h3] at h2; cases h2
theorem sort_filter {α : Type} (lt : α → α → Bool) (hnt : ∀ a b c, lt a b = false → lt b c = false → lt a c = false) (has : ∀ a b, lt a b = true → lt b a = false) (tot : ∀ a b, lt a b = false → lt b a = false → a = b) (p : α → Bool) (l : List α) :
    sortL lt (l.filter p) = (sortL lt l).filter p := by
  symm
  exact sortL_eq lt hnt has tot ((sortL_perm lt l).filter p) ((sortL_sorted lt hnt has l).filter p)
theorem cmpG_drop {a b : List (List Int)} {i : Nat} (h : i < a.length) : cmpG (a.drop i) (b.drop i) = if h2 : i < b.length then (if a[i] = b[i] then cmpG (a.drop (i + 1)) (b.drop (i + 1)) else cmpL a[i] b[i]) else 1 := by
  rw [List.drop_eq_getElem_cons h]
  by_cases h2 : i < b.length
  · rw [dif_pos h2, List.drop_eq_getElem_cons h2, cmpG]
  · have hb : b.drop i = [] := List.drop_of_length_le (by omega)
    rw [dif_neg h2, hb]; rfl
theorem drewN_drewN (w : World) (a b : Nat) : (w.drewN a).drewN b = w.drewN (a + b) := by
  induction b with
  | zero => rfl
  | succ b ih => exact congrArg World.drew ih
set_option maxHeartbeats 2000000 in
set_option maxRecDepth 100000 in
theorem compareFunc.calls (A B : Option Addr) (c d : Nat) (a b : List (List Int)) (w : World) (hA : Kd.C (Kd.slice 3 (Kd.int .i64)) w A a.length a) (hc : a.length ≤ c) (hB : Kd.C (Kd.slice 3 (Kd.int .i64)) w B b.length b) (hd : b.length ≤ d) (hx : ∀ x ∈ a, x.length ≤ 1152921504606846976) :
    Calls Tryz.prog 131 #[.slice A a.length c, .slice B b.length d, .func (.func 90) #[] #[]] w fun e w' => e = .returned (.int .i64 (cmpG a b)) ∧ ∃ q, w' = w.drewN q := by
  have hlm := Kd.C_max hA
  have eg : ∀ args w, (callFunc 90 args).run Tryz.prog w = .ok (.enter 90 args) w := enters_of Tryz.func90 (by kernel_rfl) rfl
  have HA := Aside0.mk hA
  have HB := Aside0.mk hB
  have HX := Aside0.mk hx
  clear hA hB hx
  generalize hr : cmpG a b = r
  have HR := Aside0.mk hr
  clear hr
  go_enter Tryz.func131, Tryz.ntmps131
  go_wp2
  go_loopg [13] a.length (fun gg v13 wr => ∃ kk : Nat, kk ≤ a.length ∧ a.length - kk ≤ gg ∧ v13 = .int .i64 kk ∧ Aside0 (∃ q, wr = w.drewN q) ∧ Aside0 (cmpG (a.drop kk) (b.drop kk) = r))
  case atStart => exact ⟨0, Nat.zero_le _, Nat.le_refl _, rfl, ⟨⟨0, rfl⟩⟩, HR⟩
  case round =>
    clear HR
    obtain ⟨kk, hkk, hg, rfl, HQ, HR⟩ := hrel
    have hAr : Kd.C (Kd.slice 3 (Kd.int .i64)) wr A a.length a := by obtain ⟨q, hq⟩ := HQ.out; rw [hq]; exact Kd.C_drewN HA.out q
    have hBr : Kd.C (Kd.slice 3 (Kd.int .i64)) wr B b.length b := by obtain ⟨q, hq⟩ := HQ.out; rw [hq]; exact Kd.C_drewN HB.out q
    have HAr := Aside0.mk hAr
    have HBr := Aside0.mk hBr
    clear hAr hBr
    by_cases hlt : kk < a.length
    · have hltz : (kk : Int) < (a.length : Int) := Int.ofNat_lt.2 hlt
      have hR := HR.out
      rw [cmpG_drop hlt] at hR
      have hxa := HX.out _ (List.getElem_mem hlt)
      obtain ⟨ad, A1, c1, e, x0, hl1, hC1⟩ := at_L1 HAr.out (kk : Int) (Int.natCast_nonneg _) hltz
      subst e
      have ea : rd_L1 a (kk : Int) = a[kk] := by unfold rd_L1; rw [Int.toNat_natCast, List.getD_eq_getElem?_getD, List.getElem?_eq_getElem hlt]; rfl
      rw [ea] at x0 hl1 hC1
      rw [Int.toNat_natCast] at x0
      generalize a[kk] = x at hR hxa x0 hl1 hC1
      clear ea
      by_cases h2 : kk < b.length
      · have h2z : (kk : Int) < (b.length : Int) := Int.ofNat_lt.2 h2
        have h2b : decide ((kk : Int) ≥ (b.length : Int)) = false := decide_eq_false (Int.not_le.2 h2z)
        rw [dif_pos h2] at hR
        obtain ⟨bd, B1, d1, e, y0, hl2, hC2⟩ := at_L1 HBr.out (kk : Int) (Int.natCast_nonneg _) h2z
        subst e
        have eb : rd_L1 b (kk : Int) = b[kk] := by unfold rd_L1; rw [Int.toNat_natCast, List.getD_eq_getElem?_getD, List.getElem?_eq_getElem h2]; rfl
        rw [eb] at y0 hl2 hC2
        rw [Int.toNat_natCast] at y0
        generalize b[kk] = y at hR y0 hl2 hC2
        clear eb
        obtain ⟨K, hK⟩ := Compare_ev x y hxa
        have hk : slices_Compare_int_int.f K x y = some (cmpL x y) := hK K (Nat.le_refl _)
        have HCL := Aside0.mk (slices_Compare_int_int.calls K A1 c1 x B1 d1 y (cmpL x y) wr hC1 hl1 hC2 hl2 hk)
        have HR2 := Aside0.mk hR
        have hcz := cmpL_zero x y
        clear hk hC1 hC2 hK hxa HR hR
        generalize cmpL x y = cv at HCL HR2 hcz
        by_cases hxy : x = y
        · have c0 := hcz.2 hxy
          subst c0
          have hR := HR2.out
          rw [if_pos hxy] at hR
          have HR3 := Aside0.mk hR
          clear hR HR2 hxy hcz
          go_wp2_with (go_at_fn 90; refine HCL.out.mono ?_; rintro e w' ⟨rfl, ⟨m, rfl⟩⟩)
          go_roundg (a.length - (kk + 1))
          case measure => omega
          case rel => exact ⟨kk + 1, by omega, by omega, by congr 1; (try (unfold wrap64; omega)), ⟨by obtain ⟨q, hq⟩ := HQ.out; exact ⟨_, by rw [hq]; exact drewN_drewN _ _ _⟩⟩, HR3⟩
        · have c0 : ¬ cv = 0 := fun e => hxy (hcz.1 e)
          have c0b : (cv == 0) = false := by rw [beq_eq_false_iff_ne]; exact c0
          have c0d : decide (cv = 0) = false := decide_eq_false c0
          have hR := HR2.out
          rw [if_neg hxy] at hR
          subst hR
          clear HR2 hxy hcz
          go_wp2_with (go_at_fn 90; refine HCL.out.mono ?_; rintro e w' ⟨rfl, ⟨m, rfl⟩⟩)
          go_ret
          exact ⟨rfl, by obtain ⟨q, hq⟩ := HQ.out; exact ⟨_, by rw [hq]; exact drewN_drewN _ _ _⟩⟩
      · have h2b : decide ((kk : Int) ≥ (b.length : Int)) = true := decide_eq_true (by omega)
        have h2z : ¬ (kk : Int) < (b.length : Int) := by omega
        rw [dif_neg h2] at hR
        have HR2 := Aside0.mk hR
        clear hR HR hC1
        go_wp2
        go_ret
        exact ⟨by rw [← HR2.out]; rfl, HQ.out⟩
    · have hkl : kk = a.length := by omega
      have hltz : ¬ (kk : Int) < (a.length : Int) := by omega
      subst hkl
      have hR := HR.out
      rw [List.drop_length] at hR
      by_cases h2 : a.length < b.length
      · have h2b : decide ((a.length : Int) < (b.length : Int)) = true := decide_eq_true (by omega)
        have hR2 : r = -1 := by rw [← hR, List.drop_eq_getElem_cons h2]; rfl
        have HR2 := Aside0.mk hR2
        clear hR hR2 HR
        go_wp2
        go_ret
        exact ⟨by rw [HR2.out]; rfl, HQ.out⟩
      · have h2b : decide ((a.length : Int) < (b.length : Int)) = false := decide_eq_false (by omega)
        have hR2 : r = 0 := by rw [← hR, List.drop_of_length_le (by omega)]; rfl
        have HR2 := Aside0.mk hR2
        clear hR hR2 HR
        go_wp2
        go_ret
        exact ⟨by rw [HR2.out]; rfl, HQ.out⟩
set_option maxHeartbeats 2000000 in
set_option maxRecDepth 100000 in
theorem compareGames.lays (m n : Int) (A B : Option Addr) (c d : Nat) (a b : List (List Int)) (w : World) (hA : Kd.C (Kd.slice 3 (Kd.int .i64)) w A a.length a) (hc : a.length ≤ c) (hB : Kd.C (Kd.slice 3 (Kd.int .i64)) w B b.length b) (hd : b.length ≤ d) (hx : ∀ x ∈ a, x.length ≤ 1152921504606846976) :
    Calls Tryz.prog 102 #[.agg #[.int .i64 m, .slice A a.length c], .agg #[.int .i64 n, .slice B b.length d]] w fun e w' => e = .returned (.int .i64 (cmpG a b)) ∧ ∃ q os, w' = Go.Sort.grow (w.drewN q) os := by
  have hcall := fun W (hb : Below w.heap.size w W) => compareFunc.calls A B c d a b W (Kd.C_below hA hb) hc (Kd.C_below hB hb) hd hx
  have HCL := Aside0.mk hcall
  have u1 := Tryz.underlying28
  clear hA hB hx hcall
  go_enter Tryz.func102, Tryz.ntmps102
  have hh := HCL.out ((w.alloc (.cells #[.int .i64 m, .slice A a.length c] 28)).alloc (.cells #[.int .i64 n, .slice B b.length d] 28)) (((Below.refl _ w).alloc (Nat.le_refl _) _).alloc (by simp) _)
  have HH := Aside0.mk hh
  clear hh HCL
  go_wp2_with (go_at_call 131; refine HH.out.mono ?_; rintro e w' ⟨rfl, ⟨q, rfl⟩⟩)
  go_ret
  refine ⟨rfl, q, #[.cells #[.int .i64 m, .slice A a.length c] 28 (0, 0), .cells #[.int .i64 n, .slice B b.length d] 28 (0, 0)], ?_⟩
  rw [Go.Sort.alloc_eq_grow, Go.Sort.alloc_eq_grow, Go.Sort.grow_grow]
  rfl
end Go.Proofs.YtmbkmabpebjboaaGreat.Q
end
section
namespace Go.Proofs.YtmbkmabpebjboaaGreat.Q
open Go.RowKit Go.Proofs.YtmbkmabpebjboaaGreatW.PrintWords Go.Proofs.YtmbkmabpebjboaaGreatW.PrintLast Go.Proofs.YtmbkmabpebjboaaGreatW.PrintMore
set_option linter.unusedVariables false
set_option linter.unusedSimpArgs false
def ly101_ren : Go.Shelf.Ren := ⟨fun | 6 => 101 | 15 => 130 | 14 => 129 | 28 => 154 | 29 => 155 | 20 => 146 | 21 => 147 | 22 => 148 | 23 => 149 | 24 => 150 | 25 => 151 | 26 => 152 | 27 => 153 | 46 => 164 | 47 => 165 | 48 => 166 | 49 => 167 | 50 => 168 | 57 => 170 | n => n, fun | 22 => 42 | 24 => 28 | 25 => 126 | 3 => 3 | 39 => 144 | 0 => 0 | 53 => 163 | 55 => 165 | 4 => 4 | 46 => 157 | 45 => 156 | 50 => 26 | 5 => 5 | 9 => 9 | 66 => 168 | 70 => 172 | 76 => 175 | 77 => 96 | n => n, fun | n => n⟩
theorem ly101 : Go.Proofs.SlLaysF0.n6 Tryz.prog ly101_ren := {
  mixed := by kernel_rfl
  f6 := ⟨Tryz.f101.name, by decide, Tryz.func101.trans (congrArg some (by kernel_rfl))⟩
  f14 := ⟨Tryz.f129.name, by decide, Tryz.func129.trans (congrArg some (by kernel_rfl))⟩
  f15 := Tryz.func130.trans (congrArg some (by kernel_rfl))
  f20 := ⟨Tryz.f146.name, by decide, Tryz.func146.trans (congrArg some (by kernel_rfl))⟩
  f21 := ⟨Tryz.f147.name, by decide, Tryz.func147.trans (congrArg some (by kernel_rfl))⟩
  f22 := ⟨Tryz.f148.name, by decide, Tryz.func148.trans (congrArg some (by kernel_rfl))⟩
  f23 := ⟨Tryz.f149.name, by decide, Tryz.func149.trans (congrArg some (by kernel_rfl))⟩
  f24 := ⟨Tryz.f150.name, by decide, Tryz.func150.trans (congrArg some (by kernel_rfl))⟩
  f25 := ⟨Tryz.f151.name, by decide, Tryz.func151.trans (congrArg some (by kernel_rfl))⟩
  f26 := ⟨Tryz.f152.name, by decide, Tryz.func152.trans (congrArg some (by kernel_rfl))⟩
  f27 := ⟨Tryz.f153.name, by decide, Tryz.func153.trans (congrArg some (by kernel_rfl))⟩
  f28 := Tryz.func154.trans (congrArg some (by kernel_rfl))
  f29 := Tryz.func155.trans (congrArg some (by kernel_rfl))
  f46 := ⟨Tryz.f164.name, by decide, Tryz.func164.trans (congrArg some (by kernel_rfl))⟩
  f47 := Tryz.func165.trans (congrArg some (by kernel_rfl))
  f48 := Tryz.func166.trans (congrArg some (by kernel_rfl))
  f49 := ⟨Tryz.f167.name, by decide, Tryz.func167.trans (congrArg some (by kernel_rfl))⟩
  f50 := ⟨Tryz.f168.name, by decide, Tryz.func168.trans (congrArg some (by kernel_rfl))⟩
  f57 := ⟨Tryz.f170.name, by decide, Tryz.func170.trans (congrArg some (by kernel_rfl))⟩
  t0 := Tryz.underlying0
  a0 := Tryz.isAgg0
  z0 := Tryz.sizeOf0
  v0 := Tryz.zeroValue0
  t3 := Tryz.underlying3
  a3 := Tryz.isAgg3
  z3 := Tryz.sizeOf3
  v3 := Tryz.zeroValue3
  t4 := Tryz.underlying4
  a4 := Tryz.isAgg4
  z4 := Tryz.sizeOf4
  v4 := Tryz.zeroValue4
  t5 := Tryz.underlying5
  a5 := Tryz.isAgg5
  z5 := Tryz.sizeOf5
  v5 := Tryz.zeroValue5
  t9 := Tryz.underlying9
  a9 := Tryz.isAgg9
  z9 := Tryz.sizeOf9
  v9 := Tryz.zeroValue9
  t22 := Tryz.underlying42
  a22 := Tryz.isAgg42
  z22 := Tryz.sizeOf42
  v22 := Tryz.zeroValue42
  t25 := Tryz.underlying126
  a25 := Tryz.isAgg126
  z25 := Tryz.sizeOf126
  v25 := Tryz.zeroValue126
  t39 := Tryz.underlying144
  a39 := Tryz.isAgg144
  z39 := Tryz.sizeOf144
  v39 := Tryz.zeroValue144
  t45 := Tryz.underlying156
  a45 := Tryz.isAgg156
  z45 := Tryz.sizeOf156
  v45 := Tryz.zeroValue156
  t46 := Tryz.underlying157
  a46 := Tryz.isAgg157
  z46 := Tryz.sizeOf157
  v46 := Tryz.zeroValue157
  t50 := Tryz.underlying26
  a50 := Tryz.isAgg26
  z50 := Tryz.sizeOf26
  v50 := Tryz.zeroValue26
  t53 := Tryz.underlying163
  a53 := Tryz.isAgg163
  z53 := Tryz.sizeOf163
  v53 := Tryz.zeroValue163
  t55 := Tryz.underlying165
  a55 := Tryz.isAgg165
  z55 := Tryz.sizeOf165
  v55 := Tryz.zeroValue165
  t66 := Tryz.underlying168
  a66 := Tryz.isAgg168
  z66 := Tryz.sizeOf168
  v66 := Tryz.zeroValue168
  t70 := Tryz.underlying172
  a70 := Tryz.isAgg172
  z70 := Tryz.sizeOf172
  v70 := Tryz.zeroValue172
  t76 := Tryz.underlying175
  a76 := Tryz.isAgg175
  z76 := Tryz.sizeOf175
  v76 := Tryz.zeroValue175
  t77 := Tryz.underlying96
  a77 := Tryz.isAgg96
  z77 := Tryz.sizeOf96
  v77 := Tryz.zeroValue96 }
open Go.Shelf Go.Lib Go.Sort
structure QG (W : World) (okq : Nat → Prop) (base : Nat) where
  v : Value
  x : S28
  hM : Kd.R (Kd.slice 3 (Kd.int .i64)) 65 W base okq v x.f1
  hl : ∀ s ∈ x.f1, s.length ≤ 1152921504606846976
def QG.enc {W okq base} (q : QG W okq base) : List Value := [.int .i64 q.x.f0, q.v]
instance {W okq base} : Inhabited (QG W okq base) := ⟨⟨.slice none 0 0, ⟨0, []⟩, Kd.R_nil _ _ _ _ _, by simp⟩⟩
def sortGames.f (l : List S28) : Option (List S28) := if (decide (l.length < 1000000) && l.all (fun x => decide (x.f0 = (l.headD z28).f0) && x.f1.all fun s => decide (s.length ≤ 1152921504606846976))) = true then some ((sortL lexG (l.map fun x => x.f1)).map fun s => ⟨(l.headD z28).f0, s⟩) else none
theorem cmp_laysG (W : World) (okq : Nat → Prop) (base g n : Nat) (hg : ∀ k, okq k → k ≠ g) :
    CmpLays Tryz.prog 102 #[] (fun q : QG W okq base => q.enc) 2 (fun x y => cmpG x.x.f1 y.x.f1) g 0 n W := by
  intro m os dk hs x y
  have hgr := grownBy_sorted (fun v : Value => v) (w := W) (g := g) (n := m) (os := os) (flatK (fun q : QG W okq base => q.enc) 2 dk)
  have hx := Kd.R_grown x.hM hgr (fun k hk e => hg k hk (by injection e))
  have hy := Kd.R_grown y.hM hgr (fun k hk e => hg k hk (by injection e))
  change Kd.R _ _ (sortWorldK (fun q : QG W okq base => q.enc) 2 W g 0 m dk os) _ _ _ _ at hx
  change Kd.R _ _ (sortWorldK (fun q : QG W okq base => q.enc) 2 W g 0 m dk os) _ _ _ _ at hy
  generalize sortWorldK (fun q : QG W okq base => q.enc) 2 W g 0 m dk os = wS at hx hy
  obtain ⟨A, c, hxv, hxl, hxC⟩ := Kd.R_reads hx
  obtain ⟨B, d, hyv, hyl, hyC⟩ := Kd.R_reads hy
  have := compareGames.lays x.x.f0 y.x.f0 A B c d x.x.f1 y.x.f1 wS hxC hxl hyC hyl x.hl
  show Calls Tryz.prog 102 #[.agg #[.int .i64 x.x.f0, x.v], .agg #[.int .i64 y.x.f0, y.v]] wS _
  rw [hxv, hyv]
  exact this
theorem swo_lexG {W okq base} : SWO (ltOf (fun x y : QG W okq base => cmpG x.x.f1 y.x.f1)) where
  irrefl x := by unfold ltOf; rw [cmpG_lt]; exact lexG_irrefl _
  trans x y z h1 h2 := by unfold ltOf at *; rw [cmpG_lt] at *; exact lexG_trans _ _ _ h1 h2
  ntrans x y z h1 h2 := by unfold ltOf at *; rw [cmpG_lt] at *; exact lexG_ntrans _ _ _ h1 h2
theorem flat_inner {W okq base} {ss : List (QG W okq base)} {inner : List Value} (hl : inner.length = ss.length * 2) (h : ∀ j (hj : j < ss.length), (inner.drop (j * 2)).take 2 = ss[j].enc) : inner = (flatK (fun q : QG W okq base => q.enc) 2 ss.toArray).toList := by
  have hfs : (flatK (fun q : QG W okq base => q.enc) 2 ss.toArray).size = ss.length * 2 := by rw [size_flatK, List.size_toArray]
  refine List.ext_getElem (hl.trans (hfs.symm.trans Array.length_toList.symm)) fun t h1 h2 => ?_
  have ht : t < ss.length * 2 := by omega
  have hj : t / 2 < ss.length := by omega
  have hm : t % 2 < 2 := Nat.mod_lt _ (by decide)
  have e : ((inner.drop (t / 2 * 2)).take 2)[t % 2]? = (ss[t / 2].enc)[t % 2]? := congrArg (fun z => z[t % 2]?) (h (t / 2) hj)
  rw [List.getElem?_take_of_lt hm, List.getElem?_drop, show t / 2 * 2 + t % 2 = t by omega, List.getElem?_eq_getElem h1] at e
  have g := get_flatK (fun q : QG W okq base => q.enc) 2 ss.toArray t (by rw [List.size_toArray]; exact ht)
  rw [getElem!_pos _ t (by rw [size_flatK, List.size_toArray]; exact ht)] at g
  refine Eq.trans ?_ (Eq.trans g.symm (Array.getElem_toList ..).symm)
  have e2 : ss.toArray[t / 2]! = ss[t / 2] := by rw [getElem!_pos _ _ (by rw [List.size_toArray]; exact hj), List.getElem_toArray]
  rw [e2]
  have hel : (ss[t / 2]).enc.length = 2 := rfl
  rw [List.getElem?_eq_getElem (by rw [hel]; exact hm)] at e
  rw [getElem!_pos (ss[t / 2].enc) (t % 2) (by rw [hel]; exact hm)]
  exact Option.some.inj e
theorem flat_seg {W okq base} (ss : List (QG W okq base)) (j : Nat) (hj : j < ss.length) : (((flatK (fun q : QG W okq base => q.enc) 2 ss.toArray).toList).drop (j * 2)).take 2 = ss[j].enc := by
  have hel : (ss[j]).enc.length = 2 := rfl
  refine List.ext_getElem (by rw [List.length_take, List.length_drop, Array.length_toList, size_flatK, List.size_toArray, hel]; omega) fun t h1 h2 => ?_
  have ht : t < 2 := by rw [hel] at h2; exact h2
  rw [List.getElem_take, List.getElem_drop, Array.getElem_toList]
  have g := get_flatK (fun q : QG W okq base => q.enc) 2 ss.toArray (j * 2 + t) (by rw [List.size_toArray]; omega)
  rw [getElem!_pos _ _ (by rw [size_flatK, List.size_toArray]; omega)] at g
  rw [g, show (j * 2 + t) / 2 = j by omega, show (j * 2 + t) % 2 = t by omega]
  have e2 : ss.toArray[j]! = ss[j] := by rw [getElem!_pos _ _ (by rw [List.size_toArray]; exact hj), List.getElem_toArray]
  rw [e2, getElem!_pos (ss[j].enc) t h2]
theorem isAggG (w : World) : (isAgg 28).run Tryz.prog w = .ok true w := by kernel_rfl
theorem sizeOfG (w : World) : (Go.sizeOf 28).run Tryz.prog w = .ok 2 w := by kernel_rfl
theorem sortGames.calls (l t : List S28) (A : Option Addr) (c base : Nat) (ok : Nat → Prop) (w : World) (hR : Kd.R k28 28 w base ok (.slice A l.length c) l) (h : sortGames.f l = some t) :
    Calls Tryz.prog 101 #[.slice A l.length c, .func (.func 102) #[] #[]] w fun e w' =>
      e = .returned (.tuple #[]) ∧ Kd.R k28 28 w' base ok (.slice A l.length c) t ∧ t.length = l.length ∧ w.grownBy w' (Value.slice A l.length c).ownBlock := by
  unfold sortGames.f at h
  split at h
  case isFalse => cases h
  rename_i hall
  rw [Bool.and_eq_true, decide_eq_true_eq] at hall
  obtain ⟨hsz, hall⟩ := hall
  obtain rfl := Option.some.inj h
  generalize (l.headD z28).f0 = m at hall
  have hall0 : ∀ x ∈ l, x.f0 = m ∧ ∀ s ∈ x.f1, s.length ≤ 1152921504606846976 := fun x hx => by
    have := List.all_eq_true.1 hall x hx
    rw [Bool.and_eq_true, decide_eq_true_eq] at this
    exact ⟨this.1, fun s hs => of_decide_eq_true (List.all_eq_true.1 this.2 s hs)⟩
  have htl0 : ((sortL lexG (l.map fun x => x.f1)).map fun s => (⟨m, s⟩ : S28)).length = l.length := by rw [List.length_map, (sortL_perm lexG _).length_eq, List.length_map]
  by_cases h0 : l.length = 0
  · have hl0 := List.length_eq_zero_iff.1 h0
    subst hl0
    have hcon := AnyF.slices_SortFunc_none { ly101 with } A c (.func (.func 102) #[] #[]) w
    change Calls Tryz.prog 101 _ _ _ at hcon
    refine hcon.mono ?_
    rintro e w' ⟨rfl, rfl⟩
    exact ⟨rfl, hR, rfl, ⟨rfl, rfl, rfl, Nat.le_refl _, fun _ _ _ => rfl⟩⟩
  obtain ⟨hok, inner, ho, hr⟩ := hR
  rcases ho.2 with ⟨hv, hn⟩ | ⟨g, cap, cur, hv, hbase, hb, h1, h2, h3, h4⟩
  · exact absurd hn h0
  injection hv with hA _ hc
  subst hA; subst hc
  have hil : inner.length = l.length * 2 := ho.1
  change cur.size = c * 2 at h3
  change cur.toList.take (l.length * 2) = inner at h4
  have key : ∀ j : Nat, ∃ q : QG w (fun k => ok k ∧ k ≠ g) base, j < l.length → q.x = l.getD j z28 ∧ (inner.drop (j * 2)).take 2 = q.enc := by
    intro j
    by_cases hj : j < l.length
    · have hp := hr.2 j _ (List.getElem?_eq_getElem hj)
      obtain ⟨v, hv, hR1⟩ := k28_openM hp
      refine ⟨⟨v, l[j], Kd.R_mono hR1 (fun k hk => ⟨hk.1, fun e => hk.2 (by rw [e]; rfl)⟩), (hall0 _ (List.getElem_mem hj)).2⟩, fun _ => ⟨?_, hv⟩⟩
      rw [List.getD_eq_getElem?_getD, List.getElem?_eq_getElem hj]; rfl
    · exact ⟨default, fun e => absurd e hj⟩
  obtain ⟨fq, hfq⟩ := Classical.axiomOfChoice key
  obtain ⟨ss, hss⟩ : ∃ ss, ss = (List.range l.length).map fq := ⟨_, rfl⟩
  have hsl : ss.length = l.length := by rw [hss]; simp
  have hget : ∀ j (hj : j < ss.length), ss[j] = fq j := fun j hj => by simp [hss]
  have hinn : inner = (flatK (fun q : QG w (fun k => ok k ∧ k ≠ g) base => q.enc) 2 ss.toArray).toList := flat_inner (by rw [hil, hsl]) fun j hj => by rw [hget j hj]; exact (hfq j (by omega)).2
  have hsll : ss.map QG.x = l := by
    refine List.ext_getElem (by rw [List.length_map]; exact hsl) fun j h1 h2 => ?_
    rw [List.getElem_map, hget, (hfq j h2).1, List.getD_eq_getElem?_getD, List.getElem?_eq_getElem h2]; rfl
  have hH : HoldsK (fun q : QG w (fun k => ok k ∧ k ≠ g) base => q.enc) 2 w g 0 ss.toArray := by
    have := holds_of_block (fun v : Value => v) (ss := (flatK (fun q : QG w (fun k => ok k ∧ k ≠ g) base => q.enc) 2 ss.toArray).toList) hb (by rw [← hinn, hil, h4, List.map_id'])
    rwa [Array.toArray_toList] at this
  have eg : ∀ args w, (callFunc 102 args).run Tryz.prog w = .ok (.enter 102 args) w := enters_of Tryz.func102 (by kernel_rfl) rfl
  have hcon := AnyQ.slices_SortFunc ly101 2 isAggG sizeOfG (fun q : QG w (fun k => ok k ∧ k ≠ g) base => q.enc) (fun _ => rfl) (fun q v hv => by simp [QG.enc] at hv; rcases hv with rfl | rfl; exact rfl; exact (Kd.R_val q.hM).2) (fun x y => cmpG x.x.f1 y.x.f1) swo_lexG 102 #[] g 0 c ss.toArray w eg (cmp_laysG w _ base g _ (fun k hk => hk.2)) hH (Array.getElem?_eq_some_iff.1 hb).1 (by rw [List.size_toArray, hsl]; omega)
  change Calls Tryz.prog 101 _ _ _ at hcon
  rw [List.size_toArray, hsl] at hcon
  refine hcon.mono ?_
  rintro e w' ⟨rfl, d', n, os, hp, hs, rfl⟩
  obtain ⟨ts, rfl⟩ : ∃ ts : List _, d' = ts.toArray := ⟨d'.toList, rfl⟩
  obtain ⟨fl, hfl⟩ : ∃ fl, fl = flatK (fun q : QG w (fun k => ok k ∧ k ≠ g) base => q.enc) 2 ts.toArray := ⟨_, rfl⟩
  have hgr := grownBy_sorted (fun v : Value => v) (w := w) (g := g) (n := n) (os := os) fl
  have hhp := heap_sorted (fun v : Value => v) (w := w) (g := g) (n := n) (os := os) fl hb
  have hws : sortWorldK (fun q : QG w (fun k => ok k ∧ k ≠ g) base => q.enc) 2 w g 0 n ts.toArray os = sortWorld (fun v : Value => v) w g 0 n fl os := by rw [hfl]; rfl
  rw [hws]
  have hperm : ts.Perm ss := perm_of_PermIn (d := ss.toArray) (by simpa [hsl] using hp)
  have htl : ts.length = l.length := by rw [hperm.length_eq, hsl]
  have hsort : ts.Pairwise (fun a b => ltOf (fun x y : QG w (fun k => ok k ∧ k ≠ g) base => cmpG x.x.f1 y.x.f1) b a = false) := pairwise_of_SortedIn (d := ts.toArray) (by simpa [htl] using hs)
  have ht1 : ts.map (fun q => q.x.f1) = sortL lexG (l.map fun x => x.f1) := by
    refine sortL_eq lexG lexG_ntrans (fun _ _ => lexG_asymm) lexG_total ?_ ?_
    · rw [← hsll, List.map_map]; exact hperm.map _
    · rw [List.pairwise_map]
      refine hsort.imp fun h => ?_
      unfold ltOf at h
      rwa [cmpG_lt] at h
  have ht : ts.map QG.x = (sortL lexG (l.map fun x => x.f1)).map fun s => (⟨m, s⟩ : S28) := by
    rw [← ht1, List.map_map]
    refine List.map_congr_left fun q hq => ?_
    have hm : q.x ∈ l := by rw [← hsll]; exact List.mem_map_of_mem (hperm.mem_iff.1 hq)
    have := (hall0 _ hm).1
    show q.x = ⟨m, q.x.f1⟩
    rw [← this]
  have hfsz : fl.size = l.length * 2 := by rw [hfl, size_flatK, List.size_toArray, htl]
  have htk : (putCells (fun v : Value => v) 0 fl cur).toList.take (l.length * 2) = fl.toList := by
    have := take_putCells (fun v : Value => v) cur fl.toList (by rw [Array.length_toList, hfsz, h3]; omega)
    rw [Array.toArray_toList, Array.length_toList, hfsz, List.map_id'] at this
    exact this
  rw [← ht]
  refine ⟨rfl, ⟨hok, fl.toList, ⟨by rw [Array.length_toList, List.length_map, htl]; exact hfsz, .inr ⟨g, c, _, by rw [List.length_map, htl], hbase, hhp, by rw [List.length_map, htl]; exact h1, h2, by simp [putCells]; exact h3, by rw [List.length_map, htl]; exact htk⟩⟩, ⟨by rw [Array.length_toList, List.length_map, htl]; exact hfsz, fun j p hj => ?_⟩⟩, by rw [List.length_map]; exact htl, hgr⟩
  rw [List.getElem?_map] at hj
  obtain ⟨q, hq, rfl⟩ := Option.map_eq_some_iff.1 hj
  obtain ⟨hjl, hqe⟩ := List.getElem?_eq_some_iff.1 hq
  have hseg := flat_seg ts j hjl
  rw [← hfl, hqe] at hseg
  show k28.M _ _ _ _ ((fl.toList.drop (j * 2)).take 2)
  rw [hseg]
  refine k28_mkM _ _ _ q.x (Kd.R_mono (Kd.R_grown q.hM hgr (fun k hk e => hk.2 (by injection e))) (fun k hk => ⟨hk.1, fun e => hk.2 (by injection e)⟩))
end Go.Proofs.YtmbkmabpebjboaaGreat.Q
end
section
namespace Go.Proofs.YtmbkmabpebjboaaGreat.Q
open Go.RowKit Go.Proofs.YtmbkmabpebjboaaGreatW.PrintWords Go.Proofs.YtmbkmabpebjboaaGreatW.PrintLast Go.Proofs.YtmbkmabpebjboaaGreatW.PrintMore
attribute [local go_sem] max2_int min2_int max_two min_two max_three min_three max_four min_four
set_option linter.unusedVariables false
set_option linter.unusedSimpArgs false
def impl_allGames.l0 : Nat → Int → List (S28) → List Int → Int → Int → Option ((List (S28)))
 | 0, _, _, _, _, _ => none
 | k + 1, x0, x3, x9, x10, x11 => if x11 < x10 then (if 0 ≤ x11 then (if x11 < (x9.length : Int) then ((votesOf_allGames.f k x0 (rd x9 x11)).bind fun bt340 => (if 0 < (bt340.2.length : Int) then (if rdOf false bt340.2 0 = true then (impl_allGames.l0 k x0 x3 x9 x10 (wrap64 (x11 + 1))) else ((impl_votes_all.f bt340.1 bt340.2).bind fun t346 => (if 0 ≤ t346 then (if t346 < (bt340.2.length : Int) then (if rdOf false bt340.2 t346 = true then ((impl_votes_game.f k bt340.1 bt340.2).bind fun bt348 => (if x3.length < 4398046511104 then (impl_allGames.l0 k x0 (x3 ++ [(⟨bt348.1, bt348.2⟩ : S28)]) x9 x10 (wrap64 (x11 + 1))) else (none))) else (impl_allGames.l0 k x0 x3 x9 x10 (wrap64 (x11 + 1)))) else (none)) else (none)))) else (none))) else (none)) else (none)) else ((sortGames.f x3).bind fun t_ => (some t_))
def impl_allGames.f (k : Nat) (a0 : Int) : Option ((List (S28))) := (impl_tables.f k a0).bind fun t335 => (impl_allGames.l0 k a0 (([] : List (S28))) t335 (t335.length : Int) 0)
theorem impl_allGames.mono_l : ∀ k, (∀ y0 y1 y2 y3 y4, LeO (impl_allGames.l0 k y0 y1 y2 y3 y4) (impl_allGames.l0 (k + 1) y0 y1 y2 y3 y4))
 | 0 => fun _ _ _ _ _ r h => by simp [impl_allGames.l0] at h
 | k + 1 => by
  have ih0 := impl_allGames.mono_l k
  ·intro y0 y1 y2 y3 y4
   unfold impl_allGames.l0
   repeat' first
   | (with_reducible exact ih0 _ _ _ _ _)
   | (with_reducible exact impl_tables.mono _ _)
   | (with_reducible exact impl_votes_game.mono _ _ _)
   | (with_reducible exact votesOf_allGames.mono _ _ _)
   | (with_reducible exact LeO.refl _)
   | (with_reducible exact LeO.none _)
   | (with_reducible refine LeO.ite ?_ ?_)
   | (with_reducible refine LeO.bind ?_ (fun _ => ?_))
   | exact ih0 _ _ _ _ _
   | exact impl_tables.mono _ _
   | exact impl_votes_game.mono _ _ _
   | exact votesOf_allGames.mono _ _ _
   | exact LeO.none _
   | refine LeO.ite ?_ ?_
   | refine LeO.bind ?_ (fun _ => ?_)
theorem impl_allGames.mono : ∀ a0 k, LeO (impl_allGames.f k a0) (impl_allGames.f (k + 1) a0) := by
 intro a0 k
 have ih0 := impl_allGames.mono_l k
 unfold impl_allGames.f
 repeat' first
   | (with_reducible exact ih0 _ _ _ _ _)
   | (with_reducible exact impl_tables.mono _ _)
   | (with_reducible exact impl_votes_game.mono _ _ _)
   | (with_reducible exact votesOf_allGames.mono _ _ _)
   | (with_reducible exact LeO.refl _)
   | (with_reducible exact LeO.none _)
   | (with_reducible refine LeO.ite ?_ ?_)
   | (with_reducible refine LeO.bind ?_ (fun _ => ?_))
   | exact ih0 _ _ _ _ _
   | exact impl_tables.mono _ _
   | exact impl_votes_game.mono _ _ _
   | exact votesOf_allGames.mono _ _ _
   | exact LeO.none _
   | refine LeO.ite ?_ ?_
   | refine LeO.bind ?_ (fun _ => ?_)
def impl_allGames.T6 : Bool × List (List Nat × List Nat) := (true, [([], []), ([0], [0]), ([1], [1]), ([2], [2]), ([3], [3]), ([4], [4]), ([5], [5]), ([6, 5], [5, 6]), ([5], [5]), ([8, 5, 5], [5, 8]), ([7, 9, 5], [5, 7, 9]), ([10, 5], [5, 10]), ([5, 11], [5, 11])])
def impl_allGames.B6 : List Nat := [0, 1, 3, 7, 15, 31, 63, 127, 63, 319, 1023, 2047, 4095]
theorem impl_allGames.tab6 : rtab .any (opsOf Tryz.f58 6) = impl_allGames.T6 := by kernel_rfl
theorem impl_allGames.bits6 : waitsOk impl_allGames.T6.2 impl_allGames.B6 = true := by kernel_rfl
set_option maxHeartbeats 8000000 in
set_option maxRecDepth 100000 in
theorem impl_allGames.calls (k : Nat) (a0 : Int) (r : List (S28)) (w : World) (h : impl_allGames.f k a0 = some r) :
  Calls Tryz.prog 58 #[.int .i64 a0] w fun e w' => ∃ v0_ : Value, e = .returned (v0_) ∧ Kd.R k28 28 w' w.heap.size (fun _ => True) v0_ r ∧ Below w.heap.size w w' := by
 have hu61 := Tryz.underlying61
 have HB := Aside0.mk (Below.refl w.heap.size w)
 have H : ((impl_tables.f k a0).bind fun t335 => (impl_allGames.l0 k a0 (([] : List (S28))) t335 (t335.length : Int) 0)) = some r := h
 clear h
 obtain ⟨y332, hy332⟩ : ∃ y_ : List (S28), y_ = (([] : List (S28))) := ⟨_, rfl⟩
 rw [← hy332] at H
 have Ny332 := Aside0.mk hy332
 clear hy332
 replace H := Option.bind_eq_some_iff.mp H
 obtain ⟨t335, A20, H⟩ := H
 have A2 := Aside0.mk A20
 clear A20
 have H' := Aside0.mk H
 clear H
 go_enter Tryz.func58, Tryz.ntmps58
 go_wp2_with (first | ((with_reducible refine gate_dst (N := 7) rfl ?_); refine Kd.R_lit k28 _ 28 ?hg (N := 7) ?hd (xs := ([] : List (S28))) (inner := []) (ok := fun _ => True) (okp := fun _ => True) ?hr ?hp (fun _ hk => hk) trivial (Below.refl _ _) (Nat.le_refl _) (by simp) ?_; (case hd => rfl); (case hg => rfl); (case hr => first | (go_simp; done) | (go_simp; rfl)); (case hp => exact (Reps.none _ _)); intro v333 w3 ho4 hb hg_ hnew_; clear hg_ hnew_; (first | rw [← Ny332.out] at ho4 | (simp only [Int.reduceToNat] at ho4; rw [← Ny332.out] at ho4)); have HO334 := Aside0.mk (Kd.R_lower ho4 (below_size (zh HB.out))); replace HB := zH hb HB; clear hb ho4) | ((with_reducible refine gate_callee (f := 96) rfl ?_); refine zl 9 Tryz.func96 #[.int .i64 a0] ?_; (with_reducible refine (impl_tables.calls k a0 t335 _ A2.out).mono ?_); rintro e w5 ⟨v336, rfl, ho0, hb⟩; refine ⟨_, rfl, ?_⟩; have HO337 := Aside0.mk (Kd.R_lower ho0 (below_size (zh HB.out))); replace HO334 := Aside0.mk (Kd.R_elder' (zr HO334.out) (Kd.R_base ho0) hb); replace HB := zH hb HB; clear hb; (try clear ho0); obtain ⟨Ao6, co6, eo6⟩ := Kd.R_slice HO337.out; subst eo6))
 go_loopg [3, 11] k (fun kq v3 v11 w' => ∃ (x3_1 : List (S28)) (x11_1 : Int), v11 = .int .i64 x11_1 ∧ Aside0 (impl_allGames.l0 kq a0 x3_1 t335 (t335.length : Int) x11_1 = some r) ∧ Aside0 (kq ≤ k) ∧ Aside0 (Kd.R k28 28 w' w.heap.size (fun k_ => some k_ ≠ ((.slice Ao6 t335.length co6) : Value).ownBlock) v3 x3_1) ∧ Aside0 (Kd.R (Kd.int .i64) 3 w' w.heap.size (fun _ => True) (.slice Ao6 t335.length co6) t335) ∧ Aside0 (Below w.heap.size w w'))
 case atStart => exact ⟨(y332), (0), zE, H', ⟨Nat.le_refl _⟩, ⟨zr (Kd.R_mono HO334.out (fun _ hk => hk.2))⟩, ⟨zr HO337.out⟩, ⟨zh HB.out⟩⟩
 case round =>
  clear H'
  try clear p2
  try clear c5
  obtain ⟨x3_1, x11_1, rfl, HA, HK1, HO_3, HO_9, HB⟩ := hrel
  cases gk with
  | zero => exact absurd HA.out (by simp [impl_allGames.l0])
  | succ k1 =>
   have H := HA.out
   clear HA
   simp only [impl_allGames.l0] at H
   by_cases c7 : x11_1 < (t335.length : Int)
   rotate_left
   ·rw [if_neg c7] at H
    have c7b0 := decide_eq_false c7
    clear c7
    replace H := Option.bind_eq_some_iff.mp H
    obtain ⟨t_, A540, H⟩ := H
    replace H : (some t_) = some r := H
    have A54 := Aside0.mk A540
    clear A540
    obtain rfl := Option.some.inj H
    obtain ⟨Ao55, co55, eo55⟩ := Kd.R_slice HO_3.out
    subst eo55
    go_wp2_with (first | ((with_reducible refine gate_callee (f := 101) rfl ?_); refine zl 38 Tryz.func101 #[.slice Ao55 x3_1.length co55, .func (.func 102) #[] #[]] ?_; refine (sortGames.calls x3_1 t_ _ _ w.heap.size (fun _ => True) _ ?side1 A54.out).mono ?_; (case side1 => exact Kd.R_mono (zr HO_3.out) (fun _ _ => trivial)); rintro e w' ⟨rfl, hs_, hl_, hg_⟩; refine ⟨_, rfl, ?_⟩; have n0_ := Aside0.mk hs_; have hB_ := ((zh HB.out) : Below w.heap.size w _); have n2_ := Aside0.mk (Below.grown hB_ hg_ (below_size hB_) (Kd.R_base HO_3.out)); (try clear HO_9); clear HO_3 HB; have HO_3 := n0_; have HB := n2_; clear n0_ n2_ hs_ hl_ hg_ hB_))
    go_ret
    exact ⟨_, by first | rfl | (simp [*, errW_none, errW_some] <;> rfl), by (with_reducible repeat (first | apply Kd.R_alloc | apply Kd.R_drewN | apply Kd.R_drew)); exact Kd.R_mono HO_3.out (fun _ hk => trivial), zh HB.out⟩
   rw [if_pos c7] at H
   have c7b0 := decide_eq_true c7
   clear c7
   by_cases c8 : 0 ≤ x11_1
   rotate_left
   ·rw [if_neg c8] at H
    cases H
   rw [if_pos c8] at H
   have c8b0 := decide_eq_true c8
   clear c8
   by_cases c9 : x11_1 < (t335.length : Int)
   rotate_left
   ·rw [if_neg c9] at H
    cases H
   rw [if_pos c9] at H
   have c9b0 := decide_eq_true c9
   clear c9
   replace H := Option.bind_eq_some_iff.mp H
   obtain ⟨⟨t340, t341⟩, A100, H⟩ := H
   replace H : (if 0 < (t341.length : Int) then (if rdOf false t341 0 = true then (impl_allGames.l0 k1 a0 x3_1 t335 (t335.length : Int) (wrap64 (x11_1 + 1))) else ((impl_votes_all.f t340 t341).bind fun t346 => (if 0 ≤ t346 then (if t346 < (t341.length : Int) then (if rdOf false t341 t346 = true then ((impl_votes_game.f k1 t340 t341).bind fun bt348 => (if x3_1.length < 4398046511104 then (impl_allGames.l0 k1 a0 (x3_1 ++ [(⟨bt348.1, bt348.2⟩ : S28)]) t335 (t335.length : Int) (wrap64 (x11_1 + 1))) else (none))) else (impl_allGames.l0 k1 a0 x3_1 t335 (t335.length : Int) (wrap64 (x11_1 + 1)))) else (none)) else (none)))) else (none)) = some r := H
   have A10 := Aside0.mk A100
   clear A100
   by_cases c11 : 0 < (t341.length : Int)
   rotate_left
   ·rw [if_neg c11] at H
    cases H
   rw [if_pos c11] at H
   have c11b0 := decide_eq_true c11
   have c11b1 : decide (0 < t341.length) = true := decide_eq_true (by omega)
   clear c11
   obtain ⟨bq12, hbq12⟩ : ∃ b_ : Bool, b_ = (rdOf false t341 0) := ⟨_, rfl⟩
   rw [← hbq12] at H
   have Nbq12 := Aside0.mk hbq12
   clear hbq12
   by_cases c13 : bq12 = true
   ·subst c13
    rw [if_pos rfl] at H
    have H' := Aside0.mk H
    clear H
    obtain ⟨⟨ad338, e338, hx338_0⟩, p338, q338⟩ := zW (Kd.at_int (Kd.R_reads' HO_9.out).2.2 x11_1)
    cases e338
    try go_wp2_with (first | ((with_reducible refine gate_dst (N := 5) rfl ?_); refine zq 5 #[.int .i64 0] 3 ?_; intro gb339 hg w14 hbox hb; have BK339 := Aside0.mk hbox; have GW339 := zG hg HB; have GE339 := zG hg HB; replace HO_3 := Aside0.mk (Kd.R_below (Kd.R_elderB (zr HO_3.out) gb339 (Nat.le_of_eq hg.symm)) hb); replace HO_9 := Aside0.mk (Kd.R_below (Kd.R_elderB (zr HO_9.out) gb339 (Nat.le_of_eq hg.symm)) hb); replace HB := zH hb HB; clear hb hbox hg; obtain ⟨hcz15_0, hfz15_0⟩ := zC1 BK339) | ((with_reducible refine gate_callee (f := 92) rfl ?_); refine zl 17 Tryz.func92 #[.int .i64 a0, .func (.func 97) #[] #[.pointer (some ⟨gb339, 0, none⟩)]] ?_; (with_reducible refine (votesOf_allGames.calls k1 a0 (rd t335 x11_1) t340 t341 _ gb339 (by first | exact (blk_cell (zb BK339.out) 0).trans rfl | exact (blk_cell (blk_put (zb BK339.out) 0 _ rfl) 0).trans rfl | exact zb BK339.out) A10.out).mono ?_); rintro e w16 ⟨v342, rfl, ho0, hb⟩; refine ⟨_, rfl, ?_⟩; have HO343 := Aside0.mk (Kd.R_lower ho0 (below_size (zh HB.out))); replace HO_3 := Aside0.mk (Kd.R_below (by (with_reducible repeat (first | apply Kd.R_alloc | apply Kd.R_drewN | apply Kd.R_drew)); exact (Kd.R_mono (Kd.R_far (p := ⟨gb339, 0, none⟩) (Kd.R_mono HO_3.out (fun k_ hk => (⟨hk, hk.2⟩ : _ ∧ k_ ≠ gb339))) (fun _ hk => hk.2) (.int .i64 (rd t335 x11_1))) (fun _ h_ => h_.1))) hb); replace HO_9 := Aside0.mk (Kd.R_below (by (with_reducible repeat (first | apply Kd.R_alloc | apply Kd.R_drewN | apply Kd.R_drew)); exact (Kd.R_mono (Kd.R_far (p := ⟨gb339, 0, none⟩) (Kd.R_mono HO_9.out (fun k_ hk => (⟨hk, hk.2⟩ : _ ∧ k_ ≠ gb339))) (fun _ hk => hk.2) (.int .i64 (rd t335 x11_1))) (fun _ h_ => h_.1))) hb); replace BK339 := Aside0.mk (blk_below (g := gb339) (o := .cells #[.int .i64 (rd t335 x11_1)] 3 (0, 0)) (by (with_reducible repeat (first | refine blk_drewN ?_ _ | refine blk_drew ?_ | refine blk_alloc ?_ _)); refine blk_put (cs := #[.int .i64 0]) ?_ 0 _ rfl; (with_reducible repeat (first | refine blk_drewN ?_ _ | refine blk_drew ?_ | refine blk_alloc ?_ _)); exact BK339.out) hb); replace HB := zH hb HB; clear hb; (try clear ho0)) | ((with_reducible refine gate_dst (N := 6) rfl ?_); refine zq 6 #[.int .i64 0, .slice none 0 0] 61 ?_; intro gb344 hg w17 hbox hb; have BK344 := Aside0.mk hbox; have GW344 := zG hg HB; have GE344 := zG hg HB; have NB339_344 := zNa hg BK339; have NB344_339 := zNb hg BK339; replace HO_3 := Aside0.mk (Kd.R_below (zr HO_3.out) hb); replace HO_9 := Aside0.mk (Kd.R_below (zr HO_9.out) hb); replace HO343 := Aside0.mk (Kd.R_below (zr HO343.out) hb); replace BK339 := zK BK339 hb; replace HB := zH hb HB; clear hb hbox hg; have hnb18 := NB344_339.out; have hnc18 := NB339_344.out; obtain ⟨hcz19_0, hcz19_1, hfz19_0, hfz19_1⟩ := zC2 BK344; obtain ⟨Ao20, co20, eo20⟩ := Kd.R_slice HO343.out; subst eo20))
    have n0_ : Aside0 (Kd.R k28 28 ((w17.setCell ⟨gb344, 0, none⟩ (.int .i64 t340)).setCell ⟨gb344, 1, none⟩ (.slice Ao20 t341.length co20)) w.heap.size (fun k_ => some k_ ≠ (.slice (some ad338) t335.length co6 : Value).ownBlock ∧ k_ ≠ gb339) u3 x3_1) := ⟨by (with_reducible repeat (first | apply Kd.R_alloc | apply Kd.R_drewN | apply Kd.R_drew)); exact Kd.R_mono (Kd.R_far (p := ⟨gb344, 1, none⟩) (Kd.R_far (p := ⟨gb344, 0, none⟩) (Kd.R_types HO_3.out BK344.out (by decide)) (fun _ hk => hk.2) (.int .i64 t340)) (fun _ hk => hk.2) (.slice Ao20 t341.length co20)) (fun _ hk => ⟨hk.1.1, hk.1.2⟩)⟩
    have n1_ : Aside0 (Kd.R (Kd.int .i64) 3 ((w17.setCell ⟨gb344, 0, none⟩ (.int .i64 t340)).setCell ⟨gb344, 1, none⟩ (.slice Ao20 t341.length co20)) w.heap.size (fun k_ => k_ ≠ gb339) (.slice (some ad338) t335.length co6) t335) := ⟨by (with_reducible repeat (first | apply Kd.R_alloc | apply Kd.R_drewN | apply Kd.R_drew)); exact Kd.R_mono (Kd.R_far (p := ⟨gb344, 1, none⟩) (Kd.R_far (p := ⟨gb344, 0, none⟩) (Kd.R_types HO_9.out BK344.out (by decide)) (fun _ hk => hk.2) (.int .i64 t340)) (fun _ hk => hk.2) (.slice Ao20 t341.length co20)) (fun _ hk => hk.1.2)⟩
    have n2_ : Aside0 (Kd.R Kd.bool 4 ((w17.setCell ⟨gb344, 0, none⟩ (.int .i64 t340)).setCell ⟨gb344, 1, none⟩ (.slice Ao20 t341.length co20)) w.heap.size (fun _ => True) (.slice Ao20 t341.length co20) t341) := ⟨by (with_reducible repeat (first | apply Kd.R_alloc | apply Kd.R_drewN | apply Kd.R_drew)); exact Kd.R_mono (Kd.R_far (p := ⟨gb344, 1, none⟩) (Kd.R_far (p := ⟨gb344, 0, none⟩) (Kd.R_types HO343.out BK344.out (by decide)) (fun _ hk => hk.2) (.int .i64 t340)) (fun _ hk => hk.2) (.slice Ao20 t341.length co20)) (fun _ hk => trivial)⟩
    have n3_ : Aside0 (((w17.setCell ⟨gb344, 0, none⟩ (.int .i64 t340)).setCell ⟨gb344, 1, none⟩ (.slice Ao20 t341.length co20)).heap[gb339]? = some (.cells #[.int .i64 (rd t335 x11_1)] 3 (0, 0))) := ⟨zf2 BK339.out NB339_344.out NB339_344.out⟩
    have n4_ : Aside0 (((w17.setCell ⟨gb344, 0, none⟩ (.int .i64 t340)).setCell ⟨gb344, 1, none⟩ (.slice Ao20 t341.length co20)).heap[gb344]? = some (.cells #[.int .i64 t340, .slice Ao20 t341.length co20] 61 (0, 0))) := ⟨by (with_reducible repeat (first | refine blk_drewN ?_ _ | refine blk_drew ?_ | refine blk_alloc ?_ _)); refine blk_put (cs := #[.int .i64 t340, .slice none 0 0]) ?_ 1 _ rfl; (with_reducible repeat (first | refine blk_drewN ?_ _ | refine blk_drew ?_ | refine blk_alloc ?_ _)); refine blk_put (cs := #[.int .i64 0, .slice none 0 0]) ?_ 0 _ rfl; (with_reducible repeat (first | refine blk_drewN ?_ _ | refine blk_drew ?_ | refine blk_alloc ?_ _)); exact BK344.out⟩
    have n5_ : Aside0 (Below w.heap.size w ((w17.setCell ⟨gb344, 0, none⟩ (.int .i64 t340)).setCell ⟨gb344, 1, none⟩ (.slice Ao20 t341.length co20))) := ⟨zh HB.out⟩
    (try clear HO_3)
    (try clear HO_9)
    (try clear HO343)
    (try clear BK339)
    (try clear BK344)
    (try clear HB)
    generalize ((w17.setCell ⟨gb344, 0, none⟩ (.int .i64 t340)).setCell ⟨gb344, 1, none⟩ (.slice Ao20 t341.length co20)) = w21 at n0_ n1_ n2_ n3_ n4_ n5_ ⊢
    have HO_3 := n0_
    have HO_9 := n1_
    have HO343 := n2_
    have BK339 := n3_
    have BK344 := n4_
    have HB := n5_
    clear n0_ n1_ n2_ n3_ n4_ n5_
    have n0_ := Aside0.mk (Kd.R_drew HO_3.out)
    have n1_ := Aside0.mk (Kd.R_drew HO_9.out)
    have n2_ := Aside0.mk (Kd.R_drew HO343.out)
    have n3_ := Aside0.mk (blk_drew BK339.out)
    have n4_ := Aside0.mk (blk_drew BK344.out)
    have n5_ := Aside0.mk (below_drew1 HB.out)
    clear HO_3 HO_9 HO343 BK339 BK344 HB
    have HO_3 := n0_
    have HO_9 := n1_
    have HO343 := n2_
    have BK339 := n3_
    have BK344 := n4_
    have HB := n5_
    clear n0_ n1_ n2_ n3_ n4_ n5_
    have p345 : 0 ≤ (0 : Int) := (by omega)
    have q345 : 0 < (t341.length : Int) := zk
    obtain ⟨ad345, e345, hx345_0⟩ := Kd.at_bool (Kd.R_reads' HO343.out).2.2 0 p345 q345
    (try rw [← Nbq12.out] at hx345_0)
    cases e345
    have qi345 : (0 < t341.length) = True := eq_true (by omega)
    (try rw [show ((0 : Int)).toNat = 0 from rfl] at hx345_0)
    (try rw [Addr.add_zero'] at hx345_0)
    replace p345 := eq_true p345
    replace q345 := eq_true q345
    refine start_ (n := 13) (S := fun w' => w'.cell? ⟨gb344, 0, none⟩ = some (.int .i64 t340) ∧ w'.cell? ⟨gb344, 1, none⟩ = some (.slice (some ad345) t341.length co20) ∧ w'.cell? ad345 = some (.bool true)) (ds := []) (tb 13 0) (by kernel_rfl) rfl rfl ⟨(blk_cell BK344.out 0).trans rfl, (blk_cell BK344.out 1).trans rfl, hx345_0⟩ (fun hHeld => ?_); refine with_tabW impl_allGames.tab6 impl_allGames.bits6 (fun HT_ HW_ => ?_)
    generalize w21.drew = w22 at HO_3 HO_9 HO343 BK339 BK344 HB hx345_0 hHeld ⊢
    refine zu (i := 0) (N := some 18) (tb 13 1) rfl rfl HT_ ?_
    refine zt (i := 1) (N := some 19) (tb 13 3) rfl rfl (take_ofW HT_.out HW_.out (by kernel_rfl)) hHeld ?_
    refine zu (i := 2) (N := some 20) (tb 13 7) rfl rfl HT_ ?_
    refine zt (i := 3) (N := some 21) (tb 13 15) rfl rfl (take_ofW HT_.out HW_.out (by kernel_rfl)) hHeld ?_
    refine zu (i := 4) (N := some 22) (tb 13 31) rfl rfl HT_ ?_
    refine zu (i := 5) (N := some 23) (tb 13 63) rfl rfl HT_ ?_
    refine zv (i := 6) (N := some 24) (tb 13 127) rfl rfl HT_ ?_
    refine zv (i := 7) (N := some 25) (tb 13 255) rfl rfl HT_ ?_
    refine zv (i := 8) (N := some 26) (tb 13 511) rfl rfl HT_ ?_
    refine zv (i := 9) (N := some 27) (tb 13 1023) rfl rfl HT_ ?_
    refine zv (i := 10) (N := some 28) (tb 13 2047) rfl rfl HT_ ?_
    refine zv (i := 11) (N := some 29) (tb 13 4095) rfl rfl HT_ ?_
    refine zu (i := 12) (N := some 30) (tb 13 8191) rfl rfl HT_ ?_
    refine done_ (done_of HT_.out (by kernel_rfl)) ?_
    try go_wp2
    go_roundg k1
    case measure => have := HK1.out; omega
    case rel => exact ⟨(x3_1), (wrap64 (x11_1 + 1)), zE, H', zO HK1, ⟨zr (Kd.R_mono HO_3.out (fun _ hk => hk.1))⟩, ⟨zr (Kd.R_mono HO_9.out (fun _ hk => trivial))⟩, ⟨zh HB.out⟩⟩
   replace c13 := Bool.eq_false_iff.mpr c13
   subst c13
   rw [if_neg zF] at H
   replace H := Option.bind_eq_some_iff.mp H
   obtain ⟨t346, A230, H⟩ := H
   have A23 := Aside0.mk A230
   clear A230
   by_cases c24 : 0 ≤ t346
   rotate_left
   ·rw [if_neg c24] at H
    cases H
   rw [if_pos c24] at H
   have c24b0 := decide_eq_true c24
   clear c24
   by_cases c25 : t346 < (t341.length : Int)
   rotate_left
   ·rw [if_neg c25] at H
    cases H
   rw [if_pos c25] at H
   have c25b0 := decide_eq_true c25
   clear c25
   obtain ⟨bq26, hbq26⟩ : ∃ b_ : Bool, b_ = (rdOf false t341 t346) := ⟨_, rfl⟩
   rw [← hbq26] at H
   have Nbq26 := Aside0.mk hbq26
   clear hbq26
   by_cases c27 : bq26 = true
   rotate_left
   ·replace c27 := Bool.eq_false_iff.mpr c27
    subst c27
    rw [if_neg zF] at H
    have H' := Aside0.mk H
    clear H
    obtain ⟨⟨ad338, e338, hx338_0⟩, p338, q338⟩ := zW (Kd.at_int (Kd.R_reads' HO_9.out).2.2 x11_1)
    cases e338
    try go_wp2_with (first | ((with_reducible refine gate_dst (N := 5) rfl ?_); refine zq 5 #[.int .i64 0] 3 ?_; intro gb339 hg w44 hbox hb; have BK339 := Aside0.mk hbox; have GW339 := zG hg HB; have GE339 := zG hg HB; replace HO_3 := Aside0.mk (Kd.R_below (Kd.R_elderB (zr HO_3.out) gb339 (Nat.le_of_eq hg.symm)) hb); replace HO_9 := Aside0.mk (Kd.R_below (Kd.R_elderB (zr HO_9.out) gb339 (Nat.le_of_eq hg.symm)) hb); replace HB := zH hb HB; clear hb hbox hg; obtain ⟨hcz45_0, hfz45_0⟩ := zC1 BK339) | ((with_reducible refine gate_callee (f := 92) rfl ?_); refine zl 17 Tryz.func92 #[.int .i64 a0, .func (.func 97) #[] #[.pointer (some ⟨gb339, 0, none⟩)]] ?_; (with_reducible refine (votesOf_allGames.calls k1 a0 (rd t335 x11_1) t340 t341 _ gb339 (by first | exact (blk_cell (zb BK339.out) 0).trans rfl | exact (blk_cell (blk_put (zb BK339.out) 0 _ rfl) 0).trans rfl | exact zb BK339.out) A10.out).mono ?_); rintro e w46 ⟨v342, rfl, ho0, hb⟩; refine ⟨_, rfl, ?_⟩; have HO343 := Aside0.mk (Kd.R_lower ho0 (below_size (zh HB.out))); replace HO_3 := Aside0.mk (Kd.R_below (by (with_reducible repeat (first | apply Kd.R_alloc | apply Kd.R_drewN | apply Kd.R_drew)); exact (Kd.R_mono (Kd.R_far (p := ⟨gb339, 0, none⟩) (Kd.R_mono HO_3.out (fun k_ hk => (⟨hk, hk.2⟩ : _ ∧ k_ ≠ gb339))) (fun _ hk => hk.2) (.int .i64 (rd t335 x11_1))) (fun _ h_ => h_.1))) hb); replace HO_9 := Aside0.mk (Kd.R_below (by (with_reducible repeat (first | apply Kd.R_alloc | apply Kd.R_drewN | apply Kd.R_drew)); exact (Kd.R_mono (Kd.R_far (p := ⟨gb339, 0, none⟩) (Kd.R_mono HO_9.out (fun k_ hk => (⟨hk, hk.2⟩ : _ ∧ k_ ≠ gb339))) (fun _ hk => hk.2) (.int .i64 (rd t335 x11_1))) (fun _ h_ => h_.1))) hb); replace BK339 := Aside0.mk (blk_below (g := gb339) (o := .cells #[.int .i64 (rd t335 x11_1)] 3 (0, 0)) (by (with_reducible repeat (first | refine blk_drewN ?_ _ | refine blk_drew ?_ | refine blk_alloc ?_ _)); refine blk_put (cs := #[.int .i64 0]) ?_ 0 _ rfl; (with_reducible repeat (first | refine blk_drewN ?_ _ | refine blk_drew ?_ | refine blk_alloc ?_ _)); exact BK339.out) hb); replace HB := zH hb HB; clear hb; (try clear ho0)) | ((with_reducible refine gate_dst (N := 6) rfl ?_); refine zq 6 #[.int .i64 0, .slice none 0 0] 61 ?_; intro gb344 hg w47 hbox hb; have BK344 := Aside0.mk hbox; have GW344 := zG hg HB; have GE344 := zG hg HB; have NB339_344 := zNa hg BK339; have NB344_339 := zNb hg BK339; replace HO_3 := Aside0.mk (Kd.R_below (zr HO_3.out) hb); replace HO_9 := Aside0.mk (Kd.R_below (zr HO_9.out) hb); replace HO343 := Aside0.mk (Kd.R_below (zr HO343.out) hb); replace BK339 := zK BK339 hb; replace HB := zH hb HB; clear hb hbox hg; have hnb48 := NB344_339.out; have hnc48 := NB339_344.out; obtain ⟨hcz49_0, hcz49_1, hfz49_0, hfz49_1⟩ := zC2 BK344; obtain ⟨Ao50, co50, eo50⟩ := Kd.R_slice HO343.out; subst eo50))
    have n0_ : Aside0 (Kd.R k28 28 ((w47.setCell ⟨gb344, 0, none⟩ (.int .i64 t340)).setCell ⟨gb344, 1, none⟩ (.slice Ao50 t341.length co50)) w.heap.size (fun k_ => some k_ ≠ (.slice (some ad338) t335.length co6 : Value).ownBlock ∧ k_ ≠ gb339) u3 x3_1) := ⟨by (with_reducible repeat (first | apply Kd.R_alloc | apply Kd.R_drewN | apply Kd.R_drew)); exact Kd.R_mono (Kd.R_far (p := ⟨gb344, 1, none⟩) (Kd.R_far (p := ⟨gb344, 0, none⟩) (Kd.R_types HO_3.out BK344.out (by decide)) (fun _ hk => hk.2) (.int .i64 t340)) (fun _ hk => hk.2) (.slice Ao50 t341.length co50)) (fun _ hk => ⟨hk.1.1, hk.1.2⟩)⟩
    have n1_ : Aside0 (Kd.R (Kd.int .i64) 3 ((w47.setCell ⟨gb344, 0, none⟩ (.int .i64 t340)).setCell ⟨gb344, 1, none⟩ (.slice Ao50 t341.length co50)) w.heap.size (fun k_ => k_ ≠ gb339) (.slice (some ad338) t335.length co6) t335) := ⟨by (with_reducible repeat (first | apply Kd.R_alloc | apply Kd.R_drewN | apply Kd.R_drew)); exact Kd.R_mono (Kd.R_far (p := ⟨gb344, 1, none⟩) (Kd.R_far (p := ⟨gb344, 0, none⟩) (Kd.R_types HO_9.out BK344.out (by decide)) (fun _ hk => hk.2) (.int .i64 t340)) (fun _ hk => hk.2) (.slice Ao50 t341.length co50)) (fun _ hk => hk.1.2)⟩
    have n2_ : Aside0 (Kd.R Kd.bool 4 ((w47.setCell ⟨gb344, 0, none⟩ (.int .i64 t340)).setCell ⟨gb344, 1, none⟩ (.slice Ao50 t341.length co50)) w.heap.size (fun _ => True) (.slice Ao50 t341.length co50) t341) := ⟨by (with_reducible repeat (first | apply Kd.R_alloc | apply Kd.R_drewN | apply Kd.R_drew)); exact Kd.R_mono (Kd.R_far (p := ⟨gb344, 1, none⟩) (Kd.R_far (p := ⟨gb344, 0, none⟩) (Kd.R_types HO343.out BK344.out (by decide)) (fun _ hk => hk.2) (.int .i64 t340)) (fun _ hk => hk.2) (.slice Ao50 t341.length co50)) (fun _ hk => trivial)⟩
    have n3_ : Aside0 (((w47.setCell ⟨gb344, 0, none⟩ (.int .i64 t340)).setCell ⟨gb344, 1, none⟩ (.slice Ao50 t341.length co50)).heap[gb339]? = some (.cells #[.int .i64 (rd t335 x11_1)] 3 (0, 0))) := ⟨zf2 BK339.out NB339_344.out NB339_344.out⟩
    have n4_ : Aside0 (((w47.setCell ⟨gb344, 0, none⟩ (.int .i64 t340)).setCell ⟨gb344, 1, none⟩ (.slice Ao50 t341.length co50)).heap[gb344]? = some (.cells #[.int .i64 t340, .slice Ao50 t341.length co50] 61 (0, 0))) := ⟨by (with_reducible repeat (first | refine blk_drewN ?_ _ | refine blk_drew ?_ | refine blk_alloc ?_ _)); refine blk_put (cs := #[.int .i64 t340, .slice none 0 0]) ?_ 1 _ rfl; (with_reducible repeat (first | refine blk_drewN ?_ _ | refine blk_drew ?_ | refine blk_alloc ?_ _)); refine blk_put (cs := #[.int .i64 0, .slice none 0 0]) ?_ 0 _ rfl; (with_reducible repeat (first | refine blk_drewN ?_ _ | refine blk_drew ?_ | refine blk_alloc ?_ _)); exact BK344.out⟩
    have n5_ : Aside0 (Below w.heap.size w ((w47.setCell ⟨gb344, 0, none⟩ (.int .i64 t340)).setCell ⟨gb344, 1, none⟩ (.slice Ao50 t341.length co50))) := ⟨zh HB.out⟩
    (try clear HO_3)
    (try clear HO_9)
    (try clear HO343)
    (try clear BK339)
    (try clear BK344)
    (try clear HB)
    generalize ((w47.setCell ⟨gb344, 0, none⟩ (.int .i64 t340)).setCell ⟨gb344, 1, none⟩ (.slice Ao50 t341.length co50)) = w51 at n0_ n1_ n2_ n3_ n4_ n5_ ⊢
    have HO_3 := n0_
    have HO_9 := n1_
    have HO343 := n2_
    have BK339 := n3_
    have BK344 := n4_
    have HB := n5_
    clear n0_ n1_ n2_ n3_ n4_ n5_
    have n0_ := Aside0.mk (Kd.R_drew HO_3.out)
    have n1_ := Aside0.mk (Kd.R_drew HO_9.out)
    have n2_ := Aside0.mk (Kd.R_drew HO343.out)
    have n3_ := Aside0.mk (blk_drew BK339.out)
    have n4_ := Aside0.mk (blk_drew BK344.out)
    have n5_ := Aside0.mk (below_drew1 HB.out)
    clear HO_3 HO_9 HO343 BK339 BK344 HB
    have HO_3 := n0_
    have HO_9 := n1_
    have HO343 := n2_
    have BK339 := n3_
    have BK344 := n4_
    have HB := n5_
    clear n0_ n1_ n2_ n3_ n4_ n5_
    have p345 : 0 ≤ (0 : Int) := (by omega)
    have q345 : 0 < (t341.length : Int) := zk
    obtain ⟨ad345, e345, hx345_0⟩ := Kd.at_bool (Kd.R_reads' HO343.out).2.2 0 p345 q345
    (try rw [← Nbq12.out] at hx345_0)
    (try rw [← Nbq26.out] at hx345_0)
    cases e345
    have qi345 : (0 < t341.length) = True := eq_true (by omega)
    (try rw [show ((0 : Int)).toNat = 0 from rfl] at hx345_0)
    (try rw [Addr.add_zero'] at hx345_0)
    replace p345 := eq_true p345
    replace q345 := eq_true q345
    obtain ⟨⟨ad347, e347, hx347_0⟩, p347, q347⟩ := zW (Kd.at_bool (Kd.R_reads' HO343.out).2.2 t346)
    (try rw [← Nbq12.out] at hx347_0)
    (try rw [← Nbq26.out] at hx347_0)
    obtain rfl : ad345 = ad347 := (by injection e347)
    refine start_ (n := 13) (S := fun w' => w'.cell? ⟨gb344, 0, none⟩ = some (.int .i64 t340) ∧ w'.cell? ⟨gb344, 1, none⟩ = some (.slice (some ad345) t341.length co50) ∧ w'.cell? ad345 = some (.bool false) ∧ w'.cell? (ad345.add (t346).toNat) = some (.bool false)) (ds := []) (tb 13 0) (by kernel_rfl) rfl rfl ⟨(blk_cell BK344.out 0).trans rfl, (blk_cell BK344.out 1).trans rfl, hx345_0, hx347_0⟩ (fun hHeld => ?_); refine with_tabW impl_allGames.tab6 impl_allGames.bits6 (fun HT_ HW_ => ?_)
    generalize w51.drew = w52 at HO_3 HO_9 HO343 BK339 BK344 HB hx345_0 hx347_0 hHeld ⊢
    refine zu (i := 0) (N := some 18) (tb 13 1) rfl rfl HT_ ?_
    refine zt (i := 1) (N := some 19) (tb 13 3) rfl rfl (take_ofW HT_.out HW_.out (by kernel_rfl)) hHeld ?_
    refine zu (i := 2) (N := some 20) (tb 13 7) rfl rfl HT_ ?_
    refine zt (i := 3) (N := some 21) (tb 13 15) rfl rfl (take_ofW HT_.out HW_.out (by kernel_rfl)) hHeld ?_
    refine zu (i := 4) (N := some 22) (tb 13 31) rfl rfl HT_ ?_
    refine zu (i := 5) (N := some 23) (tb 13 63) rfl rfl HT_ ?_
    refine zu (i := 6) (N := some 24) (tb 13 127) rfl rfl HT_ ?_
    refine zt (i := 7) (N := some 25) (tb 13 255) rfl rfl (take_ofW HT_.out HW_.out (by kernel_rfl)) hHeld ?_
    refine zt (i := 8) (N := some 26) (tb 13 511) rfl rfl (take_ofW HT_.out HW_.out (by kernel_rfl)) hHeld ?_
    refine one_ (i := 9) (N := some 27) (tb 13 1023) rfl rfl (one_of HT_.out (by kernel_rfl)) (by decide) (fun K hK => ?_)
    refine goes_ Tryz.func99 (by kernel_rfl) rfl #[.agg #[.int .i64 t340, .slice (some ad345) t341.length co50]] (by rfl) rfl rfl (by (try simp only [List.map_toArray, List.map_cons, List.map_nil]); first | done | rfl | (simp only [List.length_drop, List.length_take]; rfl)) ?_
    with_reducible refine (impl_votes_all.calls t340 _ _ t341 t346 _ ?side1 ?side2 A23.out).mono ?_
    (case side1 => repeat (first | exact (Kd.R_reads' HO343.out).2.2 | (with_reducible refine Kd.C_alloc ?_ _) | (with_reducible refine Kd.C_drewN ?_ _) | (with_reducible refine Kd.C_drew ?_)))
    (case side2 => exact (Kd.R_reads' HO343.out).2.1)
    rintro e w53 ⟨rfl, hb⟩
    have HS2_ := (hb.cell (World.block_lt_of_cell? _ _ (hHeld.2.2.1))).trans (hHeld.2.2.1)
    have HS3_ := (hb.cell (World.block_lt_of_cell? _ _ (hHeld.2.2.2))).trans (hHeld.2.2.2)
    refine ⟨_, rfl, ?_⟩
    have n0_ := Aside0.mk (Kd.R_below (zr HO_3.out) hb)
    have n1_ := Aside0.mk (Kd.R_below (zr HO_9.out) hb)
    have n2_ := Aside0.mk (Kd.R_below (zr HO343.out) hb)
    have n3_ := Aside0.mk (blk_below (g := gb339) (o := .cells #[.int .i64 (rd t335 x11_1)] 3 (0, 0)) (zb BK339.out) hb)
    have n4_ := Aside0.mk (blk_below (g := gb344) (o := .cells #[.int .i64 t340, .slice (some ad345) t341.length co50] 61 (0, 0)) (zb BK344.out) hb)
    have n5_ := Aside0.mk (below_step (zh HB.out) hb)
    clear HO_3 HO_9 HO343 BK339 BK344 HB
    have HO_3 := n0_
    have HO_9 := n1_
    have HO343 := n2_
    have BK339 := n3_
    have BK344 := n4_
    have HB := n5_
    clear n0_ n1_ n2_ n3_ n4_ n5_
    (try clear hb)
    (try clear hb2)
    (try clear hk)
    (try clear hi)
    refine hK.out _ _ ⟨(blk_cell BK344.out 0).trans rfl, (blk_cell BK344.out 1).trans rfl, HS2_, HS3_⟩ (fun hHeld => ?_)
    clear hK K
    refine zn1 ?_
    refine zu (i := 10) (N := some 28) (tb 13 2047) rfl rfl HT_ ?_
    refine zt (i := 11) (N := some 29) (tb 13 4095) rfl rfl (take_ofW HT_.out HW_.out (by kernel_rfl)) hHeld ?_
    refine zu (i := 12) (N := some 30) (tb 13 8191) rfl rfl HT_ ?_
    refine done_ (done_of HT_.out (by kernel_rfl)) ?_
    try go_wp2
    go_roundg k1
    case measure => have := HK1.out; omega
    case rel => exact ⟨(x3_1), (wrap64 (x11_1 + 1)), zE, H', zO HK1, ⟨zr (Kd.R_mono HO_3.out (fun _ hk => hk.1))⟩, ⟨zr (Kd.R_mono HO_9.out (fun _ hk => trivial))⟩, ⟨zh HB.out⟩⟩
   subst c27
   rw [if_pos rfl] at H
   replace H := Option.bind_eq_some_iff.mp H
   obtain ⟨⟨t348, t349⟩, A280, H⟩ := H
   replace H : (if x3_1.length < 4398046511104 then (impl_allGames.l0 k1 a0 (x3_1 ++ [(⟨t348, t349⟩ : S28)]) t335 (t335.length : Int) (wrap64 (x11_1 + 1))) else (none)) = some r := H
   have A28 := Aside0.mk A280
   clear A280
   by_cases c29 : x3_1.length < 4398046511104
   rotate_left
   ·rw [if_neg c29] at H
    cases H
   rw [if_pos c29] at H
   have LMc29 := Aside0.mk c29
   clear c29
   obtain ⟨y352, hy352⟩ : ∃ y_ : List (S28), y_ = (x3_1 ++ [(⟨t348, t349⟩ : S28)]) := ⟨_, rfl⟩
   rw [← hy352] at H
   have Ny352 := Aside0.mk hy352
   clear hy352
   have H' := Aside0.mk H
   clear H
   obtain ⟨⟨ad338, e338, hx338_0⟩, p338, q338⟩ := zW (Kd.at_int (Kd.R_reads' HO_9.out).2.2 x11_1)
   cases e338
   try go_wp2_with (first | ((with_reducible refine gate_dst (N := 5) rfl ?_); refine zq 5 #[.int .i64 0] 3 ?_; intro gb339 hg w30 hbox hb; have BK339 := Aside0.mk hbox; have GW339 := zG hg HB; have GE339 := zG hg HB; replace HO_3 := Aside0.mk (Kd.R_below (Kd.R_elderB (zr HO_3.out) gb339 (Nat.le_of_eq hg.symm)) hb); replace HO_9 := Aside0.mk (Kd.R_below (Kd.R_elderB (zr HO_9.out) gb339 (Nat.le_of_eq hg.symm)) hb); replace HB := zH hb HB; clear hb hbox hg; obtain ⟨hcz31_0, hfz31_0⟩ := zC1 BK339) | ((with_reducible refine gate_callee (f := 92) rfl ?_); refine zl 17 Tryz.func92 #[.int .i64 a0, .func (.func 97) #[] #[.pointer (some ⟨gb339, 0, none⟩)]] ?_; (with_reducible refine (votesOf_allGames.calls k1 a0 (rd t335 x11_1) t340 t341 _ gb339 (by first | exact (blk_cell (zb BK339.out) 0).trans rfl | exact (blk_cell (blk_put (zb BK339.out) 0 _ rfl) 0).trans rfl | exact zb BK339.out) A10.out).mono ?_); rintro e w32 ⟨v342, rfl, ho0, hb⟩; refine ⟨_, rfl, ?_⟩; have HO343 := Aside0.mk (Kd.R_lower ho0 (below_size (zh HB.out))); replace HO_3 := Aside0.mk (Kd.R_below (by (with_reducible repeat (first | apply Kd.R_alloc | apply Kd.R_drewN | apply Kd.R_drew)); exact (Kd.R_mono (Kd.R_far (p := ⟨gb339, 0, none⟩) (Kd.R_mono HO_3.out (fun k_ hk => (⟨hk, hk.2⟩ : _ ∧ k_ ≠ gb339))) (fun _ hk => hk.2) (.int .i64 (rd t335 x11_1))) (fun _ h_ => h_.1))) hb); replace HO_9 := Aside0.mk (Kd.R_below (by (with_reducible repeat (first | apply Kd.R_alloc | apply Kd.R_drewN | apply Kd.R_drew)); exact (Kd.R_mono (Kd.R_far (p := ⟨gb339, 0, none⟩) (Kd.R_mono HO_9.out (fun k_ hk => (⟨hk, hk.2⟩ : _ ∧ k_ ≠ gb339))) (fun _ hk => hk.2) (.int .i64 (rd t335 x11_1))) (fun _ h_ => h_.1))) hb); replace BK339 := Aside0.mk (blk_below (g := gb339) (o := .cells #[.int .i64 (rd t335 x11_1)] 3 (0, 0)) (by (with_reducible repeat (first | refine blk_drewN ?_ _ | refine blk_drew ?_ | refine blk_alloc ?_ _)); refine blk_put (cs := #[.int .i64 0]) ?_ 0 _ rfl; (with_reducible repeat (first | refine blk_drewN ?_ _ | refine blk_drew ?_ | refine blk_alloc ?_ _)); exact BK339.out) hb); replace HB := zH hb HB; clear hb; (try clear ho0)) | ((with_reducible refine gate_dst (N := 6) rfl ?_); refine zq 6 #[.int .i64 0, .slice none 0 0] 61 ?_; intro gb344 hg w33 hbox hb; have BK344 := Aside0.mk hbox; have GW344 := zG hg HB; have GE344 := zG hg HB; have NB339_344 := zNa hg BK339; have NB344_339 := zNb hg BK339; replace HO_3 := Aside0.mk (Kd.R_below (zr HO_3.out) hb); replace HO_9 := Aside0.mk (Kd.R_below (zr HO_9.out) hb); replace HO343 := Aside0.mk (Kd.R_below (zr HO343.out) hb); replace BK339 := zK BK339 hb; replace HB := zH hb HB; clear hb hbox hg; have hnb34 := NB344_339.out; have hnc34 := NB339_344.out; obtain ⟨hcz35_0, hcz35_1, hfz35_0, hfz35_1⟩ := zC2 BK344; obtain ⟨Ao36, co36, eo36⟩ := Kd.R_slice HO343.out; subst eo36))
   have n0_ : Aside0 (Kd.R k28 28 ((w33.setCell ⟨gb344, 0, none⟩ (.int .i64 t340)).setCell ⟨gb344, 1, none⟩ (.slice Ao36 t341.length co36)) w.heap.size (fun k_ => some k_ ≠ (.slice (some ad338) t335.length co6 : Value).ownBlock ∧ k_ ≠ gb339) u3 x3_1) := ⟨by (with_reducible repeat (first | apply Kd.R_alloc | apply Kd.R_drewN | apply Kd.R_drew)); exact Kd.R_mono (Kd.R_far (p := ⟨gb344, 1, none⟩) (Kd.R_far (p := ⟨gb344, 0, none⟩) (Kd.R_types HO_3.out BK344.out (by decide)) (fun _ hk => hk.2) (.int .i64 t340)) (fun _ hk => hk.2) (.slice Ao36 t341.length co36)) (fun _ hk => ⟨hk.1.1, hk.1.2⟩)⟩
   have n1_ : Aside0 (Kd.R (Kd.int .i64) 3 ((w33.setCell ⟨gb344, 0, none⟩ (.int .i64 t340)).setCell ⟨gb344, 1, none⟩ (.slice Ao36 t341.length co36)) w.heap.size (fun k_ => k_ ≠ gb339) (.slice (some ad338) t335.length co6) t335) := ⟨by (with_reducible repeat (first | apply Kd.R_alloc | apply Kd.R_drewN | apply Kd.R_drew)); exact Kd.R_mono (Kd.R_far (p := ⟨gb344, 1, none⟩) (Kd.R_far (p := ⟨gb344, 0, none⟩) (Kd.R_types HO_9.out BK344.out (by decide)) (fun _ hk => hk.2) (.int .i64 t340)) (fun _ hk => hk.2) (.slice Ao36 t341.length co36)) (fun _ hk => hk.1.2)⟩
   have n2_ : Aside0 (Kd.R Kd.bool 4 ((w33.setCell ⟨gb344, 0, none⟩ (.int .i64 t340)).setCell ⟨gb344, 1, none⟩ (.slice Ao36 t341.length co36)) w.heap.size (fun _ => True) (.slice Ao36 t341.length co36) t341) := ⟨by (with_reducible repeat (first | apply Kd.R_alloc | apply Kd.R_drewN | apply Kd.R_drew)); exact Kd.R_mono (Kd.R_far (p := ⟨gb344, 1, none⟩) (Kd.R_far (p := ⟨gb344, 0, none⟩) (Kd.R_types HO343.out BK344.out (by decide)) (fun _ hk => hk.2) (.int .i64 t340)) (fun _ hk => hk.2) (.slice Ao36 t341.length co36)) (fun _ hk => trivial)⟩
   have n3_ : Aside0 (((w33.setCell ⟨gb344, 0, none⟩ (.int .i64 t340)).setCell ⟨gb344, 1, none⟩ (.slice Ao36 t341.length co36)).heap[gb339]? = some (.cells #[.int .i64 (rd t335 x11_1)] 3 (0, 0))) := ⟨zf2 BK339.out NB339_344.out NB339_344.out⟩
   have n4_ : Aside0 (((w33.setCell ⟨gb344, 0, none⟩ (.int .i64 t340)).setCell ⟨gb344, 1, none⟩ (.slice Ao36 t341.length co36)).heap[gb344]? = some (.cells #[.int .i64 t340, .slice Ao36 t341.length co36] 61 (0, 0))) := ⟨by (with_reducible repeat (first | refine blk_drewN ?_ _ | refine blk_drew ?_ | refine blk_alloc ?_ _)); refine blk_put (cs := #[.int .i64 t340, .slice none 0 0]) ?_ 1 _ rfl; (with_reducible repeat (first | refine blk_drewN ?_ _ | refine blk_drew ?_ | refine blk_alloc ?_ _)); refine blk_put (cs := #[.int .i64 0, .slice none 0 0]) ?_ 0 _ rfl; (with_reducible repeat (first | refine blk_drewN ?_ _ | refine blk_drew ?_ | refine blk_alloc ?_ _)); exact BK344.out⟩
   have n5_ : Aside0 (Below w.heap.size w ((w33.setCell ⟨gb344, 0, none⟩ (.int .i64 t340)).setCell ⟨gb344, 1, none⟩ (.slice Ao36 t341.length co36))) := ⟨zh HB.out⟩
   (try clear HO_3)
   (try clear HO_9)
   (try clear HO343)
   (try clear BK339)
   (try clear BK344)
   (try clear HB)
   generalize ((w33.setCell ⟨gb344, 0, none⟩ (.int .i64 t340)).setCell ⟨gb344, 1, none⟩ (.slice Ao36 t341.length co36)) = w37 at n0_ n1_ n2_ n3_ n4_ n5_ ⊢
   have HO_3 := n0_
   have HO_9 := n1_
   have HO343 := n2_
   have BK339 := n3_
   have BK344 := n4_
   have HB := n5_
   clear n0_ n1_ n2_ n3_ n4_ n5_
   have n0_ := Aside0.mk (Kd.R_drew HO_3.out)
   have n1_ := Aside0.mk (Kd.R_drew HO_9.out)
   have n2_ := Aside0.mk (Kd.R_drew HO343.out)
   have n3_ := Aside0.mk (blk_drew BK339.out)
   have n4_ := Aside0.mk (blk_drew BK344.out)
   have n5_ := Aside0.mk (below_drew1 HB.out)
   clear HO_3 HO_9 HO343 BK339 BK344 HB
   have HO_3 := n0_
   have HO_9 := n1_
   have HO343 := n2_
   have BK339 := n3_
   have BK344 := n4_
   have HB := n5_
   clear n0_ n1_ n2_ n3_ n4_ n5_
   have p345 : 0 ≤ (0 : Int) := (by omega)
   have q345 : 0 < (t341.length : Int) := zk
   obtain ⟨ad345, e345, hx345_0⟩ := Kd.at_bool (Kd.R_reads' HO343.out).2.2 0 p345 q345
   (try rw [← Nbq12.out] at hx345_0)
   (try rw [← Nbq26.out] at hx345_0)
   cases e345
   have qi345 : (0 < t341.length) = True := eq_true (by omega)
   (try rw [show ((0 : Int)).toNat = 0 from rfl] at hx345_0)
   (try rw [Addr.add_zero'] at hx345_0)
   replace p345 := eq_true p345
   replace q345 := eq_true q345
   obtain ⟨⟨ad347, e347, hx347_0⟩, p347, q347⟩ := zW (Kd.at_bool (Kd.R_reads' HO343.out).2.2 t346)
   (try rw [← Nbq12.out] at hx347_0)
   (try rw [← Nbq26.out] at hx347_0)
   obtain rfl : ad345 = ad347 := (by injection e347)
   refine start_ (n := 13) (S := fun w' => w'.cell? ⟨gb344, 0, none⟩ = some (.int .i64 t340) ∧ w'.cell? ⟨gb344, 1, none⟩ = some (.slice (some ad345) t341.length co36) ∧ w'.cell? ad345 = some (.bool false) ∧ w'.cell? (ad345.add (t346).toNat) = some (.bool true)) (ds := []) (tb 13 0) (by kernel_rfl) rfl rfl ⟨(blk_cell BK344.out 0).trans rfl, (blk_cell BK344.out 1).trans rfl, hx345_0, hx347_0⟩ (fun hHeld => ?_); refine with_tabW impl_allGames.tab6 impl_allGames.bits6 (fun HT_ HW_ => ?_)
   generalize w37.drew = w38 at HO_3 HO_9 HO343 BK339 BK344 HB hx345_0 hx347_0 hHeld ⊢
   refine zu (i := 0) (N := some 18) (tb 13 1) rfl rfl HT_ ?_
   refine zt (i := 1) (N := some 19) (tb 13 3) rfl rfl (take_ofW HT_.out HW_.out (by kernel_rfl)) hHeld ?_
   refine zu (i := 2) (N := some 20) (tb 13 7) rfl rfl HT_ ?_
   refine zt (i := 3) (N := some 21) (tb 13 15) rfl rfl (take_ofW HT_.out HW_.out (by kernel_rfl)) hHeld ?_
   refine zu (i := 4) (N := some 22) (tb 13 31) rfl rfl HT_ ?_
   refine zu (i := 5) (N := some 23) (tb 13 63) rfl rfl HT_ ?_
   refine zu (i := 6) (N := some 24) (tb 13 127) rfl rfl HT_ ?_
   refine zt (i := 7) (N := some 25) (tb 13 255) rfl rfl (take_ofW HT_.out HW_.out (by kernel_rfl)) hHeld ?_
   refine zt (i := 8) (N := some 26) (tb 13 511) rfl rfl (take_ofW HT_.out HW_.out (by kernel_rfl)) hHeld ?_
   refine one_ (i := 9) (N := some 27) (tb 13 1023) rfl rfl (one_of HT_.out (by kernel_rfl)) (by decide) (fun K hK => ?_)
   refine goes_ Tryz.func99 (by kernel_rfl) rfl #[.agg #[.int .i64 t340, .slice (some ad345) t341.length co36]] (by rfl) rfl rfl (by (try simp only [List.map_toArray, List.map_cons, List.map_nil]); first | done | rfl | (simp only [List.length_drop, List.length_take]; rfl)) ?_
   with_reducible refine (impl_votes_all.calls t340 _ _ t341 t346 _ ?side1 ?side2 A23.out).mono ?_
   (case side1 => repeat (first | exact (Kd.R_reads' HO343.out).2.2 | (with_reducible refine Kd.C_alloc ?_ _) | (with_reducible refine Kd.C_drewN ?_ _) | (with_reducible refine Kd.C_drew ?_)))
   (case side2 => exact (Kd.R_reads' HO343.out).2.1)
   rintro e w39 ⟨rfl, hb⟩
   have HS2_ := (hb.cell (World.block_lt_of_cell? _ _ (hHeld.2.2.1))).trans (hHeld.2.2.1)
   have HS3_ := (hb.cell (World.block_lt_of_cell? _ _ (hHeld.2.2.2))).trans (hHeld.2.2.2)
   refine ⟨_, rfl, ?_⟩
   have n0_ := Aside0.mk (Kd.R_below (zr HO_3.out) hb)
   have n1_ := Aside0.mk (Kd.R_below (zr HO_9.out) hb)
   have n2_ := Aside0.mk (Kd.R_below (zr HO343.out) hb)
   have n3_ := Aside0.mk (blk_below (g := gb339) (o := .cells #[.int .i64 (rd t335 x11_1)] 3 (0, 0)) (zb BK339.out) hb)
   have n4_ := Aside0.mk (blk_below (g := gb344) (o := .cells #[.int .i64 t340, .slice (some ad345) t341.length co36] 61 (0, 0)) (zb BK344.out) hb)
   have n5_ := Aside0.mk (below_step (zh HB.out) hb)
   clear HO_3 HO_9 HO343 BK339 BK344 HB
   have HO_3 := n0_
   have HO_9 := n1_
   have HO343 := n2_
   have BK339 := n3_
   have BK344 := n4_
   have HB := n5_
   clear n0_ n1_ n2_ n3_ n4_ n5_
   (try clear hb)
   (try clear hb2)
   (try clear hk)
   (try clear hi)
   refine hK.out _ _ ⟨(blk_cell BK344.out 0).trans rfl, (blk_cell BK344.out 1).trans rfl, HS2_, HS3_⟩ (fun hHeld => ?_)
   clear hK K
   refine zn1 ?_
   refine zu (i := 10) (N := some 28) (tb 13 2047) rfl rfl HT_ ?_
   refine zt (i := 11) (N := some 29) (tb 13 4095) rfl rfl (take_ofW HT_.out HW_.out (by kernel_rfl)) hHeld ?_
   refine zu (i := 12) (N := some 30) (tb 13 8191) rfl rfl HT_ ?_
   refine done_ (done_of HT_.out (by kernel_rfl)) ?_
   obtain ⟨hcz40_0, hcz40_1, hfz40_0, hfz40_1⟩ := zC2 BK344
   try go_wp2_with (first | ((with_reducible refine gate_callee (f := 100) rfl ?_); refine zl 33 Tryz.func100 #[.agg #[.int .i64 t340, .slice (some ad345) t341.length co36]] ?_; (with_reducible refine (impl_votes_game.calls k1 t340 _ _ t341 t348 t349 _ ?side1 ?side2 A28.out).mono ?_); (case side1 => exact zQ ((Kd.R_reads' HO343.out).2.2)); (case side2 => exact (Kd.R_reads' HO343.out).2.1); rintro e w41 ⟨v350, rfl, ho0, hb⟩; refine ⟨_, rfl, ?_⟩; have HO351 := Aside0.mk (Kd.S_lower (Kd.S_newB (Kd.S_new' ho0 (Kd.R_lt (zr HO_9.out))) (g := gb339) (o := .cells #[.int .i64 (rd t335 x11_1)] 3 (0, 0)) (zb BK339.out)) (below_size (zh HB.out))); replace HO_3 := Aside0.mk (Kd.R_elder' (zr HO_3.out) (Kd.S_base ho0) hb); replace HO_9 := Aside0.mk (Kd.R_below (zr HO_9.out) hb); replace HO343 := Aside0.mk (Kd.R_below (zr HO343.out) hb); replace BK339 := zK BK339 hb; replace BK344 := zK BK344 hb; replace HB := zH hb HB; clear hb; (try clear ho0); obtain ⟨Ao43, co43, eo43⟩ := Kd.S_slice HO351.out; subst eo43) | ((with_reducible refine gate_builtin (b := .append) (xs := #[.tmp 31, .tmp 34]) rfl ?_); at_builtin; refine Kd.R_append k28 (w0 := w) w.heap.size rfl (.tmp 31) (.tmp 34) 42 28 (.agg #[(.int .i64 0), (.slice none 0 0)]) 32 rfl Tryz.underlying42 info28 rfl (by decide) (by omega) u3 x3_1 (⟨t348, t349⟩ : S28) [.int .i64 t348, .slice Ao43 t349.length co43] (fun k_ => some k_ ≠ (.slice (some ad338) t335.length co6 : Value).ownBlock ∧ k_ ≠ gb339) (fun k_ => ((fun k_ => some k_ ≠ (.slice (some ad338) t335.length co6 : Value).ownBlock ∧ k_ ≠ gb339)) k_ ∧ some k_ ≠ (u3 : Value).ownBlock) rfl rfl ?aP (fun _ hk => hk) ?aF ?aO ?aB ?aS ?aL ?_; (case aP => exact k28_mkM _ _ _ (⟨t348, t349⟩ : S28) (Kd.R_mono (Kd.R_apart' ((Kd.S_R HO351.out)) (Kd.R_typed HO_3.out) (by decide)) (fun k_ hk => ⟨⟨hk.1.1.2, hk.1.2⟩, hk.2⟩))); (case aB => exact (zh HB.out)); (case aF => exact (fun k_ hk => ⟨Kd.fresh' (Kd.R_lt (zr HO_9.out)) k_ hk, Kd.freshB (g := gb339) (o := .cells #[.int .i64 (rd t335 x11_1)] 3 (0, 0)) (zb BK339.out) k_ hk⟩)); (case aO => exact (by (with_reducible repeat (first | apply Kd.R_alloc | apply Kd.R_drewN | apply Kd.R_drew)); exact Kd.R_mono HO_3.out (fun _ hk => ⟨hk.1.1, hk.1.2⟩))); (case aS => exact (below_size (zh HB.out))); (case aL => have := LMc29.out; omega); intro v353 w42 ho hb hg hat; rw [← Ny352.out] at ho; have HO354 := Aside0.mk (ho); replace HO_9 := Aside0.mk (Kd.R_over' (zr HO_9.out) (Kd.R_typed (zr HO_3.out)) (by decide) hg); replace BK339 := Aside0.mk (blk_grown (g := gb339) (o := .cells #[.int .i64 (rd t335 x11_1)] 3 (0, 0)) (zb BK339.out) hg (Kd.R_ne HO_3.out BK339.out (by decide))); replace HO343 := Aside0.mk (Kd.R_over' (zr HO343.out) (Kd.R_typed (zr HO_3.out)) (by decide) hg); replace BK344 := Aside0.mk (blk_grown (g := gb344) (o := .cells #[.int .i64 t340, .slice (some ad345) t341.length co36] 61 (0, 0)) (zb BK344.out) hg (Kd.R_ne HO_3.out BK344.out (by decide))); replace HB := Aside0.mk (hb); clear HO_3 HO351 ho hb hg hat))
   go_roundg k1
   case measure => have := HK1.out; omega
   case rel => exact ⟨(y352), (wrap64 (x11_1 + 1)), zE, H', zO HK1, ⟨zr (Kd.R_mono HO354.out (fun _ hk => hk.1))⟩, ⟨zr (Kd.R_mono HO_9.out (fun _ hk => trivial))⟩, ⟨zh HB.out⟩⟩
end Go.Proofs.YtmbkmabpebjboaaGreat.Q
end
section
namespace Go.Proofs.YtmbkmabpebjboaaGreat.Q
open Go.RowKit Go.Proofs.YtmbkmabpebjboaaGreatW.PrintWords Go.Proofs.YtmbkmabpebjboaaGreatW.PrintLast Go.Proofs.YtmbkmabpebjboaaGreatW.PrintMore
set_option linter.unusedVariables false
set_option linter.unusedSimpArgs false
mutual
def impl_votes_chambers.l0 : Nat → List (S61) → List Int → Int → List (S28) → Int → Int → Int → List Bool → Option ((List (S61)))
 | 0, _, _, _, _, _, _, _, _ => none
 | k + 1, x3, x4, x5, x24, x25, x26, x440000, x440001 => if x26 < x25 then (if 0 ≤ x26 then (if x26 < (x24.length : Int) then ((impl_Game_votes.f k ((rd_T28 x24 x26).f0) ((rd_T28 x24 x26).f1)).bind fun bt452 => ((impl_votes_table.f k bt452.1 bt452.2).bind fun t457 => (if (Go.bits .and .i64 t457 x5) = x5 then ((impl_votes_firstTrade.f k bt452.1 bt452.2).bind fun bt458 => (if bt458.2.2 = true then (impl_votes_chambers.l0 k x3 x4 x5 x24 x25 (wrap64 (x26 + 1)) x440000 x440001) else (if x3.length < 4398046511104 then (if x4.length < 17592186044416 then (impl_votes_chambers.l0 k (x3 ++ [(⟨bt452.1, bt452.2⟩ : S61)]) (x4 ++ [t457]) x5 x24 x25 (wrap64 (x26 + 1)) x440000 x440001) else (none)) else (none)))) else (impl_votes_chambers.l0 k x3 x4 x5 x24 x25 (wrap64 (x26 + 1)) x440000 x440001)))) else (none)) else (none)) else (impl_votes_chambers.l1 k x3 x4 x5 1 x440000 x440001)
def impl_votes_chambers.l1 : Nat → List (S61) → List Int → Int → Int → Int → List Bool → Option ((List (S61)))
 | 0, _, _, _, _, _, _ => none
 | k + 1, x3, x4, x5, x12, x440000, x440001 => (impl_chosen.f k x4 0 x12 (wrap64 ((shl .i64 1 (x440001.length : Int)) - 1)) x5).bind fun bt472 => (if bt472.2 = true then (impl_votes_chambers.l2 k x3 (([] : List (S61))) bt472.1 (bt472.1.length : Int) 0) else (impl_votes_chambers.l1 k x3 x4 x5 (wrap64 (x12 + 1)) x440000 x440001))
def impl_votes_chambers.l2 : Nat → List (S61) → List (S61) → List Int → Int → Int → Option ((List (S61)))
 | 0, _, _, _, _, _ => none
 | k + 1, x3, x15, x72, x73, x74 => if x74 < x73 then (if 0 ≤ x74 then (if x74 < (x72.length : Int) then (if 0 ≤ (rd x72 x74) then (if (rd x72 x74) < (x3.length : Int) then (if x15.length < 4398046511104 then (impl_votes_chambers.l2 k x3 (x15 ++ [(⟨(rd_T61 x3 (rd x72 x74)).f0, (rd_T61 x3 (rd x72 x74)).f1⟩ : S61)]) x72 x73 (wrap64 (x74 + 1))) else (none)) else (none)) else (none)) else (none)) else (none)) else (some x15)
end
def impl_votes_chambers.f (k : Nat) (a0_0 : Int) (l0_1 : List Bool) : Option ((List (S61))) := (impl_votes_table.f k a0_0 l0_1).bind fun t446 => ((impl_allGames.f k a0_0).bind fun t447 => (impl_votes_chambers.l0 k (([] : List (S61))) (([] : List Int)) t446 t447 (t447.length : Int) 0 a0_0 l0_1))
structure ChmSt (gb b0 b1 : Nat) (X : Array Value) (Ag : Option Addr) (gl : List S28) (u wr : World) (u3 u4 : Value) (x3 : List S61) (x4 : List Int) : Prop where
  N3 : Kd.N k61 61 wr u.heap.size (fun z => u.heap.size ≤ z ∧ z ≠ gb ∧ some z ≠ u4.ownBlock ∧ (z < b0 ∨ b1 ≤ z)) u3 x3
  R4 : Kd.R (Kd.int .i64) 3 wr u.heap.size (fun z => z ≠ gb ∧ (z < b0 ∨ b1 ≤ z)) u4 x4
  F5 : Kd.F k28 wr (fun z => b0 ≤ z ∧ z < b1) Ag gl.length gl
  X : wr.heap[gb]? = some (.cells X 61 (0, 0))
  B : Below u.heap.size u wr
  W : b1 ≤ wr.heap.size
section
variable {gb b0 b1 : Nat} {X : Array Value} {Ag : Option Addr} {gl : List S28} {u W w1 : World} {u3 u4 v3 v4 : Value} {x3 y3 : List S61} {x4 y4 : List Int}
theorem ChmSt.below (h : ChmSt gb b0 b1 X Ag gl u W u3 u4 x3 x4) (hb : Below W.heap.size W w1) : ChmSt gb b0 b1 X Ag gl u w1 u3 u4 x3 x4 :=
  ⟨Kd.N_below h.N3 hb, Kd.R_below h.R4 hb, Kd.F_below h.F5 hb, blk_below h.X hb, h.B.trans (hb.mono h.B.size), Nat.le_trans h.W hb.size⟩
theorem ChmSt.app3 (h : ChmSt gb b0 b1 X Ag gl u W u3 u4 x3 x4) (hN : Kd.N k61 61 w1 u.heap.size (fun z => u.heap.size ≤ z ∧ z ≠ gb ∧ some z ≠ u4.ownBlock ∧ (z < b0 ∨ b1 ≤ z)) v3 y3) (hb : Below u.heap.size W w1) (hg : W.grownBy w1 u3.ownBlock) : ChmSt gb b0 b1 X Ag gl u w1 v3 u4 y3 x4 :=
  ⟨hN, Kd.R_mono (Kd.R_step (Kd.R_apart' h.R4 (Kd.N_typed h.N3) (by decide)) (fun z hz hlt => hg.block z hlt hz.2)) (fun _ hz => hz.1),
    Kd.F_step h.F5 (fun z hz hlt => hg.block z hlt (fun he => by have := (h.N3.1 z he.symm).2.2.2; omega)), blk_grown h.X hg (Kd.N_away h.N3 (fun z hz => hz.2.1)), h.B.trans hb, Nat.le_trans h.W hb.size⟩
theorem ChmSt.app4 (h : ChmSt gb b0 b1 X Ag gl u W u3 u4 x3 x4) (hR : Kd.R (Kd.int .i64) 3 w1 u.heap.size (fun z => z ≠ gb ∧ (z < b0 ∨ b1 ≤ z)) v4 y4) (hb : Below u.heap.size W w1) (hg : W.grownBy w1 u4.ownBlock) (hat : v4.ownBlock = u4.ownBlock ∨ ∃ b, v4.ownBlock = some b ∧ W.heap.size ≤ b) : ChmSt gb b0 b1 X Ag gl u w1 u3 v4 x3 y4 :=
  ⟨Kd.N_mono (Kd.N_step (Kd.N_bound h.N3) (fun z hz hlt => hg.block z hlt hz.1.2.2.1)) (fun z hz => ⟨hz.1.1, hz.1.2.1, fun he => by
      rcases hat with ha | ⟨b, ha, hle⟩
      · exact hz.1.2.2.1 (he.trans ha)
      · rw [ha] at he; injection he with he; have := hz.2; omega, hz.1.2.2.2⟩), hR,
    Kd.F_step h.F5 (fun z hz hlt => hg.block z hlt (fun he => by have := (h.R4.1 z he.symm).2; omega)), blk_grown h.X hg (fun he => (h.R4.1 gb he.symm).1 rfl), h.B.trans hb, Nat.le_trans h.W hb.size⟩
end
theorem ChmSt.fresh {gb b0 b1 : Nat} {X : Array Value} {Ag : Option Addr} {gl : List S28} {u W : World} {u3 u4 : Value} {x3 : List S61} {x4 : List Int} (h : ChmSt gb b0 b1 X Ag gl u W u3 u4 x3 x4) (z : Nat) (hz : W.heap.size ≤ z) : (u.heap.size ≤ z ∧ z ≠ gb ∧ some z ≠ u4.ownBlock ∧ (z < b0 ∨ b1 ≤ z)) ∧ some z ≠ u3.ownBlock := by
  have h1 := h.B.size
  have h2 := blk_lt h.X
  have h3 := h.W
  exact ⟨⟨by omega, by omega, fun he => by have := Kd.R_lt h.R4 z he.symm; omega, by omega⟩, fun he => by have := Kd.N_lt h.N3 z he.symm; omega⟩
theorem len32 {n : Nat} (h : n < 4398046511104) : (n + 1) * 32 ≤ 140737488355328 := by omega
theorem len8 {n : Nat} (h : n < 17592186044416) : (n + 1) * 8 ≤ 140737488355328 := by omega
theorem own_next {u v : Value} {D : Nat} {W : World} (h : ∀ z, u.ownBlock = some z → D ≤ z) (hat : v.ownBlock = u.ownBlock ∨ ∃ b, v.ownBlock = some b ∧ W.heap.size ≤ b) (hW : D ≤ W.heap.size) : ∀ z, v.ownBlock = some z → D ≤ z := fun z he => by
  rcases hat with ha | ⟨b, ha, hle⟩
  · exact h z (ha ▸ he)
  · rw [ha] at he; injection he with he; omega
theorem below_grown_ {u : Value} {B D : Nat} {W w1 : World} (hb : Below B W w1) (hg : W.grownBy w1 u.ownBlock) (h : ∀ z, u.ownBlock = some z → D ≤ z) (hW : D ≤ W.heap.size) : Below D W w1 := ⟨hb.os, hb.tape, hb.output, hb.size, fun z hz => hg.block z (Nat.lt_of_lt_of_le hz hW) (fun he => Nat.lt_irrefl _ (Nat.lt_of_lt_of_le hz (h z he.symm)))⟩
theorem N_V_ {α : Type} {d : Kd α} {e base : Nat} {W : World} {ok : Nat → Prop} {v : Value} {xs : List α} (h : Kd.N d e W base ok v xs) : Kd.V d e W base ok v xs := by
  obtain ⟨A, c, rfl⟩ := Kd.N_slice h
  exact Kd.V_mk (Kd.N_reads' h).2.1 (Kd.N_F h)
theorem N_re {α : Type} {d : Kd α} {e base : Nat} {W : World} {ok ok' : Nat → Prop} {v : Value} (h : Kd.N d e W base ok v []) (hk : ∀ k, v.ownBlock = some k → ok' k) : Kd.N d e W base ok' v [] := by
  obtain ⟨_, rows, hl, hR, _⟩ := h
  exact ⟨hk, rows, hl, hR, fun j x c hx => by simp at hx⟩
set_option maxHeartbeats 16000000 in
set_option maxRecDepth 100000 in
theorem impl_votes_chambers.calls (k : Nat) (a0_0 : Int) (A0_1 : Option Addr) (c0_1 : Nat) (l0_1 : List Bool) (r : List (S61)) (w : World) (hr0_1 : Kd.C Kd.bool w A0_1 l0_1.length l0_1) (hc0_1 : l0_1.length ≤ c0_1) (h : impl_votes_chambers.f k a0_0 l0_1 = some r) :
    Calls Tryz.prog 32 #[.agg #[.int .i64 a0_0, .slice A0_1 l0_1.length c0_1]] w fun e w' => ∃ v0_ : Value, e = .returned (v0_) ∧ Kd.V k61 61 w' w.heap.size (fun k_ => (w.heap.size ≤ k_)) v0_ r ∧ Below w.heap.size w w' := by
  unfold impl_votes_chambers.f at h
  replace h := Option.bind_eq_some_iff.mp h
  obtain ⟨want, ht, h⟩ := h
  replace h := Option.bind_eq_some_iff.mp h
  obtain ⟨gl, hg, h⟩ := h
  have HC := Aside0.mk hr0_1
  have HT := Aside0.mk ht
  have HG := Aside0.mk hg
  have HH := Aside0.mk h
  have u1 := Tryz.underlying28
  have u2 := Tryz.underlying61
  have u3_ := Tryz.underlying86
  clear hr0_1 ht hg h
  go_enter Tryz.func32, Tryz.ntmps32
  go_wp2_with (first
    | ((with_reducible refine gate_dst (N := 1) rfl ?_); refine box_event ?hg (N := 1) ?hd (cs := #[.int .i64 a0_0, .slice A0_1 l0_1.length c0_1]) (t := 61) ?hr ?_; (case hd => rfl); (case hg => rfl); (case hr => first | (go_simp; done) | (go_simp; rfl)); intro gb hgb w1 hbox hb1; have HX1 := Aside0.mk hbox; have HB1 := Aside0.mk hb1; have HGW := Aside0.mk (Nat.le_of_eq hgb.symm : w.heap.size ≤ gb); clear hbox hb1 hgb)
    | ((with_reducible refine gate_dst (N := 18) rfl ?_); refine Kd.N_lit k61 _ 61 ?hg (N' := 18) ?hd (xs := ([] : List S61)) (inner := []) (ok := fun _ => True) (okp := fun _ => False) ?hr ?hp (fun _ hk => hk.elim) trivial (Below.refl _ _) (Nat.le_refl _) (by simp) ?_; (case hd => rfl); (case hg => rfl); (case hr => first | (go_simp; done) | (go_simp; rfl)); (case hp => exact Reps.none _ _); intro v3 w2 ho hb _ _; have HN2 := Aside0.mk ho; have HB2 := Aside0.mk hb; have HX2 := Aside0.mk (blk_below HX1.out hb); clear ho hb)
    | ((with_reducible refine gate_dst (N := 19) rfl ?_); refine Kd.R_lit (Kd.int .i64) _ 3 ?hg (N := 19) ?hd (xs := ([] : List Int)) (inner := []) (ok := fun _ => True) (okp := fun _ => True) ?hr ?hp (fun _ hk => hk) trivial (Below.refl _ _) (Nat.le_refl _) (by simp) ?_; (case hd => rfl); (case hg => rfl); (case hr => first | (go_simp; done) | (go_simp; rfl)); (case hp => exact Reps.none _ _); intro v4 w3 ho hb _ _; have HR3 := Aside0.mk ho; have HB3 := Aside0.mk hb; have HX3 := Aside0.mk (blk_below HX2.out hb); clear ho hb; have z0_ := (blk_cell HX3.out 0).trans rfl; have z1_ := (blk_cell HX3.out 1).trans rfl; have f0_ := blk_frozen HX3.out 0; have f1_ := blk_frozen HX3.out 1)
    | (go_at_call 57; refine (impl_votes_table.calls k a0_0 A0_1 c0_1 l0_1 want _ (Kd.C_below HC.out (HB1.out.trans ((HB2.out.trans (HB3.out.mono HB2.out.size)).mono HB1.out.size))) hc0_1 HT.out).mono ?_; rintro e w4 ⟨rfl, hb⟩; have HB4 := Aside0.mk hb; have HX4 := Aside0.mk (blk_below HX3.out hb); clear hb z0_ z1_ f0_ f1_; have z0_ := (blk_cell HX4.out 0).trans rfl; have z1_ := (blk_cell HX4.out 1).trans rfl; have f0_ := blk_frozen HX4.out 0; have f1_ := blk_frozen HX4.out 1)
    | (go_at_call 58; refine (impl_allGames.calls k a0_0 gl _ HG.out).mono ?_; rintro e w5 ⟨v5, rfl, hR, hb⟩; obtain ⟨Ag, cg, rfl⟩ := Kd.R_slice hR; have HR5 := Aside0.mk hR; have HB5 := Aside0.mk hb; have HX5 := Aside0.mk (blk_below HX4.out hb); clear hR hb z0_ z1_ f0_ f1_))
  have s12 := HB2.out.size
  have s23 := HB3.out.size
  have s34 := HB4.out.size
  have s45 := HB5.out.size
  have hS0 : ChmSt gb w4.heap.size w5.heap.size #[.int .i64 a0_0, .slice A0_1 l0_1.length c0_1] Ag gl w w5 v3 v4 [] [] := by
    have n1 := fun z he => Kd.N_base HN2.out z he
    have n2 := fun z he => Kd.N_lt HN2.out z he
    have m1 := fun z he => Kd.R_base HR3.out z he
    have m2 := fun z he => Kd.R_lt HR3.out z he
    have g1 := blk_lt HX1.out
    refine ⟨N_re (ok := fun _ => True) (Kd.N_lower (Kd.N_below (Kd.N_below (Kd.N_below HN2.out HB3.out) HB4.out) HB5.out) HB1.out.size) (fun z he => ⟨Nat.le_trans HB1.out.size (n1 z he), ?_, fun h2 => ?_, .inl ?_⟩), Kd.R_reok rfl (Kd.R_lower (Kd.R_below (Kd.R_below HR3.out HB4.out) HB5.out) (Nat.le_trans HB1.out.size s12)) (fun z he => ⟨?_, .inl ?_⟩), Kd.F_mono (Kd.R_F (Kd.R_bound HR5.out)) (fun z hz => ⟨hz.2.1, hz.2.2.1⟩), HX5.out, HB1.out.trans ((HB2.out.trans ((HB3.out.trans ((HB4.out.trans (HB5.out.mono s34)).mono s23)).mono s12)).mono HB1.out.size), Nat.le_refl _⟩
    · have := n1 z he; omega
    · have := n2 z he; have := m1 z h2.symm; omega
    · have := n2 z he; omega
    · have := m1 z he; omega
    · have := m2 z he; omega
  have HS0 := Aside0.mk hS0
  have hlg : gl.length ≤ 9223372036854775807 := Kd.F_max hS0.F5
  clear hS0 s12 s23 s34 s45 HN2 HR3 HR5 HX1 HX2 HX3 HX4 HX5 HB2 HB3 HB4 HB5
  go_loopg [3, 4, 26] k (fun kq v3 v4 v26 wr => ∃ (x3 : List S61) (x4 : List Int) (j : Nat), v26 = .int .i64 j ∧ Aside0 (impl_votes_chambers.l0 kq x3 x4 want gl (gl.length : Int) (j : Int) a0_0 l0_1 = some r) ∧ Aside0 (kq ≤ k) ∧ Aside0 (ChmSt gb w4.heap.size w5.heap.size #[.int .i64 a0_0, .slice A0_1 l0_1.length c0_1] Ag gl w wr v3 v4 x3 x4))
  case atStart => exact ⟨[], [], 0, rfl, HH, ⟨Nat.le_refl _⟩, HS0⟩
  case round =>
    clear HH HS0
    obtain ⟨x3, x4, j, rfl, HA, HK, HS⟩ := hrel
    cases gk with
    | zero => exact absurd HA.out (by simp [impl_votes_chambers.l0])
    | succ k1 =>
      have h := HA.out
      clear HA
      simp only [impl_votes_chambers.l0] at h
      by_cases hlt : j < gl.length
      · have hltz : (j : Int) < (gl.length : Int) := Int.ofNat_lt.2 hlt
        have hltb : decide ((j : Int) < (gl.length : Int)) = true := decide_eq_true hltz
        have hw1 : wrap64 ((j : Int) + 1) = ((j + 1 : Nat) : Int) := om3 hlt hlg
        have hrd : rd_T28 gl (j : Int) = gl.getD j z28 := by unfold rd_T28; rw [Int.toNat_natCast]
        rw [if_pos hltz, if_pos (Int.natCast_nonneg _), if_pos hltz, hw1, hrd] at h
        replace h := Option.bind_eq_some_iff.mp h
        obtain ⟨⟨m, tb⟩, hv, h⟩ := h
        replace h := Option.bind_eq_some_iff.mp h
        obtain ⟨t, htb, h⟩ := h
        dsimp only at htb h
        obtain ⟨ad, cs, e, hcl, hK, hcc, _⟩ := Kd.F_get HS.out.F5 z28 (j : Int) (Int.natCast_nonneg _) hltz
        subst e
        rw [Int.toNat_natCast] at hK hcc
        generalize gl.getD j z28 = g at hK hv
        obtain ⟨A0, c0, rfl, hl0, hgF⟩ := k28_openF hK
        have x0 : wr.cell? (ad.add (j * 2)) = some (.int .i64 g.f0) := hcc 0 _ rfl
        have x1 : wr.cell? ⟨(ad.add (j * 2)).block, (ad.add (j * 2)).off + 1, none⟩ = some (.slice A0 g.f1.length c0) := by rw [← add_field _ _ 1 (by decide)]; exact hcc 1 _ rfl
        have HV := Aside0.mk hv
        have HTB := Aside0.mk htb
        have HGC := Aside0.mk (Kd.C_alloc (Kd.F_now hgF) (.cells #[.int .i64 g.f0, .slice A0 g.f1.length c0] 28))
        have hnew := blk_new wr (.cells #[.int .i64 g.f0, .slice A0 g.f1.length c0] 28)
        have y0 := (blk_cell hnew 0).trans rfl
        have y1 := (blk_cell hnew 1).trans rfl
        have HBa := Aside0.mk ((Below.refl wr.heap.size wr).alloc (Nat.le_refl _) (.cells #[.int .i64 g.f0, .slice A0 g.f1.length c0] 28))
        clear hK hcc hcl hv htb hgF hnew hrd
        by_cases hcov : Go.bits .and .i64 t want = want
        case neg =>
          rw [if_neg hcov] at h
          have HH := Aside0.mk h
          have cb : (Go.bits .and .i64 t want != want) = true := bne_iff_ne.2 hcov
          clear h
          go_wp2_with (first
            | (go_at_call 31; refine (impl_Game_votes.calls k1 g.f0 A0 c0 g.f1 m tb _ HGC.out hl0 HV.out).mono ?_; rintro e w6 ⟨v7, rfl, hR, hb⟩; obtain ⟨A7, c7, rfl⟩ := Kd.R_slice hR; have HR6 := Aside0.mk (Kd.R_bound hR); have HB6 := Aside0.mk (HBa.out.trans (hb.mono HBa.out.size)); clear hR hb x0 x1 y0 y1)
            | ((with_reducible refine gate_dst (N := 8) rfl ?_); refine box_event ?hg (N := 8) ?hd (cs := #[.int .i64 0, .slice none 0 0]) (t := 61) ?hr ?_; (case hd => rfl); (case hg => rfl); (case hr => first | (go_simp; done) | (go_simp; rfl)); intro g8 hg8 w7 hbox hb; have HX7 := Aside0.mk hbox; have HG8 := Aside0.mk (Nat.le_of_eq hg8.symm : w6.heap.size ≤ g8); have HB7 := Aside0.mk (HB6.out.trans (hb.mono HB6.out.size)); have HR7 := Aside0.mk (Kd.R_below HR6.out hb); have z0_ := (blk_cell hbox 0).trans rfl; have z1_ := (blk_cell hbox 1).trans rfl; have f0_ := blk_frozen hbox 0; have f1_ := blk_frozen hbox 1; clear hbox hb hg8)
            | ((with_reducible refine gate_store (t := 61) (p := 8) rfl ?_); refine store_event (t := 61) (p := 8) (v := ?vo_w8a) (w1 := ((w7.setCell ⟨g8, 0, none⟩ (.int .i64 m)).setCell ⟨g8, 1, none⟩ (.slice A7 tb.length c7))) ?hg ?ho ?hn ?hr ?_; (case ho => rfl); (case hg => rfl); (case hn => rfl); (case hr => first | (go_simp; done) | (go_simp; rfl)); intro w8 hw; have HX8 : Aside0 (w8.heap[g8]? = some (.cells #[.int .i64 m, .slice A7 tb.length c7] 61 (0, 0))) := ⟨by rw [hw]; exact blk_put (blk_put HX7.out 0 _ rfl) 1 _ rfl⟩; have HB8 : Aside0 (Below wr.heap.size wr w8) := ⟨by rw [hw]; exact below_set (below_set HB7.out (Nat.le_trans HB6.out.size HG8.out)) (Nat.le_trans HB6.out.size HG8.out)⟩; have HR8 : Aside0 (Kd.R Kd.bool 4 w8 (wr.alloc (.cells #[.int .i64 g.f0, .slice A0 g.f1.length c0] 28)).heap.size (fun z => wr.heap.size ≤ z) (.slice A7 tb.length c7) tb) := ⟨by rw [hw]; exact Kd.R_mono (Kd.R_far (p := ⟨g8, 1, none⟩) (Kd.R_far (p := ⟨g8, 0, none⟩) HR7.out (fun z hz => Nat.ne_of_lt (Nat.lt_of_lt_of_le hz.2.2.1 HG8.out)) _) (fun z hz => Nat.ne_of_lt (Nat.lt_of_lt_of_le hz.2.2.1 HG8.out)) _) (fun z hz => Nat.le_trans HBa.out.size hz.2.1)⟩; clear hw z0_ z1_ f0_ f1_; have z0_ := (blk_cell HX8.out 0).trans rfl; have z1_ := (blk_cell HX8.out 1).trans rfl; have f0_ := blk_frozen HX8.out 0; have f1_ := blk_frozen HX8.out 1)
            | (go_at_call 57; refine (impl_votes_table.calls k1 m A7 c7 tb t _ (Kd.R_reads' HR8.out).2.2 (Kd.R_reads' HR8.out).2.1 HTB.out).mono ?_; rintro e w9 ⟨rfl, hb⟩; have HB9 := Aside0.mk (HB8.out.trans (hb.mono HB8.out.size)); have HX9 := Aside0.mk (blk_below HX8.out hb); have HR9 := Aside0.mk (Kd.R_below HR8.out hb); clear hb z0_ z1_ f0_ f1_; have z0_ := (blk_cell HX9.out 0).trans rfl; have z1_ := (blk_cell HX9.out 1).trans rfl; have f0_ := blk_frozen HX9.out 0; have f1_ := blk_frozen HX9.out 1))
          go_roundg k1
          case measure => have := HK.out; omega
          case rel => exact ⟨x3, x4, j + 1, by congr 1, HH, zO HK, ⟨HS.out.below HB9.out⟩⟩
        rw [if_pos hcov] at h
        have cb : (Go.bits .and .i64 t want != want) = false := by rw [hcov, bne_self_eq_false]
        replace h := Option.bind_eq_some_iff.mp h
        obtain ⟨⟨f1, f2, has⟩, hf, h⟩ := h
        have HF := Aside0.mk hf
        clear hf
        cases has
        case true =>
          have HH := Aside0.mk (show impl_votes_chambers.l0 k1 x3 x4 want gl (gl.length : Int) ((j + 1 : Nat) : Int) a0_0 l0_1 = some r from h)
          clear h
          go_wp2_with (first
            | (go_at_call 31; refine (impl_Game_votes.calls k1 g.f0 A0 c0 g.f1 m tb _ HGC.out hl0 HV.out).mono ?_; rintro e w6 ⟨v7, rfl, hR, hb⟩; obtain ⟨A7, c7, rfl⟩ := Kd.R_slice hR; have HR6 := Aside0.mk (Kd.R_bound hR); have HB6 := Aside0.mk (HBa.out.trans (hb.mono HBa.out.size)); clear hR hb x0 x1 y0 y1)
            | ((with_reducible refine gate_dst (N := 8) rfl ?_); refine box_event ?hg (N := 8) ?hd (cs := #[.int .i64 0, .slice none 0 0]) (t := 61) ?hr ?_; (case hd => rfl); (case hg => rfl); (case hr => first | (go_simp; done) | (go_simp; rfl)); intro g8 hg8 w7 hbox hb; have HX7 := Aside0.mk hbox; have HG8 := Aside0.mk (Nat.le_of_eq hg8.symm : w6.heap.size ≤ g8); have HB7 := Aside0.mk (HB6.out.trans (hb.mono HB6.out.size)); have HR7 := Aside0.mk (Kd.R_below HR6.out hb); have z0_ := (blk_cell hbox 0).trans rfl; have z1_ := (blk_cell hbox 1).trans rfl; have f0_ := blk_frozen hbox 0; have f1_ := blk_frozen hbox 1; clear hbox hb hg8)
            | ((with_reducible refine gate_store (t := 61) (p := 8) rfl ?_); refine store_event (t := 61) (p := 8) (v := ?vo_w8b) (w1 := ((w7.setCell ⟨g8, 0, none⟩ (.int .i64 m)).setCell ⟨g8, 1, none⟩ (.slice A7 tb.length c7))) ?hg ?ho ?hn ?hr ?_; (case ho => rfl); (case hg => rfl); (case hn => rfl); (case hr => first | (go_simp; done) | (go_simp; rfl)); intro w8 hw; have HX8 : Aside0 (w8.heap[g8]? = some (.cells #[.int .i64 m, .slice A7 tb.length c7] 61 (0, 0))) := ⟨by rw [hw]; exact blk_put (blk_put HX7.out 0 _ rfl) 1 _ rfl⟩; have HB8 : Aside0 (Below wr.heap.size wr w8) := ⟨by rw [hw]; exact below_set (below_set HB7.out (Nat.le_trans HB6.out.size HG8.out)) (Nat.le_trans HB6.out.size HG8.out)⟩; have HR8 : Aside0 (Kd.R Kd.bool 4 w8 (wr.alloc (.cells #[.int .i64 g.f0, .slice A0 g.f1.length c0] 28)).heap.size (fun z => wr.heap.size ≤ z) (.slice A7 tb.length c7) tb) := ⟨by rw [hw]; exact Kd.R_mono (Kd.R_far (p := ⟨g8, 1, none⟩) (Kd.R_far (p := ⟨g8, 0, none⟩) HR7.out (fun z hz => Nat.ne_of_lt (Nat.lt_of_lt_of_le hz.2.2.1 HG8.out)) _) (fun z hz => Nat.ne_of_lt (Nat.lt_of_lt_of_le hz.2.2.1 HG8.out)) _) (fun z hz => Nat.le_trans HBa.out.size hz.2.1)⟩; clear hw z0_ z1_ f0_ f1_; have z0_ := (blk_cell HX8.out 0).trans rfl; have z1_ := (blk_cell HX8.out 1).trans rfl; have f0_ := blk_frozen HX8.out 0; have f1_ := blk_frozen HX8.out 1)
            | (go_at_call 57; refine (impl_votes_table.calls k1 m A7 c7 tb t _ (Kd.R_reads' HR8.out).2.2 (Kd.R_reads' HR8.out).2.1 HTB.out).mono ?_; rintro e w9 ⟨rfl, hb⟩; have HB9 := Aside0.mk (HB8.out.trans (hb.mono HB8.out.size)); have HX9 := Aside0.mk (blk_below HX8.out hb); have HR9 := Aside0.mk (Kd.R_below HR8.out hb); clear hb z0_ z1_ f0_ f1_; have z0_ := (blk_cell HX9.out 0).trans rfl; have z1_ := (blk_cell HX9.out 1).trans rfl; have f0_ := blk_frozen HX9.out 0; have f1_ := blk_frozen HX9.out 1)
            | (go_at_call 59; refine (impl_votes_firstTrade.calls k1 m A7 c7 tb f1 f2 true _ (Kd.R_reads' HR9.out).2.2 (Kd.R_reads' HR9.out).2.1 HF.out).mono ?_; rintro e w10 ⟨vA, vB, rfl, ow, hS1, hS2, hb⟩; obtain ⟨AA, cA, rfl⟩ := Kd.S_slice hS1; obtain ⟨AB, cB, rfl⟩ := Kd.S_slice hS2; have HB10 := Aside0.mk (HB9.out.trans (hb.mono HB9.out.size)); have HX10 := Aside0.mk (blk_below HX9.out hb); have HR10 := Aside0.mk (Kd.R_below HR9.out hb); clear hS1 hS2 hb z0_ z1_ f0_ f1_)
            | ((with_reducible refine gate_dst (N := 10) rfl ?_); refine box_event ?hg (N := 10) ?hd (cs := #[.slice none 0 0, .slice none 0 0]) (t := 86) ?hr ?_; (case hd => rfl); (case hg => rfl); (case hr => first | (go_simp; done) | (go_simp; rfl)); intro g10 hg10 w11 hbox hb; have HXT := Aside0.mk hbox; have HG10 := Aside0.mk (Nat.le_of_eq hg10.symm : w10.heap.size ≤ g10); have HB11 := Aside0.mk (HB10.out.trans (hb.mono HB10.out.size)); have HX11 := Aside0.mk (blk_below HX10.out hb); have HR11 := Aside0.mk (Kd.R_below (Kd.R_bound HR10.out) hb); have HNE := Aside0.mk (Nat.ne_of_lt (Nat.lt_of_lt_of_le (blk_lt HX10.out) HG10.out) : g8 ≠ g10); have z0_ := (blk_cell hbox 0).trans rfl; have z1_ := (blk_cell hbox 1).trans rfl; have f0_ := blk_frozen hbox 0; have f1_ := blk_frozen hbox 1; clear hbox hb hg10)
            | ((with_reducible refine gate_store (t := 86) (p := 10) rfl ?_); refine store_event (t := 86) (p := 10) (v := ?vo_w12b) (w1 := ((w11.setCell ⟨g10, 0, none⟩ (.slice AA f1.length cA)).setCell ⟨g10, 1, none⟩ (.slice AB f2.length cB))) ?hg ?ho ?hn ?hr ?_; (case ho => rfl); (case hg => rfl); (case hn => rfl); (case hr => first | (go_simp; done) | (go_simp; rfl)); intro w12 hw; have HX12 : Aside0 (w12.heap[g8]? = some (.cells #[.int .i64 m, .slice A7 tb.length c7] 61 (0, 0))) := ⟨by rw [hw]; exact blk_far (blk_far HX11.out HNE.out _) HNE.out _⟩; have HB12 : Aside0 (Below wr.heap.size wr w12) := ⟨by rw [hw]; exact below_set (below_set HB11.out (Nat.le_trans HB10.out.size HG10.out)) (Nat.le_trans HB10.out.size HG10.out)⟩; have HR12 : Aside0 (Kd.R Kd.bool 4 w12 (wr.alloc (.cells #[.int .i64 g.f0, .slice A0 g.f1.length c0] 28)).heap.size (fun z => wr.heap.size ≤ z) (.slice A7 tb.length c7) tb) := ⟨by rw [hw]; exact Kd.R_mono (Kd.R_far (p := ⟨g10, 1, none⟩) (Kd.R_far (p := ⟨g10, 0, none⟩) HR11.out (fun z hz => Nat.ne_of_lt (Nat.lt_of_lt_of_le hz.2.2.1 HG10.out)) _) (fun z hz => Nat.ne_of_lt (Nat.lt_of_lt_of_le hz.2.2.1 HG10.out)) _) (fun z hz => hz.1)⟩; clear hw z0_ z1_ f0_ f1_; have z0_ := (blk_cell HX12.out 0).trans rfl; have z1_ := (blk_cell HX12.out 1).trans rfl; have f0_ := blk_frozen HX12.out 0; have f1_ := blk_frozen HX12.out 1))
          go_roundg k1
          case measure => have := HK.out; omega
          case rel => exact ⟨x3, x4, j + 1, by congr 1, HH, zO HK, ⟨HS.out.below HB12.out⟩⟩
        rw [if_neg Bool.false_ne_true] at h
        by_cases cl3 : x3.length < 4398046511104
        case neg => rw [if_neg cl3] at h; cases h
        rw [if_pos cl3] at h
        by_cases cl4 : x4.length < 17592186044416
        case neg => rw [if_neg cl4] at h; cases h
        rw [if_pos cl4] at h
        have HH := Aside0.mk h
        have CL3 := Aside0.mk (len32 cl3)
        have CL4 := Aside0.mk (len8 cl4)
        clear h cl3 cl4
        go_wp2_with (first
          | (go_at_call 31; refine (impl_Game_votes.calls k1 g.f0 A0 c0 g.f1 m tb _ HGC.out hl0 HV.out).mono ?_; rintro e w6 ⟨v7, rfl, hR, hb⟩; obtain ⟨A7, c7, rfl⟩ := Kd.R_slice hR; have HR6 := Aside0.mk (Kd.R_bound hR); have HB6 := Aside0.mk (HBa.out.trans (hb.mono HBa.out.size)); clear hR hb x0 x1 y0 y1)
          | ((with_reducible refine gate_dst (N := 8) rfl ?_); refine box_event ?hg (N := 8) ?hd (cs := #[.int .i64 0, .slice none 0 0]) (t := 61) ?hr ?_; (case hd => rfl); (case hg => rfl); (case hr => first | (go_simp; done) | (go_simp; rfl)); intro g8 hg8 w7 hbox hb; have HX7 := Aside0.mk hbox; have HG8 := Aside0.mk (Nat.le_of_eq hg8.symm : w6.heap.size ≤ g8); have HB7 := Aside0.mk (HB6.out.trans (hb.mono HB6.out.size)); have HR7 := Aside0.mk (Kd.R_below HR6.out hb); have z0_ := (blk_cell hbox 0).trans rfl; have z1_ := (blk_cell hbox 1).trans rfl; have f0_ := blk_frozen hbox 0; have f1_ := blk_frozen hbox 1; clear hbox hb hg8)
          | ((with_reducible refine gate_store (t := 61) (p := 8) rfl ?_); refine store_event (t := 61) (p := 8) (v := ?vo_w8c) (w1 := ((w7.setCell ⟨g8, 0, none⟩ (.int .i64 m)).setCell ⟨g8, 1, none⟩ (.slice A7 tb.length c7))) ?hg ?ho ?hn ?hr ?_; (case ho => rfl); (case hg => rfl); (case hn => rfl); (case hr => first | (go_simp; done) | (go_simp; rfl)); intro w8 hw; have HX8 : Aside0 (w8.heap[g8]? = some (.cells #[.int .i64 m, .slice A7 tb.length c7] 61 (0, 0))) := ⟨by rw [hw]; exact blk_put (blk_put HX7.out 0 _ rfl) 1 _ rfl⟩; have HB8 : Aside0 (Below wr.heap.size wr w8) := ⟨by rw [hw]; exact below_set (below_set HB7.out (Nat.le_trans HB6.out.size HG8.out)) (Nat.le_trans HB6.out.size HG8.out)⟩; have HR8 : Aside0 (Kd.R Kd.bool 4 w8 (wr.alloc (.cells #[.int .i64 g.f0, .slice A0 g.f1.length c0] 28)).heap.size (fun z => wr.heap.size ≤ z) (.slice A7 tb.length c7) tb) := ⟨by rw [hw]; exact Kd.R_mono (Kd.R_far (p := ⟨g8, 1, none⟩) (Kd.R_far (p := ⟨g8, 0, none⟩) HR7.out (fun z hz => Nat.ne_of_lt (Nat.lt_of_lt_of_le hz.2.2.1 HG8.out)) _) (fun z hz => Nat.ne_of_lt (Nat.lt_of_lt_of_le hz.2.2.1 HG8.out)) _) (fun z hz => Nat.le_trans HBa.out.size hz.2.1)⟩; clear hw z0_ z1_ f0_ f1_; have z0_ := (blk_cell HX8.out 0).trans rfl; have z1_ := (blk_cell HX8.out 1).trans rfl; have f0_ := blk_frozen HX8.out 0; have f1_ := blk_frozen HX8.out 1)
          | (go_at_call 57; refine (impl_votes_table.calls k1 m A7 c7 tb t _ (Kd.R_reads' HR8.out).2.2 (Kd.R_reads' HR8.out).2.1 HTB.out).mono ?_; rintro e w9 ⟨rfl, hb⟩; have HB9 := Aside0.mk (HB8.out.trans (hb.mono HB8.out.size)); have HX9 := Aside0.mk (blk_below HX8.out hb); have HR9 := Aside0.mk (Kd.R_below HR8.out hb); clear hb z0_ z1_ f0_ f1_; have z0_ := (blk_cell HX9.out 0).trans rfl; have z1_ := (blk_cell HX9.out 1).trans rfl; have f0_ := blk_frozen HX9.out 0; have f1_ := blk_frozen HX9.out 1)
          | (go_at_call 59; refine (impl_votes_firstTrade.calls k1 m A7 c7 tb f1 f2 false _ (Kd.R_reads' HR9.out).2.2 (Kd.R_reads' HR9.out).2.1 HF.out).mono ?_; rintro e w10 ⟨vA, vB, rfl, ow, hS1, hS2, hb⟩; obtain ⟨AA, cA, rfl⟩ := Kd.S_slice hS1; obtain ⟨AB, cB, rfl⟩ := Kd.S_slice hS2; have HB10 := Aside0.mk (HB9.out.trans (hb.mono HB9.out.size)); have HX10 := Aside0.mk (blk_below HX9.out hb); have HR10 := Aside0.mk (Kd.R_below HR9.out hb); clear hS1 hS2 hb z0_ z1_ f0_ f1_)
          | ((with_reducible refine gate_dst (N := 10) rfl ?_); refine box_event ?hg (N := 10) ?hd (cs := #[.slice none 0 0, .slice none 0 0]) (t := 86) ?hr ?_; (case hd => rfl); (case hg => rfl); (case hr => first | (go_simp; done) | (go_simp; rfl)); intro g10 hg10 w11 hbox hb; have HXT := Aside0.mk hbox; have HG10 := Aside0.mk (Nat.le_of_eq hg10.symm : w10.heap.size ≤ g10); have HB11 := Aside0.mk (HB10.out.trans (hb.mono HB10.out.size)); have HX11 := Aside0.mk (blk_below HX10.out hb); have HR11 := Aside0.mk (Kd.R_below (Kd.R_bound HR10.out) hb); have HNE := Aside0.mk (Nat.ne_of_lt (Nat.lt_of_lt_of_le (blk_lt HX10.out) HG10.out) : g8 ≠ g10); have z0_ := (blk_cell hbox 0).trans rfl; have z1_ := (blk_cell hbox 1).trans rfl; have f0_ := blk_frozen hbox 0; have f1_ := blk_frozen hbox 1; clear hbox hb hg10)
          | ((with_reducible refine gate_store (t := 86) (p := 10) rfl ?_); refine store_event (t := 86) (p := 10) (v := ?vo_w12c) (w1 := ((w11.setCell ⟨g10, 0, none⟩ (.slice AA f1.length cA)).setCell ⟨g10, 1, none⟩ (.slice AB f2.length cB))) ?hg ?ho ?hn ?hr ?_; (case ho => rfl); (case hg => rfl); (case hn => rfl); (case hr => first | (go_simp; done) | (go_simp; rfl)); intro w12 hw; have HX12 : Aside0 (w12.heap[g8]? = some (.cells #[.int .i64 m, .slice A7 tb.length c7] 61 (0, 0))) := ⟨by rw [hw]; exact blk_far (blk_far HX11.out HNE.out _) HNE.out _⟩; have HB12 : Aside0 (Below wr.heap.size wr w12) := ⟨by rw [hw]; exact below_set (below_set HB11.out (Nat.le_trans HB10.out.size HG10.out)) (Nat.le_trans HB10.out.size HG10.out)⟩; have HR12 : Aside0 (Kd.R Kd.bool 4 w12 (wr.alloc (.cells #[.int .i64 g.f0, .slice A0 g.f1.length c0] 28)).heap.size (fun z => wr.heap.size ≤ z) (.slice A7 tb.length c7) tb) := ⟨by rw [hw]; exact Kd.R_mono (Kd.R_far (p := ⟨g10, 1, none⟩) (Kd.R_far (p := ⟨g10, 0, none⟩) HR11.out (fun z hz => Nat.ne_of_lt (Nat.lt_of_lt_of_le hz.2.2.1 HG10.out)) _) (fun z hz => Nat.ne_of_lt (Nat.lt_of_lt_of_le hz.2.2.1 HG10.out)) _) (fun z hz => hz.1)⟩; clear hw z0_ z1_ f0_ f1_; have z0_ := (blk_cell HX12.out 0).trans rfl; have z1_ := (blk_cell HX12.out 1).trans rfl; have f0_ := blk_frozen HX12.out 0; have f1_ := blk_frozen HX12.out 1)
          | ((with_reducible refine gate_builtin (b := .append) (xs := #[.tmp 46, .tmp 48]) rfl ?_); at_builtin; have HS12 := Aside0.mk (HS.out.below HB12.out); refine Kd.N_append k61 (w0 := w12) w.heap.size rfl (.tmp 46) (.tmp 48) 58 61 (.agg #[(.int .i64 0), (.slice none 0 0)]) 32 rfl Tryz.underlying58 info61 rfl (by decide) (by decide) u3 x3 ⟨m, tb⟩ [.int .i64 m, .slice A7 tb.length c7] (fun z => w.heap.size ≤ z ∧ z ≠ gb ∧ some z ≠ u4.ownBlock ∧ (z < w4.heap.size ∨ w5.heap.size ≤ z)) (fun z => wr.heap.size ≤ z) rfl rfl (k61_mkF _ _ ⟨m, tb⟩ (Kd.R_reads' HR12.out).2.1 (Kd.R_F HR12.out)) (fun z hz => HS.out.fresh z hz) (fun z hz => (HS12.out.fresh z hz).1) HS12.out.N3 (Below.refl _ _) HS12.out.B.size CL3.out ?_; intro v8 w13 ho hb hg hat; have HS13 := Aside0.mk (HS12.out.app3 ho hb hg); clear ho hb hg hat)
          | ((with_reducible refine gate_builtin (b := .append) (xs := #[.tmp 50, .tmp 52]) rfl ?_); at_builtin; refine Kd.R_append (Kd.int .i64) (w0 := w13) w.heap.size rfl (.tmp 50) (.tmp 52) 65 3 (.int .i64 0) 8 rfl Tryz.underlying65 info3 rfl (by decide) (by decide) u4 x4 t [.int .i64 t] (fun z => z ≠ gb ∧ (z < w4.heap.size ∨ w5.heap.size ≤ z)) (fun _ => False) rfl rfl rfl (fun _ hk => hk.elim) (fun z hz => ⟨(HS13.out.fresh z hz).1.2.1, (HS13.out.fresh z hz).1.2.2.2⟩) HS13.out.R4 (Below.refl _ _) HS13.out.B.size CL4.out ?_; intro v9 w14 ho hb hg hat; have HS14 := Aside0.mk (HS13.out.app4 ho hb hg hat); clear ho hb hg hat))
        go_roundg k1
        case measure => have := HK.out; omega
        case rel => exact ⟨x3 ++ [⟨m, tb⟩], x4 ++ [t], j + 1, by congr 1, HH, zO HK, HS14⟩
      · have hltz : ¬ (j : Int) < (gl.length : Int) := fun e => hlt (Int.ofNat_lt.1 e)
        rw [if_neg hltz] at h
        have hltb : decide ((j : Int) < (gl.length : Int)) = false := decide_eq_false hltz
        have HH := Aside0.mk h
        clear h
        obtain ⟨A4, c4, e4⟩ := Kd.R_slice HS.out.R4
        subst e4
        obtain ⟨A3, c3, e3⟩ := Kd.N_slice HS.out.N3
        subst e3
        obtain ⟨ji, hji⟩ : ∃ j_ : Int, (shl .i64 1 (l0_1.length : Int)) = j_ := ⟨_, rfl⟩
        have hji_ : (IntKind.i64.wrap (1 * 2 ^ min (l0_1.length : Int).toNat 64)) = ji := hji
        have hjiz : (l0_1.length : Int) ≤ 64 → (IntKind.i64.wrap (1 * 2 ^ (l0_1.length : Int).toNat)) = ji := shl_small hji
        have hjip : (IntKind.i64.wrap (1 * 2 ^ min l0_1.length 64)) = ji := hji_
        have hjiq : (l0_1.length : Int) ≤ 64 → (IntKind.i64.wrap (1 * 2 ^ l0_1.length)) = ji := hjiz
        have hjir : (IntKind.i64.wrap (2 ^ min l0_1.length 64)) = ji := by have h_ := hjip; rw [Int.one_mul] at h_; exact h_
        have hjis : (l0_1.length : Int) ≤ 64 → (IntKind.i64.wrap (2 ^ l0_1.length)) = ji := fun hle_ => by have h_ := hjiq hle_; rw [Int.one_mul] at h_; exact h_
        have hjiu : (IntKind.i64.wrap (2 ^ min (l0_1.length : Int).toNat 64)) = ji := by have h_ := hji_; rw [Int.one_mul] at h_; exact h_
        have hjiv : (l0_1.length : Int) ≤ 64 → (IntKind.i64.wrap (2 ^ (l0_1.length : Int).toNat)) = ji := fun hle_ => by have h_ := hjiz hle_; rw [Int.one_mul] at h_; exact h_
        have hjiy : (wrap64 (1 * 2 ^ min (l0_1.length : Int).toNat 64)) = ji := (i64_w _).symm.trans hji_
        have hjix : (l0_1.length : Int) ≤ 64 → (wrap64 (1 * 2 ^ (l0_1.length : Int).toNat)) = ji := fun h_ => (i64_w _).symm.trans (hjiz h_)
        obtain ⟨wo, rfl⟩ : ∃ wo, wo = wr := ⟨wr, rfl⟩
        go_wp2
        go_loopg [12] k1 (fun kq v12 wr => ∃ q : Int, v12 = .int .i64 q ∧ Aside0 (impl_votes_chambers.l1 kq x3 x4 want q a0_0 l0_1 = some r) ∧ Aside0 (kq ≤ k1) ∧ Aside0 (Below wo.heap.size wo wr))
        case atStart => exact ⟨1, rfl, HH, ⟨Nat.le_refl _⟩, ⟨Below.refl _ _⟩⟩
        case round =>
          clear HH
          obtain ⟨q, rfl, HA, HK1, HBo⟩ := hrel
          cases gk with
          | zero => exact absurd HA.out (by simp [impl_votes_chambers.l1])
          | succ k2 =>
            have h := HA.out
            clear HA
            simp only [impl_votes_chambers.l1] at h
            rw [hji] at h
            replace h := Option.bind_eq_some_iff.mp h
            obtain ⟨⟨ix, okb⟩, hch, h⟩ := h
            have HCH := Aside0.mk hch
            have HS1 := Aside0.mk (HS.out.below HBo.out)
            have z0_ := (blk_cell HS1.out.X 0).trans rfl
            have z1_ := (blk_cell HS1.out.X 1).trans rfl
            have f0_ := blk_frozen HS1.out.X 0
            have f1_ := blk_frozen HS1.out.X 1
            clear hch
            cases okb
            case false =>
              have HH := Aside0.mk (show impl_votes_chambers.l1 k2 x3 x4 want (wrap64 (q + 1)) a0_0 l0_1 = some r from h)
              clear h
              go_wp2_with ((with_reducible refine gate_callee (f := 60) rfl ?_); refine goesL_ (some 66) rfl rfl Tryz.func60 (by kernel_rfl) rfl #[.slice A4 x4.length c4, .int .i64 0, .int .i64 q, .int .i64 (wrap64 (ji - 1)), .int .i64 want] rfl (by (try simp only [List.map_toArray, List.map_cons, List.map_nil]); first | done | (simp only [hji]; rfl) | rfl) ?_; (with_reducible refine (impl_chosen.calls k2 A4 c4 x4 0 q (wrap64 (ji - 1)) want ix false _ ?side1 ?side2 HCH.out).mono ?_); (case side1 => exact (Kd.R_reads' HS1.out.R4).2.2); (case side2 => exact (Kd.R_reads' HS1.out.R4).2.1); rintro e w20 ⟨v20, rfl, hR, hb⟩; refine ⟨_, rfl, ?_⟩; obtain ⟨A20, c20, rfl⟩ := Kd.R_slice hR; have HR20 := Aside0.mk hR; have HB20 := Aside0.mk (HBo.out.trans (hb.mono HBo.out.size)); have HS20 := Aside0.mk (HS1.out.below hb); clear hR hb z0_ z1_ f0_ f1_)
              go_roundg k2
              case measure => have := HK1.out; omega
              case rel => exact ⟨wrap64 (q + 1), by first | rfl | (simp; done) | (simp [*]; done), HH, zO HK1, HB20⟩
            case true =>
              have HH := Aside0.mk (show impl_votes_chambers.l2 k2 x3 [] ix (ix.length : Int) 0 = some r from h)
              clear h
              go_wp2_with (first
                | ((with_reducible refine gate_callee (f := 60) rfl ?_); refine goesL_ (some 66) rfl rfl Tryz.func60 (by kernel_rfl) rfl #[.slice A4 x4.length c4, .int .i64 0, .int .i64 q, .int .i64 (wrap64 (ji - 1)), .int .i64 want] rfl (by (try simp only [List.map_toArray, List.map_cons, List.map_nil]); first | done | (simp only [hji]; rfl) | rfl) ?_; (with_reducible refine (impl_chosen.calls k2 A4 c4 x4 0 q (wrap64 (ji - 1)) want ix true _ ?side1 ?side2 HCH.out).mono ?_); (case side1 => exact (Kd.R_reads' HS1.out.R4).2.2); (case side2 => exact (Kd.R_reads' HS1.out.R4).2.1); rintro e w20 ⟨v20, rfl, hR, hb⟩; refine ⟨_, rfl, ?_⟩; obtain ⟨A20, c20, rfl⟩ := Kd.R_slice hR; have HR20 := Aside0.mk hR; have HB20 := Aside0.mk (HBo.out.trans (hb.mono HBo.out.size)); have HS20 := Aside0.mk (HS1.out.below hb); clear hR hb z0_ z1_ f0_ f1_)
                | ((with_reducible refine gate_dst (N := 71) rfl ?_); refine Kd.N_lit k61 _ 61 ?hg (N' := 71) ?hd (xs := ([] : List S61)) (inner := []) (ok := fun _ => True) (okp := fun _ => False) ?hr ?hp (fun _ hk => hk.elim) trivial (Below.refl _ _) (Nat.le_refl _) (by simp) ?_; (case hd => rfl); (case hg => rfl); (case hr => first | (go_simp; done) | (go_simp; rfl)); (case hp => exact Reps.none _ _); intro v15 w21 ho hb _ _; have HN21 := Aside0.mk ho; have HB21 := Aside0.mk hb; clear ho hb))
              have HF3 := Aside0.mk (Kd.F_mono (Kd.F_bound (Kd.N_F HS20.out.N3)) (ok' := fun z => w.heap.size ≤ z ∧ z < w20.heap.size) (fun z hz => ⟨hz.1.1, hz.2⟩))
              have HCI := Aside0.mk (Kd.R_reads' HR20.out).2.2
              have hxl := Kd.C_max HCI.out
              have HO0 := Aside0.mk (fun z he => Kd.N_base HN21.out z he : ∀ z, v15.ownBlock = some z → w20.heap.size ≤ z)
              have HN0 := Aside0.mk (N_re (ok' := fun z => w.heap.size ≤ z) (Kd.N_lower HN21.out HS20.out.B.size) (fun z he => Nat.le_trans HS20.out.B.size (HO0.out z he)))
              clear HR20 HN21 hji hji_ hjiz hjip hjiq hjir hjis hjiu hjiv hjiy hjix
              go_loopg [15, 74] k2 (fun kq v15 v74 wr => ∃ (y : List S61) (i : Nat), v74 = .int .i64 i ∧ Aside0 (impl_votes_chambers.l2 kq x3 y ix (ix.length : Int) (i : Int) = some r) ∧ Aside0 (kq ≤ k2) ∧ Aside0 (Kd.N k61 61 wr w.heap.size (fun z => w.heap.size ≤ z) v15 y) ∧ Aside0 (∀ z, v15.ownBlock = some z → w20.heap.size ≤ z) ∧ Aside0 (Below w20.heap.size w20 wr))
              case atStart => exact ⟨[], 0, rfl, HH, ⟨Nat.le_refl _⟩, HN0, HO0, HB21⟩
              case round =>
                clear HH HN0 HO0 HB21
                obtain ⟨y, i, rfl, HA, HK2, HN15, HO15, HBi⟩ := hrel
                cases gk with
                | zero => exact absurd HA.out (by simp [impl_votes_chambers.l2])
                | succ k3 =>
                  have h := HA.out
                  clear HA
                  simp only [impl_votes_chambers.l2] at h
                  by_cases hil : i < ix.length
                  · have hiz : (i : Int) < (ix.length : Int) := Int.ofNat_lt.2 hil
                    have hizb : decide ((i : Int) < (ix.length : Int)) = true := decide_eq_true hiz
                    have hw1 : wrap64 ((i : Int) + 1) = ((i + 1 : Nat) : Int) := om3 hil hxl
                    rw [if_pos hiz, if_pos (Int.natCast_nonneg _), if_pos hiz, hw1] at h
                    obtain ⟨ai, e, xi⟩ := Kd.at_int (Kd.C_below HCI.out HBi.out) (i : Int) (Int.natCast_nonneg _) hiz
                    subst e
                    rw [Int.toNat_natCast] at xi
                    generalize rd ix (i : Int) = p at h xi
                    by_cases p0 : 0 ≤ p
                    case neg => rw [if_neg p0] at h; cases h
                    rw [if_pos p0] at h
                    by_cases p1 : p < (x3.length : Int)
                    case neg => rw [if_neg p1] at h; cases h
                    rw [if_pos p1] at h
                    by_cases cl : y.length < 4398046511104
                    case neg => rw [if_neg cl] at h; cases h
                    rw [if_pos cl] at h
                    obtain ⟨ad, cs, e, hcl, hK, hcc, _⟩ := Kd.F_get (Kd.F_below HF3.out HBi.out) z61 p p0 p1
                    subst e
                    have hrd : rd_T61 x3 p = x3.getD p.toNat z61 := rfl
                    rw [hrd] at h
                    generalize x3.getD p.toNat z61 = g at hK h
                    obtain ⟨A0, c0, rfl, hl0, hgF⟩ := k61_openF hK
                    have x0 : wr.cell? (ad.add (p.toNat * 2)) = some (.int .i64 g.f0) := hcc 0 _ rfl
                    have x1 : wr.cell? ⟨(ad.add (p.toNat * 2)).block, (ad.add (p.toNat * 2)).off + 1, none⟩ = some (.slice A0 g.f1.length c0) := by rw [← add_field _ _ 1 (by decide)]; exact hcc 1 _ rfl
                    have p0b : decide (0 ≤ p) = true := decide_eq_true p0
                    have p1b : decide (p < (x3.length : Int)) = true := decide_eq_true p1
                    have HH := Aside0.mk h
                    have HK := Aside0.mk hK
                    have CL := Aside0.mk (len32 cl)
                    have HSZ := Aside0.mk (Nat.le_trans HS20.out.B.size HBi.out.size)
                    clear h hK hcc hcl cl hgF hrd
                    go_wp2_with ((with_reducible refine gate_builtin (b := .append) (xs := #[.tmp 78, .tmp 83]) rfl ?_); at_builtin; refine Kd.N_append k61 (w0 := wr) w.heap.size rfl (.tmp 78) (.tmp 83) 58 61 (.agg #[(.int .i64 0), (.slice none 0 0)]) 32 rfl Tryz.underlying58 info61 rfl (by decide) (by decide) u15 y g [.int .i64 g.f0, .slice A0 g.f1.length c0] (fun z => w.heap.size ≤ z) (fun z => w.heap.size ≤ z ∧ z < w20.heap.size) rfl rfl HK.out (fun z hz => ⟨hz.1, fun he => Nat.lt_irrefl _ (Nat.lt_of_lt_of_le hz.2 (HO15.out z he.symm))⟩) (fun z hz => Nat.le_trans HSZ.out hz) HN15.out (Below.refl _ _) HSZ.out CL.out ?_; intro v16 w22 ho hb hg hat; have HN16 := Aside0.mk ho; have HB16 := Aside0.mk hb; have HG16 := Aside0.mk hg; have HAT := Aside0.mk hat; clear ho hb hg hat)
                    go_roundg k3
                    case measure => have := HK2.out; omega
                    case rel => exact ⟨y ++ [⟨g.f0, g.f1⟩], i + 1, by congr 1, HH, zO HK2, HN16, ⟨own_next HO15.out HAT.out HBi.out.size⟩, ⟨HBi.out.trans (below_grown_ HB16.out HG16.out HO15.out HBi.out.size)⟩⟩
                  · have hiz : ¬ (i : Int) < (ix.length : Int) := fun e => hil (Int.ofNat_lt.1 e)
                    have hizb : decide ((i : Int) < (ix.length : Int)) = false := decide_eq_false hiz
                    rw [if_neg hiz] at h
                    obtain rfl := Option.some.inj h
                    clear h
                    go_wp2
                    go_ret
                    exact ⟨_, rfl, N_V_ HN15.out, HS20.out.B.trans (HBi.out.mono HS20.out.B.size)⟩
theorem int_KM {w : World} {base : Nat} {ok : Nat → Prop} (x : Int) (cs : List Value) (h : (Kd.int .i64).K w x cs) : (Kd.int .i64).M w base ok x cs := h
def slices_Clone_int_int.f (l0 : List Int) : Option (List Int) := if l0.length < 17592186044416 then some l0 else none
set_option maxHeartbeats 2000000 in
theorem slices_Clone_int_int.calls (A0 : Option Addr) (c0 : Nat) (l0 : List Int) (r : List Int) (w : World) (hr0 : Kd.C (Kd.int .i64) w A0 l0.length l0) (hc0 : l0.length ≤ c0)
    (h : slices_Clone_int_int.f l0 = some r) :
    Calls Tryz.prog 108 #[.slice A0 l0.length c0] w fun e w' => ∃ v0_ : Value, e = .returned (v0_) ∧ Kd.R (Kd.int .i64) 3 w' w.heap.size (fun _ => True) v0_ r ∧ Below w.heap.size w w' := by
  unfold slices_Clone_int_int.f at h
  split at h
  case isFalse => cases h
  case isTrue hl =>
    obtain rfl := Option.some.inj h
    clear h
    have he : ∀ w, (binOp .eql 65 (.slice A0 l0.length c0) (.slice none 0 0)).run Tryz.prog w = .ok (.bool A0.isNone) w := fun w => run_eql_slice_nil w 65 3 A0 _ _ Tryz.underlying65
    have HL := Aside0.mk hl
    have HR := Aside0.mk hr0
    clear hl
    cases A0 with
    | none =>
      have h0 : l0 = [] := by
        cases l0 with
        | nil => rfl
        | cons x l => obtain ⟨ad, e, _⟩ := hr0.2.2 (by simp); cases e
      subst h0
      clear hr0 he
      have he : ∀ w, (binOp .eql 65 (.slice none 0 c0) (.slice none 0 0)).run Tryz.prog w = .ok (.bool true) w := fun w => run_eql_slice_nil w 65 3 none _ _ Tryz.underlying65
      go_enter Tryz.func108, Tryz.ntmps108
      go_wp2
      go_ret
      exact ⟨_, rfl, Kd.R_nil _ _ _ _ _, Below.refl _ _⟩
    | some ad =>
      clear hr0
      go_enter Tryz.func108, Tryz.ntmps108
      go_wp2_with (first | ((with_reducible refine gate_dst (N := 5) rfl ?_); refine Kd.R_lit (Kd.int .i64) (w0 := w) w.heap.size 3 ?hg (N := 5) ?hd (xs := ([] : List Int)) (inner := []) (ok := fun _ => True) (okp := fun _ => True) ?hr ?hp (fun _ hk => hk) trivial (Below.refl _ _) (Nat.le_refl _) (by simp) ?_; (case hd => rfl); (case hg => rfl); (case hr => first | (go_simp; done) | (go_simp; rfl)); (case hp => exact (Reps.none _ _)); intro v5 w2 ho hb hg_ hnew_; clear hg_ hnew_; have HO := Aside0.mk ho; have HB := Aside0.mk hb; clear ho hb) | ((with_reducible refine gate_builtin (b := .append) (xs := #[.tmp 5, .tmp 6]) rfl ?_); refine Kd.R_append_rows (Kd.int .i64) (Rr := (Kd.int .i64).K w2) (w0 := w) w.heap.size rfl (.tmp 5) (.tmp 6) 65 3 (.int .i64 0) 8 rfl Tryz.underlying65 info3 rfl (by decide) (by omega) v5 [] l0 (some ad) l0.length c0 (fun _ => True) (fun _ => False) rfl rfl ?aO ?aR ?aK (fun _ hk => hk.elim) (fun _ _ => trivial) HB.out HB.out.size ?aL ?_; (case aO => exact HO.out); (case aR => exact Kd.C_below HR.out HB.out); (case aK => exact fun x cs hx => int_KM x cs hx); (case aL => have := HL.out; simp; omega); intro v7 w3 ho2 hb2 hg2 hat2; clear hg2 hat2; have HO2 := Aside0.mk ho2; have HB2 := Aside0.mk hb2; clear ho2 hb2))
      refine bodyPost_ret (v := v7) (by simp [results, Tryz.results108, go_sem]) rfl ?_
      exact ⟨_, rfl, by simpa using HO2.out, HB2.out⟩
end Go.Proofs.YtmbkmabpebjboaaGreat.Q
end
section
namespace Go.Proofs.YtmbkmabpebjboaaGreat.Q
open Go.RowKit Go.Proofs.YtmbkmabpebjboaaGreatW.PrintWords Go.Proofs.YtmbkmabpebjboaaGreatW.PrintLast Go.Proofs.YtmbkmabpebjboaaGreatW.PrintMore
attribute [local go_sem] max2_int min2_int max_two min_two max_three min_three max_four min_four
set_option linter.unusedVariables false
set_option linter.unusedSimpArgs false
def impl_Committee_weight.l0 : Nat → Int → Int → List Int → Int → Int → Option (Int)
 | 0, _, _, _, _, _ => none
 | k + 1, x1, x5, x9, x10, x11 => if x11 < x10 then (if 0 ≤ x11 then (if x11 < (x9.length : Int) then ((impl_has.f x1 x11).bind fun t535 => (if t535 = true then (impl_Committee_weight.l0 k x1 (wrap64 (x5 + (rd x9 x11))) x9 x10 (wrap64 (x11 + 1))) else (impl_Committee_weight.l0 k x1 x5 x9 x10 (wrap64 (x11 + 1))))) else (none)) else (none)) else (some x5)
def impl_Committee_weight.f (k : Nat) (a0_0 : Int) (l0_1 : List Int) (a1 : Int) : Option (Int) := impl_Committee_weight.l0 k a1 0 l0_1 (l0_1.length : Int) 0
set_option maxHeartbeats 8000000 in
set_option maxRecDepth 100000 in
theorem impl_Committee_weight.calls (k : Nat) (a0_0 : Int) (A0_1 : Option Addr) (c0_1 : Nat) (l0_1 : List Int) (a1 : Int) (r : Int) (w : World) (hr0_1 : Kd.C (Kd.int .i64) w A0_1 l0_1.length l0_1) (hc0_1 : l0_1.length ≤ c0_1) (h : impl_Committee_weight.f k a0_0 l0_1 a1 = some r) :
  Calls Tryz.prog 109 #[.agg #[.int .i64 a0_0, .slice A0_1 l0_1.length c0_1], .int .i64 a1] w fun e w' => e = .returned (.int .i64 r) ∧ Below w.heap.size w w' := by
 have hu67 := Tryz.underlying67
 have HR0_1 := Aside0.mk hr0_1
 have HC0_1 := Aside0.mk hc0_1
 clear hr0_1 hc0_1
 have HB := Aside0.mk (Below.refl w.heap.size w)
 have H : (impl_Committee_weight.l0 k a1 0 l0_1 (l0_1.length : Int) 0) = some r := h
 clear h
 have H' := Aside0.mk H
 clear H
 go_enter Tryz.func109, Tryz.ntmps109
 go_wp2_with (first | ((with_reducible refine gate_dst (N := 2) rfl ?_); refine zq 2 #[.int .i64 a0_0, .slice A0_1 l0_1.length c0_1] 67 ?_; intro gb533 hg w3 hbox hb; have GW533 := zG hg HB; replace HB := zH hb HB; have BK533 := Aside0.mk hbox; have GE533 := GW533; clear hb hbox hg; obtain ⟨hcz4_0, hcz4_1, hfz4_0, hfz4_1⟩ := zC2 BK533))
 go_loopg [5, 11] k (fun kq v5 v11 w' => ∃ (x5_1 : Int) (x11_1 : Int), v5 = .int .i64 x5_1 ∧ v11 = .int .i64 x11_1 ∧ Aside0 (impl_Committee_weight.l0 kq a1 x5_1 l0_1 (l0_1.length : Int) x11_1 = some r) ∧ Aside0 (kq ≤ k) ∧ Aside0 (w'.heap[gb533]? = some (.cells #[.int .i64 a0_0, (.slice A0_1 l0_1.length c0_1)] 67 (0, 0))) ∧ Aside0 (Below w.heap.size w w'))
 case atStart => exact ⟨(0), (0), zE, zE, H', ⟨Nat.le_refl _⟩, ⟨zb BK533.out⟩, ⟨zh HB.out⟩⟩
 case round =>
  clear H'
  try clear c1
  try clear p2
  try clear hcz4_0
  try clear hcz4_1
  try clear hfz4_0
  try clear hfz4_1
  obtain ⟨x5_1, x11_1, rfl, rfl, HA, HK1, BK533, HB⟩ := hrel
  cases gk with
  | zero => exact absurd HA.out (by simp [impl_Committee_weight.l0])
  | succ k1 =>
   have H := HA.out
   clear HA
   simp only [impl_Committee_weight.l0] at H
   by_cases c5 : x11_1 < (l0_1.length : Int)
   rotate_left
   ·rw [if_neg c5] at H
    have c5b0 := decide_eq_false c5
    clear c5
    obtain rfl := Option.some.inj H
    go_wp2
    go_ret
    exact ⟨by first | rfl | (simp [*, errW_none, errW_some] <;> rfl), zh HB.out⟩
   rw [if_pos c5] at H
   have c5b0 := decide_eq_true c5
   clear c5
   by_cases c6 : 0 ≤ x11_1
   rotate_left
   ·rw [if_neg c6] at H
    cases H
   rw [if_pos c6] at H
   have c6b0 := decide_eq_true c6
   clear c6
   by_cases c7 : x11_1 < (l0_1.length : Int)
   rotate_left
   ·rw [if_neg c7] at H
    cases H
   rw [if_pos c7] at H
   have c7b0 := decide_eq_true c7
   clear c7
   replace H := Option.bind_eq_some_iff.mp H
   obtain ⟨t535, A80, H⟩ := H
   have A8 := Aside0.mk A80
   clear A80
   by_cases c9 : t535 = true
   ·subst c9
    rw [if_pos rfl] at H
    have H' := Aside0.mk H
    clear H
    obtain ⟨⟨ad534, e534, hx534_0⟩, p534, q534⟩ := zW (Kd.at_int HR0_1.out x11_1)
    cases e534
    replace hx534_0 := zx HB.out hx534_0
    go_wp2_with (first | ((with_reducible refine gate_callee (f := 98) rfl ?_); refine zl 18 Tryz.func98 #[.int .i64 a1, .int .i64 x11_1] ?_; (with_reducible refine (impl_has.calls a1 x11_1 true _ A8.out).mono ?_); rintro e w' ⟨rfl, ⟨nd, rfl⟩⟩; refine ⟨_, rfl, ?_⟩))
    go_roundg k1
    case measure => have := HK1.out; omega
    case rel => exact ⟨(wrap64 (x5_1 + (rd l0_1 x11_1))), (wrap64 (x11_1 + 1)), zE, zE, H', zO HK1, ⟨zb BK533.out⟩, ⟨zh HB.out⟩⟩
   replace c9 := Bool.eq_false_iff.mpr c9
   subst c9
   rw [if_neg zF] at H
   have H' := Aside0.mk H
   clear H
   obtain ⟨⟨ad534, e534, hx534_0⟩, p534, q534⟩ := zW (Kd.at_int HR0_1.out x11_1)
   cases e534
   replace hx534_0 := zx HB.out hx534_0
   go_wp2_with (first | ((with_reducible refine gate_callee (f := 98) rfl ?_); refine zl 18 Tryz.func98 #[.int .i64 a1, .int .i64 x11_1] ?_; (with_reducible refine (impl_has.calls a1 x11_1 false _ A8.out).mono ?_); rintro e w' ⟨rfl, ⟨nd, rfl⟩⟩; refine ⟨_, rfl, ?_⟩))
   go_roundg k1
   case measure => have := HK1.out; omega
   case rel => exact ⟨(x5_1), (wrap64 (x11_1 + 1)), zE, zE, H', zO HK1, ⟨zb BK533.out⟩, ⟨zh HB.out⟩⟩
mutual
def impl_votes_spare.l0 : Nat → Int → Int → List Bool → Int → Int → Int → List Int → Option (Int × Int)
 | 0, _, _, _, _, _, _, _ => none
 | k + 1, x7, x8, x15, x16, x17, x538000, x538001 => if x17 < x16 then (if 0 ≤ x17 then (if x17 < (x15.length : Int) then ((impl_Committee_weight.f k x538000 x538001 x17).bind fun t539 => (if rdOf false x15 x17 = true then (if x7 < 0 then (impl_votes_spare.j1 k x7 x8 (rdOf false x15 x17) t539 x15 x16 x17 true x538000 x538001) else (impl_votes_spare.j1 k x7 x8 (rdOf false x15 x17) t539 x15 x16 x17 (decide (t539 < x7)) x538000 x538001)) else (impl_votes_spare.j1 k x7 x8 (rdOf false x15 x17) t539 x15 x16 x17 false x538000 x538001))) else (none)) else (none)) else (some (x7, x8))
def impl_votes_spare.j1 : Nat → Int → Int → Bool → Int → List Bool → Int → Int → Bool → Int → List Int → Option (Int × Int)
 | 0, _, _, _, _, _, _, _, _, _, _ => none
 | k + 1, x7, x8, x10, x11, x15, x16, x17, x34, x538000, x538001 => if x34 = true then (if x10 = true then (impl_votes_spare.l0 k x11 x8 x15 x16 (wrap64 (x17 + 1)) x538000 x538001) else (impl_votes_spare.l0 k x11 (mx x8 x11) x15 x16 (wrap64 (x17 + 1)) x538000 x538001)) else (if x10 = true then (impl_votes_spare.l0 k x7 x8 x15 x16 (wrap64 (x17 + 1)) x538000 x538001) else (impl_votes_spare.l0 k x7 (mx x8 x11) x15 x16 (wrap64 (x17 + 1)) x538000 x538001))
end
def impl_votes_spare.f (k : Nat) (a0_0 : Int) (l0_1 : List Bool) (l1 : List Int) : Option (Int × Int) := impl_votes_spare.l0 k (-1) (-1) l0_1 (l0_1.length : Int) 0 0 l1
set_option maxHeartbeats 8000000 in
set_option maxRecDepth 100000 in
theorem impl_votes_spare.calls (k : Nat) (a0_0 : Int) (A0_1 : Option Addr) (c0_1 : Nat) (l0_1 : List Bool) (A1 : Option Addr) (c1 : Nat) (l1 : List Int) (r1 : Int) (r2 : Int) (w : World) (hr0_1 : Kd.C Kd.bool w A0_1 l0_1.length l0_1) (hc0_1 : l0_1.length ≤ c0_1) (hr1 : Kd.C (Kd.int .i64) w A1 l1.length l1) (hc1 : l1.length ≤ c1) (h : impl_votes_spare.f k a0_0 l0_1 l1 = some (r1, r2)) :
  Calls Tryz.prog 67 #[.agg #[.int .i64 a0_0, .slice A0_1 l0_1.length c0_1], .slice A1 l1.length c1] w fun e w' => e = .returned (.tuple #[.int .i64 r1, .int .i64 r2]) ∧ Below w.heap.size w w' := by
 have hu61 := Tryz.underlying61
 have hu67 := Tryz.underlying67
 have HR0_1 := Aside0.mk hr0_1
 have HC0_1 := Aside0.mk hc0_1
 clear hr0_1 hc0_1
 have HR1 := Aside0.mk hr1
 have HC1 := Aside0.mk hc1
 clear hr1 hc1
 have HB := Aside0.mk (Below.refl w.heap.size w)
 have H : (impl_votes_spare.l0 k (-1) (-1) l0_1 (l0_1.length : Int) 0 0 l1) = some (r1, r2) := h
 clear h
 have H' := Aside0.mk H
 clear H
 go_enter Tryz.func67, Tryz.ntmps67
 go_wp2_with (first | ((with_reducible refine gate_dst (N := 2) rfl ?_); refine zq 2 #[.int .i64 a0_0, .slice A0_1 l0_1.length c0_1] 61 ?_; intro gb536 hg w3 hbox hb; have GW536 := zG hg HB; replace HB := zH hb HB; have BK536 := Aside0.mk hbox; have GE536 := GW536; clear hb hbox hg) | ((with_reducible refine gate_dst (N := 6) rfl ?_); refine zq 6 #[.int .i64 0, .slice none 0 0] 67 ?_; intro gb537 hg w4 hbox hb; have BK537 := Aside0.mk hbox; have GW537 := zG hg HB; have GE537 := zG hg HB; have NB536_537 := zNa hg BK536; have NB537_536 := zNb hg BK536; replace BK536 := zK BK536 hb; replace HB := zH hb HB; clear hb hbox hg; have hnb5 := NB537_536.out; have hnc5 := NB536_537.out; obtain ⟨hcz6_0, hcz6_1, hfz6_0, hfz6_1⟩ := zC2 BK537; obtain ⟨hcz7_0, hcz7_1, hfz7_0, hfz7_1⟩ := zC2 BK536))
 go_loopg [7, 8, 17] k (fun kq v7 v8 v17 w' => ∃ (x7_1 : Int) (x8_1 : Int) (x17_1 : Int), v7 = .int .i64 x7_1 ∧ v8 = .int .i64 x8_1 ∧ v17 = .int .i64 x17_1 ∧ Aside0 (impl_votes_spare.l0 kq x7_1 x8_1 l0_1 (l0_1.length : Int) x17_1 0 l1 = some (r1, r2)) ∧ Aside0 (kq ≤ k) ∧ Aside0 (w'.heap[gb536]? = some (.cells #[.int .i64 a0_0, (.slice A0_1 l0_1.length c0_1)] 61 (0, 0))) ∧ Aside0 (w'.heap[gb537]? = some (.cells #[.int .i64 0, (.slice A1 l1.length c1)] 67 (0, 0))) ∧ Aside0 (Below w.heap.size w w'))
 case atStart => exact ⟨((-1)), ((-1)), (0), zE, zE, zE, H', ⟨Nat.le_refl _⟩, ⟨zf2 BK536.out NB536_537.out NB536_537.out⟩, ⟨by (with_reducible repeat (first | refine blk_drewN ?_ _ | refine blk_drew ?_ | refine blk_alloc ?_ _)); refine blk_put (cs := #[.int .i64 0, .slice none 0 0]) ?_ 1 _ rfl; (with_reducible repeat (first | refine blk_drewN ?_ _ | refine blk_drew ?_ | refine blk_alloc ?_ _)); refine blk_put (cs := #[.int .i64 0, .slice none 0 0]) ?_ 0 _ rfl; (with_reducible repeat (first | refine blk_drewN ?_ _ | refine blk_drew ?_ | refine blk_alloc ?_ _)); exact BK537.out⟩, ⟨zh HB.out⟩⟩
 case round =>
  clear H'
  try clear c1
  try clear p2
  try clear c5
  try clear c6
  try clear hcz6_0
  try clear hcz6_1
  try clear hcz7_0
  try clear hcz7_1
  try clear hfz6_0
  try clear hfz6_1
  try clear hfz7_0
  try clear hfz7_1
  obtain ⟨x7_1, x8_1, x17_1, rfl, rfl, rfl, HA, HK1, BK536, BK537, HB⟩ := hrel
  cases gk with
  | zero => exact absurd HA.out (by simp [impl_votes_spare.l0])
  | succ k1 =>
   have H := HA.out
   clear HA
   simp only [impl_votes_spare.l0] at H
   by_cases c8 : x17_1 < (l0_1.length : Int)
   rotate_left
   ·rw [if_neg c8] at H
    have c8b0 := decide_eq_false c8
    clear c8
    simp only [Option.some.injEq, Prod.mk.injEq] at H
    obtain ⟨rfl, rfl⟩ := H
    go_wp2
    go_ret2
    exact ⟨by first | rfl | (simp [*, errW_none, errW_some] <;> rfl), zh HB.out⟩
   rw [if_pos c8] at H
   have c8b0 := decide_eq_true c8
   clear c8
   by_cases c9 : 0 ≤ x17_1
   rotate_left
   ·rw [if_neg c9] at H
    cases H
   rw [if_pos c9] at H
   have c9b0 := decide_eq_true c9
   clear c9
   by_cases c10 : x17_1 < (l0_1.length : Int)
   rotate_left
   ·rw [if_neg c10] at H
    cases H
   rw [if_pos c10] at H
   have c10b0 := decide_eq_true c10
   clear c10
   replace H := Option.bind_eq_some_iff.mp H
   obtain ⟨t539, A110, H⟩ := H
   replace H : (if rdOf false l0_1 x17_1 = true then (if x7_1 < 0 then (impl_votes_spare.j1 k1 x7_1 x8_1 (rdOf false l0_1 x17_1) t539 l0_1 (l0_1.length : Int) x17_1 true 0 l1) else (impl_votes_spare.j1 k1 x7_1 x8_1 (rdOf false l0_1 x17_1) t539 l0_1 (l0_1.length : Int) x17_1 (decide (t539 < x7_1)) 0 l1)) else (impl_votes_spare.j1 k1 x7_1 x8_1 (rdOf false l0_1 x17_1) t539 l0_1 (l0_1.length : Int) x17_1 false 0 l1)) = some (r1, r2) := H
   have A11 := Aside0.mk A110
   clear A110
   have HC12 := Aside0.mk H
   clear H
   obtain ⟨⟨ad538, e538, hx538_0⟩, p538, q538⟩ := zW (Kd.at_bool HR0_1.out x17_1)
   cases e538
   replace hx538_0 := zx HB.out hx538_0
   obtain ⟨bz538, hbz538⟩ : ∃ b_ : Bool, b_ = (rdOf false l0_1 x17_1) := ⟨_, rfl⟩
   (try rw [← hbz538] at hx538_0)
   (try rw [← hbz538] at H)
   (try (have H2_ := H'.out; rw [← hbz538] at H2_; clear H'; have H' := Aside0.mk H2_; clear H2_))
   (try (have H2_ := HC12.out; rw [← hbz538] at H2_; clear HC12; have HC12 := Aside0.mk H2_; clear H2_))
   have Nbz538 := Aside0.mk hbz538
   clear hbz538
   have hnb13 := NB537_536.out
   have hnc13 := NB536_537.out
   obtain ⟨hcz14_0, hcz14_1, hfz14_0, hfz14_1⟩ := zC2 BK537
   go_upto_region 7 with (first | ((with_reducible refine gate_callee (f := 109) rfl ?_); refine zl 24 Tryz.func109 #[.agg #[.int .i64 0, .slice A1 l1.length c1], .int .i64 x17_1] ?_; (with_reducible refine (impl_Committee_weight.calls k1 0 _ _ l1 x17_1 t539 _ ?side1 ?side2 A11.out).mono ?_); (case side1 => repeat (first | exact (Kd.C_below HR1.out HB.out) | (with_reducible refine Kd.C_alloc ?_ _) | (with_reducible refine Kd.C_drewN ?_ _) | (with_reducible refine Kd.C_drew ?_))); (case side2 => exact HC1.out); rintro e w15 ⟨rfl, hb⟩; refine ⟨_, rfl, ?_⟩; have n0_ := Aside0.mk (blk_below (g := gb536) (o := .cells #[.int .i64 a0_0, .slice (some ad538) l0_1.length c0_1] 61 (0, 0)) (zb BK536.out) hb); have n1_ := Aside0.mk (blk_below (g := gb537) (o := .cells #[.int .i64 0, .slice A1 l1.length c1] 67 (0, 0)) (zb BK537.out) hb); have n2_ := Aside0.mk (below_step (zh HB.out) hb); clear BK536; clear BK537; clear HB; have BK536 := n0_; have BK537 := n1_; have HB := n2_; clear n0_ n1_ n2_; (try clear hb); (try clear hb2); (try clear hk); (try clear hi)))
   (try simp only [Act.put, List.setIfInBounds_toArray, List.set_cons_zero, List.set_cons_succ])
   go_cut [34] (fun v34 wc => ∃ (kq : Nat) (x34_11 : Bool), v34 = .bool x34_11 ∧ Aside0 (impl_votes_spare.j1 kq x7_1 x8_1 bz538 t539 l0_1 (l0_1.length : Int) x17_1 x34_11 0 l1 = some (r1, r2)) ∧ Aside0 (kq ≤ k1) ∧ Aside0 (wc.heap[gb536]? = some (.cells #[.int .i64 a0_0, (.slice (some ad538) l0_1.length c0_1)] 61 (0, 0))) ∧ Aside0 (wc.heap[gb537]? = some (.cells #[.int .i64 0, (.slice A1 l1.length c1)] 67 (0, 0))) ∧ Aside0 (Below w.heap.size w wc))
   case first =>
    have H := HC12.out
    clear HC12
    (try rw [← Nbz538.out])
    by_cases c17 : bz538 = true
    ·subst c17
     rw [if_pos rfl] at H
     by_cases c18 : x7_1 < 0
     ·rw [if_pos c18] at H
      have c18b0 := decide_eq_true c18
      clear c18
      have H' := Aside0.mk H
      clear H
      go_wp2
      go_meet
      case rel => exact ⟨_, (true), zE, H', ⟨by have := HK1.out; first | omega | exact Nat.le_refl _⟩, ⟨zb BK536.out⟩, ⟨zb BK537.out⟩, ⟨zh HB.out⟩⟩
     ·rw [if_neg c18] at H
      have c18b0 := decide_eq_false c18
      clear c18
      have H' := Aside0.mk H
      clear H
      go_wp2
      go_meet
      case rel => exact ⟨_, (decide (t539 < x7_1)), zE, H', ⟨by have := HK1.out; first | omega | exact Nat.le_refl _⟩, ⟨zb BK536.out⟩, ⟨zb BK537.out⟩, ⟨zh HB.out⟩⟩
    ·replace c17 := Bool.eq_false_iff.mpr c17
     subst c17
     rw [if_neg zF] at H
     have H' := Aside0.mk H
     clear H
     go_wp2
     go_meet
     case rel => exact ⟨_, (false), zE, H', ⟨by have := HK1.out; first | omega | exact Nat.le_refl _⟩, ⟨zb BK536.out⟩, ⟨zb BK537.out⟩, ⟨zh HB.out⟩⟩
   case rest =>
    clear HC12
    try clear c1
    try clear q1
    try clear p2
    try clear c5
    try clear p5
    try clear q5
    try clear hx5
    try clear c6
    try clear c8
    try clear c8b0
    try clear c9
    try clear c9b0
    try clear c10
    try clear c10b0
    try clear c13
    try clear q16
    try clear c17
    try clear c18
    try clear c18b0
    try clear hcz14_0
    try clear hcz14_1
    try clear hcz6_0
    try clear hcz6_1
    try clear hcz7_0
    try clear hcz7_1
    try clear hfz14_0
    try clear hfz14_1
    try clear hfz6_0
    try clear hfz6_1
    try clear hfz7_0
    try clear hfz7_1
    try clear hx538_0
    try clear p2
    try clear p538
    try clear q538
    obtain ⟨kq, x34_11, rfl, HA, HJ11, BK536, BK537, HB⟩ := hcut
    cases kq with
    | zero => exact absurd HA.out (by simp [impl_votes_spare.j1])
    | succ kj11 =>
     have H := HA.out
     clear HA
     simp only [impl_votes_spare.j1] at H
     by_cases c19 : x34_11 = true
     ·subst c19
      rw [if_pos rfl] at H
      by_cases c21 : (bz538) = true
      ·rw [if_pos c21] at H
       subst c21
       have H' := Aside0.mk H
       clear H
       go_wp2
       go_roundg kj11
       case measure => have := HK1.out; have := HJ11.out; omega
       case rel => exact ⟨(t539), (x8_1), (wrap64 (x17_1 + 1)), zE, zE, zE, H', zO2 HK1 HJ11, ⟨zb BK536.out⟩, ⟨zb BK537.out⟩, ⟨zh HB.out⟩⟩
      rw [if_neg c21] at H
      have c21b0 := Bool.eq_false_iff.mpr c21
      clear c21
      obtain ⟨ji22, hji22⟩ : ∃ j_ : Int, (mx x8_1 t539) = j_ := ⟨_, rfl⟩
      rw [hji22] at H
      have hji22_ : (if x8_1 < t539 then t539 else x8_1) = ji22 := hji22
      have H' := Aside0.mk H
      clear H
      go_wp2
      go_roundg kj11
      case measure => have := HK1.out; have := HJ11.out; omega
      case rel => exact ⟨(t539), (ji22), (wrap64 (x17_1 + 1)), zE, (by first | rfl | (simp; done) | (simp only [← hji22] <;> (first | rfl | simp)) | (simp [*]; done)), zE, H', zO2 HK1 HJ11, ⟨zb BK536.out⟩, ⟨zb BK537.out⟩, ⟨zh HB.out⟩⟩
     replace c19 := Bool.eq_false_iff.mpr c19
     subst c19
     rw [if_neg zF] at H
     by_cases c24 : (bz538) = true
     ·rw [if_pos c24] at H
      subst c24
      have H' := Aside0.mk H
      clear H
      go_wp2
      go_roundg kj11
      case measure => have := HK1.out; have := HJ11.out; omega
      case rel => exact ⟨(x7_1), (x8_1), (wrap64 (x17_1 + 1)), zE, zE, zE, H', zO2 HK1 HJ11, ⟨zb BK536.out⟩, ⟨zb BK537.out⟩, ⟨zh HB.out⟩⟩
     rw [if_neg c24] at H
     have c24b0 := Bool.eq_false_iff.mpr c24
     clear c24
     obtain ⟨ji25, hji25⟩ : ∃ j_ : Int, (mx x8_1 t539) = j_ := ⟨_, rfl⟩
     rw [hji25] at H
     have hji25_ : (if x8_1 < t539 then t539 else x8_1) = ji25 := hji25
     have H' := Aside0.mk H
     clear H
     go_wp2
     go_roundg kj11
     case measure => have := HK1.out; have := HJ11.out; omega
     case rel => exact ⟨(x7_1), (ji25), (wrap64 (x17_1 + 1)), zE, (by first | rfl | (simp; done) | (simp only [← hji25] <;> (first | rfl | simp)) | (simp [*]; done)), zE, H', zO2 HK1 HJ11, ⟨zb BK536.out⟩, ⟨zb BK537.out⟩, ⟨zh HB.out⟩⟩
def laws_eqCommittee.f (k : Nat) (a0_0 : Int) (l0_1 : List Int) (a1_0 : Int) (l1_1 : List Int) : Option (Bool) := if a0_0 = a1_0 then ((laws_eqIntS.f k l0_1 l1_1).bind fun t565 => (if t565 = true then (some true) else (some false))) else (some false)
set_option maxHeartbeats 8000000 in
set_option maxRecDepth 100000 in
theorem laws_eqCommittee.calls (k : Nat) (a0_0 : Int) (A0_1 : Option Addr) (c0_1 : Nat) (l0_1 : List Int) (a1_0 : Int) (A1_1 : Option Addr) (c1_1 : Nat) (l1_1 : List Int) (r : Bool) (w : World) (hr0_1 : Kd.C (Kd.int .i64) w A0_1 l0_1.length l0_1) (hc0_1 : l0_1.length ≤ c0_1) (hr1_1 : Kd.C (Kd.int .i64) w A1_1 l1_1.length l1_1) (hc1_1 : l1_1.length ≤ c1_1) (h : laws_eqCommittee.f k a0_0 l0_1 a1_0 l1_1 = some r) :
  Calls Tryz.prog 36 #[.agg #[.int .i64 a0_0, .slice A0_1 l0_1.length c0_1], .agg #[.int .i64 a1_0, .slice A1_1 l1_1.length c1_1]] w fun e w' => e = .returned (.bool r) ∧ Below w.heap.size w w' := by
 have hu67 := Tryz.underlying67
 have HR0_1 := Aside0.mk hr0_1
 have HC0_1 := Aside0.mk hc0_1
 clear hr0_1 hc0_1
 have HR1_1 := Aside0.mk hr1_1
 have HC1_1 := Aside0.mk hc1_1
 clear hr1_1 hc1_1
 have HB := Aside0.mk (Below.refl w.heap.size w)
 have H : (if a0_0 = a1_0 then ((laws_eqIntS.f k l0_1 l1_1).bind fun t565 => (if t565 = true then (some true) else (some false))) else (some false)) = some r := h
 clear h
 by_cases c3 : a0_0 = a1_0
 rotate_left
 ·rw [if_neg c3] at H
  have c3b0 := beq_eq_false_iff_ne.mpr c3
  have c3b1 := bne_iff_ne.mpr c3
  obtain rfl := Option.some.inj H
  go_enter Tryz.func36, Tryz.ntmps36
  go_wp2_with (first | ((with_reducible refine gate_dst (N := 2) rfl ?_); refine zq 2 #[.int .i64 a0_0, .slice A0_1 l0_1.length c0_1] 67 ?_; intro gb563 hg w16 hbox hb; have GW563 := zG hg HB; replace HB := zH hb HB; have BK563 := Aside0.mk hbox; have GE563 := GW563; clear hb hbox hg) | ((with_reducible refine gate_dst (N := 3) rfl ?_); refine zq 3 #[.int .i64 a1_0, .slice A1_1 l1_1.length c1_1] 67 ?_; intro gb564 hg w17 hbox hb; have BK564 := Aside0.mk hbox; have GW564 := zG hg HB; have GE564 := zG hg HB; have NB563_564 := zNa hg BK563; have NB564_563 := zNb hg BK563; replace BK563 := zK BK563 hb; replace HB := zH hb HB; clear hb hbox hg; have hnb18 := NB563_564.out; have hnc18 := NB564_563.out; obtain ⟨hcz19_0, hcz19_1, hfz19_0, hfz19_1⟩ := zC2 BK563; obtain ⟨hcz20_0, hcz20_1, hfz20_0, hfz20_1⟩ := zC2 BK564))
  go_ret
  exact ⟨by first | rfl | (simp [*, errW_none, errW_some] <;> rfl), zh HB.out⟩
 rw [if_pos c3] at H
 have c3b0 := beq_iff_eq.mpr c3
 have c3b1 := bne_eq_false_iff_eq.mpr c3
 clear c3
 replace H := Option.bind_eq_some_iff.mp H
 obtain ⟨t565, A40, H⟩ := H
 have A4 := Aside0.mk A40
 clear A40
 by_cases c5 : t565 = true
 ·subst c5
  rw [if_pos rfl] at H
  obtain rfl := Option.some.inj H
  go_enter Tryz.func36, Tryz.ntmps36
  go_wp2_with (first | ((with_reducible refine gate_dst (N := 2) rfl ?_); refine zq 2 #[.int .i64 a0_0, .slice A0_1 l0_1.length c0_1] 67 ?_; intro gb563 hg w6 hbox hb; have GW563 := zG hg HB; replace HB := zH hb HB; have BK563 := Aside0.mk hbox; have GE563 := GW563; clear hb hbox hg) | ((with_reducible refine gate_dst (N := 3) rfl ?_); refine zq 3 #[.int .i64 a1_0, .slice A1_1 l1_1.length c1_1] 67 ?_; intro gb564 hg w7 hbox hb; have BK564 := Aside0.mk hbox; have GW564 := zG hg HB; have GE564 := zG hg HB; have NB563_564 := zNa hg BK563; have NB564_563 := zNb hg BK563; replace BK563 := zK BK563 hb; replace HB := zH hb HB; clear hb hbox hg; have hnb8 := NB563_564.out; have hnc8 := NB564_563.out; obtain ⟨hcz9_0, hcz9_1, hfz9_0, hfz9_1⟩ := zC2 BK563; obtain ⟨hcz10_0, hcz10_1, hfz10_0, hfz10_1⟩ := zC2 BK564) | ((with_reducible refine gate_callee (f := 61) rfl ?_); refine zl 14 Tryz.func61 #[.slice A0_1 l0_1.length c0_1, .slice A1_1 l1_1.length c1_1] ?_; (with_reducible refine (laws_eqIntS.calls k _ _ l0_1 _ _ l1_1 true _ ?side1 ?side2 ?side3 ?side4 A4.out).mono ?_); (case side1 => exact zQ (Kd.C_below HR0_1.out HB.out)); (case side2 => exact HC0_1.out); (case side3 => exact zQ (Kd.C_below HR1_1.out HB.out)); (case side4 => exact HC1_1.out); rintro e w' ⟨rfl, ⟨nd, rfl⟩⟩; refine ⟨_, rfl, ?_⟩))
  go_ret
  exact ⟨by first | rfl | (simp [*, errW_none, errW_some] <;> rfl), zh HB.out⟩
 replace c5 := Bool.eq_false_iff.mpr c5
 subst c5
 rw [if_neg zF] at H
 obtain rfl := Option.some.inj H
 go_enter Tryz.func36, Tryz.ntmps36
 go_wp2_with (first | ((with_reducible refine gate_dst (N := 2) rfl ?_); refine zq 2 #[.int .i64 a0_0, .slice A0_1 l0_1.length c0_1] 67 ?_; intro gb563 hg w11 hbox hb; have GW563 := zG hg HB; replace HB := zH hb HB; have BK563 := Aside0.mk hbox; have GE563 := GW563; clear hb hbox hg) | ((with_reducible refine gate_dst (N := 3) rfl ?_); refine zq 3 #[.int .i64 a1_0, .slice A1_1 l1_1.length c1_1] 67 ?_; intro gb564 hg w12 hbox hb; have BK564 := Aside0.mk hbox; have GW564 := zG hg HB; have GE564 := zG hg HB; have NB563_564 := zNa hg BK563; have NB564_563 := zNb hg BK563; replace BK563 := zK BK563 hb; replace HB := zH hb HB; clear hb hbox hg; have hnb13 := NB563_564.out; have hnc13 := NB564_563.out; obtain ⟨hcz14_0, hcz14_1, hfz14_0, hfz14_1⟩ := zC2 BK563; obtain ⟨hcz15_0, hcz15_1, hfz15_0, hfz15_1⟩ := zC2 BK564) | ((with_reducible refine gate_callee (f := 61) rfl ?_); refine zl 14 Tryz.func61 #[.slice A0_1 l0_1.length c0_1, .slice A1_1 l1_1.length c1_1] ?_; (with_reducible refine (laws_eqIntS.calls k _ _ l0_1 _ _ l1_1 false _ ?side1 ?side2 ?side3 ?side4 A4.out).mono ?_); (case side1 => exact zQ (Kd.C_below HR0_1.out HB.out)); (case side2 => exact HC0_1.out); (case side3 => exact zQ (Kd.C_below HR1_1.out HB.out)); (case side4 => exact HC1_1.out); rintro e w' ⟨rfl, ⟨nd, rfl⟩⟩; refine ⟨_, rfl, ?_⟩))
 go_ret
 exact ⟨by first | rfl | (simp [*, errW_none, errW_some] <;> rfl), zh HB.out⟩
end Go.Proofs.YtmbkmabpebjboaaGreat.Q
end
section
namespace Go.Proofs.YtmbkmabpebjboaaGreat.Q
open Go.RowKit Go.Proofs.YtmbkmabpebjboaaGreatW.PrintWords Go.Proofs.YtmbkmabpebjboaaGreatW.PrintLast Go.Proofs.YtmbkmabpebjboaaGreatW.PrintMore
set_option linter.unusedVariables false
set_option linter.unusedSimpArgs false
structure FSt (bv bo : Nat) (n : Int) (T : Option Addr) (ct : Nat) (t : List Bool) (w0 w : World) (old : Array Value) : Prop where
  V : w.heap[bv]? = some (.cells #[.int .i64 n, .slice T t.length ct] 61 (0, 0))
  O : w.heap[bo]? = some (.cells old 67 (0, 0))
  B : Below w0.heap.size w0 w
theorem FSt.below {bv bo : Nat} {n : Int} {T : Option Addr} {ct : Nat} {t : List Bool} {w0 w w1 : World} {old : Array Value} (h : FSt bv bo n T ct t w0 w old) (hb : Below w.heap.size w w1) : FSt bv bo n T ct t w0 w1 old := ⟨blk_below h.V hb, blk_below h.O hb, h.B.trans (hb.mono h.B.size)⟩
set_option maxHeartbeats 2000000 in
theorem found_1.calls (k : Nat) (n : Int) (T : Option Addr) (ct : Nat) (t : List Bool) (hct : t.length ≤ ct) (bv bo : Nat) (hne : bv ≠ bo) (A : Option Addr) (c : Nat) (l : List Int) (hlc : l.length ≤ c) (q0 : Int) (v0 : Value) (w0 w : World) (hT : Kd.C Kd.bool w0 T t.length t) (hbo : w0.heap.size ≤ bo) (hS : FSt bv bo n T ct t w0 w #[.int .i64 q0, v0]) (hl : Kd.C (Kd.int .i64) w A l.length l) (win lose : Int) (h : impl_votes_spare.f k n t l = some (win, lose)) :
    Calls Tryz.prog 66 #[.slice A l.length c, .pointer (some ⟨bv, 0, none⟩), .pointer (some ⟨bo, 0, none⟩)] w fun e w' => e = .returned (.bool (!decide (win ≤ lose))) ∧ FSt bv bo n T ct t w0 w' (if win ≤ lose then #[.int .i64 q0, v0] else #[.int .i64 (wrap64 (lose + 1)), .slice A l.length c]) ∧ Kept w w' (fun z => z = bo) := by
  have HT := Aside0.mk hT
  have HS := Aside0.mk hS
  have HL := Aside0.mk hl
  have HH := Aside0.mk h
  have HN := Aside0.mk hne
  have HBO := Aside0.mk hbo
  have q0_ := (blk_cell hS.V 0).trans rfl
  have q1_ := (blk_cell hS.V 1).trans rfl
  have hu1 := Tryz.underlying61
  have hu2 := Tryz.underlying67
  clear hT hS hl h hne hbo
  by_cases c1 : win ≤ lose
  · rw [if_pos c1]
    have c1b : decide (win ≤ lose) = true := decide_eq_true c1
    rw [c1b]
    clear c1
    go_enter Tryz.func66, Tryz.ntmps66
    go_wp2_with (go_at_call 67; refine (impl_votes_spare.calls k n T ct t A c l win lose _ (Kd.C_below HT.out HS.out.B) hct HL.out hlc HH.out).mono ?_; rintro e w1 ⟨rfl, hb⟩; have HS1 := Aside0.mk (HS.out.below hb); have HK1 := Aside0.mk (Kept.of_below hb (fun z => z = bo)); clear hb q0_ q1_)
    go_ret
    exact ⟨rfl, HS1.out, HK1.out⟩
  · rw [if_neg c1]
    have c1b : decide (win ≤ lose) = false := decide_eq_false c1
    rw [c1b]
    clear c1
    go_enter Tryz.func66, Tryz.ntmps66
    go_wp2_with (go_at_call 67; refine (impl_votes_spare.calls k n T ct t A c l win lose _ (Kd.C_below HT.out HS.out.B) hct HL.out hlc HH.out).mono ?_; rintro e w1 ⟨rfl, hb⟩; have HS1 := Aside0.mk (HS.out.below hb); have HK1 := Aside0.mk (Kept.of_below hb (fun z => z = bo)); clear hb q0_ q1_; have p0_ : w1.cell? ⟨bo, 0, none⟩ = some (.int .i64 q0) := (blk_cell HS1.out.O 0).trans rfl; have p1_ : w1.cell? ⟨bo, 1, none⟩ = some v0 := (blk_cell HS1.out.O 1).trans rfl; have f0_ := blk_frozen HS1.out.O 0; have f1_ := blk_frozen HS1.out.O 1)
    go_ret
    refine ⟨rfl, ⟨blk_far (blk_far HS1.out.V HN.out _) HN.out _, ?_, below_set (below_set HS1.out.B HBO.out) HBO.out⟩, (HK1.out.setCell (.inl rfl) _).setCell (.inl rfl) _⟩
    refine blk_put (cs := #[.int .i64 (wrap64 (lose + 1)), v0]) ?_ 1 _ rfl
    refine blk_put (cs := #[.int .i64 q0, v0]) ?_ 0 _ rfl
    exact HS1.out.O
mutual
def eachW.f : Nat → Int → List Bool → List Int → Int → Option (Option (Int × List Int))
  | 0, _, _, _, _ => none
  | k + 1, n, t, b, s => if (b.length : Int) = wrap64 (n - 1) then (if b.length < 17592186044416 then (impl_votes_spare.f k n t (b ++ [s])).bind fun p => if p.1 ≤ p.2 then some none else some (some (wrap64 (p.2 + 1), b ++ [s])) else none) else eachW.l k n t b s 0
def eachW.l : Nat → Int → List Bool → List Int → Int → Int → Option (Option (Int × List Int))
  | 0, _, _, _, _, _ => none
  | k + 1, n, t, b, s, x => if x < wrap64 (s + 1) then (if b.length < 17592186044416 then (eachW.f k n t (b ++ [x]) (wrap64 (s - x))).bind fun r => (match r with
    | some q => some (some q)
    | none => eachW.l k n t b s (wrap64 (x + 1))) else none) else some none
end
def eachPost (bv bo : Nat) (n : Int) (T : Option Addr) (ct : Nat) (t : List Bool) (w0 w w' : World) (q0 : Int) (v0 : Value) : Option (Int × List Int) → Prop
  | none => FSt bv bo n T ct t w0 w' #[.int .i64 q0, v0]
  | some q => ∃ v, FSt bv bo n T ct t w0 w' #[.int .i64 q.1, v] ∧ Kd.R (Kd.int .i64) 3 w' w0.heap.size (fun z => w.heap.size ≤ z) v q.2
set_option maxHeartbeats 8000000 in
set_option maxRecDepth 100000 in
theorem eachW.calls (n : Int) (T : Option Addr) (ct : Nat) (t : List Bool) (hct : t.length ≤ ct) (bv bo : Nat) (hne : bv ≠ bo) (w0 : World) (hT : Kd.C Kd.bool w0 T t.length t) (hbo : w0.heap.size ≤ bo) (q0 : Int) (v0 : Value) :
    ∀ (k : Nat) (A : Option Addr) (c : Nat) (b : List Int) (s : Int) (r : Option (Int × List Int)) (w : World), b.length ≤ c → FSt bv bo n T ct t w0 w #[.int .i64 q0, v0] → (∀ W, Kept w W (fun z => z = bo) → Kd.C (Kd.int .i64) W A b.length b) → eachW.f k n t b s = some r →
    Calls Tryz.prog 65 #[.slice A b.length c, .int .i64 n, .int .i64 s, .func (.func 66) #[] #[.pointer (some ⟨bv, 0, none⟩), .pointer (some ⟨bo, 0, none⟩)]] w fun e w' => e = .returned (.bool r.isSome) ∧ Kept w w' (fun z => z = bo) ∧ eachPost bv bo n T ct t w0 w w' q0 v0 r := by
  have HT := Aside0.mk hT
  have HN := Aside0.mk hne
  have HBO := Aside0.mk hbo
  clear hT hne hbo
  intro k
  induction k using Nat.strongRecOn with
  | _ k IH =>
    intro A c b s r w hbc hS hb h
    cases k with
    | zero => exact absurd h (by simp [eachW.f])
    | succ k1 =>
      have IH := Aside0.mk IH
      have HS := Aside0.mk hS
      have HC := Aside0.mk hb
      have HB := Aside0.mk (Below.refl w.heap.size w)
      have hbl : bo < w.heap.size := blk_lt hS.O
      clear hS hb
      rw [eachW.f] at h
      by_cases c1 : (b.length : Int) = wrap64 (n - 1)
      · rw [if_pos c1] at h
        have c1b : ((b.length : Int) == wrap64 (n - 1)) = true := beq_iff_eq.2 c1
        by_cases c2 : b.length < 17592186044416
        case neg => rw [if_neg c2] at h; cases h
        rw [if_pos c2] at h
        replace h := Option.bind_eq_some_iff.mp h
        obtain ⟨⟨win, lose⟩, hp, h⟩ := h
        have HP := Aside0.mk hp
        have L2 := Aside0.mk c2
        clear hp c1 c2
        go_enter Tryz.func65, Tryz.ntmps65
        go_wp2_with (first
          | (go_at_call 108; refine (slices_Clone_int_int.calls A c b b _ (HC.out _ (Kept.refl _ _)) hbc (if_pos L2.out)).mono ?_; rintro e w1 ⟨v, rfl, hR, hb⟩; have HO1 := Aside0.mk hR; have HB1 := Aside0.mk hb; clear hR hb)
          | ((with_reducible refine gate_builtin (b := .append) (xs := #[.tmp 17, .tmp 19]) rfl ?_); at_builtin; refine Kd.R_append (Kd.int .i64) (w0 := w) w.heap.size rfl (.tmp 17) (.tmp 19) 65 3 (.int .i64 0) 8 rfl Tryz.underlying65 info3 rfl (by decide) (by omega) v b s [.int .i64 s] (fun _ => True) (fun _ => False) rfl rfl ?aP (fun _ hk => hk.elim) ?aF ?aO ?aB ?aS ?aL ?_; (case aP => exact rfl); (case aB => exact HB1.out); (case aF => exact (fun _ _ => trivial)); (case aO => exact HO1.out); (case aS => exact HB1.out.size); (case aL => have := L2.out; omega); intro v2 w2 ho hb hg hat; obtain ⟨A2, c2, rfl⟩ := Kd.R_slice ho; have HO2 := Aside0.mk ho; have HB2 := Aside0.mk hb; clear ho hb hg hat HO1 HB1)
          | ((with_reducible refine gate_dst (N := 21) rfl ?_); refine goesLF_ (some 21) rfl rfl (enters_of Tryz.func66 (by kernel_rfl) rfl) (by rfl) #[.slice A2 (b ++ [s]).length c2] rfl (by (try simp only [List.map_toArray, List.map_cons, List.map_nil]); first | done | rfl) ?_; refine (found_1.calls k1 n T ct t hct bv bo HN.out A2 c2 (b ++ [s]) (Kd.R_reads' HO2.out).2.1 q0 v0 w0 _ HT.out HBO.out (HS.out.below HB2.out) (Kd.R_reads' HO2.out).2.2 win lose HP.out).mono ?_; rintro e w3 ⟨rfl, hS3, hK3⟩; refine ⟨_, rfl, ?_⟩; have HS3 := Aside0.mk hS3; have HK3 := Aside0.mk hK3; clear hS3 hK3))
        go_ret
        have hK := (Kept.of_below HB2.out (fun z => z = bo)).then_ HK3.out (fun z hz => .inl hz)
        have hO3 := Kd.R_kept (Kd.R_mono (Kd.R_bound HO2.out) (ok' := fun z => w.heap.size ≤ z) (fun z hz => hz.2.1)) HK3.out (fun z hz he => absurd hbl (by omega))
        have hS3 := HS3.out
        by_cases c3 : win ≤ lose
        · rw [if_pos c3] at h hS3
          obtain rfl := Option.some.inj h
          exact ⟨by rw [decide_eq_true c3]; rfl, hK, hS3⟩
        · rw [if_neg c3] at h hS3
          obtain rfl := Option.some.inj h
          exact ⟨by rw [decide_eq_false c3]; rfl, hK, _, hS3, Kd.R_lower hO3 HS.out.B.size⟩
      · rw [if_neg c1] at h
        have c1b : ((b.length : Int) == wrap64 (n - 1)) = false := beq_eq_false_iff_ne.2 c1
        have HH := Aside0.mk h
        clear h c1
        go_enter Tryz.func65, Tryz.ntmps65
        go_wp2
        go_loopg [24] k1 (fun kq v24 wr => ∃ x : Int, v24 = .int .i64 x ∧ Aside0 (eachW.l kq n t b s x = some r) ∧ Aside0 (kq ≤ k1) ∧ Aside0 (FSt bv bo n T ct t w0 wr #[.int .i64 q0, v0]) ∧ Aside0 (Kept w wr (fun z => z = bo)))
        case atStart => exact ⟨0, rfl, HH, ⟨Nat.le_refl _⟩, HS, ⟨Kept.refl _ _⟩⟩
        case round =>
          clear HH HS
          obtain ⟨x, rfl, HA, HKq, HS, HK⟩ := hrel
          cases gk with
          | zero => exact absurd HA.out (by simp [eachW.l])
          | succ k2 =>
            have h := HA.out
            clear HA
            rw [eachW.l] at h
            by_cases c1 : x < wrap64 (s + 1)
            · rw [if_pos c1] at h
              have c1b2 := decide_eq_true c1
              by_cases c2 : b.length < 17592186044416
              case neg => rw [if_neg c2] at h; cases h
              rw [if_pos c2] at h
              replace h := Option.bind_eq_some_iff.mp h
              obtain ⟨r1, hr1, h⟩ := h
              have H1 := Aside0.mk hr1
              have L2 := Aside0.mk c2
              have HX := Aside0.mk h
              have HBr := Aside0.mk (Below.refl wr.heap.size wr)
              have hbr : bo < wr.heap.size := blk_lt HS.out.O
              clear hr1 c1 c2 h
              have hcall := fun (A2 : Option Addr) (c2 : Nat) (W : World) (hb : Below wr.heap.size wr W) (hO : Kd.R (Kd.int .i64) 3 W wr.heap.size (fun _ => True) (.slice A2 (b ++ [x]).length c2) (b ++ [x])) => IH.out k2 (by have := HKq.out; omega) A2 c2 (b ++ [x]) (wrap64 (s - x)) r1 W (Kd.R_reads' hO).2.1 (HS.out.below hb) (fun W' hk => Kd.C_kept_own (Kd.R_mono (Kd.R_bound hO) (ok' := fun z => wr.heap.size ≤ z) (fun z hz => hz.2.1)) (fun z hz he => absurd hbr (by omega)) W' hk) H1.out
              have HCL := Aside0.mk hcall
              clear hcall
              cases r1 with
              | none =>
                go_wp2_with (first
                  | (go_at_call 108; refine (slices_Clone_int_int.calls A c b b _ (HC.out _ HK.out) hbc (if_pos L2.out)).mono ?_; rintro e w1 ⟨v, rfl, hR, hb⟩; have HO1 := Aside0.mk hR; have HB1 := Aside0.mk hb; clear hR hb)
                  | ((with_reducible refine gate_builtin (b := .append) (xs := #[.tmp 28, .tmp 30]) rfl ?_); at_builtin; refine Kd.R_append (Kd.int .i64) (w0 := wr) wr.heap.size rfl (.tmp 28) (.tmp 30) 65 3 (.int .i64 0) 8 rfl Tryz.underlying65 info3 rfl (by decide) (by omega) v b x [.int .i64 x] (fun _ => True) (fun _ => False) rfl rfl ?aP (fun _ hk => hk.elim) ?aF ?aO ?aB ?aS ?aL ?_; (case aP => exact rfl); (case aB => exact HB1.out); (case aF => exact (fun _ _ => trivial)); (case aO => exact HO1.out); (case aS => exact HB1.out.size); (case aL => have := L2.out; omega); intro v2 w2 ho hb hg hat; obtain ⟨A2, c2, rfl⟩ := Kd.R_slice ho; have HO2 := Aside0.mk ho; have HB2 := Aside0.mk hb; clear ho hb hg hat HO1 HB1)
                  | (go_at_call 65; have hq := HCL.out A2 c2 _ HB2.out HO2.out; rw [List.length_append, List.length_singleton] at hq; refine hq.mono ?_; clear hq; rintro e w3 ⟨rfl, hK3, hS3⟩; have HS3 := Aside0.mk hS3; have HK3 := Aside0.mk ((HK.out.below HB2.out).then_ hK3 (fun z hz => .inl hz)); clear hS3 hK3))
                go_roundg k2
                case measure => have := HKq.out; omega
                case rel => exact ⟨wrap64 (x + 1), by first | rfl | (simp; done) | (simp [*]; done), HX, zO HKq, HS3, HK3⟩
              | some q =>
                have hx := HX.out
                obtain rfl := Option.some.inj hx
                clear hx HX
                go_wp2_with (first
                  | (go_at_call 108; refine (slices_Clone_int_int.calls A c b b _ (HC.out _ HK.out) hbc (if_pos L2.out)).mono ?_; rintro e w1 ⟨v, rfl, hR, hb⟩; have HO1 := Aside0.mk hR; have HB1 := Aside0.mk hb; clear hR hb)
                  | ((with_reducible refine gate_builtin (b := .append) (xs := #[.tmp 28, .tmp 30]) rfl ?_); at_builtin; refine Kd.R_append (Kd.int .i64) (w0 := wr) wr.heap.size rfl (.tmp 28) (.tmp 30) 65 3 (.int .i64 0) 8 rfl Tryz.underlying65 info3 rfl (by decide) (by omega) v b x [.int .i64 x] (fun _ => True) (fun _ => False) rfl rfl ?aP (fun _ hk => hk.elim) ?aF ?aO ?aB ?aS ?aL ?_; (case aP => exact rfl); (case aB => exact HB1.out); (case aF => exact (fun _ _ => trivial)); (case aO => exact HO1.out); (case aS => exact HB1.out.size); (case aL => have := L2.out; omega); intro v2 w2 ho hb hg hat; obtain ⟨A2, c2, rfl⟩ := Kd.R_slice ho; have HO2 := Aside0.mk ho; have HB2 := Aside0.mk hb; clear ho hb hg hat HO1 HB1)
                  | (go_at_call 65; have hq := HCL.out A2 c2 _ HB2.out HO2.out; rw [List.length_append, List.length_singleton] at hq; refine hq.mono ?_; clear hq; rintro e w3 ⟨rfl, hK3, hS3⟩; have HS3 := Aside0.mk hS3; have HK3 := Aside0.mk ((HK.out.below HB2.out).then_ hK3 (fun z hz => .inl hz)); clear hS3 hK3))
                go_ret
                obtain ⟨v3, h3, h4⟩ := HS3.out
                exact ⟨rfl, HK3.out, v3, h3, Kd.R_mono h4 (fun z hz => Nat.le_trans HK.out.1 (Nat.le_trans HB2.out.size hz))⟩
            · rw [if_neg c1] at h
              have c1b2 := decide_eq_false c1
              obtain rfl := Option.some.inj h
              clear h c1
              go_wp2
              go_ret
              exact ⟨rfl, HK.out, HS.out⟩
def fnd.l : Nat → Int → List Bool → Int → List Int → Int → Option (Int × List Int)
  | 0, _, _, _, _, _ => none
  | k + 1, n, t, q, v, s => if q = 0 then (eachW.f k n t [] s).bind fun r => (match r with
    | some p => fnd.l k n t p.1 p.2 (wrap64 (s + 1))
    | none => fnd.l k n t q v (wrap64 (s + 1))) else some (q, v)
def impl_votes_found.f (k : Nat) (n : Int) (t : List Bool) : Option (Int × List Int × Bool) := (impl_votes_firstTrade.f k n t).bind fun p => if p.2.2 = true then some (0, [], false) else (fnd.l k n t 0 [] 1).bind fun q => some (q.1, q.2, true)
set_option maxHeartbeats 8000000 in
set_option maxRecDepth 100000 in
theorem impl_votes_found.calls (k : Nat) (a0_0 : Int) (A0_1 : Option Addr) (c0_1 : Nat) (l0_1 : List Bool) (r1 : Int) (r2 : List Int) (r3 : Bool) (w : World) (hr0_1 : Kd.C Kd.bool w A0_1 l0_1.length l0_1) (hc0_1 : l0_1.length ≤ c0_1) (h : impl_votes_found.f k a0_0 l0_1 = some (r1, r2, r3)) :
    Calls Tryz.prog 35 #[.agg #[.int .i64 a0_0, .slice A0_1 l0_1.length c0_1]] w fun e w' => ∃ v1_ : Value, e = .returned (.tuple #[.agg #[.int .i64 r1, v1_], .bool r3]) ∧ Kd.R (Kd.int .i64) 3 w' w.heap.size (fun _ => True) v1_ r2 ∧ Below w.heap.size w w' := by
  have HR := Aside0.mk hr0_1
  have HC := Aside0.mk hc0_1
  have HB := Aside0.mk (Below.refl w.heap.size w)
  have hu1 := Tryz.underlying67
  have hu2 := Tryz.underlying61
  have hu3 := Tryz.underlying86
  rw [impl_votes_found.f] at h
  replace h := Option.bind_eq_some_iff.mp h
  obtain ⟨⟨p1, p2, p3⟩, hp, h⟩ := h
  have HP := Aside0.mk hp
  clear hr0_1 hc0_1 hp
  cases p3 with
  | true =>
    rw [if_pos rfl] at h
    obtain ⟨rfl, rfl, rfl⟩ : 0 = r1 ∧ [] = r2 ∧ false = r3 := by simpa using h
    clear h
    go_enter Tryz.func35, Tryz.ntmps35
    go_wp2_with (first
      | ((with_reducible refine gate_dst (N := 1) rfl ?_); refine box_event ?hg (N := 1) ?hd (cs := #[.int .i64 a0_0, .slice A0_1 l0_1.length c0_1]) (t := 61) ?hr ?_; (case hd => rfl); (case hg => rfl); (case hr => first | (go_simp; done) | (go_simp; rfl)); intro g1 hg w1 hbox hb; have B1 := Aside0.mk (below_step HB.out hb); have K1 := Aside0.mk hbox; clear hb hbox hg HB)
      | ((with_reducible refine gate_dst (N := 2) rfl ?_); refine box_event ?hg (N := 2) ?hd (cs := #[.int .i64 0, .slice none 0 0]) (t := 67) ?hr ?_; (case hd => rfl); (case hg => rfl); (case hr => first | (go_simp; done) | (go_simp; rfl)); intro g2 hg w2 hbox hb; have GE2 := Aside0.mk ((by rw [hg]; exact below_size B1.out) : w.heap.size ≤ g2); have K1' := Aside0.mk (blk_below K1.out hb); have B2 := Aside0.mk (below_step B1.out hb); have K2 := Aside0.mk hbox; clear K1 B1 hb hbox hg; have q10 : w2.cell? ⟨g1, 0, none⟩ = some (.int .i64 a0_0) := (blk_cell K1'.out 0).trans rfl; have q11 : w2.cell? ⟨g1, 1, none⟩ = some (.slice A0_1 l0_1.length c0_1) := (blk_cell K1'.out 1).trans rfl)
      | (go_at_call 59; refine (impl_votes_firstTrade.calls k a0_0 A0_1 c0_1 l0_1 p1 p2 true _ (Kd.C_below HR.out B2.out) HC.out HP.out).mono ?_; rintro e w3 ⟨v0, v1, rfl, ow, hz0, hz1, hb⟩; obtain ⟨Az0, cz0, rfl⟩ := Kd.S_slice hz0; obtain ⟨Az1, cz1, rfl⟩ := Kd.S_slice hz1; clear hz0 hz1 ow; have K3 := Aside0.mk (blk_below K2.out hb); have B3 := Aside0.mk (below_step B2.out hb); clear K1' K2 B2 q10 q11; have K3' := Aside0.mk (blk_alloc K3.out (.cells #[.slice Az0 p1.length cz0, .slice Az1 p2.length cz1] 86 (0, 0))); have q20 := (blk_cell K3'.out 0).trans rfl; have q21 := (blk_cell K3'.out 1).trans rfl; have f20 := blk_frozen K3'.out 0; have f21 := blk_frozen K3'.out 1; clear hb))
    refine bodyPost_ret (results_ct rfl _ _ g2 67 #[.int .i64 0, .slice none 0 0] (0, 0) _ rfl (by refine blk_put (cs := #[.int .i64 0, .slice none 0 0]) ?_ 1 _ rfl; refine blk_put (cs := #[.int .i64 0, .slice none 0 0]) ?_ 0 _ rfl; exact K3'.out) Tryz.underlying67 rfl (by kernel_rfl)) rfl ?_
    exact ⟨_, rfl, Kd.R_nil _ _ _ _ _, below_set (below_set (below_alloc B3.out _) GE2.out) GE2.out⟩
  | false =>
    rw [if_neg (by simp)] at h
    replace h := Option.bind_eq_some_iff.mp h
    obtain ⟨⟨q1, q2⟩, hq, h⟩ := h
    obtain ⟨rfl, rfl, rfl⟩ : q1 = r1 ∧ q2 = r2 ∧ true = r3 := by simpa using h
    have HQ := Aside0.mk hq
    clear h hq
    go_enter Tryz.func35, Tryz.ntmps35
    go_wp2_with (first
      | ((with_reducible refine gate_dst (N := 1) rfl ?_); refine box_event ?hg (N := 1) ?hd (cs := #[.int .i64 a0_0, .slice A0_1 l0_1.length c0_1]) (t := 61) ?hr ?_; (case hd => rfl); (case hg => rfl); (case hr => first | (go_simp; done) | (go_simp; rfl)); intro g1 hg w1 hbox hb; have B1 := Aside0.mk (below_step HB.out hb); have K1 := Aside0.mk hbox; clear hb hbox hg HB)
      | ((with_reducible refine gate_dst (N := 2) rfl ?_); refine box_event ?hg (N := 2) ?hd (cs := #[.int .i64 0, .slice none 0 0]) (t := 67) ?hr ?_; (case hd => rfl); (case hg => rfl); (case hr => first | (go_simp; done) | (go_simp; rfl)); intro g2 hg w2 hbox hb; have GE2 := Aside0.mk ((by rw [hg]; exact below_size B1.out) : w.heap.size ≤ g2); have K1' := Aside0.mk (blk_below K1.out hb); have B2 := Aside0.mk (below_step B1.out hb); have K2 := Aside0.mk hbox; clear K1 B1 hb hbox hg; have q10 : w2.cell? ⟨g1, 0, none⟩ = some (.int .i64 a0_0) := (blk_cell K1'.out 0).trans rfl; have q11 : w2.cell? ⟨g1, 1, none⟩ = some (.slice A0_1 l0_1.length c0_1) := (blk_cell K1'.out 1).trans rfl)
      | (go_at_call 59; refine (impl_votes_firstTrade.calls k a0_0 A0_1 c0_1 l0_1 p1 p2 false _ (Kd.C_below HR.out B2.out) HC.out HP.out).mono ?_; rintro e w3 ⟨v0, v1, rfl, ow, hz0, hz1, hb⟩; obtain ⟨Az0, cz0, rfl⟩ := Kd.S_slice hz0; obtain ⟨Az1, cz1, rfl⟩ := Kd.S_slice hz1; clear hz0 hz1 ow; have K1 := Aside0.mk (blk_below K1'.out hb); have K3 := Aside0.mk (blk_below K2.out hb); have B3 := Aside0.mk (below_step B2.out hb); clear K1' K2 B2 q10 q11; clear hb))
    obtain ⟨g6, hg6⟩ : ∃ g6, g6 = w3.heap.size + 1 := ⟨_, rfl⟩
    rw [← hg6]
    have K16 := Aside0.mk (blk_alloc (blk_alloc K1.out (.cells #[.slice Az0 p1.length cz0, .slice Az1 p2.length cz1] 86 (0, 0))) (.cells #[.int .i64 0, .slice none 0 0] 67 (0, 0)))
    have K26 := Aside0.mk (blk_alloc (blk_alloc K3.out (.cells #[.slice Az0 p1.length cz0, .slice Az1 p2.length cz1] 86 (0, 0))) (.cells #[.int .i64 0, .slice none 0 0] 67 (0, 0)))
    have K6 := Aside0.mk (by rw [hg6]; have hs : (w3.alloc (.cells #[.slice Az0 p1.length cz0, .slice Az1 p2.length cz1] 86 (0, 0))).heap.size = w3.heap.size + 1 := by simp
                             rw [← hs]; exact blk_new _ _ : ((w3.alloc (.cells #[.slice Az0 p1.length cz0, .slice Az1 p2.length cz1] 86 (0, 0))).alloc (.cells #[.int .i64 0, .slice none 0 0] 67 (0, 0))).heap[g6]? = some (.cells #[.int .i64 0, .slice none 0 0] 67 (0, 0)))
    have B6 := Aside0.mk (below_alloc (below_alloc B3.out (.cells #[.slice Az0 p1.length cz0, .slice Az1 p2.length cz1] 86 (0, 0))) (.cells #[.int .i64 0, .slice none 0 0] 67 (0, 0)))
    have GE6 := Aside0.mk (by have := below_size B3.out; omega : w.heap.size ≤ g6)
    have NE16 := Aside0.mk (by have := blk_lt K1.out; omega : g1 ≠ g6)
    have NE26 := Aside0.mk (by have := blk_lt K3.out; omega : g2 ≠ g6)
    clear K1 K3 B3 hg6
    go_loopg [7] k (fun kq v7 wr => ∃ (s q : Int) (v : List Int) (vv : Value), v7 = .int .i64 s ∧ Aside0 (fnd.l kq a0_0 l0_1 q v s = some (q1, q2)) ∧ Aside0 (kq ≤ k) ∧ Aside0 (FSt g1 g6 a0_0 A0_1 c0_1 l0_1 w wr #[.int .i64 q, vv]) ∧ Aside0 (Kd.R (Kd.int .i64) 3 wr w.heap.size (fun z => z ≠ g2 ∧ z ≠ g6) vv v) ∧ Aside0 (wr.heap[g2]? = some (.cells #[.int .i64 0, .slice none 0 0] 67 (0, 0))))
    case atStart =>
      exact ⟨1, 0, [], .slice none 0 0, rfl, HQ, ⟨Nat.le_refl _⟩, ⟨⟨K16.out, K6.out, B6.out⟩⟩, ⟨Kd.R_nil _ _ _ _ _⟩, K26⟩
    case round =>
      clear HQ K16 K26 B6 K6
      obtain ⟨s, q, v, vv, rfl, HA, HKq, HS, HV, HG⟩ := hrel
      cases gk with
      | zero => exact absurd HA.out (by simp [fnd.l])
      | succ k2 =>
        have h := HA.out
        clear HA
        rw [fnd.l] at h
        have q60 : wr.cell? ⟨g6, 0, none⟩ = some (.int .i64 q) := (blk_cell HS.out.O 0).trans rfl
        by_cases c1 : q = 0
        · rw [if_pos c1] at h
          have c1b : (q == 0) = true := beq_iff_eq.2 c1
          replace h := Option.bind_eq_some_iff.mp h
          obtain ⟨r, hr, h⟩ := h
          have HX := Aside0.mk h
          have hq := eachW.calls a0_0 A0_1 c0_1 l0_1 HC.out g1 g6 NE16.out w HR.out GE6.out q vv k2 none 0 [] s r wr (Nat.le_refl _) HS.out (fun W _ => Kd.C_nil _ _) hr
          rw [List.length_nil] at hq
          have HE := Aside0.mk hq
          have q10 : wr.cell? ⟨g1, 0, none⟩ = some (.int .i64 a0_0) := (blk_cell HS.out.V 0).trans rfl
          clear hr h c1 hq
          go_wp2_with (go_at_call 65; refine HE.out.mono ?_; rintro e w7 ⟨rfl, hK, hS⟩; have HS7 := Aside0.mk hS; have HK7 := Aside0.mk hK; clear hS hK q60 q10)
          go_roundg k2
          case measure => have := HKq.out; omega
          case rel =>
            have hx := HX.out
            have hs := HS7.out
            have hg := blk_kept HG.out HK7.out (fun e => NE26.out e)
            cases r with
            | none => exact ⟨wrap64 (s + 1), q, v, vv, by first | rfl | (simp; done) | (simp [*]; done), ⟨hx⟩, ⟨by have := HKq.out; omega⟩, ⟨hs⟩, ⟨Kd.R_kept HV.out HK7.out (fun z hz he => hz.2 he)⟩, ⟨hg⟩⟩
            | some p =>
              obtain ⟨v3, h3, h4⟩ := hs
              have l2 := blk_lt HG.out
              have l6 := blk_lt HS.out.O
              exact ⟨wrap64 (s + 1), p.1, p.2, v3, by first | rfl | (simp; done) | (simp [*]; done), ⟨hx⟩, ⟨by have := HKq.out; omega⟩, ⟨h3⟩, ⟨Kd.R_mono h4 (fun z hz => ⟨by omega, by omega⟩)⟩, ⟨hg⟩⟩
        · rw [if_neg c1] at h
          have c1b : (q == 0) = false := beq_eq_false_iff_ne.2 c1
          obtain ⟨rfl, rfl⟩ : q = q1 ∧ v = q2 := by simpa using h
          clear h c1
          obtain ⟨Av, cv, rfl⟩ := Kd.R_slice HV.out
          have q61 : wr.cell? ⟨g6, 1, none⟩ = some (.slice Av v.length cv) := (blk_cell HS.out.O 1).trans rfl
          have q20 : wr.cell? ⟨g2, 0, none⟩ = some (.int .i64 0) := (blk_cell HG.out 0).trans rfl
          have q21 : wr.cell? ⟨g2, 1, none⟩ = some (.slice none 0 0) := (blk_cell HG.out 1).trans rfl
          have f20 := blk_frozen HG.out 0
          have f21 := blk_frozen HG.out 1
          go_wp2
          refine bodyPost_ret (results_ct rfl _ _ g2 67 #[.int .i64 q, .slice Av v.length cv] (0, 0) _ rfl (by refine blk_put (cs := #[.int .i64 q, .slice none 0 0]) ?_ 1 _ rfl; refine blk_put (cs := #[.int .i64 0, .slice none 0 0]) ?_ 0 _ rfl; exact HG.out) Tryz.underlying67 rfl (by kernel_rfl)) rfl ?_
          exact ⟨_, rfl, Kd.R_mono (Kd.R_far (p := ⟨g2, 1, none⟩) (Kd.R_far (p := ⟨g2, 0, none⟩) HV.out (fun _ hk => hk.1) _) (fun _ hk => hk.1) _) (fun _ _ => trivial), below_set (below_set HS.out.B GE2.out) GE2.out⟩
end Go.Proofs.YtmbkmabpebjboaaGreat.Q
end

/- The row of the law FnExactIsLeastCommittee: for every input it returns true, and its arguments read afterwards as before. No condition: FnExactIsLeastCommittee_pure says that its pure form answers true at every input, and laws_FnExactIsLeastCommittee.calls that the machine comes to just that. -/
import Derived.Test.YtlhkphehlocdcaaKFnExactIsLeastCommittee4
import Derived.Test.YtlhkphehlocdcaaRows
import Derived.Laws.StructEq
import Derived.ProofKit
import Derived.OpenShut
import Derived.ShutString
import Derived.ChangeOld
import Derived.SizedLaws
import Derived.Deep.Slices
import Derived.Deep.Strs
section
namespace Go.Proofs.Ytlhkphehlocdcaa.Q
open Go.RowKit Go.Proofs.YtlhkphehlocdcaaW.PrintWords Go.Proofs.YtlhkphehlocdcaaW.PrintLast Go.Proofs.YtlhkphehlocdcaaW.PrintMore
set_option linter.unusedVariables false
set_option linter.unusedSimpArgs false
def fnd.l : Nat → Int → List Bool → Int → List Int → Int → Option (Int × List Int)
  | 0, _, _, _, _, _ => none
  | k + 1, n, t, q, v, s => if q = 0 then (eachW.f k n t [] s).bind fun r => (match r with
    | some p => fnd.l k n t p.1 p.2 (wrap64 (s + 1))
    | none => fnd.l k n t q v (wrap64 (s + 1))) else some (q, v)
def impl_votes_found.f (k : Nat) (n : Int) (t : List Bool) : Option (Int × List Int × Bool) := (impl_votes_firstTrade.f k n t).bind fun p => if p.2.2 = true then some (0, [], false) else (fnd.l k n t 0 [] 1).bind fun q => some (q.1, q.2, true)
set_option maxHeartbeats 8000000 in
set_option maxRecDepth 100000 in
theorem impl_votes_found.calls (k : Nat) (a0_0 : Int) (A0_1 : Option Addr) (c0_1 : Nat) (l0_1 : List Bool) (r1 : Int) (r2 : List Int) (r3 : Bool) (w : World) (hr0_1 : Kd.C Kd.bool w A0_1 l0_1.length l0_1) (hc0_1 : l0_1.length ≤ c0_1) (h : impl_votes_found.f k a0_0 l0_1 = some (r1, r2, r3)) :
    Calls Try.prog 31 #[.agg #[.int .i64 a0_0, .slice A0_1 l0_1.length c0_1]] w fun e w' => ∃ v1_ : Value, e = .returned (.tuple #[.agg #[.int .i64 r1, v1_], .bool r3]) ∧ Kd.R (Kd.int .i64) 3 w' w.heap.size (fun _ => True) v1_ r2 ∧ Below w.heap.size w w' := by
  have HR := Aside0.mk hr0_1
  have HC := Aside0.mk hc0_1
  have HB := Aside0.mk (Below.refl w.heap.size w)
  have hu1 := Try.underlying26
  have hu2 := Try.underlying53
  have hu3 := Try.underlying75
  rw [impl_votes_found.f] at h
  replace h := Option.bind_eq_some_iff.mp h
  obtain ⟨⟨p1, p2, p3⟩, hp, h⟩ := h
  have HP := Aside0.mk hp
  clear hr0_1 hc0_1 hp
  cases p3 with
  | true =>
    rw [if_pos rfl] at h
    obtain ⟨rfl, rfl, rfl⟩ : 0 = r1 ∧ [] = r2 ∧ false = r3 := by simpa using h
    clear h
    go_enter Try.func31, Try.ntmps31
    go_wp2_with (first
      | ((with_reducible refine gate_dst (N := 1) rfl ?_); refine box_event ?hg (N := 1) ?hd (cs := #[.int .i64 a0_0, .slice A0_1 l0_1.length c0_1]) (t := 53) ?hr ?_; (case hd => rfl); (case hg => rfl); (case hr => first | (go_simp; done) | (go_simp; rfl)); intro g1 hg w1 hbox hb; have B1 := Aside0.mk (below_step HB.out hb); have K1 := Aside0.mk hbox; clear hb hbox hg HB)
      | ((with_reducible refine gate_dst (N := 2) rfl ?_); refine box_event ?hg (N := 2) ?hd (cs := #[.int .i64 0, .slice none 0 0]) (t := 26) ?hr ?_; (case hd => rfl); (case hg => rfl); (case hr => first | (go_simp; done) | (go_simp; rfl)); intro g2 hg w2 hbox hb; have GE2 := Aside0.mk ((by rw [hg]; exact below_size B1.out) : w.heap.size ≤ g2); have K1' := Aside0.mk (blk_below K1.out hb); have B2 := Aside0.mk (below_step B1.out hb); have K2 := Aside0.mk hbox; clear K1 B1 hb hbox hg; have q10 : w2.cell? ⟨g1, 0, none⟩ = some (.int .i64 a0_0) := (blk_cell K1'.out 0).trans rfl; have q11 : w2.cell? ⟨g1, 1, none⟩ = some (.slice A0_1 l0_1.length c0_1) := (blk_cell K1'.out 1).trans rfl)
      | (go_at_call 58; refine (impl_votes_firstTrade.calls k a0_0 A0_1 c0_1 l0_1 p1 p2 true _ (Kd.C_below HR.out B2.out) HC.out HP.out).mono ?_; rintro e w3 ⟨v0, v1, rfl, ow, hz0, hz1, hb⟩; obtain ⟨Az0, cz0, rfl⟩ := Kd.S_slice hz0; obtain ⟨Az1, cz1, rfl⟩ := Kd.S_slice hz1; clear hz0 hz1 ow; have K3 := Aside0.mk (blk_below K2.out hb); have B3 := Aside0.mk (below_step B2.out hb); clear K1' K2 B2 q10 q11; have K3' := Aside0.mk (blk_alloc K3.out (.cells #[.slice Az0 p1.length cz0, .slice Az1 p2.length cz1] 75 (0, 0))); have q20 := (blk_cell K3'.out 0).trans rfl; have q21 := (blk_cell K3'.out 1).trans rfl; have f20 := blk_frozen K3'.out 0; have f21 := blk_frozen K3'.out 1; clear hb))
    refine bodyPost_ret (results_ct rfl _ _ g2 26 #[.int .i64 0, .slice none 0 0] (0, 0) _ rfl (by refine blk_put (cs := #[.int .i64 0, .slice none 0 0]) ?_ 1 _ rfl; refine blk_put (cs := #[.int .i64 0, .slice none 0 0]) ?_ 0 _ rfl; exact K3'.out) Try.underlying26 rfl (by kernel_rfl)) rfl ?_
    exact ⟨_, rfl, Kd.R_nil _ _ _ _ _, below_set (below_set (below_alloc B3.out _) GE2.out) GE2.out⟩
  | false =>
    rw [if_neg (by simp)] at h
    replace h := Option.bind_eq_some_iff.mp h
    obtain ⟨⟨q1, q2⟩, hq, h⟩ := h
    obtain ⟨rfl, rfl, rfl⟩ : q1 = r1 ∧ q2 = r2 ∧ true = r3 := by simpa using h
    have HQ := Aside0.mk hq
    clear h hq
    go_enter Try.func31, Try.ntmps31
    go_wp2_with (first
      | ((with_reducible refine gate_dst (N := 1) rfl ?_); refine box_event ?hg (N := 1) ?hd (cs := #[.int .i64 a0_0, .slice A0_1 l0_1.length c0_1]) (t := 53) ?hr ?_; (case hd => rfl); (case hg => rfl); (case hr => first | (go_simp; done) | (go_simp; rfl)); intro g1 hg w1 hbox hb; have B1 := Aside0.mk (below_step HB.out hb); have K1 := Aside0.mk hbox; clear hb hbox hg HB)
      | ((with_reducible refine gate_dst (N := 2) rfl ?_); refine box_event ?hg (N := 2) ?hd (cs := #[.int .i64 0, .slice none 0 0]) (t := 26) ?hr ?_; (case hd => rfl); (case hg => rfl); (case hr => first | (go_simp; done) | (go_simp; rfl)); intro g2 hg w2 hbox hb; have GE2 := Aside0.mk ((by rw [hg]; exact below_size B1.out) : w.heap.size ≤ g2); have K1' := Aside0.mk (blk_below K1.out hb); have B2 := Aside0.mk (below_step B1.out hb); have K2 := Aside0.mk hbox; clear K1 B1 hb hbox hg; have q10 : w2.cell? ⟨g1, 0, none⟩ = some (.int .i64 a0_0) := (blk_cell K1'.out 0).trans rfl; have q11 : w2.cell? ⟨g1, 1, none⟩ = some (.slice A0_1 l0_1.length c0_1) := (blk_cell K1'.out 1).trans rfl)
      | (go_at_call 58; refine (impl_votes_firstTrade.calls k a0_0 A0_1 c0_1 l0_1 p1 p2 false _ (Kd.C_below HR.out B2.out) HC.out HP.out).mono ?_; rintro e w3 ⟨v0, v1, rfl, ow, hz0, hz1, hb⟩; obtain ⟨Az0, cz0, rfl⟩ := Kd.S_slice hz0; obtain ⟨Az1, cz1, rfl⟩ := Kd.S_slice hz1; clear hz0 hz1 ow; have K1 := Aside0.mk (blk_below K1'.out hb); have K3 := Aside0.mk (blk_below K2.out hb); have B3 := Aside0.mk (below_step B2.out hb); clear K1' K2 B2 q10 q11; clear hb))
    obtain ⟨g6, hg6⟩ : ∃ g6, g6 = w3.heap.size + 1 := ⟨_, rfl⟩
    rw [← hg6]
    have K16 := Aside0.mk (blk_alloc (blk_alloc K1.out (.cells #[.slice Az0 p1.length cz0, .slice Az1 p2.length cz1] 75 (0, 0))) (.cells #[.int .i64 0, .slice none 0 0] 26 (0, 0)))
    have K26 := Aside0.mk (blk_alloc (blk_alloc K3.out (.cells #[.slice Az0 p1.length cz0, .slice Az1 p2.length cz1] 75 (0, 0))) (.cells #[.int .i64 0, .slice none 0 0] 26 (0, 0)))
    have K6 := Aside0.mk (by rw [hg6]; have hs : (w3.alloc (.cells #[.slice Az0 p1.length cz0, .slice Az1 p2.length cz1] 75 (0, 0))).heap.size = w3.heap.size + 1 := by simp
                             rw [← hs]; exact blk_new _ _ : ((w3.alloc (.cells #[.slice Az0 p1.length cz0, .slice Az1 p2.length cz1] 75 (0, 0))).alloc (.cells #[.int .i64 0, .slice none 0 0] 26 (0, 0))).heap[g6]? = some (.cells #[.int .i64 0, .slice none 0 0] 26 (0, 0)))
    have B6 := Aside0.mk (below_alloc (below_alloc B3.out (.cells #[.slice Az0 p1.length cz0, .slice Az1 p2.length cz1] 75 (0, 0))) (.cells #[.int .i64 0, .slice none 0 0] 26 (0, 0)))
    have GE6 := Aside0.mk (by have := below_size B3.out; omega : w.heap.size ≤ g6)
    have NE16 := Aside0.mk (by have := blk_lt K1.out; omega : g1 ≠ g6)
    have NE26 := Aside0.mk (by have := blk_lt K3.out; omega : g2 ≠ g6)
    clear K1 K3 B3 hg6
    go_loopg [7] k (fun kq v7 wr => ∃ (s q : Int) (v : List Int) (vv : Value), v7 = .int .i64 s ∧ Aside0 (fnd.l kq a0_0 l0_1 q v s = some (q1, q2)) ∧ Aside0 (kq ≤ k) ∧ Aside0 (FSt g1 g6 a0_0 A0_1 c0_1 l0_1 w wr #[.int .i64 q, vv]) ∧ Aside0 (Kd.R (Kd.int .i64) 3 wr w.heap.size (fun z => z ≠ g2 ∧ z ≠ g6) vv v) ∧ Aside0 (wr.heap[g2]? = some (.cells #[.int .i64 0, .slice none 0 0] 26 (0, 0))))
    case atStart =>
      exact ⟨1, 0, [], .slice none 0 0, rfl, HQ, ⟨Nat.le_refl _⟩, ⟨⟨K16.out, K6.out, B6.out⟩⟩, ⟨Kd.R_nil _ _ _ _ _⟩, K26⟩
    case round =>
      clear HQ K16 K26 B6 K6
      obtain ⟨s, q, v, vv, rfl, HA, HKq, HS, HV, HG⟩ := hrel
      cases gk with
      | zero => exact absurd HA.out (by simp [fnd.l])
      | succ k2 =>
        have h := HA.out
        clear HA
        rw [fnd.l] at h
        have q60 : wr.cell? ⟨g6, 0, none⟩ = some (.int .i64 q) := (blk_cell HS.out.O 0).trans rfl
        by_cases c1 : q = 0
        · rw [if_pos c1] at h
          have c1b : (q == 0) = true := beq_iff_eq.2 c1
          replace h := Option.bind_eq_some_iff.mp h
          obtain ⟨r, hr, h⟩ := h
          have HX := Aside0.mk h
          have hq := eachW.calls a0_0 A0_1 c0_1 l0_1 HC.out g1 g6 NE16.out w HR.out GE6.out q vv k2 none 0 [] s r wr (Nat.le_refl _) HS.out (fun W _ => Kd.C_nil _ _) hr
          rw [List.length_nil] at hq
          have HE := Aside0.mk hq
          have q10 : wr.cell? ⟨g1, 0, none⟩ = some (.int .i64 a0_0) := (blk_cell HS.out.V 0).trans rfl
          clear hr h c1 hq
          go_wp2_with (go_at_call 59; refine HE.out.mono ?_; rintro e w7 ⟨rfl, hK, hS⟩; have HS7 := Aside0.mk hS; have HK7 := Aside0.mk hK; clear hS hK q60 q10)
          go_roundg k2
          case measure => have := HKq.out; omega
          case rel =>
            have hx := HX.out
            have hs := HS7.out
            have hg := blk_kept HG.out HK7.out (fun e => NE26.out e)
            cases r with
            | none => exact ⟨wrap64 (s + 1), q, v, vv, by first | rfl | (simp; done) | (simp [*]; done), ⟨hx⟩, ⟨by have := HKq.out; omega⟩, ⟨hs⟩, ⟨Kd.R_kept HV.out HK7.out (fun z hz he => hz.2 he)⟩, ⟨hg⟩⟩
            | some p =>
              obtain ⟨v3, h3, h4⟩ := hs
              have l2 := blk_lt HG.out
              have l6 := blk_lt HS.out.O
              exact ⟨wrap64 (s + 1), p.1, p.2, v3, by first | rfl | (simp; done) | (simp [*]; done), ⟨hx⟩, ⟨by have := HKq.out; omega⟩, ⟨h3⟩, ⟨Kd.R_mono h4 (fun z hz => ⟨by omega, by omega⟩)⟩, ⟨hg⟩⟩
        · rw [if_neg c1] at h
          have c1b : (q == 0) = false := beq_eq_false_iff_ne.2 c1
          obtain ⟨rfl, rfl⟩ : q = q1 ∧ v = q2 := by simpa using h
          clear h c1
          obtain ⟨Av, cv, rfl⟩ := Kd.R_slice HV.out
          have q61 : wr.cell? ⟨g6, 1, none⟩ = some (.slice Av v.length cv) := (blk_cell HS.out.O 1).trans rfl
          have q20 : wr.cell? ⟨g2, 0, none⟩ = some (.int .i64 0) := (blk_cell HG.out 0).trans rfl
          have q21 : wr.cell? ⟨g2, 1, none⟩ = some (.slice none 0 0) := (blk_cell HG.out 1).trans rfl
          have f20 := blk_frozen HG.out 0
          have f21 := blk_frozen HG.out 1
          go_wp2
          refine bodyPost_ret (results_ct rfl _ _ g2 26 #[.int .i64 q, .slice Av v.length cv] (0, 0) _ rfl (by refine blk_put (cs := #[.int .i64 q, .slice none 0 0]) ?_ 1 _ rfl; refine blk_put (cs := #[.int .i64 0, .slice none 0 0]) ?_ 0 _ rfl; exact HG.out) Try.underlying26 rfl (by kernel_rfl)) rfl ?_
          exact ⟨_, rfl, Kd.R_mono (Kd.R_far (p := ⟨g2, 1, none⟩) (Kd.R_far (p := ⟨g2, 0, none⟩) HV.out (fun _ hk => hk.1) _) (fun _ hk => hk.1) _) (fun _ _ => trivial), below_set (below_set HS.out.B GE2.out) GE2.out⟩
end Go.Proofs.Ytlhkphehlocdcaa.Q
end
section
namespace Go.Proofs.Ytlhkphehlocdcaa.Q
open Go.RowKit Go.Proofs.YtlhkphehlocdcaaW.PrintWords Go.Proofs.YtlhkphehlocdcaaW.PrintLast Go.Proofs.YtlhkphehlocdcaaW.PrintMore
attribute [local go_sem] max2_int min2_int max_two min_two max_three min_three max_four min_four
set_option linter.unusedVariables false
set_option linter.unusedSimpArgs false
def impl_LeastCommittee.j0 : Nat → Bool → Int → List Int → Option (Int × List Int × Bool)
 | 0, _, _, _ => none
 | k + 1, x12, x357000, x357001 => if x12 = true then (some (0, ([] : List Int), false)) else ((impl_Committee_votes.f k x357000 x357001).bind fun bt359 => ((impl_votes_found.f k bt359.1 bt359.2).bind fun bt363 => (some (bt363.1, bt363.2.1, bt363.2.2))))
def impl_LeastCommittee.f (k : Nat) (a0_0 : Int) (l0_1 : List Int) : Option (Int × List Int × Bool) := (impl_IsCommittee.f k a0_0 l0_1).bind fun t358 => (if t358 = true then (impl_LeastCommittee.j0 k (decide ((l0_1.length : Int) > 5)) a0_0 l0_1) else (impl_LeastCommittee.j0 k true a0_0 l0_1))
set_option maxHeartbeats 8000000 in
set_option maxRecDepth 100000 in
theorem impl_LeastCommittee.calls (k : Nat) (a0_0 : Int) (A0_1 : Option Addr) (c0_1 : Nat) (l0_1 : List Int) (r1 : Int) (r2 : List Int) (r3 : Bool) (w : World) (hr0_1 : Kd.C (Kd.int .i64) w A0_1 l0_1.length l0_1) (hc0_1 : l0_1.length ≤ c0_1) (h : impl_LeastCommittee.f k a0_0 l0_1 = some (r1, r2, r3)) :
  Calls Try.prog 10 #[.agg #[.int .i64 a0_0, .slice A0_1 l0_1.length c0_1]] w fun e w' => ∃ v1_ : Value, e = .returned (.tuple #[.agg #[.int .i64 r1, v1_], .bool r3]) ∧ Kd.R (Kd.int .i64) 3 w' w.heap.size (fun _ => True) v1_ r2 ∧ Below w.heap.size w w' := by
 have hu26 := Try.underlying26
 have HR0_1 := Aside0.mk hr0_1
 have HC0_1 := Aside0.mk hc0_1
 clear hr0_1 hc0_1
 have HB := Aside0.mk (Below.refl w.heap.size w)
 have H : ((impl_IsCommittee.f k a0_0 l0_1).bind fun t358 => (if t358 = true then (impl_LeastCommittee.j0 k (decide ((l0_1.length : Int) > 5)) a0_0 l0_1) else (impl_LeastCommittee.j0 k true a0_0 l0_1))) = some (r1, r2, r3) := h
 clear h
 have HC2 := Aside0.mk H
 clear H
 go_enter Try.func10, Try.ntmps10
 go_upto_region 1 with (first | ((with_reducible refine gate_dst (N := 1) rfl ?_); (try (refine gate_guard (by rfl) ?_; dsimp only)); refine box_event ?hg (N := 1) ?hd (cs := #[.int .i64 a0_0, .slice A0_1 l0_1.length c0_1]) (t := 26) ?hr ?_; (case hd => rfl); (case hg => rfl); (case hr => first | (go_simp; done) | (go_simp; rfl)); intro gb356 hg w3 hbox hb; have n2_ := Aside0.mk ((by rw [hg]; exact (below_size (zh HB.out)) : w.heap.size ≤ gb356)); replace HB := Aside0.mk (below_step (zh HB.out) hb); have BK356 := Aside0.mk hbox; have GW356 := n2_; have GE356 := n2_; clear n2_ hb hbox hg) | ((with_reducible refine gate_dst (N := 2) rfl ?_); (try (refine gate_guard (by rfl) ?_; dsimp only)); refine box_event ?hg (N := 2) ?hd (cs := #[.int .i64 0, .slice none 0 0]) (t := 26) ?hr ?_; (case hd => rfl); (case hg => rfl); (case hr => first | (go_simp; done) | (go_simp; rfl)); intro gb357 hg w4 hbox hb; have n0_ := Aside0.mk (blk_below (g := gb356) (o := .cells #[.int .i64 a0_0, .slice A0_1 l0_1.length c0_1] 26 (0, 0)) (zb BK356.out) hb); have n1_ := Aside0.mk (below_step (zh HB.out) hb); have n2_ := Aside0.mk (hbox); have n3_ := Aside0.mk ((by rw [hg]; exact (below_size (zh HB.out)) : w.heap.size ≤ gb357)); have n4_ := Aside0.mk ((by rw [hg]; exact (below_size (zh HB.out)) : w.heap.size ≤ gb357)); have n5_ := Aside0.mk ((by rw [hg]; exact Nat.ne_of_lt (blk_lt (g := gb356) (o := .cells #[.int .i64 a0_0, .slice A0_1 l0_1.length c0_1] 26 (0, 0)) (zb BK356.out)) : gb356 ≠ gb357)); have n6_ := Aside0.mk ((by rw [hg]; exact Nat.ne_of_gt (blk_lt (g := gb356) (o := .cells #[.int .i64 a0_0, .slice A0_1 l0_1.length c0_1] 26 (0, 0)) (zb BK356.out)) : gb357 ≠ gb356)); clear BK356; clear HB; have BK356 := n0_; have HB := n1_; have BK357 := n2_; have GW357 := n3_; have GE357 := n4_; have NB356_357 := n5_; have NB357_356 := n6_; clear n0_ n1_ n2_ n3_ n4_ n5_ n6_; clear hb hbox hg))
 (try simp only [Act.put, List.setIfInBounds_toArray, List.set_cons_zero, List.set_cons_succ])
 go_cut [12] (fun v12 wc => ∃ (kq : Nat) (x12_1 : Bool), v12 = .bool x12_1 ∧ Aside0 (impl_LeastCommittee.j0 kq x12_1 a0_0 l0_1 = some (r1, r2, r3)) ∧ Aside0 (kq ≤ k) ∧ Aside0 (wc.heap[gb356]? = some (.cells #[.int .i64 a0_0, (.slice A0_1 l0_1.length c0_1)] 26 (0, 0))) ∧ Aside0 (wc.heap[gb357]? = some (.cells #[.int .i64 0, (.slice none 0 0)] 26 (0, 0))) ∧ Aside0 (Below w.heap.size w wc))
 case first =>
  have H := HC2.out
  clear HC2
  replace H := Option.bind_eq_some_iff.mp H
  obtain ⟨t358, A50, H⟩ := H
  replace H : (if t358 = true then (impl_LeastCommittee.j0 k (decide ((l0_1.length : Int) > 5)) a0_0 l0_1) else (impl_LeastCommittee.j0 k true a0_0 l0_1)) = some (r1, r2, r3) := H
  have A5 := Aside0.mk A50
  clear A50
  by_cases c6 : t358 = true
  ·subst c6
   have H1 : (impl_LeastCommittee.j0 k (decide ((l0_1.length : Int) > 5)) a0_0 l0_1) = some (r1, r2, r3) := by rw [if_pos rfl] at H; exact H
   clear H
   have H := H1
   clear H1
   have H' := Aside0.mk H
   clear H
   have hnb7 := NB356_357.out
   have hnc7 := NB357_356.out
   have hcz8_0 : w4.cell? ⟨gb356, 0, none⟩ = some (.int .i64 a0_0) := (blk_cell BK356.out 0).trans rfl
   have hcz8_1 : w4.cell? ⟨gb356, 1, none⟩ = some (.slice A0_1 l0_1.length c0_1) := (blk_cell BK356.out 1).trans rfl
   have hfz8_0 := blk_frozen BK356.out 0
   have hfz8_1 := blk_frozen BK356.out 1
   go_wp2_with (first | ((with_reducible refine gate_callee (f := 29) rfl ?_); refine goesL_ (some 5) rfl rfl Try.func29 (by kernel_rfl) rfl #[.agg #[.int .i64 a0_0, .slice A0_1 l0_1.length c0_1]] rfl (by (try simp only [List.map_toArray, List.map_cons, List.map_nil]); first | done | rfl | (simp only [List.length_drop, List.length_take]; rfl)) ?_; (with_reducible refine (impl_IsCommittee.calls k a0_0 _ _ l0_1 true _ ?side1 ?side2 A5.out).mono ?_); (case side1 => repeat (first | exact (Kd.C_below HR0_1.out HB.out) | (with_reducible refine Kd.C_alloc ?_ _) | (with_reducible refine Kd.C_drewN ?_ _) | (with_reducible refine Kd.C_drew ?_))); (case side2 => exact HC0_1.out); rintro e w9 ⟨rfl, hb⟩; refine ⟨_, rfl, ?_⟩; have n0_ := Aside0.mk (blk_below (g := gb356) (o := .cells #[.int .i64 a0_0, .slice A0_1 l0_1.length c0_1] 26 (0, 0)) (zb BK356.out) hb); have n1_ := Aside0.mk (blk_below (g := gb357) (o := .cells #[.int .i64 0, .slice none 0 0] 26 (0, 0)) (zb BK357.out) hb); have n2_ := Aside0.mk (below_step (zh HB.out) hb); clear BK356; clear BK357; clear HB; have BK356 := n0_; have BK357 := n1_; have HB := n2_; clear n0_ n1_ n2_; (try clear hb); (try clear hb2); (try clear hk); (try clear hi); have hcz10_0 : w9.cell? ⟨gb356, 0, none⟩ = some (.int .i64 a0_0) := (blk_cell BK356.out 0).trans rfl; have hcz10_1 : w9.cell? ⟨gb356, 1, none⟩ = some (.slice A0_1 l0_1.length c0_1) := (blk_cell BK356.out 1).trans rfl; have hfz10_0 := blk_frozen BK356.out 0; have hfz10_1 := blk_frozen BK356.out 1))
   go_meet
   case rel => exact ⟨_, (decide ((l0_1.length : Int) > 5)), (by first | rfl | (simp; done) | (simp [*]; done)), H', ⟨by first | omega | exact Nat.le_refl _⟩, ⟨zb BK356.out⟩, ⟨zb BK357.out⟩, ⟨zh HB.out⟩⟩
  ·replace c6 := Bool.eq_false_iff.mpr c6
   subst c6
   have H1 : (impl_LeastCommittee.j0 k true a0_0 l0_1) = some (r1, r2, r3) := by rw [if_neg (show ¬ (false = true) by decide)] at H; exact H
   clear H
   have H := H1
   clear H1
   have H' := Aside0.mk H
   clear H
   have hnb11 := NB356_357.out
   have hnc11 := NB357_356.out
   have hcz12_0 : w4.cell? ⟨gb356, 0, none⟩ = some (.int .i64 a0_0) := (blk_cell BK356.out 0).trans rfl
   have hcz12_1 : w4.cell? ⟨gb356, 1, none⟩ = some (.slice A0_1 l0_1.length c0_1) := (blk_cell BK356.out 1).trans rfl
   have hfz12_0 := blk_frozen BK356.out 0
   have hfz12_1 := blk_frozen BK356.out 1
   go_wp2_with (first | ((with_reducible refine gate_callee (f := 29) rfl ?_); refine goesL_ (some 5) rfl rfl Try.func29 (by kernel_rfl) rfl #[.agg #[.int .i64 a0_0, .slice A0_1 l0_1.length c0_1]] rfl (by (try simp only [List.map_toArray, List.map_cons, List.map_nil]); first | done | rfl | (simp only [List.length_drop, List.length_take]; rfl)) ?_; (with_reducible refine (impl_IsCommittee.calls k a0_0 _ _ l0_1 false _ ?side1 ?side2 A5.out).mono ?_); (case side1 => repeat (first | exact (Kd.C_below HR0_1.out HB.out) | (with_reducible refine Kd.C_alloc ?_ _) | (with_reducible refine Kd.C_drewN ?_ _) | (with_reducible refine Kd.C_drew ?_))); (case side2 => exact HC0_1.out); rintro e w13 ⟨rfl, hb⟩; refine ⟨_, rfl, ?_⟩; have n0_ := Aside0.mk (blk_below (g := gb356) (o := .cells #[.int .i64 a0_0, .slice A0_1 l0_1.length c0_1] 26 (0, 0)) (zb BK356.out) hb); have n1_ := Aside0.mk (blk_below (g := gb357) (o := .cells #[.int .i64 0, .slice none 0 0] 26 (0, 0)) (zb BK357.out) hb); have n2_ := Aside0.mk (below_step (zh HB.out) hb); clear BK356; clear BK357; clear HB; have BK356 := n0_; have BK357 := n1_; have HB := n2_; clear n0_ n1_ n2_; (try clear hb); (try clear hb2); (try clear hk); (try clear hi)))
   go_meet
   case rel => exact ⟨_, (true), (by first | rfl | (simp; done) | (simp [*]; done)), H', ⟨by first | omega | exact Nat.le_refl _⟩, ⟨zb BK356.out⟩, ⟨zb BK357.out⟩, ⟨zh HB.out⟩⟩
 case rest =>
  clear HC2
  try clear c1
  try clear c2
  try clear p2
  try clear c6
  try clear c7
  try clear c10
  try clear c11
  try clear hcz10_0
  try clear hcz10_1
  try clear hcz12_0
  try clear hcz12_1
  try clear hcz8_0
  try clear hcz8_1
  try clear hfz10_0
  try clear hfz10_1
  try clear hfz12_0
  try clear hfz12_1
  try clear hfz8_0
  try clear hfz8_1
  obtain ⟨kq, x12_1, rfl, HA, HJ1, BK356, BK357, HB⟩ := hcut
  cases kq with
  | zero => exact absurd HA.out (by simp [impl_LeastCommittee.j0])
  | succ kj1 =>
   have H := HA.out
   clear HA
   simp only [impl_LeastCommittee.j0] at H
   by_cases c14 : x12_1 = true
   ·subst c14
    have H1 : (some (0, ([] : List Int), false)) = some (r1, r2, r3) := by rw [if_pos rfl] at H; exact H
    clear H
    have H := H1
    clear H1
    simp only [Option.some.injEq, Prod.mk.injEq] at H
    obtain ⟨rfl, rfl, rfl⟩ := H
    have hnb15 := NB357_356.out
    have hnc15 := NB356_357.out
    have hcz16_0 : wc.cell? ⟨gb357, 0, none⟩ = some (.int .i64 0) := (blk_cell BK357.out 0).trans rfl
    have hcz16_1 : wc.cell? ⟨gb357, 1, none⟩ = some (.slice none 0 0) := (blk_cell BK357.out 1).trans rfl
    have hfz16_0 := blk_frozen BK357.out 0
    have hfz16_1 := blk_frozen BK357.out 1
    go_wp2
    refine bodyPost_ret (results_ct rfl _ _ gb357 26 #[.int .i64 0, .slice none 0 0] (0, 0) _ rfl (by (with_reducible repeat (first | refine blk_drewN ?_ _ | refine blk_drew ?_ | refine blk_alloc ?_ _)); refine blk_put (cs := #[.int .i64 0, .slice none 0 0]) ?_ 1 _ rfl; (with_reducible repeat (first | refine blk_drewN ?_ _ | refine blk_drew ?_ | refine blk_alloc ?_ _)); refine blk_put (cs := #[.int .i64 0, .slice none 0 0]) ?_ 0 _ rfl; (with_reducible repeat (first | refine blk_drewN ?_ _ | refine blk_drew ?_ | refine blk_alloc ?_ _)); exact BK357.out) Try.underlying26 rfl (by kernel_rfl)) rfl ?_
    exact ⟨_, by first | rfl | (simp [*, errW_none, errW_some] <;> rfl), by first | exact Kd.R_nil _ _ _ _ _ | exact Kd.N_nil _ _ _ _ _ | exact Kd.V_nil _ _ _ _ _ | exact Kd.Q_nil _ _ _ _ _ | exact Kd.S_nil _ _ _ _ _, zh HB.out⟩
   replace c14 := Bool.eq_false_iff.mpr c14
   subst c14
   have H1 : ((impl_Committee_votes.f kj1 a0_0 l0_1).bind fun bt359 => ((impl_votes_found.f kj1 bt359.1 bt359.2).bind fun bt363 => (some (bt363.1, bt363.2.1, bt363.2.2)))) = some (r1, r2, r3) := by rw [if_neg (show ¬ (false = true) by decide)] at H; exact H
   clear H
   have H := H1
   clear H1
   replace H := Option.bind_eq_some_iff.mp H
   obtain ⟨⟨t359, t360⟩, A170, H⟩ := H
   replace H : ((impl_votes_found.f kj1 t359 t360).bind fun bt363 => (some (bt363.1, bt363.2.1, bt363.2.2))) = some (r1, r2, r3) := H
   have A17 := Aside0.mk A170
   clear A170
   replace H := Option.bind_eq_some_iff.mp H
   obtain ⟨⟨t363, t364, t367⟩, A180, H⟩ := H
   replace H : (some (t363, t364, t367)) = some (r1, r2, r3) := H
   have A18 := Aside0.mk A180
   clear A180
   simp only [Option.some.injEq, Prod.mk.injEq] at H
   obtain ⟨rfl, rfl, rfl⟩ := H
   have hnb19 := NB356_357.out
   have hnc19 := NB357_356.out
   have hcz20_0 : wc.cell? ⟨gb356, 0, none⟩ = some (.int .i64 a0_0) := (blk_cell BK356.out 0).trans rfl
   have hcz20_1 : wc.cell? ⟨gb356, 1, none⟩ = some (.slice A0_1 l0_1.length c0_1) := (blk_cell BK356.out 1).trans rfl
   have hfz20_0 := blk_frozen BK356.out 0
   have hfz20_1 := blk_frozen BK356.out 1
   go_wp2_with (first | ((with_reducible refine gate_callee (f := 30) rfl ?_); refine goesL_ (some 15) rfl rfl Try.func30 (by kernel_rfl) rfl #[.agg #[.int .i64 a0_0, .slice A0_1 l0_1.length c0_1]] rfl (by (try simp only [List.map_toArray, List.map_cons, List.map_nil]); first | done | rfl | (simp only [List.length_drop, List.length_take]; rfl)) ?_; (with_reducible refine (impl_Committee_votes.calls kj1 a0_0 _ _ l0_1 t359 t360 _ ?side1 ?side2 A17.out).mono ?_); (case side1 => repeat (first | exact (Kd.C_below HR0_1.out HB.out) | (with_reducible refine Kd.C_alloc ?_ _) | (with_reducible refine Kd.C_drewN ?_ _) | (with_reducible refine Kd.C_drew ?_))); (case side2 => exact HC0_1.out); rintro e w21 ⟨v361, rfl, ho0, hb⟩; refine ⟨_, rfl, ?_⟩; have n0_ := Aside0.mk (Kd.R_lower ho0 (below_size (zh HB.out))); have n1_ := Aside0.mk (blk_below (g := gb356) (o := .cells #[.int .i64 a0_0, .slice A0_1 l0_1.length c0_1] 26 (0, 0)) (zb BK356.out) hb); have n2_ := Aside0.mk (blk_below (g := gb357) (o := .cells #[.int .i64 0, .slice none 0 0] 26 (0, 0)) (zb BK357.out) hb); have n3_ := Aside0.mk (below_step (zh HB.out) hb); clear BK356; clear BK357; clear HB; have HO362 := n0_; have BK356 := n1_; have BK357 := n2_; have HB := n3_; clear n0_ n1_ n2_ n3_; (try clear hb); (try clear hb2); (try clear hk); (try clear hi); (try clear ho0); obtain ⟨Ao22, co22, eo22⟩ := Kd.R_slice HO362.out; subst eo22) | ((with_reducible refine gate_callee (f := 31) rfl ?_); refine goesL_ (some 16) rfl rfl Try.func31 (by kernel_rfl) rfl #[.agg #[.int .i64 t359, .slice Ao22 t360.length co22]] rfl (by (try simp only [List.map_toArray, List.map_cons, List.map_nil]); first | done | rfl | (simp only [List.length_drop, List.length_take]; rfl)) ?_; (with_reducible refine (impl_votes_found.calls kj1 t359 _ _ t360 t363 t364 t367 _ ?side1 ?side2 A18.out).mono ?_); (case side1 => repeat (first | exact (Kd.R_reads' HO362.out).2.2 | (with_reducible refine Kd.C_alloc ?_ _) | (with_reducible refine Kd.C_drewN ?_ _) | (with_reducible refine Kd.C_drew ?_))); (case side2 => exact (Kd.R_reads' HO362.out).2.1); rintro e w23 ⟨v365, rfl, ho0, hb⟩; refine ⟨_, rfl, ?_⟩; have n0_ := Aside0.mk (Kd.R_below (zr HO362.out) hb); have n1_ := Aside0.mk (Kd.R_lower ho0 (below_size (zh HB.out))); have n2_ := Aside0.mk (blk_below (g := gb356) (o := .cells #[.int .i64 a0_0, .slice A0_1 l0_1.length c0_1] 26 (0, 0)) (zb BK356.out) hb); have n3_ := Aside0.mk (blk_below (g := gb357) (o := .cells #[.int .i64 0, .slice none 0 0] 26 (0, 0)) (zb BK357.out) hb); have n4_ := Aside0.mk (below_step (zh HB.out) hb); clear HO362; clear BK356; clear BK357; clear HB; have HO362 := n0_; have HO366 := n1_; have BK356 := n2_; have BK357 := n3_; have HB := n4_; clear n0_ n1_ n2_ n3_ n4_; (try clear hb); (try clear hb2); (try clear hk); (try clear hi); (try clear ho0); have hcz24_0 : w23.cell? ⟨gb357, 0, none⟩ = some (.int .i64 0) := (blk_cell BK357.out 0).trans rfl; have hcz24_1 : w23.cell? ⟨gb357, 1, none⟩ = some (.slice none 0 0) := (blk_cell BK357.out 1).trans rfl; have hfz24_0 := blk_frozen BK357.out 0; have hfz24_1 := blk_frozen BK357.out 1; obtain ⟨Ao25, co25, eo25⟩ := Kd.R_slice HO366.out; subst eo25))
   refine bodyPost_ret (results_ct rfl _ _ gb357 26 #[.int .i64 t363, .slice Ao25 t364.length co25] (0, 0) _ rfl (by (with_reducible repeat (first | refine blk_drewN ?_ _ | refine blk_drew ?_ | refine blk_alloc ?_ _)); refine blk_put (cs := #[.int .i64 t363, .slice none 0 0]) ?_ 1 _ rfl; (with_reducible repeat (first | refine blk_drewN ?_ _ | refine blk_drew ?_ | refine blk_alloc ?_ _)); refine blk_put (cs := #[.int .i64 0, .slice none 0 0]) ?_ 0 _ rfl; (with_reducible repeat (first | refine blk_drewN ?_ _ | refine blk_drew ?_ | refine blk_alloc ?_ _)); exact BK357.out) Try.underlying26 rfl (by kernel_rfl)) rfl ?_
   exact ⟨_, by first | rfl | (simp [*, errW_none, errW_some] <;> rfl), by (with_reducible repeat (first | apply Kd.R_alloc | apply Kd.R_drewN | apply Kd.R_drew)); exact Kd.R_mono (Kd.R_far (p := ⟨gb357, 1, none⟩) (Kd.R_far (p := ⟨gb357, 0, none⟩) (Kd.R_types HO366.out BK357.out (by decide)) (fun _ hk => hk.2) (.int .i64 t363)) (fun _ hk => hk.2) (.slice Ao25 t364.length co25)) (fun _ hk => trivial), zh HB.out⟩
def impl_IsLeastCommittee.f (k : Nat) (a0_0 : Int) (l0_1 : List Int) : Option (Bool × Bool) := (impl_LeastCommittee.f k a0_0 l0_1).bind fun bt443 => (if bt443.2.2 = true then ((impl_sameCommittee.f k a0_0 l0_1 bt443.1 bt443.2.1).bind fun t449 => (some (t449, bt443.2.2))) else (some (false, bt443.2.2)))
set_option maxHeartbeats 8000000 in
set_option maxRecDepth 100000 in
theorem impl_IsLeastCommittee.calls (k : Nat) (a0_0 : Int) (A0_1 : Option Addr) (c0_1 : Nat) (l0_1 : List Int) (r1 : Bool) (r2 : Bool) (w : World) (hr0_1 : Kd.C (Kd.int .i64) w A0_1 l0_1.length l0_1) (hc0_1 : l0_1.length ≤ c0_1) (h : impl_IsLeastCommittee.f k a0_0 l0_1 = some (r1, r2)) :
  Calls Try.prog 15 #[.agg #[.int .i64 a0_0, .slice A0_1 l0_1.length c0_1]] w fun e w' => e = .returned (.tuple #[.bool r1, .bool r2]) ∧ Below w.heap.size w w' := by
 have hu26 := Try.underlying26
 have HR0_1 := Aside0.mk hr0_1
 have HC0_1 := Aside0.mk hc0_1
 clear hr0_1 hc0_1
 have HB := Aside0.mk (Below.refl w.heap.size w)
 have H : ((impl_LeastCommittee.f k a0_0 l0_1).bind fun bt443 => (if bt443.2.2 = true then ((impl_sameCommittee.f k a0_0 l0_1 bt443.1 bt443.2.1).bind fun t449 => (some (t449, bt443.2.2))) else (some (false, bt443.2.2)))) = some (r1, r2) := h
 clear h
 replace H := Option.bind_eq_some_iff.mp H
 obtain ⟨⟨t443, t444, t447⟩, A20, H⟩ := H
 replace H : (if t447 = true then ((impl_sameCommittee.f k a0_0 l0_1 t443 t444).bind fun t449 => (some (t449, t447))) else (some (false, t447))) = some (r1, r2) := H
 have A2 := Aside0.mk A20
 clear A20
 by_cases c3 : t447 = true
 rotate_left
 ·replace c3 := Bool.eq_false_iff.mpr c3
  subst c3
  have H1 : (some (false, false)) = some (r1, r2) := by rw [if_neg (show ¬ (false = true) by decide)] at H; exact H
  clear H
  have H := H1
  clear H1
  simp only [Option.some.injEq, Prod.mk.injEq] at H
  obtain ⟨rfl, rfl⟩ := H
  go_enter Try.func15, Try.ntmps15
  go_wp2_with (first | ((with_reducible refine gate_dst (N := 1) rfl ?_); refine box_event ?hg (N := 1) ?hd (cs := #[.int .i64 a0_0, .slice A0_1 l0_1.length c0_1]) (t := 26) ?hr ?_; (case hd => rfl); (case hg => rfl); (case hr => first | (go_simp; done) | (go_simp; rfl)); intro gb442 hg w14 hbox hb; have n2_ := Aside0.mk ((by rw [hg]; exact (below_size (zh HB.out)) : w.heap.size ≤ gb442)); replace HB := Aside0.mk (below_step (zh HB.out) hb); have BK442 := Aside0.mk hbox; have GW442 := n2_; have GE442 := n2_; clear n2_ hb hbox hg; have hcz15_0 : w14.cell? ⟨gb442, 0, none⟩ = some (.int .i64 a0_0) := (blk_cell BK442.out 0).trans rfl; have hcz15_1 : w14.cell? ⟨gb442, 1, none⟩ = some (.slice A0_1 l0_1.length c0_1) := (blk_cell BK442.out 1).trans rfl; have hfz15_0 := blk_frozen BK442.out 0; have hfz15_1 := blk_frozen BK442.out 1) | ((with_reducible refine gate_callee (f := 10) rfl ?_); refine goesL_ (some 8) rfl rfl Try.func10 (by kernel_rfl) rfl #[.agg #[.int .i64 a0_0, .slice A0_1 l0_1.length c0_1]] rfl (by (try simp only [List.map_toArray, List.map_cons, List.map_nil]); first | done | rfl | (simp only [List.length_drop, List.length_take]; rfl)) ?_; (with_reducible refine (impl_LeastCommittee.calls k a0_0 _ _ l0_1 t443 t444 false _ ?side1 ?side2 A2.out).mono ?_); (case side1 => repeat (first | exact (Kd.C_below HR0_1.out HB.out) | (with_reducible refine Kd.C_alloc ?_ _) | (with_reducible refine Kd.C_drewN ?_ _) | (with_reducible refine Kd.C_drew ?_))); (case side2 => exact HC0_1.out); rintro e w16 ⟨v445, rfl, ho0, hb⟩; refine ⟨_, rfl, ?_⟩; have n0_ := Aside0.mk (Kd.R_lower ho0 (below_size (zh HB.out))); have n1_ := Aside0.mk (blk_below (g := gb442) (o := .cells #[.int .i64 a0_0, .slice A0_1 l0_1.length c0_1] 26 (0, 0)) (zb BK442.out) hb); have n2_ := Aside0.mk (below_step (zh HB.out) hb); clear BK442; clear HB; have HO446 := n0_; have BK442 := n1_; have HB := n2_; clear n0_ n1_ n2_; (try clear hb); (try clear hb2); (try clear hk); (try clear hi); (try clear ho0)) | ((with_reducible refine gate_dst (N := 4) rfl ?_); refine box_event ?hg (N := 4) ?hd (cs := #[.int .i64 0, .slice none 0 0]) (t := 26) ?hr ?_; (case hd => rfl); (case hg => rfl); (case hr => first | (go_simp; done) | (go_simp; rfl)); intro gb448 hg w17 hbox hb; have n0_ := Aside0.mk (Kd.R_below (zr HO446.out) hb); have n1_ := Aside0.mk (blk_below (g := gb442) (o := .cells #[.int .i64 a0_0, .slice A0_1 l0_1.length c0_1] 26 (0, 0)) (zb BK442.out) hb); have n2_ := Aside0.mk (below_step (zh HB.out) hb); have n3_ := Aside0.mk (hbox); have n4_ := Aside0.mk ((by rw [hg]; exact (below_size (zh HB.out)) : w.heap.size ≤ gb448)); have n5_ := Aside0.mk ((by rw [hg]; exact (below_size (zh HB.out)) : w.heap.size ≤ gb448)); have n6_ := Aside0.mk ((by rw [hg]; exact Nat.ne_of_lt (blk_lt (g := gb442) (o := .cells #[.int .i64 a0_0, .slice A0_1 l0_1.length c0_1] 26 (0, 0)) (zb BK442.out)) : gb442 ≠ gb448)); have n7_ := Aside0.mk ((by rw [hg]; exact Nat.ne_of_gt (blk_lt (g := gb442) (o := .cells #[.int .i64 a0_0, .slice A0_1 l0_1.length c0_1] 26 (0, 0)) (zb BK442.out)) : gb448 ≠ gb442)); clear HO446; clear BK442; clear HB; have HO446 := n0_; have BK442 := n1_; have HB := n2_; have BK448 := n3_; have GW448 := n4_; have GE448 := n5_; have NB442_448 := n6_; have NB448_442 := n7_; clear n0_ n1_ n2_ n3_ n4_ n5_ n6_ n7_; clear hb hbox hg; have hnb18 := NB448_442.out; have hnc18 := NB442_448.out; have hcz19_0 : w17.cell? ⟨gb448, 0, none⟩ = some (.int .i64 0) := (blk_cell BK448.out 0).trans rfl; have hcz19_1 : w17.cell? ⟨gb448, 1, none⟩ = some (.slice none 0 0) := (blk_cell BK448.out 1).trans rfl; have hfz19_0 := blk_frozen BK448.out 0; have hfz19_1 := blk_frozen BK448.out 1; obtain ⟨Ao20, co20, eo20⟩ := Kd.R_slice HO446.out; subst eo20))
  go_ret2
  exact ⟨by first | rfl | (simp [*, errW_none, errW_some] <;> rfl), zh HB.out⟩
 subst c3
 have H1 : ((impl_sameCommittee.f k a0_0 l0_1 t443 t444).bind fun t449 => (some (t449, true))) = some (r1, r2) := by rw [if_pos rfl] at H; exact H
 clear H
 have H := H1
 clear H1
 replace H := Option.bind_eq_some_iff.mp H
 obtain ⟨t449, A40, H⟩ := H
 replace H : (some (t449, true)) = some (r1, r2) := H
 have A4 := Aside0.mk A40
 clear A40
 simp only [Option.some.injEq, Prod.mk.injEq] at H
 obtain ⟨rfl, rfl⟩ := H
 go_enter Try.func15, Try.ntmps15
 go_wp2_with (first | ((with_reducible refine gate_dst (N := 1) rfl ?_); refine box_event ?hg (N := 1) ?hd (cs := #[.int .i64 a0_0, .slice A0_1 l0_1.length c0_1]) (t := 26) ?hr ?_; (case hd => rfl); (case hg => rfl); (case hr => first | (go_simp; done) | (go_simp; rfl)); intro gb442 hg w5 hbox hb; have n2_ := Aside0.mk ((by rw [hg]; exact (below_size (zh HB.out)) : w.heap.size ≤ gb442)); replace HB := Aside0.mk (below_step (zh HB.out) hb); have BK442 := Aside0.mk hbox; have GW442 := n2_; have GE442 := n2_; clear n2_ hb hbox hg; have hcz6_0 : w5.cell? ⟨gb442, 0, none⟩ = some (.int .i64 a0_0) := (blk_cell BK442.out 0).trans rfl; have hcz6_1 : w5.cell? ⟨gb442, 1, none⟩ = some (.slice A0_1 l0_1.length c0_1) := (blk_cell BK442.out 1).trans rfl; have hfz6_0 := blk_frozen BK442.out 0; have hfz6_1 := blk_frozen BK442.out 1) | ((with_reducible refine gate_callee (f := 10) rfl ?_); refine goesL_ (some 8) rfl rfl Try.func10 (by kernel_rfl) rfl #[.agg #[.int .i64 a0_0, .slice A0_1 l0_1.length c0_1]] rfl (by (try simp only [List.map_toArray, List.map_cons, List.map_nil]); first | done | rfl | (simp only [List.length_drop, List.length_take]; rfl)) ?_; (with_reducible refine (impl_LeastCommittee.calls k a0_0 _ _ l0_1 t443 t444 true _ ?side1 ?side2 A2.out).mono ?_); (case side1 => repeat (first | exact (Kd.C_below HR0_1.out HB.out) | (with_reducible refine Kd.C_alloc ?_ _) | (with_reducible refine Kd.C_drewN ?_ _) | (with_reducible refine Kd.C_drew ?_))); (case side2 => exact HC0_1.out); rintro e w7 ⟨v445, rfl, ho0, hb⟩; refine ⟨_, rfl, ?_⟩; have n0_ := Aside0.mk (Kd.R_lower ho0 (below_size (zh HB.out))); have n1_ := Aside0.mk (blk_below (g := gb442) (o := .cells #[.int .i64 a0_0, .slice A0_1 l0_1.length c0_1] 26 (0, 0)) (zb BK442.out) hb); have n2_ := Aside0.mk (below_step (zh HB.out) hb); clear BK442; clear HB; have HO446 := n0_; have BK442 := n1_; have HB := n2_; clear n0_ n1_ n2_; (try clear hb); (try clear hb2); (try clear hk); (try clear hi); (try clear ho0)) | ((with_reducible refine gate_dst (N := 4) rfl ?_); refine box_event ?hg (N := 4) ?hd (cs := #[.int .i64 0, .slice none 0 0]) (t := 26) ?hr ?_; (case hd => rfl); (case hg => rfl); (case hr => first | (go_simp; done) | (go_simp; rfl)); intro gb448 hg w8 hbox hb; have n0_ := Aside0.mk (Kd.R_below (zr HO446.out) hb); have n1_ := Aside0.mk (blk_below (g := gb442) (o := .cells #[.int .i64 a0_0, .slice A0_1 l0_1.length c0_1] 26 (0, 0)) (zb BK442.out) hb); have n2_ := Aside0.mk (below_step (zh HB.out) hb); have n3_ := Aside0.mk (hbox); have n4_ := Aside0.mk ((by rw [hg]; exact (below_size (zh HB.out)) : w.heap.size ≤ gb448)); have n5_ := Aside0.mk ((by rw [hg]; exact (below_size (zh HB.out)) : w.heap.size ≤ gb448)); have n6_ := Aside0.mk ((by rw [hg]; exact Nat.ne_of_lt (blk_lt (g := gb442) (o := .cells #[.int .i64 a0_0, .slice A0_1 l0_1.length c0_1] 26 (0, 0)) (zb BK442.out)) : gb442 ≠ gb448)); have n7_ := Aside0.mk ((by rw [hg]; exact Nat.ne_of_gt (blk_lt (g := gb442) (o := .cells #[.int .i64 a0_0, .slice A0_1 l0_1.length c0_1] 26 (0, 0)) (zb BK442.out)) : gb448 ≠ gb442)); clear HO446; clear BK442; clear HB; have HO446 := n0_; have BK442 := n1_; have HB := n2_; have BK448 := n3_; have GW448 := n4_; have GE448 := n5_; have NB442_448 := n6_; have NB448_442 := n7_; clear n0_ n1_ n2_ n3_ n4_ n5_ n6_ n7_; clear hb hbox hg; have hnb9 := NB448_442.out; have hnc9 := NB442_448.out; have hcz10_0 : w8.cell? ⟨gb448, 0, none⟩ = some (.int .i64 0) := (blk_cell BK448.out 0).trans rfl; have hcz10_1 : w8.cell? ⟨gb448, 1, none⟩ = some (.slice none 0 0) := (blk_cell BK448.out 1).trans rfl; have hfz10_0 := blk_frozen BK448.out 0; have hfz10_1 := blk_frozen BK448.out 1; obtain ⟨Ao11, co11, eo11⟩ := Kd.R_slice HO446.out; subst eo11; have hcz12_0 : w8.cell? ⟨gb442, 0, none⟩ = some (.int .i64 a0_0) := (blk_cell BK442.out 0).trans rfl; have hcz12_1 : w8.cell? ⟨gb442, 1, none⟩ = some (.slice A0_1 l0_1.length c0_1) := (blk_cell BK442.out 1).trans rfl; have hfz12_0 := blk_frozen BK442.out 0; have hfz12_1 := blk_frozen BK442.out 1) | (go_at_call 36; (with_reducible refine (impl_sameCommittee.calls k a0_0 _ _ l0_1 t443 _ _ t444 t449 _ ?side1 ?side2 ?side3 ?side4 A4.out).mono ?_); (case side1 => exact Kd.C_below HR0_1.out (zh HB.out)); (case side2 => exact HC0_1.out); (case side3 => refine (Kd.R_reads' (e := 3) (base := w.heap.size) (ok := fun k_ => True) (n := t444.length) (c := co11) ?_).2.2; exact (by (with_reducible repeat (first | apply Kd.R_alloc | apply Kd.R_drewN | apply Kd.R_drew)); exact (Kd.R_mono (Kd.R_far (p := ⟨gb448, 1, none⟩) (Kd.R_far (p := ⟨gb448, 0, none⟩) (Kd.R_types HO446.out BK448.out (by decide)) (fun _ hk => hk.2) (.int .i64 t443)) (fun _ hk => hk.2) (.slice Ao11 t444.length co11)) (fun _ h_ => h_.1)))); (case side4 => exact (Kd.R_reads' HO446.out).2.1); rintro e w13 ⟨rfl, hb⟩; have n0_ := Aside0.mk (Kd.R_below (by (with_reducible repeat (first | apply Kd.R_alloc | apply Kd.R_drewN | apply Kd.R_drew)); exact (Kd.R_mono (Kd.R_far (p := ⟨gb448, 1, none⟩) (Kd.R_far (p := ⟨gb448, 0, none⟩) (Kd.R_types HO446.out BK448.out (by decide)) (fun _ hk => hk.2) (.int .i64 t443)) (fun _ hk => hk.2) (.slice Ao11 t444.length co11)) (fun _ h_ => h_.1))) hb); have n1_ := Aside0.mk (blk_below (g := gb442) (o := .cells #[.int .i64 a0_0, .slice A0_1 l0_1.length c0_1] 26 (0, 0)) (by (with_reducible repeat (first | refine blk_drewN ?_ _ | refine blk_drew ?_ | refine blk_alloc ?_ _)); refine blk_far ?_ NB442_448.out _; (with_reducible repeat (first | refine blk_drewN ?_ _ | refine blk_drew ?_ | refine blk_alloc ?_ _)); refine blk_far ?_ NB442_448.out _; (with_reducible repeat (first | refine blk_drewN ?_ _ | refine blk_drew ?_ | refine blk_alloc ?_ _)); exact BK442.out) hb); have n2_ := Aside0.mk (blk_below (g := gb448) (o := .cells #[.int .i64 t443, .slice Ao11 t444.length co11] 26 (0, 0)) (by (with_reducible repeat (first | refine blk_drewN ?_ _ | refine blk_drew ?_ | refine blk_alloc ?_ _)); refine blk_put (cs := #[.int .i64 t443, .slice none 0 0]) ?_ 1 _ rfl; (with_reducible repeat (first | refine blk_drewN ?_ _ | refine blk_drew ?_ | refine blk_alloc ?_ _)); refine blk_put (cs := #[.int .i64 0, .slice none 0 0]) ?_ 0 _ rfl; (with_reducible repeat (first | refine blk_drewN ?_ _ | refine blk_drew ?_ | refine blk_alloc ?_ _)); exact BK448.out) hb); have n3_ := Aside0.mk (below_step (zh HB.out) hb); clear HO446; clear BK442; clear BK448; clear HB; have HO446 := n0_; have BK442 := n1_; have BK448 := n2_; have HB := n3_; clear n0_ n1_ n2_ n3_; (try clear hb); (try clear hb2); (try clear hk); (try clear hi)))
 go_ret2
 exact ⟨by first | rfl | (simp [*, errW_none, errW_some] <;> rfl), zh HB.out⟩
def laws_FnExactIsLeastCommittee.f (k : Nat) (a0_0 : Int) (l0_1 : List Int) : Option (Bool) := (laws_szCommittee.f a0_0 l0_1 1048576).bind fun t451 => (if t451 < 0 then (some true) else ((laws_toCommittee.f k a0_0 l0_1).bind fun bt452 => ((spec_IsLeastCommittee.f k bt452.1 bt452.2).bind fun bt456 => ((laws_toCommittee.f k a0_0 l0_1).bind fun bt458 => ((impl_IsLeastCommittee.f k bt458.1 bt458.2).bind fun bt463 => (if (bt463.1 != bt456.1) = true then (none) else (if (bt463.2 != bt456.2) = true then (none) else ((laws_toCommittee.f k a0_0 l0_1).bind fun bt465 => ((laws_eqCommittee.f k bt458.1 bt458.2 bt465.1 bt465.2).bind fun t469 => (if t469 = true then (some true) else (none)))))))))))
set_option maxHeartbeats 8000000 in
set_option maxRecDepth 100000 in
theorem laws_FnExactIsLeastCommittee.calls (k : Nat) (a0_0 : Int) (A0_1 : Option Addr) (c0_1 : Nat) (l0_1 : List Int) (r : Bool) (w : World) (hr0_1 : Kd.C (Kd.int .i64) w A0_1 l0_1.length l0_1) (hc0_1 : l0_1.length ≤ c0_1) (h : laws_FnExactIsLeastCommittee.f k a0_0 l0_1 = some r) :
  Calls Try.prog 4 #[.agg #[.int .i64 a0_0, .slice A0_1 l0_1.length c0_1]] w fun e w' => e = .returned (.bool r) ∧ Below w.heap.size w w' := by
 have hu24 := Try.underlying24
 have hu26 := Try.underlying26
 have HR0_1 := Aside0.mk hr0_1
 have HC0_1 := Aside0.mk hc0_1
 clear hr0_1 hc0_1
 have HB := Aside0.mk (Below.refl w.heap.size w)
 have H : ((laws_szCommittee.f a0_0 l0_1 1048576).bind fun t451 => (if t451 < 0 then (some true) else ((laws_toCommittee.f k a0_0 l0_1).bind fun bt452 => ((spec_IsLeastCommittee.f k bt452.1 bt452.2).bind fun bt456 => ((laws_toCommittee.f k a0_0 l0_1).bind fun bt458 => ((impl_IsLeastCommittee.f k bt458.1 bt458.2).bind fun bt463 => (if (bt463.1 != bt456.1) = true then (none) else (if (bt463.2 != bt456.2) = true then (none) else ((laws_toCommittee.f k a0_0 l0_1).bind fun bt465 => ((laws_eqCommittee.f k bt458.1 bt458.2 bt465.1 bt465.2).bind fun t469 => (if t469 = true then (some true) else (none)))))))))))) = some r := h
 clear h
 replace H := Option.bind_eq_some_iff.mp H
 obtain ⟨t451, A20, H⟩ := H
 replace H : (if t451 < 0 then (some true) else ((laws_toCommittee.f k a0_0 l0_1).bind fun bt452 => ((spec_IsLeastCommittee.f k bt452.1 bt452.2).bind fun bt456 => ((laws_toCommittee.f k a0_0 l0_1).bind fun bt458 => ((impl_IsLeastCommittee.f k bt458.1 bt458.2).bind fun bt463 => (if (bt463.1 != bt456.1) = true then (none) else (if (bt463.2 != bt456.2) = true then (none) else ((laws_toCommittee.f k a0_0 l0_1).bind fun bt465 => ((laws_eqCommittee.f k bt458.1 bt458.2 bt465.1 bt465.2).bind fun t469 => (if t469 = true then (some true) else (none))))))))))) = some r := H
 have A2 := Aside0.mk A20
 clear A20
 by_cases c3 : t451 < 0
 ·rw [if_pos c3] at H
  have c3b0 : decide (t451 < 0) = true := decide_eq_true c3
  clear c3
  obtain rfl := Option.some.inj H
  go_enter Try.func4, Try.ntmps4
  go_wp2_with (first | ((with_reducible refine gate_dst (N := 1) rfl ?_); refine box_event ?hg (N := 1) ?hd (cs := #[.int .i64 a0_0, .slice A0_1 l0_1.length c0_1]) (t := 24) ?hr ?_; (case hd => rfl); (case hg => rfl); (case hr => first | (go_simp; done) | (go_simp; rfl)); intro gb450 hg w4 hbox hb; have n2_ := Aside0.mk ((by rw [hg]; exact (below_size (zh HB.out)) : w.heap.size ≤ gb450)); replace HB := Aside0.mk (below_step (zh HB.out) hb); have BK450 := Aside0.mk hbox; have GW450 := n2_; have GE450 := n2_; clear n2_ hb hbox hg; have hcz5_0 : w4.cell? ⟨gb450, 0, none⟩ = some (.int .i64 a0_0) := (blk_cell BK450.out 0).trans rfl; have hcz5_1 : w4.cell? ⟨gb450, 1, none⟩ = some (.slice A0_1 l0_1.length c0_1) := (blk_cell BK450.out 1).trans rfl; have hfz5_0 := blk_frozen BK450.out 0; have hfz5_1 := blk_frozen BK450.out 1) | ((with_reducible refine gate_callee (f := 7) rfl ?_); refine goesL_ (some 11) rfl rfl Try.func7 (by kernel_rfl) rfl #[.agg #[.int .i64 a0_0, .slice A0_1 l0_1.length c0_1], .int .i64 1048576] rfl (by (try simp only [List.map_toArray, List.map_cons, List.map_nil]); first | done | rfl | (simp only [List.length_drop, List.length_take]; rfl)) ?_; (with_reducible refine (laws_szCommittee.calls a0_0 _ _ l0_1 1048576 t451 _ ?side1 ?side2 A2.out).mono ?_); (case side1 => repeat (first | exact (Kd.C_below HR0_1.out HB.out) | (with_reducible refine Kd.C_alloc ?_ _) | (with_reducible refine Kd.C_drewN ?_ _) | (with_reducible refine Kd.C_drew ?_))); (case side2 => exact HC0_1.out); rintro e w6 ⟨rfl, hb⟩; refine ⟨_, rfl, ?_⟩; have n0_ := Aside0.mk (blk_below (g := gb450) (o := .cells #[.int .i64 a0_0, .slice A0_1 l0_1.length c0_1] 24 (0, 0)) (zb BK450.out) hb); have n1_ := Aside0.mk (below_step (zh HB.out) hb); clear BK450; clear HB; have BK450 := n0_; have HB := n1_; clear n0_ n1_; (try clear hb); (try clear hb2); (try clear hk); (try clear hi)))
  go_ret
  exact ⟨by first | rfl | (simp [*, errW_none, errW_some] <;> rfl), zh HB.out⟩
 rw [if_neg c3] at H
 have c3b0 : decide (t451 < 0) = false := decide_eq_false c3
 clear c3
 replace H := Option.bind_eq_some_iff.mp H
 obtain ⟨⟨t452, t453⟩, A70, H⟩ := H
 replace H : ((spec_IsLeastCommittee.f k t452 t453).bind fun bt456 => ((laws_toCommittee.f k a0_0 l0_1).bind fun bt458 => ((impl_IsLeastCommittee.f k bt458.1 bt458.2).bind fun bt463 => (if (bt463.1 != bt456.1) = true then (none) else (if (bt463.2 != bt456.2) = true then (none) else ((laws_toCommittee.f k a0_0 l0_1).bind fun bt465 => ((laws_eqCommittee.f k bt458.1 bt458.2 bt465.1 bt465.2).bind fun t469 => (if t469 = true then (some true) else (none))))))))) = some r := H
 have A7 := Aside0.mk A70
 clear A70
 replace H := Option.bind_eq_some_iff.mp H
 obtain ⟨⟨t456, t457⟩, A80, H⟩ := H
 replace H : ((laws_toCommittee.f k a0_0 l0_1).bind fun bt458 => ((impl_IsLeastCommittee.f k bt458.1 bt458.2).bind fun bt463 => (if (bt463.1 != t456) = true then (none) else (if (bt463.2 != t457) = true then (none) else ((laws_toCommittee.f k a0_0 l0_1).bind fun bt465 => ((laws_eqCommittee.f k bt458.1 bt458.2 bt465.1 bt465.2).bind fun t469 => (if t469 = true then (some true) else (none)))))))) = some r := H
 have A8 := Aside0.mk A80
 clear A80
 replace H := Option.bind_eq_some_iff.mp H
 obtain ⟨⟨t458, t459⟩, A90, H⟩ := H
 replace H : ((impl_IsLeastCommittee.f k t458 t459).bind fun bt463 => (if (bt463.1 != t456) = true then (none) else (if (bt463.2 != t457) = true then (none) else ((laws_toCommittee.f k a0_0 l0_1).bind fun bt465 => ((laws_eqCommittee.f k t458 t459 bt465.1 bt465.2).bind fun t469 => (if t469 = true then (some true) else (none))))))) = some r := H
 have A9 := Aside0.mk A90
 clear A90
 replace H := Option.bind_eq_some_iff.mp H
 obtain ⟨⟨t463, t464⟩, A100, H⟩ := H
 replace H : (if (t463 != t456) = true then (none) else (if (t464 != t457) = true then (none) else ((laws_toCommittee.f k a0_0 l0_1).bind fun bt465 => ((laws_eqCommittee.f k t458 t459 bt465.1 bt465.2).bind fun t469 => (if t469 = true then (some true) else (none)))))) = some r := H
 have A10 := Aside0.mk A100
 clear A100
 by_cases c11 : (t463 != t456) = true
 ·rw [if_pos c11] at H
  exact absurd H (by simp)
 rw [if_neg c11] at H
 have c11b0 : (t463 != t456) = false := by simpa using c11
 (try (have c11b1 : decide (t463 = t456) = true := by simpa using c11))
 (try (have c11b2 : (t463 == t456) = true := by simpa using c11))
 clear c11
 by_cases c12 : (t464 != t457) = true
 ·rw [if_pos c12] at H
  exact absurd H (by simp)
 rw [if_neg c12] at H
 have c12b0 : (t464 != t457) = false := by simpa using c12
 (try (have c12b1 : decide (t464 = t457) = true := by simpa using c12))
 (try (have c12b2 : (t464 == t457) = true := by simpa using c12))
 clear c12
 replace H := Option.bind_eq_some_iff.mp H
 obtain ⟨⟨t465, t466⟩, A130, H⟩ := H
 replace H : ((laws_eqCommittee.f k t458 t459 t465 t466).bind fun t469 => (if t469 = true then (some true) else (none))) = some r := H
 have A13 := Aside0.mk A130
 clear A130
 replace H := Option.bind_eq_some_iff.mp H
 obtain ⟨t469, A140, H⟩ := H
 replace H : (if t469 = true then (some true) else (none)) = some r := H
 have A14 := Aside0.mk A140
 clear A140
 by_cases c15 : t469 = true
 rotate_left
 ·replace c15 := Bool.eq_false_iff.mpr c15
  subst c15
  have H1 : (none) = some r := by rw [if_neg (show ¬ (false = true) by decide)] at H; exact H
  clear H
  have H := H1
  clear H1
  exact absurd H (by simp)
 subst c15
 have H1 : (some true) = some r := by rw [if_pos rfl] at H; exact H
 clear H
 have H := H1
 clear H1
 obtain rfl := Option.some.inj H
 go_enter Try.func4, Try.ntmps4
 try go_wp2_with (first | ((with_reducible refine gate_dst (N := 1) rfl ?_); refine box_event ?hg (N := 1) ?hd (cs := #[.int .i64 a0_0, .slice A0_1 l0_1.length c0_1]) (t := 24) ?hr ?_; (case hd => rfl); (case hg => rfl); (case hr => first | (go_simp; done) | (go_simp; rfl)); intro gb450 hg w16 hbox hb; have n2_ := Aside0.mk ((by rw [hg]; exact (below_size (zh HB.out)) : w.heap.size ≤ gb450)); replace HB := Aside0.mk (below_step (zh HB.out) hb); have BK450 := Aside0.mk hbox; have GW450 := n2_; have GE450 := n2_; clear n2_ hb hbox hg; have hcz17_0 : w16.cell? ⟨gb450, 0, none⟩ = some (.int .i64 a0_0) := (blk_cell BK450.out 0).trans rfl; have hcz17_1 : w16.cell? ⟨gb450, 1, none⟩ = some (.slice A0_1 l0_1.length c0_1) := (blk_cell BK450.out 1).trans rfl; have hfz17_0 := blk_frozen BK450.out 0; have hfz17_1 := blk_frozen BK450.out 1) | ((with_reducible refine gate_callee (f := 7) rfl ?_); refine goesL_ (some 11) rfl rfl Try.func7 (by kernel_rfl) rfl #[.agg #[.int .i64 a0_0, .slice A0_1 l0_1.length c0_1], .int .i64 1048576] rfl (by (try simp only [List.map_toArray, List.map_cons, List.map_nil]); first | done | rfl | (simp only [List.length_drop, List.length_take]; rfl)) ?_; (with_reducible refine (laws_szCommittee.calls a0_0 _ _ l0_1 1048576 t451 _ ?side1 ?side2 A2.out).mono ?_); (case side1 => repeat (first | exact (Kd.C_below HR0_1.out HB.out) | (with_reducible refine Kd.C_alloc ?_ _) | (with_reducible refine Kd.C_drewN ?_ _) | (with_reducible refine Kd.C_drew ?_))); (case side2 => exact HC0_1.out); rintro e w18 ⟨rfl, hb⟩; refine ⟨_, rfl, ?_⟩; have n0_ := Aside0.mk (blk_below (g := gb450) (o := .cells #[.int .i64 a0_0, .slice A0_1 l0_1.length c0_1] 24 (0, 0)) (zb BK450.out) hb); have n1_ := Aside0.mk (below_step (zh HB.out) hb); clear BK450; clear HB; have BK450 := n0_; have HB := n1_; clear n0_ n1_; (try clear hb); (try clear hb2); (try clear hk); (try clear hi); have hcz19_0 : w18.cell? ⟨gb450, 0, none⟩ = some (.int .i64 a0_0) := (blk_cell BK450.out 0).trans rfl; have hcz19_1 : w18.cell? ⟨gb450, 1, none⟩ = some (.slice A0_1 l0_1.length c0_1) := (blk_cell BK450.out 1).trans rfl; have hfz19_0 := blk_frozen BK450.out 0; have hfz19_1 := blk_frozen BK450.out 1) | ((with_reducible refine gate_callee (f := 9) rfl ?_); refine goesL_ (some 16) rfl rfl Try.func9 (by kernel_rfl) rfl #[.agg #[.int .i64 a0_0, .slice A0_1 l0_1.length c0_1]] rfl (by (try simp only [List.map_toArray, List.map_cons, List.map_nil]); first | done | rfl | (simp only [List.length_drop, List.length_take]; rfl)) ?_; (with_reducible refine (laws_toCommittee.calls k a0_0 _ _ l0_1 t452 t453 _ ?side1 ?side2 A7.out).mono ?_); (case side1 => repeat (first | exact (Kd.C_below HR0_1.out HB.out) | (with_reducible refine Kd.C_alloc ?_ _) | (with_reducible refine Kd.C_drewN ?_ _) | (with_reducible refine Kd.C_drew ?_))); (case side2 => exact HC0_1.out); rintro e w20 ⟨v454, rfl, ho0, hb⟩; refine ⟨_, rfl, ?_⟩; have n0_ := Aside0.mk (Kd.R_lower ho0 (below_size (zh HB.out))); have n1_ := Aside0.mk (blk_below (g := gb450) (o := .cells #[.int .i64 a0_0, .slice A0_1 l0_1.length c0_1] 24 (0, 0)) (zb BK450.out) hb); have n2_ := Aside0.mk (below_step (zh HB.out) hb); clear BK450; clear HB; have HO455 := n0_; have BK450 := n1_; have HB := n2_; clear n0_ n1_ n2_; (try clear hb); (try clear hb2); (try clear hk); (try clear hi); (try clear ho0); obtain ⟨Ao21, co21, eo21⟩ := Kd.R_slice HO455.out; subst eo21) | ((with_reducible refine gate_callee (f := 14) rfl ?_); refine goesL_ (some 17) rfl rfl Try.func14 (by kernel_rfl) rfl #[.agg #[.int .i64 t452, .slice Ao21 t453.length co21]] rfl (by (try simp only [List.map_toArray, List.map_cons, List.map_nil]); first | done | rfl | (simp only [List.length_drop, List.length_take]; rfl)) ?_; (with_reducible refine (spec_IsLeastCommittee.calls k t452 _ _ t453 t456 t457 _ ?side1 ?side2 A8.out).mono ?_); (case side1 => repeat (first | exact (Kd.R_reads' HO455.out).2.2 | (with_reducible refine Kd.C_alloc ?_ _) | (with_reducible refine Kd.C_drewN ?_ _) | (with_reducible refine Kd.C_drew ?_))); (case side2 => exact (Kd.R_reads' HO455.out).2.1); rintro e w22 ⟨rfl, hb⟩; refine ⟨_, rfl, ?_⟩; have n0_ := Aside0.mk (Kd.R_below (zr HO455.out) hb); have n1_ := Aside0.mk (blk_below (g := gb450) (o := .cells #[.int .i64 a0_0, .slice A0_1 l0_1.length c0_1] 24 (0, 0)) (zb BK450.out) hb); have n2_ := Aside0.mk (below_step (zh HB.out) hb); clear HO455; clear BK450; clear HB; have HO455 := n0_; have BK450 := n1_; have HB := n2_; clear n0_ n1_ n2_; (try clear hb); (try clear hb2); (try clear hk); (try clear hi); have hcz23_0 : w22.cell? ⟨gb450, 0, none⟩ = some (.int .i64 a0_0) := (blk_cell BK450.out 0).trans rfl; have hcz23_1 : w22.cell? ⟨gb450, 1, none⟩ = some (.slice A0_1 l0_1.length c0_1) := (blk_cell BK450.out 1).trans rfl; have hfz23_0 := blk_frozen BK450.out 0; have hfz23_1 := blk_frozen BK450.out 1) | ((with_reducible refine gate_callee (f := 9) rfl ?_); refine goesL_ (some 21) rfl rfl Try.func9 (by kernel_rfl) rfl #[.agg #[.int .i64 a0_0, .slice A0_1 l0_1.length c0_1]] rfl (by (try simp only [List.map_toArray, List.map_cons, List.map_nil]); first | done | rfl | (simp only [List.length_drop, List.length_take]; rfl)) ?_; (with_reducible refine (laws_toCommittee.calls k a0_0 _ _ l0_1 t458 t459 _ ?side1 ?side2 A9.out).mono ?_); (case side1 => repeat (first | exact (Kd.C_below HR0_1.out HB.out) | (with_reducible refine Kd.C_alloc ?_ _) | (with_reducible refine Kd.C_drewN ?_ _) | (with_reducible refine Kd.C_drew ?_))); (case side2 => exact HC0_1.out); rintro e w24 ⟨v460, rfl, ho0, hb⟩; refine ⟨_, rfl, ?_⟩; have n0_ := Aside0.mk (Kd.R_elder' (zr HO455.out) (Kd.R_base ho0) hb); have n1_ := Aside0.mk (Kd.R_lower (Kd.R_new' ho0 (Kd.R_lt (zr HO455.out))) (below_size (zh HB.out))); have n2_ := Aside0.mk (blk_below (g := gb450) (o := .cells #[.int .i64 a0_0, .slice A0_1 l0_1.length c0_1] 24 (0, 0)) (zb BK450.out) hb); have n3_ := Aside0.mk (below_step (zh HB.out) hb); clear HO455; clear BK450; clear HB; have HO455 := n0_; have HO461 := n1_; have BK450 := n2_; have HB := n3_; clear n0_ n1_ n2_ n3_; (try clear hb); (try clear hb2); (try clear hk); (try clear hi); (try clear ho0)) | ((with_reducible refine gate_dst (N := 6) rfl ?_); refine box_event ?hg (N := 6) ?hd (cs := #[.int .i64 0, .slice none 0 0]) (t := 26) ?hr ?_; (case hd => rfl); (case hg => rfl); (case hr => first | (go_simp; done) | (go_simp; rfl)); intro gb462 hg w25 hbox hb; have n0_ := Aside0.mk (Kd.R_below (zr HO455.out) hb); have n1_ := Aside0.mk (Kd.R_below (zr HO461.out) hb); have n2_ := Aside0.mk (blk_below (g := gb450) (o := .cells #[.int .i64 a0_0, .slice A0_1 l0_1.length c0_1] 24 (0, 0)) (zb BK450.out) hb); have n3_ := Aside0.mk (below_step (zh HB.out) hb); have n4_ := Aside0.mk (hbox); have n5_ := Aside0.mk ((by rw [hg]; exact (below_size (zh HB.out)) : w.heap.size ≤ gb462)); have n6_ := Aside0.mk ((by rw [hg]; exact (below_size (zh HB.out)) : w.heap.size ≤ gb462)); have n7_ := Aside0.mk ((by rw [hg]; exact Nat.ne_of_lt (blk_lt (g := gb450) (o := .cells #[.int .i64 a0_0, .slice A0_1 l0_1.length c0_1] 24 (0, 0)) (zb BK450.out)) : gb450 ≠ gb462)); have n8_ := Aside0.mk ((by rw [hg]; exact Nat.ne_of_gt (blk_lt (g := gb450) (o := .cells #[.int .i64 a0_0, .slice A0_1 l0_1.length c0_1] 24 (0, 0)) (zb BK450.out)) : gb462 ≠ gb450)); clear HO455; clear HO461; clear BK450; clear HB; have HO455 := n0_; have HO461 := n1_; have BK450 := n2_; have HB := n3_; have BK462 := n4_; have GW462 := n5_; have GE462 := n6_; have NB450_462 := n7_; have NB462_450 := n8_; clear n0_ n1_ n2_ n3_ n4_ n5_ n6_ n7_ n8_; clear hb hbox hg; have hnb26 := NB462_450.out; have hnc26 := NB450_462.out; have hcz27_0 : w25.cell? ⟨gb462, 0, none⟩ = some (.int .i64 0) := (blk_cell BK462.out 0).trans rfl; have hcz27_1 : w25.cell? ⟨gb462, 1, none⟩ = some (.slice none 0 0) := (blk_cell BK462.out 1).trans rfl; have hfz27_0 := blk_frozen BK462.out 0; have hfz27_1 := blk_frozen BK462.out 1; obtain ⟨Ao28, co28, eo28⟩ := Kd.R_slice HO461.out; subst eo28) | ((with_reducible refine gate_callee (f := 15) rfl ?_); refine goesL_ (some 24) rfl rfl Try.func15 (by kernel_rfl) rfl #[.agg #[.int .i64 t458, .slice Ao28 t459.length co28]] rfl (by (try simp only [List.map_toArray, List.map_cons, List.map_nil]); first | done | rfl | (simp only [List.length_drop, List.length_take]; rfl)) ?_; (with_reducible refine (impl_IsLeastCommittee.calls k t458 _ _ t459 t463 t464 _ ?side1 ?side2 A10.out).mono ?_); (case side1 => refine (Kd.R_reads' (e := 3) (base := w.heap.size) (ok := fun k_ => (True ∧ some k_ ≠ (.slice Ao21 t453.length co21 : Value).ownBlock)) (n := t459.length) (c := co28) ?_).2.2; exact (by (with_reducible repeat (first | apply Kd.R_alloc | apply Kd.R_drewN | apply Kd.R_drew)); exact (Kd.R_mono (Kd.R_far (p := ⟨gb462, 1, none⟩) (Kd.R_far (p := ⟨gb462, 0, none⟩) (Kd.R_types HO461.out BK462.out (by decide)) (fun _ hk => hk.2) (.int .i64 t458)) (fun _ hk => hk.2) (.slice Ao28 t459.length co28)) (fun _ h_ => h_.1)))); (case side2 => exact (Kd.R_reads' HO461.out).2.1); rintro e w29 ⟨rfl, hb⟩; refine ⟨_, rfl, ?_⟩; have n0_ := Aside0.mk (Kd.R_below (by (with_reducible repeat (first | apply Kd.R_alloc | apply Kd.R_drewN | apply Kd.R_drew)); exact (Kd.R_mono (Kd.R_far (p := ⟨gb462, 1, none⟩) (Kd.R_far (p := ⟨gb462, 0, none⟩) (Kd.R_types HO455.out BK462.out (by decide)) (fun _ hk => hk.2) (.int .i64 t458)) (fun _ hk => hk.2) (.slice Ao28 t459.length co28)) (fun _ h_ => h_.1))) hb); have n1_ := Aside0.mk (Kd.R_below (by (with_reducible repeat (first | apply Kd.R_alloc | apply Kd.R_drewN | apply Kd.R_drew)); exact (Kd.R_mono (Kd.R_far (p := ⟨gb462, 1, none⟩) (Kd.R_far (p := ⟨gb462, 0, none⟩) (Kd.R_types HO461.out BK462.out (by decide)) (fun _ hk => hk.2) (.int .i64 t458)) (fun _ hk => hk.2) (.slice Ao28 t459.length co28)) (fun _ h_ => h_.1))) hb); have n2_ := Aside0.mk (blk_below (g := gb450) (o := .cells #[.int .i64 a0_0, .slice A0_1 l0_1.length c0_1] 24 (0, 0)) (by (with_reducible repeat (first | refine blk_drewN ?_ _ | refine blk_drew ?_ | refine blk_alloc ?_ _)); refine blk_far ?_ NB450_462.out _; (with_reducible repeat (first | refine blk_drewN ?_ _ | refine blk_drew ?_ | refine blk_alloc ?_ _)); refine blk_far ?_ NB450_462.out _; (with_reducible repeat (first | refine blk_drewN ?_ _ | refine blk_drew ?_ | refine blk_alloc ?_ _)); exact BK450.out) hb); have n3_ := Aside0.mk (blk_below (g := gb462) (o := .cells #[.int .i64 t458, .slice Ao28 t459.length co28] 26 (0, 0)) (by (with_reducible repeat (first | refine blk_drewN ?_ _ | refine blk_drew ?_ | refine blk_alloc ?_ _)); refine blk_put (cs := #[.int .i64 t458, .slice none 0 0]) ?_ 1 _ rfl; (with_reducible repeat (first | refine blk_drewN ?_ _ | refine blk_drew ?_ | refine blk_alloc ?_ _)); refine blk_put (cs := #[.int .i64 0, .slice none 0 0]) ?_ 0 _ rfl; (with_reducible repeat (first | refine blk_drewN ?_ _ | refine blk_drew ?_ | refine blk_alloc ?_ _)); exact BK462.out) hb); have n4_ := Aside0.mk (below_step (zh HB.out) hb); clear HO455; clear HO461; clear BK450; clear BK462; clear HB; have HO455 := n0_; have HO461 := n1_; have BK450 := n2_; have BK462 := n3_; have HB := n4_; clear n0_ n1_ n2_ n3_ n4_; (try clear hb); (try clear hb2); (try clear hk); (try clear hi)))
 have n0_ := Aside0.mk (Kd.R_drew HO455.out)
 have n1_ := Aside0.mk (Kd.R_drew HO461.out)
 have n2_ := Aside0.mk (blk_drew BK450.out)
 have n3_ := Aside0.mk (blk_drew BK462.out)
 have n4_ := Aside0.mk (below_drew1 HB.out)
 clear HO455
 clear HO461
 clear BK450
 clear BK462
 clear HB
 have HO455 := n0_
 have HO461 := n1_
 have BK450 := n2_
 have BK462 := n3_
 have HB := n4_
 clear n0_ n1_ n2_ n3_ n4_
 refine start_ (n := 5) (S := fun w' => w'.cell? ⟨gb462, 0, none⟩ = some (.int .i64 t458) ∧ w'.cell? ⟨gb462, 1, none⟩ = some (.slice Ao28 t459.length co28) ∧ w'.cell? ⟨gb450, 0, none⟩ = some (.int .i64 a0_0) ∧ w'.cell? ⟨gb450, 1, none⟩ = some (.slice A0_1 l0_1.length c0_1)) (ds := []) #[false, false, false, false, false] (by kernel_rfl) rfl rfl ⟨(blk_cell BK462.out 0).trans rfl, (blk_cell BK462.out 1).trans rfl, (blk_cell BK450.out 0).trans rfl, (blk_cell BK450.out 1).trans rfl⟩ (fun hHeld => ?_)
 generalize w29.drew = w30 at HO455 HO461 BK450 BK462 HB hHeld ⊢
 refine take_ (i := 0) (N := some 35) (v := ?_) (a' := ?_) #[true, false, false, false, false] rfl rfl (by kernel_rfl) (fun _ _ _ h => h) (Or.inl ⟨by rfl, ?_⟩) hHeld ?_ ?_
 rotate_left
 ·rintro w' ⟨s0, s1, s2, s3⟩
  go_simp
  with_reducible rfl
 rotate_left
 ·simp only [Act.put, List.setIfInBounds_toArray, List.set_cons_zero, List.set_cons_succ, i64_w, i32_w]
  rfl
 refine take_ (i := 1) (N := some 36) (v := ?_) (a' := ?_) #[true, true, false, false, false] rfl rfl (by kernel_rfl) (fun _ _ _ h => h) (Or.inl ⟨by rfl, ?_⟩) hHeld ?_ ?_
 rotate_left
 ·rintro w' ⟨s0, s1, s2, s3⟩
  go_simp
  with_reducible rfl
 rotate_left
 ·simp only [Act.put, List.setIfInBounds_toArray, List.set_cons_zero, List.set_cons_succ, i64_w, i32_w]
  rfl
 refine one_ (i := 2) (N := some 37) #[true, true, true, false, false] rfl rfl (by kernel_rfl) (by decide) (fun K hK => ?_)
 refine goes_ Try.func9 (by kernel_rfl) rfl #[.agg #[.int .i64 a0_0, .slice A0_1 l0_1.length c0_1]] (by rfl) rfl rfl (by (try simp only [List.map_toArray, List.map_cons, List.map_nil]); first | done | rfl | (simp only [List.length_drop, List.length_take]; rfl)) ?_
 with_reducible refine (laws_toCommittee.calls k a0_0 _ _ l0_1 t465 t466 _ ?side1 ?side2 A13.out).mono ?_
 (case side1 => repeat (first | exact (Kd.C_below HR0_1.out HB.out) | (with_reducible refine Kd.C_alloc ?_ _) | (with_reducible refine Kd.C_drewN ?_ _) | (with_reducible refine Kd.C_drew ?_)))
 (case side2 => exact HC0_1.out)
 rintro e w31 ⟨v467, rfl, ho0, hb⟩
 refine ⟨_, rfl, ?_⟩
 have n0_ := Aside0.mk (Kd.R_elder' (zr HO455.out) (Kd.R_base ho0) hb)
 have n1_ := Aside0.mk (Kd.R_elder' (zr HO461.out) (Kd.R_base ho0) hb)
 have n2_ := Aside0.mk (Kd.R_lower (Kd.R_new' (Kd.R_new' ho0 (Kd.R_lt (zr HO455.out))) (Kd.R_lt (zr HO461.out))) (below_size (zh HB.out)))
 have n3_ := Aside0.mk (blk_below (g := gb450) (o := .cells #[.int .i64 a0_0, .slice A0_1 l0_1.length c0_1] 24 (0, 0)) (zb BK450.out) hb)
 have n4_ := Aside0.mk (blk_below (g := gb462) (o := .cells #[.int .i64 t458, .slice Ao28 t459.length co28] 26 (0, 0)) (zb BK462.out) hb)
 have n5_ := Aside0.mk (below_step (zh HB.out) hb)
 clear HO455
 clear HO461
 clear BK450
 clear BK462
 clear HB
 have HO455 := n0_
 have HO461 := n1_
 have HO468 := n2_
 have BK450 := n3_
 have BK462 := n4_
 have HB := n5_
 clear n0_ n1_ n2_ n3_ n4_ n5_
 (try clear hb)
 (try clear hb2)
 (try clear hk)
 (try clear hi)
 (try clear ho0)
 obtain ⟨Ao32, co32, eo32⟩ := Kd.R_slice HO468.out
 (first | subst eo32 | (injection eo32 with f1_ f2_ f3_; have f4_ := f1_.symm; have f5_ := f3_.symm; clear f1_ f2_ f3_; subst f4_; subst f5_))
 refine hK.out _ _ ⟨(blk_cell BK462.out 0).trans rfl, (blk_cell BK462.out 1).trans rfl, (blk_cell BK450.out 0).trans rfl, (blk_cell BK450.out 1).trans rfl⟩ (fun hHeld => ?_)
 clear hK K
 refine norm_ (a' := ?_) ?_ ?_
 rotate_left
 ·show Act.put _ (some 37) _ = _
  simp only [Act.put, List.setIfInBounds_toArray, List.set_cons_zero, List.set_cons_succ, i64_w, i32_w]
  rfl
 refine one_ (i := 3) (N := some 38) #[true, true, true, true, false] rfl rfl (by kernel_rfl) (by decide) (fun K hK => ?_)
 refine goes_ Try.func11 (by kernel_rfl) rfl #[.agg #[.int .i64 t458, .slice Ao28 t459.length co28], .agg #[.int .i64 t465, .slice Ao32 t466.length co32]] (by rfl) rfl rfl (by (try simp only [List.map_toArray, List.map_cons, List.map_nil]); first | done | rfl | (simp only [List.length_drop, List.length_take]; rfl)) ?_
 with_reducible refine (laws_eqCommittee.calls k t458 _ _ t459 t465 _ _ t466 true _ ?side1 ?side2 ?side3 ?side4 A14.out).mono ?_
 (case side1 => repeat (first | exact (Kd.R_reads' HO461.out).2.2 | (with_reducible refine Kd.C_alloc ?_ _) | (with_reducible refine Kd.C_drewN ?_ _) | (with_reducible refine Kd.C_drew ?_)))
 (case side2 => exact (Kd.R_reads' HO461.out).2.1)
 (case side3 => repeat (first | exact (Kd.R_reads' HO468.out).2.2 | (with_reducible refine Kd.C_alloc ?_ _) | (with_reducible refine Kd.C_drewN ?_ _) | (with_reducible refine Kd.C_drew ?_)))
 (case side4 => exact (Kd.R_reads' HO468.out).2.1)
 rintro e w33 ⟨rfl, hb⟩
 refine ⟨_, rfl, ?_⟩
 have n0_ := Aside0.mk (Kd.R_below (zr HO455.out) hb)
 have n1_ := Aside0.mk (Kd.R_below (zr HO461.out) hb)
 have n2_ := Aside0.mk (Kd.R_below (zr HO468.out) hb)
 have n3_ := Aside0.mk (blk_below (g := gb450) (o := .cells #[.int .i64 a0_0, .slice A0_1 l0_1.length c0_1] 24 (0, 0)) (zb BK450.out) hb)
 have n4_ := Aside0.mk (blk_below (g := gb462) (o := .cells #[.int .i64 t458, .slice Ao28 t459.length co28] 26 (0, 0)) (zb BK462.out) hb)
 have n5_ := Aside0.mk (below_step (zh HB.out) hb)
 clear HO455
 clear HO461
 clear HO468
 clear BK450
 clear BK462
 clear HB
 have HO455 := n0_
 have HO461 := n1_
 have HO468 := n2_
 have BK450 := n3_
 have BK462 := n4_
 have HB := n5_
 clear n0_ n1_ n2_ n3_ n4_ n5_
 (try clear hb)
 (try clear hb2)
 (try clear hk)
 (try clear hi)
 refine hK.out _ _ ⟨(blk_cell BK462.out 0).trans rfl, (blk_cell BK462.out 1).trans rfl, (blk_cell BK450.out 0).trans rfl, (blk_cell BK450.out 1).trans rfl⟩ (fun hHeld => ?_)
 clear hK K
 refine norm_ (a' := ?_) ?_ ?_
 rotate_left
 ·show Act.put _ (some 38) _ = _
  simp only [Act.put, List.setIfInBounds_toArray, List.set_cons_zero, List.set_cons_succ, i64_w, i32_w]
  rfl
 refine pure_ (i := 4) (N := some 39) (v := ?_) (a' := ?_) #[true, true, true, true, true] rfl rfl (by kernel_rfl) (fun _ _ _ h => h) (Or.inl ⟨by rfl, ?_⟩) ?_ ?_
 rotate_left
 ·intro w'
  go_simp
  with_reducible rfl
 rotate_left
 ·simp only [Act.put, List.setIfInBounds_toArray, List.set_cons_zero, List.set_cons_succ, i64_w, i32_w]
  rfl
 refine done_ (by kernel_rfl) ?_
 try go_wp2
 go_ret
 exact ⟨by first | rfl | (simp [*, errW_none, errW_some] <;> rfl), zh HB.out⟩
end Go.Proofs.Ytlhkphehlocdcaa.Q
end
section
namespace Go.Proofs.Ytlhkphehlocdcaa.Q
open Go.RowKit Go.Proofs.YtlhkphehlocdcaaW.PrintWords Go.Proofs.YtlhkphehlocdcaaW.PrintLast Go.Proofs.YtlhkphehlocdcaaW.PrintMore
set_option linter.unusedVariables false
set_option linter.unusedSimpArgs false
open Go.ChangeShapes Go.WideShapes Go.ChangeAt Go.Deep
section
variable {H : Type} {enc : TypeId × Value → H} {P : Program} {W : World} {α β γ : Type}
def Opens (enc : TypeId × Value → H) (P : Program) (W : World) (t : TypeId) (d : Kd α) (G : α → Prop) : Prop :=
  ∀ (fuel : Nat) (cs : List Value) (y : DataW H × List MemPlace), DataW.trod enc P W 0 (fun _ => true) true fuel t cs = some y → ∃ x, d.K W x cs ∧ G x
def I64 (x : Int) : Prop := -9223372036854775808 ≤ x ∧ x ≤ 9223372036854775807
theorem opens_int {t : TypeId} (ht : P.underlying t = some (.int .i64)) : Opens enc P W t (Kd.int .i64) I64 := by
  intro fuel cs y h
  obtain ⟨n, rfl, _, hw⟩ := DataW.trod_int ht h
  exact ⟨n, rfl, Go.bounds_i64 hw⟩
theorem opens_slice [Inhabited α] {t e : TypeId} {d : Kd α} {G : α → Prop} (ht : P.underlying t = some (.slice e)) (he : P.cellsOf e = d.sz) (h : Opens enc P W e d G) :
    Opens enc P W t (Kd.slice e d) (fun xs => ∀ x ∈ xs, G x) := by
  intro fuel cs y hr
  rcases Deep.open_slice ht hr with ⟨rfl, _⟩ | ⟨a, len, cap, m, n, D, Pl, rfl, _, hlc, hcm, hm, _, hel⟩
  · exact ⟨[], ⟨none, 0, rfl, Nat.le_refl _, rfl, by simp, fun hp => absurd hp (by simp)⟩, fun x hx => by cases hx⟩
  · have hm' : len ≤ m := by rw [hm]; simp; omega
    have key : ∀ i, i < len → ∃ x, (∃ cs', d.K W x cs' ∧ ∀ j u, cs'[j]? = some u → W.cell? (a.add (i * d.sz + j)) = some u) ∧ G x := by
      intro i hi
      obtain ⟨cs', h1, h2⟩ := hel i (by omega)
      obtain ⟨x, hx, hG⟩ := h _ _ _ h2
      obtain ⟨_, hl, hc⟩ := World.cells?_some h1
      refine ⟨x, ⟨cs', hx, fun j u hu => ?_⟩, hG⟩
      have hj : j < P.cellsOf e := by rw [← hl]; exact (List.getElem?_eq_some_iff.1 hu).1
      have h3 := hc j hj
      rw [Deep.add_add, he] at h3
      rw [h3, hu]
    obtain ⟨f, hf⟩ := Deep.choose_lt key
    have hlen : ((List.range len).map f).length = len := by simp
    refine ⟨(List.range len).map f, ⟨some a, cap, by rw [hlen], by rw [hlen]; exact hlc, rfl, ?_, fun _ => ⟨a, rfl, fun j p hj => ?_⟩⟩, fun x hx => ?_⟩
    · rw [hlen]; unfold maxLen at hcm; omega
    · obtain ⟨hj1, hj2⟩ := List.getElem?_eq_some_iff.1 hj
      have hjl : j < len := by rw [hlen] at hj1; exact hj1
      have : p = f j := by rw [← hj2]; simp
      subst this
      obtain ⟨⟨cs', hK, hc⟩, _⟩ := hf j hjl
      exact ⟨cs', d.K_len hK, hK, hc⟩
    · obtain ⟨i, hi, rfl⟩ := List.mem_map.1 hx
      exact (hf i (List.mem_range.1 hi)).2
theorem opens_pair {t : TypeId} {f0 f1 : Field} {d0 : Kd α} {d1 : Kd β} {G0 : α → Prop} {G1 : β → Prop} (ht : P.underlying t = some (.struct #[f0, f1])) (hC : P.cellsOf t = d0.sz + d1.sz)
    (o0 : f0.offset = 0) (o1 : f1.offset = d0.sz) (c0 : P.cellsOf f0.type = d0.sz) (c1 : P.cellsOf f1.type = d1.sz) (h0 : Opens enc P W f0.type d0 G0) (h1 : Opens enc P W f1.type d1 G1) :
    Opens enc P W t (Kd.pair d0 d1) (fun x => G0 x.1 ∧ G1 x.2) := by
  intro fuel cs y hr
  obtain ⟨y0, y1, n, _, hl, r0, r1⟩ := trod_struct2 ht hr
  rw [o0, c0] at r0
  rw [o1, c1] at r1
  obtain ⟨x0, k0, g0⟩ := h0 _ _ _ r0
  obtain ⟨x1, k1, g1⟩ := h1 _ _ _ r1
  refine ⟨(x0, x1), ⟨_, _, ?_, k0, k1⟩, g0, g1⟩
  rw [List.drop_zero, List.take_of_length_le (l := cs.drop d0.sz) (by rw [List.length_drop, hl, hC]; omega), List.take_append_drop]
theorem open_struct {r : Reach} {b0 : Nat} {t : TypeId} {fs : Array Field} {d : Kd α} {G : α → Prop} {v : Value} {y : DataW H} {p : List MemPlace} (ht : P.underlying t = some (.struct fs)) (hv : Value.okWide P W r b0 t v)
    (hr : DataW.Trod enc P W 0 (fun _ => true) true t v y p) (h : Opens enc P W t d G) : ∃ x cs, v = .agg cs ∧ d.K W x cs.toList ∧ G x := by
  obtain ⟨cs, rfl, _⟩ := okWide_struct ht hv
  obtain ⟨fuel, hf⟩ := hr
  obtain ⟨x, k, g⟩ := h _ _ _ hf
  exact ⟨x, cs, rfl, k, g⟩
end
end Go.Proofs.Ytlhkphehlocdcaa.Q
end
section
namespace Go.Proofs.Ytlhkphehlocdcaa.Q
open Go.RowKit Go.Proofs.YtlhkphehlocdcaaW.PrintWords Go.Proofs.YtlhkphehlocdcaaW.PrintLast Go.Proofs.YtlhkphehlocdcaaW.PrintMore
set_option linter.unusedVariables false
set_option linter.unusedSimpArgs false
def mk (l : List (List Int)) (i : Nat) : Nat := maskN 0 (l.getD i [])
theorem maskN_lt2 (n : Nat) (l : List Int) : ∀ m, m < 2 ^ n → (∀ x ∈ l, 0 ≤ x ∧ x ≤ (n : Int) - 1) → maskN m l < 2 ^ n := by
  induction l with
  | nil => intro m hm _; exact hm
  | cons x l ih =>
    intro m hm h
    refine ih _ ?_ (fun y hy => h y (List.mem_cons_of_mem _ hy))
    have hx := h x (List.mem_cons_self ..)
    exact Nat.or_lt_two_pow hm (Nat.pow_lt_pow_right (by decide) (by omega))
def SetsOk (m : Int) (l : List (List Int)) : Prop := (1 ≤ m ∧ m ≤ 9) ∧ ∀ x ∈ l, isSetB x m = true ∧ x.length ≤ 1048576
theorem SetsOk.elem {m : Int} {l : List (List Int)} (h : SetsOk m l) {x : List Int} (hx : x ∈ l) : ∀ y ∈ x, 0 ≤ y ∧ y ≤ (9 : Nat) - 1 := fun y hy => by
  have := isSetB_mem (h.2 x hx).1 y hy
  have := h.1
  omega
theorem SetsOk.lt {m : Int} {l : List (List Int)} (h : SetsOk m l) {i : Nat} (hi : i < l.length) : mk l i < 512 := by
  unfold mk
  rw [getD_get hi]
  exact maskN_lt2 9 _ 0 (by decide) (h.elem (List.getElem_mem hi))
theorem SetsOk.masks {m : Int} {l : List (List Int)} (h : SetsOk m l) {i : Nat} (hi : i < l.length) : Ev (fun k => impl_maskOf.f k l[i]) (mk l i : Int) ∧ Ev (fun k => spec_voBits.f k l[i]) (mk l i : Int) := by
  have hx := List.getElem_mem hi
  have := maskOf_ev l[i] (Nat.le_trans (h.2 _ hx).2 (by decide)) (fun y hy => by have := h.elem hx y hy; omega)
  unfold mk
  rw [getD_get hi]
  exact this
theorem and_eq_nat {a b c : Nat} (ha : a < 512) (hb : b < 512) : (Go.bits .and .i64 (a : Int) (b : Int) = (c : Int)) ↔ ((a &&& b == c) = true) := by
  rw [and_nat a b (by omega) (by omega), beq_iff_eq]
  omega
theorem rdOf_get {xs : List Bool} {i : Nat} (h : i < xs.length) : rdOf false xs (i : Int) = xs[i] := by unfold rdOf; rw [Int.toNat_natCast]; exact getD_get h
def tabB (g : Nat → Bool) (n : Nat) : List Bool := (List.range n).map g
theorem tabB_len (g : Nat → Bool) (n : Nat) : (tabB g n).length = n := by simp [tabB]
theorem tabB_get (g : Nat → Bool) (n i : Nat) (h : i < (tabB g n).length) : (tabB g n)[i] = g i := by simp [tabB]
theorem tabB_succ (g : Nat → Bool) (n : Nat) : tabB g (n + 1) = tabB g n ++ [g n] := by simp [tabB, List.range_succ]
theorem tabB_set (g : Nat → Bool) (i : Nat) (b b' : Bool) (l : List Bool) : (tabB g i ++ b :: l).set i b' = tabB g i ++ b' :: l := by
  rw [List.set_append_right _ _ (by rw [tabB_len]; omega), tabB_len, Nat.sub_self]; rfl
theorem tabB_rd (g : Nat → Bool) (i : Nat) (b : Bool) (l : List Bool) : rdOf false (tabB g i ++ b :: l) (i : Int) = b := by
  rw [rdOf_get (by rw [List.length_append, tabB_len, List.length_cons]; omega), List.getElem_append_right (by rw [tabB_len]; omega)]
  simp [tabB_len]
theorem tabB_next (g : Nat → Bool) (i : Nat) (l : List Bool) : tabB g i ++ g i :: l = tabB g (i + 1) ++ l := by rw [tabB_succ, List.append_assoc]; rfl
def winB (l : List (List Int)) (i : Nat) : Bool := l.any fun s => i &&& maskN 0 s == maskN 0 s
def winT (m : Int) (l : List (List Int)) : List Bool := tabB (winB l) (2 ^ m.toNat)
theorem and_self_nat {a b : Nat} (ha : a < 512) (hb : b < 512) : (Go.bits .and .i64 (a : Int) (b : Int) == (b : Int)) = (a &&& b == b) := by
  rw [Bool.eq_iff_iff, ← and_eq_nat ha hb, beq_iff_eq]
theorem pow_le512 {m : Int} (h : 1 ≤ m ∧ m ≤ 9) : 2 ^ m.toNat ≤ 512 := Nat.pow_le_pow_right (n := 2) (by decide) (show m.toNat ≤ 9 by omega)
theorem voAll_nat {m : Int} (h : 1 ≤ m ∧ m ≤ 9) : spec_voAll.f m = some (((2 ^ m.toNat - 1 : Nat) : Int)) := by
  rw [voAll_eq m (by omega)]
  have : 1 ≤ 2 ^ m.toNat := Nat.one_le_two_pow
  congr 1
  rw [Int.ofNat_sub this]; simp
theorem gmWins_l1 (n i : Nat) (m : Int) (l : List (List Int)) (hl : l.length ≤ 1048576) (h : SetsOk m l) (hi : i < n) (hn : n ≤ 512) (r : List Bool) (ih : Ev (fun k => spec_gmWins.l0 k l (tabB (winB l) (i + 1) ++ List.replicate (n - (i + 1)) false) (n : Int) ((i + 1 : Nat) : Int)) r) :
    ∀ j, j ≤ l.length → Ev (fun k => spec_gmWins.l1 k l (tabB (winB l) i ++ ((l.take j).any fun s => i &&& maskN 0 s == maskN 0 s) :: List.replicate (n - (i + 1)) false) (i : Int) (n : Int) (i : Int) l (l.length : Int) (j : Int)) r := by
  have hlen : ∀ b : Bool, (tabB (winB l) i ++ b :: List.replicate (n - (i + 1)) false).length = n := fun b => by rw [List.length_append, tabB_len, List.length_cons, List.length_replicate]; omega
  refine ev_range l.length (fun k j => spec_gmWins.l1 k l (tabB (winB l) i ++ ((l.take j).any fun s => i &&& maskN 0 s == maskN 0 s) :: List.replicate (n - (i + 1)) false) (i : Int) (n : Int) (i : Int) l (l.length : Int) (j : Int)) (fun _ => r) ?_ ?_
  · refine ev_succ ?_
    simp only [spec_gmWins.l1]
    refine ev_neg (Int.lt_irrefl _) ?_
    rw [List.take_length, wrap_succ hi (Nat.le_trans hn (by decide))]
    have e : (l.any fun s => i &&& maskN 0 s == maskN 0 s) = winB l i := by unfold winB; rfl
    rw [e, tabB_next]
    exact ih
  · intro j hj ihj
    refine ev_succ ?_
    simp only [spec_gmWins.l1]
    refine ev_pos (by omega) (ev_pos (by omega) (ev_pos (by omega) ?_))
    rw [rdL1_get hj, wrap_succ hj (Nat.le_trans hl (by decide))]
    have hm := (h.masks hj).2
    have hk : mk l j = maskN 0 l[j] := by unfold mk; rw [getD_get hj]
    have hlt := h.lt hj
    rw [hk] at hm hlt
    refine Ev.bind hm (ev_pos (by omega) (ev_pos (by rw [hlen]; omega) ?_))
    rw [tabB_rd, Int.toNat_natCast, tabB_set, tabB_set, and_self_nat (by omega) hlt]
    rw [List.take_succ_eq_append_getElem hj, List.any_append] at ihj
    simp only [List.any_cons, List.any_nil, Bool.or_false] at ihj
    refine ev_bool (fun e => ?_) (fun e => ?_)
    · rw [e, Bool.true_or] at ihj; exact ihj
    · rw [e, Bool.false_or] at ihj; exact ihj
theorem gmWins_l0 (n : Nat) (m : Int) (l : List (List Int)) (hl : l.length ≤ 1048576) (h : SetsOk m l) (hn : n ≤ 512) :
    Ev (fun k => spec_gmWins.l0 k l (List.replicate n false) (n : Int) 0) (tabB (winB l) n) := by
  have := ev_range n (fun k i => spec_gmWins.l0 k l (tabB (winB l) i ++ List.replicate (n - i) false) (n : Int) (i : Int)) (fun _ => tabB (winB l) n) ?_ ?_ 0 (Nat.zero_le _)
  · simpa [tabB] using this
  · refine ev_succ ?_
    simp only [spec_gmWins.l0]
    exact ev_neg (Int.lt_irrefl _) (ev_eqv (Ev.now _) (by simp))
  · intro i hi ih
    refine ev_succ ?_
    simp only [spec_gmWins.l0]
    refine ev_pos (by omega) ?_
    have := gmWins_l1 n i m l hl h hi hn _ ih 0 (Nat.zero_le _)
    rw [show n - i = (n - (i + 1)) + 1 by omega, List.replicate_succ]
    simpa using this
theorem gmWins_ev (m : Int) (l : List (List Int)) (hl : l.length ≤ 1048576) (h : SetsOk m l) : Ev (fun k => spec_gmWins.f k m l) (winT m l) := by
  have hp := pow_le512 h.1
  have h1 : 1 ≤ 2 ^ m.toNat := Nat.one_le_two_pow
  have hw : wrap64 (((2 ^ m.toNat - 1 : Nat) : Int) + 1) = ((2 ^ m.toNat : Nat) : Int) := by
    generalize 2 ^ m.toNat = n at hp h1
    unfold wrap64; omega
  have hl0 := gmWins_l0 (2 ^ m.toNat) m l hl h hp
  unfold spec_gmWins.f winT
  refine ev_bindS (voAll_nat h.1) ?_
  generalize 2 ^ m.toNat = n at *
  rw [hw]
  have hn2 : (n : Int).toNat ≤ 281474976710656 := by rw [Int.toNat_natCast]; exact Nat.le_trans hp (by decide)
  refine ev_pos (Int.natCast_nonneg n) (ev_pos hn2 (ev_bindS rfl ?_))
  simp only [Int.toNat_natCast, List.length_replicate]
  exact hl0
theorem andNot_nat (a b : Nat) (ha : a < 2 ^ 62) (hb : b < 2 ^ 62) : Go.bits .andNot .i64 (a : Int) (b : Int) = ((a ^^^ (a &&& b) : Nat) : Int) := by
  have ha' : a % 2 ^ 64 = a := Nat.mod_eq_of_lt (by omega)
  have hb' : b % 2 ^ 64 = b := Nat.mod_eq_of_lt (by omega)
  have e : a &&& (2 ^ 64 - (b + 1)) = a ^^^ (a &&& b) := by
    refine Nat.eq_of_testBit_eq fun i => ?_
    rw [Nat.testBit_and, Nat.testBit_xor, Nat.testBit_and, Nat.testBit_two_pow_sub_succ (by omega)]
    by_cases hi : i < 64
    · cases a.testBit i <;> cases b.testBit i <;> simp [hi]
    · have : a.testBit i = false := Nat.testBit_lt_two_pow (Nat.lt_of_lt_of_le (show a < 2 ^ 64 by omega) (Nat.pow_le_pow_right (by decide) (by omega)))
      simp [this]
  have h : Go.bits .andNot .i64 (a : Int) (b : Int) = IntKind.i64.wrap ((a &&& (2 ^ 64 - 1 - b % 2 ^ 64) : Nat) : Int) := by
    show IntKind.i64.wrap ((BitVec.ofInt 64 (a : Int) &&& ~~~ (BitVec.ofInt 64 (b : Int))).toNat : Int) = _
    rw [BitVec.ofInt_natCast, BitVec.ofInt_natCast, BitVec.toNat_and, BitVec.toNat_not, BitVec.toNat_ofNat, BitVec.toNat_ofNat, ha']
  rw [h, hb', show 2 ^ 64 - 1 - b = 2 ^ 64 - (b + 1) by omega, e]
  have : a ^^^ (a &&& b) < 2 ^ 62 := Nat.xor_lt_two_pow ha (Nat.and_lt_two_pow _ hb)
  exact wraps_i64 _ (by omega) (by exact_mod_cast this)
def bitB (m i : Nat) : Bool := m >>> i % 2 == 1
theorem has_eq (m i : Nat) (hm : m < 65536) (hi : i ≤ 64) : impl_has.f (m : Int) (i : Int) = some (bitB m i) := by
  unfold impl_has.f bitB
  have h2 : m >>> i < 2 ^ 62 := shr_lt _ _ (by omega)
  rw [if_pos (by omega), shr_nat _ _ hi, and_one_nat _ h2]
  congr 1
  rw [Bool.eq_iff_iff, beq_iff_eq, beq_iff_eq]
  omega
theorem tmod_bit (m i : Nat) (hi : i ≤ 64) : Int.tmod (shr .i64 (m : Int) (i : Int)) 2 = 0 ↔ bitB m i = false := by
  rw [shr_nat _ _ hi, tmod_two]
  unfold bitB
  rw [beq_eq_false_iff_ne]
  omega
theorem tmod_bit1 (m i : Nat) (hi : i ≤ 64) : Int.tmod (shr .i64 (m : Int) (i : Int)) 2 = 1 ↔ bitB m i = true := by
  rw [shr_nat _ _ hi, tmod_two]
  unfold bitB
  rw [beq_iff_eq]
  omega
theorem fin512 {P : Nat → Nat → Prop} [∀ m i, Decidable (P m i)] (h : ((List.range 512).all fun m => (List.range 9).all fun i => decide (P m i)) = true) : ∀ m i, m < 512 → i < 9 → P m i := fun m i hm hi =>
  of_decide_eq_true (List.all_eq_true.1 (List.all_eq_true.1 h m (List.mem_range.2 hm)) i (List.mem_range.2 hi))
theorem or_bit : ∀ m i, m < 512 → i < 9 → m ||| 2 ^ i = if bitB m i = true then m else m + 2 ^ i := fin512 (by decide +kernel)
theorem rdOf_tab {g : Nat → Bool} {N i : Nat} (h : i < N) : rdOf false (tabB g N) (i : Int) = g i := by
  rw [rdOf_get (by rw [tabB_len]; exact h), tabB_get]
theorem pow_lt9 {i n : Nat} (h : i < n) (hn : n ≤ 9) : 2 ^ i < 2 ^ n ∧ 2 ^ n ≤ 512 :=
  ⟨Nat.pow_lt_pow_right (by decide) h, Nat.pow_le_pow_right (n := 2) (by decide) hn⟩
theorem add_lt (m i n : Nat) (hn : n ≤ 9) (hm : m < 2 ^ n) (hi : i < n) (hb : bitB m i = false) : m + 2 ^ i < 2 ^ n := by
  have hp := (pow_lt9 hi hn).2
  have := Nat.or_lt_two_pow hm (pow_lt9 hi hn).1
  rw [or_bit m i (by omega) (by omega), if_neg (by simp [hb])] at this
  exact this
def setsM (q : Nat → Bool) (N : Nat) : List (List Int) := ((List.range N).filter q).map setL
theorem setsM_len (q : Nat → Bool) (N : Nat) : (setsM q N).length ≤ N := by unfold setsM; rw [List.length_map]; exact Nat.le_trans (List.length_filter_le _ _) (by simp)
theorem setsM_mem {q : Nat → Bool} {N : Nat} {x : List Int} (h : x ∈ setsM q N) : x.length ≤ 16 := by
  obtain ⟨m, _, rfl⟩ := List.mem_map.1 h
  exact bitsL_len _ _ _
theorem setsM_succ (q : Nat → Bool) (i : Nat) : setsM q (i + 1) = setsM q i ++ if q i = true then [setL i] else [] := by
  unfold setsM
  rw [List.range_succ, List.filter_append, List.map_append]
  congr 1
  by_cases h : q i = true
  · rw [if_pos h, List.filter_cons_of_pos h]; rfl
  · rw [if_neg h, List.filter_cons_of_neg h]; rfl
theorem sets_fix (n : Int) (l : List Bool) (N : Nat) (hN : l.length = N) (hN2 : N ≤ 512) (p : Int → Option Bool) (q : Nat → Bool) (h : ∀ m, m < N → p (m : Int) = some (q m)) : Ev (fun k => impl_votes_sets.f k n l p) (sortL lexB (setsM q N)) := by
  unfold impl_votes_sets.f
  rw [hN]
  refine ev_range N (fun k i => impl_votes_sets.l0 p k (setsM q i) (N : Int) (i : Int)) (fun _ => sortL lexB (setsM q N)) ?_ ?_ 0 (Nat.zero_le _)
  · refine ev_succ ?_
    simp only [impl_votes_sets.l0]
    refine ev_neg (by omega) (ev_bindS (show sortSets.f (setsM q N) = some (sortL lexB (setsM q N)) by
      unfold sortSets.f
      rw [if_pos]
      rw [Bool.and_eq_true]
      exact ⟨decide_eq_true (by have := setsM_len q N; omega), List.all_eq_true.2 fun x hx => decide_eq_true (Nat.le_trans (setsM_mem hx) (by decide))⟩) (Ev.now _))
  · intro i hi ih
    refine ev_succ ?_
    simp only [impl_votes_sets.l0]
    rw [wrap_succ hi (by omega)]
    rw [setsM_succ] at ih
    refine ev_pos (by omega) (ev_bindS (h i hi) (ev_bool (fun e => ?_) (fun e => ?_)))
    · rw [if_pos e] at ih
      exact Ev.bind (setOf_ev i (by omega)) (ev_pos (by have := setsM_len q i; omega) ih)
    · rw [if_neg (by rw [e]; decide), List.append_nil] at ih
      exact ih
theorem ev_each {p : Nat → Int → Option Bool} {q : Nat → Bool} : ∀ (N : Nat), (∀ m, m < N → Ev (fun k => p k (m : Int)) (q m)) → ∃ K, ∀ k, K ≤ k → ∀ m, m < N → p k (m : Int) = some (q m)
  | 0, _ => ⟨0, fun _ _ m hm => absurd hm (Nat.not_lt_zero m)⟩
  | N + 1, h => by
    obtain ⟨K, hK⟩ := ev_each N (fun m hm => h m (Nat.lt_succ_of_lt hm))
    obtain ⟨K2, hK2⟩ := h N (Nat.lt_succ_self N)
    refine ⟨max K K2, fun k hk m hm => ?_⟩
    by_cases e : m < N
    · exact hK k (by omega) m e
    · obtain rfl : m = N := by omega
      exact hK2 k (by omega)
def aN (a b : Nat) : Nat := a ^^^ (a &&& b)
def wOf (s t u : Nat) : Nat := (s &&& t) ||| aN (s ||| t) u
def betw (s t u : Nat) : Bool := u &&& (s &&& t) == s &&& t && aN u (s ||| t) == 0
theorem setL_mask_K : ((List.range 512).all fun m => maskN 0 (setL m) == m) = true := by decide +kernel
def ordL (N : Nat) : List Nat := (sortL lexB (setsM (fun _ => true) N)).map (maskN 0)
theorem setL_in_K : ((List.range 512).all fun m => (setL m).all fun x => decide (0 ≤ x ∧ x ≤ 15)) = true := by decide +kernel
theorem setL_mask (m : Nat) (hm : m < 512) : maskN 0 (setL m) = m := by
  have := List.all_eq_true.1 setL_mask_K m (List.mem_range.2 hm)
  simpa using this
theorem ordL_perm (N : Nat) (hN : N ≤ 512) : (ordL N).Perm (List.range N) := by
  unfold ordL
  refine ((sortL_perm lexB _).map (maskN 0)).trans ?_
  unfold setsM
  rw [List.filter_eq_self.2 (fun _ _ => rfl), List.map_map, show (List.range N).map (maskN 0 ∘ setL) = (List.range N).map id from List.map_congr_left fun m hm => setL_mask m (by have := List.mem_range.1 hm; omega), List.map_id]
theorem ordL_len (N : Nat) (hN : N ≤ 512) : (ordL N).length = N := by rw [(ordL_perm N hN).length_eq, List.length_range]
theorem ordL_lt (N : Nat) (hN : N ≤ 512) {x : Nat} (h : x ∈ ordL N) : x < N := List.mem_range.1 ((ordL_perm N hN).mem_iff.1 h)
def cI (l : List Nat) : List Int := l.map fun (m : Nat) => (m : Int)
theorem cI_len (l : List Nat) : (cI l).length = l.length := by unfold cI; rw [List.length_map]
theorem rd_cI {l : List Nat} {i : Nat} (h : i < l.length) : rd (cI l) (i : Int) = (l[i] : Int) := by
  rw [rd_get (by rw [cI_len]; exact h)]
  unfold cI
  rw [List.getElem_map]
theorem ordered_ev (g : Nat → Bool) (n : Nat) (hn : n ≤ 9) : Ev (fun k => impl_votes_ordered.f k (n : Int) (tabB g (2 ^ n))) (cI (ordL (2 ^ n))) := by
  have hN : 2 ^ n ≤ 512 := Nat.pow_le_pow_right (by decide) hn
  unfold impl_votes_ordered.f setsAll.f
  refine Ev.bind (sets_fix (n : Int) (tabB g (2 ^ n)) (2 ^ n) (tabB_len _ _) hN (fun _ => some true) (fun _ => true) (fun _ _ => rfl)) ?_
  have hp := sortL_perm lexB (setsM (fun _ => true) (2 ^ n))
  have hin : ∀ x ∈ sortL lexB (setsM (fun _ => true) (2 ^ n)), x.length ≤ 16 ∧ ∀ y ∈ x, 0 ≤ y ∧ y ≤ 15 := by
    intro x hx
    obtain ⟨m, hm, rfl⟩ := List.mem_map.1 (hp.mem_iff.1 hx)
    have hm2 := List.mem_range.1 (List.mem_filter.1 hm).1
    refine ⟨bitsL_len _ _ _, fun y hy => ?_⟩
    exact of_decide_eq_true (List.all_eq_true.1 (List.all_eq_true.1 setL_in_K m (List.mem_range.2 (by omega))) y hy)
  have hl : (sortL lexB (setsM (fun _ => true) (2 ^ n))).length ≤ 512 := by rw [hp.length_eq]; exact Nat.le_trans (setsM_len _ _) hN
  unfold ordL cI
  generalize sortL lexB (setsM (fun _ => true) (2 ^ n)) = S at hin hl
  rw [List.map_map]
  refine ev_range S.length (fun k i => impl_votes_ordered.l0 k ((S.take i).map ((fun (m : Nat) => (m : Int)) ∘ maskN 0)) S (S.length : Int) (i : Int)) (fun _ => S.map ((fun (m : Nat) => (m : Int)) ∘ maskN 0)) ?_ ?_ 0 (Nat.zero_le _)
  · refine ev_succ ?_
    simp only [impl_votes_ordered.l0, List.take_length]
    exact ev_neg (by omega) (Ev.now _)
  · intro i hi ih
    obtain ⟨h1, h2⟩ := hin _ (List.getElem_mem hi)
    refine ev_succ ?_
    simp only [impl_votes_ordered.l0]
    rw [rdL1_get hi, wrap_succ hi (by omega)]
    rw [List.take_succ_eq_append_getElem hi, List.map_append] at ih
    exact ev_pos (by omega) (ev_pos (by omega) (ev_pos (by omega) (Ev.bind (maskOf_ev S[i] (by omega) h2).1 (ev_pos (by rw [List.length_map, List.length_take]; omega) ih))))
theorem index_ex (l : List Int) (x : Int) (hl : l.length ≤ 1000) : ∃ v : Int, (v ≥ 0 ↔ x ∈ l) ∧ Ev (fun k => slices_Index_int_int.f k l x) v := by
  unfold slices_Index_int_int.f
  have key : ∀ d i : Nat, i + d = l.length → ∃ v : Int, (v ≥ 0 ↔ x ∈ l.drop i) ∧ Ev (fun k => slices_Index_int_int.l0 k l x (l.length : Int) (i : Int)) v := by
    intro d
    induction d with
    | zero =>
      intro i hi
      refine ⟨-1, ?_, ev_succ ?_⟩
      · rw [List.drop_of_length_le (by omega)]; simp
      · simp only [slices_Index_int_int.l0]
        exact ev_neg (by omega) (Ev.now _)
    | succ d ih =>
      intro i hi
      have hil : i < l.length := by omega
      obtain ⟨v, h1, h2⟩ := ih (i + 1) (by omega)
      rw [List.drop_eq_getElem_cons hil]
      by_cases e : x = l[i]
      · refine ⟨(i : Int), ?_, ev_succ ?_⟩
        · rw [e]; exact ⟨fun _ => List.mem_cons_self .., fun _ => by omega⟩
        · simp only [slices_Index_int_int.l0]
          rw [rd_get hil]
          exact ev_pos (by omega) (ev_pos (by omega) (ev_pos (by omega) (ev_pos e (Ev.now _))))
      · refine ⟨v, ?_, ev_succ ?_⟩
        · rw [h1, List.mem_cons]; simp [e]
        · simp only [slices_Index_int_int.l0]
          rw [rd_get hil, wrap_succ hil (by omega)]
          exact ev_pos (by omega) (ev_pos (by omega) (ev_pos (by omega) (ev_neg e h2)))
  obtain ⟨v, h1, h2⟩ := key l.length 0 (Nat.zero_add _)
  exact ⟨v, by simpa using h1, h2⟩
theorem contains_ev (l : List Nat) (x : Nat) (hl : l.length ≤ 1000) : Ev (fun k => slices_Contains_int_int.f k (cI l) (x : Int)) (l.contains x) := by
  obtain ⟨v, h1, h2⟩ := index_ex (cI l) (x : Int) (by rw [cI_len]; exact hl)
  unfold slices_Contains_int_int.f
  refine Ev.bind h2 (ev_eqv (Ev.now _) ?_)
  rw [Bool.eq_iff_iff, decide_eq_true_eq, h1, List.contains_iff_mem]
  unfold cI
  rw [List.mem_map]
  constructor
  · rintro ⟨a, ha, h⟩
    have e : a = x := by omega
    rw [← e]; exact ha
  · intro h
    exact ⟨x, h, rfl⟩
theorem wOf_lt {n s t u : Nat} (hs : s < 2 ^ n) (ht : t < 2 ^ n) : wOf s t u < 2 ^ n := by
  unfold wOf aN
  exact Nat.or_lt_two_pow (Nat.and_lt_two_pow _ ht) (Nat.xor_lt_two_pow (Nat.or_lt_two_pow hs ht) (Nat.lt_of_le_of_lt Nat.and_le_left (Nat.or_lt_two_pow hs ht)))
def allB (p : Nat → Bool) (n m : Nat) : Bool := (List.range (n - m)).all fun j => p (m + j)
theorem allB_end (p : Nat → Bool) (n : Nat) : allB p n n = true := by simp [allB]
theorem allB_step (p : Nat → Bool) (n m : Nat) (h : m < n) : allB p n m = (p m && allB p n (m + 1)) := by
  obtain ⟨d, rfl⟩ := Nat.exists_eq_add_of_lt h
  unfold allB
  rw [show m + d + 1 - m = d + 1 by omega, show m + d + 1 - (m + 1) = d by omega, List.range_succ_eq_map, List.all_cons, List.all_map]
  simp only [Nat.add_zero, Function.comp_def, Nat.succ_eq_add_one, Nat.add_assoc, Nat.add_comm, Nat.add_left_comm]
def wsB (g : Nat → Bool) (i j m : Nat) : Bool := !(!bitB m i && !bitB m j && g (m + 2 ^ j) && !g (m + 2 ^ i))
theorem wrap_nat (x : Nat) (h : x < 1152921504606846976) : wrap64 (x : Int) = (x : Int) := wrap64_id (by omega)
theorem deWorth_ev (g : Nat → Bool) (n i j : Nat) (hn : n ≤ 9) (hi : i < n) (hj : j < n) : Ev (fun k => spec_deWorth.f k (tabB g (2 ^ n)) (i : Int) (j : Int)) (allB (wsB g i j) (2 ^ n) 0) := by
  have hp := (pow_lt9 hi hn).2
  unfold spec_deWorth.f
  rw [tabB_len]
  have := ev_range (2 ^ n) (fun k m => spec_deWorth.l0 k (tabB g (2 ^ n)) (i : Int) (j : Int) ((2 ^ n : Nat) : Int) (m : Int)) (fun m => allB (wsB g i j) (2 ^ n) m) ?_ ?_ 0 (Nat.zero_le _)
  · exact this
  · refine ev_succ ?_
    simp only [spec_deWorth.l0]
    rw [allB_end]
    exact ev_neg (Int.lt_irrefl _) (Ev.now _)
  · intro m hm ih
    refine ev_succ ?_
    simp only [spec_deWorth.l0]
    rw [allB_step _ _ _ hm]
    refine ev_pos (by omega) (ev_pos (by omega) ?_)
    rw [wrap_succ hm (by omega)]
    by_cases e0 : bitB m i = false
    case neg => exact ev_neg (fun h => e0 ((tmod_bit m i (by omega)).1 h)) (by have e := eq_true_of_ne_false e0; simpa [wsB, e] using ih)
    refine ev_pos ((tmod_bit m i (by omega)).2 e0) (ev_pos (by omega) ?_)
    by_cases e2 : bitB m j = false
    case neg => exact ev_neg (fun h => e2 ((tmod_bit m j (by omega)).1 h)) (by have e := eq_true_of_ne_false e2; simpa [wsB, e] using ih)
    refine ev_pos ((tmod_bit m j (by omega)).2 e2) ?_
    have l1 := add_lt m j n hn hm hj e2
    have l2 := add_lt m i n hn hm hi e0
    have w1 : wrap64 ((m : Int) + shl .i64 1 (j : Int)) = ((m + 2 ^ j : Nat) : Int) := by rw [shl_one_nat j (by omega), ← Int.natCast_add]; exact wrap_nat _ (by omega)
    have w2 : wrap64 ((m : Int) + shl .i64 1 (i : Int)) = ((m + 2 ^ i : Nat) : Int) := by rw [shl_one_nat i (by omega), ← Int.natCast_add]; exact wrap_nat _ (by omega)
    rw [w1, w2, tabB_len, rdOf_tab l1, rdOf_tab l2]
    refine ev_pos (Int.natCast_nonneg _) (ev_pos (Int.ofNat_lt.2 l1) ?_)
    refine ev_bool (fun e3 => ?_) (fun e3 => by simpa [wsB, e3] using ih)
    refine ev_pos (Int.natCast_nonneg _) (ev_pos (Int.ofNat_lt.2 l2) ?_)
    refine ev_bool (fun e4 => by simpa [wsB, e4] using ih) (fun e4 => ?_)
    simpa [wsB, e0, e2, e3, e4] using (Ev.now _)
def resT (o : Option (List (List Int) × List (List Int))) : List (List Int) × List (List Int) × Bool := match o with
  | some p => (p.1, p.2, true)
  | none => ([], [], false)
def prT (s t u w : Nat) : List (List Int) × List (List Int) := ([setL s, setL t], [setL u, setL w])
def inQ (g : Nat → Bool) (Q : Nat → Nat → Nat → Nat → Bool) (s t u : Nat) (r : List Nat) : Bool := (!g u && betw s t u) && (!g (wOf s t u) && ((u :: r).contains (wOf s t u) && Q s t u (wOf s t u)))
def inT (g : Nat → Bool) (Q : Nat → Nat → Nat → Nat → Bool) (s t : Nat) (rest : Option (List (List Int) × List (List Int))) : List Nat → Option (List (List Int) × List (List Int))
  | [] => rest
  | u :: r => if inQ g Q s t u r = true then some (prT s t u (wOf s t u)) else inT g Q s t rest r
def outT (g : Nat → Bool) (Q : Nat → Nat → Nat → Nat → Bool) (O : List Nat) (s : Nat) (rest : Option (List (List Int) × List (List Int))) : List Nat → Option (List (List Int) × List (List Int))
  | [] => rest
  | t :: r => if (g s && g t) = true then inT g Q s t (outT g Q O s rest r) O else outT g Q O s rest r
def allT (g : Nat → Bool) (Q : Nat → Nat → Nat → Nat → Bool) (O : List Nat) : List Nat → Option (List (List Int) × List (List Int))
  | [] => none
  | s :: r => outT g Q O s (allT g Q O r) (s :: r)
theorem pairs_ev (s t u w : Nat) (h : s < 512 ∧ t < 512 ∧ u < 512 ∧ w < 512) : Ev (fun k => impl_pairs.f k [(s : Int), (t : Int)] [(u : Int), (w : Int)]) (prT s t u w) := by
  have w1 : wrap64 (0 + 1) = 1 := by unfold wrap64; omega
  have w2 : wrap64 (1 + 1) = 2 := by unfold wrap64; omega
  have r1 : rd [(s : Int), (t : Int)] 0 = (s : Int) := rfl
  have r2 : rd [(u : Int), (w : Int)] 0 = (u : Int) := rfl
  have r3 : rd [(s : Int), (t : Int)] 1 = (t : Int) := rfl
  have r4 : rd [(u : Int), (w : Int)] 1 = (w : Int) := rfl
  unfold impl_pairs.f
  refine ev_succ ?_
  simp only [impl_pairs.l0, w1, r1, r2]
  refine ev_pos (by simp) (ev_pos (by simp) (ev_pos (by simp) (Ev.bind (setOf_ev s (by omega)) (ev_pos (by simp) (ev_pos (by simp) (Ev.bind (setOf_ev u (by omega)) (ev_pos (by simp) (ev_succ ?_))))))))
  simp only [impl_pairs.l0, w2, r3, r4]
  refine ev_pos (by simp) (ev_pos (by simp) (ev_pos (by simp) (Ev.bind (setOf_ev t (by omega)) (ev_pos (by simp) (ev_pos (by simp) (Ev.bind (setOf_ev w (by omega)) (ev_pos (by simp) (ev_succ ?_))))))))
  simp only [impl_pairs.l0]
  exact ev_neg (by simp) (ev_eqv (Ev.now _) rfl)
section
variable (P : Int → Int → Int → Int → Option Bool) (Q : Nat → Nat → Nat → Nat → Bool) (hP : ∀ s t u w : Nat, s < 64 ∧ t < 64 ∧ u < 64 ∧ w < 64 → P s t u w = some (Q s t u w)) (g : Nat → Bool) (n : Nat) (hn : n ≤ 6) (O : List Nat) (hO : O.length ≤ 64) (hOl : ∀ x ∈ O, x < 2 ^ n)
section
variable (s t : Nat) (hs : s < 2 ^ n) (ht : t < 2 ^ n) (x18 x27 x26 : Int) (x25 : List Int)
include hP hn hO hOl hs ht
theorem ft_j4 (k : Nat) (hk : k < O.length) (x75 : Bool) (h75 : x75 = !(!g O[k] && betw s t O[k])) (rs : Option (List (List Int) × List (List Int)))
    (hnx : Ev (fun r => impl_votes_firstOfTwo.l2 P r (cI O) (s : Int) (t : Int) (cI O) (O.length : Int) x18 x25 x26 x27 (cI O) (O.length : Int) (wrap64 ((k : Int) + 1)) (n : Int) (tabB g (2 ^ n))) (resT rs)) :
    Ev (fun r => impl_votes_firstOfTwo.j4 P r (cI O) (s : Int) (t : Int) (k : Int) ((O[k] : Nat) : Int) (cI O) (O.length : Int) x18 x25 x26 x27 (cI O) (O.length : Int) (k : Int) x75 (n : Int) (tabB g (2 ^ n))) (resT (if inQ g Q s t O[k] (O.drop (k + 1)) = true then some (prT s t O[k] (wOf s t O[k])) else rs)) := by
  have hp : 2 ^ n ≤ 64 := Nat.le_trans (Nat.pow_le_pow_right (n := 2) (by decide) hn) (by decide)
  have hu : O[k] < 2 ^ n := hOl _ (List.getElem_mem hk)
  have hdr : O.drop k = O[k] :: O.drop (k + 1) := List.drop_eq_getElem_cons hk
  have hlen : (O.drop k).length ≤ 64 := by rw [List.length_drop]; omega
  have hd : (cI O).drop (k : Int).toNat = cI (O.drop k) := by unfold cI; rw [Int.toNat_natCast, List.map_drop]
  rw [hdr] at hd hlen
  unfold inQ
  generalize O[k] = u at hu h75 hd hlen
  have hw := wOf_lt (u := u) hs ht
  have hst : s ||| t < 2 ^ n := Nat.or_lt_two_pow hs ht
  have hsa : s &&& t < 2 ^ n := Nat.and_lt_two_pow _ ht
  have hx : aN (s ||| t) u < 2 ^ n := Nat.xor_lt_two_pow hst (Nat.lt_of_le_of_lt Nat.and_le_left hst)
  have e : Go.bits .or .i64 (Go.bits .and .i64 (s : Int) (t : Int)) (Go.bits .andNot .i64 (Go.bits .or .i64 (s : Int) (t : Int)) (u : Int)) = ((wOf s t u : Nat) : Int) := by
    rw [and_nat s t (by omega) (by omega), or_nat s t (by omega) (by omega), andNot_nat (s ||| t) u (by omega) (by omega)]
    exact or_nat (s &&& t) (aN (s ||| t) u) (by omega) (by omega)
  refine ev_succ ?_
  simp only [impl_votes_firstOfTwo.j4, e]
  refine ev_bool (fun e1 => ?_) (fun e1 => ?_)
  · refine ev_eqv hnx ?_
    rw [h75] at e1
    rw [show (!g u && betw s t u) = false from by cases h : (!g u && betw s t u) with
      | false => rfl
      | true => rw [h] at e1; cases e1]
    simp
  · have hb : (!g u && betw s t u) = true := by
      rw [h75] at e1
      cases h : (!g u && betw s t u) with
      | true => rfl
      | false => rw [h] at e1; cases e1
    rw [hb, Bool.true_and, tabB_len, rdOf_tab hw]
    refine ev_pos (Int.natCast_nonneg _) (ev_pos (Int.ofNat_lt.2 hw) (ev_bool (fun e2 => ?_) (fun e2 => ?_)))
    · exact ev_eqv hnx (by rw [e2]; simp)
    · rw [e2, Bool.not_false, Bool.true_and]
      refine ev_pos (by omega) (ev_pos (by rw [cI_len]; omega) ?_)
      rw [hd]
      refine Ev.bind (contains_ev (u :: O.drop (k + 1)) (wOf s t u) (by omega)) (ev_bool (fun e3 => ?_) (fun e3 => ?_))
      · rw [e3, Bool.true_and]
        refine ev_bindS (hP s t u (wOf s t u) ⟨by omega, by omega, by omega, by omega⟩) (ev_bool (fun e4 => ?_) (fun e4 => ?_))
        · rw [e4, if_pos rfl]
          exact Ev.bind (pairs_ev s t u (wOf s t u) ⟨by omega, by omega, by omega, by omega⟩) (Ev.now _)
        · exact ev_eqv hnx (by rw [e4]; simp)
      · exact ev_eqv hnx (by rw [e3]; simp)
theorem ft_l2 (rest : Option (List (List Int) × List (List Int))) (hnx : Ev (fun r => impl_votes_firstOfTwo.l1 P r (cI O) (s : Int) (cI O) (O.length : Int) x18 x25 x26 (wrap64 (x27 + 1)) (n : Int) (tabB g (2 ^ n))) (resT rest)) :
    ∀ d k : Nat, k + d = O.length → Ev (fun r => impl_votes_firstOfTwo.l2 P r (cI O) (s : Int) (t : Int) (cI O) (O.length : Int) x18 x25 x26 x27 (cI O) (O.length : Int) (k : Int) (n : Int) (tabB g (2 ^ n))) (resT (inT g Q s t rest (O.drop k))) := by
  have hp : 2 ^ n ≤ 64 := Nat.le_trans (Nat.pow_le_pow_right (n := 2) (by decide) hn) (by decide)
  intro d
  induction d with
  | zero =>
    intro k hk
    obtain rfl : k = O.length := by omega
    refine ev_succ ?_
    simp only [impl_votes_firstOfTwo.l2]
    rw [List.drop_length]
    exact ev_neg (Int.lt_irrefl _) hnx
  | succ d ih =>
    intro k hk
    have hkl : k < O.length := by omega
    have hih := ih (k + 1) (by omega)
    have hw : wrap64 ((k : Int) + 1) = ((k + 1 : Nat) : Int) := wrap_succ hkl (by omega)
    rw [← hw] at hih
    have hj := fun x75 h75 => ft_j4 P Q hP g n hn O hO hOl s t hs ht x18 x27 x26 x25 k hkl x75 h75 _ hih
    have hu : O[k] < 2 ^ n := hOl _ (List.getElem_mem hkl)
    have hr : rd (cI O) (k : Int) = ((O[k] : Nat) : Int) := rd_cI hkl
    rw [List.drop_eq_getElem_cons hkl]
    refine ev_succ ?_
    simp only [impl_votes_firstOfTwo.l2, hr, inT]
    generalize O[k] = u at hu hj
    have hst : s ||| t < 2 ^ n := Nat.or_lt_two_pow hs ht
    have hsa : s &&& t < 2 ^ n := Nat.and_lt_two_pow _ ht
    rw [tabB_len, rdOf_tab hu, cI_len]
    refine ev_pos (by omega) (ev_pos (by omega) (ev_pos (by omega) (ev_pos (Int.natCast_nonneg _) (ev_pos (Int.ofNat_lt.2 hu) (ev_bool (fun e1 => ?_) (fun e1 => ?_))))))
    · exact hj true (by rw [e1]; rfl)
    · rw [and_nat s t (by omega) (by omega), and_nat u (s &&& t) (by omega) (by omega), or_nat s t (by omega) (by omega), andNot_nat u (s ||| t) (by omega) (by omega)]
      by_cases e2 : u &&& (s &&& t) = s &&& t
      · refine ev_pos (by rw [e2]) (hj _ ?_)
        rw [e1]
        unfold betw aN
        rw [e2]
        simp only [Bool.not_false, Bool.true_and, beq_self_eq_true]
        rw [Bool.eq_iff_iff]
        simp
      · refine ev_neg (by omega) (hj true ?_)
        rw [e1]
        unfold betw
        rw [show (u &&& (s &&& t) == s &&& t) = false from by simpa using e2]
        rfl
end
include hP hn hO hOl
theorem ft_l1 (s : Nat) (hs : s < 2 ^ n) (x18 : Int) (T : List Nat) (hT : T.length ≤ 64) (hTl : ∀ x ∈ T, x < 2 ^ n) (rest : Option (List (List Int) × List (List Int)))
    (hnx : Ev (fun r => impl_votes_firstOfTwo.l0 P r (cI O) (cI O) (O.length : Int) (wrap64 (x18 + 1)) (n : Int) (tabB g (2 ^ n))) (resT rest)) :
    ∀ d j : Nat, j + d = T.length → Ev (fun r => impl_votes_firstOfTwo.l1 P r (cI O) (s : Int) (cI O) (O.length : Int) x18 (cI T) (T.length : Int) (j : Int) (n : Int) (tabB g (2 ^ n))) (resT (outT g Q O s rest (T.drop j))) := by
  intro d
  induction d with
  | zero =>
    intro j hj
    obtain rfl : j = T.length := by omega
    refine ev_succ ?_
    simp only [impl_votes_firstOfTwo.l1]
    rw [List.drop_length]
    exact ev_neg (Int.lt_irrefl _) hnx
  | succ d ih =>
    intro j hj
    have hjl : j < T.length := by omega
    have hih := ih (j + 1) (by omega)
    have hw : wrap64 ((j : Int) + 1) = ((j + 1 : Nat) : Int) := wrap_succ hjl (by omega)
    rw [← hw] at hih
    have ht : T[j] < 2 ^ n := hTl _ (List.getElem_mem hjl)
    have hr : rd (cI T) (j : Int) = ((T[j] : Nat) : Int) := rd_cI hjl
    have h2 : ∀ x44 : Bool, x44 = !(g s && g T[j]) → Ev (fun r => impl_votes_firstOfTwo.j2 P r (cI O) (s : Int) ((T[j] : Nat) : Int) (cI O) (O.length : Int) x18 (cI T) (T.length : Int) (j : Int) x44 (n : Int) (tabB g (2 ^ n))) (resT (outT g Q O s rest (T[j] :: T.drop (j + 1)))) := by
      intro x44 hx
      refine ev_succ ?_
      simp only [impl_votes_firstOfTwo.j2, outT]
      refine ev_bool (fun e => ?_) (fun e => ?_)
      · refine ev_eqv hih ?_
        have : (g s && g T[j]) = false := by
          rw [hx] at e
          cases h : (g s && g T[j]) with
          | false => rfl
          | true => rw [h] at e; cases e
        rw [this]; rfl
      · have : (g s && g T[j]) = true := by
          rw [hx] at e
          cases h : (g s && g T[j]) with
          | true => rfl
          | false => rw [h] at e; cases e
        rw [cI_len]
        refine ev_eqv (ft_l2 P Q hP g n hn O hO hOl s T[j] hs ht x18 (j : Int) (T.length : Int) (cI T) _ hih O.length 0 (Nat.zero_add _)) ?_
        rw [this, if_pos rfl, List.drop_zero]
    rw [List.drop_eq_getElem_cons hjl]
    refine ev_succ ?_
    simp only [impl_votes_firstOfTwo.l1, hr]
    rw [tabB_len, rdOf_tab hs, rdOf_tab ht, cI_len]
    refine ev_pos (by omega) (ev_pos (by omega) (ev_pos (by omega) (ev_pos (Int.natCast_nonneg _) (ev_pos (Int.ofNat_lt.2 hs) (ev_bool (fun e => ?_) (fun e => ?_))))))
    · exact ev_pos (Int.natCast_nonneg _) (ev_pos (Int.ofNat_lt.2 ht) (h2 _ (by rw [e]; simp)))
    · exact h2 _ (by rw [e]; simp)
theorem ft_l0 : ∀ d i : Nat, i + d = O.length → Ev (fun k => impl_votes_firstOfTwo.l0 P k (cI O) (cI O) (O.length : Int) (i : Int) (n : Int) (tabB g (2 ^ n))) (resT (allT g Q O (O.drop i))) := by
  intro d
  induction d with
  | zero =>
    intro i hi
    obtain rfl : i = O.length := by omega
    refine ev_succ ?_
    simp only [impl_votes_firstOfTwo.l0]
    rw [List.drop_length]
    exact ev_neg (Int.lt_irrefl _) (Ev.now _)
  | succ d ih =>
    intro i hi
    have hil : i < O.length := by omega
    have hih := ih (i + 1) (by omega)
    have hw : wrap64 ((i : Int) + 1) = ((i + 1 : Nat) : Int) := wrap_succ hil (by omega)
    rw [← hw] at hih
    have hr : rd (cI O) (i : Int) = ((O[i] : Nat) : Int) := rd_cI hil
    have hd : (cI O).drop (i : Int).toNat = cI (O.drop i) := by unfold cI; rw [Int.toNat_natCast, List.map_drop]
    have h1 := ft_l1 P Q hP g n hn O hO hOl O[i] (hOl _ (List.getElem_mem hil)) (i : Int) (O.drop i) (by rw [List.length_drop]; omega) (fun x hx => hOl x (List.mem_of_mem_drop hx)) _ hih (O.drop i).length 0 (Nat.zero_add _)
    refine ev_succ ?_
    simp only [impl_votes_firstOfTwo.l0, hr, hd, Option.bind_some, cI_len]
    refine ev_pos (by omega) (ev_pos (by omega) (ev_pos (by omega) (ev_pos (by omega) (ev_eqv h1 ?_))))
    rw [List.drop_zero, List.drop_eq_getElem_cons hil]
    rfl
end
theorem firstOf_ev (P : Int → Int → Int → Int → Option Bool) (Q : Nat → Nat → Nat → Nat → Bool) (hP : ∀ s t u w : Nat, s < 64 ∧ t < 64 ∧ u < 64 ∧ w < 64 → P s t u w = some (Q s t u w)) (g : Nat → Bool) (n : Nat) (hn : n ≤ 6) :
    Ev (fun k => impl_votes_firstOfTwo.f k (n : Int) (tabB g (2 ^ n)) P) (resT (allT g Q (ordL (2 ^ n)) (ordL (2 ^ n)))) := by
  have hp : 2 ^ n ≤ 64 := Nat.le_trans (Nat.pow_le_pow_right (n := 2) (by decide) hn) (by decide)
  have hO : (ordL (2 ^ n)).length ≤ 64 := by rw [ordL_len _ (by omega)]; omega
  have hOl : ∀ x ∈ ordL (2 ^ n), x < 2 ^ n := fun x hx => ordL_lt _ (by omega) hx
  unfold impl_votes_firstOfTwo.f
  refine Ev.bind (ordered_ev g n (by omega)) ?_
  rw [cI_len]
  generalize ordL (2 ^ n) = O at hO hOl
  have := ft_l0 P Q hP g n hn O hO hOl O.length 0 (Nat.zero_add _)
  rw [List.drop_zero] at this
  exact this
def liI (g : Nat → Bool) (Q : Nat → Nat → Nat → Nat → Bool) (s t : Nat) : List Nat → List (List (List Int) × List (List Int))
  | [] => []
  | u :: r => (if inQ g Q s t u r = true then [prT s t u (wOf s t u)] else []) ++ liI g Q s t r
def liO (g : Nat → Bool) (Q : Nat → Nat → Nat → Nat → Bool) (O : List Nat) (s : Nat) : List Nat → List (List (List Int) × List (List Int))
  | [] => []
  | t :: r => (if (g s && g t) = true then liI g Q s t O else []) ++ liO g Q O s r
def liA (g : Nat → Bool) (Q : Nat → Nat → Nat → Nat → Bool) (O : List Nat) : List Nat → List (List (List Int) × List (List Int))
  | [] => []
  | s :: r => liO g Q O s (s :: r) ++ liA g Q O r
section
variable (g : Nat → Bool) (Q : Nat → Nat → Nat → Nat → Bool) (O : List Nat)
theorem inT_head (s t : Nat) (rest : Option (List (List Int) × List (List Int))) : ∀ l, inT g Q s t rest l = ((liI g Q s t l).head?).or rest
  | [] => by simp [inT, liI]
  | u :: r => by
    unfold inT liI
    by_cases e : inQ g Q s t u r = true
    · rw [if_pos e, if_pos e]; rfl
    · rw [if_neg e, if_neg e, List.nil_append]; exact inT_head s t rest r
theorem outT_head (s : Nat) (rest : Option (List (List Int) × List (List Int))) : ∀ l, outT g Q O s rest l = ((liO g Q O s l).head?).or rest
  | [] => by simp [outT, liO]
  | t :: r => by
    unfold outT liO
    have ih := outT_head s rest r
    by_cases e : (g s && g t) = true
    · rw [if_pos e, if_pos e, inT_head, ih, List.head?_append, Option.or_assoc]
    · rw [if_neg e, if_neg e, List.nil_append]; exact ih
theorem allT_head : ∀ l, allT g Q O l = (liA g Q O l).head?
  | [] => rfl
  | s :: r => by
    unfold allT liA
    rw [outT_head, allT_head r, List.head?_append]
theorem liI_mem {s t : Nat} {c : List (List Int) × List (List Int)} : ∀ l, c ∈ liI g Q s t l ↔ ∃ a u r, l = a ++ u :: r ∧ inQ g Q s t u r = true ∧ c = prT s t u (wOf s t u)
  | [] => by simp [liI]
  | v :: l => by
    have ih := liI_mem (s := s) (t := t) (c := c) l
    unfold liI
    rw [List.mem_append, ih]
    constructor
    · rintro (h | ⟨a, u, r, h1, h2, h3⟩)
      · by_cases e : inQ g Q s t v l = true
        · rw [if_pos e, List.mem_singleton] at h; exact ⟨[], v, l, rfl, e, h⟩
        · rw [if_neg e] at h; cases h
      · exact ⟨v :: a, u, r, by rw [h1]; rfl, h2, h3⟩
    · rintro ⟨a, u, r, h1, h2, h3⟩
      cases a with
      | nil =>
        injection h1 with h4 h5; subst h4; subst h5
        left; rw [if_pos h2, h3]; exact List.mem_cons_self ..
      | cons b a =>
        injection h1 with h4 h5
        exact .inr ⟨a, u, r, h5, h2, h3⟩
theorem liO_mem {s : Nat} {c : List (List Int) × List (List Int)} : ∀ l, c ∈ liO g Q O s l ↔ g s = true ∧ ∃ t ∈ l, g t = true ∧ c ∈ liI g Q s t O
  | [] => by simp [liO]
  | v :: l => by
    have ih := liO_mem (s := s) (c := c) l
    unfold liO
    rw [List.mem_append, ih]
    constructor
    · rintro (h | ⟨h1, t, h2, h3⟩)
      · by_cases e : (g s && g v) = true
        · rw [if_pos e] at h
          rw [Bool.and_eq_true] at e
          exact ⟨e.1, v, List.mem_cons_self .., e.2, h⟩
        · rw [if_neg e] at h; cases h
      · exact ⟨h1, t, List.mem_cons_of_mem _ h2, h3⟩
    · rintro ⟨h1, t, h2, h3, h4⟩
      rcases List.mem_cons.1 h2 with rfl | h2
      · left; rw [if_pos (by rw [h1, h3]; rfl)]; exact h4
      · exact .inr ⟨h1, t, h2, h3, h4⟩
theorem liA_mem {c : List (List Int) × List (List Int)} : ∀ l, c ∈ liA g Q O l ↔ ∃ a s r, l = a ++ s :: r ∧ c ∈ liO g Q O s (s :: r)
  | [] => by simp [liA]
  | v :: l => by
    have ih := liA_mem (c := c) l
    unfold liA
    rw [List.mem_append, ih]
    constructor
    · rintro (h | ⟨a, u, r, h1, h2⟩)
      · exact ⟨[], v, l, rfl, h⟩
      · exact ⟨v :: a, u, r, by rw [h1]; rfl, h2⟩
    · rintro ⟨a, u, r, h1, h2⟩
      cases a with
      | nil => injection h1 with h4 h5; subst h4; subst h5; exact .inl h2
      | cons b a => injection h1 with h4 h5; exact .inr ⟨a, u, r, h5, h2⟩
end
theorem bitB_test (m i : Nat) : bitB m i = m.testBit i := by
  unfold bitB
  rw [Nat.testBit_eq_decide_div_mod_eq, Nat.shiftRight_eq_div_pow, Bool.eq_iff_iff, beq_iff_eq, decide_eq_true_eq]
def wtF : List Int → Nat → Nat → Int
  | [], _, _ => 0
  | w :: ws, m, i => (if bitB m i = true then w else 0) + wtF ws m (i + 1)
theorem betw_bit {s t u : Nat} (h : betw s t u = true) (i : Nat) :
    (if bitB u i = true then 1 else 0) + (if bitB (wOf s t u) i = true then 1 else 0) = (if bitB s i = true then 1 else 0) + (if bitB t i = true then (1 : Int) else 0) := by
  unfold betw at h
  rw [Bool.and_eq_true, beq_iff_eq, beq_iff_eq] at h
  have h1 := congrArg (fun n => Nat.testBit n i) h.1
  have h2 := congrArg (fun n => Nat.testBit n i) h.2
  unfold aN at h2
  simp only [Nat.testBit_and, Nat.testBit_or, Nat.testBit_xor, Nat.zero_testBit] at h1 h2
  simp only [bitB_test]
  unfold wOf aN
  simp only [Nat.testBit_and, Nat.testBit_or, Nat.testBit_xor]
  revert h1 h2
  cases s.testBit i <;> cases t.testBit i <;> cases u.testBit i <;> simp
theorem betw_wt {s t u : Nat} (h : betw s t u = true) : ∀ (W : List Int) (i : Nat), wtF W u i + wtF W (wOf s t u) i = wtF W s i + wtF W t i
  | [], _ => rfl
  | w :: ws, i => by
    have h1 := betw_wt h ws (i + 1)
    have h2 := betw_bit h i
    unfold wtF
    revert h2
    cases bitB s i <;> cases bitB t i <;> cases bitB u i <;> cases bitB (wOf s t u) i <;> simp <;> omega
def gW (W : List Int) (q : Int) (m : Nat) : Bool := decide (q ≤ wtF W m 0)
theorem no_trade (W : List Int) (q : Int) (Q : Nat → Nat → Nat → Nat → Bool) (O : List Nat) : allT (gW W q) Q O O = none := by
  rw [allT_head]
  cases h : (liA (gW W q) Q O O).head? with
  | none => rfl
  | some c =>
    exfalso
    have hm : c ∈ liA (gW W q) Q O O := List.mem_of_mem_head? h
    obtain ⟨p, s, r, e1, h⟩ := (liA_mem (gW W q) Q O O).1 hm
    obtain ⟨h1, t, ht, h2, h⟩ := (liO_mem (gW W q) Q O _).1 h
    obtain ⟨p', u, r', e2, hq, rfl⟩ := (liI_mem (gW W q) Q O).1 h
    unfold inQ at hq
    simp only [Bool.and_eq_true, Bool.not_eq_true'] at hq
    obtain ⟨⟨h3, h4⟩, h5, _⟩ := hq
    have h6 := betw_wt h4 W 0
    unfold gW at h1 h2 h3 h5
    rw [decide_eq_true_eq] at h1 h2
    rw [decide_eq_false_iff_not] at h3 h5
    omega
theorem wt_or (j : Nat) : ∀ (W : List Int) (m o : Nat), m.testBit j = false → wtF W (m ||| 2 ^ j) o = wtF W m o + (if o ≤ j then W.getD (j - o) 0 else 0)
  | [], _, _, _ => by simp [wtF]
  | w :: ws, m, o, h => by
    have ih := wt_or j ws m (o + 1) h
    unfold wtF
    rw [ih, bitB_test, bitB_test, Nat.testBit_or, Nat.testBit_two_pow]
    by_cases e : j = o
    · subst e
      rw [h]
      simp
      omega
    · by_cases e2 : o ≤ j
      · have e3 : j - o = (j - (o + 1)) + 1 := by omega
        rw [if_pos e2, if_pos (show o + 1 ≤ j by omega), e3, List.getD_cons_succ]
        simp [e]
        omega
      · rw [if_neg e2, if_neg (show ¬ o + 1 ≤ j by omega)]
        simp [e]
theorem wt_add {W : List Int} {m j : Nat} (hm : m < 512) (hj : j < 9) (h : bitB m j = false) : wtF W (m + 2 ^ j) 0 = wtF W m 0 + W.getD j 0 := by
  have h1 := or_bit m j hm hj
  rw [if_neg (by rw [h]; decide)] at h1
  have h2 := wt_or j W m 0 (by rw [← bitB_test]; exact h)
  rw [h1] at h2
  simpa using h2
theorem worth_W {W : List Int} {q : Int} {n i j : Nat} (hn : n ≤ 9) (hi : i < n) (hj : j < n) (h : W.getD j 0 ≤ W.getD i 0) : allB (wsB (gW W q) i j) (2 ^ n) 0 = true := by
  unfold allB
  rw [List.all_eq_true]
  intro m hm
  have hm1 : m < 2 ^ n := by have := List.mem_range.1 hm; omega
  have hp : 2 ^ n ≤ 512 := Nat.pow_le_pow_right (n := 2) (by decide) hn
  rw [Nat.zero_add]
  unfold wsB
  cases e1 : bitB m i with
  | true => simp
  | false =>
    cases e2 : bitB m j with
    | true => simp
    | false =>
      have h1 := wt_add (W := W) (show m < 512 by omega) (show i < 9 by omega) e1
      have h2 := wt_add (W := W) (show m < 512 by omega) (show j < 9 by omega) e2
      unfold gW
      by_cases e3 : q ≤ wtF W (m + 2 ^ j) 0
      · rw [decide_eq_true e3, decide_eq_true (show q ≤ wtF W (m + 2 ^ i) 0 by omega)]; rfl
      · rw [decide_eq_false e3]; rfl
theorem votesOf_l0 (p : Int → Option Bool) (q : Nat → Bool) (a n : Nat) (m : Int) (hn : n ≤ 1048576) (h : ∀ i, i < n → p (i : Int) = some (q i)) : Ev (fun k => impl_votesOf.l0 p k (n : Int) 0 m (List.replicate n false)) (m, tabB q n) := by
  have := ev_range n (fun k i => impl_votesOf.l0 p k (n : Int) (i : Int) m (tabB q i ++ List.replicate (n - i) false)) (fun _ => (m, tabB q n)) ?_ ?_ 0 (Nat.zero_le _)
  · simpa [tabB] using this
  · refine ev_succ ?_
    simp only [impl_votesOf.l0]
    exact ev_neg (Int.lt_irrefl _) (ev_eqv (Ev.now _) (by simp))
  · intro i hi ih
    refine ev_succ ?_
    simp only [impl_votesOf.l0]
    have hlen : (tabB q i ++ List.replicate (n - i) false).length = n := by rw [List.length_append, tabB_len, List.length_replicate]; omega
    refine ev_pos (by omega) (ev_bindS (h i hi) (ev_pos (by omega) (ev_pos (by rw [hlen]; omega) ?_)))
    rw [wrap_succ hi (Nat.le_trans hn (by decide)), Int.toNat_natCast, show n - i = (n - (i + 1)) + 1 by omega, List.replicate_succ, tabB_set, tabB_next]
    exact ih
theorem votesOf_ev (p : Int → Option Bool) (q : Nat → Bool) (m : Int) (hm : 0 ≤ m ∧ m ≤ 9) (h : ∀ i : Nat, i < 2 ^ m.toNat → p (i : Int) = some (q i)) : Ev (fun k => impl_votesOf.f k m p) (m, tabB q (2 ^ m.toNat)) := by
  have hp : 2 ^ m.toNat ≤ 512 := Nat.pow_le_pow_right (n := 2) (by decide) (show m.toNat ≤ 9 by omega)
  have hs : shl .i64 1 m = ((2 ^ m.toNat : Nat) : Int) := by rw [shl_one m (by omega)]; simp
  have hl0 := votesOf_l0 p q 0 (2 ^ m.toNat) m (by omega) h
  unfold impl_votesOf.f
  refine ev_pos hm.1 ?_
  rw [hs]
  generalize 2 ^ m.toNat = n at *
  have hn2 : (n : Int).toNat ≤ 281474976710656 := by rw [Int.toNat_natCast]; exact Nat.le_trans hp (by decide)
  refine ev_pos (Int.natCast_nonneg n) (ev_pos hn2 (ev_bindS rfl ?_))
  simp only [Int.toNat_natCast, List.length_replicate]
  exact hl0
theorem lc_ite {α : Type} {c : Prop} [Decidable c] {f g : Nat → Option α} {r : α} (h1 : c → Ev f r) (h2 : ¬ c → Ev g r) : Ev (fun n => if c then f n else g n) r := by
  by_cases h : c
  · exact ev_pos h (h1 h)
  · exact ev_neg h (h2 h)
def Wok (W : List Int) : Prop := W.length ≤ 9 ∧ ∀ w ∈ W, 0 ≤ w ∧ w ≤ 5000
theorem wtF_nn : ∀ (W : List Int) (m i : Nat), (∀ w ∈ W, 0 ≤ w ∧ w ≤ 5000) → 0 ≤ wtF W m i
  | [], _, _, _ => Int.le_refl 0
  | w :: ws, m, i, h => by
    have h1 := wtF_nn ws m (i + 1) (fun x hx => h x (List.mem_cons_of_mem _ hx))
    have h2 := h w (List.mem_cons_self ..)
    unfold wtF
    split <;> omega
theorem voWeight_ev (q : Int) (W : List Int) (h : Wok W) (m : Nat) : Ev (fun k => spec_voWeight.f k q W (m : Int)) (wtF W m 0) := by
  unfold spec_voWeight.f
  have := ev_rangeS W.length (fun k i s => spec_voWeight.l0 k (m : Int) s W (W.length : Int) (i : Int)) (fun i s => s + wtF (W.drop i) m i) (fun i s => 0 ≤ s ∧ s ≤ (i : Int) * 5000) ?_ ?_ 0 0 (Nat.zero_le _) ⟨by omega, by omega⟩
  · simpa using this
  · intro s hs
    refine ev_succ ?_
    simp only [spec_voWeight.l0]
    exact ev_neg (Int.lt_irrefl _) (ev_eqv (Ev.now _) (by simp [wtF]))
  · intro i s hi hs ih
    refine ev_succ ?_
    simp only [spec_voWeight.l0]
    have h9 := h.1
    have hw := h.2 W[i] (List.getElem_mem hi)
    refine ev_pos (by omega) (ev_pos (by omega) (ev_pos (by omega) ?_))
    rw [rd_get hi, wrap_succ hi (by omega), List.drop_eq_getElem_cons hi]
    rw [wtF]
    cases e : bitB m i with
    | true =>
      refine ev_pos ((tmod_bit1 m i (by omega)).2 e) ?_
      rw [wrap64_id (by omega)]
      exact ev_eqv (ih (s + W[i]) ⟨by omega, by omega⟩) (by simp [Int.add_assoc])
    | false => exact ev_neg (fun h => by rw [(tmod_bit1 m i (by omega)).1 h] at e; cases e) (ev_eqv (ih s ⟨by omega, by omega⟩) (by simp))
theorem iWeight_ev (q : Int) (W : List Int) (h : Wok W) (m : Nat) (hm : m < 65536) : Ev (fun k => impl_Committee_weight.f k q W (m : Int)) (wtF W m 0) := by
  unfold impl_Committee_weight.f
  have := ev_rangeS W.length (fun k i s => impl_Committee_weight.l0 k (m : Int) s W (W.length : Int) (i : Int)) (fun i s => s + wtF (W.drop i) m i) (fun i s => 0 ≤ s ∧ s ≤ (i : Int) * 5000) ?_ ?_ 0 0 (Nat.zero_le _) ⟨by omega, by omega⟩
  · simpa using this
  · intro s hs
    refine ev_succ ?_
    simp only [impl_Committee_weight.l0]
    exact ev_neg (Int.lt_irrefl _) (ev_eqv (Ev.now _) (by simp [wtF]))
  · intro i s hi hs ih
    refine ev_succ ?_
    simp only [impl_Committee_weight.l0]
    have h9 := h.1
    have hw := h.2 W[i] (List.getElem_mem hi)
    refine ev_pos (by omega) (ev_pos (by omega) (ev_pos (by omega) (ev_bindS (has_eq m i hm (by omega)) ?_)))
    rw [rd_get hi, wrap_succ hi (by omega), List.drop_eq_getElem_cons hi]
    rw [wtF]
    refine ev_bool (fun e => ?_) (fun e => ?_)
    · rw [wrap64_id (by omega)]
      exact ev_eqv (ih (s + W[i]) ⟨by omega, by omega⟩) (by simp [e, Int.add_assoc])
    · exact ev_eqv (ih s ⟨by omega, by omega⟩) (by simp [e])
theorem voAll_n (n : Nat) (hn : n ≤ 9) : spec_voAll.f (n : Int) = some (((2 ^ n : Nat) : Int) - 1) := by
  unfold spec_voAll.f
  rw [if_pos (by omega), all_bits (n : Int) (by omega), Int.toNat_natCast]
  simp
theorem voWins_ev (q : Int) (W : List Int) (h : Wok W) : Ev (fun k => spec_voWins.f k q W) (tabB (gW W q) (2 ^ W.length)) := by
  unfold spec_voWins.f
  have hp : 2 ^ W.length ≤ 512 := Nat.pow_le_pow_right (n := 2) (by decide) h.1
  have := ev_range (2 ^ W.length) (fun k i => spec_voWins.l0 k (tabB (gW W q) i) (i : Int) q W) (fun _ => tabB (gW W q) (2 ^ W.length)) ?_ ?_ 0 (Nat.zero_le _)
  · simpa [tabB] using this
  · refine ev_succ ?_
    simp only [spec_voWins.l0]
    exact ev_bindS (voAll_n _ h.1) (ev_neg (by omega) (Ev.now _))
  · intro i hi ih
    refine ev_succ ?_
    simp only [spec_voWins.l0]
    refine ev_bindS (voAll_n _ h.1) (ev_pos (by omega) (Ev.bind (voWeight_ev q W h i) (ev_pos (by rw [tabB_len]; omega) ?_)))
    rw [wrap_succ hi (by omega)]
    rw [tabB_succ] at ih
    exact ih
theorem coVotes_ev (q : Int) (W : List Int) (h : Wok W) : Ev (fun k => impl_Committee_votes.f k q W) ((W.length : Int), tabB (gW W q) (2 ^ W.length)) := by
  have hp : 2 ^ W.length ≤ 512 := Nat.pow_le_pow_right (n := 2) (by decide) h.1
  have he : ∀ m : Nat, m < 2 ^ W.length → Ev (fun k => impl_Committee_votes_1.f k (m : Int) q W) (gW W q m) := by
    intro m hm
    unfold impl_Committee_votes_1.f
    exact Ev.bind (iWeight_ev q W h m (by omega)) (ev_eqv (Ev.now _) rfl)
  obtain ⟨K, hK⟩ := ev_each (p := fun k x => impl_Committee_votes_1.f k x q W) (q := gW W q) (2 ^ W.length) he
  obtain ⟨K', hK'⟩ := votesOf_ev (fun x => if 0 ≤ x ∧ x < ((2 ^ W.length : Nat) : Int) then some (gW W q x.toNat) else none) (gW W q) (W.length : Int) (by have := h.1; omega) (fun i hi => by rw [Int.toNat_natCast] at hi; rw [if_pos (by omega), Int.toNat_natCast])
  refine ⟨max K K', fun k hk => ?_⟩
  unfold impl_Committee_votes.f
  have h1 := hK' k (by omega)
  rw [Int.toNat_natCast] at h1
  refine votesOf_pmono (fun x r hr => ?_) k (W.length : Int) _ h1
  by_cases c : 0 ≤ x ∧ x < ((2 ^ W.length : Nat) : Int)
  · rw [if_pos c] at hr
    have := hK k (by omega) x.toNat (by omega)
    rw [Int.toNat_of_nonneg c.1] at this
    rw [← hr]; exact this
  · rw [if_neg c] at hr; cases hr
def stW (g : Nat → Bool) (W : List Int) (st : Int × Int) (m : Nat) : Int × Int :=
  if g m = true then (if st.1 < 0 ∨ wtF W m 0 < st.1 then (wtF W m 0, st.2) else st) else (st.1, if st.2 < wtF W m 0 then wtF W m 0 else st.2)
def wqR (g : Nat → Bool) (W : List Int) (N : Nat) : Int × Int := (List.range N).foldl (stW g W) (-1, -1)
theorem range_drop (N i : Nat) (h : i < N) : (List.range N).drop i = i :: (List.range N).drop (i + 1) := by
  rw [List.drop_eq_getElem_cons (by rw [List.length_range]; exact h), List.getElem_range]
theorem spare_ev (a : Int) (g : Nat → Bool) (N : Nat) (hN : N ≤ 512) (W : List Int) (h : Wok W) : Ev (fun k => impl_votes_spare.f k a (tabB g N) W) (wqR g W N) := by
  unfold impl_votes_spare.f wqR
  rw [tabB_len]
  have := ev_rangeS N (fun k i (s : Int × Int) => impl_votes_spare.l0 k s.1 s.2 (tabB g N) (N : Int) (i : Int) 0 W) (fun i s => ((List.range N).drop i).foldl (stW g W) s) (fun _ _ => True) ?_ ?_ 0 (-1, -1) (Nat.zero_le _) trivial
  · simpa using this
  · intro s _
    refine ev_succ ?_
    simp only [impl_votes_spare.l0]
    exact ev_neg (Int.lt_irrefl _) (ev_eqv (Ev.now _) (by simp [List.drop_eq_nil_of_le]))
  · intro i s hi _ ih
    refine ev_succ ?_
    simp only [impl_votes_spare.l0]
    have hr : rdOf false (tabB g N) (i : Int) = g i := by rw [rdOf_get (by rw [tabB_len]; exact hi), tabB_get]
    refine ev_pos (by omega) (ev_pos (by omega) (ev_pos (by rw [tabB_len]; omega) (Ev.bind (iWeight_ev 0 W h i (by omega)) ?_)))
    rw [range_drop N i hi, List.foldl_cons, hr]
    refine ev_bool (fun e => ?_) (fun e => ?_)
    · refine lc_ite (fun c => ?_) (fun c => ?_)
      · refine ev_succ ?_
        simp only [impl_votes_spare.j1]
        refine ev_pos trivial (ev_pos e ?_)
        rw [wrap_succ hi (by omega)]
        exact ev_eqv (ih (wtF W i 0, s.2) trivial) (by rw [stW, if_pos e, if_pos (.inl c)])
      · refine ev_succ ?_
        simp only [impl_votes_spare.j1]
        refine lc_ite (fun c2 => ?_) (fun c2 => ?_)
        · refine ev_pos e ?_
          rw [wrap_succ hi (by omega)]
          exact ev_eqv (ih (wtF W i 0, s.2) trivial) (by rw [stW, if_pos e, if_pos (.inr (of_decide_eq_true c2))])
        · refine ev_pos e ?_
          rw [wrap_succ hi (by omega)]
          exact ev_eqv (ih s trivial) (by rw [stW, if_pos e, if_neg (fun h => h.elim c (fun h => c2 (decide_eq_true h)))])
    · refine ev_succ ?_
      simp only [impl_votes_spare.j1]
      refine ev_neg (by decide) (ev_neg (by rw [e]; decide) ?_)
      rw [wrap_succ hi (by omega)]
      exact ev_eqv (ih (s.1, mx s.2 (wtF W i 0)) trivial) (by rw [stW, if_neg (by rw [e]; decide)]; rfl)
theorem weQuota_ev (g : Nat → Bool) (N : Nat) (hN : N ≤ 512) (W : List Int) (h : Wok W) : Ev (fun k => spec_weQuota.f k (tabB g N) W) (wrap64 ((wqR g W N).2 + 1), decide ((wqR g W N).2 < (wqR g W N).1)) := by
  unfold spec_weQuota.f wqR
  rw [tabB_len]
  have := ev_rangeS N (fun k i (s : Int × Int) => spec_weQuota.l0 k s.2 s.1 (tabB g N) (N : Int) (i : Int) 0 W) (fun i s => (wrap64 ((((List.range N).drop i).foldl (stW g W) s).2 + 1), decide ((((List.range N).drop i).foldl (stW g W) s).2 < (((List.range N).drop i).foldl (stW g W) s).1))) (fun _ _ => True) ?_ ?_ 0 (-1, -1) (Nat.zero_le _) trivial
  · simpa using this
  · intro s _
    refine ev_succ ?_
    simp only [spec_weQuota.l0]
    exact ev_neg (Int.lt_irrefl _) (ev_eqv (Ev.now _) (by simp [List.drop_eq_nil_of_le]))
  · intro i s hi _ ih
    refine ev_succ ?_
    simp only [spec_weQuota.l0]
    have hr : rdOf false (tabB g N) (i : Int) = g i := by rw [rdOf_get (by rw [tabB_len]; exact hi), tabB_get]
    refine ev_pos (by omega) (ev_pos (by omega) (ev_pos (by rw [tabB_len]; omega) (Ev.bind (voWeight_ev 0 W h i) ?_)))
    rw [range_drop N i hi, List.foldl_cons, hr]
    refine ev_bool (fun e => ?_) (fun e => ?_)
    · refine lc_ite (fun c => ?_) (fun c => ?_)
      · refine ev_succ ?_
        simp only [spec_weQuota.j1]
        refine ev_pos trivial (ev_pos e ?_)
        rw [wrap_succ hi (by omega)]
        exact ev_eqv (ih (wtF W i 0, s.2) trivial) (by rw [stW, if_pos e, if_pos (.inl c)])
      · refine ev_succ ?_
        simp only [spec_weQuota.j1]
        refine lc_ite (fun c2 => ?_) (fun c2 => ?_)
        · refine ev_pos e ?_
          rw [wrap_succ hi (by omega)]
          exact ev_eqv (ih (wtF W i 0, s.2) trivial) (by rw [stW, if_pos e, if_pos (.inr (of_decide_eq_true c2))])
        · refine ev_pos e ?_
          rw [wrap_succ hi (by omega)]
          exact ev_eqv (ih s trivial) (by rw [stW, if_pos e, if_neg (fun h => h.elim c (fun h => c2 (decide_eq_true h)))])
    · refine ev_succ ?_
      simp only [spec_weQuota.j1]
      refine ev_neg (by decide) (ev_neg (by rw [e]; decide) ?_)
      rw [wrap_succ hi (by omega)]
      refine lc_ite (fun c => ?_) (fun c => ?_)
      · exact ev_eqv (ih (s.1, wtF W i 0) trivial) (by rw [stW, if_neg (by rw [e]; decide), if_pos c])
      · exact ev_eqv (ih s trivial) (by rw [stW, if_neg (by rw [e]; decide), if_neg c])
def posS (x : List Int) : List (List Int) → Nat
  | [] => 0
  | y :: ys => if lexB y x = true then posS x ys + 1 else 0
theorem posS_cons (x y : List Int) (ys : List (List Int)) : posS x (y :: ys) = if lexB y x = true then posS x ys + 1 else 0 := rfl
theorem insS_pos (x : List Int) : ∀ l, l.take (posS x l) ++ [x] ++ l.drop (posS x l) = insL lexB x l
  | [] => rfl
  | y :: ys => by
    have ih := insS_pos x ys
    unfold posS insL
    by_cases h : lexB y x = true
    · simp only [if_pos h, List.take_succ_cons, List.drop_succ_cons, List.cons_append]; rw [ih]
    · simp only [if_neg h]; rfl
theorem rdN_get {xs : List (List Int)} {i : Nat} (h : i < xs.length) : rdOf [] xs (i : Int) = xs[i] := by unfold rdOf; rw [Int.toNat_natCast]; exact getD_get h
theorem voSorted_l1 (x : List Int) (x8 : List (List Int)) (x9 x10 : Int) (l r : List (List Int)) (hl : l.length ≤ 1048576) (hx : ∀ y ∈ l, y.length ≤ 1048576) (ih : Ev (fun k => spec_voSorted.l0 k (insL lexB x l) x8 x9 (wrap64 (x10 + 1))) r) :
    ∀ (d i : Nat), i + d = l.length → i + posS x (l.drop i) = posS x l → Ev (fun k => spec_voSorted.l1 k l x (i : Int) x8 x9 x10) r
  | 0, i, hi, hp => by
    have hi' : i = l.length := by omega
    have e : posS x l = i := by rw [← hp, hi', List.drop_length]; rfl
    have ih' := ih
    rw [← insS_pos, e] at ih'
    refine ev_succ ?_
    simp only [spec_voSorted.l1, Option.bind_some, List.nil_append, List.length_nil, Nat.zero_add, Int.toNat_natCast, List.length_append, List.length_take, List.length_drop, List.length_cons]
    exact ev_neg (by omega) (ev_pos (by omega) (ev_pos (by omega) (ev_pos (by omega) (ev_pos (by omega) (ev_pos (by omega) ih')))))
  | d + 1, i, hi, hp => by
    have hlt : i < l.length := by omega
    refine ev_succ ?_
    simp only [spec_voSorted.l1, Option.bind_some, List.nil_append, List.length_nil, Nat.zero_add, Int.toNat_natCast, List.length_append, List.length_take, List.length_drop, List.length_cons]
    rw [List.drop_eq_getElem_cons hlt] at hp
    refine ev_pos (by omega) (ev_pos (by omega) ?_)
    rw [rdN_get hlt]
    refine Ev.bind (voBefore_ev _ _ (Nat.le_trans (hx _ (List.getElem_mem hlt)) (by decide))) (ev_bool (fun e => ?_) (fun e => ?_))
    · rw [wrap_succ hlt (by omega)]
      rw [posS_cons, if_pos e] at hp
      exact voSorted_l1 x x8 x9 x10 l r hl hx ih d (i + 1) (by omega) (by rw [← hp]; omega)
    · have e2 : posS x l = i := by
        rw [← hp, posS_cons, if_neg (by rw [e]; decide)]; rfl
      have ih' := ih
      rw [← insS_pos, e2] at ih'
      exact ev_pos (by omega) (ev_pos (by omega) (ev_pos (by omega) (ev_pos (by omega) ih')))
theorem foldS_step (l : List (List Int)) (i : Nat) (h : i < l.length) : (l.take (i + 1)).foldl (fun out x => insL lexB x out) [] = insL lexB l[i] ((l.take i).foldl (fun out x => insL lexB x out) []) := by
  rw [List.take_succ_eq_append_getElem h, List.foldl_append]; rfl
theorem voSorted_ev (l : List (List Int)) (hl : l.length ≤ 1048576) (hx : ∀ y ∈ l, y.length ≤ 1048576) : Ev (fun k => spec_voSorted.f k l) (sortL lexB l) := by
  unfold spec_voSorted.f
  have := ev_range l.length (fun k i => spec_voSorted.l0 k ((l.take i).foldl (fun out x => insL lexB x out) []) l (l.length : Int) (i : Int)) (fun _ => sortL lexB l) ?_ ?_ 0 (Nat.zero_le _)
  · exact this
  · refine ev_succ ?_
    simp only [spec_voSorted.l0, List.take_length]
    exact ev_neg (by omega) (Ev.now _)
  · intro i hi ih
    refine ev_succ ?_
    simp only [spec_voSorted.l0]
    refine ev_pos (by omega) (ev_pos (by omega) (ev_pos (by omega) ?_))
    rw [rdN_get hi]
    have hp := foldl_perm lexB (l.take i) []
    rw [List.append_nil] at hp
    have hlen : ((l.take i).foldl (fun out x => insL lexB x out) []).length ≤ l.length := by rw [hp.length_eq, List.length_take]; omega
    have := voSorted_l1 l[i] l (l.length : Int) (i : Int) _ (sortL lexB l) (Nat.le_trans hlen hl) (fun y hy => hx y (List.mem_of_mem_take (hp.mem_iff.1 hy))) ?_ _ 0 (Nat.zero_add _) (by simp)
    · exact this
    · rw [wrap_succ hi (by omega), ← foldS_step l i hi]; exact ih
def leastG (g : Nat → Bool) (m : Nat) : Bool := g m && (setL m).all fun x => !g (m - 2 ^ x.toNat)
theorem setL_sub_K : ((List.range 512).all fun m => (setL m).all fun x => decide (0 ≤ x ∧ x ≤ 8 ∧ 2 ^ x.toNat ≤ m) && (m &&& (m - 2 ^ x.toNat) == m - 2 ^ x.toNat)) = true := by decide +kernel
theorem setL_sub {m : Nat} (hm : m < 512) {x : Int} (hx : x ∈ setL m) : (0 ≤ x ∧ x ≤ 8 ∧ 2 ^ x.toNat ≤ m) ∧ m &&& (m - 2 ^ x.toNat) = m - 2 ^ x.toNat := by
  have h := List.all_eq_true.1 (List.all_eq_true.1 setL_sub_K m (List.mem_range.2 hm)) x hx
  rw [Bool.and_eq_true, decide_eq_true_eq, beq_iff_eq] at h
  exact h
theorem setL_is_K : ((List.range 10).all fun n => (List.range (2 ^ n)).all fun m => isSetB (setL m) (n : Int)) = true := by decide +kernel
theorem setL_is {n m : Nat} (hn : n ≤ 9) (hm : m < 2 ^ n) : isSetB (setL m) (n : Int) = true :=
  List.all_eq_true.1 (List.all_eq_true.1 setL_is_K n (List.mem_range.2 (by omega))) m (List.mem_range.2 hm)
theorem voLeast_l1 (g : Nat → Bool) (N m : Nat) (hN : N ≤ 512) (hm : m < N) (out r : List (List Int)) (ho : out.length ≤ 512)
    (hT : (setL m).all (fun x => !g (m - 2 ^ x.toNat)) = true → Ev (fun k => spec_voLeast.l0 k (tabB g N) (out ++ [setL m]) (tabB g N) (N : Int) ((m + 1 : Nat) : Int)) r)
    (hF : (setL m).all (fun x => !g (m - 2 ^ x.toNat)) = false → Ev (fun k => spec_voLeast.l0 k (tabB g N) out (tabB g N) (N : Int) ((m + 1 : Nat) : Int)) r) :
    Ev (fun k => spec_voLeast.l1 k (tabB g N) out (m : Int) true (tabB g N) (N : Int) (m : Int) (setL m) ((setL m).length : Int) 0) r := by
  have hl : (setL m).length ≤ 16 := bitsL_len _ _ _
  have := ev_rangeS (setL m).length (fun k i (s : Bool) => spec_voLeast.l1 k (tabB g N) out (m : Int) s (tabB g N) (N : Int) (m : Int) (setL m) ((setL m).length : Int) (i : Int)) (fun _ _ => r) (fun i s => (s && ((setL m).drop i).all (fun x => !g (m - 2 ^ x.toNat))) = (setL m).all (fun x => !g (m - 2 ^ x.toNat))) ?_ ?_ 0 true (Nat.zero_le _) (by simp)
  · exact this
  · intro s hs
    rw [List.drop_length, List.all_nil, Bool.and_true] at hs
    refine ev_succ ?_
    simp only [spec_voLeast.l1]
    refine ev_neg (Int.lt_irrefl _) (ev_bool (fun e => ?_) (fun e => ?_))
    · refine Ev.bind (voList_ev m (by omega)) (ev_pos (by omega) ?_)
      rw [wrap_succ hm (by omega)]
      exact hT (by rw [← hs, e])
    · rw [wrap_succ hm (by omega)]
      exact hF (by rw [← hs, e])
  · intro i s hi hs ih
    refine ev_succ ?_
    simp only [spec_voLeast.l1]
    refine ev_pos (by omega) (ev_pos (by omega) (ev_pos (by omega) ?_))
    rw [rd_get hi, wrap_succ hi (by omega)]
    rw [List.drop_eq_getElem_cons hi, List.all_cons] at hs
    have hx := (setL_sub (show m < 512 by omega) (List.getElem_mem hi)).1
    generalize (setL m)[i] = x at hx hs
    obtain ⟨j, rfl⟩ : ∃ j : Nat, x = (j : Int) := ⟨x.toNat, by omega⟩
    rw [Int.toNat_natCast] at hx hs
    have hj2 : 2 ^ j ≤ m := hx.2.2
    have e0 : ∀ p : Nat, p ≤ m → wrap64 ((m : Int) - (p : Int)) = ((m - p : Nat) : Int) := fun p hp => by rw [wrap64_id (by omega)]; omega
    have e1 : wrap64 ((m : Int) - shl .i64 1 (j : Int)) = ((m - 2 ^ j : Nat) : Int) := by rw [shl_one_nat j (by omega)]; exact e0 _ hj2
    have hlt : m - 2 ^ j < N := Nat.lt_of_le_of_lt (Nat.sub_le _ _) hm
    refine ev_bool (fun e => ?_) (fun e => ?_)
    · rw [e1, rdOf_tab hlt, tabB_len]
      refine ev_pos (by omega) (ev_pos (Int.natCast_nonneg _) (ev_pos (Int.ofNat_lt.2 hlt) (ih _ ?_)))
      rw [e, Bool.true_and] at hs
      exact hs
    · refine ih false ?_
      rw [e, Bool.false_and] at hs
      rw [Bool.false_and]; exact hs
theorem voLeast_ev (g : Nat → Bool) (N : Nat) (hN : N ≤ 512) : Ev (fun k => spec_voLeast.f k (tabB g N)) (sortL lexB (setsM (leastG g) N)) := by
  unfold spec_voLeast.f
  rw [tabB_len]
  have := ev_range N (fun k i => spec_voLeast.l0 k (tabB g N) (setsM (leastG g) i) (tabB g N) (N : Int) (i : Int)) (fun _ => sortL lexB (setsM (leastG g) N)) ?_ ?_ 0 (Nat.zero_le _)
  · exact this
  · refine ev_succ ?_
    simp only [spec_voLeast.l0]
    refine ev_neg (Int.lt_irrefl _) (Ev.bind (voSorted_ev _ (by have := setsM_len (leastG g) N; omega) (fun y hy => by have := setsM_mem hy; omega)) (Ev.now _))
  · intro i hi ih
    have hr : rdOf false (tabB g N) (i : Int) = g i := rdOf_tab hi
    refine ev_succ ?_
    simp only [spec_voLeast.l0]
    rw [hr]
    rw [setsM_succ] at ih
    refine ev_pos (by omega) (ev_pos (by omega) (ev_pos (by rw [tabB_len]; omega) (ev_bool (fun e => ?_) (fun e => ?_))))
    · refine Ev.bind (voList_ev i (by omega)) (voLeast_l1 g N i hN hi _ _ (by have := setsM_len (leastG g) i; omega) (fun h => ?_) (fun h => ?_))
      · rw [if_pos (by rw [leastG, e, h]; rfl)] at ih; exact ih
      · rw [if_neg (by rw [leastG, e, h]; decide), List.append_nil] at ih; exact ih
    · rw [if_neg (by rw [leastG, e, Bool.false_and]; decide), List.append_nil] at ih
      rw [wrap_succ hi (by omega)]
      exact ih
theorem wt_mono : ∀ (W : List Int) (m m' i : Nat), (∀ w ∈ W, 0 ≤ w ∧ w ≤ 5000) → m &&& m' = m' → wtF W m' i ≤ wtF W m i
  | [], _, _, _, _, _ => Int.le_refl _
  | w :: ws, m, m', i, h, e => by
    have h1 := wt_mono ws m m' (i + 1) (fun x hx => h x (List.mem_cons_of_mem _ hx)) e
    have h2 := h w (List.mem_cons_self ..)
    have h3 := congrArg (fun n => Nat.testBit n i) e
    simp only [Nat.testBit_and] at h3
    rw [wtF, wtF, bitB_test, bitB_test]
    revert h3
    cases m.testBit i <;> cases m'.testBit i <;> simp <;> omega
theorem least_in (g : Nat → Bool) : ∀ (n m : Nat), m ≤ n → m < 512 → g m = true → ∃ m', m' ≤ m ∧ leastG g m' = true ∧ m &&& m' = m'
  | n, m, hn, hm, h => by
    by_cases e : leastG g m = true
    · exact ⟨m, Nat.le_refl _, e, Nat.and_self m⟩
    · have e2 : ¬ (setL m).all (fun x => !g (m - 2 ^ x.toNat)) = true := fun h2 => e (by rw [leastG, h, h2]; rfl)
      have e3 : ∃ x, x ∈ setL m ∧ g (m - 2 ^ x.toNat) = true := by
        rw [List.all_eq_true] at e2
        obtain ⟨x, hx⟩ := Classical.not_forall.1 e2
        obtain ⟨hx1, hx2⟩ := Classical.not_imp.1 hx
        exact ⟨x, hx1, by simpa using hx2⟩
      obtain ⟨x, hx, hg⟩ := e3
      obtain ⟨⟨h0, h8, h2⟩, h3⟩ := setL_sub hm hx
      have hpos : 0 < 2 ^ x.toNat := Nat.two_pow_pos _
      match n with
      | 0 => exfalso; omega
      | n + 1 =>
        obtain ⟨m', l1, l2, l3⟩ := least_in g n (m - 2 ^ x.toNat) (by omega) (by omega) hg
        refine ⟨m', by omega, l2, ?_⟩
        rw [← l3, ← Nat.and_assoc, h3]
theorem winB_least (W : List Int) (hW : Wok W) (q : Int) (N : Nat) (hN : N ≤ 512) (m : Nat) (hm : m < N) : winB (sortL lexB (setsM (leastG (gW W q)) N)) m = gW W q m := by
  rw [Bool.eq_iff_iff]
  unfold winB
  rw [List.any_eq_true]
  constructor
  · rintro ⟨s, hs, h⟩
    have hs := (sortL_perm lexB _).mem_iff.1 hs
    obtain ⟨m', h1, rfl⟩ := List.mem_map.1 hs
    obtain ⟨h2, h3⟩ := List.mem_filter.1 h1
    have h4 := List.mem_range.1 h2
    rw [setL_mask m' (by omega), beq_iff_eq] at h
    rw [leastG, Bool.and_eq_true] at h3
    have h5 := h3.1
    have h6 := wt_mono W m m' 0 hW.2 h
    unfold gW at *
    rw [decide_eq_true_eq] at *
    omega
  · intro h
    obtain ⟨m', h1, h2, h3⟩ := least_in (gW W q) m m (Nat.le_refl _) (by omega) h
    refine ⟨setL m', (sortL_perm lexB _).mem_iff.2 (List.mem_map.2 ⟨m', List.mem_filter.2 ⟨List.mem_range.2 (by omega), h2⟩, rfl⟩), ?_⟩
    rw [setL_mask m' (by omega), beq_iff_eq]
    exact h3
theorem tabB_congr {f g : Nat → Bool} {N : Nat} (h : ∀ m, m < N → f m = g m) : tabB f N = tabB g N := by
  unfold tabB
  exact List.map_congr_left fun m hm => h m (List.mem_range.1 hm)
def gameL (W : List Int) (q : Int) : List (List Int) := sortL lexB (setsM (leastG (gW W q)) (2 ^ W.length))
theorem weOf_ev (q : Int) (W : List Int) (h : Wok W) : Ev (fun k => spec_weOf.f k q W) ((W.length : Int), gameL W q) := by
  have hp : 2 ^ W.length ≤ 512 := Nat.pow_le_pow_right (n := 2) (by decide) h.1
  unfold spec_weOf.f
  refine Ev.bind (voWins_ev q W h) ?_
  refine Ev.bind (a := ((W.length : Int), gameL W q)) ?_ (Ev.now _)
  unfold spec_gmOf.f
  exact Ev.bind (voLeast_ev (gW W q) (2 ^ W.length) hp) (Ev.now _)
theorem gmAllC_ev (q : Int) (W : List Int) (h : Wok W) (h1 : 1 ≤ W.length) : Ev (fun k => spec_gmAll.f k (W.length : Int) (gameL W q)) (tabB (gW W q) (2 ^ W.length)) := by
  have hp : 2 ^ W.length ≤ 512 := Nat.pow_le_pow_right (n := 2) (by decide) h.1
  have hl : (gameL W q).length ≤ 512 := by
    have := setsM_len (leastG (gW W q)) (2 ^ W.length)
    rw [gameL, (sortL_perm lexB _).length_eq]; omega
  have hs : SetsOk (W.length : Int) (gameL W q) := ⟨by have := h.1; omega, fun x hx => by
    have hx := (sortL_perm lexB _).mem_iff.1 hx
    obtain ⟨m', h1, rfl⟩ := List.mem_map.1 hx
    obtain ⟨h2, h3⟩ := List.mem_filter.1 h1
    exact ⟨setL_is h.1 (List.mem_range.1 h2), Nat.le_trans (bitsL_len _ _ _) (by decide)⟩⟩
  unfold spec_gmAll.f
  refine Ev.bind (gmWins_ev (W.length : Int) (gameL W q) (by omega) hs) (ev_eqv (Ev.now _) ?_)
  unfold winT
  rw [Int.toNat_natCast]
  exact tabB_congr fun m hm => winB_least W h q _ hp m hm
def fitF (g : Nat → Bool) (N : Nat) (W : List Int) : Option Int := if (wqR g W N).1 ≤ (wqR g W N).2 then none else some (wrap64 ((wqR g W N).2 + 1))
def lookF (fit : List Int → Option Int) : Nat → List Int → Nat → Option (Int × List Int)
  | 0, b, s => (fit (b ++ [(s : Int)])).map fun q => (q, b ++ [(s : Int)])
  | r + 1, b, s => (List.range (s + 1)).findSome? fun x : Nat => lookF fit r (b ++ [(x : Int)]) (s - x)
theorem look_ok (fit : List Int → Option Int) : ∀ (r : Nat) (b : List Int) (s : Nat) (p : Int × List Int), s ≤ 5000 → (∀ w ∈ b, 0 ≤ w ∧ w ≤ 5000) → lookF fit r b s = some p → fit p.2 = some p.1 ∧ p.2.length = b.length + r + 1 ∧ ∀ w ∈ p.2, 0 ≤ w ∧ w ≤ 5000
  | 0, b, s, p, hs, hb, h => by
    rw [lookF, Option.map_eq_some_iff] at h
    obtain ⟨q, h1, rfl⟩ := h
    refine ⟨h1, by simp, fun w hw => ?_⟩
    rcases List.mem_append.1 hw with h | h
    · exact hb w h
    · rw [List.mem_singleton] at h; omega
  | r + 1, b, s, p, hs, hb, h => by
    rw [lookF, List.findSome?_eq_some_iff] at h
    obtain ⟨l1, x, l2, e, h, _⟩ := h
    have hx : x < s + 1 := List.mem_range.1 (by rw [e]; simp)
    obtain ⟨h1, h2, h3⟩ := look_ok fit r _ _ p (by omega) (fun w hw => by
      rcases List.mem_append.1 hw with h | h
      · exact hb w h
      · rw [List.mem_singleton] at h; omega) h
    exact ⟨h1, by rw [h2, List.length_append, List.length_singleton]; omega, h3⟩
theorem look_some (fit : List Int → Option Int) : ∀ (r : Nat) (b e : List Int) (s : Nat), e.length = r + 1 → (∀ w ∈ e, 0 ≤ w) → e.foldr (fun a c => a + c) 0 = (s : Int) → fit (b ++ e) ≠ none → lookF fit r b s ≠ none
  | 0, b, e, s, h1, h2, h3, h4 => by
    match e, h1 with
    | [w], _ =>
      have : w = (s : Int) := by simpa using h3
      subst this
      rw [lookF]
      simpa using h4
  | r + 1, b, e, s, h1, h2, h3, h4 => by
    match e, h1 with
    | w :: ws, h1 =>
      have hw := h2 w (List.mem_cons_self ..)
      have hn : 0 ≤ ws.foldr (fun a c => a + c) 0 := by
        have : ∀ l : List Int, (∀ w ∈ l, 0 ≤ w) → 0 ≤ l.foldr (fun a c => a + c) 0 := fun l => by
          induction l with
          | nil => intro _; exact Int.le_refl _
          | cons y ys ih =>
            intro h
            have h1 := ih (fun z hz => h z (List.mem_cons_of_mem _ hz))
            have h2 := h y (List.mem_cons_self ..)
            rw [List.foldr_cons]; omega
        exact this ws (fun z hz => h2 z (List.mem_cons_of_mem _ hz))
      rw [List.foldr_cons] at h3
      have hx : (w.toNat : Int) = w := Int.toNat_of_nonneg hw
      rw [lookF]
      intro hc
      rw [List.findSome?_eq_none_iff] at hc
      have := hc w.toNat (List.mem_range.2 (by omega))
      rw [hx] at this
      refine look_some fit r (b ++ [w]) ws (s - w.toNat) (by simpa using h1) (fun z hz => h2 z (List.mem_cons_of_mem _ hz)) (by omega) ?_ this
      rw [List.append_assoc]; exact h4
def resL : Option (Int × List Int) → List Int × Bool
  | some p => (p.2, true)
  | none => ([], false)
theorem l1Own_eq (b : List Int) (h : b.length < 17592186044416) : spec_l1Own.f b = some b := by
  unfold spec_l1Own.f
  simp [h]
section
variable (g : Nat → Bool) (N n : Nat) (hN : N ≤ 512) (hn : n ≤ 9)
include hN hn
theorem weLook_ev : ∀ (r : Nat) (b : List Int) (s : Nat), b.length + r + 1 = n → (∀ w ∈ b, 0 ≤ w ∧ w ≤ 5000) → s ≤ 5000 → ∃ l, Ev (fun k => spec_weLook.f k (tabB g N) (n : Int) b (s : Int)) (l, (lookF (fitF g N) r b s).isSome) ∧ ∀ p, lookF (fitF g N) r b s = some p → l = p.2
  | 0, b, s, hb, hw, hs => by
    have hW : Wok (b ++ [(s : Int)]) := ⟨by simp; omega, fun w h => by
      rcases List.mem_append.1 h with h | h
      · exact hw w h
      · rw [List.mem_singleton] at h; omega⟩
    refine ⟨b ++ [(s : Int)], ?_, fun p hp => ?_⟩
    · refine ev_succ ?_
      simp only [spec_weLook.f]
      refine ev_pos (by rw [wrap64_id (by omega)]; omega) (ev_bindS (l1Own_eq b (by omega)) (ev_pos (by omega) (ev_bindS rfl (Ev.bind (weQuota_ev g N hN _ hW) (ev_eqv (Ev.now _) ?_)))))
      rw [lookF, Option.isSome_map, fitF]
      by_cases c : (wqR g (b ++ [(s : Int)]) N).1 ≤ (wqR g (b ++ [(s : Int)]) N).2
      · rw [if_pos c, decide_eq_false (by omega)]; rfl
      · rw [if_neg c, decide_eq_true (by omega)]; rfl
    · rw [lookF, Option.map_eq_some_iff] at hp
      obtain ⟨q, _, rfl⟩ := hp
      rfl
  | r + 1, b, s, hb, hw, hs => by
    have hl := ev_range (s + 1) (fun k i => spec_weLook.l0 k (tabB g N) (n : Int) b (s : Int) (i : Int)) (fun i => resL (((List.range (s + 1)).drop i).findSome? fun x : Nat => lookF (fitF g N) r (b ++ [(x : Int)]) (s - x))) ?_ ?_ 0 (Nat.zero_le _)
    · refine ⟨(resL (lookF (fitF g N) (r + 1) b s)).1, ?_, fun p hp => by rw [hp]; rfl⟩
      refine ev_succ ?_
      simp only [spec_weLook.f]
      refine ev_neg (by rw [wrap64_id (by omega)]; omega) (ev_eqv hl ?_)
      rw [List.drop_zero, ← lookF]
      cases lookF (fitF g N) (r + 1) b s <;> rfl
    · refine ev_succ ?_
      simp only [spec_weLook.l0]
      refine ev_neg (by omega) (ev_eqv (Ev.now _) ?_)
      rw [List.drop_eq_nil_of_le (by simp)]; rfl
    · intro i hi ih
      refine ev_succ ?_
      simp only [spec_weLook.l0]
      have hr := weLook_ev r (b ++ [(i : Int)]) (s - i) (by simp; omega) (fun w h => by
        rcases List.mem_append.1 h with h | h
        · exact hw w h
        · rw [List.mem_singleton] at h; omega) (by omega)
      obtain ⟨l, h1, h2⟩ := hr
      refine ev_pos (by omega) (ev_bindS (l1Own_eq b (by omega)) (ev_pos (by omega) ?_))
      have e1 : wrap64 ((s : Int) - (i : Int)) = ((s - i : Nat) : Int) := by rw [wrap64_id (by omega)]; omega
      rw [e1, wrap_succ hi (by omega), range_drop (s + 1) i hi, List.findSome?_cons]
      refine Ev.bind h1 (ev_bool (fun e => ?_) (fun e => ?_))
      · cases h3 : lookF (fitF g N) r (b ++ [(i : Int)]) (s - i) with
        | none => rw [h3] at e; cases e
        | some p => exact ev_eqv (Ev.now _) (by rw [h2 p h3]; rfl)
      · cases h3 : lookF (fitF g N) r (b ++ [(i : Int)]) (s - i) with
        | none => exact ih
        | some p => rw [h3] at e; cases e
theorem eachW_ev : ∀ (r : Nat) (b : List Int) (s : Nat), b.length + r + 1 = n → (∀ w ∈ b, 0 ≤ w ∧ w ≤ 5000) → s ≤ 5000 → Ev (fun k => eachW.f k (n : Int) (tabB g N) b (s : Int)) (lookF (fitF g N) r b s)
  | 0, b, s, hb, hw, hs => by
    have hW : Wok (b ++ [(s : Int)]) := ⟨by simp; omega, fun w h => by
      rcases List.mem_append.1 h with h | h
      · exact hw w h
      · rw [List.mem_singleton] at h; omega⟩
    refine ev_succ ?_
    simp only [eachW.f]
    refine ev_pos (by rw [wrap64_id (by omega)]; omega) (ev_pos (by omega) (Ev.bind (spare_ev _ g N hN _ hW) ?_))
    rw [lookF, fitF]
    exact lc_ite (fun c => ev_eqv (Ev.now _) (by rw [if_pos c]; rfl)) (fun c => ev_eqv (Ev.now _) (by rw [if_neg c]; rfl))
  | r + 1, b, s, hb, hw, hs => by
    have hl := ev_range (s + 1) (fun k i => eachW.l k (n : Int) (tabB g N) b (s : Int) (i : Int)) (fun i => ((List.range (s + 1)).drop i).findSome? fun x : Nat => lookF (fitF g N) r (b ++ [(x : Int)]) (s - x)) ?_ ?_ 0 (Nat.zero_le _)
    · refine ev_succ ?_
      simp only [eachW.f]
      exact ev_neg (by rw [wrap64_id (by omega)]; omega) (ev_eqv hl (by rw [List.drop_zero, ← lookF]))
    · refine ev_succ ?_
      simp only [eachW.l]
      refine ev_neg (by rw [wrap64_id (by omega)]; omega) (ev_eqv (Ev.now _) ?_)
      rw [List.drop_eq_nil_of_le (by simp)]; rfl
    · intro i hi ih
      refine ev_succ ?_
      simp only [eachW.l]
      have hr := eachW_ev r (b ++ [(i : Int)]) (s - i) (by simp; omega) (fun w h => by
        rcases List.mem_append.1 h with h | h
        · exact hw w h
        · rw [List.mem_singleton] at h; omega) (by omega)
      have e1 : wrap64 ((s : Int) - (i : Int)) = ((s - i : Nat) : Int) := by rw [wrap64_id (by omega)]; omega
      refine ev_pos (by rw [wrap64_id (by omega)]; omega) (ev_pos (by omega) ?_)
      rw [e1, wrap_succ hi (by omega), range_drop (s + 1) i hi, List.findSome?_cons]
      refine Ev.bind hr ?_
      cases h3 : lookF (fitF g N) r (b ++ [(i : Int)]) (s - i) with
      | none => exact ih
      | some p => exact Ev.now _
end
theorem deUnlikeW_ev (W : List Int) (q : Int) (n i j : Nat) (hn : n ≤ 9) (hi : i < n) (hj : j < n) : Ev (fun k => spec_deUnlike.f k (tabB (gW W q) (2 ^ n)) (i : Int) (j : Int)) false := by
  unfold spec_deUnlike.f
  by_cases h : W.getD j 0 ≤ W.getD i 0
  · exact Ev.bind (ev_eqv (deWorth_ev (gW W q) n i j hn hi hj) (worth_W hn hi hj h)) (ev_pos rfl (Ev.now _))
  · refine Ev.bind (deWorth_ev (gW W q) n i j hn hi hj) (ev_bool (fun _ => Ev.now _) (fun _ => ?_))
    exact Ev.bind (ev_eqv (deWorth_ev (gW W q) n j i hn hj hi) (worth_W hn hj hi (by omega))) (Ev.now _)
theorem deCompleteW_ev (W : List Int) (q : Int) (n : Nat) (hn : n ≤ 9) : Ev (fun k => spec_deComplete.f k (tabB (gW W q) (2 ^ n)) (n : Int)) true := by
  unfold spec_deComplete.f
  have := ev_range n (fun k i => spec_deComplete.l0 k (tabB (gW W q) (2 ^ n)) (n : Int) (i : Int)) (fun _ => true) ?_ ?_ 0 (Nat.zero_le _)
  · exact this
  · refine ev_succ ?_
    simp only [spec_deComplete.l0]
    exact ev_neg (Int.lt_irrefl _) (Ev.now _)
  · intro i hi ih
    refine ev_succ ?_
    simp only [spec_deComplete.l0]
    refine ev_pos (by omega) ?_
    have := ev_range i (fun k j => spec_deComplete.l1 k (tabB (gW W q) (2 ^ n)) (n : Int) (i : Int) (j : Int)) (fun _ => true) ?_ ?_ 0 (Nat.zero_le _)
    · exact this
    · refine ev_succ ?_
      simp only [spec_deComplete.l1]
      refine ev_neg (Int.lt_irrefl _) ?_
      rw [wrap_succ hi (by omega)]
      exact ih
    · intro j hj ih2
      refine ev_succ ?_
      simp only [spec_deComplete.l1]
      refine ev_pos (by omega) (Ev.bind (deUnlikeW_ev W q n i j hn hi (by omega)) (ev_neg (by decide) ?_))
      rw [wrap_succ hj (by omega)]
      exact ih2
theorem wtF_le : ∀ (W : List Int) (m i : Nat), (∀ w ∈ W, 0 ≤ w ∧ w ≤ 5000) → wtF W m i ≤ (W.length : Int) * 5000
  | [], _, _, _ => by simp [wtF]
  | w :: ws, m, i, h => by
    have h1 := wtF_le ws m (i + 1) (fun x hx => h x (List.mem_cons_of_mem _ hx))
    have h2 := h w (List.mem_cons_self ..)
    rw [wtF, List.length_cons]
    split <;> omega
theorem fold_pos (g : Nat → Bool) (W : List Int) (hW : Wok W) : ∀ (l : List Nat) (st : Int × Int), (0 ≤ st.2 ∧ st.2 ≤ 45000) → 0 ≤ (l.foldl (stW g W) st).2 ∧ (l.foldl (stW g W) st).2 ≤ 45000
  | [], st, h => h
  | m :: l, st, h => by
    rw [List.foldl_cons]
    refine fold_pos g W hW l _ ?_
    have h1 := wtF_nn W m 0 hW.2
    have h2 := wtF_le W m 0 hW.2
    have h3 := hW.1
    unfold stW
    split
    · split
      · exact h
      · exact h
    · dsimp only
      split <;> omega
theorem fit_pos (g : Nat → Bool) (N : Nat) (hN : 1 ≤ N) (h0 : g 0 = false) (W : List Int) (hW : Wok W) (p : Int) (h : fitF g N W = some p) : p ≠ 0 ∧ p = (wqR g W N).2 + 1 := by
  have hp : 0 ≤ (wqR g W N).2 ∧ (wqR g W N).2 ≤ 45000 := by
    unfold wqR
    obtain ⟨d, rfl⟩ : ∃ d, N = d + 1 := ⟨N - 1, by omega⟩
    rw [show List.range (d + 1) = 0 :: (List.range (d + 1)).drop 1 from by rw [← range_drop (d + 1) 0 (by omega), List.drop_zero], List.foldl_cons]
    refine fold_pos g W hW _ _ ?_
    have h1 := wtF_nn W 0 0 hW.2
    have h2 := wtF_le W 0 0 hW.2
    have h3 := hW.1
    unfold stW
    rw [h0, if_neg (by decide)]
    dsimp only
    rw [if_pos (by omega)]
    omega
  unfold fitF at h
  split at h
  · cases h
  · rw [wrap64_id (by omega)] at h
    have := Option.some.inj h
    exact ⟨by omega, this.symm⟩
theorem fold_fit (W : List Int) (q : Int) (hq : 1 ≤ q) : ∀ (l : List Nat) (st : Int × Int), st.2 < q → (st.1 = -1 ∨ q ≤ st.1) → (q ≤ st.1 ∨ ∃ m ∈ l, gW W q m = true) → (l.foldl (stW (gW W q) W) st).2 < q ∧ q ≤ (l.foldl (stW (gW W q) W) st).1
  | [], st, h1, h2, h3 => ⟨h1, h3.elim id (fun h => by obtain ⟨m, hm, _⟩ := h; cases hm)⟩
  | m :: l, st, h1, h2, h3 => by
    rw [List.foldl_cons]
    cases e : gW W q m with
    | true =>
      have e2 : q ≤ wtF W m 0 := by unfold gW at e; exact of_decide_eq_true e
      have hs : (stW (gW W q) W st m).2 = st.2 ∧ q ≤ (stW (gW W q) W st m).1 := by
        unfold stW
        rw [if_pos e]
        split
        · exact ⟨rfl, e2⟩
        · exact ⟨rfl, by omega⟩
      exact fold_fit W q hq l _ (by rw [hs.1]; exact h1) (.inr hs.2) (.inl hs.2)
    | false =>
      have e2 : wtF W m 0 < q := by unfold gW at e; have := of_decide_eq_false e; omega
      have hs : (stW (gW W q) W st m).1 = st.1 ∧ (stW (gW W q) W st m).2 < q := by
        unfold stW
        rw [if_neg (by rw [e]; decide)]
        refine ⟨rfl, ?_⟩
        dsimp only
        split <;> omega
      refine fold_fit W q hq l _ hs.2 (by rw [hs.1]; exact h2) ?_
      rw [hs.1]
      rcases h3 with h | ⟨m', hm', h⟩
      · exact .inl h
      · rcases List.mem_cons.1 hm' with rfl | hm'
        · rw [e] at h; cases h
        · exact .inr ⟨m', hm', h⟩
theorem wt_full : ∀ (W : List Int) (M i : Nat), (∀ j, j < W.length → bitB M (i + j) = true) → wtF W M i = W.foldr (fun a c => a + c) 0
  | [], _, _, _ => rfl
  | w :: ws, M, i, h => by
    rw [wtF, List.foldr_cons, wt_full ws M (i + 1) (fun j hj => by have := h (j + 1) (by rw [List.length_cons]; omega); rwa [show i + 1 + j = i + (j + 1) by omega]), if_pos (by have := h 0 (by rw [List.length_cons]; omega); rwa [Nat.add_zero] at this)]
theorem own_fit (W : List Int) (hW : Wok W) (q : Int) (hq : 1 ≤ q) (hs : q ≤ W.foldr (fun a c => a + c) 0) : fitF (gW W q) (2 ^ W.length) W ≠ none := by
  have hpos := Nat.two_pow_pos W.length
  have hw : gW W q (2 ^ W.length - 1) = true := by
    unfold gW
    rw [wt_full W _ 0 (fun j hj => by rw [bitB_test, Nat.testBit_two_pow_sub_one, Nat.zero_add]; exact decide_eq_true hj)]
    exact decide_eq_true hs
  have := fold_fit W q hq (List.range (2 ^ W.length)) (-1, -1) (by show -1 < q; omega) (.inl rfl) (.inr ⟨_, List.mem_range.2 (by omega), hw⟩)
  unfold fitF wqR
  rw [if_neg (by omega)]
  exact Option.some_ne_none _
theorem sumF_foldr : ∀ (W : List Int) (s : Int), (∀ w ∈ W, 0 ≤ w ∧ w ≤ 1000) → 0 ≤ s → s + (W.length : Int) * 1000 ≤ 1000000 → sumF s W = s + W.foldr (fun a c => a + c) 0
  | [], s, _, _, _ => by simp [sumF]
  | w :: ws, s, h, h0, h1 => by
    have h2 := h w (List.mem_cons_self ..)
    rw [List.length_cons] at h1
    rw [sumF, wrap64_id (by omega), sumF_foldr ws _ (fun x hx => h x (List.mem_cons_of_mem _ hx)) (by omega) (by omega), List.foldr_cons]
    omega
theorem find_now (W : List Int) (hW : Wok W) (q : Int) (hn : 1 ≤ W.length) (hp : 2 ^ W.length ≤ 512) (hpos : 0 < 2 ^ W.length) (h0 : gW W q 0 = false) (L : List (List Int)) (x : Nat) (hx : x ≤ 5000) (p : Int × List Int) (hk : lookF (fitF (gW W q) (2 ^ W.length)) (W.length - 1) [] x = some p) :
    ∃ p : Int × List Int, (p.2.length = W.length ∧ ∀ w ∈ p.2, 0 ≤ w ∧ w ≤ 5000) ∧ Ev (fun k => spec_weFind.l0 k (tabB (gW W q) (2 ^ W.length)) (x : Int) (W.length : Int) L) (p.1, p.2, true) ∧ Ev (fun k => fnd.l k (W.length : Int) (tabB (gW W q) (2 ^ W.length)) 0 [] (x : Int)) p := by
  obtain ⟨f1, f2, f3⟩ := look_ok _ (W.length - 1) [] x p hx (by simp) hk
  rw [List.length_nil] at f2
  have hWp : Wok p.2 := ⟨by have := hW.1; omega, f3⟩
  obtain ⟨g1, g2⟩ := fit_pos (gW W q) (2 ^ W.length) hpos h0 p.2 hWp p.1 f1
  have ew : wrap64 ((x : Int) + 1) = ((x + 1 : Nat) : Int) := by rw [wrap64_id (by omega)]; omega
  refine ⟨p, ⟨by omega, f3⟩, ?_, ?_⟩
  · obtain ⟨l, e1, e2⟩ := weLook_ev (gW W q) (2 ^ W.length) W.length hp hW.1 (W.length - 1) [] x (by simp; omega) (by simp) hx
    rw [hk] at e1
    obtain rfl := e2 p hk
    refine ev_succ ?_
    simp only [spec_weFind.l0]
    refine Ev.bind e1 (ev_pos rfl (Ev.bind (weQuota_ev (gW W q) _ hp p.2 hWp) (ev_eqv (Ev.now _) ?_)))
    have hf := f1
    unfold fitF at hf
    split at hf
    · cases hf
    · rw [Option.some.inj hf]
  · have e1 := eachW_ev (gW W q) (2 ^ W.length) W.length hp hW.1 (W.length - 1) [] x (by simp; omega) (by simp) hx
    rw [hk] at e1
    refine ev_succ ?_
    simp only [fnd.l]
    refine ev_pos trivial (Ev.bind e1 (ev_succ ?_))
    simp only [fnd.l]
    exact ev_neg g1 (ev_eqv (Ev.now _) rfl)
theorem find_ev (W : List Int) (hW : Wok W) (q : Int) (hq : 1 ≤ q) (hs : q ≤ W.foldr (fun a c => a + c) 0) (hn : 1 ≤ W.length) (T0 : Nat) (hT0 : W.foldr (fun a c => a + c) 0 = (T0 : Int)) (hT1 : T0 ≤ 5000) (L : List (List Int)) :
    ∀ d x, x + d = T0 → ∃ p : Int × List Int, (p.2.length = W.length ∧ ∀ w ∈ p.2, 0 ≤ w ∧ w ≤ 5000) ∧ Ev (fun k => spec_weFind.l0 k (tabB (gW W q) (2 ^ W.length)) (x : Int) (W.length : Int) L) (p.1, p.2, true) ∧ Ev (fun k => fnd.l k (W.length : Int) (tabB (gW W q) (2 ^ W.length)) 0 [] (x : Int)) p := by
  have hp : 2 ^ W.length ≤ 512 := Nat.pow_le_pow_right (n := 2) (by decide) hW.1
  have hpos := Nat.two_pow_pos W.length
  have h0 : gW W q 0 = false := by
    unfold gW
    have : ∀ (V : List Int) (i : Nat), wtF V 0 i = 0 := fun V => by
      induction V with
      | nil => intro i; rfl
      | cons v vs ih => intro i; rw [wtF, ih, bitB_test, Nat.zero_testBit, if_neg (by decide)]; rfl
    rw [this]
    exact decide_eq_false (by omega)
  intro d
  induction d with
  | zero =>
    intro x hx
    obtain rfl : x = T0 := by omega
    have hne := look_some (fitF (gW W q) (2 ^ W.length)) (W.length - 1) [] W x (by omega) (fun w h => (hW.2 w h).1) hT0 (by rw [List.nil_append]; exact own_fit W hW q hq hs)
    obtain ⟨p, hk⟩ := Option.ne_none_iff_exists'.1 hne
    exact find_now W hW q hn hp hpos h0 L x hT1 p hk
  | succ d ih =>
    intro x hx
    cases hk : lookF (fitF (gW W q) (2 ^ W.length)) (W.length - 1) [] x with
    | some p => exact find_now W hW q hn hp hpos h0 L x (by omega) p hk
    | none =>
      obtain ⟨p, h1, h2, h3⟩ := ih (x + 1) (by omega)
      have ew : wrap64 ((x : Int) + 1) = ((x + 1 : Nat) : Int) := by rw [wrap64_id (by omega)]; omega
      refine ⟨p, h1, ?_, ?_⟩
      · obtain ⟨l, e1, e2⟩ := weLook_ev (gW W q) (2 ^ W.length) W.length hp hW.1 (W.length - 1) [] x (by simp; omega) (by simp) (by omega)
        rw [hk] at e1
        refine ev_succ ?_
        simp only [spec_weFind.l0]
        refine Ev.bind e1 (ev_neg (by simp) ?_)
        rw [ew]; exact h2
      · have e1 := eachW_ev (gW W q) (2 ^ W.length) W.length hp hW.1 (W.length - 1) [] x (by simp; omega) (by simp) (by omega)
        rw [hk] at e1
        refine ev_succ ?_
        simp only [fnd.l]
        refine ev_pos trivial (Ev.bind e1 ?_)
        rw [ew]; exact h3
theorem LeastCommittee_ev (q : Int) (l : List Int) (hl : l.length ≤ 1048576) : ∃ (g : Int) (p : List Int) (b : Bool), p.length ≤ 9 ∧ (∀ w ∈ p, 0 ≤ w ∧ w ≤ 5000) ∧ Ev (fun k => spec_LeastCommittee.f k q l) (g, p, b) ∧ Ev (fun k => impl_LeastCommittee.f k q l) (g, p, b) := by
  have hG := voGood_ev q l (by omega)
  have hI := IsCommittee_ev q l (by omega)
  have hS : Ev (fun k => spec_weSmall.f k q l) (coOk q l && decide (l.length ≤ 5)) := by
    unfold spec_weSmall.f
    refine Ev.bind hG (ev_bool (fun h => ?_) (fun h => ?_))
    · rw [h, Bool.true_and]
      exact ev_eqv (Ev.now _) (decide_eq_decide.2 (by omega))
    · rw [h, Bool.false_and]
      exact Ev.now _
  by_cases hc : coOk q l = true
  case neg =>
    have hc := eq_false_of_ne_true hc
    refine ⟨0, [], false, by simp, by simp, ?_, ?_⟩
    · unfold spec_LeastCommittee.f
      rw [hc, Bool.false_and] at hS
      exact Ev.bind hS (ev_neg (by decide) (Ev.now _))
    · unfold impl_LeastCommittee.f
      rw [hc] at hI
      refine Ev.bind hI (ev_neg (by decide) (ev_succ ?_))
      simp only [impl_LeastCommittee.j0]
      exact ev_pos trivial (Ev.now _)
  by_cases h5 : l.length ≤ 5
  case neg =>
    refine ⟨0, [], false, by simp, by simp, ?_, ?_⟩
    · unfold spec_LeastCommittee.f
      rw [decide_eq_false h5, Bool.and_false] at hS
      exact Ev.bind hS (ev_neg (by decide) (Ev.now _))
    · unfold impl_LeastCommittee.f
      rw [hc] at hI
      refine Ev.bind hI (ev_pos rfl (ev_succ ?_))
      simp only [impl_LeastCommittee.j0]
      exact ev_pos (decide_eq_true (by omega)) (Ev.now _)
  have hc2 := hc
  unfold coOk at hc2
  simp only [Bool.and_eq_true, decide_eq_true_eq, List.all_eq_true, inB] at hc2
  obtain ⟨⟨h1, h9⟩, hw, hq1, hq2⟩ := hc2
  have hW : Wok l := ⟨h9, fun w h => by have := hw w h; omega⟩
  have hf := sumF_foldr l 0 (fun w h => by have := hw w h; omega) (by omega) (by omega)
  rw [Int.zero_add] at hf
  rw [hf] at hq2
  have hle : ∀ V : List Int, (∀ w ∈ V, 0 ≤ w ∧ w ≤ 1000) → 0 ≤ V.foldr (fun a c => a + c) 0 ∧ V.foldr (fun a c => a + c) 0 ≤ (V.length : Int) * 1000 := fun V => by
    induction V with
    | nil => intro _; simp
    | cons v vs ih =>
      intro h
      have h1 := ih (fun z hz => h z (List.mem_cons_of_mem _ hz))
      have h2 := h v (List.mem_cons_self ..)
      rw [List.foldr_cons, List.length_cons]
      omega
  have hle := hle l (fun w h => by have := hw w h; omega)
  have hp : 2 ^ l.length ≤ 64 := Nat.le_trans (Nat.pow_le_pow_right (n := 2) (by decide) (show l.length ≤ 6 by omega)) (by decide)
  have hT : l.foldr (fun a c => a + c) 0 = ((l.foldr (fun a c => a + c) 0).toNat : Int) := (Int.toNat_of_nonneg hle.1).symm
  obtain ⟨p, ⟨p1, p2⟩, es, ei⟩ := find_ev l hW q hq1 hq2 h1 _ hT (by omega) (gameL l q) ((l.foldr (fun a c => a + c) 0).toNat - 1) 1 (by omega)
  refine ⟨p.1, p.2, true, by omega, p2, ?_, ?_⟩
  · unfold spec_LeastCommittee.f
    rw [hc, decide_eq_true h5, Bool.true_and] at hS
    refine Ev.bind hS (ev_pos rfl (Ev.bind (weOf_ev q l hW) ?_))
    refine Ev.bind (a := (p.1, p.2, true)) ?_ (Ev.now _)
    unfold spec_weFind.f
    exact Ev.bind (gmAllC_ev q l hW h1) (Ev.bind (deCompleteW_ev l q l.length h9) (ev_pos rfl es))
  · unfold impl_LeastCommittee.f
    rw [hc] at hI
    refine Ev.bind hI (ev_pos rfl (ev_succ ?_))
    simp only [impl_LeastCommittee.j0]
    refine ev_neg (by simp; omega) ?_
    have hv := coVotes_ev q l hW
    have h2 := firstOf_ev (fun _ _ _ _ => some true) (fun _ _ _ _ => true) (fun _ _ _ _ _ => rfl) (gW l q) l.length (by omega)
    rw [no_trade] at h2
    have h3 : Ev (fun k => impl_votes_firstTrade.f k (l.length : Int) (tabB (gW l q) (2 ^ l.length))) ([], [], false) := by
      unfold impl_votes_firstTrade.f firstOfAny.f
      exact Ev.bind h2 (Ev.now _)
    refine Ev.bind hv ?_
    refine Ev.bind (a := (p.1, p.2, true)) ?_ (Ev.now _)
    unfold impl_votes_found.f
    exact Ev.bind h3 (ev_neg (by simp) (Ev.bind ei (Ev.now _)))
theorem szIntS_eq (l : List Int) (n : Nat) (hn : n ≤ 1048576) (hl : l.length ≤ 9223372036854775807) : ∃ q, laws_szIntS.f l (n : Int) = some q ∧ (¬ q < 0 → ∃ m : Nat, q = m ∧ m ≤ n ∧ l.length ≤ n) := by
  unfold laws_szIntS.f
  rw [wrap64_id (by omega)]
  by_cases h : (n : Int) - (l.length : Int) < 0
  · exact ⟨-1, by rw [if_pos h], fun h => absurd (by decide) h⟩
  · exact ⟨_, by rw [if_neg h], fun _ => ⟨n - l.length, by omega, by omega, by omega⟩⟩
theorem szCommittee_eq (a : Int) (l : List Int) (n : Nat) (hn : n ≤ 1048576) (hl : l.length ≤ 9223372036854775807) : ∃ q, laws_szCommittee.f a l (n : Int) = some q ∧ (¬ q < 0 → ∃ m : Nat, q = m ∧ m ≤ n ∧ l.length ≤ n) := by
  obtain ⟨q, e, p⟩ := szIntS_eq l n hn hl
  unfold laws_szCommittee.f
  rw [e, Option.bind_some]
  by_cases h : q < 0
  · exact ⟨-1, if_pos h, fun h => absurd (by decide) h⟩
  · exact ⟨q, if_neg h, p⟩
theorem toCommittee_ev (m : Int) (l : List Int) (hl : l.length ≤ 1152921504606) : Ev (fun k => laws_toCommittee.f k m l) (m, l) := by
  unfold laws_toCommittee.f
  exact Ev.bind (toIntS_ev l hl) (Ev.now _)
theorem eqCommittee_ev (m n : Int) (a b : List Int) (ha : a.length ≤ 1152921504606) : Ev (fun k => laws_eqCommittee.f k m a n b) (decide (m = n ∧ a = b)) := by
  unfold laws_eqCommittee.f
  by_cases hm : m = n
  · refine ev_pos hm (Ev.bind (eqIntS_ev a b (Nat.le_trans ha (by decide))) (ev_bool (fun h => ev_eqv (Ev.now _) ?_) (fun h => ev_eqv (Ev.now _) ?_)))
    · exact (decide_eq_true ⟨hm, of_decide_eq_true h⟩).symm
    · exact (decide_eq_false fun e => of_decide_eq_false h e.2).symm
  · exact ev_neg hm (ev_eqv (Ev.now _) (decide_eq_false fun e => hm e.1).symm)
theorem l1Same_ev (a b : List Int) (ha : a.length ≤ 1048576) : Ev (fun k => spec_l1Same.f k a b) (decide (a = b)) := by
  unfold spec_l1Same.f
  by_cases e : a.length = b.length
  · refine ev_pos (by omega) ?_
    have := ev_range a.length (fun k i => spec_l1Same.l0 k a b (a.length : Int) (i : Int)) (fun i => decide (a.drop i = b.drop i)) ?_ ?_ 0 (Nat.zero_le _)
    · simpa using this
    · refine ev_succ ?_
      simp only [spec_l1Same.l0]
      exact ev_neg (Int.lt_irrefl _) (ev_eqv (Ev.now _) (by rw [List.drop_length, e, List.drop_length]; rfl))
    · intro i hi ih
      refine ev_succ ?_
      simp only [spec_l1Same.l0]
      refine ev_pos (by omega) (ev_pos (by omega) (ev_pos (by omega) (ev_pos (by omega) ?_)))
      rw [rd_get hi, rd_get (show i < b.length by omega), wrap_succ hi (by omega), List.drop_eq_getElem_cons hi, List.drop_eq_getElem_cons (show i < b.length by omega)]
      refine lc_ite (fun c => ev_eqv ih ?_) (fun c => ev_eqv (Ev.now _) ?_)
      · rw [c]; exact decide_eq_decide.2 ⟨fun h => by rw [h], fun h => (List.cons.inj h).2⟩
      · exact (decide_eq_false (fun h => c (List.cons.inj h).1)).symm
  · exact ev_neg (by omega) (ev_eqv (Ev.now _) (decide_eq_false (fun h => e (by rw [h]))).symm)
theorem equalInt_ev (a b : List Int) (ha : a.length ≤ 1048576) : Ev (fun k => slices_Equal_int_int.f k a b) (decide (a = b)) := by
  unfold slices_Equal_int_int.f
  by_cases e : a.length = b.length
  · refine ev_pos (by omega) ?_
    have := ev_range a.length (fun k i => slices_Equal_int_int.l0 k a b (a.length : Int) (i : Int)) (fun i => decide (a.drop i = b.drop i)) ?_ ?_ 0 (Nat.zero_le _)
    · simpa using this
    · refine ev_succ ?_
      simp only [slices_Equal_int_int.l0]
      exact ev_neg (Int.lt_irrefl _) (ev_eqv (Ev.now _) (by rw [List.drop_length, e, List.drop_length]; rfl))
    · intro i hi ih
      refine ev_succ ?_
      simp only [slices_Equal_int_int.l0]
      refine ev_pos (by omega) (ev_pos (by omega) (ev_pos (by omega) (ev_pos (by omega) ?_)))
      rw [rd_get hi, rd_get (show i < b.length by omega), wrap_succ hi (by omega), List.drop_eq_getElem_cons hi, List.drop_eq_getElem_cons (show i < b.length by omega)]
      refine lc_ite (fun c => ev_eqv ih ?_) (fun c => ev_eqv (Ev.now _) ?_)
      · rw [c]; exact decide_eq_decide.2 ⟨fun h => by rw [h], fun h => (List.cons.inj h).2⟩
      · exact (decide_eq_false (fun h => c (List.cons.inj h).1)).symm
  · exact ev_neg (by omega) (ev_eqv (Ev.now _) (decide_eq_false (fun h => e (by rw [h]))).symm)
theorem FnExactIsLeastCommittee_pure (a0_0 : Int) (l0_1 : List Int) (g0 : I64 a0_0 ∧ ∀ y ∈ l0_1, I64 y) (h1 : l0_1.length ≤ 9223372036854775807) : ∃ k, laws_FnExactIsLeastCommittee.f k a0_0 l0_1 = some true := by
  refine Ev.rounds ?_
  unfold laws_FnExactIsLeastCommittee.f
  obtain ⟨q, hq, hq2⟩ := szCommittee_eq a0_0 l0_1 1048576 (by decide) h1
  refine ev_bindS hq ?_
  by_cases h : q < 0
  · exact ev_pos h (Ev.now _)
  refine ev_neg h ?_
  have n1 : l0_1.length ≤ 1048576 := by have := hq2 h; omega
  have ht := toCommittee_ev a0_0 l0_1 (by omega)
  obtain ⟨g, p, b, p1, p2, es, ei⟩ := LeastCommittee_ev a0_0 l0_1 n1
  have e2 : Ev (fun k => laws_eqCommittee.f k a0_0 l0_1 a0_0 l0_1) true := ev_eqv (eqCommittee_ev a0_0 a0_0 l0_1 l0_1 (by omega)) (by simp)
  have hs : Ev (fun k => spec_IsLeastCommittee.f k a0_0 l0_1) (b && decide (g = a0_0) && decide (p = l0_1), b) := by
    unfold spec_IsLeastCommittee.f
    refine Ev.bind es (ev_bool (fun e => ?_) (fun e => ?_))
    · change b = true at e
      subst e
      refine lc_ite (fun c => ?_) (fun c => ?_)
      · exact Ev.bind (l1Same_ev p l0_1 (by omega)) (ev_eqv (Ev.now _) (by rw [decide_eq_true c]; rfl))
      · exact ev_eqv (Ev.now _) (by rw [decide_eq_false c]; rfl)
    · change b = false at e
      subst e
      exact ev_eqv (Ev.now _) rfl
  have hi : Ev (fun k => impl_IsLeastCommittee.f k a0_0 l0_1) (b && decide (g = a0_0) && decide (p = l0_1), b) := by
    unfold impl_IsLeastCommittee.f
    refine Ev.bind ei (ev_bool (fun e => ?_) (fun e => ?_))
    · change b = true at e
      subst e
      have hsame : Ev (fun k => impl_sameCommittee.f k a0_0 l0_1 g p) (true && decide (g = a0_0) && decide (p = l0_1)) := by
        unfold impl_sameCommittee.f
        refine lc_ite (fun c => ?_) (fun c => ?_)
        · refine Ev.bind (equalInt_ev l0_1 p n1) (ev_eqv (Ev.now _) ?_)
          rw [decide_eq_true c.symm]
          exact decide_eq_decide.2 eq_comm
        · exact ev_eqv (Ev.now _) (by rw [decide_eq_false (fun h => c h.symm)]; rfl)
      exact Ev.bind hsame (Ev.now _)
    · change b = false at e
      subst e
      exact ev_eqv (Ev.now _) rfl
  exact Ev.bind ht (Ev.bind hs (Ev.bind ht (Ev.bind hi (ev_neg (by simp) (ev_neg (by simp) (Ev.bind ht (Ev.bind e2 (ev_pos rfl (Ev.now _)))))))))
end Go.Proofs.Ytlhkphehlocdcaa.Q
end
section
namespace Go.Proofs.Ytlhkphehlocdcaa.Q
open Go.RowKit Go.Proofs.YtlhkphehlocdcaaW.PrintWords Go.Proofs.YtlhkphehlocdcaaW.PrintLast Go.Proofs.YtlhkphehlocdcaaW.PrintMore
set_option linter.unusedVariables false
set_option linter.unusedSimpArgs false
set_option maxRecDepth 100000
section
variable {H : Type} {enc : TypeId × Value → H} {W : World}
theorem opens_Committee : Opens enc Try.prog W 24 (Kd.pair (Kd.int .i64) (Kd.slice 3 (Kd.int .i64))) (fun x => I64 x.1 ∧ ∀ y ∈ x.2, I64 y) :=
  opens_pair Try.underlying24 (by kernel_rfl) rfl rfl (by kernel_rfl) (by kernel_rfl) (opens_int Try.underlying3) (opens_slice Try.underlying22 (by kernel_rfl) (opens_int Try.underlying3))
end
open Go.ChangeShapes Go.WideShapes Go.ChangeAt Go.Deep
section
variable {H : Type} {enc : TypeId × Value → H} {W : World} {r : Reach} {b0 : Nat} {v : Value} {y : DataW H} {p : List MemPlace}
theorem arg_Committee (hv : Value.okWide Try.prog W r b0 24 v) (hr : DataW.Trod enc Try.prog W 0 (fun _ => true) true 24 v y p) :
    ∃ a A c l, v = .agg #[.int .i64 a, .slice A (l : List Int).length c] ∧ l.length ≤ c ∧ Kd.C (Kd.int .i64) W A l.length l ∧ I64 a ∧ ∀ y ∈ l, I64 y := by
  obtain ⟨x, ⟨l⟩, rfl, k, g⟩ := open_struct Try.underlying24 hv hr opens_Committee
  obtain ⟨_, _, rfl, rfl, ⟨A, c, rfl, hl, hC⟩⟩ := k
  exact ⟨_, A, c, _, rfl, hl, hC, g⟩
end
end Go.Proofs.Ytlhkphehlocdcaa.Q
end
section
namespace Go.Proofs.Ytlhkphehlocdcaa.fnExactIsLeastCommittee
open Go.ChangeShapes Go.WideShapes Go.ChangeAt Go.RowKit Go.Proofs.Ytlhkphehlocdcaa.Q
open Go.ChangeMaps (open_string shut_string)
set_option linter.unusedVariables false
theorem own : ownKnob Try.prog.godebug = none := by kernel_rfl
theorem laidOut : laidOutB Try.prog = true := by kernel_rfl
set_option maxRecDepth 100000 in
theorem lifted (os : Os) (started : os.Started) (H : Type) (enc : TypeId × Value → H) :
    ReturnsInHanded {} Try.checked os 4 .any (Rows.fnExactIsLeastCommitteeSpec.pre6 enc Try.prog Try.f4 Rows.fnExactIsLeastCommitteeRow.domain false) (Rows.fnExactIsLeastCommitteeSpec.post enc Try.prog Try.f4 false true false false) := by
  refine returnsInHanded_of_change_sized (C := Try.checked) own started (by kernel_rfl) Try.func4
    (ChangeSpec.witness6 (enc := enc) (C := Try.checked) false ⟨#[], #[.agg #[.int .i64 0, .slice none 0 0]], []⟩ 8 (by kernel_rfl) (by kernel_rfl) (by kernel_rfl) (by kernel_rfl)) ?_
  intro W base args ds gs before hval0 hW hcnd hsz0 _
  have hsz : (DataW.weightsEach Try.prog (Try.f4.params.toList ++ Rows.fnExactIsLeastCommitteeSpec.plain.varTypes Try.prog) (ds ++ gs)).all (· ≤ reachBytes) = true := hsz0
  have hval : ∀ (j : Nat) t v, Try.f4.params[j]? = some t → args[j]? = some v → Value.okWide Try.prog W .any base t v := hval0
  have hW' := hW
  obtain ⟨p, q, hA0, hV, rfl, hfz, hnd⟩ := hW
  have hA : DataW.TrodAll enc Try.prog W 0 (fun _ => true) true Try.f4.params.toList args.toList ds p := hA0
  rw [Try.params4] at hA hval hsz
  obtain ⟨v0, vs0, d0, ds0, p0, q0, hargs, rfl, rfl, h0, r0⟩ := trodAll_cons hA
  obtain ⟨rfl, rfl, rfl⟩ := trodAll_nil r0
  obtain rfl : args = #[v0] := by cases args; simp_all
  obtain ⟨rfl, rfl⟩ := trodVars_none hV
  have k0 := h0
  have lt0 : ∀ x ∈ p0, x.block < W.heap.size := by obtain ⟨m, hm⟩ := k0; exact DataW.trod_lt m _ _ _ hm
  obtain ⟨a0_0, A0_1, c0_1, l0_1, rfl, hc0_1, hr0_1, g0⟩ := arg_Committee (hval 0 24 v0 rfl rfl) h0
  clear hA0 hval0 hsz0 hsz
  obtain ⟨k, hk⟩ := FnExactIsLeastCommittee_pure a0_0 l0_1 g0 hr0_1.2.1
  refine (laws_FnExactIsLeastCommittee.calls k a0_0 A0_1 c0_1 l0_1 true W hr0_1 hc0_1 hk).mono fun e W' ⟨he, bel⟩ => ?_
  subst he
  exact ⟨_, rfl, _, _, _, [], _, [], hW', trodAll_mk1 (shut_bool Try.underlying4 _), (trodAll_cons_mk (Below.trod laidOut (by kernel_rfl) (of_decide_eq_true (by kernel_rfl)) k0 bel lt0) trodAll_mk0), rfl, bel.frame _, fun h => by cases h⟩
theorem over : Rows.fnExactIsLeastCommitteeRow.holds Try.pinned (OpenSpec.ofChange Rows.fnExactIsLeastCommitteeSpec) :=
  OpenClaim.holds_of_wide 4 Try.f4 rfl rfl rfl rfl rfl rfl rfl ⟨rfl, rfl, rfl, rfl, rfl⟩ rfl rfl rfl rfl rfl (by kernel_rfl) Try.func4 (by kernel_rfl)
    (of_decide_eq_true (by kernel_rfl)) (by unfold Func.isWrapper; first | (rw [if_pos (by decide +kernel)]; kernel_rfl) | (rw [if_neg (by decide +kernel)]; exact ⟨rfl, rfl⟩))
    (fun os started H enc _ => lifted os started H enc)
theorem proved : Rows.FnExactIsLeastCommitteeSaid := over
end Go.Proofs.Ytlhkphehlocdcaa.fnExactIsLeastCommittee
namespace Go.Proofs.Ytlhkphehlocdcaa
theorem fnExactIsLeastCommittee_holds : Rows.FnExactIsLeastCommitteeSaid := fnExactIsLeastCommittee.proved
end Go.Proofs.Ytlhkphehlocdcaa
end
#print axioms Go.Proofs.Ytlhkphehlocdcaa.fnExactIsLeastCommittee_holds

/- The row of the law FnExactFirstSolution: for every input it returns true, and its arguments read afterwards as before. No condition: FnExactFirstSolution_pure says that its pure form answers true at every input, and laws_FnExactFirstSolution.calls that the machine comes to just that. -/
import Derived.Test.YtgfdfabeninfeaaGreatKFnExactFirstSolution5
import Derived.Test.YtgfdfabeninfeaaGreatRows
import Derived.ProofKit
import Derived.OpenShut
import Derived.ShutString
import Derived.ChangeOld
import Derived.SizedLaws
import Derived.Deep.Slices
import Derived.Deep.Strs
import Derived.Lib.LazyBuf
import Derived.Deep.RegionLaw
section
namespace Go.Proofs.YtgfdfabeninfeaaGreat.Q
open Go.RowKit Go.Proofs.YtgfdfabeninfeaaGreatW.PrintWords Go.Proofs.YtgfdfabeninfeaaGreatW.PrintLast Go.Proofs.YtgfdfabeninfeaaGreatW.PrintMore
set_option linter.unusedVariables false
set_option linter.unusedSimpArgs false
def pzPos (k : Nat) (g : S28) : List S28 → Nat → Option Nat
  | [], i => some i
  | x :: xs, i => (spec_gmBefore.f k x.f0 x.f1 g.f0 g.f1).bind fun b => if b = true then pzPos k g xs (i + 1) else some i
def pzIns (k : Nat) (g : S28) (outs : List S28) : Option (List S28) := (pzPos k g outs 0).bind fun i => some (outs.take i ++ [g] ++ outs.drop i)
def pzSort (k : Nat) : List S28 → List S28 → Option (List S28)
  | [], outs => some outs
  | g :: gs, outs => (pzIns k g outs).bind fun o => pzSort k gs o
def spec_pzAll.f (k : Nat) (n : Int) (l : List S67) : Option (List S28) := if 0 ≤ n ∧ n ≤ 16 then (spec_pzLook.f k n l (2 ^ n.toNat) []).bind fun gs => if gs.length ≤ 1000000 then pzSort k gs [] else none else none
theorem om6 {i n : Nat} (h : i ≤ n) : i + 1 + (n - i) = n + 1 := by omega
theorem made_falses (N : Nat) : madeCells (Value.bool false).cells N = ((List.replicate N false).map Value.bool).toArray := by
  refine Array.ext ?_ fun j h1 h2 => ?_
  · rw [size_madeCells, List.size_toArray, List.length_map, List.length_replicate]
  · simp [madeCells, Value.cells, Nat.mod_one]
theorem run_falses (N : Nat) (hN : N ≤ 65536) (W : World) : (Instr.makeSlice 71 (.int .i64 (N : Int)) (.int .i64 (N : Int))).run Tryz.prog W = .ok (.slice (some ⟨W.heap.size, 0, none⟩) N N) (W.alloc (.cells ((List.replicate N false).map Value.bool).toArray 4 (0, 0))) := by
  obtain ⟨i, hi, hz⟩ := Option.map_eq_some_iff.1 info4
  simp only [Prod.mk.injEq] at hz
  obtain ⟨h0, h1, h2⟩ := hz
  have := run_make (P := Tryz.prog) W 71 4 i (.bool false) Tryz.underlying71 hi h0 .i64 .i64 (N : Int) (N : Int) (Int.natCast_nonneg _) (Int.le_refl _) (by rw [h2]; omega) (by omega)
  rw [this, Int.toNat_natCast, h1, Nat.mul_one, made_falses]
section
variable {e base : Nat} {W : World} {v : Value} {lo : Nat}
theorem N_own {α : Type} {d : Kd α} (h : Kd.N d e W base (fun _ => True) v []) (hb : lo ≤ base) : Kd.N d e W base (fun z => lo ≤ z) v [] := by
  have hbb := Kd.N_base h
  obtain ⟨_, rows, hl, hR, _⟩ := h
  exact ⟨fun k hk => Nat.le_trans hb (hbb k hk), rows, hl, hR, fun j x c hx => by simp at hx⟩
end
theorem rr_one {W : World} {b cg : Nat} {Ag : Option Addr} {g : S28} {ok : Nat → Prop} (hb : W.heap[b]? = some (.cells #[.int .i64 g.f0, .slice Ag g.f1.length cg] 28 (0, 0))) (hF : Kd.FK k28 W ok g [.int .i64 g.f0, .slice Ag g.f1.length cg]) :
    ReadsRow (fun x c => Kd.FK k28 W ok x c) (Kd.sz k28) W (some ⟨b, 0, none⟩) 1 [g] := by
  refine ⟨rfl, by decide, fun _ => ⟨_, rfl, fun j p hj => ?_⟩⟩
  cases j with
  | succ j => simp at hj
  | zero =>
    obtain rfl : g = p := by simpa using hj
    refine ⟨_, rfl, hF, fun i u hu => ?_⟩
    rw [add_at, Nat.zero_mul, Nat.zero_add, Nat.zero_add, blk_cell hb]
    simpa using hu
section
variable {P : Program} {ops : Array Oper} {o : Oper} {a : Act} {Q : Exit → Act → World → Prop} {Kc : Act → World → Prop} {α : Type}
theorem N_append_rr_step (d : Kd α) {w0 W : World} (base : Nat) (hw : Region.wanted o (yielded ops a.tmps) = true) (s x : Operand) (t e : TypeId) (z : Value) (bytes : Nat)
    (ho : o.op = .call { callee := .builtin .append, args := #[s, x], argTypes := #[t, t] })
    (ht : P.underlying t = some (.slice e)) (hinfo : (P.info? e).map (fun i => (i.zero, i.size, i.bytes)) = some (some z, d.sz, bytes)) (hz : z.cells.size = d.sz) (hs0 : 0 < d.sz) (hb0 : 0 < bytes)
    (v : Value) (xs ys : List α) (A : Option Addr) (m c : Nat) (ok okp : Nat → Prop) (hs : a.eval s = v) (hx : a.eval x = .slice A m c)
    (HO : Kd.N d e W base ok v xs) (HR : ReadsRow (fun x c => Kd.FK d W okp x c) d.sz W A m ys) (hokp : ∀ k, okp k → ok k ∧ some k ≠ v.ownBlock) (hfresh : ∀ k, W.heap.size ≤ k → ok k)
    (HB : Below base w0 W) (hbase : base ≤ W.heap.size) (hl : (xs.length + m) * bytes ≤ 140737488355328)
    (h : ∀ v1 w1, Kd.N d e w1 base ok v1 (xs ++ ys) → Below base w0 w1 → W.grownBy w1 v.ownBlock → (v1.ownBlock = v.ownBlock ∨ ∃ b, v1.ownBlock = some b ∧ W.heap.size ≤ b) → Kc (a.put o.dst v1) w1) :
    if Region.wanted o (yielded ops a.tmps) = true then Oper.wp P o a W Kc Q else Kc (a.put o.dst undef) W := by
  obtain ⟨h0, rows, hlr, hR, hf⟩ := HO
  obtain ⟨news, hnl, hnr, hnf⟩ := Kd.reads_raw HR (fun y c hk => ⟨d.K_len (Kd.FK_now hk), d.K_one (Kd.FK_now hk)⟩)
  refine Kd.R_append_rows_step (Kd.raw d.sz) base hw s x t e z bytes ho ht hinfo hz hs0 hb0 v rows news A m c (fun _ => True) (fun _ => False) hs hx (Kd.raw_any hR) hnr (fun _ _ hk => hk) (fun _ hk => hk.elim) (fun _ _ => trivial) HB hbase (by rw [hlr]; exact hl) ?_
  intro v1 w1 hr hb hg hat
  exact h v1 w1 (Kd.N_appended h0 hlr hf hnl hnf hokp hfresh hr hg hat) hb hg hat
end
theorem pzSort_drop {k : Nat} {gs outs : List S28} {i : Nat} (h : i < gs.length) : pzSort k (gs.drop i) outs = (pzIns k (gs.getD i z28) outs).bind fun o => pzSort k (gs.drop (i + 1)) o := by
  rw [List.drop_eq_getElem_cons h, List.getD_eq_getElem?_getD, List.getElem?_eq_getElem h]; rfl
theorem pzPos_drop {k : Nat} {g : S28} {outs : List S28} {i : Nat} (h : i < outs.length) : pzPos k g (outs.drop i) i = (spec_gmBefore.f k (outs.getD i z28).f0 (outs.getD i z28).f1 g.f0 g.f1).bind fun b => if b = true then pzPos k g (outs.drop (i + 1)) (i + 1) else some i := by
  rw [List.drop_eq_getElem_cons h, List.getD_eq_getElem?_getD, List.getElem?_eq_getElem h]; rfl
set_option maxHeartbeats 8000000 in
set_option maxRecDepth 100000 in
theorem spec_pzAll.calls (k : Nat) (n : Int) (A : Option Addr) (c : Nat) (l : List S67) (r : List S28) (w : World) (hC : Kd.C k67 w A l.length l) (hc : l.length ≤ c) (h : spec_pzAll.f k n l = some r) :
    Calls Tryz.prog 31 #[.int .i64 n, .slice A l.length c] w fun e w' => ∃ v0_ : Value, e = .returned v0_ ∧ Kd.V k28 28 w' w.heap.size (fun k_ => w.heap.size ≤ k_) v0_ r ∧ Below w.heap.size w w' := by
  unfold spec_pzAll.f at h
  by_cases c0 : 0 ≤ n ∧ n ≤ 16
  case neg => rw [if_neg c0] at h; cases h
  rw [if_pos c0] at h
  obtain ⟨gs, hg, h⟩ := Option.bind_eq_some_iff.mp h
  by_cases c1 : gs.length ≤ 1000000
  case neg => rw [if_neg c1] at h; cases h
  rw [if_pos c1] at h
  have hp16 : 2 ^ n.toNat ≤ 65536 := Nat.pow_le_pow_right (n := 2) (by decide) (show n.toNat ≤ 16 by omega)
  have hp1 : 1 ≤ 2 ^ n.toNat := Nat.one_le_two_pow
  have hji : shl .i64 1 n = ((2 ^ n.toNat : Nat) : Int) := by rw [shl_one n c0]; simp
  generalize 2 ^ n.toNat = N at hji hg hp16 hp1
  have hji_ : (IntKind.i64.wrap (1 * 2 ^ min n.toNat 64)) = (N : Int) := hji
  have hjiz : n ≤ 64 → (IntKind.i64.wrap (1 * 2 ^ n.toNat)) = (N : Int) := shl_small hji
  have hjiu : (IntKind.i64.wrap (2 ^ min n.toNat 64)) = (N : Int) := by have h_ := hji_; rw [Int.one_mul] at h_; exact h_
  have hjiv : n ≤ 64 → (IntKind.i64.wrap (2 ^ n.toNat)) = (N : Int) := fun hle_ => by have h_ := hjiz hle_; rw [Int.one_mul] at h_; exact h_
  have hjiy : (wrap64 (1 * 2 ^ min n.toNat 64)) = (N : Int) := (i64_w _).symm.trans hji_
  have hjix : n ≤ 64 → (wrap64 (1 * 2 ^ n.toNat)) = (N : Int) := fun h_ => (i64_w _).symm.trans (hjiz h_)
  have hjie := (i64_w _).symm.trans (hjiv (by omega))
  have hmk := run_falses N hp16
  have c00 := c0.1
  have c00b : decide (0 ≤ n) = true := decide_eq_true c00
  have hNb : decide (0 ≤ (N : Int)) = true := decide_eq_true (Int.natCast_nonneg _)
  have HG := Aside0.mk hg
  have HH := Aside0.mk h
  have HC := Aside0.mk hC
  clear hg h hC
  go_enter Tryz.func31, Tryz.ntmps31
  go_wp2_with fail
  have hS : LookSt (w.heap.size + 1) w.heap.size w ((w.alloc (.cells #[.slice none 0 0] 40)).alloc (.cells (Array.replicate N (.bool false)) 4)) (List.replicate N false) (.slice none 0 0) [] := by
    refine ⟨Kd.N_nil _ _ _ _ _, blk_alloc (blk_new w _) _, ?_, ((Below.refl _ w).alloc (Nat.le_refl _) _).alloc (by simp) _⟩
    have h1 := blk_new (w.alloc (.cells #[.slice none 0 0] 40)) (.cells (Array.replicate N (.bool false)) 4)
    have h2 : (w.alloc (.cells #[.slice none 0 0] 40)).heap.size = w.heap.size + 1 := by simp
    rw [h2] at h1
    rw [h1, List.map_replicate, List.toArray_replicate]
  have hcl := spec_pzLook.calls k n A c l (w.heap.size + 1) w.heap.size w HC.out hc (by omega) (by omega) (Nat.le_refl _) N hp16 hp1 N [] (List.replicate N false) 0 [] gs (.slice none 0 0) _ rfl (by omega) (by simp) (by simp) (by simpa using c1) HG.out hS
  refine hcl.mono ?_
  clear hcl hS
  rintro e w1 ⟨rfl, v1, ws', hS1, -, -⟩
  rw [List.nil_append] at hS1
  obtain ⟨A1, cA, rfl⟩ := Kd.N_slice hS1.N
  have hx0 := (blk_cell hS1.O 0).trans rfl
  have HA := Aside0.mk (Kd.F_mono (Kd.F_bound (Kd.N_F hS1.N)) (ok' := fun z => w.heap.size ≤ z ∧ z < w1.heap.size) (fun z hz => ⟨hz.1.1, hz.2⟩))
  have HB := Aside0.mk hS1.B
  clear hS1 hmk hji hji_ hjiz hjiu hjiv hjiy hjix hjie hNb c00b HG
  obtain ⟨inf, hinf, _, hinf2, _⟩ := info_parts info28
  go_wp2_with fail
  go_loopg [6, 19] gs.length (fun gg v6 v19 wr => ∃ (kk : Nat) (Ao : Option Addr) (co : Nat) (outs : List S28), kk ≤ gs.length ∧ gs.length - kk ≤ gg ∧ v6 = .slice Ao outs.length co ∧ v19 = .int .i64 kk ∧ Aside0 (outs.length = kk) ∧ outs.length ≤ co ∧ Aside0 (pzSort k (gs.drop kk) outs = some r) ∧ Aside0 (Kd.F k28 wr (fun z => w.heap.size ≤ z ∧ z < wr.heap.size) Ao outs.length outs) ∧ Aside0 (Below w1.heap.size w1 wr))
  case atStart => exact ⟨0, none, 0, [], Nat.zero_le _, Nat.le_refl _, rfl, rfl, ⟨rfl⟩, Nat.le_refl _, HH, ⟨Kd.F_nil _ _ _⟩, ⟨Below.refl _ _⟩⟩
  case round =>
    clear HH hx0
    obtain ⟨kk, Ao, co, outs, hkk, hg, rfl, rfl, HOL, hoc, HT, HO, HB1⟩ := hrel
    by_cases hlt : kk < gs.length
    · obtain ⟨wo, rfl⟩ : ∃ wo, wo = wr := ⟨wr, rfl⟩
      have hltz : (kk : Int) < (gs.length : Int) := Int.ofNat_lt.2 hlt
      have hol : outs.length < 1000000 := by have := HOL.out; omega
      obtain ⟨ad, cc, e, _, hK, hcc, _⟩ := Kd.F_get (Kd.F_below HA.out HB1.out) z28 (kk : Int) (Int.natCast_nonneg _) hltz
      subst e
      rw [Int.toNat_natCast] at hK hcc
      have hT := HT.out
      rw [pzSort_drop hlt] at hT
      generalize gs.getD kk z28 = g at hK hT
      obtain ⟨o2, ho2, hT⟩ := Option.bind_eq_some_iff.mp hT
      obtain ⟨pos, hpos, ho2⟩ := Option.bind_eq_some_iff.mp ho2
      obtain rfl := Option.some.inj ho2
      obtain ⟨Ag, cg, rfl, hgl, hgF⟩ := k28_openF hK
      have x0 : wo.cell? (ad.add (kk * 2)) = some (.int .i64 g.f0) := hcc 0 _ rfl
      have x1 : wo.cell? ⟨(ad.add (kk * 2)).block, (ad.add (kk * 2)).off + 1, none⟩ = some (.slice Ag g.f1.length cg) := by rw [← add_field _ _ 1 (by omega)]; exact hcc 1 _ rfl
      have HPOS := Aside0.mk hpos
      have HT2a := Aside0.mk hT
      have HGF := Aside0.mk (Kd.FK_mono hK (ok' := fun z => w.heap.size ≤ z ∧ z < wo.heap.size) (fun z hz => ⟨hz.1, Nat.lt_of_lt_of_le hz.2 HB1.out.size⟩))
      have HGC := Aside0.mk (Kd.F_now hgF)
      clear hK hcc hT hpos ho2 HT hgF
      go_wp2_with fail
      go_loopg [9] outs.length (fun gg v9 wr => ∃ i : Nat, i ≤ outs.length ∧ outs.length - i ≤ gg ∧ v9 = .int .i64 i ∧ Aside0 (pzPos k g (outs.drop i) i = some pos) ∧ Aside0 (Below wo.heap.size wo wr) ∧ Aside0 (wr.heap[wo.heap.size]? = some (.cells #[.int .i64 g.f0, .slice Ag g.f1.length cg] 28 (0, 0))))
      case atStart => exact ⟨0, Nat.zero_le _, Nat.le_refl _, rfl, HPOS, ⟨(Below.refl _ wo).alloc (Nat.le_refl _) _⟩, ⟨blk_new wo _⟩⟩
      case round =>
        clear HPOS x0 x1
        obtain ⟨i, hi, hgi, rfl, HPOS, HQ, HGB⟩ := hrel
        have HOQ := Aside0.mk (Kd.F_mono (Kd.F_below HO.out HQ.out) (ok' := fun z => w.heap.size ≤ z ∧ z < wr.heap.size) (fun z hz => ⟨hz.1, Nat.lt_of_lt_of_le hz.2 HQ.out.size⟩))
        have HGFQ := Aside0.mk (Kd.FK_mono (Kd.FK_below HGF.out HQ.out) (ok' := fun z => w.heap.size ≤ z ∧ z < wr.heap.size) (fun z hz => ⟨hz.1, Nat.lt_of_lt_of_le hz.2 HQ.out.size⟩))
        have HA1 := Aside0.mk (HB1.out.trans (HQ.out.mono HB1.out.size))
        have HBQ := Aside0.mk (HB.out.trans (HA1.out.mono HB.out.size))
        by_cases hil : i < outs.length
        · have hiz : (i : Int) < (outs.length : Int) := Int.ofNat_lt.2 hil
          have hizb : decide ((i : Int) < (outs.length : Int)) = true := decide_eq_true hiz
          obtain ⟨bd, cc2, e2, _, hK2, hcc2, _⟩ := Kd.F_get HOQ.out z28 (i : Int) (Int.natCast_nonneg _) hiz
          subst e2
          rw [Int.toNat_natCast] at hK2 hcc2
          have hP := HPOS.out
          rw [pzPos_drop hil] at hP
          generalize outs.getD i z28 = x at hK2 hP
          obtain ⟨bb, hbb, hP⟩ := Option.bind_eq_some_iff.mp hP
          obtain ⟨Ax, cx, rfl, hxl, hxF⟩ := k28_openF hK2
          have y0 : wr.cell? (bd.add (i * 2)) = some (.int .i64 x.f0) := hcc2 0 _ rfl
          have y1 : wr.cell? ⟨(bd.add (i * 2)).block, (bd.add (i * 2)).off + 1, none⟩ = some (.slice Ax x.f1.length cx) := by rw [← add_field _ _ 1 (by omega)]; exact hcc2 1 _ rfl
          have HXC := Aside0.mk (Kd.F_now hxF)
          have HGC2 := Aside0.mk (Kd.C_below HGC.out HQ.out)
          have HBB := Aside0.mk hbb
          have HP2 := Aside0.mk hP
          have hci : (0 : Int) ≤ (i : Int) := Int.natCast_nonneg _
          have hcib : decide ((0 : Int) ≤ (i : Int)) = true := decide_eq_true hci
          clear hK2 hcc2 hP hbb hxF HPOS
          go_wp2_with fail
          refine start_ (n := 12) (S := fun w' => w'.cell? ⟨wo.heap.size, 0, none⟩ = some (.int .i64 g.f0) ∧ w'.cell? ⟨wo.heap.size, 1, none⟩ = some (.slice Ag g.f1.length cg) ∧ w'.cell? (bd.add (i * 2)) = some (.int .i64 x.f0) ∧ w'.cell? ⟨(bd.add (i * 2)).block, (bd.add (i * 2)).off + 1, none⟩ = some (.slice Ax x.f1.length cx)) (ds := []) #[false, false, false, false, false, false, false, false, false, false, false, false] (by kernel_rfl) rfl rfl (⟨(blk_cell (blk_drew HGB.out) 0).trans rfl, (blk_cell (blk_drew HGB.out) 1).trans rfl, y0, y1⟩) (fun hHeld => ?_)
          have HDR := Aside0.mk (below_drew (Below.refl wr.heap.size wr))
          generalize hwd : wr.drew = wd0 at *
          refine pure_ (i := 0) (N := some 23) (v := ?_) (a' := ?_) #[true, false, false, false, false, false, false, false, false, false, false, false] rfl rfl (by kernel_rfl) (fun _ _ _ h => h) (Or.inl ⟨by rfl, ?_⟩) ?_ ?_
          rotate_left
          · intro w'
            go_simp
            with_reducible rfl
          rotate_left
          · simp only [Act.put, List.setIfInBounds_toArray, List.set_cons_zero, List.set_cons_succ, i64_w, i32_w]
            rfl
          refine pure_ (i := 1) (N := some 24) (v := ?_) (a' := ?_) #[true, true, false, false, false, false, false, false, false, false, false, false] rfl rfl (by kernel_rfl) (fun _ _ _ h => h) (Or.inl ⟨by rfl, ?_⟩) ?_ ?_
          rotate_left
          · intro w'
            go_simp
            with_reducible rfl
          rotate_left
          · simp only [Act.put, List.setIfInBounds_toArray, List.set_cons_zero, List.set_cons_succ, i64_w, i32_w]
            rfl
          refine pure_ (i := 2) (N := some 25) (v := ?_) (a' := ?_) #[true, true, true, false, false, false, false, false, false, false, false, false] rfl rfl (by kernel_rfl) (fun _ _ _ h => h) (Or.inl ⟨by rfl, ?_⟩) ?_ ?_
          rotate_left
          · intro w'
            go_simp
            with_reducible rfl
          rotate_left
          · simp only [Act.put, List.setIfInBounds_toArray, List.set_cons_zero, List.set_cons_succ, i64_w, i32_w]
            rfl
          refine pure_ (i := 3) (N := some 26) (v := ?_) (a' := ?_) #[true, true, true, true, false, false, false, false, false, false, false, false] rfl rfl (by kernel_rfl) (fun _ _ _ h => h) (Or.inl ⟨by rfl, ?_⟩) ?_ ?_
          rotate_left
          · intro w'
            go_simp
            with_reducible rfl
          rotate_left
          · simp only [Act.put, List.setIfInBounds_toArray, List.set_cons_zero, List.set_cons_succ, i64_w, i32_w]
            rfl
          refine pure_ (i := 4) (N := some 27) (v := ?_) (a' := ?_) #[true, true, true, true, true, false, false, false, false, false, false, false] rfl rfl (by kernel_rfl) (fun _ _ _ h => h) (Or.inl ⟨by rfl, ?_⟩) ?_ ?_
          rotate_left
          · intro w'
            go_simp
            with_reducible rfl
          rotate_left
          · simp only [Act.put, List.setIfInBounds_toArray, List.set_cons_zero, List.set_cons_succ, i64_w, i32_w]
            rfl
          refine pure_ (i := 5) (N := some 28) (v := ?_) (a' := ?_) #[true, true, true, true, true, true, false, false, false, false, false, false] rfl rfl (by kernel_rfl) (fun _ _ _ h => h) (Or.inl ⟨by rfl, ?_⟩) ?_ ?_
          rotate_left
          · intro w'
            go_simp
            with_reducible rfl
          rotate_left
          · simp only [Act.put, List.setIfInBounds_toArray, List.set_cons_zero, List.set_cons_succ, i64_w, i32_w]
            rfl
          refine pure_ (i := 6) (N := some 29) (v := ?_) (a' := ?_) #[true, true, true, true, true, true, true, false, false, false, false, false] rfl rfl (by kernel_rfl) (fun _ _ _ h => h) (Or.inl ⟨by rfl, ?_⟩) ?_ ?_
          rotate_left
          · intro w'
            go_simp
            with_reducible rfl
          rotate_left
          · simp only [Act.put, List.setIfInBounds_toArray, List.set_cons_zero, List.set_cons_succ, i64_w, i32_w]
            rfl
          refine pure_ (i := 7) (N := some 30) (v := ?_) (a' := ?_) #[true, true, true, true, true, true, true, true, false, false, false, false] rfl rfl (by kernel_rfl) (fun _ _ _ h => h) (Or.inl ⟨by rfl, ?_⟩) ?_ ?_
          rotate_left
          · intro w'
            go_simp
            with_reducible rfl
          rotate_left
          · simp only [Act.put, List.setIfInBounds_toArray, List.set_cons_zero, List.set_cons_succ, i64_w, i32_w]
            rfl
          refine take_ (i := 8) (N := some 31) (v := ?_) (a' := ?_) #[true, true, true, true, true, true, true, true, true, false, false, false] rfl rfl (by kernel_rfl) (fun _ _ _ h => h) (Or.inl ⟨by rfl, ?_⟩) hHeld ?_ ?_
          rotate_left
          · rintro w' ⟨s0, s1, s2, s3⟩
            go_simp
            with_reducible rfl
          rotate_left
          · simp only [Act.put, List.setIfInBounds_toArray, List.set_cons_zero, List.set_cons_succ, i64_w, i32_w]
            rfl
          refine take_ (i := 9) (N := some 32) (v := ?_) (a' := ?_) #[true, true, true, true, true, true, true, true, true, true, false, false] rfl rfl (by kernel_rfl) (fun _ _ _ h => h) (Or.inl ⟨by rfl, ?_⟩) hHeld ?_ ?_
          rotate_left
          · rintro w' ⟨s0, s1, s2, s3⟩
            go_simp
            with_reducible rfl
          rotate_left
          · simp only [Act.put, List.setIfInBounds_toArray, List.set_cons_zero, List.set_cons_succ, i64_w, i32_w]
            rfl
          refine one_ (i := 10) (N := some 33) #[true, true, true, true, true, true, true, true, true, true, true, false] rfl rfl (by kernel_rfl) (by decide) (fun K hK => ?_)
          refine goes_ Tryz.func51 (by kernel_rfl) rfl #[.agg #[.int .i64 x.f0, .slice Ax x.f1.length cx], .agg #[.int .i64 g.f0, .slice Ag g.f1.length cg]] (by rfl) rfl rfl (by (try simp only [List.map_toArray, List.map_cons, List.map_nil]); first | done | rfl) ?_
          refine (spec_gmBefore.calls k x.f0 Ax cx x.f1 g.f0 Ag cg g.f1 bb _ (Kd.C_below HXC.out HDR.out) hxl (Kd.C_below HGC2.out HDR.out) hgl HBB.out).mono ?_
          rintro e wz ⟨rfl, hbz⟩
          refine ⟨_, rfl, ?_⟩
          have HZ := Aside0.mk (HDR.out.trans (hbz.mono HDR.out.size))
          refine hK.out _ _ (⟨(blk_cell (blk_below HGB.out HZ.out) 0).trans rfl, (blk_cell (blk_below HGB.out HZ.out) 1).trans rfl, (HZ.out.cell (World.block_lt_of_cell? wr _ y0)).trans y0, (HZ.out.cell (World.block_lt_of_cell? wr _ y1)).trans y1⟩) (fun hHeld => ?_)
          clear hK K
          refine norm_ (a' := ?_) ?_ ?_
          rotate_left
          · show Act.put _ (some 33) _ = _
            simp only [Act.put, List.setIfInBounds_toArray, List.set_cons_zero, List.set_cons_succ, i64_w, i32_w]
            rfl
          clear hbz y0 y1
          refine pure_ (i := 11) (N := some 34) (v := ?_) (a' := ?_) #[true, true, true, true, true, true, true, true, true, true, true, true] rfl rfl (by kernel_rfl) (fun _ _ _ h => h) (Or.inl ⟨by rfl, ?_⟩) ?_ ?_
          rotate_left
          · intro w'
            go_simp
            with_reducible rfl
          rotate_left
          · simp only [Act.put, List.setIfInBounds_toArray, List.set_cons_zero, List.set_cons_succ, i64_w, i32_w]
            rfl
          refine done_ (by kernel_rfl) ?_
          cases bb
          case true =>
            have hP := HP2.out
            rw [if_pos rfl] at hP
            have HP3 := Aside0.mk hP
            clear hP HP2
            go_wp2
            go_roundg (outs.length - (i + 1))
            case measure => exact om2 hil hgi
            case rel => exact ⟨i + 1, hil, Nat.le_refl _, by congr 1; (try exact om3 hil (Nat.le_trans (Nat.le_of_lt hol) (by decide))), HP3, ⟨HQ.out.trans (HZ.out.mono HQ.out.size)⟩, ⟨blk_below HGB.out HZ.out⟩⟩
          case false =>
            have hP := HP2.out
            rw [if_neg (by decide)] at hP
            obtain rfl := Option.some.inj hP
            have HT2 := HT2a
            clear hP HP2
            have HGBz := Aside0.mk (blk_below HGB.out HZ.out)
            have HOQz := Aside0.mk (Kd.F_mono (Kd.F_below HOQ.out HZ.out) (ok' := fun z => w.heap.size ≤ z ∧ z < wz.heap.size) (fun z hz => ⟨hz.1, Nat.lt_of_lt_of_le hz.2 HZ.out.size⟩))
            have HGFQz := Aside0.mk (Kd.FK_mono (Kd.FK_below HGFQ.out HZ.out) (ok' := fun z => w.heap.size ≤ z ∧ z < wz.heap.size) (fun z hz => ⟨hz.1, Nat.lt_of_lt_of_le hz.2 HZ.out.size⟩))
            have HA1z := Aside0.mk (HA1.out.trans (HZ.out.mono HA1.out.size))
            have HBQz := Aside0.mk (HBQ.out.trans (HZ.out.mono HBQ.out.size))
            clear HGB HOQ HGFQ HA1 HBQ HGC HGC2 HXC HBB HT2a HGF HQ
            have HGB := HGBz
            have HOQ := HOQz
            have HGFQ := HGFQz
            have HA1 := HA1z
            have HBQ := HBQz
            clear HGBz HOQz HGFQz HA1z HBQz HZ
            have hcut1 := cut_to (P := Tryz.prog) 40 28 .i64 Tryz.underlying40 hinf (some bd) outs.length co (i : Int) (Int.natCast_nonneg _) (Int.ofNat_le.2 hi) hoc
            simp only [Int.toNat_natCast] at hcut1
            have hcut2 := cut_from (P := Tryz.prog) 40 28 .i64 Tryz.underlying40 hinf 2 hinf2 (some bd) outs.length co (i : Int) (Int.natCast_nonneg _) (Int.ofNat_le.2 hi)
            simp only [Int.toNat_natCast] at hcut2
            obtain ⟨A2c, hA2c⟩ : ∃ A2c : Option Addr, A2c = (if co = i then (some bd) else ((some bd) : Option Addr).map (·.add (i * 2))) := ⟨_, rfl⟩
            obtain ⟨c2c, hc2c⟩ : ∃ c2c : Nat, c2c = co - i := ⟨_, rfl⟩
            obtain ⟨n2c, hn2c⟩ : ∃ n2c : Nat, n2c = outs.length - i := ⟨_, rfl⟩
            rw [← hA2c, ← hc2c, ← hn2c] at hcut2
            have hib : decide (0 ≤ (i : Int)) = true := decide_eq_true (Int.natCast_nonneg _)
            have hlt1 : (outs.take i).length = i := by rw [List.length_take]; exact Nat.min_eq_left hi
            have hld1 : (outs.drop i).length = outs.length - i := List.length_drop
            have HF1 := Aside0.mk (show Kd.F k28 wz (fun z => w.heap.size ≤ z ∧ z < wz.heap.size) (some bd) i (outs.take i) from by have := Kd.F_take HOQ.out hi; rwa [hlt1] at this)
            have HF2 := Aside0.mk (show Kd.F k28 wz (fun z => w.heap.size ≤ z ∧ z < wz.heap.size) A2c n2c (outs.drop i) from by have := Kd.F_cut HOQ.out hi hoc; rw [hld1] at this; rw [hA2c, hn2c]; exact this)
            have HN2c := Aside0.mk hn2c
            clear hA2c hc2c hn2c
            go_wp2_with fail
            refine start_ (n := 9) (S := fun w' => w'.cell? ⟨wo.heap.size, 0, none⟩ = some (.int .i64 g.f0) ∧ w'.cell? ⟨wo.heap.size, 1, none⟩ = some (.slice Ag g.f1.length cg)) (ds := []) #[false, false, false, false, false, false, false, false, false] (by kernel_rfl) rfl rfl (⟨(blk_cell (blk_drew HGB.out) 0).trans rfl, (blk_cell (blk_drew HGB.out) 1).trans rfl⟩) (fun hHeld => ?_)
            have HBD := Aside0.mk (HBQ.out.trans ((below_drew (Below.refl _ _)).mono HBQ.out.size))
            have HAD := Aside0.mk (Below.trans HA1.out ((below_drew (Below.refl _ _)).mono HA1.out.size))
            have HF1d := Aside0.mk (Kd.F_drew HF1.out)
            have HF2d := Aside0.mk (Kd.F_drew HF2.out)
            have HGd := Aside0.mk (blk_drew HGB.out)
            have HGFd := Aside0.mk (Kd.FK_below HGFQ.out (below_drew (Below.refl _ _)))
            have hsz : wz.drew.heap.size = wz.heap.size := rfl
            clear HF1 HF2 HGB HGFQ HOQ HBQ HA1
            rw [← hsz] at HF1d HF2d HGFd
            clear hsz
            generalize wz.drew = wd at *
            refine pure_ (i := 1) (N := some 38) (v := ?_) (a' := ?_) #[false, true, false, false, false, false, false, false, false] rfl rfl (by kernel_rfl) (fun _ _ _ h => h) (Or.inl ⟨by rfl, ?_⟩) ?_ ?_
            rotate_left
            · intro w'
              go_simp
              with_reducible rfl
            rotate_left
            · simp only [Act.put, List.setIfInBounds_toArray, List.set_cons_zero, List.set_cons_succ, i64_w, i32_w]
              rfl
            refine pure_ (i := 2) (N := some 39) (v := ?_) (a' := ?_) #[false, true, true, false, false, false, false, false, false] rfl rfl (by kernel_rfl) (fun _ _ _ h => h) (Or.inl ⟨by rfl, ?_⟩) ?_ ?_
            rotate_left
            · intro w'
              go_simp
              with_reducible rfl
            rotate_left
            · simp only [Act.put, List.setIfInBounds_toArray, List.set_cons_zero, List.set_cons_succ, i64_w, i32_w]
              rfl
            refine pure_ (i := 3) (N := some 40) (v := ?_) (a' := ?_) #[false, true, true, true, false, false, false, false, false] rfl rfl (by kernel_rfl) (fun _ _ _ h => h) (Or.inl ⟨by rfl, ?_⟩) ?_ ?_
            rotate_left
            · intro w'
              go_simp
              with_reducible rfl
            rotate_left
            · simp only [Act.put, List.setIfInBounds_toArray, List.set_cons_zero, List.set_cons_succ, i64_w, i32_w]
              rfl
            refine take_ (i := 5) (N := some 42) (v := ?_) (a' := ?_) #[false, true, true, true, false, true, false, false, false] rfl rfl (by kernel_rfl) (fun _ _ _ h => h) (Or.inl ⟨by rfl, ?_⟩) hHeld ?_ ?_
            rotate_left
            · rintro w' ⟨s0, s1⟩
              go_simp
              with_reducible rfl
            rotate_left
            · simp only [Act.put, List.setIfInBounds_toArray, List.set_cons_zero, List.set_cons_succ, i64_w, i32_w]
              rfl
            refine join_ (σ := Value × Value × Value) 2 #[true, true, true, true, true, true, true, false, false] (fun s_ => [(37, s_.1), (41, s_.2.1), (43, s_.2.2)]) (fun s_ w' => Kd.N k28 28 w' wd.heap.size (fun z => w.heap.size ≤ z) s_.2.1 (outs.take i) ∧ (∃ b, s_.2.2 = .slice (some ⟨b, 0, none⟩) 1 1 ∧ w'.heap[b]? = some (.cells #[.int .i64 g.f0, .slice Ag g.f1.length cg] 28 (0, 0)) ∧ some b ≠ s_.2.1.ownBlock) ∧ Below wd.heap.size wd w') ?_ ?_
            rotate_left
            · intro hCont
              refine two_ (i := 0) (j := 6) (Ni := some 37) (Nj := some 43) #[true, true, true, true, false, true, false, false, false] #[false, true, true, true, false, true, true, false, false] rfl rfl rfl rfl (by kernel_rfl) (by decide) (by decide) (fun K hK => ?_) (fun K hK => ?_)
              · refine Kd.N_lit_step k28 _ 28 ?hg (N' := 37) ?hd (xs := ([] : List S28)) (inner := []) (ok := fun _ => True) (okp := fun _ => False) ?hr ?hp (fun _ hk => hk.elim) trivial (Below.refl _ _) (Nat.le_refl _) (by simp) ?_
                case hd => rfl
                case hg => rfl
                case hr => first | (go_simp; done) | (go_simp; rfl)
                case hp => exact Reps.none _ _
                intro v37 wa hn37 hba _ hnew
                have HN37 := Aside0.mk (Kd.N_mono (Kd.N_lower hn37 (Nat.le_refl wd.heap.size)) (ok' := fun z => w.heap.size ≤ z ∨ True) (fun _ _ => .inr trivial))
                have hN37 : Kd.N k28 28 wa wd.heap.size (fun z => w.heap.size ≤ z) v37 [] := N_own hn37 (Nat.le_trans HBD.out.size (Nat.le_refl _))
                have HN37 := Aside0.mk hN37
                have HBa := Aside0.mk hba
                clear hn37 hba hN37 hnew
                refine hK.out _ _ ⟨(blk_cell (blk_below HGd.out HBa.out) 0).trans rfl, (blk_cell (blk_below HGd.out HBa.out) 1).trans rfl⟩ (fun hHeld => ?_)
                clear hK K
                refine norm_ (a' := ?_) ?_ ?_
                rotate_left
                · show Act.put _ (some 37) _ = _
                  simp only [Act.put, List.setIfInBounds_toArray, List.set_cons_zero, List.set_cons_succ, i64_w, i32_w]
                  rfl
                refine two_ (i := 4) (j := 6) (Ni := some 41) (Nj := some 43) #[true, true, true, true, true, true, false, false, false] #[true, true, true, true, false, true, true, false, false] rfl rfl rfl rfl (by kernel_rfl) (by decide) (by decide) (fun K hK => ?_) (fun K hK => ?_)
                · refine Kd.N_append_rows_step k28 (w0 := wd) wd.heap.size (by rfl) (.tmp 37) (.tmp 40) 40 28 (.agg #[(.int .i64 0), (.slice none 0 0)]) 32 rfl Tryz.underlying40 info28 rfl (by decide) (by omega) v37 [] (outs.take i) (some bd) i co (fun z => w.heap.size ≤ z) (fun z => w.heap.size ≤ z ∧ z < wd.heap.size) rfl rfl HN37.out (Kd.F_below HF1d.out HBa.out) (fun z hz => ⟨hz.1, fun he => by have := Kd.N_base HN37.out z he.symm; exact absurd hz.2 (Nat.not_lt.2 this)⟩) (fun z hz => Nat.le_trans HBD.out.size (Nat.le_trans (Below.size HBa.out) hz)) HBa.out (Below.size HBa.out) (by have := hol; simp; omega) ?_
                  intro v41 wb hn41 hbb hgb hat
                  rw [List.nil_append] at hn41
                  have HN41 := Aside0.mk hn41
                  have HBb := Aside0.mk hbb
                  clear hn41 hbb hgb hat HN37 HBa
                  refine hK.out _ _ ⟨(blk_cell (blk_below HGd.out HBb.out) 0).trans rfl, (blk_cell (blk_below HGd.out HBb.out) 1).trans rfl⟩ (fun hHeld => ?_)
                  clear hK K
                  refine norm_ (a' := ?_) ?_ ?_
                  rotate_left
                  · show Act.put _ (some 41) _ = _
                    simp only [Act.put, List.setIfInBounds_toArray, List.set_cons_zero, List.set_cons_succ, i64_w, i32_w]
                    rfl
                  refine one_ (i := 6) (N := some 43) #[true, true, true, true, true, true, true, false, false] rfl rfl (by kernel_rfl) (by decide) (fun K hK => ?_)
                  refine value_ (w1 := ?_) (v := ?_) (by rfl) rfl ?_ ?_
                  rotate_left 2
                  · go_simp
                    constructor
                    · rfl
                    · rfl
                  refine hK.out _ _ ⟨(blk_cell (blk_alloc (blk_below HGd.out HBb.out) _) 0).trans rfl, (blk_cell (blk_alloc (blk_below HGd.out HBb.out) _) 1).trans rfl⟩ (fun hHeld => ?_)
                  clear hK K
                  refine norm_ (a' := ?_) ?_ ?_
                  rotate_left
                  · show Act.put _ (some 43) _ = _
                    simp only [Act.put, List.setIfInBounds_toArray, List.set_cons_zero, List.set_cons_succ, i64_w, i32_w]
                    rfl
                  exact norm_ (by simp only [putAll, Act.put, List.setIfInBounds_toArray, List.set_cons_zero, List.set_cons_succ]) (hCont (v37, v41, .slice (some ⟨wb.heap.size, 0, none⟩) 1 1) _ ⟨Kd.N_alloc HN41.out _, ⟨_, rfl, blk_new wb _, fun he => Nat.lt_irrefl _ (Kd.N_lt HN41.out _ he.symm)⟩, HBb.out.alloc HBb.out.size _⟩)
                · refine value_ (w1 := ?_) (v := ?_) (by rfl) rfl ?_ ?_
                  rotate_left 2
                  · go_simp
                    constructor
                    · rfl
                    · rfl
                  refine hK.out _ _ ⟨(blk_cell (blk_alloc (blk_below HGd.out HBa.out) _) 0).trans rfl, (blk_cell (blk_alloc (blk_below HGd.out HBa.out) _) 1).trans rfl⟩ (fun hHeld => ?_)
                  clear hK K
                  refine norm_ (a' := ?_) ?_ ?_
                  rotate_left
                  · show Act.put _ (some 43) _ = _
                    simp only [Act.put, List.setIfInBounds_toArray, List.set_cons_zero, List.set_cons_succ, i64_w, i32_w]
                    rfl
                  have hb43 := blk_new wa (.cells #[.int .i64 g.f0, .slice Ag g.f1.length cg] 28 (0, 0))
                  have hne43 : some wa.heap.size ≠ v37.ownBlock := fun he => Nat.lt_irrefl _ (Kd.N_lt HN37.out _ he.symm)
                  have HN37b := Aside0.mk (Kd.N_alloc HN37.out (.cells #[.int .i64 g.f0, .slice Ag g.f1.length cg] 28 (0, 0)))
                  have HBab := Aside0.mk (HBa.out.alloc HBa.out.size (.cells #[.int .i64 g.f0, .slice Ag g.f1.length cg] 28 (0, 0)))
                  refine one_ (i := 4) (N := some 41) #[true, true, true, true, true, true, true, false, false] rfl rfl (by kernel_rfl) (by decide) (fun K hK => ?_)
                  refine Kd.N_append_rows_step k28 (w0 := wd) wd.heap.size (by rfl) (.tmp 37) (.tmp 40) 40 28 (.agg #[(.int .i64 0), (.slice none 0 0)]) 32 rfl Tryz.underlying40 info28 rfl (by decide) (by omega) v37 [] (outs.take i) (some bd) i co (fun z => w.heap.size ≤ z) (fun z => w.heap.size ≤ z ∧ z < wd.heap.size) rfl rfl HN37b.out (Kd.F_below HF1d.out HBab.out) (fun z hz => ⟨hz.1, fun he => by have := Kd.N_base HN37b.out z he.symm; exact absurd hz.2 (Nat.not_lt.2 this)⟩) (fun z hz => Nat.le_trans HBD.out.size (Nat.le_trans (Below.size HBab.out) hz)) HBab.out (Below.size HBab.out) (by have := hol; simp; omega) ?_
                  intro v41 wb hn41 hbb hgb hat
                  rw [List.nil_append] at hn41
                  have hb43' := blk_grown hb43 hgb hne43
                  have hne41 : some wa.heap.size ≠ v41.ownBlock := by
                    rcases hat with hat | ⟨bb, hbb', hle⟩
                    · rw [hat]; exact hne43
                    · rw [hbb']; intro he; injection he with he; have := blk_lt hb43; omega
                  refine hK.out _ _ ⟨(blk_cell (blk_below HGd.out hbb) 0).trans rfl, (blk_cell (blk_below HGd.out hbb) 1).trans rfl⟩ (fun hHeld => ?_)
                  clear hK K
                  refine norm_ (a' := ?_) ?_ ?_
                  rotate_left
                  · show Act.put _ (some 41) _ = _
                    simp only [Act.put, List.setIfInBounds_toArray, List.set_cons_zero, List.set_cons_succ, i64_w, i32_w]
                    rfl
                  exact norm_ (by simp only [putAll, Act.put, List.setIfInBounds_toArray, List.set_cons_zero, List.set_cons_succ]) (hCont (v37, v41, .slice (some ⟨wa.heap.size, 0, none⟩) 1 1) _ ⟨hn41, ⟨_, rfl, hb43', hne41⟩, hbb⟩)
              · refine value_ (w1 := ?_) (v := ?_) (by rfl) rfl ?_ ?_
                rotate_left 2
                · go_simp
                  constructor
                  · rfl
                  · rfl
                refine hK.out _ _ ⟨(blk_cell (blk_alloc HGd.out _) 0).trans rfl, (blk_cell (blk_alloc HGd.out _) 1).trans rfl⟩ (fun hHeld => ?_)
                clear hK K
                refine norm_ (a' := ?_) ?_ ?_
                rotate_left
                · show Act.put _ (some 43) _ = _
                  simp only [Act.put, List.setIfInBounds_toArray, List.set_cons_zero, List.set_cons_succ, i64_w, i32_w]
                  rfl
                have hb430 := blk_new wd (.cells #[.int .i64 g.f0, .slice Ag g.f1.length cg] 28 (0, 0))
                have HBe := Aside0.mk ((Below.refl _ wd).alloc (Nat.le_refl _) (.cells #[.int .i64 g.f0, .slice Ag g.f1.length cg] 28 (0, 0)))
                refine one_ (i := 0) (N := some 37) #[true, true, true, true, false, true, true, false, false] rfl rfl (by kernel_rfl) (by decide) (fun K hK => ?_)
                refine Kd.N_lit_step k28 _ 28 ?hg (N' := 37) ?hd (xs := ([] : List S28)) (inner := []) (ok := fun _ => True) (okp := fun _ => False) ?hr ?hp (fun _ hk => hk.elim) trivial (Below.refl _ _) (Nat.le_refl _) (by simp) ?_
                case hd => rfl
                case hg => rfl
                case hr => first | (go_simp; done) | (go_simp; rfl)
                case hp => exact Reps.none _ _
                intro v37 wa hn37 hba _ hnew
                have hN37 : Kd.N k28 28 wa wd.heap.size (fun z => w.heap.size ≤ z) v37 [] := Kd.N_lower (N_own hn37 (Nat.le_trans HBD.out.size HBe.out.size)) HBe.out.size
                have hb43 := blk_below hb430 hba
                have hne43 : some wd.heap.size ≠ v37.ownBlock := fun he => by have h1 := Kd.N_base hn37 _ he.symm; have h2 := blk_lt hb430; omega
                have HBab := Aside0.mk (HBe.out.trans (hba.mono HBe.out.size))
                have HN37b := Aside0.mk hN37
                clear hn37 hba hN37 hnew
                refine hK.out _ _ ⟨(blk_cell (blk_below HGd.out HBab.out) 0).trans rfl, (blk_cell (blk_below HGd.out HBab.out) 1).trans rfl⟩ (fun hHeld => ?_)
                clear hK K
                refine norm_ (a' := ?_) ?_ ?_
                rotate_left
                · show Act.put _ (some 37) _ = _
                  simp only [Act.put, List.setIfInBounds_toArray, List.set_cons_zero, List.set_cons_succ, i64_w, i32_w]
                  rfl
                refine one_ (i := 4) (N := some 41) #[true, true, true, true, true, true, true, false, false] rfl rfl (by kernel_rfl) (by decide) (fun K hK => ?_)
                refine Kd.N_append_rows_step k28 (w0 := wd) wd.heap.size (by rfl) (.tmp 37) (.tmp 40) 40 28 (.agg #[(.int .i64 0), (.slice none 0 0)]) 32 rfl Tryz.underlying40 info28 rfl (by decide) (by omega) v37 [] (outs.take i) (some bd) i co (fun z => w.heap.size ≤ z) (fun z => w.heap.size ≤ z ∧ z < wd.heap.size) rfl rfl HN37b.out (Kd.F_below HF1d.out HBab.out) (fun z hz => ⟨hz.1, fun he => by have := Kd.N_base HN37b.out z he.symm; exact absurd hz.2 (Nat.not_lt.2 this)⟩) (fun z hz => Nat.le_trans HBD.out.size (Nat.le_trans (Below.size HBab.out) hz)) HBab.out (Below.size HBab.out) (by have := hol; simp; omega) ?_
                intro v41 wb hn41 hbb hgb hat
                rw [List.nil_append] at hn41
                have hb43' := blk_grown hb43 hgb hne43
                have hne41 : some wd.heap.size ≠ v41.ownBlock := by
                  rcases hat with hat | ⟨bb, hbb', hle⟩
                  · rw [hat]; exact hne43
                  · rw [hbb']; intro he; injection he with he; have := blk_lt hb43; omega
                refine hK.out _ _ ⟨(blk_cell (blk_below HGd.out hbb) 0).trans rfl, (blk_cell (blk_below HGd.out hbb) 1).trans rfl⟩ (fun hHeld => ?_)
                clear hK K
                refine norm_ (a' := ?_) ?_ ?_
                rotate_left
                · show Act.put _ (some 41) _ = _
                  simp only [Act.put, List.setIfInBounds_toArray, List.set_cons_zero, List.set_cons_succ, i64_w, i32_w]
                  rfl
                exact norm_ (by simp only [putAll, Act.put, List.setIfInBounds_toArray, List.set_cons_zero, List.set_cons_succ]) (hCont (v37, v41, .slice (some ⟨wd.heap.size, 0, none⟩) 1 1) _ ⟨hn41, ⟨_, rfl, hb43', hne41⟩, hbb⟩)
            rintro ⟨v37, v41, v43⟩ w' ⟨hn41, ⟨b, hb43e, hb43, hne41⟩, hbw⟩
            dsimp only at hn41 hb43e hne41
            subst hb43e
            have HN41 := Aside0.mk hn41
            have HBW := Aside0.mk hbw
            have HB43 := Aside0.mk hb43
            have HNE := Aside0.mk hne41
            clear hn41 hbw hb43 hne41
            refine norm_ (a' := ?_) ?_ ?_
            rotate_left
            · simp only [putAll, Act.put, List.setIfInBounds_toArray, List.set_cons_zero, List.set_cons_succ]
              rfl
            refine one_ (i := 7) (N := some 44) #[true, true, true, true, true, true, true, true, false] rfl rfl (by kernel_rfl) (by decide) (fun K hK => ?_)
            refine N_append_rr_step k28 (w0 := wd) wd.heap.size (by rfl) (.tmp 41) (.tmp 43) 40 28 (.agg #[(.int .i64 0), (.slice none 0 0)]) 32 rfl Tryz.underlying40 info28 rfl (by decide) (by omega) v41 (outs.take i) [g] (some ⟨b, 0, none⟩) 1 1 (fun z => w.heap.size ≤ z) (fun z => w.heap.size ≤ z ∧ z < wd.heap.size) rfl rfl HN41.out (rr_one HB43.out (Kd.FK_below HGFd.out HBW.out)) (fun z hz => ⟨hz.1, fun he => by have := Kd.N_base HN41.out z he.symm; exact absurd hz.2 (Nat.not_lt.2 this)⟩) (fun z hz => Nat.le_trans HBD.out.size (Nat.le_trans HBW.out.size hz)) HBW.out HBW.out.size (by rw [hlt1]; have := hol; omega) ?_
            intro v44 wc hn44 hbc _ _
            obtain ⟨A44, c44, rfl⟩ := Kd.N_slice hn44
            have HN44 := Aside0.mk hn44
            have HBC := Aside0.mk hbc
            clear hn44 hbc HN41 HBW HB43 HNE
            refine hK.out _ _ ⟨(blk_cell (blk_below HGd.out HBC.out) 0).trans rfl, (blk_cell (blk_below HGd.out HBC.out) 1).trans rfl⟩ (fun hHeld => ?_)
            clear hK K
            refine norm_ (a' := ?_) ?_ ?_
            rotate_left
            · show Act.put _ (some 44) _ = _
              simp only [Act.put, List.setIfInBounds_toArray, List.set_cons_zero, List.set_cons_succ, i64_w, i32_w]
              rfl
            refine pure_ (i := 8) (N := some 10) (v := ?_) (a' := ?_) #[true, true, true, true, true, true, true, true, true] rfl rfl (by kernel_rfl) (fun _ _ _ h => h) (Or.inl ⟨by rfl, ?_⟩) ?_ ?_
            rotate_left
            · intro w'
              go_simp
              with_reducible rfl
            rotate_left
            · simp only [Act.put, List.setIfInBounds_toArray, List.set_cons_zero, List.set_cons_succ, i64_w, i32_w]
              rfl
            refine done_ (by kernel_rfl) ?_
            have hl44 : (outs.take i ++ [g]).length = i + 1 := by rw [List.length_append, hlt1]; rfl
            have hn44 := HN44.out
            rw [hl44] at hn44
            have HN45 := Aside0.mk hn44
            clear hn44 HN44
            go_wp2_with ((with_reducible refine gate_builtin (b := .append) (xs := #[.tmp 45, .tmp 48]) rfl ?_); at_builtin; refine Kd.N_append_rows k28 (w0 := wd) wd.heap.size rfl (.tmp 45) (.tmp 48) 40 28 (.agg #[(.int .i64 0), (.slice none 0 0)]) 32 rfl Tryz.underlying40 info28 rfl (by decide) (by omega) (.slice A44 (i + 1) c44) (outs.take i ++ [g]) (outs.drop i) A2c n2c c2c (fun z => w.heap.size ≤ z) (fun z => w.heap.size ≤ z ∧ z < wd.heap.size) rfl rfl HN45.out (Kd.F_below HF2d.out HBC.out) (fun z hz => ⟨hz.1, fun he => by have := Kd.N_base HN45.out z he.symm; exact absurd hz.2 (Nat.not_lt.2 this)⟩) (fun z hz => Nat.le_trans HBD.out.size (Nat.le_trans HBC.out.size hz)) HBC.out HBC.out.size (by rw [hl44, HN2c.out]; have := hol; omega) ?_; intro v49 we hn49 hbe _ _; obtain ⟨A49, c49, rfl⟩ := Kd.N_slice hn49; have HN49 := Aside0.mk hn49; have HBE := Aside0.mk hbe; clear hn49 hbe)
            have hl3 : (outs.take i ++ [g] ++ outs.drop i).length = outs.length + 1 := by rw [List.length_append, hl44, hld1]; exact om6 hi
            go_roundg (gs.length - (kk + 1))
            case measure => exact om2 hlt hg
            case rel => exact ⟨kk + 1, A49, c49, outs.take i ++ [g] ++ outs.drop i, hlt, Nat.le_refl _, by first | rfl | (simp; done) | (congr 1; simp; omega), by congr 1; (try exact om3 hlt (Nat.le_trans c1 (by decide))), ⟨by rw [hl3, HOL.out]⟩, (Kd.N_reads' HN49.out).2.1, HT2, ⟨Kd.F_bound (Kd.N_F HN49.out)⟩, ⟨HAD.out.trans (HBE.out.mono HAD.out.size)⟩⟩
        · have hiz : ¬ (i : Int) < (outs.length : Int) := fun e => hil (Int.ofNat_lt.1 e)
          have hizb : decide ((i : Int) < (outs.length : Int)) = false := decide_eq_false hiz
          have hie : i = outs.length := Nat.le_antisymm hi (Nat.le_of_not_lt hil)
          have hP := HPOS.out
          rw [List.drop_of_length_le (Nat.le_of_eq hie.symm)] at hP
          obtain rfl := Option.some.inj hP
          have HT2 := HT2a
          clear hP HPOS hie
          clear HGC HT2a HGF HQ
          go_wp2_with fail
          refine start_ (n := 12) (S := fun w' => w'.cell? ⟨wo.heap.size, 0, none⟩ = some (.int .i64 g.f0) ∧ w'.cell? ⟨wo.heap.size, 1, none⟩ = some (.slice Ag g.f1.length cg)) (ds := []) #[false, false, false, false, false, false, false, false, false, false, false, false] (by kernel_rfl) rfl rfl (⟨(blk_cell (blk_drew HGB.out) 0).trans rfl, (blk_cell (blk_drew HGB.out) 1).trans rfl⟩) (fun hHeld => ?_)
          have HDR := Aside0.mk (below_drew (Below.refl wr.heap.size wr))
          generalize hwd : wr.drew = wd0 at *
          refine pure_ (i := 0) (N := some 23) (v := ?_) (a' := ?_) #[true, false, false, false, false, false, false, false, false, false, false, false] rfl rfl (by kernel_rfl) (fun _ _ _ h => h) (Or.inl ⟨by rfl, ?_⟩) ?_ ?_
          rotate_left
          · intro w'
            go_simp
            with_reducible rfl
          rotate_left
          · simp only [Act.put, List.setIfInBounds_toArray, List.set_cons_zero, List.set_cons_succ, i64_w, i32_w]
            rfl
          refine pure_ (i := 1) (N := some 24) (v := ?_) (a' := ?_) #[true, true, false, false, false, false, false, false, false, false, false, false] rfl rfl (by kernel_rfl) (fun _ _ _ h => h) (Or.inl ⟨by rfl, ?_⟩) ?_ ?_
          rotate_left
          · intro w'
            go_simp
            with_reducible rfl
          rotate_left
          · simp only [Act.put, List.setIfInBounds_toArray, List.set_cons_zero, List.set_cons_succ, i64_w, i32_w]
            rfl
          refine pure_ (i := 2) (N := some 25) (v := ?_) (a' := ?_) #[true, true, true, false, false, false, false, false, false, false, false, false] rfl rfl (by kernel_rfl) (fun _ _ _ h => h) (Or.inl ⟨by rfl, ?_⟩) ?_ ?_
          rotate_left
          · intro w'
            go_simp
            with_reducible rfl
          rotate_left
          · simp only [Act.put, List.setIfInBounds_toArray, List.set_cons_zero, List.set_cons_succ, i64_w, i32_w]
            rfl
          refine pure_ (i := 3) (N := some 26) (v := ?_) (a' := ?_) #[true, true, true, true, false, false, false, false, false, false, false, false] rfl rfl (by kernel_rfl) (fun _ _ _ h => h) (Or.inl ⟨by rfl, ?_⟩) ?_ ?_
          rotate_left
          · intro w'
            go_simp
            with_reducible rfl
          rotate_left
          · simp only [Act.put, List.setIfInBounds_toArray, List.set_cons_zero, List.set_cons_succ, i64_w, i32_w]
            rfl
          refine pure_ (i := 4) (N := some 27) (v := ?_) (a' := ?_) #[true, true, true, true, true, false, false, false, false, false, false, false] rfl rfl (by kernel_rfl) (fun _ _ _ h => h) (Or.inl ⟨by rfl, ?_⟩) ?_ ?_
          rotate_left
          · intro w'
            go_simp
            with_reducible rfl
          rotate_left
          · simp only [Act.put, List.setIfInBounds_toArray, List.set_cons_zero, List.set_cons_succ, i64_w, i32_w]
            rfl
          refine pure_ (i := 5) (N := some 28) (v := undef) (a' := ?_) #[true, true, true, true, true, true, false, false, false, false, false, false] rfl rfl (by kernel_rfl) (fun _ _ _ h => h) (Or.inr ⟨by rfl, rfl⟩) ?_ ?_
          rotate_left
          · simp only [Act.put, List.setIfInBounds_toArray, List.set_cons_zero, List.set_cons_succ, i64_w, i32_w]
            rfl
          refine pure_ (i := 6) (N := some 29) (v := undef) (a' := ?_) #[true, true, true, true, true, true, true, false, false, false, false, false] rfl rfl (by kernel_rfl) (fun _ _ _ h => h) (Or.inr ⟨by rfl, rfl⟩) ?_ ?_
          rotate_left
          · simp only [Act.put, List.setIfInBounds_toArray, List.set_cons_zero, List.set_cons_succ, i64_w, i32_w]
            rfl
          refine pure_ (i := 7) (N := some 30) (v := undef) (a' := ?_) #[true, true, true, true, true, true, true, true, false, false, false, false] rfl rfl (by kernel_rfl) (fun _ _ _ h => h) (Or.inr ⟨by rfl, rfl⟩) ?_ ?_
          rotate_left
          · simp only [Act.put, List.setIfInBounds_toArray, List.set_cons_zero, List.set_cons_succ, i64_w, i32_w]
            rfl
          refine pure_ (i := 8) (N := some 31) (v := undef) (a' := ?_) #[true, true, true, true, true, true, true, true, true, false, false, false] rfl rfl (by kernel_rfl) (fun _ _ _ h => h) (Or.inr ⟨by rfl, rfl⟩) ?_ ?_
          rotate_left
          · simp only [Act.put, List.setIfInBounds_toArray, List.set_cons_zero, List.set_cons_succ, i64_w, i32_w]
            rfl
          refine pure_ (i := 9) (N := some 32) (v := undef) (a' := ?_) #[true, true, true, true, true, true, true, true, true, true, false, false] rfl rfl (by kernel_rfl) (fun _ _ _ h => h) (Or.inr ⟨by rfl, rfl⟩) ?_ ?_
          rotate_left
          · simp only [Act.put, List.setIfInBounds_toArray, List.set_cons_zero, List.set_cons_succ, i64_w, i32_w]
            rfl
          refine pure_ (i := 10) (N := some 33) (v := undef) (a' := ?_) #[true, true, true, true, true, true, true, true, true, true, true, false] rfl rfl (by kernel_rfl) (fun _ _ _ h => h) (Or.inr ⟨by rfl, rfl⟩) ?_ ?_
          rotate_left
          · simp only [Act.put, List.setIfInBounds_toArray, List.set_cons_zero, List.set_cons_succ, i64_w, i32_w]
            rfl
          refine pure_ (i := 11) (N := some 34) (v := ?_) (a' := ?_) #[true, true, true, true, true, true, true, true, true, true, true, true] rfl rfl (by kernel_rfl) (fun _ _ _ h => h) (Or.inl ⟨by rfl, ?_⟩) ?_ ?_
          rotate_left
          · intro w'
            go_simp
            with_reducible rfl
          rotate_left
          · simp only [Act.put, List.setIfInBounds_toArray, List.set_cons_zero, List.set_cons_succ, i64_w, i32_w]
            rfl
          refine done_ (by kernel_rfl) ?_
          have HGBd := Aside0.mk (blk_below HGB.out HDR.out)
          have HOQd := Aside0.mk (Kd.F_mono (Kd.F_below HOQ.out HDR.out) (ok' := fun z => w.heap.size ≤ z ∧ z < wd0.heap.size) (fun z hz => ⟨hz.1, Nat.lt_of_lt_of_le hz.2 HDR.out.size⟩))
          have HGFQd := Aside0.mk (Kd.FK_mono (Kd.FK_below HGFQ.out HDR.out) (ok' := fun z => w.heap.size ≤ z ∧ z < wd0.heap.size) (fun z hz => ⟨hz.1, Nat.lt_of_lt_of_le hz.2 HDR.out.size⟩))
          have HA1d := Aside0.mk (HA1.out.trans (HDR.out.mono HA1.out.size))
          have HBQd := Aside0.mk (HBQ.out.trans (HDR.out.mono HBQ.out.size))
          clear HGB HOQ HGFQ HA1 HBQ hHeld
          have HGB := HGBd
          have HOQ := HOQd
          have HGFQ := HGFQd
          have HA1 := HA1d
          have HBQ := HBQd
          clear HGBd HOQd HGFQd HA1d HBQd HDR
          go_wp2_with fail
          have hcut1 := cut_to (P := Tryz.prog) 40 28 .i64 Tryz.underlying40 hinf Ao outs.length co (i : Int) (Int.natCast_nonneg _) (Int.ofNat_le.2 hi) hoc
          simp only [Int.toNat_natCast] at hcut1
          have hcut2 := cut_from (P := Tryz.prog) 40 28 .i64 Tryz.underlying40 hinf 2 hinf2 Ao outs.length co (i : Int) (Int.natCast_nonneg _) (Int.ofNat_le.2 hi)
          simp only [Int.toNat_natCast] at hcut2
          obtain ⟨A2c, hA2c⟩ : ∃ A2c : Option Addr, A2c = (if co = i then Ao else (Ao : Option Addr).map (·.add (i * 2))) := ⟨_, rfl⟩
          obtain ⟨c2c, hc2c⟩ : ∃ c2c : Nat, c2c = co - i := ⟨_, rfl⟩
          obtain ⟨n2c, hn2c⟩ : ∃ n2c : Nat, n2c = outs.length - i := ⟨_, rfl⟩
          rw [← hA2c, ← hc2c, ← hn2c] at hcut2
          have hib : decide (0 ≤ (i : Int)) = true := decide_eq_true (Int.natCast_nonneg _)
          have hlt1 : (outs.take i).length = i := by rw [List.length_take]; exact Nat.min_eq_left hi
          have hld1 : (outs.drop i).length = outs.length - i := List.length_drop
          have HF1 := Aside0.mk (show Kd.F k28 wd0 (fun z => w.heap.size ≤ z ∧ z < wd0.heap.size) Ao i (outs.take i) from by have := Kd.F_take HOQ.out hi; rwa [hlt1] at this)
          have HF2 := Aside0.mk (show Kd.F k28 wd0 (fun z => w.heap.size ≤ z ∧ z < wd0.heap.size) A2c n2c (outs.drop i) from by have := Kd.F_cut HOQ.out hi hoc; rw [hld1] at this; rw [hA2c, hn2c]; exact this)
          have HN2c := Aside0.mk hn2c
          clear hA2c hc2c hn2c
          go_wp2_with fail
          refine start_ (n := 9) (S := fun w' => w'.cell? ⟨wo.heap.size, 0, none⟩ = some (.int .i64 g.f0) ∧ w'.cell? ⟨wo.heap.size, 1, none⟩ = some (.slice Ag g.f1.length cg)) (ds := []) #[false, false, false, false, false, false, false, false, false] (by kernel_rfl) rfl rfl (⟨(blk_cell (blk_drew HGB.out) 0).trans rfl, (blk_cell (blk_drew HGB.out) 1).trans rfl⟩) (fun hHeld => ?_)
          have HBD := Aside0.mk (HBQ.out.trans ((below_drew (Below.refl _ _)).mono HBQ.out.size))
          have HAD := Aside0.mk (Below.trans HA1.out ((below_drew (Below.refl _ _)).mono HA1.out.size))
          have HF1d := Aside0.mk (Kd.F_drew HF1.out)
          have HF2d := Aside0.mk (Kd.F_drew HF2.out)
          have HGd := Aside0.mk (blk_drew HGB.out)
          have HGFd := Aside0.mk (Kd.FK_below HGFQ.out (below_drew (Below.refl _ _)))
          have hsz : wd0.drew.heap.size = wd0.heap.size := rfl
          clear HF1 HF2 HGB HGFQ HOQ HBQ HA1
          rw [← hsz] at HF1d HF2d HGFd
          clear hsz
          generalize wd0.drew = wd at *
          refine pure_ (i := 1) (N := some 38) (v := ?_) (a' := ?_) #[false, true, false, false, false, false, false, false, false] rfl rfl (by kernel_rfl) (fun _ _ _ h => h) (Or.inl ⟨by rfl, ?_⟩) ?_ ?_
          rotate_left
          · intro w'
            go_simp
            with_reducible rfl
          rotate_left
          · simp only [Act.put, List.setIfInBounds_toArray, List.set_cons_zero, List.set_cons_succ, i64_w, i32_w]
            rfl
          refine pure_ (i := 2) (N := some 39) (v := ?_) (a' := ?_) #[false, true, true, false, false, false, false, false, false] rfl rfl (by kernel_rfl) (fun _ _ _ h => h) (Or.inl ⟨by rfl, ?_⟩) ?_ ?_
          rotate_left
          · intro w'
            go_simp
            with_reducible rfl
          rotate_left
          · simp only [Act.put, List.setIfInBounds_toArray, List.set_cons_zero, List.set_cons_succ, i64_w, i32_w]
            rfl
          refine pure_ (i := 3) (N := some 40) (v := ?_) (a' := ?_) #[false, true, true, true, false, false, false, false, false] rfl rfl (by kernel_rfl) (fun _ _ _ h => h) (Or.inl ⟨by rfl, ?_⟩) ?_ ?_
          rotate_left
          · intro w'
            go_simp
            with_reducible rfl
          rotate_left
          · simp only [Act.put, List.setIfInBounds_toArray, List.set_cons_zero, List.set_cons_succ, i64_w, i32_w]
            rfl
          refine take_ (i := 5) (N := some 42) (v := ?_) (a' := ?_) #[false, true, true, true, false, true, false, false, false] rfl rfl (by kernel_rfl) (fun _ _ _ h => h) (Or.inl ⟨by rfl, ?_⟩) hHeld ?_ ?_
          rotate_left
          · rintro w' ⟨s0, s1⟩
            go_simp
            with_reducible rfl
          rotate_left
          · simp only [Act.put, List.setIfInBounds_toArray, List.set_cons_zero, List.set_cons_succ, i64_w, i32_w]
            rfl
          refine join_ (σ := Value × Value × Value) 2 #[true, true, true, true, true, true, true, false, false] (fun s_ => [(37, s_.1), (41, s_.2.1), (43, s_.2.2)]) (fun s_ w' => Kd.N k28 28 w' wd.heap.size (fun z => w.heap.size ≤ z) s_.2.1 (outs.take i) ∧ (∃ b, s_.2.2 = .slice (some ⟨b, 0, none⟩) 1 1 ∧ w'.heap[b]? = some (.cells #[.int .i64 g.f0, .slice Ag g.f1.length cg] 28 (0, 0)) ∧ some b ≠ s_.2.1.ownBlock) ∧ Below wd.heap.size wd w') ?_ ?_
          rotate_left
          · intro hCont
            refine two_ (i := 0) (j := 6) (Ni := some 37) (Nj := some 43) #[true, true, true, true, false, true, false, false, false] #[false, true, true, true, false, true, true, false, false] rfl rfl rfl rfl (by kernel_rfl) (by decide) (by decide) (fun K hK => ?_) (fun K hK => ?_)
            · refine Kd.N_lit_step k28 _ 28 ?hg (N' := 37) ?hd (xs := ([] : List S28)) (inner := []) (ok := fun _ => True) (okp := fun _ => False) ?hr ?hp (fun _ hk => hk.elim) trivial (Below.refl _ _) (Nat.le_refl _) (by simp) ?_
              case hd => rfl
              case hg => rfl
              case hr => first | (go_simp; done) | (go_simp; rfl)
              case hp => exact Reps.none _ _
              intro v37 wa hn37 hba _ hnew
              have HN37 := Aside0.mk (Kd.N_mono (Kd.N_lower hn37 (Nat.le_refl wd.heap.size)) (ok' := fun z => w.heap.size ≤ z ∨ True) (fun _ _ => .inr trivial))
              have hN37 : Kd.N k28 28 wa wd.heap.size (fun z => w.heap.size ≤ z) v37 [] := N_own hn37 (Nat.le_trans HBD.out.size (Nat.le_refl _))
              have HN37 := Aside0.mk hN37
              have HBa := Aside0.mk hba
              clear hn37 hba hN37 hnew
              refine hK.out _ _ ⟨(blk_cell (blk_below HGd.out HBa.out) 0).trans rfl, (blk_cell (blk_below HGd.out HBa.out) 1).trans rfl⟩ (fun hHeld => ?_)
              clear hK K
              refine norm_ (a' := ?_) ?_ ?_
              rotate_left
              · show Act.put _ (some 37) _ = _
                simp only [Act.put, List.setIfInBounds_toArray, List.set_cons_zero, List.set_cons_succ, i64_w, i32_w]
                rfl
              refine two_ (i := 4) (j := 6) (Ni := some 41) (Nj := some 43) #[true, true, true, true, true, true, false, false, false] #[true, true, true, true, false, true, true, false, false] rfl rfl rfl rfl (by kernel_rfl) (by decide) (by decide) (fun K hK => ?_) (fun K hK => ?_)
              · refine Kd.N_append_rows_step k28 (w0 := wd) wd.heap.size (by rfl) (.tmp 37) (.tmp 40) 40 28 (.agg #[(.int .i64 0), (.slice none 0 0)]) 32 rfl Tryz.underlying40 info28 rfl (by decide) (by omega) v37 [] (outs.take i) Ao i co (fun z => w.heap.size ≤ z) (fun z => w.heap.size ≤ z ∧ z < wd.heap.size) rfl rfl HN37.out (Kd.F_below HF1d.out HBa.out) (fun z hz => ⟨hz.1, fun he => by have := Kd.N_base HN37.out z he.symm; exact absurd hz.2 (Nat.not_lt.2 this)⟩) (fun z hz => Nat.le_trans HBD.out.size (Nat.le_trans (Below.size HBa.out) hz)) HBa.out (Below.size HBa.out) (by have := hol; simp; omega) ?_
                intro v41 wb hn41 hbb hgb hat
                rw [List.nil_append] at hn41
                have HN41 := Aside0.mk hn41
                have HBb := Aside0.mk hbb
                clear hn41 hbb hgb hat HN37 HBa
                refine hK.out _ _ ⟨(blk_cell (blk_below HGd.out HBb.out) 0).trans rfl, (blk_cell (blk_below HGd.out HBb.out) 1).trans rfl⟩ (fun hHeld => ?_)
                clear hK K
                refine norm_ (a' := ?_) ?_ ?_
                rotate_left
                · show Act.put _ (some 41) _ = _
                  simp only [Act.put, List.setIfInBounds_toArray, List.set_cons_zero, List.set_cons_succ, i64_w, i32_w]
                  rfl
                refine one_ (i := 6) (N := some 43) #[true, true, true, true, true, true, true, false, false] rfl rfl (by kernel_rfl) (by decide) (fun K hK => ?_)
                refine value_ (w1 := ?_) (v := ?_) (by rfl) rfl ?_ ?_
                rotate_left 2
                · go_simp
                  constructor
                  · rfl
                  · rfl
                refine hK.out _ _ ⟨(blk_cell (blk_alloc (blk_below HGd.out HBb.out) _) 0).trans rfl, (blk_cell (blk_alloc (blk_below HGd.out HBb.out) _) 1).trans rfl⟩ (fun hHeld => ?_)
                clear hK K
                refine norm_ (a' := ?_) ?_ ?_
                rotate_left
                · show Act.put _ (some 43) _ = _
                  simp only [Act.put, List.setIfInBounds_toArray, List.set_cons_zero, List.set_cons_succ, i64_w, i32_w]
                  rfl
                exact norm_ (by simp only [putAll, Act.put, List.setIfInBounds_toArray, List.set_cons_zero, List.set_cons_succ]) (hCont (v37, v41, .slice (some ⟨wb.heap.size, 0, none⟩) 1 1) _ ⟨Kd.N_alloc HN41.out _, ⟨_, rfl, blk_new wb _, fun he => Nat.lt_irrefl _ (Kd.N_lt HN41.out _ he.symm)⟩, HBb.out.alloc HBb.out.size _⟩)
              · refine value_ (w1 := ?_) (v := ?_) (by rfl) rfl ?_ ?_
                rotate_left 2
                · go_simp
                  constructor
                  · rfl
                  · rfl
                refine hK.out _ _ ⟨(blk_cell (blk_alloc (blk_below HGd.out HBa.out) _) 0).trans rfl, (blk_cell (blk_alloc (blk_below HGd.out HBa.out) _) 1).trans rfl⟩ (fun hHeld => ?_)
                clear hK K
                refine norm_ (a' := ?_) ?_ ?_
                rotate_left
                · show Act.put _ (some 43) _ = _
                  simp only [Act.put, List.setIfInBounds_toArray, List.set_cons_zero, List.set_cons_succ, i64_w, i32_w]
                  rfl
                have hb43 := blk_new wa (.cells #[.int .i64 g.f0, .slice Ag g.f1.length cg] 28 (0, 0))
                have hne43 : some wa.heap.size ≠ v37.ownBlock := fun he => Nat.lt_irrefl _ (Kd.N_lt HN37.out _ he.symm)
                have HN37b := Aside0.mk (Kd.N_alloc HN37.out (.cells #[.int .i64 g.f0, .slice Ag g.f1.length cg] 28 (0, 0)))
                have HBab := Aside0.mk (HBa.out.alloc HBa.out.size (.cells #[.int .i64 g.f0, .slice Ag g.f1.length cg] 28 (0, 0)))
                refine one_ (i := 4) (N := some 41) #[true, true, true, true, true, true, true, false, false] rfl rfl (by kernel_rfl) (by decide) (fun K hK => ?_)
                refine Kd.N_append_rows_step k28 (w0 := wd) wd.heap.size (by rfl) (.tmp 37) (.tmp 40) 40 28 (.agg #[(.int .i64 0), (.slice none 0 0)]) 32 rfl Tryz.underlying40 info28 rfl (by decide) (by omega) v37 [] (outs.take i) Ao i co (fun z => w.heap.size ≤ z) (fun z => w.heap.size ≤ z ∧ z < wd.heap.size) rfl rfl HN37b.out (Kd.F_below HF1d.out HBab.out) (fun z hz => ⟨hz.1, fun he => by have := Kd.N_base HN37b.out z he.symm; exact absurd hz.2 (Nat.not_lt.2 this)⟩) (fun z hz => Nat.le_trans HBD.out.size (Nat.le_trans (Below.size HBab.out) hz)) HBab.out (Below.size HBab.out) (by have := hol; simp; omega) ?_
                intro v41 wb hn41 hbb hgb hat
                rw [List.nil_append] at hn41
                have hb43' := blk_grown hb43 hgb hne43
                have hne41 : some wa.heap.size ≠ v41.ownBlock := by
                  rcases hat with hat | ⟨bb, hbb', hle⟩
                  · rw [hat]; exact hne43
                  · rw [hbb']; intro he; injection he with he; have := blk_lt hb43; omega
                refine hK.out _ _ ⟨(blk_cell (blk_below HGd.out hbb) 0).trans rfl, (blk_cell (blk_below HGd.out hbb) 1).trans rfl⟩ (fun hHeld => ?_)
                clear hK K
                refine norm_ (a' := ?_) ?_ ?_
                rotate_left
                · show Act.put _ (some 41) _ = _
                  simp only [Act.put, List.setIfInBounds_toArray, List.set_cons_zero, List.set_cons_succ, i64_w, i32_w]
                  rfl
                exact norm_ (by simp only [putAll, Act.put, List.setIfInBounds_toArray, List.set_cons_zero, List.set_cons_succ]) (hCont (v37, v41, .slice (some ⟨wa.heap.size, 0, none⟩) 1 1) _ ⟨hn41, ⟨_, rfl, hb43', hne41⟩, hbb⟩)
            · refine value_ (w1 := ?_) (v := ?_) (by rfl) rfl ?_ ?_
              rotate_left 2
              · go_simp
                constructor
                · rfl
                · rfl
              refine hK.out _ _ ⟨(blk_cell (blk_alloc HGd.out _) 0).trans rfl, (blk_cell (blk_alloc HGd.out _) 1).trans rfl⟩ (fun hHeld => ?_)
              clear hK K
              refine norm_ (a' := ?_) ?_ ?_
              rotate_left
              · show Act.put _ (some 43) _ = _
                simp only [Act.put, List.setIfInBounds_toArray, List.set_cons_zero, List.set_cons_succ, i64_w, i32_w]
                rfl
              have hb430 := blk_new wd (.cells #[.int .i64 g.f0, .slice Ag g.f1.length cg] 28 (0, 0))
              have HBe := Aside0.mk ((Below.refl _ wd).alloc (Nat.le_refl _) (.cells #[.int .i64 g.f0, .slice Ag g.f1.length cg] 28 (0, 0)))
              refine one_ (i := 0) (N := some 37) #[true, true, true, true, false, true, true, false, false] rfl rfl (by kernel_rfl) (by decide) (fun K hK => ?_)
              refine Kd.N_lit_step k28 _ 28 ?hg (N' := 37) ?hd (xs := ([] : List S28)) (inner := []) (ok := fun _ => True) (okp := fun _ => False) ?hr ?hp (fun _ hk => hk.elim) trivial (Below.refl _ _) (Nat.le_refl _) (by simp) ?_
              case hd => rfl
              case hg => rfl
              case hr => first | (go_simp; done) | (go_simp; rfl)
              case hp => exact Reps.none _ _
              intro v37 wa hn37 hba _ hnew
              have hN37 : Kd.N k28 28 wa wd.heap.size (fun z => w.heap.size ≤ z) v37 [] := Kd.N_lower (N_own hn37 (Nat.le_trans HBD.out.size HBe.out.size)) HBe.out.size
              have hb43 := blk_below hb430 hba
              have hne43 : some wd.heap.size ≠ v37.ownBlock := fun he => by have h1 := Kd.N_base hn37 _ he.symm; have h2 := blk_lt hb430; omega
              have HBab := Aside0.mk (HBe.out.trans (hba.mono HBe.out.size))
              have HN37b := Aside0.mk hN37
              clear hn37 hba hN37 hnew
              refine hK.out _ _ ⟨(blk_cell (blk_below HGd.out HBab.out) 0).trans rfl, (blk_cell (blk_below HGd.out HBab.out) 1).trans rfl⟩ (fun hHeld => ?_)
              clear hK K
              refine norm_ (a' := ?_) ?_ ?_
              rotate_left
              · show Act.put _ (some 37) _ = _
                simp only [Act.put, List.setIfInBounds_toArray, List.set_cons_zero, List.set_cons_succ, i64_w, i32_w]
                rfl
              refine one_ (i := 4) (N := some 41) #[true, true, true, true, true, true, true, false, false] rfl rfl (by kernel_rfl) (by decide) (fun K hK => ?_)
              refine Kd.N_append_rows_step k28 (w0 := wd) wd.heap.size (by rfl) (.tmp 37) (.tmp 40) 40 28 (.agg #[(.int .i64 0), (.slice none 0 0)]) 32 rfl Tryz.underlying40 info28 rfl (by decide) (by omega) v37 [] (outs.take i) Ao i co (fun z => w.heap.size ≤ z) (fun z => w.heap.size ≤ z ∧ z < wd.heap.size) rfl rfl HN37b.out (Kd.F_below HF1d.out HBab.out) (fun z hz => ⟨hz.1, fun he => by have := Kd.N_base HN37b.out z he.symm; exact absurd hz.2 (Nat.not_lt.2 this)⟩) (fun z hz => Nat.le_trans HBD.out.size (Nat.le_trans (Below.size HBab.out) hz)) HBab.out (Below.size HBab.out) (by have := hol; simp; omega) ?_
              intro v41 wb hn41 hbb hgb hat
              rw [List.nil_append] at hn41
              have hb43' := blk_grown hb43 hgb hne43
              have hne41 : some wd.heap.size ≠ v41.ownBlock := by
                rcases hat with hat | ⟨bb, hbb', hle⟩
                · rw [hat]; exact hne43
                · rw [hbb']; intro he; injection he with he; have := blk_lt hb43; omega
              refine hK.out _ _ ⟨(blk_cell (blk_below HGd.out hbb) 0).trans rfl, (blk_cell (blk_below HGd.out hbb) 1).trans rfl⟩ (fun hHeld => ?_)
              clear hK K
              refine norm_ (a' := ?_) ?_ ?_
              rotate_left
              · show Act.put _ (some 41) _ = _
                simp only [Act.put, List.setIfInBounds_toArray, List.set_cons_zero, List.set_cons_succ, i64_w, i32_w]
                rfl
              exact norm_ (by simp only [putAll, Act.put, List.setIfInBounds_toArray, List.set_cons_zero, List.set_cons_succ]) (hCont (v37, v41, .slice (some ⟨wd.heap.size, 0, none⟩) 1 1) _ ⟨hn41, ⟨_, rfl, hb43', hne41⟩, hbb⟩)
          rintro ⟨v37, v41, v43⟩ w' ⟨hn41, ⟨b, hb43e, hb43, hne41⟩, hbw⟩
          dsimp only at hn41 hb43e hne41
          subst hb43e
          have HN41 := Aside0.mk hn41
          have HBW := Aside0.mk hbw
          have HB43 := Aside0.mk hb43
          have HNE := Aside0.mk hne41
          clear hn41 hbw hb43 hne41
          refine norm_ (a' := ?_) ?_ ?_
          rotate_left
          · simp only [putAll, Act.put, List.setIfInBounds_toArray, List.set_cons_zero, List.set_cons_succ]
            rfl
          refine one_ (i := 7) (N := some 44) #[true, true, true, true, true, true, true, true, false] rfl rfl (by kernel_rfl) (by decide) (fun K hK => ?_)
          refine N_append_rr_step k28 (w0 := wd) wd.heap.size (by rfl) (.tmp 41) (.tmp 43) 40 28 (.agg #[(.int .i64 0), (.slice none 0 0)]) 32 rfl Tryz.underlying40 info28 rfl (by decide) (by omega) v41 (outs.take i) [g] (some ⟨b, 0, none⟩) 1 1 (fun z => w.heap.size ≤ z) (fun z => w.heap.size ≤ z ∧ z < wd.heap.size) rfl rfl HN41.out (rr_one HB43.out (Kd.FK_below HGFd.out HBW.out)) (fun z hz => ⟨hz.1, fun he => by have := Kd.N_base HN41.out z he.symm; exact absurd hz.2 (Nat.not_lt.2 this)⟩) (fun z hz => Nat.le_trans HBD.out.size (Nat.le_trans HBW.out.size hz)) HBW.out HBW.out.size (by rw [hlt1]; have := hol; omega) ?_
          intro v44 wc hn44 hbc _ _
          obtain ⟨A44, c44, rfl⟩ := Kd.N_slice hn44
          have HN44 := Aside0.mk hn44
          have HBC := Aside0.mk hbc
          clear hn44 hbc HN41 HBW HB43 HNE
          refine hK.out _ _ ⟨(blk_cell (blk_below HGd.out HBC.out) 0).trans rfl, (blk_cell (blk_below HGd.out HBC.out) 1).trans rfl⟩ (fun hHeld => ?_)
          clear hK K
          refine norm_ (a' := ?_) ?_ ?_
          rotate_left
          · show Act.put _ (some 44) _ = _
            simp only [Act.put, List.setIfInBounds_toArray, List.set_cons_zero, List.set_cons_succ, i64_w, i32_w]
            rfl
          refine pure_ (i := 8) (N := some 10) (v := ?_) (a' := ?_) #[true, true, true, true, true, true, true, true, true] rfl rfl (by kernel_rfl) (fun _ _ _ h => h) (Or.inl ⟨by rfl, ?_⟩) ?_ ?_
          rotate_left
          · intro w'
            go_simp
            with_reducible rfl
          rotate_left
          · simp only [Act.put, List.setIfInBounds_toArray, List.set_cons_zero, List.set_cons_succ, i64_w, i32_w]
            rfl
          refine done_ (by kernel_rfl) ?_
          have hl44 : (outs.take i ++ [g]).length = i + 1 := by rw [List.length_append, hlt1]; rfl
          have hn44 := HN44.out
          rw [hl44] at hn44
          have HN45 := Aside0.mk hn44
          clear hn44 HN44
          go_wp2_with ((with_reducible refine gate_builtin (b := .append) (xs := #[.tmp 45, .tmp 48]) rfl ?_); at_builtin; refine Kd.N_append_rows k28 (w0 := wd) wd.heap.size rfl (.tmp 45) (.tmp 48) 40 28 (.agg #[(.int .i64 0), (.slice none 0 0)]) 32 rfl Tryz.underlying40 info28 rfl (by decide) (by omega) (.slice A44 (i + 1) c44) (outs.take i ++ [g]) (outs.drop i) A2c n2c c2c (fun z => w.heap.size ≤ z) (fun z => w.heap.size ≤ z ∧ z < wd.heap.size) rfl rfl HN45.out (Kd.F_below HF2d.out HBC.out) (fun z hz => ⟨hz.1, fun he => by have := Kd.N_base HN45.out z he.symm; exact absurd hz.2 (Nat.not_lt.2 this)⟩) (fun z hz => Nat.le_trans HBD.out.size (Nat.le_trans HBC.out.size hz)) HBC.out HBC.out.size (by rw [hl44, HN2c.out]; have := hol; omega) ?_; intro v49 we hn49 hbe _ _; obtain ⟨A49, c49, rfl⟩ := Kd.N_slice hn49; have HN49 := Aside0.mk hn49; have HBE := Aside0.mk hbe; clear hn49 hbe)
          have hl3 : (outs.take i ++ [g] ++ outs.drop i).length = outs.length + 1 := by rw [List.length_append, hl44, hld1]; exact om6 hi
          go_roundg (gs.length - (kk + 1))
          case measure => exact om2 hlt hg
          case rel => exact ⟨kk + 1, A49, c49, outs.take i ++ [g] ++ outs.drop i, hlt, Nat.le_refl _, by first | rfl | (simp; done) | (congr 1; simp; omega), by congr 1; (try exact om3 hlt (Nat.le_trans c1 (by decide))), ⟨by rw [hl3, HOL.out]⟩, (Kd.N_reads' HN49.out).2.1, HT2, ⟨Kd.F_bound (Kd.N_F HN49.out)⟩, ⟨HAD.out.trans (HBE.out.mono HAD.out.size)⟩⟩
    · have hkl : kk = gs.length := Nat.le_antisymm hkk (Nat.le_of_not_lt hlt)
      have hltz : ¬ (kk : Int) < (gs.length : Int) := fun e => hlt (Int.ofNat_lt.1 e)
      subst hkl
      have hT := HT.out
      rw [List.drop_length] at hT
      obtain rfl := Option.some.inj hT
      go_wp2
      go_ret
      exact ⟨_, rfl, ⟨Ao, co, rfl, hoc, Kd.F_mono HO.out (fun z hz => hz.1)⟩, HB.out.trans (HB1.out.mono HB.out.size)⟩
end Go.Proofs.YtgfdfabeninfeaaGreat.Q
end
section
namespace Go.Proofs.YtgfdfabeninfeaaGreat.Q
open Go.RowKit Go.Proofs.YtgfdfabeninfeaaGreatW.PrintWords Go.Proofs.YtgfdfabeninfeaaGreatW.PrintLast Go.Proofs.YtgfdfabeninfeaaGreatW.PrintMore
attribute [local go_sem] max2_int min2_int max_two min_two max_three min_three max_four min_four
set_option linter.unusedVariables false
set_option linter.unusedSimpArgs false
def spec_FirstSolution.f (k : Nat) (a0_0 : Int) (l0_1 : List (S67)) : Option (Int × (List (List Int)) × Bool) := (spec_pzGood.f k a0_0 l0_1).bind fun t179 => (if t179 = true then ((spec_pzAll.f k a0_0 l0_1).bind fun t180 => (if (t180.length : Int) = 0 then (some (0, ([] : List (List Int)), false)) else (if 0 < (t180.length : Int) then (some ((rd_T28 t180 0).f0, (rd_T28 t180 0).f1, true)) else (none)))) else (some (0, ([] : List (List Int)), false)))
set_option maxHeartbeats 8000000 in
set_option maxRecDepth 100000 in
theorem spec_FirstSolution.calls (k : Nat) (a0_0 : Int) (A0_1 : Option Addr) (c0_1 : Nat) (l0_1 : List (S67)) (r1 : Int) (r2 : List (List Int)) (r3 : Bool) (w : World) (hr0_1 : Kd.C k67 w A0_1 l0_1.length l0_1) (hc0_1 : l0_1.length ≤ c0_1) (h : spec_FirstSolution.f k a0_0 l0_1 = some (r1, r2, r3)) :
  Calls Tryz.prog 8 #[.agg #[.int .i64 a0_0, .slice A0_1 l0_1.length c0_1]] w fun e w' => ∃ v1_ : Value, e = .returned (.tuple #[.agg #[.int .i64 r1, v1_], .bool r3]) ∧ Kd.V (Kd.slice 3 (Kd.int .i64)) 59 w' w.heap.size (fun k_ => (w.heap.size ≤ k_)) v1_ r2 ∧ Below w.heap.size w w' := by
 have hu33 := Tryz.underlying33
 have hu28 := Tryz.underlying28
 have HR0_1 := Aside0.mk hr0_1
 have HC0_1 := Aside0.mk hc0_1
 clear hr0_1 hc0_1
 have HB := Aside0.mk (Below.refl w.heap.size w)
 have H : ((spec_pzGood.f k a0_0 l0_1).bind fun t179 => (if t179 = true then ((spec_pzAll.f k a0_0 l0_1).bind fun t180 => (if (t180.length : Int) = 0 then (some (0, ([] : List (List Int)), false)) else (if 0 < (t180.length : Int) then (some ((rd_T28 t180 0).f0, (rd_T28 t180 0).f1, true)) else (none)))) else (some (0, ([] : List (List Int)), false)))) = some (r1, r2, r3) := h
 clear h
 replace H := Option.bind_eq_some_iff.mp H
 obtain ⟨t179, A20, H⟩ := H
 replace H : (if t179 = true then ((spec_pzAll.f k a0_0 l0_1).bind fun t180 => (if (t180.length : Int) = 0 then (some (0, ([] : List (List Int)), false)) else (if 0 < (t180.length : Int) then (some ((rd_T28 t180 0).f0, (rd_T28 t180 0).f1, true)) else (none)))) else (some (0, ([] : List (List Int)), false))) = some (r1, r2, r3) := H
 have A2 := Aside0.mk A20
 clear A20
 by_cases c3 : t179 = true
 rotate_left
 ·replace c3 := Bool.eq_false_iff.mpr c3
  subst c3
  have H1 : (some (0, ([] : List (List Int)), false)) = some (r1, r2, r3) := by rw [if_neg (show ¬ (false = true) by decide)] at H; exact H
  clear H
  have H := H1
  clear H1
  simp only [Option.some.injEq, Prod.mk.injEq] at H
  obtain ⟨rfl, rfl, rfl⟩ := H
  go_enter Tryz.func8, Tryz.ntmps8
  go_wp2_with (first | ((with_reducible refine gate_dst (N := 1) rfl ?_); refine box_event ?hg (N := 1) ?hd (cs := #[.int .i64 a0_0, .slice A0_1 l0_1.length c0_1]) (t := 33) ?hr ?_; (case hd => rfl); (case hg => rfl); (case hr => first | (go_simp; done) | (go_simp; rfl)); intro gb177 hg w25 hbox hb; have n2_ := Aside0.mk ((by rw [hg]; exact (below_size (zh HB.out)) : w.heap.size ≤ gb177)); replace HB := Aside0.mk (below_step (zh HB.out) hb); have BK177 := Aside0.mk hbox; have GW177 := n2_; have GE177 := n2_; clear n2_ hb hbox hg) | ((with_reducible refine gate_dst (N := 2) rfl ?_); refine box_event ?hg (N := 2) ?hd (cs := #[.int .i64 0, .slice none 0 0]) (t := 28) ?hr ?_; (case hd => rfl); (case hg => rfl); (case hr => first | (go_simp; done) | (go_simp; rfl)); intro gb178 hg w26 hbox hb; have n0_ := Aside0.mk (blk_below (g := gb177) (o := .cells #[.int .i64 a0_0, .slice A0_1 l0_1.length c0_1] 33 (0, 0)) (zb BK177.out) hb); have n1_ := Aside0.mk (below_step (zh HB.out) hb); have n2_ := Aside0.mk (hbox); have n3_ := Aside0.mk ((by rw [hg]; exact (below_size (zh HB.out)) : w.heap.size ≤ gb178)); have n4_ := Aside0.mk ((by rw [hg]; exact (below_size (zh HB.out)) : w.heap.size ≤ gb178)); have n5_ := Aside0.mk ((by rw [hg]; exact Nat.ne_of_lt (blk_lt (g := gb177) (o := .cells #[.int .i64 a0_0, .slice A0_1 l0_1.length c0_1] 33 (0, 0)) (zb BK177.out)) : gb177 ≠ gb178)); have n6_ := Aside0.mk ((by rw [hg]; exact Nat.ne_of_gt (blk_lt (g := gb177) (o := .cells #[.int .i64 a0_0, .slice A0_1 l0_1.length c0_1] 33 (0, 0)) (zb BK177.out)) : gb178 ≠ gb177)); clear BK177; clear HB; have BK177 := n0_; have HB := n1_; have BK178 := n2_; have GW178 := n3_; have GE178 := n4_; have NB177_178 := n5_; have NB178_177 := n6_; clear n0_ n1_ n2_ n3_ n4_ n5_ n6_; clear hb hbox hg; have hnb27 := NB177_178.out; have hnc27 := NB178_177.out; have hcz28_0 : w26.cell? ⟨gb177, 0, none⟩ = some (.int .i64 a0_0) := (blk_cell BK177.out 0).trans rfl; have hcz28_1 : w26.cell? ⟨gb177, 1, none⟩ = some (.slice A0_1 l0_1.length c0_1) := (blk_cell BK177.out 1).trans rfl; have hfz28_0 := blk_frozen BK177.out 0; have hfz28_1 := blk_frozen BK177.out 1) | ((with_reducible refine gate_callee (f := 30) rfl ?_); refine goesL_ (some 6) rfl rfl Tryz.func30 (by kernel_rfl) rfl #[.agg #[.int .i64 a0_0, .slice A0_1 l0_1.length c0_1]] rfl (by (try simp only [List.map_toArray, List.map_cons, List.map_nil]); first | done | rfl | (simp only [List.length_drop, List.length_take]; rfl)) ?_; (with_reducible refine (spec_pzGood.calls k a0_0 _ _ l0_1 false _ ?side1 ?side2 A2.out).mono ?_); (case side1 => repeat (first | exact (Kd.C_below HR0_1.out HB.out) | (with_reducible refine Kd.C_alloc ?_ _) | (with_reducible refine Kd.C_drewN ?_ _) | (with_reducible refine Kd.C_drew ?_))); (case side2 => exact HC0_1.out); rintro e w29 ⟨rfl, hb⟩; refine ⟨_, rfl, ?_⟩; have n0_ := Aside0.mk (blk_below (g := gb177) (o := .cells #[.int .i64 a0_0, .slice A0_1 l0_1.length c0_1] 33 (0, 0)) (zb BK177.out) hb); have n1_ := Aside0.mk (blk_below (g := gb178) (o := .cells #[.int .i64 0, .slice none 0 0] 28 (0, 0)) (zb BK178.out) hb); have n2_ := Aside0.mk (below_step (zh HB.out) hb); clear BK177; clear BK178; clear HB; have BK177 := n0_; have BK178 := n1_; have HB := n2_; clear n0_ n1_ n2_; (try clear hb); (try clear hb2); (try clear hk); (try clear hi); have hcz30_0 : w29.cell? ⟨gb178, 0, none⟩ = some (.int .i64 0) := (blk_cell BK178.out 0).trans rfl; have hcz30_1 : w29.cell? ⟨gb178, 1, none⟩ = some (.slice none 0 0) := (blk_cell BK178.out 1).trans rfl; have hfz30_0 := blk_frozen BK178.out 0; have hfz30_1 := blk_frozen BK178.out 1))
  refine bodyPost_ret (results_ct rfl _ _ gb178 28 #[.int .i64 0, .slice none 0 0] (0, 0) _ rfl (by (with_reducible repeat (first | refine blk_drewN ?_ _ | refine blk_drew ?_ | refine blk_alloc ?_ _)); refine blk_put (cs := #[.int .i64 0, .slice none 0 0]) ?_ 1 _ rfl; (with_reducible repeat (first | refine blk_drewN ?_ _ | refine blk_drew ?_ | refine blk_alloc ?_ _)); refine blk_put (cs := #[.int .i64 0, .slice none 0 0]) ?_ 0 _ rfl; (with_reducible repeat (first | refine blk_drewN ?_ _ | refine blk_drew ?_ | refine blk_alloc ?_ _)); exact BK178.out) Tryz.underlying28 rfl (by kernel_rfl)) rfl ?_
  exact ⟨_, by first | rfl | (simp [*, errW_none, errW_some] <;> rfl), (Kd.V_nil _ _ _ _ _), zh HB.out⟩
 subst c3
 have H1 : ((spec_pzAll.f k a0_0 l0_1).bind fun t180 => (if (t180.length : Int) = 0 then (some (0, ([] : List (List Int)), false)) else (if 0 < (t180.length : Int) then (some ((rd_T28 t180 0).f0, (rd_T28 t180 0).f1, true)) else (none)))) = some (r1, r2, r3) := by rw [if_pos rfl] at H; exact H
 clear H
 have H := H1
 clear H1
 replace H := Option.bind_eq_some_iff.mp H
 obtain ⟨t180, A40, H⟩ := H
 replace H : (if (t180.length : Int) = 0 then (some (0, ([] : List (List Int)), false)) else (if 0 < (t180.length : Int) then (some ((rd_T28 t180 0).f0, (rd_T28 t180 0).f1, true)) else (none))) = some (r1, r2, r3) := H
 have A4 := Aside0.mk A40
 clear A40
 by_cases c5 : (t180.length : Int) = 0
 ·rw [if_pos c5] at H
  have c5b0 : ((t180.length : Int) == 0) = true := beq_iff_eq.mpr c5
  have c5b1 : ((t180.length : Int) != 0) = false := bne_eq_false_iff_eq.mpr c5
  clear c5
  simp only [Option.some.injEq, Prod.mk.injEq] at H
  obtain ⟨rfl, rfl, rfl⟩ := H
  go_enter Tryz.func8, Tryz.ntmps8
  go_wp2_with (first | ((with_reducible refine gate_dst (N := 1) rfl ?_); refine box_event ?hg (N := 1) ?hd (cs := #[.int .i64 a0_0, .slice A0_1 l0_1.length c0_1]) (t := 33) ?hr ?_; (case hd => rfl); (case hg => rfl); (case hr => first | (go_simp; done) | (go_simp; rfl)); intro gb177 hg w6 hbox hb; have n2_ := Aside0.mk ((by rw [hg]; exact (below_size (zh HB.out)) : w.heap.size ≤ gb177)); replace HB := Aside0.mk (below_step (zh HB.out) hb); have BK177 := Aside0.mk hbox; have GW177 := n2_; have GE177 := n2_; clear n2_ hb hbox hg) | ((with_reducible refine gate_dst (N := 2) rfl ?_); refine box_event ?hg (N := 2) ?hd (cs := #[.int .i64 0, .slice none 0 0]) (t := 28) ?hr ?_; (case hd => rfl); (case hg => rfl); (case hr => first | (go_simp; done) | (go_simp; rfl)); intro gb178 hg w7 hbox hb; have n0_ := Aside0.mk (blk_below (g := gb177) (o := .cells #[.int .i64 a0_0, .slice A0_1 l0_1.length c0_1] 33 (0, 0)) (zb BK177.out) hb); have n1_ := Aside0.mk (below_step (zh HB.out) hb); have n2_ := Aside0.mk (hbox); have n3_ := Aside0.mk ((by rw [hg]; exact (below_size (zh HB.out)) : w.heap.size ≤ gb178)); have n4_ := Aside0.mk ((by rw [hg]; exact (below_size (zh HB.out)) : w.heap.size ≤ gb178)); have n5_ := Aside0.mk ((by rw [hg]; exact Nat.ne_of_lt (blk_lt (g := gb177) (o := .cells #[.int .i64 a0_0, .slice A0_1 l0_1.length c0_1] 33 (0, 0)) (zb BK177.out)) : gb177 ≠ gb178)); have n6_ := Aside0.mk ((by rw [hg]; exact Nat.ne_of_gt (blk_lt (g := gb177) (o := .cells #[.int .i64 a0_0, .slice A0_1 l0_1.length c0_1] 33 (0, 0)) (zb BK177.out)) : gb178 ≠ gb177)); clear BK177; clear HB; have BK177 := n0_; have HB := n1_; have BK178 := n2_; have GW178 := n3_; have GE178 := n4_; have NB177_178 := n5_; have NB178_177 := n6_; clear n0_ n1_ n2_ n3_ n4_ n5_ n6_; clear hb hbox hg; have hnb8 := NB177_178.out; have hnc8 := NB178_177.out; have hcz9_0 : w7.cell? ⟨gb177, 0, none⟩ = some (.int .i64 a0_0) := (blk_cell BK177.out 0).trans rfl; have hcz9_1 : w7.cell? ⟨gb177, 1, none⟩ = some (.slice A0_1 l0_1.length c0_1) := (blk_cell BK177.out 1).trans rfl; have hfz9_0 := blk_frozen BK177.out 0; have hfz9_1 := blk_frozen BK177.out 1) | ((with_reducible refine gate_callee (f := 30) rfl ?_); refine goesL_ (some 6) rfl rfl Tryz.func30 (by kernel_rfl) rfl #[.agg #[.int .i64 a0_0, .slice A0_1 l0_1.length c0_1]] rfl (by (try simp only [List.map_toArray, List.map_cons, List.map_nil]); first | done | rfl | (simp only [List.length_drop, List.length_take]; rfl)) ?_; (with_reducible refine (spec_pzGood.calls k a0_0 _ _ l0_1 true _ ?side1 ?side2 A2.out).mono ?_); (case side1 => repeat (first | exact (Kd.C_below HR0_1.out HB.out) | (with_reducible refine Kd.C_alloc ?_ _) | (with_reducible refine Kd.C_drewN ?_ _) | (with_reducible refine Kd.C_drew ?_))); (case side2 => exact HC0_1.out); rintro e w10 ⟨rfl, hb⟩; refine ⟨_, rfl, ?_⟩; have n0_ := Aside0.mk (blk_below (g := gb177) (o := .cells #[.int .i64 a0_0, .slice A0_1 l0_1.length c0_1] 33 (0, 0)) (zb BK177.out) hb); have n1_ := Aside0.mk (blk_below (g := gb178) (o := .cells #[.int .i64 0, .slice none 0 0] 28 (0, 0)) (zb BK178.out) hb); have n2_ := Aside0.mk (below_step (zh HB.out) hb); clear BK177; clear BK178; clear HB; have BK177 := n0_; have BK178 := n1_; have HB := n2_; clear n0_ n1_ n2_; (try clear hb); (try clear hb2); (try clear hk); (try clear hi); have hcz11_0 : w10.cell? ⟨gb177, 0, none⟩ = some (.int .i64 a0_0) := (blk_cell BK177.out 0).trans rfl; have hcz11_1 : w10.cell? ⟨gb177, 1, none⟩ = some (.slice A0_1 l0_1.length c0_1) := (blk_cell BK177.out 1).trans rfl; have hfz11_0 := blk_frozen BK177.out 0; have hfz11_1 := blk_frozen BK177.out 1) | ((with_reducible refine gate_callee (f := 31) rfl ?_); refine goesL_ (some 13) rfl rfl Tryz.func31 (by kernel_rfl) rfl #[.int .i64 a0_0, .slice A0_1 l0_1.length c0_1] rfl (by (try simp only [List.map_toArray, List.map_cons, List.map_nil]); first | done | rfl | (simp only [List.length_drop, List.length_take]; rfl)) ?_; (with_reducible refine (spec_pzAll.calls k a0_0 _ _ l0_1 t180 _ ?side1 ?side2 A4.out).mono ?_); (case side1 => repeat (first | exact (Kd.C_below HR0_1.out HB.out) | (with_reducible refine Kd.C_alloc ?_ _) | (with_reducible refine Kd.C_drewN ?_ _) | (with_reducible refine Kd.C_drew ?_))); (case side2 => exact HC0_1.out); rintro e w12 ⟨v181, rfl, ho0, hb⟩; refine ⟨_, rfl, ?_⟩; have n0_ := Aside0.mk (Kd.V_lower (Kd.V_mono (ok' := fun k_ => (w.heap.size ≤ k_) ∧ k_ ≠ gb177 ∧ k_ ≠ gb178) ho0 (fun k_ hk_ => ⟨(Nat.le_trans (below_size (zh HB.out)) hk_), (Kd.freshB (g := gb177) (o := .cells #[.int .i64 a0_0, .slice A0_1 l0_1.length c0_1] 33 (0, 0)) (zb BK177.out) k_ hk_), (Kd.freshB (g := gb178) (o := .cells #[.int .i64 0, .slice none 0 0] 28 (0, 0)) (zb BK178.out) k_ hk_)⟩)) (below_size (zh HB.out))); have n1_ := Aside0.mk (blk_below (g := gb177) (o := .cells #[.int .i64 a0_0, .slice A0_1 l0_1.length c0_1] 33 (0, 0)) (zb BK177.out) hb); have n2_ := Aside0.mk (blk_below (g := gb178) (o := .cells #[.int .i64 0, .slice none 0 0] 28 (0, 0)) (zb BK178.out) hb); have n3_ := Aside0.mk (below_step (zh HB.out) hb); clear BK177; clear BK178; clear HB; have HO182 := n0_; have BK177 := n1_; have BK178 := n2_; have HB := n3_; clear n0_ n1_ n2_ n3_; (try clear hb); (try clear hb2); (try clear hk); (try clear hi); (try clear ho0); obtain ⟨Ao13, co13, eo13⟩ := Kd.V_slice HO182.out; subst eo13; have hcz14_0 : w12.cell? ⟨gb178, 0, none⟩ = some (.int .i64 0) := (blk_cell BK178.out 0).trans rfl; have hcz14_1 : w12.cell? ⟨gb178, 1, none⟩ = some (.slice none 0 0) := (blk_cell BK178.out 1).trans rfl; have hfz14_0 := blk_frozen BK178.out 0; have hfz14_1 := blk_frozen BK178.out 1))
  refine bodyPost_ret (results_ct rfl _ _ gb178 28 #[.int .i64 0, .slice none 0 0] (0, 0) _ rfl (by (with_reducible repeat (first | refine blk_drewN ?_ _ | refine blk_drew ?_ | refine blk_alloc ?_ _)); refine blk_put (cs := #[.int .i64 0, .slice none 0 0]) ?_ 1 _ rfl; (with_reducible repeat (first | refine blk_drewN ?_ _ | refine blk_drew ?_ | refine blk_alloc ?_ _)); refine blk_put (cs := #[.int .i64 0, .slice none 0 0]) ?_ 0 _ rfl; (with_reducible repeat (first | refine blk_drewN ?_ _ | refine blk_drew ?_ | refine blk_alloc ?_ _)); exact BK178.out) Tryz.underlying28 rfl (by kernel_rfl)) rfl ?_
  exact ⟨_, by first | rfl | (simp [*, errW_none, errW_some] <;> rfl), (Kd.V_nil _ _ _ _ _), zh HB.out⟩
 rw [if_neg c5] at H
 have c5b0 : ((t180.length : Int) == 0) = false := beq_eq_false_iff_ne.mpr c5
 have c5b1 : ((t180.length : Int) != 0) = true := bne_iff_ne.mpr c5
 have c5b2 : ¬ (t180 = []) := fun h_ => c5 (by rw [h_]; rfl)
 by_cases c15 : 0 < (t180.length : Int)
 rotate_left
 ·rw [if_neg c15] at H
  exact absurd H (by simp)
 rw [if_pos c15] at H
 have c15b0 : decide (0 < (t180.length : Int)) = true := decide_eq_true c15
 have c15b1 : decide (0 < t180.length) = true := decide_eq_true (by omega)
 clear c15
 simp only [Option.some.injEq, Prod.mk.injEq] at H
 obtain ⟨rfl, rfl, rfl⟩ := H
 go_enter Tryz.func8, Tryz.ntmps8
 go_wp2_with (first | ((with_reducible refine gate_dst (N := 1) rfl ?_); refine box_event ?hg (N := 1) ?hd (cs := #[.int .i64 a0_0, .slice A0_1 l0_1.length c0_1]) (t := 33) ?hr ?_; (case hd => rfl); (case hg => rfl); (case hr => first | (go_simp; done) | (go_simp; rfl)); intro gb177 hg w16 hbox hb; have n2_ := Aside0.mk ((by rw [hg]; exact (below_size (zh HB.out)) : w.heap.size ≤ gb177)); replace HB := Aside0.mk (below_step (zh HB.out) hb); have BK177 := Aside0.mk hbox; have GW177 := n2_; have GE177 := n2_; clear n2_ hb hbox hg) | ((with_reducible refine gate_dst (N := 2) rfl ?_); refine box_event ?hg (N := 2) ?hd (cs := #[.int .i64 0, .slice none 0 0]) (t := 28) ?hr ?_; (case hd => rfl); (case hg => rfl); (case hr => first | (go_simp; done) | (go_simp; rfl)); intro gb178 hg w17 hbox hb; have n0_ := Aside0.mk (blk_below (g := gb177) (o := .cells #[.int .i64 a0_0, .slice A0_1 l0_1.length c0_1] 33 (0, 0)) (zb BK177.out) hb); have n1_ := Aside0.mk (below_step (zh HB.out) hb); have n2_ := Aside0.mk (hbox); have n3_ := Aside0.mk ((by rw [hg]; exact (below_size (zh HB.out)) : w.heap.size ≤ gb178)); have n4_ := Aside0.mk ((by rw [hg]; exact (below_size (zh HB.out)) : w.heap.size ≤ gb178)); have n5_ := Aside0.mk ((by rw [hg]; exact Nat.ne_of_lt (blk_lt (g := gb177) (o := .cells #[.int .i64 a0_0, .slice A0_1 l0_1.length c0_1] 33 (0, 0)) (zb BK177.out)) : gb177 ≠ gb178)); have n6_ := Aside0.mk ((by rw [hg]; exact Nat.ne_of_gt (blk_lt (g := gb177) (o := .cells #[.int .i64 a0_0, .slice A0_1 l0_1.length c0_1] 33 (0, 0)) (zb BK177.out)) : gb178 ≠ gb177)); clear BK177; clear HB; have BK177 := n0_; have HB := n1_; have BK178 := n2_; have GW178 := n3_; have GE178 := n4_; have NB177_178 := n5_; have NB178_177 := n6_; clear n0_ n1_ n2_ n3_ n4_ n5_ n6_; clear hb hbox hg; have hnb18 := NB177_178.out; have hnc18 := NB178_177.out; have hcz19_0 : w17.cell? ⟨gb177, 0, none⟩ = some (.int .i64 a0_0) := (blk_cell BK177.out 0).trans rfl; have hcz19_1 : w17.cell? ⟨gb177, 1, none⟩ = some (.slice A0_1 l0_1.length c0_1) := (blk_cell BK177.out 1).trans rfl; have hfz19_0 := blk_frozen BK177.out 0; have hfz19_1 := blk_frozen BK177.out 1) | ((with_reducible refine gate_callee (f := 30) rfl ?_); refine goesL_ (some 6) rfl rfl Tryz.func30 (by kernel_rfl) rfl #[.agg #[.int .i64 a0_0, .slice A0_1 l0_1.length c0_1]] rfl (by (try simp only [List.map_toArray, List.map_cons, List.map_nil]); first | done | rfl | (simp only [List.length_drop, List.length_take]; rfl)) ?_; (with_reducible refine (spec_pzGood.calls k a0_0 _ _ l0_1 true _ ?side1 ?side2 A2.out).mono ?_); (case side1 => repeat (first | exact (Kd.C_below HR0_1.out HB.out) | (with_reducible refine Kd.C_alloc ?_ _) | (with_reducible refine Kd.C_drewN ?_ _) | (with_reducible refine Kd.C_drew ?_))); (case side2 => exact HC0_1.out); rintro e w20 ⟨rfl, hb⟩; refine ⟨_, rfl, ?_⟩; have n0_ := Aside0.mk (blk_below (g := gb177) (o := .cells #[.int .i64 a0_0, .slice A0_1 l0_1.length c0_1] 33 (0, 0)) (zb BK177.out) hb); have n1_ := Aside0.mk (blk_below (g := gb178) (o := .cells #[.int .i64 0, .slice none 0 0] 28 (0, 0)) (zb BK178.out) hb); have n2_ := Aside0.mk (below_step (zh HB.out) hb); clear BK177; clear BK178; clear HB; have BK177 := n0_; have BK178 := n1_; have HB := n2_; clear n0_ n1_ n2_; (try clear hb); (try clear hb2); (try clear hk); (try clear hi); have hcz21_0 : w20.cell? ⟨gb177, 0, none⟩ = some (.int .i64 a0_0) := (blk_cell BK177.out 0).trans rfl; have hcz21_1 : w20.cell? ⟨gb177, 1, none⟩ = some (.slice A0_1 l0_1.length c0_1) := (blk_cell BK177.out 1).trans rfl; have hfz21_0 := blk_frozen BK177.out 0; have hfz21_1 := blk_frozen BK177.out 1) | ((with_reducible refine gate_callee (f := 31) rfl ?_); refine goesL_ (some 13) rfl rfl Tryz.func31 (by kernel_rfl) rfl #[.int .i64 a0_0, .slice A0_1 l0_1.length c0_1] rfl (by (try simp only [List.map_toArray, List.map_cons, List.map_nil]); first | done | rfl | (simp only [List.length_drop, List.length_take]; rfl)) ?_; (with_reducible refine (spec_pzAll.calls k a0_0 _ _ l0_1 t180 _ ?side1 ?side2 A4.out).mono ?_); (case side1 => repeat (first | exact (Kd.C_below HR0_1.out HB.out) | (with_reducible refine Kd.C_alloc ?_ _) | (with_reducible refine Kd.C_drewN ?_ _) | (with_reducible refine Kd.C_drew ?_))); (case side2 => exact HC0_1.out); rintro e w22 ⟨v181, rfl, ho0, hb⟩; refine ⟨_, rfl, ?_⟩; have n0_ := Aside0.mk (Kd.V_lower (Kd.V_mono (ok' := fun k_ => (w.heap.size ≤ k_) ∧ k_ ≠ gb177 ∧ k_ ≠ gb178) ho0 (fun k_ hk_ => ⟨(Nat.le_trans (below_size (zh HB.out)) hk_), (Kd.freshB (g := gb177) (o := .cells #[.int .i64 a0_0, .slice A0_1 l0_1.length c0_1] 33 (0, 0)) (zb BK177.out) k_ hk_), (Kd.freshB (g := gb178) (o := .cells #[.int .i64 0, .slice none 0 0] 28 (0, 0)) (zb BK178.out) k_ hk_)⟩)) (below_size (zh HB.out))); have n1_ := Aside0.mk (blk_below (g := gb177) (o := .cells #[.int .i64 a0_0, .slice A0_1 l0_1.length c0_1] 33 (0, 0)) (zb BK177.out) hb); have n2_ := Aside0.mk (blk_below (g := gb178) (o := .cells #[.int .i64 0, .slice none 0 0] 28 (0, 0)) (zb BK178.out) hb); have n3_ := Aside0.mk (below_step (zh HB.out) hb); clear BK177; clear BK178; clear HB; have HO182 := n0_; have BK177 := n1_; have BK178 := n2_; have HB := n3_; clear n0_ n1_ n2_ n3_; (try clear hb); (try clear hb2); (try clear hk); (try clear hi); (try clear ho0); obtain ⟨Ao23, co23, eo23⟩ := Kd.V_slice HO182.out; subst eo23; have p183 : 0 ≤ (0 : Int) := (by omega); have q183 : 0 < (t180.length : Int) := of_decide_eq_true (by first | (with_reducible assumption) | assumption); obtain ⟨ad183, A183_1, c183_1, e183, hx183_0, hx183_1, hl183_1, hi183_1⟩ := at_T28 (Kd.V_reads' HO182.out).2.2 0 p183 q183; cases e183; obtain ⟨ce183, hce183, hMe183, hcc183⟩ := Kd.V_get HO182.out z28 0 p183 (by first | exact q183 | exact of_decide_eq_true (by first | (with_reducible assumption) | assumption) | (have e_ := (Kd.V_reads' HO182.out).1; omega)); obtain ⟨ua183_1, uc183_1, rfl, ul183_1, ge183_1⟩ := k28_openF hMe183; have hv183_1 := hcc183 1 _ rfl; rw [add_field _ _ 1 (by omega)] at hv183_1; replace hv183_1 := Option.some.inj (hv183_1.symm.trans hx183_1); injection hv183_1 with hva_ hvn_ hvc_; rw [hva_] at ge183_1; rw [hvc_] at ul183_1; have HL183_1 := Aside0.mk (show Kd.V (Kd.slice 3 (Kd.int .i64)) 59 _ w.heap.size _ _ ((rd_T28 t180 0).f1) from Kd.V_mk ul183_1 ge183_1); clear hva_ hvn_ hvc_ ge183_1 ul183_1; clear hcc183 hce183; have qi183 : (0 < t180.length) = True := eq_true (by omega); (try rw [show ((0 : Int)).toNat = 0 from rfl] at hx183_0); (try rw [show 0 * 2 = 0 from rfl] at hx183_0); (try rw [Addr.add_zero'] at hx183_0); (try rw [show ((0 : Int)).toNat = 0 from rfl] at hx183_1); (try rw [show 0 * 2 = 0 from rfl] at hx183_1); (try rw [Addr.add_zero'] at hx183_1); have HR183_1 := Aside0.mk hi183_1; have HC183_1 := Aside0.mk hl183_1; clear hi183_1 hl183_1; replace p183 := eq_true p183; replace q183 := eq_true q183; have hcz24_0 : w22.cell? ⟨gb178, 0, none⟩ = some (.int .i64 0) := (blk_cell BK178.out 0).trans rfl; have hcz24_1 : w22.cell? ⟨gb178, 1, none⟩ = some (.slice none 0 0) := (blk_cell BK178.out 1).trans rfl; have hfz24_0 := blk_frozen BK178.out 0; have hfz24_1 := blk_frozen BK178.out 1))
 refine bodyPost_ret (results_ct rfl _ _ gb178 28 #[.int .i64 ((rd_T28 t180 0).f0), .slice A183_1 ((rd_T28 t180 0).f1).length c183_1] (0, 0) _ rfl (by (with_reducible repeat (first | refine blk_drewN ?_ _ | refine blk_drew ?_ | refine blk_alloc ?_ _)); refine blk_put (cs := #[.int .i64 ((rd_T28 t180 0).f0), .slice none 0 0]) ?_ 1 _ rfl; (with_reducible repeat (first | refine blk_drewN ?_ _ | refine blk_drew ?_ | refine blk_alloc ?_ _)); refine blk_put (cs := #[.int .i64 0, .slice none 0 0]) ?_ 0 _ rfl; (with_reducible repeat (first | refine blk_drewN ?_ _ | refine blk_drew ?_ | refine blk_alloc ?_ _)); exact BK178.out) Tryz.underlying28 rfl (by kernel_rfl)) rfl ?_
 exact ⟨_, by first | rfl | (simp [*, errW_none, errW_some] <;> rfl), by (with_reducible repeat (first | apply Kd.V_alloc | apply Kd.V_drewN | apply Kd.V_drew)); exact Kd.V_mono (Kd.V_far (p := ⟨gb178, 1, none⟩) (Kd.V_far (p := ⟨gb178, 0, none⟩) (Kd.V_mono HL183_1.out (fun k_ hk => (⟨hk, hk.2.2⟩ : _ ∧ k_ ≠ gb178))) (fun _ hk => hk.2) (.int .i64 ((rd_T28 t180 0).f0))) (fun _ hk => hk.2) (.slice A183_1 ((rd_T28 t180 0).f1).length c183_1)) (fun _ hk => hk.1.1), zh HB.out⟩
end Go.Proofs.YtgfdfabeninfeaaGreat.Q
end
section
namespace Go.Proofs.YtgfdfabeninfeaaGreat.Q
open Go.RowKit Go.Proofs.YtgfdfabeninfeaaGreatW.PrintWords Go.Proofs.YtgfdfabeninfeaaGreatW.PrintLast Go.Proofs.YtgfdfabeninfeaaGreatW.PrintMore
set_option linter.unusedVariables false
set_option linter.unusedSimpArgs false
theorem stHeldFirstSolution (k : Nat) {B : Option Addr} {d n : Nat} {y : List (List Int)} (a q : Int) (W : World) (h : n = y.length ∧ n ≤ d ∧ Kd.C (Kd.slice 3 (Kd.int .i64)) W B y.length y) (h2 : laws_heldGame.f k a y 1 = some q) :
    Calls Tryz.prog 15 #[.agg #[.int .i64 a, .slice B n d], .int .i64 1] W fun e w' => e = .returned (.int .i64 q) ∧ Below W.heap.size W w' := by
  obtain ⟨rfl, h1, hC⟩ := h
  exact laws_heldGame.calls k a B d y 1 q W hC h1 h2
def laws_FnExactFirstSolution.f (k : Nat) (a : Int) (l : List (S74)) : Option Bool :=
  (laws_szPuzzle.f a l 1048576).bind fun q => if q < 0 then some true else (laws_toPuzzle.f k a l).bind fun p => (spec_FirstSolution.f k p.1 p.2).bind fun s => (impl_FirstSolution.f k p.1 p.2).bind fun g => (laws_eqGame.f k g.1 g.2.1 s.1 s.2.1).bind fun t => if t = true then (if g.2.2 = s.2.2 then (laws_eqPuzzle.f k p.1 p.2 p.1 p.2).bind fun e => if e = true then (laws_markPuzzle.f k p.1 p.2 1).bind fun x => if x.1 < 0 then none else (laws_markIntSS.f k g.2.1 1).bind fun n => (laws_heldGame.f k g.1 n.2 1).bind fun q => if q < 0 then none else if q = n.1 then some true else none else none else none) else none
set_option maxRecDepth 100000 in
set_option maxHeartbeats 8000000 in
theorem laws_FnExactFirstSolution_walk (k : Nat) (a : Int) (A : Option Addr) (c : Nat) (l : List (S74)) (r : Bool) (w : World) (hC0 : Kd.C k74 w A l.length l) (hc : l.length ≤ c) (h : laws_FnExactFirstSolution.f k a l = some r) :
    Calls Tryz.prog 3 #[.agg #[.int .i64 a, .slice A l.length c]] w fun e w' => e = .returned (.bool r) ∧ Below w.heap.size w w' := by
  have HC := Aside0.mk hC0
  have u1 := Tryz.underlying24
  have u2 := Tryz.underlying33
  have u3 := Tryz.underlying28
  clear hC0
  replace h := Option.bind_eq_some_iff.mp h
  obtain ⟨q0, hq0, h⟩ := h
  have HQ0 := Aside0.mk hq0
  clear hq0
  by_cases c0 : q0 < 0
  · rw [if_pos c0] at h
    obtain rfl := Option.some.inj h
    have c0b : decide (q0 < 0) = true := decide_eq_true c0
    clear h
    go_enter Tryz.func3, Tryz.ntmps3
    go_wp2_with (go_at_call 7; refine (laws_szPuzzle.calls a A c l 1048576 q0 _ ?hC hc HQ0.out).mono ?_; (case hC => exact Kd.C_alloc HC.out _); rintro e u1_ ⟨rfl, hb⟩; have BA := Aside0.mk (blk_below (blk_new w (.cells #[.int .i64 a, .slice A l.length c] 24 (0, 0))) hb); have HB0 := Aside0.mk (((Below.refl w.heap.size w).alloc (Nat.le_refl _) (.cells #[.int .i64 a, .slice A l.length c] 24 (0, 0))).trans (hb.mono (by simp))); clear hb; have hA0 := (blk_cell BA.out 0).trans rfl; have hA1 := (blk_cell BA.out 1).trans rfl)
    go_ret
    exact ⟨rfl, HB0.out⟩
  rw [if_neg c0] at h
  have c0b : decide (q0 < 0) = false := decide_eq_false c0
  replace h := Option.bind_eq_some_iff.mp h
  obtain ⟨⟨m, p⟩, hp, h⟩ := h
  replace h := Option.bind_eq_some_iff.mp h
  obtain ⟨⟨si, s, sb⟩, hs, h⟩ := h
  replace h := Option.bind_eq_some_iff.mp h
  obtain ⟨⟨gi, g, gb⟩, hg, h⟩ := h
  replace h := Option.bind_eq_some_iff.mp h
  obtain ⟨t, ht, h⟩ := h
  dsimp only at hs hg ht h
  by_cases c1 : t = true
  case neg => rw [if_neg c1] at h; cases h
  rw [if_pos c1] at h
  subst c1
  by_cases c2 : gb = sb
  case neg => rw [if_neg c2] at h; cases h
  rw [if_pos c2] at h
  subst c2
  replace h := Option.bind_eq_some_iff.mp h
  obtain ⟨t, hep, h⟩ := h
  by_cases c1 : t = true
  case neg => rw [if_neg c1] at h; cases h
  rw [if_pos c1] at h
  subst c1
  replace h := Option.bind_eq_some_iff.mp h
  obtain ⟨⟨x1, xm⟩, hx, h⟩ := h
  dsimp only at hep hx h
  by_cases c3 : x1 < 0
  case pos => rw [if_pos c3] at h; cases h
  rw [if_neg c3] at h
  have c3b : decide (x1 < 0) = false := decide_eq_false c3
  replace h := Option.bind_eq_some_iff.mp h
  obtain ⟨⟨n1, nm⟩, hn, h⟩ := h
  replace h := Option.bind_eq_some_iff.mp h
  obtain ⟨q, hh, h⟩ := h
  dsimp only at hn hh h
  by_cases c4 : q < 0
  case pos => rw [if_pos c4] at h; cases h
  rw [if_neg c4] at h
  have c4b : decide (q < 0) = false := decide_eq_false c4
  by_cases c5 : q = n1
  case neg => rw [if_neg c5] at h; cases h
  rw [if_pos c5] at h
  subst c5
  obtain rfl := Option.some.inj h
  have gg : (gb != gb) = false := by simp
  have HP := Aside0.mk hp
  have HS := Aside0.mk hs
  have HG := Aside0.mk hg
  have HT := Aside0.mk ht
  have HE := Aside0.mk hep
  have HX := Aside0.mk hx
  have HN := Aside0.mk hn
  have HH := Aside0.mk hh
  clear h hp hs hg ht hep hx hn hh
  go_enter Tryz.func3, Tryz.ntmps3
  go_wp2_with (go_at_call 7; refine (laws_szPuzzle.calls a A c l 1048576 q0 _ ?hC hc HQ0.out).mono ?_; (case hC => exact Kd.C_alloc HC.out _); rintro e u1_ ⟨rfl, hb⟩; have BA := Aside0.mk (blk_below (blk_new w (.cells #[.int .i64 a, .slice A l.length c] 24 (0, 0))) hb); have HB0 := Aside0.mk (((Below.refl w.heap.size w).alloc (Nat.le_refl _) (.cells #[.int .i64 a, .slice A l.length c] 24 (0, 0))).trans (hb.mono (by simp))); clear hb; have hA0 := (blk_cell BA.out 0).trans rfl; have hA1 := (blk_cell BA.out 1).trans rfl)
  go_wp2_with (go_at_call 9; refine (laws_toPuzzle.calls k a A c l m p _ (Kd.C_below HC.out HB0.out) hc HP.out).mono ?_; rintro e u2_ ⟨v, rfl, hR, hb⟩; obtain ⟨D, d, rfl⟩ := Kd.R_slice hR; have HD := Aside0.mk (Kd.R_reads' hR); clear hR; have nBA_ := Aside0.mk (blk_below BA.out hb); have nHB0_ := Aside0.mk (HB0.out.trans (hb.mono HB0.out.size)); clear hA0 hA1; clear BA HB0; have BA := nBA_; have HB0 := nHB0_; clear hb nBA_ nHB0_; have hA0 := (blk_cell BA.out 0).trans rfl; have hA1 := (blk_cell BA.out 1).trans rfl)
  go_wp2_with (go_at_call 8; refine (spec_FirstSolution.calls k m D d p si s gb _ HD.out.2.2 HD.out.2.1 HS.out).mono ?_; rintro e w1 ⟨v, rfl, hV, hb⟩; obtain ⟨As, cs, rfl⟩ := Kd.V_slice hV; have HW := Aside0.mk (Kd.V_reads' hV); clear HD hV; have nBA_ := Aside0.mk (blk_below BA.out hb); have nHB0_ := Aside0.mk (HB0.out.trans (hb.mono HB0.out.size)); clear hA0 hA1; clear BA HB0; have BA := nBA_; have HB0 := nHB0_; clear hb nBA_ nHB0_; have hA0 := (blk_cell BA.out 0).trans rfl; have hA1 := (blk_cell BA.out 1).trans rfl; have HA := Aside0.mk (blk_lt BA.out); have HCA := Aside0.mk (Kd.C_below HC.out HB0.out); have nBA_ := Aside0.mk (blk_alloc BA.out (.cells #[.int .i64 si, .slice As s.length cs] 28 (0, 0))); clear BA; have BA := nBA_; clear nBA_ hA0 hA1; have BW := Aside0.mk (blk_new w1 (.cells #[.int .i64 si, .slice As s.length cs] 28 (0, 0))); have hA0 := (blk_cell BA.out 0).trans rfl; have hA1 := (blk_cell BA.out 1).trans rfl; have hW0 := (blk_cell BW.out 0).trans rfl; have hW1 := (blk_cell BW.out 1).trans rfl)
  go_wp2_with (go_at_call 9; refine (laws_toPuzzle.calls k a A c l m p _ (Kd.C_alloc HCA.out _) hc HP.out).mono ?_; rintro e w2 ⟨v, rfl, hR, hb⟩; obtain ⟨X, cx, rfl⟩ := Kd.R_slice hR; have HX0 := Aside0.mk hR; have B1 := Aside0.mk (((Below.refl w1.heap.size w1).alloc (Nat.le_refl _) (.cells #[.int .i64 si, .slice As s.length cs] 28 (0, 0))).trans (hb.mono (by simp))); have HZ0 := Aside0.mk (show w1.heap.size + 1 ≤ w2.heap.size from Nat.le_trans (by simp) hb.size); have nBA_ := Aside0.mk (blk_alloc (blk_below BA.out hb) (.cells #[.int .i64 m, .slice X p.length cx] 33 (0, 0))); have nBW_ := Aside0.mk (blk_alloc (blk_below BW.out hb) (.cells #[.int .i64 m, .slice X p.length cx] 33 (0, 0))); clear hA0 hA1 hW0 hW1; clear BA BW hb hR; have BA := nBA_; have BW := nBW_; clear nBA_ nBW_; have BX := Aside0.mk (blk_new w2 (.cells #[.int .i64 m, .slice X p.length cx] 33 (0, 0))); have hA0 := (blk_cell BA.out 0).trans rfl; have hA1 := (blk_cell BA.out 1).trans rfl; have hW0 := (blk_cell BW.out 0).trans rfl; have hW1 := (blk_cell BW.out 1).trans rfl; have hX0 := (blk_cell BX.out 0).trans rfl; have hX1 := (blk_cell BX.out 1).trans rfl)
  go_wp2_with (go_at_call 10; refine (impl_FirstSolutionS.calls k m X cx p gi g gb _ (Kd.C_alloc (Kd.R_reads' HX0.out).2.2 _) (Kd.R_reads' HX0.out).2.1 HG.out).mono ?_; rintro e w3 ⟨v, rfl, hS, hb⟩; obtain ⟨G, cg, rfl⟩ := Kd.S_slice hS; have nHX0_ := Aside0.mk (Kd.R_alloc (Kd.R_below (Kd.R_mono (Kd.R_bound (Kd.R_alloc HX0.out (.cells #[.int .i64 m, .slice X p.length cx] 33 (0, 0)))) (ok' := fun z => z < w2.heap.size + 1 ∧ w1.heap.size + 1 ≤ z) (fun z hz => ⟨Nat.lt_of_lt_of_le hz.2.2.1 (by simp), Nat.le_trans (by simp) hz.2.1⟩)) hb) (.cells #[.int .i64 gi, .slice G g.length cg] 28 (0, 0))); have HG0 := Aside0.mk (Kd.S_alloc (Kd.S_mono (Kd.S_bound hS) (ok' := fun z => w2.heap.size + 1 ≤ z ∧ z < w3.heap.size) (fun z hz => ⟨Nat.le_trans (by simp) hz.2.1, hz.2.2.1⟩)) (.cells #[.int .i64 gi, .slice G g.length cg] 28 (0, 0))); have nB1_ := Aside0.mk (((B1.out.alloc B1.out.size (.cells #[.int .i64 m, .slice X p.length cx] 33 (0, 0))).trans (hb.mono (Nat.le_trans B1.out.size (by simp)))).alloc (Nat.le_trans B1.out.size (Nat.le_trans (by simp) hb.size)) (.cells #[.int .i64 gi, .slice G g.length cg] 28 (0, 0))); have HZ := Aside0.mk (show w2.heap.size + 1 ≤ w3.heap.size from Nat.le_trans (by simp) hb.size); have nBA_ := Aside0.mk (blk_alloc (blk_below BA.out hb) (.cells #[.int .i64 gi, .slice G g.length cg] 28 (0, 0))); have nBW_ := Aside0.mk (blk_alloc (blk_below BW.out hb) (.cells #[.int .i64 gi, .slice G g.length cg] 28 (0, 0))); have nBX_ := Aside0.mk (blk_alloc (blk_below BX.out hb) (.cells #[.int .i64 gi, .slice G g.length cg] 28 (0, 0))); clear hA0 hA1 hW0 hW1 hX0 hX1; clear BA BW BX HX0 B1 hb hS; have BA := nBA_; have BW := nBW_; have BX := nBX_; have HX0 := nHX0_; have B1 := nB1_; clear nBA_ nBW_ nBX_ nHX0_ nB1_; have BG := Aside0.mk (blk_new w3 (.cells #[.int .i64 gi, .slice G g.length cg] 28 (0, 0))); have hA0 := (blk_cell BA.out 0).trans rfl; have hA1 := (blk_cell BA.out 1).trans rfl; have hW0 := (blk_cell BW.out 0).trans rfl; have hW1 := (blk_cell BW.out 1).trans rfl; have hX0 := (blk_cell BX.out 0).trans rfl; have hX1 := (blk_cell BX.out 1).trans rfl; have hG0 := (blk_cell BG.out 0).trans rfl; have hG1 := (blk_cell BG.out 1).trans rfl)
  go_wp2_with (go_at_call 11; refine (laws_eqGame.calls k gi G cg g si As cs s true _ (Kd.S_reads' HG0.out).2.2 (Kd.S_reads' HG0.out).2.1 (Kd.C_below HW.out.2.2 B1.out) HW.out.2.1 HT.out).mono ?_; rintro e w4 ⟨rfl, hb⟩; have nBA_ := Aside0.mk (blk_below BA.out hb); have nBW_ := Aside0.mk (blk_below BW.out hb); have nBX_ := Aside0.mk (blk_below BX.out hb); have nBG_ := Aside0.mk (blk_below BG.out hb); have nHX0_ := Aside0.mk (Kd.R_below HX0.out hb); have nHG0_ := Aside0.mk (Kd.S_below HG0.out hb); have nB1_ := Aside0.mk (B1.out.trans (hb.mono B1.out.size)); clear hA0 hA1 hW0 hW1 hX0 hX1 hG0 hG1; clear BA BW BX BG HX0 HG0 B1; have BA := nBA_; have BW := nBW_; have BX := nBX_; have BG := nBG_; have HX0 := nHX0_; have HG0 := nHG0_; have B1 := nB1_; clear hb nBA_ nBW_ nBX_ nBG_ nHX0_ nHG0_ nB1_; have hA0 := (blk_cell BA.out 0).trans rfl; have hA1 := (blk_cell BA.out 1).trans rfl; have hW0 := (blk_cell BW.out 0).trans rfl; have hW1 := (blk_cell BW.out 1).trans rfl; have hX0 := (blk_cell BX.out 0).trans rfl; have hX1 := (blk_cell BX.out 1).trans rfl; have hG0 := (blk_cell BG.out 0).trans rfl; have hG1 := (blk_cell BG.out 1).trans rfl)
  refine start_ (n := 5) (S := fun w' => w'.cell? ⟨w2.heap.size, 0, none⟩ = some (.int .i64 m) ∧ w'.cell? ⟨w2.heap.size, 1, none⟩ = some (.slice X p.length cx) ∧ w'.cell? ⟨w.heap.size, 0, none⟩ = some (.int .i64 a) ∧ w'.cell? ⟨w.heap.size, 1, none⟩ = some (.slice A l.length c)) (ds := []) #[false, false, false, false, false] (by kernel_rfl) rfl rfl ⟨(blk_cell (blk_drew BX.out) 0).trans rfl, (blk_cell (blk_drew BX.out) 1).trans rfl, (blk_cell (blk_drew BA.out) 0).trans rfl, (blk_cell (blk_drew BA.out) 1).trans rfl⟩ (fun hHeld => ?_)
  have hb : Below w4.heap.size w4 w4.drew := (Below.refl _ w4).drew
  generalize w4.drew = w5 at hb hHeld ⊢
  have nBA_ := Aside0.mk (blk_below BA.out hb)
  have nBW_ := Aside0.mk (blk_below BW.out hb)
  have nBX_ := Aside0.mk (blk_below BX.out hb)
  have nBG_ := Aside0.mk (blk_below BG.out hb)
  have nHX0_ := Aside0.mk (Kd.R_below HX0.out hb)
  have nHG0_ := Aside0.mk (Kd.S_below HG0.out hb)
  have nB1_ := Aside0.mk (B1.out.trans (hb.mono B1.out.size))
  clear hA0 hA1 hW0 hW1 hX0 hX1 hG0 hG1
  clear BA BW BX BG HX0 HG0 B1
  have BA := nBA_
  have BW := nBW_
  have BX := nBX_
  have BG := nBG_
  have HX0 := nHX0_
  have HG0 := nHG0_
  have B1 := nB1_
  clear hb nBA_ nBW_ nBX_ nBG_ nHX0_ nHG0_ nB1_
  have hA0 := (blk_cell BA.out 0).trans rfl
  have hA1 := (blk_cell BA.out 1).trans rfl
  have hW0 := (blk_cell BW.out 0).trans rfl
  have hW1 := (blk_cell BW.out 1).trans rfl
  have hX0 := (blk_cell BX.out 0).trans rfl
  have hX1 := (blk_cell BX.out 1).trans rfl
  have hG0 := (blk_cell BG.out 0).trans rfl
  have hG1 := (blk_cell BG.out 1).trans rfl
  refine take_ (i := 0) (N := some 41) (v := ?_) (a' := ?_) #[true, false, false, false, false] rfl rfl (by kernel_rfl) (fun _ _ _ h => h) (Or.inl ⟨by rfl, ?_⟩) hHeld ?_ ?_
  rotate_left
  · rintro w' ⟨s0, s1, s2, s3⟩
    go_simp
    with_reducible rfl
  rotate_left
  · simp only [Act.put, List.setIfInBounds_toArray, List.set_cons_zero, List.set_cons_succ, i64_w, i32_w]
    rfl
  refine take_ (i := 1) (N := some 42) (v := ?_) (a' := ?_) #[true, true, false, false, false] rfl rfl (by kernel_rfl) (fun _ _ _ h => h) (Or.inl ⟨by rfl, ?_⟩) hHeld ?_ ?_
  rotate_left
  · rintro w' ⟨s0, s1, s2, s3⟩
    go_simp
    with_reducible rfl
  rotate_left
  · simp only [Act.put, List.setIfInBounds_toArray, List.set_cons_zero, List.set_cons_succ, i64_w, i32_w]
    rfl
  refine one_ (i := 2) (N := some 43) #[true, true, true, false, false] rfl rfl (by kernel_rfl) (by decide) (fun K hK => ?_)
  refine goes_ Tryz.func9 (by kernel_rfl) rfl #[.agg #[.int .i64 a, .slice A l.length c]] (by rfl) rfl rfl (by (try simp only [List.map_toArray, List.map_cons, List.map_nil]); first | done | rfl) ?_
  refine (laws_toPuzzle.calls k a A c l m p _ (Kd.C_below HCA.out B1.out) hc HP.out).mono ?_
  rintro e w6 ⟨v, rfl, hD, hb⟩
  refine ⟨_, rfl, ?_⟩
  obtain ⟨D, d, rfl⟩ := Kd.R_slice hD
  have HD := Aside0.mk (Kd.R_reads' hD)
  clear hD
  have nBA_ := Aside0.mk (blk_below BA.out hb)
  have nBW_ := Aside0.mk (blk_below BW.out hb)
  have nBX_ := Aside0.mk (blk_below BX.out hb)
  have nBG_ := Aside0.mk (blk_below BG.out hb)
  have nHX0_ := Aside0.mk (Kd.R_below HX0.out hb)
  have nHG0_ := Aside0.mk (Kd.S_below HG0.out hb)
  have nB1_ := Aside0.mk (B1.out.trans (hb.mono B1.out.size))
  clear hA0 hA1 hW0 hW1 hX0 hX1 hG0 hG1
  clear BA BW BX BG HX0 HG0 B1
  have BA := nBA_
  have BW := nBW_
  have BX := nBX_
  have BG := nBG_
  have HX0 := nHX0_
  have HG0 := nHG0_
  have B1 := nB1_
  clear hb nBA_ nBW_ nBX_ nBG_ nHX0_ nHG0_ nB1_
  have hA0 := (blk_cell BA.out 0).trans rfl
  have hA1 := (blk_cell BA.out 1).trans rfl
  have hW0 := (blk_cell BW.out 0).trans rfl
  have hW1 := (blk_cell BW.out 1).trans rfl
  have hX0 := (blk_cell BX.out 0).trans rfl
  have hX1 := (blk_cell BX.out 1).trans rfl
  have hG0 := (blk_cell BG.out 0).trans rfl
  have hG1 := (blk_cell BG.out 1).trans rfl
  refine hK.out _ _ ⟨(blk_cell BX.out 0).trans rfl, (blk_cell BX.out 1).trans rfl, (blk_cell BA.out 0).trans rfl, (blk_cell BA.out 1).trans rfl⟩ (fun hHeld => ?_)
  clear hK K
  refine norm_ (a' := ?_) ?_ ?_
  rotate_left
  · show Act.put _ (some 43) _ = _
    simp only [Act.put, List.setIfInBounds_toArray, List.set_cons_zero, List.set_cons_succ, i64_w, i32_w]
    rfl
  refine one_ (i := 3) (N := some 44) #[true, true, true, true, false] rfl rfl (by kernel_rfl) (by decide) (fun K hK => ?_)
  refine goes_ Tryz.func12 (by kernel_rfl) rfl #[.agg #[.int .i64 m, .slice X p.length cx], .agg #[.int .i64 m, .slice D p.length d]] (by rfl) rfl rfl (by (try simp only [List.map_toArray, List.map_cons, List.map_nil]); first | done | rfl) ?_
  refine (laws_eqPuzzle.calls k m X cx p m D d p true _ (Kd.R_reads' HX0.out).2.2 (Kd.R_reads' HX0.out).2.1 HD.out.2.2 HD.out.2.1 HE.out).mono ?_
  rintro e w7 ⟨rfl, hb⟩
  refine ⟨_, rfl, ?_⟩
  clear HD
  have nBA_ := Aside0.mk (blk_below BA.out hb)
  have nBW_ := Aside0.mk (blk_below BW.out hb)
  have nBX_ := Aside0.mk (blk_below BX.out hb)
  have nBG_ := Aside0.mk (blk_below BG.out hb)
  have nHX0_ := Aside0.mk (Kd.R_below HX0.out hb)
  have nHG0_ := Aside0.mk (Kd.S_below HG0.out hb)
  have nB1_ := Aside0.mk (B1.out.trans (hb.mono B1.out.size))
  clear hA0 hA1 hW0 hW1 hX0 hX1 hG0 hG1
  clear BA BW BX BG HX0 HG0 B1
  have BA := nBA_
  have BW := nBW_
  have BX := nBX_
  have BG := nBG_
  have HX0 := nHX0_
  have HG0 := nHG0_
  have B1 := nB1_
  clear hb nBA_ nBW_ nBX_ nBG_ nHX0_ nHG0_ nB1_
  have hA0 := (blk_cell BA.out 0).trans rfl
  have hA1 := (blk_cell BA.out 1).trans rfl
  have hW0 := (blk_cell BW.out 0).trans rfl
  have hW1 := (blk_cell BW.out 1).trans rfl
  have hX0 := (blk_cell BX.out 0).trans rfl
  have hX1 := (blk_cell BX.out 1).trans rfl
  have hG0 := (blk_cell BG.out 0).trans rfl
  have hG1 := (blk_cell BG.out 1).trans rfl
  refine hK.out _ _ ⟨(blk_cell BX.out 0).trans rfl, (blk_cell BX.out 1).trans rfl, (blk_cell BA.out 0).trans rfl, (blk_cell BA.out 1).trans rfl⟩ (fun hHeld => ?_)
  clear hK K
  refine norm_ (a' := ?_) ?_ ?_
  rotate_left
  · show Act.put _ (some 44) _ = _
    simp only [Act.put, List.setIfInBounds_toArray, List.set_cons_zero, List.set_cons_succ, i64_w, i32_w]
    rfl
  refine pure_ (i := 4) (N := some 45) (v := ?_) (a' := ?_) #[true, true, true, true, true] rfl rfl (by kernel_rfl) (fun _ _ _ h => h) (Or.inl ⟨by rfl, ?_⟩) ?_ ?_
  rotate_left
  · intro w'
    go_simp
    with_reducible rfl
  rotate_left
  · simp only [Act.put, List.setIfInBounds_toArray, List.set_cons_zero, List.set_cons_succ, i64_w, i32_w]
    rfl
  refine done_ (by kernel_rfl) ?_
  clear hHeld
  go_wp2_with (go_at_call 13; refine (laws_markPuzzle.calls k m (fun z => z < w2.heap.size + 1 ∧ w1.heap.size + 1 ≤ z) _ p 1 x1 xm w1 _ B1.out (Kd.R_lower (Kd.R_mono HX0.out (fun _ hz => hz)) (by first | exact (Nat.le_refl _) | simp)) HX.out).mono ?_; rintro e w8 ⟨rfl, -, hb, hk⟩; have nHG0_ := Aside0.mk (Kd.S_step HG0.out (fun z hz hlt => hk.2 z hlt (fun h => absurd h.1 (Nat.not_lt.2 hz.1)))); have nBA_ := Aside0.mk ((hk.2 _ (blk_lt BA.out) (fun hz => absurd (Nat.lt_of_lt_of_le HA.out (Nat.le_trans (Nat.le_succ _) hz.2)) (Nat.lt_irrefl _))).trans BA.out); have nBW_ := Aside0.mk ((hk.2 _ (blk_lt BW.out) (fun hz => absurd hz.2 (Nat.not_succ_le_self _))).trans BW.out); have nBG_ := Aside0.mk ((hk.2 _ (blk_lt BG.out) (fun hz => absurd (Nat.lt_of_lt_of_le hz.1 HZ.out) (Nat.lt_irrefl _))).trans BG.out); clear hA0 hA1 hW0 hW1 hX0 hX1 hG0 hG1; clear BA BW BX BG HX0 HG0 B1; have BA := nBA_; have BW := nBW_; have BG := nBG_; have HG0 := nHG0_; have B1 := Aside0.mk hb; clear nBA_ nBW_ nBG_ nHG0_ hb hk; have hA0 := (blk_cell BA.out 0).trans rfl; have hA1 := (blk_cell BA.out 1).trans rfl; have hW0 := (blk_cell BW.out 0).trans rfl; have hW1 := (blk_cell BW.out 1).trans rfl; have hG0 := (blk_cell BG.out 0).trans rfl; have hG1 := (blk_cell BG.out 1).trans rfl)
  go_wp2_with (go_at_call 11; refine (laws_eqGame.calls k gi G cg g si As cs s true _ (Kd.S_reads' HG0.out).2.2 (Kd.S_reads' HG0.out).2.1 (Kd.C_below HW.out.2.2 B1.out) HW.out.2.1 HT.out).mono ?_; rintro e w9 ⟨rfl, hb⟩; have nBA_ := Aside0.mk (blk_below BA.out hb); have nBW_ := Aside0.mk (blk_below BW.out hb); have nBG_ := Aside0.mk (blk_below BG.out hb); have nHG0_ := Aside0.mk (Kd.S_below HG0.out hb); have nB1_ := Aside0.mk (B1.out.trans (hb.mono B1.out.size)); clear hA0 hA1 hW0 hW1 hG0 hG1; clear BA BW BG HG0 B1; have BA := nBA_; have BW := nBW_; have BG := nBG_; have HG0 := nHG0_; have B1 := nB1_; clear hb nBA_ nBW_ nBG_ nHG0_ nB1_; have hA0 := (blk_cell BA.out 0).trans rfl; have hA1 := (blk_cell BA.out 1).trans rfl; have hW0 := (blk_cell BW.out 0).trans rfl; have hW1 := (blk_cell BW.out 1).trans rfl; have hG0 := (blk_cell BG.out 0).trans rfl; have hG1 := (blk_cell BG.out 1).trans rfl)
  go_wp2_with (go_at_call 14; refine (laws_markGame.calls k gi G cg g 1 q nm (fun z => w2.heap.size + 1 ≤ z ∧ z < w3.heap.size) w1 _ B1.out (Kd.S_lower HG0.out (Nat.le_trans (Nat.le_succ _) (Nat.le_trans HZ0.out (by simp)))) HN.out).mono ?_; rintro e w10 ⟨rfl, hS, -, hb, hk⟩; have HM := Aside0.mk (Kd.S_reads' hS); have nBA_ := Aside0.mk ((hk.2 _ (blk_lt BA.out) (fun hz => absurd (Nat.lt_of_lt_of_le HA.out (Nat.le_trans (Nat.le_succ _) (Nat.le_trans HZ0.out (Nat.le_trans (Nat.le_succ _) hz.1)))) (Nat.lt_irrefl _))).trans BA.out); have nBW_ := Aside0.mk ((hk.2 _ (blk_lt BW.out) (fun hz => absurd (Nat.le_trans HZ0.out (Nat.le_trans (Nat.le_succ _) hz.1)) (Nat.not_succ_le_self _))).trans BW.out); have nBG_ := Aside0.mk ((hk.2 _ (blk_lt BG.out) (fun hz => absurd hz.2 (Nat.lt_irrefl _))).trans BG.out); clear hA0 hA1 hW0 hW1 hG0 hG1; clear BA BW BG HG0 B1; have BA := nBA_; have BW := nBW_; have BG := nBG_; have B1 := Aside0.mk hb; clear nBA_ nBW_ nBG_ hb hk hS; have hA0 := (blk_cell BA.out 0).trans rfl; have hA1 := (blk_cell BA.out 1).trans rfl; have hW0 := (blk_cell BW.out 0).trans rfl; have hW1 := (blk_cell BW.out 1).trans rfl; have hG0 := (blk_cell BG.out 0).trans rfl; have hG1 := (blk_cell BG.out 1).trans rfl)
  go_wp2_with (go_at_call 15; refine (stHeldFirstSolution k gi q _ HM.out HH.out).mono ?_; rintro e w11 ⟨rfl, hb⟩; have nBA_ := Aside0.mk (blk_below BA.out hb); have nBW_ := Aside0.mk (blk_below BW.out hb); have nBG_ := Aside0.mk (blk_below BG.out hb); have nHM_ := Aside0.mk (And.intro HM.out.1 (And.intro HM.out.2.1 (Kd.C_below HM.out.2.2 hb))); have nB1_ := Aside0.mk (B1.out.trans (hb.mono B1.out.size)); clear hA0 hA1 hW0 hW1 hG0 hG1; clear BA BW BG HM B1; have BA := nBA_; have BW := nBW_; have BG := nBG_; have HM := nHM_; have B1 := nB1_; clear hb nBA_ nBW_ nBG_ nHM_ nB1_; have hA0 := (blk_cell BA.out 0).trans rfl; have hA1 := (blk_cell BA.out 1).trans rfl; have hW0 := (blk_cell BW.out 0).trans rfl; have hW1 := (blk_cell BW.out 1).trans rfl; have hG0 := (blk_cell BG.out 0).trans rfl; have hG1 := (blk_cell BG.out 1).trans rfl)
  go_wp2_with (go_at_call 9; refine (laws_toPuzzle.calls k a A c l m p _ (Kd.C_below HCA.out B1.out) hc HP.out).mono ?_; rintro e w12 ⟨v, rfl, hR, hb⟩; obtain ⟨D, d, rfl⟩ := Kd.R_slice hR; have HD := Aside0.mk (Kd.R_reads' hR); clear hR; have nBA_ := Aside0.mk (blk_below BA.out hb); have nBW_ := Aside0.mk (blk_below BW.out hb); have nBG_ := Aside0.mk (blk_below BG.out hb); have nHM_ := Aside0.mk (And.intro HM.out.1 (And.intro HM.out.2.1 (Kd.C_below HM.out.2.2 hb))); have nB1_ := Aside0.mk (B1.out.trans (hb.mono B1.out.size)); clear hA0 hA1 hW0 hW1 hG0 hG1; clear BA BW BG HM B1; have BA := nBA_; have BW := nBW_; have BG := nBG_; have HM := nHM_; have B1 := nB1_; clear hb nBA_ nBW_ nBG_ nHM_ nB1_; have hA0 := (blk_cell BA.out 0).trans rfl; have hA1 := (blk_cell BA.out 1).trans rfl; have hW0 := (blk_cell BW.out 0).trans rfl; have hW1 := (blk_cell BW.out 1).trans rfl; have hG0 := (blk_cell BG.out 0).trans rfl; have hG1 := (blk_cell BG.out 1).trans rfl)
  go_wp2_with (go_at_call 10; refine (impl_FirstSolutionS.calls k m D d p gi g gb _ HD.out.2.2 HD.out.2.1 HG.out).mono ?_; rintro e w13 ⟨v, rfl, hR, hb⟩; obtain ⟨E, f, rfl⟩ := Kd.S_slice hR; clear HD; have HD := Aside0.mk (And.intro (Kd.S_reads' hR).1 (And.intro (Kd.S_reads' hR).2.1 (Kd.C_alloc (Kd.S_reads' hR).2.2 (.cells #[.int .i64 gi, .slice E g.length f] 28 (0, 0))))); clear hR; have nBA_ := Aside0.mk (blk_alloc (blk_below BA.out hb) (.cells #[.int .i64 gi, .slice E g.length f] 28 (0, 0))); have nBW_ := Aside0.mk (blk_alloc (blk_below BW.out hb) (.cells #[.int .i64 gi, .slice E g.length f] 28 (0, 0))); have nBG_ := Aside0.mk (blk_alloc (blk_below BG.out hb) (.cells #[.int .i64 gi, .slice E g.length f] 28 (0, 0))); have nHM_ := Aside0.mk (And.intro HM.out.1 (And.intro HM.out.2.1 (Kd.C_alloc (Kd.C_below HM.out.2.2 hb) (.cells #[.int .i64 gi, .slice E g.length f] 28 (0, 0))))); have nB1_ := Aside0.mk ((B1.out.trans (hb.mono B1.out.size)).alloc (Nat.le_trans B1.out.size hb.size) (.cells #[.int .i64 gi, .slice E g.length f] 28 (0, 0))); clear hA0 hA1 hW0 hW1 hG0 hG1; clear BA BW BG HM B1 hb; have BA := nBA_; have BW := nBW_; have BG := nBG_; have HM := nHM_; have B1 := nB1_; clear nBA_ nBW_ nBG_ nHM_ nB1_; have BH := Aside0.mk (blk_new w13 (.cells #[.int .i64 gi, .slice E g.length f] 28 (0, 0))); have hA0 := (blk_cell BA.out 0).trans rfl; have hA1 := (blk_cell BA.out 1).trans rfl; have hW0 := (blk_cell BW.out 0).trans rfl; have hW1 := (blk_cell BW.out 1).trans rfl; have hG0 := (blk_cell BG.out 0).trans rfl; have hG1 := (blk_cell BG.out 1).trans rfl; have hH0 := (blk_cell BH.out 0).trans rfl; have hH1 := (blk_cell BH.out 1).trans rfl)
  go_wp2_with (go_at_call 11; refine (laws_eqGame.calls k gi E f g si As cs s true _ HD.out.2.2 HD.out.2.1 (Kd.C_below HW.out.2.2 B1.out) HW.out.2.1 HT.out).mono ?_; rintro e w14 ⟨rfl, hb⟩; clear HD; have nBA_ := Aside0.mk (blk_below BA.out hb); have nBW_ := Aside0.mk (blk_below BW.out hb); have nBG_ := Aside0.mk (blk_below BG.out hb); have nBH_ := Aside0.mk (blk_below BH.out hb); have nHM_ := Aside0.mk (And.intro HM.out.1 (And.intro HM.out.2.1 (Kd.C_below HM.out.2.2 hb))); have nB1_ := Aside0.mk (B1.out.trans (hb.mono B1.out.size)); clear hA0 hA1 hW0 hW1 hG0 hG1 hH0 hH1; clear BA BW BG BH HM B1; have BA := nBA_; have BW := nBW_; have BG := nBG_; have BH := nBH_; have HM := nHM_; have B1 := nB1_; clear hb nBA_ nBW_ nBG_ nBH_ nHM_ nB1_; have hA0 := (blk_cell BA.out 0).trans rfl; have hA1 := (blk_cell BA.out 1).trans rfl; have hW0 := (blk_cell BW.out 0).trans rfl; have hW1 := (blk_cell BW.out 1).trans rfl; have hG0 := (blk_cell BG.out 0).trans rfl; have hG1 := (blk_cell BG.out 1).trans rfl; have hH0 := (blk_cell BH.out 0).trans rfl; have hH1 := (blk_cell BH.out 1).trans rfl)
  go_wp2_with (go_at_call 15; refine (stHeldFirstSolution k gi q _ HM.out HH.out).mono ?_; rintro e w15 ⟨rfl, hb⟩; have nBA_ := Aside0.mk (blk_below BA.out hb); have nBW_ := Aside0.mk (blk_below BW.out hb); have nBG_ := Aside0.mk (blk_below BG.out hb); have nBH_ := Aside0.mk (blk_below BH.out hb); have nHM_ := Aside0.mk (And.intro HM.out.1 (And.intro HM.out.2.1 (Kd.C_below HM.out.2.2 hb))); have nB1_ := Aside0.mk (B1.out.trans (hb.mono B1.out.size)); clear hA0 hA1 hW0 hW1 hG0 hG1 hH0 hH1; clear BA BW BG BH HM B1; have BA := nBA_; have BW := nBW_; have BG := nBG_; have BH := nBH_; have HM := nHM_; have B1 := nB1_; clear hb nBA_ nBW_ nBG_ nBH_ nHM_ nB1_; have hA0 := (blk_cell BA.out 0).trans rfl; have hA1 := (blk_cell BA.out 1).trans rfl; have hW0 := (blk_cell BW.out 0).trans rfl; have hW1 := (blk_cell BW.out 1).trans rfl; have hG0 := (blk_cell BG.out 0).trans rfl; have hG1 := (blk_cell BG.out 1).trans rfl; have hH0 := (blk_cell BH.out 0).trans rfl; have hH1 := (blk_cell BH.out 1).trans rfl)
  go_ret
  exact ⟨rfl, HB0.out.trans (B1.out.mono HB0.out.size)⟩
theorem laws_FnExactFirstSolution.calls (k : Nat) (a0_0 : Int) (A0_1 : Option Addr) (c0_1 : Nat) (l0_1 : List (S74)) (r : Bool) (w : World) (hr0_1 : Kd.C k74 w A0_1 l0_1.length l0_1) (hc0_1 : l0_1.length ≤ c0_1) (h : laws_FnExactFirstSolution.f k a0_0 l0_1 = some r) :
    Calls Tryz.prog 3 #[.agg #[.int .i64 a0_0, .slice A0_1 l0_1.length c0_1]] w fun e w' => e = .returned (.bool r) ∧ Below w.heap.size w w' := by
  exact laws_FnExactFirstSolution_walk k a0_0 A0_1 c0_1 l0_1 r w hr0_1 hc0_1 h
end Go.Proofs.YtgfdfabeninfeaaGreat.Q
end
section
namespace Go.Proofs.YtgfdfabeninfeaaGreat.Q
open Go.RowKit Go.Proofs.YtgfdfabeninfeaaGreatW.PrintWords Go.Proofs.YtgfdfabeninfeaaGreatW.PrintLast Go.Proofs.YtgfdfabeninfeaaGreatW.PrintMore
set_option linter.unusedVariables false
set_option linter.unusedSimpArgs false
open Go.ChangeShapes Go.WideShapes Go.ChangeAt Go.Deep
section
variable {H : Type} {enc : TypeId × Value → H} {P : Program} {W : World} {α β γ : Type}
def Opens (enc : TypeId × Value → H) (P : Program) (W : World) (t : TypeId) (d : Kd α) (G : α → Prop) : Prop :=
  ∀ (fuel : Nat) (cs : List Value) (y : DataW H × List MemPlace), DataW.trod enc P W 0 (fun _ => true) true fuel t cs = some y → ∃ x, d.K W x cs ∧ G x
def I64 (x : Int) : Prop := -9223372036854775808 ≤ x ∧ x ≤ 9223372036854775807
theorem opens_int {t : TypeId} (ht : P.underlying t = some (.int .i64)) : Opens enc P W t (Kd.int .i64) I64 := by
  intro fuel cs y h
  obtain ⟨n, rfl, _, hw⟩ := DataW.trod_int ht h
  exact ⟨n, rfl, Go.bounds_i64 hw⟩
theorem opens_slice [Inhabited α] {t e : TypeId} {d : Kd α} {G : α → Prop} (ht : P.underlying t = some (.slice e)) (he : P.cellsOf e = d.sz) (h : Opens enc P W e d G) :
    Opens enc P W t (Kd.slice e d) (fun xs => ∀ x ∈ xs, G x) := by
  intro fuel cs y hr
  rcases Deep.open_slice ht hr with ⟨rfl, _⟩ | ⟨a, len, cap, m, n, D, Pl, rfl, _, hlc, hcm, hm, _, hel⟩
  · exact ⟨[], ⟨none, 0, rfl, Nat.le_refl _, rfl, by simp, fun hp => absurd hp (by simp)⟩, fun x hx => by cases hx⟩
  · have hm' : len ≤ m := by rw [hm]; simp; omega
    have key : ∀ i, i < len → ∃ x, (∃ cs', d.K W x cs' ∧ ∀ j u, cs'[j]? = some u → W.cell? (a.add (i * d.sz + j)) = some u) ∧ G x := by
      intro i hi
      obtain ⟨cs', h1, h2⟩ := hel i (by omega)
      obtain ⟨x, hx, hG⟩ := h _ _ _ h2
      obtain ⟨_, hl, hc⟩ := World.cells?_some h1
      refine ⟨x, ⟨cs', hx, fun j u hu => ?_⟩, hG⟩
      have hj : j < P.cellsOf e := by rw [← hl]; exact (List.getElem?_eq_some_iff.1 hu).1
      have h3 := hc j hj
      rw [Deep.add_add, he] at h3
      rw [h3, hu]
    obtain ⟨f, hf⟩ := Deep.choose_lt key
    have hlen : ((List.range len).map f).length = len := by simp
    refine ⟨(List.range len).map f, ⟨some a, cap, by rw [hlen], by rw [hlen]; exact hlc, rfl, ?_, fun _ => ⟨a, rfl, fun j p hj => ?_⟩⟩, fun x hx => ?_⟩
    · rw [hlen]; unfold maxLen at hcm; omega
    · obtain ⟨hj1, hj2⟩ := List.getElem?_eq_some_iff.1 hj
      have hjl : j < len := by rw [hlen] at hj1; exact hj1
      have : p = f j := by rw [← hj2]; simp
      subst this
      obtain ⟨⟨cs', hK, hc⟩, _⟩ := hf j hjl
      exact ⟨cs', d.K_len hK, hK, hc⟩
    · obtain ⟨i, hi, rfl⟩ := List.mem_map.1 hx
      exact (hf i (List.mem_range.1 hi)).2
theorem opens_pair {t : TypeId} {f0 f1 : Field} {d0 : Kd α} {d1 : Kd β} {G0 : α → Prop} {G1 : β → Prop} (ht : P.underlying t = some (.struct #[f0, f1])) (hC : P.cellsOf t = d0.sz + d1.sz)
    (o0 : f0.offset = 0) (o1 : f1.offset = d0.sz) (c0 : P.cellsOf f0.type = d0.sz) (c1 : P.cellsOf f1.type = d1.sz) (h0 : Opens enc P W f0.type d0 G0) (h1 : Opens enc P W f1.type d1 G1) :
    Opens enc P W t (Kd.pair d0 d1) (fun x => G0 x.1 ∧ G1 x.2) := by
  intro fuel cs y hr
  obtain ⟨y0, y1, n, _, hl, r0, r1⟩ := trod_struct2 ht hr
  rw [o0, c0] at r0
  rw [o1, c1] at r1
  obtain ⟨x0, k0, g0⟩ := h0 _ _ _ r0
  obtain ⟨x1, k1, g1⟩ := h1 _ _ _ r1
  refine ⟨(x0, x1), ⟨_, _, ?_, k0, k1⟩, g0, g1⟩
  rw [List.drop_zero, List.take_of_length_le (l := cs.drop d0.sz) (by rw [List.length_drop, hl, hC]; omega), List.take_append_drop]
theorem opens_triple {t : TypeId} {f0 f1 f2 : Field} {d0 : Kd α} {d1 : Kd β} {d2 : Kd γ} {G0 : α → Prop} {G1 : β → Prop} {G2 : γ → Prop} (ht : P.underlying t = some (.struct #[f0, f1, f2])) (hC : P.cellsOf t = d0.sz + (d1.sz + d2.sz))
    (o0 : f0.offset = 0) (o1 : f1.offset = d0.sz) (o2 : f2.offset = d0.sz + d1.sz) (c0 : P.cellsOf f0.type = d0.sz) (c1 : P.cellsOf f1.type = d1.sz) (c2 : P.cellsOf f2.type = d2.sz)
    (h0 : Opens enc P W f0.type d0 G0) (h1 : Opens enc P W f1.type d1 G1) (h2 : Opens enc P W f2.type d2 G2) :
    Opens enc P W t (Kd.pair d0 (Kd.pair d1 d2)) (fun x => G0 x.1 ∧ G1 x.2.1 ∧ G2 x.2.2) := by
  intro fuel cs y hr
  obtain ⟨y0, y1, y2, n, _, hl, r0, r1, r2⟩ := trod_struct3 ht hr
  rw [o0, c0] at r0
  rw [o1, c1] at r1
  rw [o2, c2] at r2
  obtain ⟨x0, k0, g0⟩ := h0 _ _ _ r0
  obtain ⟨x1, k1, g1⟩ := h1 _ _ _ r1
  obtain ⟨x2, k2, g2⟩ := h2 _ _ _ r2
  refine ⟨(x0, x1, x2), ⟨_, _, ?_, k0, _, _, rfl, k1, k2⟩, g0, g1, g2⟩
  rw [List.drop_zero, List.take_of_length_le (l := cs.drop (d0.sz + d1.sz)) (by rw [List.length_drop, hl, hC]; omega), ← List.drop_drop, List.take_append_drop, List.take_append_drop]
theorem opens_iso {t : TypeId} {d : Kd α} {G : α → Prop} (f : β → α) (g : α → β) (hfg : ∀ x, f (g x) = x) (h : Opens enc P W t d G) : Opens enc P W t (Kd.iso d f) (fun y => G (f y)) := by
  intro fuel cs y hr
  obtain ⟨x, k, gx⟩ := h _ _ _ hr
  exact ⟨g x, by show d.K W (f (g x)) cs; rw [hfg]; exact k, by show G (f (g x)); rw [hfg]; exact gx⟩
theorem open_struct {r : Reach} {b0 : Nat} {t : TypeId} {fs : Array Field} {d : Kd α} {G : α → Prop} {v : Value} {y : DataW H} {p : List MemPlace} (ht : P.underlying t = some (.struct fs)) (hv : Value.okWide P W r b0 t v)
    (hr : DataW.Trod enc P W 0 (fun _ => true) true t v y p) (h : Opens enc P W t d G) : ∃ x cs, v = .agg cs ∧ d.K W x cs.toList ∧ G x := by
  obtain ⟨cs, rfl, _⟩ := okWide_struct ht hv
  obtain ⟨fuel, hf⟩ := hr
  obtain ⟨x, k, g⟩ := h _ _ _ hf
  exact ⟨x, cs, rfl, k, g⟩
end
end Go.Proofs.YtgfdfabeninfeaaGreat.Q
end
section
namespace Go.Proofs.YtgfdfabeninfeaaGreat.Q
open Go.RowKit Go.Proofs.YtgfdfabeninfeaaGreatW.PrintWords Go.Proofs.YtgfdfabeninfeaaGreatW.PrintLast Go.Proofs.YtgfdfabeninfeaaGreatW.PrintMore
set_option linter.unusedVariables false
set_option linter.unusedSimpArgs false
theorem wraps_i64 (n : Int) (h0 : 0 ≤ n) (h1 : n < 2 ^ 62) : IntKind.i64.wrap n = n := by rw [IntKind.wrap_i64]; omega
theorem and_nat (a b : Nat) (ha : a < 2 ^ 62) (hb : b < 2 ^ 62) : Go.bits .and .i64 (a : Int) (b : Int) = ((a &&& b : Nat) : Int) := (Go.bits_nat .i64 62 (by decide) wraps_i64 a b ha hb).1
theorem or_nat (a b : Nat) (ha : a < 2 ^ 62) (hb : b < 2 ^ 62) : Go.bits .or .i64 (a : Int) (b : Int) = ((a ||| b : Nat) : Int) := (Go.bits_nat .i64 62 (by decide) wraps_i64 a b ha hb).2
theorem shr_nat (a n : Nat) (hn : n ≤ 64) : shr .i64 (a : Int) (n : Int) = ((a >>> n : Nat) : Int) := by
  unfold shr
  rw [Int.toNat_natCast, show min n IntKind.i64.bits = n from Nat.min_eq_left hn, Nat.shiftRight_eq_div_pow]
  simp
theorem shl_one_nat (n : Nat) (hn : n ≤ 16) : shl .i64 1 (n : Int) = ((2 ^ n : Nat) : Int) := by
  rw [shl_one (n : Int) ⟨by omega, by omega⟩, Int.toNat_natCast]; simp
theorem and_one_nat (a : Nat) (ha : a < 2 ^ 62) : Go.bits .and .i64 (a : Int) 1 = ((a % 2 : Nat) : Int) := by
  have := and_nat a 1 ha (by decide)
  rw [Nat.and_one_is_mod] at this
  exact this
theorem tmod_two (a : Nat) : Int.tmod (a : Int) 2 = ((a % 2 : Nat) : Int) := by
  rw [Int.tmod_eq_emod_of_nonneg (by omega)]; omega
theorem shr_lt (a i : Nat) (ha : a < 2 ^ 62) : a >>> i < 2 ^ 62 := by
  rw [Nat.shiftRight_eq_div_pow]
  exact Nat.lt_of_le_of_lt (Nat.div_le_self _ _) ha
end Go.Proofs.YtgfdfabeninfeaaGreat.Q
end
section
namespace Go.Proofs.YtgfdfabeninfeaaGreat.Q
open Go.RowKit Go.Proofs.YtgfdfabeninfeaaGreatW.PrintWords Go.Proofs.YtgfdfabeninfeaaGreatW.PrintLast Go.Proofs.YtgfdfabeninfeaaGreatW.PrintMore
attribute [local go_sem] max2_int min2_int max_two min_two max_three min_three max_four min_four
set_option linter.unusedVariables false
set_option linter.unusedSimpArgs false
def spec_voBits.l0 : Nat → Int → List Int → Int → Int → Option (Int)
 | 0, _, _, _, _ => none
 | k + 1, x3, x6, x7, x8 => if x8 < x7 then (if 0 ≤ x8 then (if x8 < (x6.length : Int) then (if 0 ≤ (rd x6 x8) then (spec_voBits.l0 k (Go.bits .or .i64 x3 (shl .i64 1 (rd x6 x8))) x6 x7 (wrap64 (x8 + 1))) else (none)) else (none)) else (none)) else (some x3)
def spec_voBits.f (k : Nat) (l0 : List Int) : Option (Int) := spec_voBits.l0 k 0 l0 (l0.length : Int) 0
end Go.Proofs.YtgfdfabeninfeaaGreat.Q
end
section
namespace Go.Proofs.YtgfdfabeninfeaaGreat.Q
open Go.RowKit Go.Proofs.YtgfdfabeninfeaaGreatW.PrintWords Go.Proofs.YtgfdfabeninfeaaGreatW.PrintLast Go.Proofs.YtgfdfabeninfeaaGreatW.PrintMore
set_option linter.unusedVariables false
set_option linter.unusedSimpArgs false
def maskN (m : Nat) : List Int → Nat
  | [] => m
  | x :: l => maskN (m ||| 2 ^ x.toNat) l
theorem maskOf_ev (l : List Int) (hl : l.length ≤ 1152921504606) (h : ∀ x ∈ l, 0 ≤ x ∧ x ≤ 15) : Ev (fun k => impl_maskOf.f k l) (maskN 0 l : Int) ∧ Ev (fun k => spec_voBits.f k l) (maskN 0 l : Int) := by
  unfold impl_maskOf.f spec_voBits.f
  have key : ∀ (d i m : Nat), i + d = l.length → m < 65536 → Ev (fun k => impl_maskOf.l0 k (m : Int) l (l.length : Int) (i : Int)) (maskN m (l.drop i) : Int) ∧ Ev (fun k => spec_voBits.l0 k (m : Int) l (l.length : Int) (i : Int)) (maskN m (l.drop i) : Int) := by
    intro d
    induction d with
    | zero =>
      intro i m hi hm
      refine ⟨ev_succ ?_, ev_succ ?_⟩
      all_goals
        simp only [impl_maskOf.l0, spec_voBits.l0]
        refine ev_neg (by omega) (ev_eqv (Ev.now _) ?_)
        rw [List.drop_of_length_le (by omega)]; rfl
    | succ d ih =>
      intro i m hi hm
      have h1 : i < l.length := by omega
      have hx := h l[i] (List.getElem_mem h1)
      obtain ⟨q, hq⟩ := Int.eq_ofNat_of_zero_le hx.1
      have hq16 : q ≤ 15 := by omega
      have hp : 2 ^ q < 65536 := Nat.pow_lt_pow_right (n := 16) (by decide) (by omega)
      have ih' := ih (i + 1) (m ||| 2 ^ q) (by omega) (Nat.or_lt_two_pow (n := 16) hm hp)
      rw [List.drop_eq_getElem_cons h1, maskN, hq, Int.toNat_natCast]
      refine ⟨ev_succ ?_, ev_succ ?_⟩
      all_goals
        simp only [impl_maskOf.l0, spec_voBits.l0]
        refine ev_pos (by omega) (ev_pos (by omega) (ev_pos (by omega) (ev_pos (by rw [rd_get h1]; omega) ?_)))
        rw [rd_get h1, hq, shl_one_nat q (by omega), or_nat m (2 ^ q) (by omega) (by omega), wrap_succ h1 (by omega)]
      · exact ih'.1
      · exact ih'.2
  exact key l.length 0 0 (by omega) (by decide)
def incFrom : Option Int → List Int → Bool
  | _, [] => true
  | p, x :: l => (match p with | none => true | some y => decide (y < x)) && incFrom (some x) l
def incB (l : List Int) : Bool := incFrom none l
def isSetB (l : List Int) (n : Int) : Bool := l.all (inB · 0 (n - 1)) && incB l
theorem any_not_all {α : Type} (l : List α) (p : α → Bool) : (!l.any fun x => !p x) = l.all p := by
  induction l with
  | nil => rfl
  | cons x l ih => rw [List.any_cons, List.all_cons, ← ih]; cases p x <;> simp
theorem isSetB_mem {l : List Int} {n : Int} (h : isSetB l n = true) : ∀ x ∈ l, 0 ≤ x ∧ x ≤ n - 1 := by
  intro x hx
  unfold isSetB at h
  rw [Bool.and_eq_true, List.all_eq_true] at h
  exact inB_iff.1 (h.1 x hx)
theorem ev_anyO {α : Type} (p : Nat → α → Option Bool) (q : α → Bool) : ∀ l : List α, (∀ x ∈ l, Ev (fun k => p k x) (q x)) → Ev (fun k => anyO (p k) l) (l.any q)
  | [], _ => Ev.now _
  | x :: xs, h => by
    simp only [anyO, List.any_cons]
    refine Ev.bind (h x (List.mem_cons_self ..)) (ev_bool (fun e => ?_) (fun e => ?_))
    · rw [e]; exact Ev.now _
    · rw [e]; exact ev_anyO p q xs (fun y hy => h y (List.mem_cons_of_mem _ hy))
def allR (P : Nat → Bool) (n i : Nat) : Bool := ((List.range n).drop i).all P
theorem allR_end (P : Nat → Bool) (n : Nat) : allR P n n = true := by
  unfold allR
  rw [List.drop_of_length_le (by simp)]; rfl
theorem allR_step (P : Nat → Bool) (n i : Nat) (h : i < n) : allR P n i = (P i && allR P n (i + 1)) := by
  unfold allR
  rw [all_drop P (List.range n) i (by simpa using h), List.getElem_range]
def mk (l : List (List Int)) (i : Nat) : Nat := maskN 0 (l.getD i [])
theorem maskN_lt2 (n : Nat) (l : List Int) : ∀ m, m < 2 ^ n → (∀ x ∈ l, 0 ≤ x ∧ x ≤ (n : Int) - 1) → maskN m l < 2 ^ n := by
  induction l with
  | nil => intro m hm _; exact hm
  | cons x l ih =>
    intro m hm h
    refine ih _ ?_ (fun y hy => h y (List.mem_cons_of_mem _ hy))
    have hx := h x (List.mem_cons_self ..)
    exact Nat.or_lt_two_pow hm (Nat.pow_lt_pow_right (by decide) (by omega))
def SetsOk (m : Int) (l : List (List Int)) : Prop := (1 ≤ m ∧ m ≤ 9) ∧ ∀ x ∈ l, isSetB x m = true ∧ x.length ≤ 1048576
theorem SetsOk.elem {m : Int} {l : List (List Int)} (h : SetsOk m l) {x : List Int} (hx : x ∈ l) : ∀ y ∈ x, 0 ≤ y ∧ y ≤ (9 : Nat) - 1 := fun y hy => by
  have := isSetB_mem (h.2 x hx).1 y hy
  have := h.1
  omega
theorem SetsOk.lt {m : Int} {l : List (List Int)} (h : SetsOk m l) {i : Nat} (hi : i < l.length) : mk l i < 512 := by
  unfold mk
  rw [getD_get hi]
  exact maskN_lt2 9 _ 0 (by decide) (h.elem (List.getElem_mem hi))
theorem SetsOk.masks {m : Int} {l : List (List Int)} (h : SetsOk m l) {i : Nat} (hi : i < l.length) : Ev (fun k => impl_maskOf.f k l[i]) (mk l i : Int) ∧ Ev (fun k => spec_voBits.f k l[i]) (mk l i : Int) := by
  have hx := List.getElem_mem hi
  have := maskOf_ev l[i] (Nat.le_trans (h.2 _ hx).2 (by decide)) (fun y hy => by have := h.elem hx y hy; omega)
  unfold mk
  rw [getD_get hi]
  exact this
theorem and_eq_nat {a b c : Nat} (ha : a < 512) (hb : b < 512) : (Go.bits .and .i64 (a : Int) (b : Int) = (c : Int)) ↔ ((a &&& b == c) = true) := by
  rw [and_nat a b (by omega) (by omega), beq_iff_eq]
  omega
theorem SetsOk.of {m : Int} {l : List (List Int)} (hm : inB m 1 9 = true) (hs : (l.all fun s => decide (s ≠ []) && isSetB s m) = true) (hb : ∀ x ∈ l, x.length ≤ 1048576) : SetsOk m l := by
  refine ⟨inB_iff.1 hm, fun x hx => ⟨?_, hb x hx⟩⟩
  have := List.all_eq_true.1 hs x hx
  rw [Bool.and_eq_true] at this
  exact this.2
theorem rdOf_get {xs : List Bool} {i : Nat} (h : i < xs.length) : rdOf false xs (i : Int) = xs[i] := by unfold rdOf; rw [Int.toNat_natCast]; exact getD_get h
def tabB (g : Nat → Bool) (n : Nat) : List Bool := (List.range n).map g
theorem tabB_len (g : Nat → Bool) (n : Nat) : (tabB g n).length = n := by simp [tabB]
theorem tabB_get (g : Nat → Bool) (n i : Nat) (h : i < (tabB g n).length) : (tabB g n)[i] = g i := by simp [tabB]
theorem tabB_succ (g : Nat → Bool) (n : Nat) : tabB g (n + 1) = tabB g n ++ [g n] := by simp [tabB, List.range_succ]
theorem tabB_set (g : Nat → Bool) (i : Nat) (b b' : Bool) (l : List Bool) : (tabB g i ++ b :: l).set i b' = tabB g i ++ b' :: l := by
  rw [List.set_append_right _ _ (by rw [tabB_len]; omega), tabB_len, Nat.sub_self]; rfl
theorem tabB_next (g : Nat → Bool) (i : Nat) (l : List Bool) : tabB g i ++ g i :: l = tabB g (i + 1) ++ l := by rw [tabB_succ, List.append_assoc]; rfl
def winB (l : List (List Int)) (i : Nat) : Bool := l.any fun s => i &&& maskN 0 s == maskN 0 s
def winT (m : Int) (l : List (List Int)) : List Bool := tabB (winB l) (2 ^ m.toNat)
theorem and_self_nat {a b : Nat} (ha : a < 512) (hb : b < 512) : (Go.bits .and .i64 (a : Int) (b : Int) == (b : Int)) = (a &&& b == b) := by
  rw [Bool.eq_iff_iff, ← and_eq_nat ha hb, beq_iff_eq]
theorem pow_le512 {m : Int} (h : 1 ≤ m ∧ m ≤ 9) : 2 ^ m.toNat ≤ 512 := Nat.pow_le_pow_right (n := 2) (by decide) (show m.toNat ≤ 9 by omega)
theorem andNot_nat (a b : Nat) (ha : a < 2 ^ 62) (hb : b < 2 ^ 62) : Go.bits .andNot .i64 (a : Int) (b : Int) = ((a ^^^ (a &&& b) : Nat) : Int) := by
  have ha' : a % 2 ^ 64 = a := Nat.mod_eq_of_lt (by omega)
  have hb' : b % 2 ^ 64 = b := Nat.mod_eq_of_lt (by omega)
  have e : a &&& (2 ^ 64 - (b + 1)) = a ^^^ (a &&& b) := by
    refine Nat.eq_of_testBit_eq fun i => ?_
    rw [Nat.testBit_and, Nat.testBit_xor, Nat.testBit_and, Nat.testBit_two_pow_sub_succ (by omega)]
    by_cases hi : i < 64
    · cases a.testBit i <;> cases b.testBit i <;> simp [hi]
    · have : a.testBit i = false := Nat.testBit_lt_two_pow (Nat.lt_of_lt_of_le (show a < 2 ^ 64 by omega) (Nat.pow_le_pow_right (by decide) (by omega)))
      simp [this]
  have h : Go.bits .andNot .i64 (a : Int) (b : Int) = IntKind.i64.wrap ((a &&& (2 ^ 64 - 1 - b % 2 ^ 64) : Nat) : Int) := by
    show IntKind.i64.wrap ((BitVec.ofInt 64 (a : Int) &&& ~~~ (BitVec.ofInt 64 (b : Int))).toNat : Int) = _
    rw [BitVec.ofInt_natCast, BitVec.ofInt_natCast, BitVec.toNat_and, BitVec.toNat_not, BitVec.toNat_ofNat, BitVec.toNat_ofNat, ha']
  rw [h, hb', show 2 ^ 64 - 1 - b = 2 ^ 64 - (b + 1) by omega, e]
  have : a ^^^ (a &&& b) < 2 ^ 62 := Nat.xor_lt_two_pow ha (Nat.and_lt_two_pow _ hb)
  exact wraps_i64 _ (by omega) (by exact_mod_cast this)
def bitB (m i : Nat) : Bool := m >>> i % 2 == 1
theorem has_eq (m i : Nat) (hm : m < 65536) (hi : i ≤ 64) : impl_has.f (m : Int) (i : Int) = some (bitB m i) := by
  unfold impl_has.f bitB
  have h2 : m >>> i < 2 ^ 62 := shr_lt _ _ (by omega)
  rw [if_pos (by omega), shr_nat _ _ hi, and_one_nat _ h2]
  congr 1
  rw [Bool.eq_iff_iff, beq_iff_eq, beq_iff_eq]
  omega
theorem tmod_bit (m i : Nat) (hi : i ≤ 64) : Int.tmod (shr .i64 (m : Int) (i : Int)) 2 = 0 ↔ bitB m i = false := by
  rw [shr_nat _ _ hi, tmod_two]
  unfold bitB
  rw [beq_eq_false_iff_ne]
  omega
theorem fin512 {P : Nat → Nat → Prop} [∀ m i, Decidable (P m i)] (h : ((List.range 512).all fun m => (List.range 9).all fun i => decide (P m i)) = true) : ∀ m i, m < 512 → i < 9 → P m i := fun m i hm hi =>
  of_decide_eq_true (List.all_eq_true.1 (List.all_eq_true.1 h m (List.mem_range.2 hm)) i (List.mem_range.2 hi))
theorem or_bit : ∀ m i, m < 512 → i < 9 → m ||| 2 ^ i = if bitB m i = true then m else m + 2 ^ i := fin512 (by decide +kernel)
theorem all_andNot : ∀ m n, m < 512 → n < 10 → m < 2 ^ n → (2 ^ n - 1) ^^^ ((2 ^ n - 1) &&& m) = 2 ^ n - 1 - m := by
  have h : ((List.range 512).all fun m => (List.range 10).all fun n => decide (m < 2 ^ n → (2 ^ n - 1) ^^^ ((2 ^ n - 1) &&& m) = 2 ^ n - 1 - m)) = true := by decide +kernel
  exact fun m n hm hn => of_decide_eq_true (List.all_eq_true.1 (List.all_eq_true.1 h m (List.mem_range.2 hm)) n (List.mem_range.2 hn))
theorem rdOf_tab {g : Nat → Bool} {N i : Nat} (h : i < N) : rdOf false (tabB g N) (i : Int) = g i := by
  rw [rdOf_get (by rw [tabB_len]; exact h), tabB_get]
theorem pow_lt9 {i n : Nat} (h : i < n) (hn : n ≤ 9) : 2 ^ i < 2 ^ n ∧ 2 ^ n ≤ 512 :=
  ⟨Nat.pow_lt_pow_right (by decide) h, Nat.pow_le_pow_right (n := 2) (by decide) hn⟩
def cntB (g : Nat → Bool) (N i : Nat) : Int := (((List.range N).drop i).filter g).length
theorem cntB_end (g : Nat → Bool) (N : Nat) : cntB g N N = 0 := by
  unfold cntB
  rw [List.drop_of_length_le (by simp)]; rfl
theorem cntB_step (g : Nat → Bool) (N i : Nat) (h : i < N) : cntB g N i = (if g i = true then 1 else 0) + cntB g N (i + 1) := by
  unfold cntB
  rw [List.drop_eq_getElem_cons (by simpa using h), List.getElem_range, List.filter_cons]
  by_cases e : g i = true
  · rw [if_pos e, if_pos e, List.length_cons]; omega
  · rw [if_neg e, if_neg e]; omega
theorem countWins_ev (a : Int) (g : Nat → Bool) (N : Nat) (hN : N ≤ 512) : Ev (fun k => impl_votes_countWins.f k a (tabB g N)) (cntB g N 0) := by
  unfold impl_votes_countWins.f
  have := ev_rangeS N (fun k i s => impl_votes_countWins.l0 k s (tabB g N) (N : Int) (i : Int)) (fun i s => s + cntB g N i) (fun i s => 0 ≤ s ∧ s ≤ i) ?_ ?_ 0 (0 : Int) (Nat.zero_le _) ⟨Int.le_refl _, Int.le_refl _⟩
  · simpa [tabB_len] using this
  · intro s _
    refine ev_succ ?_
    simp only [impl_votes_countWins.l0]
    exact ev_neg (Int.lt_irrefl _) (ev_eqv (Ev.now _) (by rw [cntB_end]; omega))
  · intro i s hi hs ih
    refine ev_succ ?_
    simp only [impl_votes_countWins.l0]
    refine ev_pos (by omega) (ev_pos (by omega) (ev_pos (by rw [tabB_len]; omega) ?_))
    rw [rdOf_tab hi, wrap_succ hi (by omega), cntB_step g N i hi]
    refine ev_bool (fun e => ?_) (fun e => ?_)
    · rw [if_pos e, wrap64_id (by omega), ← Int.add_assoc]; exact ih _ (by omega)
    · rw [if_neg (by simp [e]), Int.zero_add]; exact ih _ (by omega)
theorem pzOne_eq (b : Bool) : spec_pzOne.f b = some (if b = true then 1 else 0) := by unfold spec_pzOne.f; cases b <;> rfl
theorem oneIf_eq (b : Bool) : impl_oneIf.f b = some (if b = true then 1 else 0) := by unfold impl_oneIf.f; cases b <;> rfl
theorem pzValue_l0 (g : Nat → Bool) (N : Nat) (hN : N ≤ 512) : Ev (fun k => spec_pzValue.l0 k 0 (tabB g N) (N : Int) 0) (cntB g N 0) := by
  have := ev_rangeS N (fun k i s => spec_pzValue.l0 k s (tabB g N) (N : Int) (i : Int)) (fun i s => s + cntB g N i) (fun i s => 0 ≤ s ∧ s ≤ i) ?_ ?_ 0 (0 : Int) (Nat.zero_le _) ⟨Int.le_refl _, Int.le_refl _⟩
  · simpa using this
  · intro s _
    refine ev_succ ?_
    simp only [spec_pzValue.l0]
    exact ev_neg (Int.lt_irrefl _) (ev_eqv (Ev.now _) (by rw [cntB_end]; omega))
  · intro i s hi hs ih
    refine ev_succ ?_
    simp only [spec_pzValue.l0]
    refine ev_pos (by omega) (ev_pos (by omega) (ev_pos (by rw [tabB_len]; omega) ?_))
    rw [rdOf_tab hi, wrap_succ hi (by omega), cntB_step g N i hi]
    simp only [pzOne_eq, Option.bind_some]
    by_cases e : g i = true
    · rw [if_pos e, wrap64_id (by omega), ← Int.add_assoc]; exact ih _ (by omega)
    · rw [if_neg e, Int.zero_add, Int.add_zero, wrap64_id (by omega)]; exact ih _ (by omega)
theorem all_eq (m : Int) (l : List Bool) (h : 1 ≤ m ∧ m ≤ 9) : impl_votes_all.f m l = some (((2 ^ m.toNat - 1 : Nat) : Int)) := by
  unfold impl_votes_all.f
  rw [if_pos (by omega), all_bits m (by omega)]
  have : 1 ≤ 2 ^ m.toNat := Nat.one_le_two_pow
  congr 1
  rw [Int.ofNat_sub this]; simp
theorem rest_mask (m : Int) (h : 1 ≤ m ∧ m ≤ 9) (i : Nat) (hi : i < 2 ^ m.toNat) : Go.bits .andNot .i64 ((2 ^ m.toNat - 1 : Nat) : Int) (i : Int) = ((2 ^ m.toNat - 1 - i : Nat) : Int) := by
  have hp := pow_le512 h
  rw [andNot_nat _ _ (by omega) (by omega), all_andNot i m.toNat (by omega) (by omega) hi]
def properB (g : Nat → Bool) (N : Nat) : Bool := allR (fun i => !(g i && g (N - 1 - i))) N 0
def strongB (g : Nat → Bool) (N : Nat) : Bool := allR (fun i => g i || g (N - 1 - i)) N 0
theorem isProper_ev (m : Int) (h : 1 ≤ m ∧ m ≤ 9) (g : Nat → Bool) : Ev (fun k => impl_votes_isProper.f k m (tabB g (2 ^ m.toNat))) (properB g (2 ^ m.toNat)) := by
  unfold impl_votes_isProper.f properB
  have hp := pow_le512 h
  have hr := rest_mask m h
  have ha := all_eq m (tabB g (2 ^ m.toNat)) h
  generalize 2 ^ m.toNat = N at *
  have := ev_range N (fun k i => impl_votes_isProper.l0 k (tabB g N) (N : Int) (i : Int) m (tabB g N)) (allR (fun i => !(g i && g (N - 1 - i))) N) ?_ ?_ 0 (Nat.zero_le _)
  · simpa [tabB_len] using this
  · refine ev_succ ?_
    simp only [impl_votes_isProper.l0]
    exact ev_neg (Int.lt_irrefl _) (ev_eqv (Ev.now _) (by rw [allR_end]))
  · intro i hi ih
    refine ev_succ ?_
    simp only [impl_votes_isProper.l0]
    refine ev_pos (by omega) (ev_pos (by omega) (ev_pos (by rw [tabB_len]; omega) ?_))
    rw [rdOf_tab hi, wrap_succ hi (by omega), allR_step _ _ _ hi]
    simp only [ha, Option.bind_some, hr i hi]
    rw [rdOf_tab (show N - 1 - i < N by omega)]
    refine ev_bool (fun e => ?_) (fun e => ?_)
    · rw [e]
      refine ev_pos (by omega) (ev_pos (by rw [tabB_len]; omega) (ev_bool (fun e2 => ?_) (fun e2 => ?_)))
      · rw [e2]; exact Ev.now _
      · rw [e2]; exact ih
    · rw [e]; exact ih
theorem isStrong_ev (m : Int) (h : 1 ≤ m ∧ m ≤ 9) (g : Nat → Bool) : Ev (fun k => impl_votes_isStrong.f k m (tabB g (2 ^ m.toNat))) (strongB g (2 ^ m.toNat)) := by
  unfold impl_votes_isStrong.f strongB
  have hp := pow_le512 h
  have hr := rest_mask m h
  have ha := all_eq m (tabB g (2 ^ m.toNat)) h
  generalize 2 ^ m.toNat = N at *
  have := ev_range N (fun k i => impl_votes_isStrong.l0 k (tabB g N) (N : Int) (i : Int) m (tabB g N)) (allR (fun i => g i || g (N - 1 - i)) N) ?_ ?_ 0 (Nat.zero_le _)
  · simpa [tabB_len] using this
  · refine ev_succ ?_
    simp only [impl_votes_isStrong.l0]
    exact ev_neg (Int.lt_irrefl _) (ev_eqv (Ev.now _) (by rw [allR_end]))
  · intro i hi ih
    refine ev_succ ?_
    simp only [impl_votes_isStrong.l0]
    refine ev_pos (by omega) (ev_pos (by omega) (ev_pos (by rw [tabB_len]; omega) ?_))
    rw [rdOf_tab hi, wrap_succ hi (by omega), allR_step _ _ _ hi]
    simp only [ha, Option.bind_some, hr i hi]
    rw [rdOf_tab (show N - 1 - i < N by omega)]
    refine ev_bool (fun e => ?_) (fun e => ?_)
    · rw [e]; exact ih
    · rw [e]
      refine ev_pos (by omega) (ev_pos (by rw [tabB_len]; omega) (ev_bool (fun e2 => ?_) (fun e2 => ?_)))
      · rw [e2]; exact ih
      · rw [e2]; exact Ev.now _
theorem ev_ite {α : Type} {c : Prop} [Decidable c] {f g : Nat → Option α} {r : α} (h1 : c → Ev f r) (h2 : ¬ c → Ev g r) : Ev (fun n => if c then f n else g n) r := by
  by_cases h : c
  · exact ev_pos h (h1 h)
  · exact ev_neg h (h2 h)
theorem pzValue_l1 (kind : Int) (hk : kind = 4 ∨ kind = 5) (g : Nat → Bool) (N : Nat) (hN : N ≤ 512) (h1 : 1 ≤ N) :
    Ev (fun k => spec_pzValue.l1 k kind (tabB g N) ((N - 1 : Nat) : Int) (N : Int) 0) (if (if kind = 4 then properB g N else strongB g N) = true then 1 else 0) := by
  unfold properB strongB
  have := ev_range N (fun k i => spec_pzValue.l1 k kind (tabB g N) ((N - 1 : Nat) : Int) (N : Int) (i : Int)) (fun i => if (if kind = 4 then allR (fun i => !(g i && g (N - 1 - i))) N i else allR (fun i => g i || g (N - 1 - i)) N i) = true then 1 else 0) ?_ ?_ 0 (Nat.zero_le _)
  · simpa using this
  · refine ev_succ ?_
    simp only [spec_pzValue.l1]
    exact ev_neg (Int.lt_irrefl _) (ev_eqv (Ev.now _) (by rw [allR_end, allR_end]; simp))
  · intro i hi ih
    refine ev_succ ?_
    simp only [spec_pzValue.l1]
    have hw : wrap64 (((N - 1 : Nat) : Int) - (i : Int)) = ((N - 1 - i : Nat) : Int) := by unfold wrap64; omega
    refine ev_pos (by omega) ?_
    rw [hw, rdOf_tab hi, rdOf_tab (show N - 1 - i < N by omega), wrap_succ hi (by omega), allR_step _ _ _ hi, allR_step _ _ _ hi, tabB_len]
    rcases hk with rfl | rfl
    · refine ev_pos rfl (ev_pos (by omega) (ev_pos (by omega) ?_))
      simp only [if_true] at ih ⊢
      refine ev_bool (fun e => ?_) (fun e => ?_)
      · rw [e]
        refine ev_pos (by omega) (ev_pos (by omega) (ev_bool (fun e2 => ?_) (fun e2 => ?_)))
        · rw [e2]; exact Ev.now _
        · rw [e2]; exact ev_neg (by decide) ih
      · rw [e]; exact ev_neg (by decide) ih
    · refine ev_neg (by decide) (ev_pos rfl (ev_pos (by omega) (ev_pos (by omega) ?_)))
      simp only [show ¬ ((5 : Int) = 4) by decide, if_false] at ih ⊢
      refine ev_bool (fun e => ?_) (fun e => ?_)
      · rw [e]; exact ih
      · rw [e]
        refine ev_pos (by omega) (ev_pos (by omega) (ev_bool (fun e2 => ?_) (fun e2 => ?_)))
        · rw [e2]; exact ih
        · rw [e2]; exact Ev.now _
def swB (g : Nat → Bool) (i m : Nat) : Bool := !bitB m i && (!g m && g (m + 2 ^ i))
theorem or_shl (m i : Nat) (hm : m < 512) (hi : i < 9) (hb : bitB m i = false) : Go.bits .or .i64 (m : Int) (shl .i64 1 (i : Int)) = ((m + 2 ^ i : Nat) : Int) := by
  have hp := (pow_lt9 (show i < 9 from hi) (Nat.le_refl _)).1
  rw [shl_one_nat i (by omega), or_nat m (2 ^ i) (by omega) (by omega), or_bit m i hm hi, if_neg (by simp [hb])]
theorem add_lt (m i n : Nat) (hn : n ≤ 9) (hm : m < 2 ^ n) (hi : i < n) (hb : bitB m i = false) : m + 2 ^ i < 2 ^ n := by
  have hp := (pow_lt9 hi hn).2
  have := Nat.or_lt_two_pow hm (pow_lt9 hi hn).1
  rw [or_bit m i (by omega) (by omega), if_neg (by simp [hb])] at this
  exact this
theorem isSwing_eq (a : Int) (g : Nat → Bool) (n m i : Nat) (hn : n ≤ 9) (hm : m < 2 ^ n) (hi : i < n) : impl_votes_isSwing.f a (tabB g (2 ^ n)) (m : Int) (i : Int) = some (swB g i m) := by
  have hp := (pow_lt9 hi hn).2
  unfold impl_votes_isSwing.f swB
  rw [has_eq m i (by omega) (by omega), Option.bind_some, rdOf_tab hm, tabB_len]
  cases hb : bitB m i
  · rw [if_neg (by decide), if_pos (by omega), if_pos (by omega)]
    cases hg : g m
    · rw [if_neg (by decide), if_pos (by omega), or_shl m i (by omega) (by omega) hb, if_pos (Int.natCast_nonneg _), if_pos (Int.ofNat_lt.2 (add_lt m i n hn hm hi hb)), rdOf_tab (add_lt m i n hn hm hi hb)]
      rfl
    · rw [if_pos rfl]; rfl
  · rw [if_pos rfl]; rfl
theorem set_same {α : Type} (l : List α) (i : Nat) (h : i < l.length) (x : α) (hx : l[i] = x) : l.set i x = l := by subst hx; exact List.set_getElem_self h
theorem swings_ev (m : Int) (h : 1 ≤ m ∧ m ≤ 9) (g : Nat → Bool) : Ev (fun k => impl_votes_swings.f k m (tabB g (2 ^ m.toNat))) (tab (fun i => cntB (swB g i) (2 ^ m.toNat) 0) m.toNat) := by
  obtain ⟨n, rfl⟩ := Int.eq_ofNat_of_zero_le (show 0 ≤ m by omega)
  have hn : n ≤ 9 := by omega
  have hp := pow_le512 h
  unfold impl_votes_swings.f
  rw [Int.toNat_natCast] at *
  have key : ∀ x : List Int, x.length = n → ∀ i, i < n → rd x (i : Int) = 0 → ∀ r, Ev (fun k => impl_votes_swings.l0 k (x.set i (cntB (swB g i) (2 ^ n) 0)) (n : Int) ((i + 1 : Nat) : Int) (n : Int) (tabB g (2 ^ n))) r →
      Ev (fun k => impl_votes_swings.l1 k x (i : Int) (n : Int) (i : Int) ((2 ^ n : Nat) : Int) 0 (n : Int) (tabB g (2 ^ n))) r := by
    intro x hx i hi h0 r hr
    have := ev_rangeS (2 ^ n) (fun k j (y : List Int) => impl_votes_swings.l1 k y (i : Int) (n : Int) (i : Int) ((2 ^ n : Nat) : Int) (j : Int) (n : Int) (tabB g (2 ^ n))) (fun _ _ => r)
      (fun j y => ∃ c : Int, 0 ≤ c ∧ c ≤ j ∧ y = x.set i c ∧ c + cntB (swB g i) (2 ^ n) j = cntB (swB g i) (2 ^ n) 0) ?_ ?_ 0 x (Nat.zero_le _) ⟨0, Int.le_refl _, Int.le_refl _, ?_, by omega⟩
    · simpa using this
    · rintro y ⟨c, _, _, rfl, hc⟩
      refine ev_succ ?_
      simp only [impl_votes_swings.l1]
      refine ev_neg (Int.lt_irrefl _) ?_
      rw [cntB_end, Int.add_zero] at hc
      rw [hc, wrap_succ hi (by omega)]
      exact hr
    · rintro j y hj ⟨c, hc0, hcj, rfl, hc⟩ ih
      refine ev_succ ?_
      simp only [impl_votes_swings.l1]
      refine ev_pos (by omega) (ev_bindS (isSwing_eq _ g n j i hn hj hi) ?_)
      rw [wrap_succ hj (by omega)]
      rw [cntB_step _ _ _ hj] at hc
      refine ev_bool (fun e => ?_) (fun e => ?_)
      · rw [if_pos e] at hc
        refine ev_pos (by omega) (ev_pos (by rw [List.length_set]; omega) (ih _ ⟨c + 1, by omega, by omega, ?_, by omega⟩))
        rw [rd_get (by rw [List.length_set]; omega), List.getElem_set_self, Int.toNat_natCast, List.set_set, wrap64_id (by omega)]
      · rw [if_neg (by simp [e])] at hc
        exact ih _ ⟨c, hc0, by omega, rfl, by omega⟩
    · exact (set_same x i (by omega) 0 (by rw [rd_get (by omega)] at h0; exact h0)).symm
  refine ev_pos (by omega) (ev_pos (by omega) (ev_bindS rfl ?_))
  have := ev_range n (fun k i => impl_votes_swings.l0 k (tab (fun i => cntB (swB g i) (2 ^ n) 0) i ++ List.replicate (n - i) 0) (n : Int) (i : Int) (n : Int) (tabB g (2 ^ n))) (fun _ => tab (fun i => cntB (swB g i) (2 ^ n) 0) n) ?_ ?_ 0 (Nat.zero_le _)
  · simpa [tab] using this
  · refine ev_succ ?_
    simp only [impl_votes_swings.l0]
    exact ev_neg (Int.lt_irrefl _) (ev_eqv (Ev.now _) (by simp))
  · intro i hi ih
    refine ev_succ ?_
    simp only [impl_votes_swings.l0, tabB_len]
    have hl : (tab (fun i => cntB (swB g i) (2 ^ n) 0) i ++ List.replicate (n - i) 0).length = n := by rw [List.length_append, tab_len, List.length_replicate]; omega
    refine ev_pos (by omega) (key _ hl i hi ?_ _ ?_)
    · rw [rd_get (by omega), List.getElem_append_right (by rw [tab_len]; omega)]; simp
    · rw [show n - i = (n - (i + 1)) + 1 by omega, List.replicate_succ, List.set_append_right _ _ (by rw [tab_len]; omega), tab_len, Nat.sub_self, List.set_cons_zero]
      rw [tab_succ, List.append_assoc] at ih
      exact ih
theorem pwSwings_ev (n i : Nat) (hn : n ≤ 9) (hi : i < n) (g : Nat → Bool) : Ev (fun k => spec_pwSwings.f k (tabB g (2 ^ n)) (i : Int)) (((List.range (2 ^ n)).filter (swB g i)).map fun (x : Nat) => (x : Int)) := by
  have hp := (pow_lt9 hi hn).2
  have hp1 := (pow_lt9 hi hn).1
  unfold spec_pwSwings.f
  have := ev_rangeS (2 ^ n) (fun k j (y : List Int) => spec_pwSwings.l0 k (tabB g (2 ^ n)) (i : Int) y (tabB g (2 ^ n)) ((2 ^ n : Nat) : Int) (j : Int)) (fun j y => y ++ (((List.range (2 ^ n)).drop j).filter (swB g i)).map fun (x : Nat) => (x : Int))
      (fun j y => y.length ≤ j) ?_ ?_ 0 ([] : List Int) (Nat.zero_le _) (Nat.le_refl _)
  · simpa [tabB_len] using this
  · intro y _
    refine ev_succ ?_
    simp only [spec_pwSwings.l0]
    exact ev_neg (Int.lt_irrefl _) (ev_eqv (Ev.now _) (by rw [List.drop_of_length_le (by simp)]; simp))
  · intro j y hj hy ih
    refine ev_succ ?_
    simp only [spec_pwSwings.l0, tabB_len]
    have hd : (List.range (2 ^ n)).drop j = j :: (List.range (2 ^ n)).drop (j + 1) := by rw [List.drop_eq_getElem_cons (by simpa using hj), List.getElem_range]
    rw [hd, List.filter_cons]
    refine ev_pos (by omega) (ev_pos (by omega) (ev_pos (by omega) (ev_pos (by omega) ?_)))
    rw [wrap_succ hj (by omega), rdOf_tab hj]
    refine ev_ite (fun hb => ?_) (fun hb => ?_)
    · rw [tmod_bit j i (by omega)] at hb
      refine ev_bool (fun e => ?_) (fun e => ?_)
      · rw [if_neg (by simp [swB, e])]; exact ih y (by omega)
      · have hw : wrap64 ((j : Int) + shl .i64 1 (i : Int)) = ((j + 2 ^ i : Nat) : Int) := by
          rw [shl_one_nat i (by omega)]
          generalize 2 ^ i = q at *
          unfold wrap64; omega
        have hl := add_lt j i n hn hj hi hb
        rw [hw, rdOf_tab hl]
        refine ev_pos (Int.natCast_nonneg _) (ev_pos (Int.ofNat_lt.2 hl) (ev_bool (fun e2 => ?_) (fun e2 => ?_)))
        · refine ev_pos (by omega) (ev_eqv (ih (y ++ [(j : Int)]) (by simp; omega)) ?_)
          rw [if_pos (by simp [swB, e, hb, e2]), List.map_cons, List.append_assoc]; rfl
        · rw [if_neg (by simp [swB, e2])]; exact ih y (by omega)
    · rw [tmod_bit j i (by omega), Bool.not_eq_false] at hb
      rw [if_neg (by simp [swB, hb])]; exact ih y (by omega)
theorem rest_lt (n M : Nat) : 2 ^ n - 1 - M < 2 ^ n := by
  have : 1 ≤ 2 ^ n := Nat.one_le_two_pow
  generalize 2 ^ n = N at *
  omega
def tellA (k a : Int) (g : Nat → Bool) (N : Nat) : Int :=
  if k = 1 then cntB g N 0 else if k = 4 then (if properB g N = true then 1 else 0) else if k = 5 then (if strongB g N = true then 1 else 0) else a
def tellB (k a : Int) (g : Nat → Bool) (N : Nat) : Int :=
  if k = 0 then (if g a.toNat = true then 1 else 0) else if k = 2 then (if g (N - 1 - 2 ^ a.toNat) = true then 0 else 1) else if k = 3 then cntB (swB g a.toNat) N 0 else 0
def AskOk (n : Nat) (k a : Int) : Prop := (k = 0 → 0 ≤ a ∧ a < ((2 ^ n : Nat) : Int)) ∧ (k = 2 → 0 ≤ a ∧ a < (n : Int)) ∧ (k = 3 → 0 ≤ a ∧ a < (n : Int))
theorem clueOk_ask {n : Nat} {k a b : Int} (h : clueOk (n : Int) k a b = true) : AskOk n k a := by
  unfold clueOk at h
  refine ⟨?_, ?_, ?_⟩
  · rintro rfl
    rw [if_pos rfl, Bool.and_eq_true, inB_iff, Int.toNat_natCast] at h
    refine ⟨h.1.1, ?_⟩
    have := h.1.2
    push_cast
    omega
  · rintro rfl
    rw [if_neg (by decide), if_neg (by decide), if_pos rfl, Bool.and_eq_true, inB_iff] at h
    omega
  · rintro rfl
    rw [if_neg (by decide), if_neg (by decide), if_neg (by decide), if_pos rfl, Bool.and_eq_true, inB_iff] at h
    omega
theorem told_ev (n : Nat) (h : 1 ≤ n ∧ n ≤ 9) (g : Nat → Bool) (k a : Int) (hk : 0 ≤ k ∧ k ≤ 5) (ha : AskOk n k a) :
    Ev (fun r => impl_votes_told.f r (n : Int) (tabB g (2 ^ n)) k a) (k, if k = 0 ∨ k = 1 ∨ k = 2 ∨ k = 3 ∨ k = 4 ∨ k = 5 then tellA k a g (2 ^ n) else 0, tellB k a g (2 ^ n)) := by
  have hm : 1 ≤ (n : Int) ∧ (n : Int) ≤ 9 := by omega
  have e0 : (n : Int).toNat = n := Int.toNat_natCast n
  have hj : ∀ x y z : Int, Ev (fun r => impl_votes_told.j0 r x y z) (x, y, z) := fun x y z => by
    refine ev_succ ?_
    simp only [impl_votes_told.j0]
    exact Ev.now _
  have hp : 2 ^ n ≤ 512 := Nat.pow_le_pow_right (n := 2) (by decide) (show n ≤ 9 by omega)
  unfold impl_votes_told.f
  have hcase : k = 0 ∨ k = 1 ∨ k = 2 ∨ k = 3 ∨ k = 4 ∨ k = 5 := by omega
  rw [if_pos hcase]
  rcases hcase with rfl | rfl | rfl | rfl | rfl | rfl
  · obtain ⟨h0, h1⟩ := ha.1 rfl
    obtain ⟨x, rfl⟩ := Int.eq_ofNat_of_zero_le h0
    have hx : x < 2 ^ n := by exact_mod_cast h1
    refine ev_pos rfl (ev_pos h0 (ev_pos (by rw [tabB_len]; exact h1) ?_))
    rw [rdOf_tab hx]
    refine ev_bindS (oneIf_eq _) (ev_eqv (hj _ _ _) ?_)
    unfold tellA tellB
    simp
  · refine ev_neg (by decide) (ev_pos rfl (Ev.bind (countWins_ev _ g _ hp) (ev_eqv (hj _ _ _) ?_)))
    unfold tellA tellB
    simp
  · obtain ⟨h0, h1⟩ := ha.2.1 rfl
    obtain ⟨x, rfl⟩ := Int.eq_ofNat_of_zero_le h0
    have hx : x < n := by exact_mod_cast h1
    have hq := (pow_lt9 hx h.2).1
    have hr := rest_mask (n : Int) hm (2 ^ x) (by rw [e0]; exact hq)
    have hall := all_eq (n : Int) (tabB g (2 ^ n)) hm
    rw [e0] at hr hall
    refine ev_neg (by decide) (ev_neg (by decide) (ev_pos rfl (ev_bindS hall (ev_pos h0 ?_))))
    rw [shl_one_nat x (by omega), hr, tabB_len]
    refine ev_pos (Int.natCast_nonneg _) (ev_pos (Int.ofNat_lt.2 (rest_lt n _)) ?_)
    rw [rdOf_tab (rest_lt n (2 ^ x))]
    refine ev_bindS (oneIf_eq _) (ev_eqv (hj _ _ _) ?_)
    unfold tellA tellB
    simp
    by_cases hg : g (2 ^ n - 1 - 2 ^ x) = true <;> simp [hg]
  · obtain ⟨h0, h1⟩ := ha.2.2 rfl
    obtain ⟨x, rfl⟩ := Int.eq_ofNat_of_zero_le h0
    have hx : x < n := by exact_mod_cast h1
    have hs := swings_ev (n : Int) hm g
    rw [e0] at hs
    refine ev_neg (by decide) (ev_neg (by decide) (ev_neg (by decide) (ev_pos rfl (Ev.bind hs (ev_pos h0 (ev_pos (by rw [tab_len]; exact h1) (ev_eqv (hj _ _ _) ?_)))))))
    rw [rd_get (by rw [tab_len]; exact hx), tab_get]
    unfold tellA tellB
    simp
  · have hs := isProper_ev (n : Int) hm g
    rw [e0] at hs
    refine ev_neg (by decide) (ev_neg (by decide) (ev_neg (by decide) (ev_neg (by decide) (ev_pos rfl (Ev.bind hs (ev_bindS (oneIf_eq _) (ev_eqv (hj _ _ _) ?_)))))))
    unfold tellA tellB
    simp
  · have hs := isStrong_ev (n : Int) hm g
    rw [e0] at hs
    refine ev_neg (by decide) (ev_neg (by decide) (ev_neg (by decide) (ev_neg (by decide) (ev_neg (by decide) (ev_pos rfl (Ev.bind hs (ev_bindS (oneIf_eq _) (ev_eqv (hj _ _ _) ?_))))))))
    unfold tellA tellB
    simp
def tellV (k a : Int) (g : Nat → Bool) (N : Nat) : Int := if k = 1 ∨ 3 < k then tellA k a g N else tellB k a g N
theorem pzValue_ev (n : Nat) (h : 1 ≤ n ∧ n ≤ 9) (g : Nat → Bool) (k a : Int) (hk : 0 ≤ k ∧ k ≤ 5) (ha : AskOk n k a) : Ev (fun r => spec_pzValue.f r k a (tabB g (2 ^ n))) (tellV k a g (2 ^ n)) := by
  have hp : 2 ^ n ≤ 512 := Nat.pow_le_pow_right (n := 2) (by decide) (show n ≤ 9 by omega)
  have h1p : 1 ≤ 2 ^ n := Nat.one_le_two_pow
  unfold spec_pzValue.f
  rw [tabB_len]
  have hw : wrap64 (((2 ^ n : Nat) : Int) - 1) = ((2 ^ n - 1 : Nat) : Int) := by
    generalize 2 ^ n = N at *
    unfold wrap64; omega
  rw [hw]
  have hcase : k = 0 ∨ k = 1 ∨ k = 2 ∨ k = 3 ∨ (k = 4 ∨ k = 5) := by omega
  rcases hcase with rfl | rfl | rfl | rfl | hk45
  · obtain ⟨h0, h1⟩ := ha.1 rfl
    obtain ⟨x, rfl⟩ := Int.eq_ofNat_of_zero_le h0
    have hx : x < 2 ^ n := by exact_mod_cast h1
    refine ev_pos rfl (ev_pos h0 (ev_pos h1 ?_))
    rw [rdOf_tab hx]
    refine ev_bindS (pzOne_eq _) (ev_eqv (Ev.now _) ?_)
    simp [tellV, tellB]
  · exact ev_neg (by decide) (ev_pos rfl (ev_eqv (pzValue_l0 g _ hp) (by simp [tellV, tellA])))
  · obtain ⟨h0, h1⟩ := ha.2.1 rfl
    obtain ⟨x, rfl⟩ := Int.eq_ofNat_of_zero_le h0
    have hx : x < n := by exact_mod_cast h1
    have hq := (pow_lt9 hx h.2).1
    have hw2 : wrap64 (((2 ^ n - 1 : Nat) : Int) - shl .i64 1 (x : Int)) = ((2 ^ n - 1 - 2 ^ x : Nat) : Int) := by
      rw [shl_one_nat x (by omega)]
      generalize 2 ^ n = N at *
      generalize 2 ^ x = M at *
      unfold wrap64; omega
    refine ev_neg (by decide) (ev_neg (by decide) (ev_pos rfl (ev_pos h0 ?_)))
    rw [hw2]
    refine ev_pos (Int.natCast_nonneg _) (ev_pos (Int.ofNat_lt.2 (rest_lt n _)) ?_)
    rw [rdOf_tab (rest_lt n (2 ^ x))]
    refine ev_bindS (pzOne_eq _) (ev_eqv (Ev.now _) ?_)
    simp [tellV, tellB]
    by_cases hg : g (2 ^ n - 1 - 2 ^ x) = true <;> simp [hg]
  · obtain ⟨h0, h1⟩ := ha.2.2 rfl
    obtain ⟨x, rfl⟩ := Int.eq_ofNat_of_zero_le h0
    have hx : x < n := by exact_mod_cast h1
    refine ev_neg (by decide) (ev_neg (by decide) (ev_neg (by decide) (ev_pos rfl (Ev.bind (pwSwings_ev n x h.2 hx g) (ev_eqv (Ev.now _) ?_)))))
    simp [tellV, tellB, cntB]
  · refine ev_neg (by omega) (ev_neg (by omega) (ev_neg (by omega) (ev_neg (by omega) (ev_eqv (pzValue_l1 k hk45 g _ hp h1p) ?_))))
    rcases hk45 with rfl | rfl <;> simp [tellV, tellA]
theorem pzFits_ev (n : Nat) (h : 1 ≤ n ∧ n ≤ 9) (g : Nat → Bool) (k a b : Int) (hk : 0 ≤ k ∧ k ≤ 5) (ha : AskOk n k a) (hb : k = 1 ∨ 3 < k → b = 0) :
    Ev (fun r => spec_pzFits.f r k a b (tabB g (2 ^ n))) (decide (tellA k a g (2 ^ n) = a ∧ tellB k a g (2 ^ n) = b)) := by
  have key : ∀ x, x = decide (k = 1 ∨ 3 < k) → Ev (fun r => spec_pzFits.j0 r (tabB g (2 ^ n)) x k a b) (decide (tellA k a g (2 ^ n) = a ∧ tellB k a g (2 ^ n) = b)) := by
    rintro x rfl
    refine ev_succ ?_
    simp only [spec_pzFits.j0]
    by_cases c : k = 1 ∨ 3 < k
    · refine ev_pos (by simpa using c) (Ev.bind (pzValue_ev n h g k 0 hk ⟨by omega, by omega, by omega⟩) (ev_eqv (Ev.now _) ?_))
      have e1 : tellV k 0 g (2 ^ n) = tellA k a g (2 ^ n) := by
        have : k = 1 ∨ k = 4 ∨ k = 5 := by omega
        rcases this with rfl | rfl | rfl <;> simp [tellV, tellA]
      have e2 : tellB k a g (2 ^ n) = 0 := by
        have : k = 1 ∨ k = 4 ∨ k = 5 := by omega
        rcases this with rfl | rfl | rfl <;> simp [tellB]
      rw [e1, e2, hb c, Bool.eq_iff_iff]; simp
    · refine ev_neg (by simpa using c) (Ev.bind (pzValue_ev n h g k a hk ha) (ev_eqv (Ev.now _) ?_))
      have e1 : tellV k a g (2 ^ n) = tellB k a g (2 ^ n) := by unfold tellV; rw [if_neg c]
      have e2 : tellA k a g (2 ^ n) = a := by
        have : k = 0 ∨ k = 2 ∨ k = 3 := by omega
        rcases this with rfl | rfl | rfl <;> simp [tellA]
      rw [e1, e2, Bool.eq_iff_iff]; simp
  unfold spec_pzFits.f
  exact ev_ite (fun e => key _ (by simp [e])) (fun e => key _ (by simp [e]))
def setK (m : Nat) : List Int := ((List.range 4).filter fun i => m >>> i % 2 == 1).map fun (i : Nat) => (i : Int)
def lookT : Nat → List Bool → Option (List (List Bool))
  | 0, p => some (if rdOf false p ((p.length - 1 : Nat) : Int) = false then [] else if rdOf false p 0 = true then [] else [p])
  | d + 1, p => (mustO p (setK p.length) false).bind fun m => (lookT d (p ++ [true])).bind fun l1 => if m = true then some l1 else (lookT d (p ++ [false])).bind fun l2 => some (l1 ++ l2)
def tabsK (n : Nat) : List (List Bool) := (lookT (2 ^ n) []).getD []
def leastK (t : List Bool) : List (List Int) := sortL lexB (((List.range t.length).filter fun m => t.getD m false && (List.range 4).all fun i => !(m >>> i % 2 == 1 && t.getD (m - 2 ^ i) false)).map setK)
def gamesK (n : Nat) : List (List (List Int)) := sortL lexG ((tabsK n).map leastK)
theorem voList_K : ∀ m : Nat, m < 16 → spec_voList.f 40 (m : Int) = some (setK m) := by decide +kernel
theorem look_K : ∀ n, n < 5 → (lookT (2 ^ n) []).isSome = true := by decide +kernel
theorem gmOf_K : ∀ n : Nat, n < 5 → 1 ≤ n → ∀ t ∈ tabsK n, (spec_gmOf.f 100 n t) = some ((n : Int), leastK t) := by decide +kernel
theorem win_K : ∀ n : Nat, n < 5 → 1 ≤ n → ∀ t ∈ tabsK n, winT n (leastK t) = t := by decide +kernel
theorem games_K1 : (impl_allGames.f 1200 1).map (·.map fun g => (g.f0, g.f1)) = some ((gamesK 1).map fun s => (1, s)) := by decide +kernel
theorem games_K2 : (impl_allGames.f 1200 2).map (·.map fun g => (g.f0, g.f1)) = some ((gamesK 2).map fun s => (2, s)) := by decide +kernel
theorem games_K3 : (impl_allGames.f 1200 3).map (·.map fun g => (g.f0, g.f1)) = some ((gamesK 3).map fun s => (3, s)) := by decide +kernel
theorem games_K4 : (impl_allGames.f 1200 4).map (·.map fun g => (g.f0, g.f1)) = some ((gamesK 4).map fun s => (4, s)) := by decide +kernel
theorem len_K : ∀ n : Nat, n < 5 → 1 ≤ n → ((tabsK n).length ≤ 1000000 ∧ ∀ t ∈ tabsK n, t.length = 2 ^ n) := by decide +kernel
theorem sets_K : ∀ n : Nat, n < 5 → 1 ≤ n → ∀ t ∈ tabsK n, (leastK t).length ≤ 16 ∧ ∀ s ∈ leastK t, isSetB s n = true ∧ s.length ≤ 16 := by decide +kernel
theorem games_K : ∀ n : Nat, n < 5 → 1 ≤ n → (impl_allGames.f 1200 n).map (·.map fun g => (g.f0, g.f1)) = some ((gamesK n).map fun s => ((n : Int), s))
  | 1, _, _ => games_K1
  | 2, _, _ => games_K2
  | 3, _, _ => games_K3
  | 4, _, _ => games_K4
  | n + 5, h, _ => absurd h (by omega)
  | 0, _, h => absurd h (by decide)
theorem any_eq_mem {α : Type} {p q : α → Bool} : ∀ {l : List α}, (∀ x ∈ l, p x = q x) → l.any p = l.any q
  | [], _ => rfl
  | x :: xs, h => by rw [List.any_cons, List.any_cons, h x (List.mem_cons_self ..), any_eq_mem fun y hy => h y (List.mem_cons_of_mem _ hy)]
theorem votesOf_l0 (p : Int → Option Bool) (q : Nat → Bool) (a n : Nat) (m : Int) (hn : n ≤ 1048576) (h : ∀ i, i < n → p (i : Int) = some (q i)) : Ev (fun k => impl_votesOf.l0 p k (n : Int) 0 m (List.replicate n false)) (m, tabB q n) := by
  have := ev_range n (fun k i => impl_votesOf.l0 p k (n : Int) (i : Int) m (tabB q i ++ List.replicate (n - i) false)) (fun _ => (m, tabB q n)) ?_ ?_ 0 (Nat.zero_le _)
  · simpa [tabB] using this
  · refine ev_succ ?_
    simp only [impl_votesOf.l0]
    exact ev_neg (Int.lt_irrefl _) (ev_eqv (Ev.now _) (by simp))
  · intro i hi ih
    refine ev_succ ?_
    simp only [impl_votesOf.l0]
    have hlen : (tabB q i ++ List.replicate (n - i) false).length = n := by rw [List.length_append, tabB_len, List.length_replicate]; omega
    refine ev_pos (by omega) (ev_bindS (h i hi) (ev_pos (by omega) (ev_pos (by rw [hlen]; omega) ?_)))
    rw [wrap_succ hi (Nat.le_trans hn (by decide)), Int.toNat_natCast, show n - i = (n - (i + 1)) + 1 by omega, List.replicate_succ, tabB_set, tabB_next]
    exact ih
theorem votesOf_ev (p : Int → Option Bool) (q : Nat → Bool) (m : Int) (hm : 0 ≤ m ∧ m ≤ 9) (h : ∀ i : Nat, i < 2 ^ m.toNat → p (i : Int) = some (q i)) : Ev (fun k => impl_votesOf.f k m p) (m, tabB q (2 ^ m.toNat)) := by
  have hp : 2 ^ m.toNat ≤ 512 := Nat.pow_le_pow_right (n := 2) (by decide) (show m.toNat ≤ 9 by omega)
  have hs : shl .i64 1 m = ((2 ^ m.toNat : Nat) : Int) := by rw [shl_one m (by omega)]; simp
  have hl0 := votesOf_l0 p q 0 (2 ^ m.toNat) m (by omega) h
  unfold impl_votesOf.f
  refine ev_pos hm.1 ?_
  rw [hs]
  generalize 2 ^ m.toNat = n at *
  have hn2 : (n : Int).toNat ≤ 281474976710656 := by rw [Int.toNat_natCast]; exact Nat.le_trans hp (by decide)
  refine ev_pos (Int.natCast_nonneg n) (ev_pos hn2 (ev_bindS rfl ?_))
  simp only [Int.toNat_natCast, List.length_replicate]
  exact hl0
theorem votesBy_l0 (m : Int) (l : List (List Int)) (hl : l.length ≤ 1048576) (h : SetsOk m l) : Ev (fun k => impl_votesBy.l0 k m l (l.length : Int) 0 []) (m, winT m l) := by
  have := ev_range l.length (fun k i => impl_votesBy.l0 k m l (l.length : Int) (i : Int) ((l.take i).map fun s => ((maskN 0 s : Nat) : Int))) (fun _ => (m, winT m l)) ?_ ?_ 0 (Nat.zero_le _)
  · simpa using this
  · refine ev_succ ?_
    simp only [impl_votesBy.l0]
    refine ev_neg (Int.lt_irrefl _) ?_
    rw [List.take_length]
    unfold votesOf_votesBy.f
    refine Ev.bind (votesOf_ev _ (winB l) m (by have := h.1; omega) (fun i hi => ?_)) (Ev.now _)
    have hp := pow_le512 h.1
    rw [anyO_some (q := fun x => Go.bits .and .i64 (i : Int) x == x) (fun _ _ => rfl), List.any_map]
    congr 1
    unfold winB
    refine any_eq_mem fun s hs => ?_
    obtain ⟨j, hj, rfl⟩ := List.mem_iff_getElem.1 hs
    have hlt := h.lt hj
    unfold mk at hlt
    rw [getD_get hj] at hlt
    exact and_self_nat (by omega) hlt
  · intro i hi ih
    refine ev_succ ?_
    simp only [impl_votesBy.l0]
    refine ev_pos (by omega) (ev_pos (by omega) (ev_pos (by omega) ?_))
    rw [rdL1_get hi, wrap_succ hi (Nat.le_trans hl (by decide))]
    have hm := (h.masks hi).1
    have hk : mk l i = maskN 0 l[i] := by unfold mk; rw [getD_get hi]
    rw [hk] at hm
    refine Ev.bind hm (ev_pos (by rw [List.length_map, List.length_take]; omega) ?_)
    rw [List.take_succ_eq_append_getElem hi, List.map_append] at ih
    exact ih
theorem votesBy_ev (m : Int) (l : List (List Int)) (hl : l.length ≤ 1048576) (h : SetsOk m l) : Ev (fun k => impl_votesBy.f k m l) (m, winT m l) := by
  unfold impl_votesBy.f
  exact votesBy_l0 m l hl h
theorem Game_votes_ev (m : Int) (l : List (List Int)) (hl : l.length ≤ 1048576) (h : SetsOk m l) : Ev (fun k => impl_Game_votes.f k m l) (m, winT m l) := by
  unfold impl_Game_votes.f
  exact Ev.bind (votesBy_ev m l hl h) (Ev.now _)
def mkG (n : Nat) (s : List (List Int)) : S28 := ⟨(n : Int), s⟩
def fitC (n : Nat) (t : List Bool) (c : S67) : Bool := decide (tellA c.f0 c.f1 (fun i => t.getD i false) (2 ^ n) = c.f1 ∧ tellB c.f0 c.f1 (fun i => t.getD i false) (2 ^ n) = c.f2)
def fitA (n : Nat) (l : List S67) (t : List Bool) : Bool := l.all (fitC n t)
def solsK (n : Nat) (l : List S67) : List (List (List Int)) := (gamesK n).filter fun s => fitA n l (winT n s)
def CluesOk (n : Nat) (l : List S67) : Prop := ∀ c ∈ l, clueOk (n : Int) c.f0 c.f1 c.f2 = true
theorem tab_self {N : Nat} (t : List Bool) (h : t.length = N) : tabB (fun i => t.getD i false) N = t := by
  refine List.ext_getElem (by rw [tabB_len, h]) fun i h1 h2 => ?_
  rw [tabB_get, getD_get h2]
theorem clueOk_kind {n k a b : Int} (h : clueOk n k a b = true) : (0 ≤ k ∧ k ≤ 5) ∧ (k = 1 ∨ 3 < k → b = 0) := by
  unfold clueOk at h
  split at h
  · omega
  split at h
  · simp at h; omega
  split at h
  · omega
  split at h
  · omega
  split at h
  · simp at h; omega
  split at h
  · simp at h; omega
  · cases h
theorem fitC_ev {n : Nat} (hn : 1 ≤ n ∧ n ≤ 9) (t : List Bool) (ht : t.length = 2 ^ n) (c : S67) (hc : clueOk (n : Int) c.f0 c.f1 c.f2 = true) : Ev (fun k => spec_pzFits.f k c.f0 c.f1 c.f2 t) (fitC n t c) := by
  obtain ⟨hk, hk2⟩ := clueOk_kind hc
  have := pzFits_ev n hn (fun i => t.getD i false) c.f0 c.f1 c.f2 hk (clueOk_ask hc) hk2
  rwa [tab_self t ht] at this
theorem fitsO_ev {n : Nat} (hn : 1 ≤ n ∧ n ≤ 9) (t : List Bool) (ht : t.length = 2 ^ n) : ∀ (l : List S67), CluesOk n l → Ev (fun k => fitsO k t l) (fitA n l t)
  | [], _ => Ev.now _
  | c :: l, h => by
    have h1 := fitC_ev hn t ht c (h c (List.mem_cons_self ..))
    have h2 := fitsO_ev hn t ht l (fun x hx => h x (List.mem_cons_of_mem _ hx))
    unfold fitA
    rw [List.all_cons]
    refine Ev.bind h1 (ev_bool (fun e => ?_) (fun e => ?_))
    · rw [e]; exact h2
    · rw [e]; exact Ev.now _
theorem look_ev {n : Nat} (hn : 1 ≤ n ∧ n < 5) (l : List S67) (hl : CluesOk n l) : ∀ (d : Nat) (p : List Bool) (ts : List (List Bool)), p.length + d ≤ 16 → lookT d p = some ts → (∀ t ∈ ts, t ∈ tabsK n) →
    Ev (fun k => spec_pzLook.f k n l d p) ((ts.filter (fitA n l)).map fun t => mkG n (leastK t))
  | 0, p, ts, _, h, hm => by
    unfold lookT at h
    obtain rfl := Option.some.inj h
    unfold spec_pzLook.f
    by_cases h1 : rdOf false p ((p.length - 1 : Nat) : Int) = false
    · refine ev_pos h1 (ev_eqv (Ev.now _) ?_)
      rw [if_pos h1]; rfl
    · refine ev_neg h1 ?_
      rw [if_neg h1] at hm ⊢
      by_cases h2 : rdOf false p 0 = true
      · refine ev_pos h2 (ev_eqv (Ev.now _) ?_)
        rw [if_pos h2]; rfl
      · refine ev_neg h2 ?_
        rw [if_neg h2] at hm ⊢
        have hp := hm p (List.mem_singleton.2 rfl)
        refine Ev.bind (fitsO_ev (n := n) ⟨hn.1, by omega⟩ p ((len_K n hn.2 hn.1).2 p hp) l hl) (ev_bool (fun e => ?_) (fun e => ?_))
        · refine Ev.bind (Ev.of (spec_gmOf.mono _ _) (gmOf_K n hn.2 hn.1 p hp)) (ev_eqv (Ev.now _) ?_)
          rw [List.filter_cons_of_pos e]; rfl
        · rw [List.filter_cons_of_neg (by rw [e]; decide)]; exact Ev.now _
  | d + 1, p, ts, hd, h, hm => by
    unfold lookT at h
    obtain ⟨m, hmu, h⟩ := Option.bind_eq_some_iff.mp h
    obtain ⟨l1, h1, h⟩ := Option.bind_eq_some_iff.mp h
    unfold spec_pzLook.f
    refine Ev.bind (Ev.of (spec_voList.mono _) (voList_K p.length (by omega))) (ev_bindS hmu ?_)
    cases m with
    | true =>
      rw [if_pos rfl] at h
      obtain rfl := Option.some.inj h
      exact Ev.bind (look_ev hn l hl d (p ++ [true]) l1 (by rw [List.length_append, List.length_singleton]; omega) h1 hm) (ev_pos rfl (Ev.now _))
    | false =>
      rw [if_neg (by decide)] at h
      obtain ⟨l2, h2, h⟩ := Option.bind_eq_some_iff.mp h
      obtain rfl := Option.some.inj h
      refine Ev.bind (look_ev hn l hl d (p ++ [true]) l1 (by rw [List.length_append, List.length_singleton]; omega) h1 (fun t ht => hm t (List.mem_append_left _ ht))) (ev_neg (by decide) (Ev.bind (look_ev hn l hl d (p ++ [false]) l2 (by rw [List.length_append, List.length_singleton]; omega) h2 (fun t ht => hm t (List.mem_append_right _ ht))) (ev_eqv (Ev.now _) ?_)))
      rw [List.filter_append, List.map_append]
theorem gmBefore_ev (a b : Int) (l1 l2 : List (List Int)) (h1 : l1.length ≤ 1048576) (hx : ∀ x ∈ l1, x.length ≤ 1048576) (hy : ∀ x ∈ l2, x.length ≤ 1048576) : Ev (fun k => spec_gmBefore.f k a l1 b l2) (lexG l1 l2) := by
  unfold spec_gmBefore.f
  have := ev_range l1.length (fun k i => spec_gmBefore.l0 k l1 (l1.length : Int) (i : Int) a l1 b l2) (fun i => lexG (l1.drop i) (l2.drop i)) ?_ ?_ 0 (Nat.zero_le _)
  · simpa using this
  · refine ev_succ ?_
    simp only [spec_gmBefore.l0]
    refine ev_neg (by omega) (ev_eqv (Ev.now _) ?_)
    rw [drop_end]
    by_cases h : l1.length < l2.length
    · rw [List.drop_eq_getElem_cons h]; exact decide_eq_true (by omega)
    · rw [List.drop_of_length_le (Nat.le_of_not_lt h)]; exact decide_eq_false (by omega)
  · intro i hi ih
    refine ev_succ ?_
    simp only [spec_gmBefore.l0]
    refine ev_pos (by omega) (ev_pos (by omega) (ev_pos (by omega) ?_))
    rw [List.drop_eq_getElem_cons hi]
    by_cases h : i < l2.length
    · refine ev_neg (by omega) (ev_pos (by omega) ?_)
      rw [rdL1_get hi, rdL1_get h, wrap_succ hi (Nat.le_trans h1 (by decide)), List.drop_eq_getElem_cons h]
      refine Ev.bind (voBefore_ev _ _ (Nat.le_trans (hx _ (List.getElem_mem hi)) (by decide))) (ev_bool (fun e => ?_) (fun e => ?_))
      · refine ev_eqv (Ev.now _) ?_
        unfold lexG
        rw [if_neg (fun e2 => by rw [e2, lexB_irrefl] at e; cases e)]
        exact e.symm
      · refine Ev.bind (voBefore_ev _ _ (Nat.le_trans (hy _ (List.getElem_mem h)) (by decide))) (ev_bool (fun e2 => ?_) (fun e2 => ?_))
        · refine ev_eqv (Ev.now _) ?_
          unfold lexG
          rw [if_neg (fun e3 => by rw [e3, lexB_irrefl] at e2; cases e2)]
          exact e.symm
        · have := lexB_total _ _ e e2
          unfold lexG
          rw [if_pos this]
          exact ih
    · rw [List.drop_of_length_le (Nat.le_of_not_lt h)]
      exact ev_pos (by omega) (Ev.now _)
theorem sortL_map {α β : Type} (lt : α → α → Bool) (lt' : β → β → Bool) (f : α → β) (h : ∀ a b, lt' (f a) (f b) = lt a b) (l : List α) : sortL lt' (l.map f) = (sortL lt l).map f := by
  have hi : ∀ x (ys : List α), insL lt' (f x) (ys.map f) = (insL lt x ys).map f := by
    intro x ys
    induction ys with
    | nil => rfl
    | cons y ys ih =>
      simp only [List.map_cons, insL, h]
      split
      · rw [ih]; rfl
      · rfl
  have : ∀ (l out : List α), (l.map f).foldl (fun out x => insL lt' x out) (out.map f) = (l.foldl (fun out x => insL lt x out) out).map f := by
    intro l
    induction l with
    | nil => intro out; rfl
    | cons x l ih => intro out; simp only [List.map_cons, List.foldl_cons]; rw [hi]; exact ih _
  exact this l []
def posL {α : Type} (lt : α → α → Bool) (x : α) : List α → Nat
  | [] => 0
  | y :: ys => if lt y x = true then posL lt x ys + 1 else 0
theorem insL_pos {α : Type} (lt : α → α → Bool) (x : α) : ∀ l, l.take (posL lt x l) ++ [x] ++ l.drop (posL lt x l) = insL lt x l
  | [] => rfl
  | y :: ys => by
    have ih := insL_pos lt x ys
    unfold posL insL
    by_cases h : lt y x = true
    · simp only [if_pos h, List.take_succ_cons, List.drop_succ_cons, List.cons_append]; rw [ih]
    · simp only [if_neg h]; rfl
def ltG (a b : S28) : Bool := lexG a.f1 b.f1
def GOk (g : S28) : Prop := g.f1.length ≤ 1048576 ∧ ∀ x ∈ g.f1, x.length ≤ 1048576
theorem pzPos_ev (g : S28) (hg : GOk g) : ∀ (l : List S28) (i : Nat), (∀ x ∈ l, GOk x) → Ev (fun k => pzPos k g l i) (i + posL ltG g l)
  | [], _, _ => Ev.now _
  | x :: xs, i, h => by
    have hx := h x (List.mem_cons_self ..)
    unfold pzPos posL
    refine Ev.bind (gmBefore_ev _ _ _ _ hx.1 hx.2 hg.2) (ev_bool (fun e => ?_) (fun e => ?_))
    · have e' : ltG x g = true := e
      rw [if_pos e']
      exact ev_eqv (pzPos_ev g hg xs (i + 1) (fun y hy => h y (List.mem_cons_of_mem _ hy))) (by omega)
    · have e' : ¬ ltG x g = true := by rw [show ltG x g = false from e]; decide
      rw [if_neg e']; exact Ev.now _
theorem pzSort_ev : ∀ (gs outs : List S28), (∀ x ∈ gs, GOk x) → (∀ x ∈ outs, GOk x) → Ev (fun k => pzSort k gs outs) (gs.foldl (fun out x => insL ltG x out) outs)
  | [], _, _, _ => Ev.now _
  | g :: gs, outs, h, ho => by
    have hg := h g (List.mem_cons_self ..)
    unfold pzSort pzIns
    refine Ev.bind (Ev.bind (ev_eqv (pzPos_ev g hg outs 0 ho) (Nat.zero_add _)) (Ev.now _)) ?_
    rw [insL_pos, List.foldl_cons]
    exact pzSort_ev gs _ (fun x hx => h x (List.mem_cons_of_mem _ hx)) (fun x hx => by
      rcases List.mem_cons.1 ((insL_perm ltG g outs).mem_iff.1 hx) with rfl | h2
      · exact hg
      · exact ho x h2)
theorem solsK_eq {n : Nat} (hn : 1 ≤ n ∧ n < 5) (l : List S67) : sortL ltG (((tabsK n).filter (fitA n l)).map fun t => mkG n (leastK t)) = (solsK n l).map (mkG n) := by
  have e : (((tabsK n).filter (fitA n l)).map fun t => mkG n (leastK t)) = (((tabsK n).map leastK).filter fun s => fitA n l (winT n s)).map (mkG n) := by
    rw [List.filter_map, List.map_map]
    refine congrArg _ (List.filter_congr fun t ht => ?_)
    show fitA n l t = fitA n l (winT n (leastK t))
    rw [win_K n hn.2 hn.1 t ht]
  rw [e, sortL_map lexG ltG (mkG n) (fun _ _ => rfl), sort_filter lexG lexG_ntrans (fun _ _ => lexG_asymm) lexG_total]
  rfl
theorem look_some {n : Nat} (hn : n < 5) : lookT (2 ^ n) [] = some (tabsK n) := by
  have h := look_K n hn
  unfold tabsK
  cases e : lookT (2 ^ n) [] with
  | none => rw [e] at h; cases h
  | some ts => rfl
theorem leastK_ok {n : Nat} (hn : 1 ≤ n ∧ n < 5) {t : List Bool} (ht : t ∈ tabsK n) : GOk (mkG n (leastK t)) := by
  have h := sets_K n hn.2 hn.1 t ht
  exact ⟨Nat.le_trans h.1 (by decide), fun x hx => Nat.le_trans (h.2 x hx).2 (by decide)⟩
theorem pzAll_ev {n : Nat} (hn : 1 ≤ n ∧ n < 5) (l : List S67) (hl : CluesOk n l) : Ev (fun k => spec_pzAll.f k n l) ((solsK n l).map (mkG n)) := by
  unfold spec_pzAll.f
  have h4 : 2 ^ n ≤ 16 := Nat.pow_le_pow_right (n := 2) (by decide) (show n ≤ 4 by omega)
  refine ev_pos (by omega) ?_
  rw [Int.toNat_natCast]
  refine Ev.bind (look_ev hn l hl (2 ^ n) [] (tabsK n) (by simpa using h4) (look_some hn.2) (fun _ h => h)) (ev_pos ?_ (ev_eqv (pzSort_ev _ [] ?_ ?_) (solsK_eq hn l)))
  · rw [List.length_map]
    exact Nat.le_trans (List.length_filter_le _ _) (len_K n hn.2 hn.1).1
  · intro x hx
    obtain ⟨t, ht, rfl⟩ := List.mem_map.1 hx
    exact leastK_ok hn (List.mem_filter.1 ht).1
  · intro x hx; cases hx
theorem allGames_ev {n : Nat} (hn : 1 ≤ n ∧ n < 5) : Ev (fun k => impl_allGames.f k n) ((gamesK n).map (mkG n)) := by
  have h := games_K n hn.2 hn.1
  cases e : impl_allGames.f 1200 n with
  | none => rw [e] at h; cases h
  | some gs =>
    rw [e] at h
    have h2 := Option.some.inj h
    have : gs = (gamesK n).map (mkG n) := by
      have h3 := congrArg (List.map fun (p : Int × List (List Int)) => (⟨p.1, p.2⟩ : S28)) h2
      rw [List.map_map, List.map_map] at h3
      rw [show (gs.map ((fun (p : Int × List (List Int)) => (⟨p.1, p.2⟩ : S28)) ∘ fun g => (g.f0, g.f1))) = gs from (List.map_congr_left (fun _ _ => rfl)).trans (List.map_id _)] at h3
      exact h3
    rw [← this]
    exact Ev.of (impl_allGames.mono _) e
theorem gamesK_mem {n : Nat} {s : List (List Int)} (h : s ∈ gamesK n) : ∃ t ∈ tabsK n, s = leastK t := by
  obtain ⟨t, ht, rfl⟩ := List.mem_map.1 ((sortL_perm lexG _).mem_iff.1 h)
  exact ⟨t, ht, rfl⟩
theorem gamesK_sets {n : Nat} (hn : 1 ≤ n ∧ n < 5) {s : List (List Int)} (h : s ∈ gamesK n) : s.length ≤ 1048576 ∧ SetsOk n s := by
  obtain ⟨t, ht, rfl⟩ := gamesK_mem h
  have h := sets_K n hn.2 hn.1 t ht
  exact ⟨Nat.le_trans h.1 (by decide), ⟨by omega, fun x hx => ⟨(h.2 x hx).1, Nat.le_trans (h.2 x hx).2 (by decide)⟩⟩⟩
theorem solP_ev {n : Nat} (hn : 1 ≤ n ∧ n < 5) (l : List S67) (hl : CluesOk n l) (s : List (List Int)) (hs : s ∈ gamesK n) : Ev (fun k => solP k l (mkG n s)) (!fitA n l (winT n s)) := by
  obtain ⟨h1, h2⟩ := gamesK_sets hn hs
  unfold solP
  refine Ev.bind (Game_votes_ev (n : Int) s h1 h2) ?_
  have e : (!fitA n l (winT n s)) = l.any fun c => !fitC n (winT n s) c := by
    unfold fitA; rw [List.not_all_eq_any_not]
  rw [e]
  refine ev_anyO _ _ l fun c hc => ?_
  obtain ⟨hk, hk2⟩ := clueOk_kind (hl c hc)
  have ht := told_ev n ⟨hn.1, by omega⟩ (fun i => (winT n s).getD i false) c.f0 c.f1 hk (clueOk_ask (hl c hc))
  rw [if_pos (show c.f0 = 0 ∨ c.f0 = 1 ∨ c.f0 = 2 ∨ c.f0 = 3 ∨ c.f0 = 4 ∨ c.f0 = 5 by omega), tab_self (winT n s) (by unfold winT; rw [tabB_len, Int.toNat_natCast])] at ht
  unfold impl_solutions_1_1.f
  refine Ev.bind ht (ev_eqv (Ev.now _) ?_)
  unfold fitC
  rw [Bool.eq_iff_iff]
  simp [Decidable.not_and_iff_or_not]
theorem filO_ev {α : Type} (p : Nat → α → Option Bool) (q : α → Bool) : ∀ l : List α, (∀ x ∈ l, Ev (fun k => p k x) (!q x)) → Ev (fun k => filO (p k) l) (l.filter q)
  | [], _ => Ev.now _
  | x :: xs, h => by
    unfold filO
    refine Ev.bind (h x (List.mem_cons_self ..)) (Ev.bind (filO_ev p q xs (fun y hy => h y (List.mem_cons_of_mem _ hy))) (ev_eqv (Ev.now _) ?_))
    cases e : q x
    · rw [List.filter_cons_of_neg (by rw [e]; decide)]; rfl
    · rw [List.filter_cons_of_pos e]; rfl
theorem solutions_ev {n : Nat} (hn : 1 ≤ n ∧ n < 5) (l : List S67) (hl : CluesOk n l) : Ev (fun k => impl_solutions.f k n l) ((solsK n l).map (mkG n)) := by
  unfold impl_solutions.f
  refine Ev.bind (allGames_ev hn) (ev_pos ?_ ?_)
  · rw [List.length_map]
    unfold gamesK
    rw [(sortL_perm lexG _).length_eq, List.length_map]
    exact (len_K n hn.2 hn.1).1
  · refine ev_eqv (filO_ev (fun k => solP k l) (fun g => fitA n l (winT n g.f1)) _ ?_) ?_
    · intro x hx
      obtain ⟨s, hs, rfl⟩ := List.mem_map.1 hx
      exact solP_ev hn l hl s hs
    · rw [List.filter_map]; rfl
deriving instance DecidableEq for S67
theorem rdI_get {xs : List S67} {i : Nat} (h : i < xs.length) : rd_T67 xs (i : Int) = xs[i] := by unfold rd_T67; rw [Int.toNat_natCast]; exact getD_get h
theorem eqClue_eq (x y : S67) : laws_eqClue.f x.f0 x.f1 x.f2 y.f0 y.f1 y.f2 = some (decide (x = y)) := by
  unfold laws_eqClue.f
  obtain ⟨a, b, c⟩ := x
  obtain ⟨d, e, f⟩ := y
  simp only [S67.mk.injEq]
  repeat' split
  all_goals simp_all
theorem eqClueS_ev (a b : List S67) (ha : a.length ≤ 1152921504606) : Ev (fun k => laws_eqClueS.f k a b) (decide (a = b)) := by
  unfold laws_eqClueS.f
  by_cases hl : a.length = b.length
  · refine ev_pos (by omega) ?_
    refine ev_range a.length (fun k i => laws_eqClueS.l0 k a b (i : Int)) (fun i => decide (a.drop i = b.drop i)) ?_ ?_ 0 (Nat.zero_le _)
    · refine ev_succ ?_
      simp only [laws_eqClueS.l0]
      refine ev_neg (by omega) (ev_eqv (Ev.now _) ?_)
      rw [List.drop_of_length_le (by omega), List.drop_of_length_le (by omega)]; simp
    · intro i hi ih
      have h2 : i < b.length := by omega
      refine ev_succ ?_
      simp only [laws_eqClueS.l0]
      refine ev_pos (by omega) (ev_pos (by omega) (ev_pos (by omega) ?_))
      rw [rdI_get hi, rdI_get h2, eqClue_eq, wrap_succ hi (by omega), eq_drop a b i hi h2]
      refine ev_bool (fun h => ?_) (fun h => ?_)
      · rw [h]; exact ih
      · rw [h]; exact Ev.now _
  · refine ev_neg (by omega) (ev_eqv (Ev.now false) ?_)
    exact (decide_eq_false fun e => hl (by rw [e])).symm
theorem eqPuzzle_ev (m n : Int) (a b : List S67) (ha : a.length ≤ 1152921504606) : Ev (fun k => laws_eqPuzzle.f k m a n b) (decide (m = n ∧ a = b)) := by
  unfold laws_eqPuzzle.f
  by_cases hm : m = n
  · refine ev_pos hm (Ev.bind (eqClueS_ev a b ha) (ev_bool (fun h => ev_eqv (Ev.now _) ?_) (fun h => ev_eqv (Ev.now _) ?_)))
    · exact (decide_eq_true ⟨hm, of_decide_eq_true h⟩).symm
    · exact (decide_eq_false fun e => of_decide_eq_false h e.2).symm
  · exact ev_neg hm (ev_eqv (Ev.now _) (decide_eq_false fun e => hm e.1).symm)
def clueI (x : S74) : S67 := ⟨x.f0, x.f1, x.f2⟩
theorem rdL_get {xs : List S74} {i : Nat} (h : i < xs.length) : rd_T74 xs (i : Int) = xs[i] := by unfold rd_T74; rw [Int.toNat_natCast]; exact getD_get h
theorem toClueS_ev (l : List S74) (hl : l.length ≤ 1152921504606) : Ev (fun k => laws_toClueS.f k l) (l.map clueI) := by
  unfold laws_toClueS.f
  refine ev_pos (by omega) (ev_pos (by omega) ?_)
  rw [Int.toNat_natCast]
  refine ev_range l.length (fun k i => laws_toClueS.l0 k l ((l.take i).map clueI ++ List.replicate (l.length - i) z67) (i : Int)) (fun _ => l.map clueI) ?_ ?_ 0 (Nat.zero_le _)
  · refine ev_succ ?_
    simp only [laws_toClueS.l0]
    exact ev_neg (by omega) (ev_eqv (Ev.now _) (by simp))
  · intro i hi ih
    refine ev_succ ?_
    simp only [laws_toClueS.l0, laws_toClue.f, Option.bind_some]
    refine ev_pos (by omega) (ev_pos (by omega) (ev_pos (by rw [copy_len _ _ _ _ (by omega)]; omega) ?_))
    rw [wrap_succ hi (by omega), Int.toNat_natCast, rdL_get hi, show (⟨l[i].f0, l[i].f1, l[i].f2⟩ : S67) = clueI l[i] from rfl, set_copy clueI _ l i hi]
    exact ih
theorem toPuzzle_ev (m : Int) (l : List S74) (hl : l.length ≤ 1152921504606) : Ev (fun k => laws_toPuzzle.f k m l) (m, l.map clueI) := by
  unfold laws_toPuzzle.f
  exact Ev.bind (toClueS_ev l hl) (Ev.now _)
theorem szPuzzle_eq (m : Int) (l : List S74) (n : Nat) (hn : n ≤ 1048576) (hl : l.length ≤ 9223372036854775807) : ∃ q, laws_szPuzzle.f m l (n : Int) = some q ∧ (¬ q < 0 → l.length ≤ n) := by
  unfold laws_szPuzzle.f laws_szClueS.f
  rw [wrap64_id (by omega)]
  by_cases h : (n : Int) - (l.length : Int) < 0
  · exact ⟨-1, by rw [if_pos h]; rfl, fun h => absurd (by decide) h⟩
  · exact ⟨_, by rw [if_neg h, Option.bind_some, if_neg h], fun _ => by omega⟩
def puzzleOk (m : Int) (l : List S67) : Bool := inB m 1 4 && (decide (l.length ≤ 8) && l.all fun x => clueOk m x.f0 x.f1 x.f2)
theorem pzGood_ev (m : Int) (l : List S67) : Ev (fun k => spec_pzGood.f k m l) (puzzleOk m l) := by
  unfold spec_pzGood.f puzzleOk
  simp only [pzMembers_eq, Option.bind_some]
  refine ev_bool (fun hb => ?_) (fun hb => ?_)
  · rw [hb]
    refine ev_succ ?_
    simp only [spec_pzGood.j0]
    by_cases hl : l.length ≤ 8
    · rw [decide_eq_true hl, decide_eq_false (show ¬ (l.length : Int) > 8 by omega)]
      refine ev_neg (by simp) ?_
      refine ev_range l.length (fun k i => spec_pzGood.l0 k l (l.length : Int) (i : Int) m l) (fun i => (l.drop i).all fun x => clueOk m x.f0 x.f1 x.f2) ?_ ?_ 0 (Nat.zero_le _)
      · refine ev_succ ?_
        simp only [spec_pzGood.l0]
        exact ev_neg (by omega) (ev_eqv (Ev.now _) (by rw [drop_end]; rfl))
      · intro i hi ih
        refine ev_succ ?_
        simp only [spec_pzGood.l0]
        refine ev_pos (by omega) (ev_pos (by omega) (ev_pos (by omega) ?_))
        rw [rdI_get hi, wrap_succ hi (by omega), pzClue_eq _ _ _ _ (inB_iff.1 hb), all_drop _ _ _ hi]
        exact ev_bool (fun h => by rw [h]; exact ih) (fun h => by rw [h]; exact Ev.now _)
    · rw [decide_eq_false hl, decide_eq_true (show (l.length : Int) > 8 by omega)]
      exact ev_pos (by simp) (Ev.now _)
  · rw [hb]
    refine ev_succ ?_
    simp only [spec_pzGood.j0]
    exact ev_pos (by simp) (Ev.now _)
theorem IsPuzzle_eq (m : Int) (l : List S67) : impl_IsPuzzle.f m l = some (puzzleOk m l) := by
  unfold impl_IsPuzzle.f puzzleOk
  rw [isHidden_eq, Option.bind_some]
  refine bind_ite_false fun hb => ?_
  by_cases hl : l.length ≤ 8
  · rw [if_pos (by omega), decide_eq_true hl]
    rw [anyO_some (q := fun x => !clueOk m x.f0 x.f1 x.f2) (fun x _ => by unfold impl_IsPuzzle_1.f; rw [IsClue_eq, hb]; rfl)]
    rw [Option.bind_some, any_not_all]; rfl
  · rw [if_neg (by omega), decide_eq_false hl]; rfl
def solsM (m : Int) (l : List S67) : List S28 := (solsK m.toNat l).map (mkG m.toNat)
theorem puzzleOk_nat {m : Int} {l : List S67} (h : puzzleOk m l = true) : ∃ n : Nat, m = (n : Int) ∧ (1 ≤ n ∧ n < 5) ∧ CluesOk n l ∧ l.length ≤ 8 := by
  unfold puzzleOk at h
  rw [Bool.and_eq_true, Bool.and_eq_true] at h
  have h1 := inB_iff.1 h.1
  have h2 := of_decide_eq_true h.2.1
  have h3 := List.all_eq_true.1 h.2.2
  obtain ⟨n, rfl⟩ := Int.eq_ofNat_of_zero_le (show 0 ≤ m by omega)
  exact ⟨n, rfl, by omega, fun c hc => h3 c hc, h2⟩
theorem sAll_ev {m : Int} {l l2 : List S67} (h : puzzleOk m l = true) (hs : ∀ c ∈ l2, c ∈ l) : Ev (fun k => spec_pzAll.f k m l2) (solsM m l2) := by
  obtain ⟨n, rfl, hn, hc, _⟩ := puzzleOk_nat h
  unfold solsM
  rw [Int.toNat_natCast]
  exact pzAll_ev hn l2 (fun c h => hc c (hs c h))
theorem iAll_ev {m : Int} {l l2 : List S67} (h : puzzleOk m l = true) (hs : ∀ c ∈ l2, c ∈ l) : Ev (fun k => impl_solutions.f k m l2) (solsM m l2) := by
  obtain ⟨n, rfl, hn, hc, _⟩ := puzzleOk_nat h
  unfold solsM
  rw [Int.toNat_natCast]
  exact solutions_ev hn l2 (fun c h => hc c (hs c h))
theorem Solutions_ev (m : Int) (l : List S67) : Ev (fun k => impl_Solutions.f k m l) (if puzzleOk m l = true then (solsM m l, true) else ([], false)) := by
  unfold impl_Solutions.f
  refine ev_bindS (IsPuzzle_eq m l) (ev_bool (fun h => ?_) (fun h => ?_))
  · rw [if_pos h]; exact Ev.bind (iAll_ev h (fun _ h => h)) (Ev.now _)
  · rw [if_neg (by rw [h]; decide)]; exact Ev.now _
theorem rdI_set {xs : List S67} {i : Nat} {v : S67} (h : i < xs.length) : rd_T67 (xs.set i v) (i : Int) = v := by
  rw [rdI_get (by rw [List.length_set]; exact h), List.getElem_set_self]
def mkC (m : Int) (i : Nat) : S67 := ⟨m + 3 * i, m + 3 * i + 1, m + 3 * i + 2⟩
theorem wrap_add1 {x : Int} (h : 0 ≤ x ∧ x ≤ 9223372036854775806) : wrap64 (x + 1) = x + 1 := wrap64_id (by omega)
theorem markClueS_ev (l : List S67) (m : Int) (hl : l.length ≤ 1152921504606) (hm : 0 ≤ m ∧ m ≤ 1152921504606846976) : Ev (fun k => laws_markClueS.f k l m) (m + 3 * l.length, tab (mkC m) l.length) := by
  unfold laws_markClueS.f
  have := ev_range l.length (fun k i => laws_markClueS.l0 k (tab (mkC m) i ++ l.drop i) (m + 3 * i) (i : Int)) (fun _ => (m + 3 * l.length, tab (mkC m) l.length)) ?_ ?_ 0 (Nat.zero_le _)
  · simpa [tab] using this
  · refine ev_succ ?_
    simp only [laws_markClueS.l0]
    refine ev_neg (by rw [tab_drop_len _ _ _ (Nat.le_refl _)]; omega) (ev_eqv (Ev.now _) ?_)
    rw [drop_end, List.append_nil]
  · intro i hi ih
    have hx := tab_drop_len (mkC m) l i (by omega)
    refine ev_succ ?_
    simp only [laws_markClueS.l0]
    refine ev_pos (by omega) (ev_pos (by omega) ?_)
    simp only [Option.bind_some, Int.toNat_natCast]
    rw [wrap_add1 (x := m + 3 * i) (by omega), wrap_add1 (x := m + 3 * i + 1) (by omega), wrap_add1 (x := m + 3 * i + 1 + 1) (by omega)]
    rw [rdI_set (by rw [hx]; exact hi), rdI_set (by rw [List.length_set, hx]; exact hi), List.set_set, List.set_set]
    rw [show (⟨m + 3 * i, m + 3 * i + 1, m + 3 * i + 1 + 1⟩ : S67) = mkC m i by unfold mkC; congr 1; omega, set_tab _ _ _ hi, wrap_succ hi (by omega), show m + 3 * (i : Int) + 1 + 1 + 1 = m + 3 * ((i + 1 : Nat) : Int) by omega]
    exact ih
theorem markPuzzle_ev (n : Int) (l : List S67) (hl : l.length ≤ 1152921504606) : Ev (fun k => laws_markPuzzle.f k n l 1) (1 + 3 * (l.length : Int), tab (mkC 1) l.length) := by
  unfold laws_markPuzzle.f
  exact Ev.bind (markClueS_ev l 1 hl (by omega)) (Ev.now _)
def mkSS : Int → List (List Int) → List (List Int)
  | _, [] => []
  | m, x :: xs => iotaL m x.length :: mkSS (m + x.length) xs
def totS : Int → List (List Int) → Int
  | m, [] => m
  | m, x :: xs => totS (m + x.length) xs
theorem mkSS_len : ∀ (l : List (List Int)) (m : Int), (mkSS m l).length = l.length
  | [], _ => rfl
  | x :: xs, m => by unfold mkSS; rw [List.length_cons, List.length_cons, mkSS_len xs]
theorem totS_ge : ∀ (l : List (List Int)) (m : Int), m ≤ totS m l
  | [], m => Int.le_refl m
  | x :: xs, m => by
    have := totS_ge xs (m + x.length)
    unfold totS
    omega
theorem markIntSS_l0 : ∀ (rest pre : List (List Int)) (m : Int), pre.length + rest.length ≤ 1048576 → (∀ x ∈ rest, x.length ≤ 1048576) → 0 ≤ m → m + 1048576 * rest.length ≤ 1152921504606846976 → Ev (fun k => laws_markIntSS.l0 k (pre ++ rest) m (pre.length : Int)) (totS m rest, pre ++ mkSS m rest)
  | [], pre, m, hl, hx, h0, hm => by
    refine ev_succ ?_
    simp only [laws_markIntSS.l0, List.append_nil]
    exact ev_neg (by omega) (ev_eqv (Ev.now _) (by simp [totS, mkSS]))
  | x :: xs, pre, m, hl, hx, h0, hm => by
    have hxl := hx x (List.mem_cons_self ..)
    rw [List.length_cons] at hl hm
    have ih := markIntSS_l0 xs (pre ++ [iotaL m x.length]) (m + x.length) (by rw [List.length_append, List.length_singleton]; omega) (fun y hy => hx y (List.mem_cons_of_mem _ hy)) (by omega) (by omega)
    refine ev_succ ?_
    simp only [laws_markIntSS.l0, Int.toNat_natCast]
    refine ev_pos (by rw [List.length_append, List.length_cons]; omega) (ev_pos (by omega) ?_)
    rw [show (pre ++ x :: xs).getD pre.length [] = x from by simp [List.getD_eq_getElem?_getD]]
    refine Ev.bind (markIntS_ev x m (by omega) (by omega)) ?_
    simp only [show (pre ++ x :: xs).set pre.length (iotaL m x.length) = (pre ++ [iotaL m x.length]) ++ xs from by simp, show wrap64 ((pre.length : Int) + 1) = (((pre ++ [iotaL m x.length]).length : Nat) : Int) from by rw [List.length_append, List.length_singleton]; unfold wrap64; omega]
    exact ev_eqv ih (by simp [totS, mkSS])
theorem markIntSS_ev (l : List (List Int)) (hl : l.length ≤ 1048576) (hx : ∀ x ∈ l, x.length ≤ 1048576) : Ev (fun k => laws_markIntSS.f k l 1) (totS 1 l, mkSS 1 l) := by
  have := markIntSS_l0 l [] 1 (by simpa using hl) hx (by decide) (by omega)
  exact this
theorem heldIntSS_l0 : ∀ (rest pre : List (List Int)) (m : Int), pre.length + rest.length ≤ 1048576 → (∀ x ∈ rest, x.length ≤ 1048576) → 0 ≤ m → m + 1048576 * rest.length ≤ 1152921504606846976 → Ev (fun k => laws_heldIntSS.l0 k (pre ++ mkSS m rest) m (pre.length : Int)) (totS m rest)
  | [], pre, m, hl, hx, h0, hm => by
    refine ev_succ ?_
    simp only [laws_heldIntSS.l0, mkSS, List.append_nil]
    exact ev_neg (by omega) (Ev.now _)
  | x :: xs, pre, m, hl, hx, h0, hm => by
    have hxl := hx x (List.mem_cons_self ..)
    rw [List.length_cons] at hl hm
    have ih := heldIntSS_l0 xs (pre ++ [iotaL m x.length]) (m + x.length) (by rw [List.length_append, List.length_singleton]; omega) (fun y hy => hx y (List.mem_cons_of_mem _ hy)) (by omega) (by omega)
    rw [show (pre ++ [iotaL m x.length]) ++ mkSS (m + x.length) xs = pre ++ mkSS m (x :: xs) from by simp [mkSS]] at ih
    have hlt : pre.length < (pre ++ mkSS m (x :: xs)).length := by rw [List.length_append, mkSS_len, List.length_cons]; omega
    refine ev_succ ?_
    simp only [laws_heldIntSS.l0]
    refine ev_pos (by omega) (ev_pos (by omega) ?_)
    rw [rdL1_get hlt, show (pre ++ mkSS m (x :: xs))[pre.length]'hlt = iotaL m x.length from by simp [mkSS]]
    refine Ev.bind (heldIntS_ev m x.length (by omega) (by omega)) (ev_neg (by omega) ?_)
    rw [show wrap64 ((pre.length : Int) + 1) = (((pre ++ [iotaL m x.length]).length : Nat) : Int) from by rw [List.length_append, List.length_singleton]; unfold wrap64; omega]
    exact ih
theorem heldIntSS_ev (l : List (List Int)) (hl : l.length ≤ 1048576) (hx : ∀ x ∈ l, x.length ≤ 1048576) : Ev (fun k => laws_heldIntSS.f k (mkSS 1 l) 1) (totS 1 l) := heldIntSS_l0 l [] 1 (by simpa using hl) hx (by decide) (by omega)
theorem eqSS_ev (a b : List (List Int)) (ha : a.length ≤ 1152921504606) (hx : ∀ x ∈ a, x.length ≤ 1152921504606) : Ev (fun k => laws_eqIntSS.f k a b) (decide (a = b)) := by
  unfold laws_eqIntSS.f
  by_cases hl : a.length = b.length
  · refine ev_pos (by omega) ?_
    refine ev_range a.length (fun k i => laws_eqIntSS.l0 k a b (i : Int)) (fun i => decide (a.drop i = b.drop i)) ?_ ?_ 0 (Nat.zero_le _)
    · refine ev_succ ?_
      simp only [laws_eqIntSS.l0]
      refine ev_neg (by omega) (ev_eqv (Ev.now _) ?_)
      rw [List.drop_of_length_le (by omega), List.drop_of_length_le (by omega)]; simp
    · intro i hi ih
      have h2 : i < b.length := by omega
      refine ev_succ ?_
      simp only [laws_eqIntSS.l0]
      refine ev_pos (by omega) (ev_pos (by omega) (ev_pos (by omega) ?_))
      rw [rdL1_get hi, rdL1_get h2, wrap_succ hi (by omega), eq_drop a b i hi h2]
      refine Ev.bind (eqIntS_ev a[i] b[i] (Nat.le_trans (hx _ (List.getElem_mem hi)) (by decide))) (ev_bool (fun h => ?_) (fun h => ?_))
      · rw [h]; exact ih
      · rw [h]; exact Ev.now _
  · refine ev_neg (by omega) (ev_eqv (Ev.now false) ?_)
    exact (decide_eq_false fun e => hl (by rw [e])).symm
theorem solsM_ok {m : Int} {l : List S67} (h : puzzleOk m l = true) : (solsM m l).length ≤ 1000 ∧ ∀ g ∈ solsM m l, g.f1.length ≤ 16 ∧ ∀ x ∈ g.f1, x.length ≤ 16 := by
  obtain ⟨n, rfl, hn, _, _⟩ := puzzleOk_nat h
  have key : ((List.range 5).all fun n => decide ((gamesK n).length ≤ 1000) && (gamesK n).all fun s => decide (s.length ≤ 16) && s.all fun x => decide (x.length ≤ 16)) = true := by decide +kernel
  have h1 := List.all_eq_true.1 key n (List.mem_range.2 hn.2)
  rw [Bool.and_eq_true, decide_eq_true_eq] at h1
  unfold solsM
  rw [Int.toNat_natCast]
  refine ⟨by rw [List.length_map]; exact Nat.le_trans (List.length_filter_le _ _) h1.1, fun g hg => ?_⟩
  obtain ⟨s, hs, rfl⟩ := List.mem_map.1 hg
  have h2 := List.all_eq_true.1 h1.2 s (List.mem_filter.1 hs).1
  rw [Bool.and_eq_true, decide_eq_true_eq] at h2
  exact ⟨h2.1, fun x hx => of_decide_eq_true (List.all_eq_true.1 h2.2 x hx)⟩
theorem eqGameP_ev (m n : Int) (a b : List (List Int)) (ha : a.length ≤ 1152921504606) (hx : ∀ x ∈ a, x.length ≤ 1152921504606) : Ev (fun k => laws_eqGame.f k m a n b) (decide (m = n ∧ a = b)) := by
  unfold laws_eqGame.f
  by_cases hm : m = n
  · refine ev_pos hm (Ev.bind (eqSS_ev a b ha hx) (ev_bool (fun h => ev_eqv (Ev.now _) ?_) (fun h => ev_eqv (Ev.now _) ?_)))
    · exact (decide_eq_true ⟨hm, of_decide_eq_true h⟩).symm
    · exact (decide_eq_false fun e => of_decide_eq_false h e.2).symm
  · exact ev_neg hm (ev_eqv (Ev.now _) (decide_eq_false fun e => hm e.1).symm)
def firstM (m : Int) (l : List S67) : Int × List (List Int) × Bool := if puzzleOk m l = true then (match solsM m l with
  | [] => (0, [], false)
  | g :: _ => (g.f0, g.f1, true)) else (0, [], false)
theorem firstM_ok (m : Int) (l : List S67) : (firstM m l).2.1.length ≤ 16 ∧ ∀ x ∈ (firstM m l).2.1, x.length ≤ 16 := by
  unfold firstM
  by_cases h : puzzleOk m l = true
  · rw [if_pos h]
    have h1 := (solsM_ok h).2
    cases e : solsM m l with
    | nil => simp
    | cons g r => rw [e] at h1; exact h1 g (List.mem_cons_self ..)
  · rw [if_neg h]; simp
theorem sFirstSolution_ev (m : Int) (l : List S67) : Ev (fun k => spec_FirstSolution.f k m l) (firstM m l) := by
  unfold spec_FirstSolution.f firstM
  refine Ev.bind (pzGood_ev m l) (ev_bool (fun h => ?_) (fun h => ?_))
  · rw [if_pos h]
    refine Ev.bind (sAll_ev h (fun _ h => h)) ?_
    cases e : solsM m l with
    | nil => exact ev_pos rfl (Ev.now _)
    | cons g r => exact ev_neg (by rw [List.length_cons]; omega) (ev_pos (by rw [List.length_cons]; omega) (Ev.now _))
  · rw [if_neg (by rw [h]; decide)]; exact Ev.now _
theorem iFirstSolution_ev (m : Int) (l : List S67) : Ev (fun k => impl_FirstSolution.f k m l) (firstM m l) := by
  unfold impl_FirstSolution.f firstM
  refine Ev.bind (Solutions_ev m l) ?_
  by_cases h : puzzleOk m l = true
  · rw [if_pos h, if_pos h]
    refine ev_pos rfl ?_
    cases e : solsM m l with
    | nil => exact ev_pos rfl (Ev.now _)
    | cons g r => exact ev_neg (by rw [List.length_cons]; omega) (ev_pos (by rw [List.length_cons]; omega) (Ev.now _))
  · rw [if_neg h, if_neg h]
    exact ev_neg (by decide) (Ev.now _)
theorem FnExactFirstSolution_pure (a0_0 : Int) (l0_1 : List S74) (g0 : I64 a0_0 ∧ ∀ y ∈ l0_1, I64 y.f0 ∧ I64 y.f1 ∧ I64 y.f2) (hl : l0_1.length ≤ 9223372036854775807) : ∃ k, laws_FnExactFirstSolution.f k a0_0 l0_1 = some true := by
  refine Ev.rounds ?_
  unfold laws_FnExactFirstSolution.f
  obtain ⟨q, hq, hq2⟩ := szPuzzle_eq a0_0 l0_1 1048576 (by decide) hl
  refine ev_bindS hq ?_
  by_cases h : q < 0
  · exact ev_pos h (Ev.now _)
  have hn := hq2 h
  refine ev_neg h ?_
  have ht := toPuzzle_ev a0_0 l0_1 (by omega)
  have hm : (l0_1.map clueI).length ≤ 1152921504606 := by rw [List.length_map]; omega
  have es := sFirstSolution_ev a0_0 (l0_1.map clueI)
  have ei := iFirstSolution_ev a0_0 (l0_1.map clueI)
  obtain ⟨h1, h2⟩ := firstM_ok a0_0 (l0_1.map clueI)
  generalize firstM a0_0 (l0_1.map clueI) = r at es ei h1 h2
  obtain ⟨ra, rb, rc⟩ := r
  have h3 := totS_ge rb 1
  have n3 : ∀ x ∈ rb, x.length ≤ 1152921504606 := fun x hx => Nat.le_trans (h2 x hx) (by decide)
  have n4 : ∀ x ∈ rb, x.length ≤ 1048576 := fun x hx => Nat.le_trans (h2 x hx) (by decide)
  have eq := eqGameP_ev ra ra rb rb (Nat.le_trans h1 (by decide)) n3
  have ep := eqPuzzle_ev a0_0 a0_0 (l0_1.map clueI) (l0_1.map clueI) hm
  refine Ev.bind ht (Ev.bind es (Ev.bind ei (Ev.bind eq (ev_pos (by simp) (ev_pos rfl (Ev.bind ep (ev_pos (by simp) (Ev.bind (markPuzzle_ev _ _ hm) (ev_neg (by simp only []; omega) ?_)))))))))
  refine Ev.bind (markIntSS_ev rb (Nat.le_trans h1 (by decide)) n4) ?_
  unfold laws_heldGame.f
  exact Ev.bind (Ev.bind (heldIntSS_ev rb (Nat.le_trans h1 (by decide)) n4) (ev_neg (by omega) (Ev.now _))) (ev_neg (by omega) (ev_pos rfl (Ev.now _)))
end Go.Proofs.YtgfdfabeninfeaaGreat.Q
end
section
namespace Go.Proofs.YtgfdfabeninfeaaGreat.Q
open Go.RowKit Go.Proofs.YtgfdfabeninfeaaGreatW.PrintWords Go.Proofs.YtgfdfabeninfeaaGreatW.PrintLast Go.Proofs.YtgfdfabeninfeaaGreatW.PrintMore
set_option linter.unusedVariables false
set_option linter.unusedSimpArgs false
set_option maxRecDepth 100000
section
variable {H : Type} {enc : TypeId × Value → H} {W : World}
instance : Inhabited S74 := ⟨z74⟩
theorem opens_Clue : Opens enc Tryz.prog W 74 k74 (fun x => I64 x.f0 ∧ I64 x.f1 ∧ I64 x.f2) :=
  opens_iso _ (fun x => ⟨x.1, x.2.1, x.2.2⟩) (fun _ => rfl) (opens_triple Tryz.underlying74 (by kernel_rfl) rfl rfl rfl (by kernel_rfl) (by kernel_rfl) (by kernel_rfl) (opens_int Tryz.underlying3) (opens_int Tryz.underlying3) (opens_int Tryz.underlying3))
theorem opens_Puzzle : Opens enc Tryz.prog W 24 (Kd.pair (Kd.int .i64) (Kd.slice 74 k74)) (fun x => I64 x.1 ∧ ∀ y ∈ x.2, I64 y.f0 ∧ I64 y.f1 ∧ I64 y.f2) :=
  opens_pair Tryz.underlying24 (by kernel_rfl) rfl rfl (by kernel_rfl) (by kernel_rfl) (opens_int Tryz.underlying3) (opens_slice Tryz.underlying22 (by kernel_rfl) opens_Clue)
end
open Go.ChangeShapes Go.WideShapes Go.ChangeAt Go.Deep
section
variable {H : Type} {enc : TypeId × Value → H} {W : World} {r : Reach} {b0 : Nat} {v : Value} {y : DataW H} {p : List MemPlace}
theorem arg_Puzzle (hv : Value.okWide Tryz.prog W r b0 24 v) (hr : DataW.Trod enc Tryz.prog W 0 (fun _ => true) true 24 v y p) :
    ∃ a A c l, v = .agg #[.int .i64 a, .slice A (l : List S74).length c] ∧ l.length ≤ c ∧ Kd.C k74 W A l.length l ∧ I64 a ∧ ∀ y ∈ l, I64 y.f0 ∧ I64 y.f1 ∧ I64 y.f2 := by
  obtain ⟨x, ⟨l⟩, rfl, k, g⟩ := open_struct Tryz.underlying24 hv hr opens_Puzzle
  obtain ⟨_, _, rfl, rfl, ⟨A, c, rfl, hl, hC⟩⟩ := k
  exact ⟨_, A, c, _, rfl, hl, hC, g⟩
end
end Go.Proofs.YtgfdfabeninfeaaGreat.Q
end
section
namespace Go.Proofs.YtgfdfabeninfeaaGreat.fnExactFirstSolution
open Go.ChangeShapes Go.WideShapes Go.ChangeAt Go.RowKit Go.Proofs.YtgfdfabeninfeaaGreat.Q
open Go.ChangeMaps (open_string shut_string)
set_option linter.unusedVariables false
theorem own : ownKnob Tryz.prog.godebug = none := by kernel_rfl
theorem laidOut : laidOutB Tryz.prog = true := by kernel_rfl
set_option maxRecDepth 100000 in
theorem lifted (os : Os) (started : os.Started) (H : Type) (enc : TypeId × Value → H) :
    ReturnsInHanded {} Tryz.checked os 3 .any (Rows.fnExactFirstSolutionSpec.pre6 enc Tryz.prog Tryz.f3 Rows.fnExactFirstSolutionRow.domain false) (Rows.fnExactFirstSolutionSpec.post enc Tryz.prog Tryz.f3 false true false false) := by
  refine returnsInHanded_of_change_sized (C := Tryz.checked) own started (by kernel_rfl) Tryz.func3
    (ChangeSpec.witness6 (enc := enc) (C := Tryz.checked) false ⟨#[], #[.agg #[.int .i64 0, .slice none 0 0]], []⟩ 8 (by kernel_rfl) (by kernel_rfl) (by kernel_rfl) (by kernel_rfl)) ?_
  intro W base args ds gs before hval0 hW hcnd hsz0 _
  have hsz : (DataW.weightsEach Tryz.prog (Tryz.f3.params.toList ++ Rows.fnExactFirstSolutionSpec.plain.varTypes Tryz.prog) (ds ++ gs)).all (· ≤ reachBytes) = true := hsz0
  have hval : ∀ (j : Nat) t v, Tryz.f3.params[j]? = some t → args[j]? = some v → Value.okWide Tryz.prog W .any base t v := hval0
  have hW' := hW
  obtain ⟨p, q, hA0, hV, rfl, hfz, hnd⟩ := hW
  have hA : DataW.TrodAll enc Tryz.prog W 0 (fun _ => true) true Tryz.f3.params.toList args.toList ds p := hA0
  rw [Tryz.params3] at hA hval hsz
  obtain ⟨v0, vs0, d0, ds0, p0, q0, hargs, rfl, rfl, h0, r0⟩ := trodAll_cons hA
  obtain ⟨rfl, rfl, rfl⟩ := trodAll_nil r0
  obtain rfl : args = #[v0] := by cases args; simp_all
  obtain ⟨rfl, rfl⟩ := trodVars_none hV
  have k0 := h0
  have lt0 : ∀ x ∈ p0, x.block < W.heap.size := by obtain ⟨m, hm⟩ := k0; exact DataW.trod_lt m _ _ _ hm
  obtain ⟨a0_0, A0_1, c0_1, l0_1, rfl, hc0_1, hr0_1, g0⟩ := arg_Puzzle (hval 0 24 v0 rfl rfl) h0
  clear hA0 hval0 hsz0 hsz
  obtain ⟨k, hk⟩ := FnExactFirstSolution_pure a0_0 l0_1 g0 hr0_1.2.1
  refine (laws_FnExactFirstSolution.calls k a0_0 A0_1 c0_1 l0_1 true W hr0_1 hc0_1 hk).mono fun e W' ⟨he, bel⟩ => ?_
  subst he
  exact ⟨_, rfl, _, _, _, [], _, [], hW', trodAll_mk1 (shut_bool Tryz.underlying4 _), (trodAll_cons_mk (Below.trod laidOut (by kernel_rfl) (of_decide_eq_true (by kernel_rfl)) k0 bel lt0) trodAll_mk0), rfl, bel.frame _, fun h => by cases h⟩
theorem over : Rows.fnExactFirstSolutionRow.holds Tryz.pinned (OpenSpec.ofChange Rows.fnExactFirstSolutionSpec) :=
  OpenClaim.holds_of_wide 3 Tryz.f3 rfl rfl rfl rfl rfl rfl rfl ⟨rfl, rfl, rfl, rfl, rfl⟩ rfl rfl rfl rfl rfl (by kernel_rfl) Tryz.func3 (by kernel_rfl)
    (of_decide_eq_true (by kernel_rfl)) (by unfold Func.isWrapper; first | (rw [if_pos (by decide +kernel)]; kernel_rfl) | (rw [if_neg (by decide +kernel)]; exact ⟨rfl, rfl⟩))
    (fun os started H enc _ => lifted os started H enc)
theorem proved : Rows.FnExactFirstSolutionSaid := over
end Go.Proofs.YtgfdfabeninfeaaGreat.fnExactFirstSolution
namespace Go.Proofs.YtgfdfabeninfeaaGreat
theorem fnExactFirstSolution_holds : Rows.FnExactFirstSolutionSaid := fnExactFirstSolution.proved
end Go.Proofs.YtgfdfabeninfeaaGreat
end
#print axioms Go.Proofs.YtgfdfabeninfeaaGreat.fnExactFirstSolution_holds

/- Part 5 of the proof of FnExactHarderPuzzle: what it leans on (no condition). -/
import Derived.Test.YtgjakcpbfbfejaaGreatKFnExactHarderPuzzle4
import Derived.Lib.LazyBuf
import Derived.Deep.RegionLaw
import Derived.Lib.SliceRun
import Derived.Laws.CopyOwn
import Derived.Laws.Tables
import Derived.Shelf.GgClosure.Gives
import Derived.Shelf.SlSortCmp.WholeK
section
namespace Go.Proofs.YtgjakcpbfbfejaaGreat.Q
open Go.RowKit Go.Proofs.YtgjakcpbfbfejaaGreatW.PrintWords Go.Proofs.YtgjakcpbfbfejaaGreatW.PrintLast Go.Proofs.YtgjakcpbfbfejaaGreatW.PrintMore
set_option linter.unusedVariables false
set_option linter.unusedSimpArgs false
def pzPos (k : Nat) (g : S46) : List S46 → Nat → Option Nat
  | [], i => some i
  | x :: xs, i => (spec_gmBefore.f k x.f0 x.f1 g.f0 g.f1).bind fun b => if b = true then pzPos k g xs (i + 1) else some i
def pzIns (k : Nat) (g : S46) (outs : List S46) : Option (List S46) := (pzPos k g outs 0).bind fun i => some (outs.take i ++ [g] ++ outs.drop i)
def pzSort (k : Nat) : List S46 → List S46 → Option (List S46)
  | [], outs => some outs
  | g :: gs, outs => (pzIns k g outs).bind fun o => pzSort k gs o
def spec_pzAll.f (k : Nat) (n : Int) (l : List S72) : Option (List S46) := if 0 ≤ n ∧ n ≤ 16 then (spec_pzLook.f k n l (2 ^ n.toNat) []).bind fun gs => if gs.length ≤ 1000000 then pzSort k gs [] else none else none
theorem om6 {i n : Nat} (h : i ≤ n) : i + 1 + (n - i) = n + 1 := by omega
theorem made_falses (N : Nat) : madeCells (Value.bool false).cells N = ((List.replicate N false).map Value.bool).toArray := by
  refine Array.ext ?_ fun j h1 h2 => ?_
  · rw [size_madeCells, List.size_toArray, List.length_map, List.length_replicate]
  · simp [madeCells, Value.cells, Nat.mod_one]
theorem run_falses (N : Nat) (hN : N ≤ 65536) (W : World) : (Instr.makeSlice 76 (.int .i64 (N : Int)) (.int .i64 (N : Int))).run Tryz.prog W = .ok (.slice (some ⟨W.heap.size, 0, none⟩) N N) (W.alloc (.cells ((List.replicate N false).map Value.bool).toArray 4 (0, 0))) := by
  obtain ⟨i, hi, hz⟩ := Option.map_eq_some_iff.1 info4
  simp only [Prod.mk.injEq] at hz
  obtain ⟨h0, h1, h2⟩ := hz
  have := run_make (P := Tryz.prog) W 76 4 i (.bool false) Tryz.underlying76 hi h0 .i64 .i64 (N : Int) (N : Int) (Int.natCast_nonneg _) (Int.le_refl _) (by rw [h2]; omega) (by omega)
  rw [this, Int.toNat_natCast, h1, Nat.mul_one, made_falses]
section
variable {e base : Nat} {W : World} {v : Value} {lo : Nat}
theorem N_own {α : Type} {d : Kd α} (h : Kd.N d e W base (fun _ => True) v []) (hb : lo ≤ base) : Kd.N d e W base (fun z => lo ≤ z) v [] := by
  have hbb := Kd.N_base h
  obtain ⟨_, rows, hl, hR, _⟩ := h
  exact ⟨fun k hk => Nat.le_trans hb (hbb k hk), rows, hl, hR, fun j x c hx => by simp at hx⟩
end
theorem rr_one {W : World} {b cg : Nat} {Ag : Option Addr} {g : S46} {ok : Nat → Prop} (hb : W.heap[b]? = some (.cells #[.int .i64 g.f0, .slice Ag g.f1.length cg] 46 (0, 0))) (hF : Kd.FK k46 W ok g [.int .i64 g.f0, .slice Ag g.f1.length cg]) :
    ReadsRow (fun x c => Kd.FK k46 W ok x c) (Kd.sz k46) W (some ⟨b, 0, none⟩) 1 [g] := by
  refine ⟨rfl, by decide, fun _ => ⟨_, rfl, fun j p hj => ?_⟩⟩
  cases j with
  | succ j => simp at hj
  | zero =>
    obtain rfl : g = p := by simpa using hj
    refine ⟨_, rfl, hF, fun i u hu => ?_⟩
    rw [add_at, Nat.zero_mul, Nat.zero_add, Nat.zero_add, blk_cell hb]
    simpa using hu
section
variable {P : Program} {ops : Array Oper} {o : Oper} {a : Act} {Q : Exit → Act → World → Prop} {Kc : Act → World → Prop} {α : Type}
theorem N_append_rr_step (d : Kd α) {w0 W : World} (base : Nat) (hw : Region.wanted o (yielded ops a.tmps) = true) (s x : Operand) (t e : TypeId) (z : Value) (bytes : Nat)
    (ho : o.op = .call { callee := .builtin .append, args := #[s, x], argTypes := #[t, t] })
    (ht : P.underlying t = some (.slice e)) (hinfo : (P.info? e).map (fun i => (i.zero, i.size, i.bytes)) = some (some z, d.sz, bytes)) (hz : z.cells.size = d.sz) (hs0 : 0 < d.sz) (hb0 : 0 < bytes)
    (v : Value) (xs ys : List α) (A : Option Addr) (m c : Nat) (ok okp : Nat → Prop) (hs : a.eval s = v) (hx : a.eval x = .slice A m c)
    (HO : Kd.N d e W base ok v xs) (HR : ReadsRow (fun x c => Kd.FK d W okp x c) d.sz W A m ys) (hokp : ∀ k, okp k → ok k ∧ some k ≠ v.ownBlock) (hfresh : ∀ k, W.heap.size ≤ k → ok k)
    (HB : Below base w0 W) (hbase : base ≤ W.heap.size) (hl : (xs.length + m) * bytes ≤ 140737488355328)
    (h : ∀ v1 w1, Kd.N d e w1 base ok v1 (xs ++ ys) → Below base w0 w1 → W.grownBy w1 v.ownBlock → (v1.ownBlock = v.ownBlock ∨ ∃ b, v1.ownBlock = some b ∧ W.heap.size ≤ b) → Kc (a.put o.dst v1) w1) :
    if Region.wanted o (yielded ops a.tmps) = true then Oper.wp P o a W Kc Q else Kc (a.put o.dst undef) W := by
  obtain ⟨h0, rows, hlr, hR, hf⟩ := HO
  obtain ⟨news, hnl, hnr, hnf⟩ := Kd.reads_raw HR (fun y c hk => ⟨d.K_len (Kd.FK_now hk), d.K_one (Kd.FK_now hk)⟩)
  refine Kd.R_append_rows_step (Kd.raw d.sz) base hw s x t e z bytes ho ht hinfo hz hs0 hb0 v rows news A m c (fun _ => True) (fun _ => False) hs hx (Kd.raw_any hR) hnr (fun _ _ hk => hk) (fun _ hk => hk.elim) (fun _ _ => trivial) HB hbase (by rw [hlr]; exact hl) ?_
  intro v1 w1 hr hb hg hat
  exact h v1 w1 (Kd.N_appended h0 hlr hf hnl hnf hokp hfresh hr hg hat) hb hg hat
end
theorem pzSort_drop {k : Nat} {gs outs : List S46} {i : Nat} (h : i < gs.length) : pzSort k (gs.drop i) outs = (pzIns k (gs.getD i z46) outs).bind fun o => pzSort k (gs.drop (i + 1)) o := by
  rw [List.drop_eq_getElem_cons h, List.getD_eq_getElem?_getD, List.getElem?_eq_getElem h]; rfl
theorem pzPos_drop {k : Nat} {g : S46} {outs : List S46} {i : Nat} (h : i < outs.length) : pzPos k g (outs.drop i) i = (spec_gmBefore.f k (outs.getD i z46).f0 (outs.getD i z46).f1 g.f0 g.f1).bind fun b => if b = true then pzPos k g (outs.drop (i + 1)) (i + 1) else some i := by
  rw [List.drop_eq_getElem_cons h, List.getD_eq_getElem?_getD, List.getElem?_eq_getElem h]; rfl
set_option maxHeartbeats 8000000 in
set_option maxRecDepth 100000 in
theorem spec_pzAll.calls (k : Nat) (n : Int) (A : Option Addr) (c : Nat) (l : List S72) (r : List S46) (w : World) (hC : Kd.C k72 w A l.length l) (hc : l.length ≤ c) (h : spec_pzAll.f k n l = some r) :
    Calls Tryz.prog 52 #[.int .i64 n, .slice A l.length c] w fun e w' => ∃ v0_ : Value, e = .returned v0_ ∧ Kd.V k46 46 w' w.heap.size (fun k_ => w.heap.size ≤ k_) v0_ r ∧ Below w.heap.size w w' := by
  unfold spec_pzAll.f at h
  by_cases c0 : 0 ≤ n ∧ n ≤ 16
  case neg => rw [if_neg c0] at h; cases h
  rw [if_pos c0] at h
  obtain ⟨gs, hg, h⟩ := Option.bind_eq_some_iff.mp h
  by_cases c1 : gs.length ≤ 1000000
  case neg => rw [if_neg c1] at h; cases h
  rw [if_pos c1] at h
  have hp16 : 2 ^ n.toNat ≤ 65536 := Nat.pow_le_pow_right (n := 2) (by decide) (show n.toNat ≤ 16 by omega)
  have hp1 : 1 ≤ 2 ^ n.toNat := Nat.one_le_two_pow
  have hji : shl .i64 1 n = ((2 ^ n.toNat : Nat) : Int) := by rw [shl_one n c0]; simp
  generalize 2 ^ n.toNat = N at hji hg hp16 hp1
  have hji_ : (IntKind.i64.wrap (1 * 2 ^ min n.toNat 64)) = (N : Int) := hji
  have hjiz : n ≤ 64 → (IntKind.i64.wrap (1 * 2 ^ n.toNat)) = (N : Int) := shl_small hji
  have hjiu : (IntKind.i64.wrap (2 ^ min n.toNat 64)) = (N : Int) := by have h_ := hji_; rw [Int.one_mul] at h_; exact h_
  have hjiv : n ≤ 64 → (IntKind.i64.wrap (2 ^ n.toNat)) = (N : Int) := fun hle_ => by have h_ := hjiz hle_; rw [Int.one_mul] at h_; exact h_
  have hjiy : (wrap64 (1 * 2 ^ min n.toNat 64)) = (N : Int) := (i64_w _).symm.trans hji_
  have hjix : n ≤ 64 → (wrap64 (1 * 2 ^ n.toNat)) = (N : Int) := fun h_ => (i64_w _).symm.trans (hjiz h_)
  have hjie := (i64_w _).symm.trans (hjiv (by omega))
  have hmk := run_falses N hp16
  have c00 := c0.1
  have c00b : decide (0 ≤ n) = true := decide_eq_true c00
  have hNb : decide (0 ≤ (N : Int)) = true := decide_eq_true (Int.natCast_nonneg _)
  have HG := Aside0.mk hg
  have HH := Aside0.mk h
  have HC := Aside0.mk hC
  clear hg h hC
  go_enter Tryz.func52, Tryz.ntmps52
  go_wp2_with fail
  have hS : LookSt (w.heap.size + 1) w.heap.size w ((w.alloc (.cells #[.slice none 0 0] 51)).alloc (.cells (Array.replicate N (.bool false)) 4)) (List.replicate N false) (.slice none 0 0) [] := by
    refine ⟨Kd.N_nil _ _ _ _ _, blk_alloc (blk_new w _) _, ?_, ((Below.refl _ w).alloc (Nat.le_refl _) _).alloc (by simp) _⟩
    have h1 := blk_new (w.alloc (.cells #[.slice none 0 0] 51)) (.cells (Array.replicate N (.bool false)) 4)
    have h2 : (w.alloc (.cells #[.slice none 0 0] 51)).heap.size = w.heap.size + 1 := by simp
    rw [h2] at h1
    rw [h1, List.map_replicate, List.toArray_replicate]
  have hcl := spec_pzLook.calls k n A c l (w.heap.size + 1) w.heap.size w HC.out hc (by omega) (by omega) (Nat.le_refl _) N hp16 hp1 N [] (List.replicate N false) 0 [] gs (.slice none 0 0) _ rfl (by omega) (by simp) (by simp) (by simpa using c1) HG.out hS
  refine hcl.mono ?_
  clear hcl hS
  rintro e w1 ⟨rfl, v1, ws', hS1, -, -⟩
  rw [List.nil_append] at hS1
  obtain ⟨A1, cA, rfl⟩ := Kd.N_slice hS1.N
  have hx0 := (blk_cell hS1.O 0).trans rfl
  have HA := Aside0.mk (Kd.F_mono (Kd.F_bound (Kd.N_F hS1.N)) (ok' := fun z => w.heap.size ≤ z ∧ z < w1.heap.size) (fun z hz => ⟨hz.1.1, hz.2⟩))
  have HB := Aside0.mk hS1.B
  clear hS1 hmk hji hji_ hjiz hjiu hjiv hjiy hjix hjie hNb c00b HG
  obtain ⟨inf, hinf, _, hinf2, _⟩ := info_parts info46
  go_wp2_with fail
  go_loopg [6, 19] gs.length (fun gg v6 v19 wr => ∃ (kk : Nat) (Ao : Option Addr) (co : Nat) (outs : List S46), kk ≤ gs.length ∧ gs.length - kk ≤ gg ∧ v6 = .slice Ao outs.length co ∧ v19 = .int .i64 kk ∧ Aside0 (outs.length = kk) ∧ outs.length ≤ co ∧ Aside0 (pzSort k (gs.drop kk) outs = some r) ∧ Aside0 (Kd.F k46 wr (fun z => w.heap.size ≤ z ∧ z < wr.heap.size) Ao outs.length outs) ∧ Aside0 (Below w1.heap.size w1 wr))
  case atStart => exact ⟨0, none, 0, [], Nat.zero_le _, Nat.le_refl _, rfl, rfl, ⟨rfl⟩, Nat.le_refl _, HH, ⟨Kd.F_nil _ _ _⟩, ⟨Below.refl _ _⟩⟩
  case round =>
    clear HH hx0
    obtain ⟨kk, Ao, co, outs, hkk, hg, rfl, rfl, HOL, hoc, HT, HO, HB1⟩ := hrel
    by_cases hlt : kk < gs.length
    · obtain ⟨wo, rfl⟩ : ∃ wo, wo = wr := ⟨wr, rfl⟩
      have hltz : (kk : Int) < (gs.length : Int) := Int.ofNat_lt.2 hlt
      have hol : outs.length < 1000000 := by have := HOL.out; omega
      obtain ⟨ad, cc, e, _, hK, hcc, _⟩ := Kd.F_get (Kd.F_below HA.out HB1.out) z46 (kk : Int) (Int.natCast_nonneg _) hltz
      subst e
      rw [Int.toNat_natCast] at hK hcc
      have hT := HT.out
      rw [pzSort_drop hlt] at hT
      generalize gs.getD kk z46 = g at hK hT
      obtain ⟨o2, ho2, hT⟩ := Option.bind_eq_some_iff.mp hT
      obtain ⟨pos, hpos, ho2⟩ := Option.bind_eq_some_iff.mp ho2
      obtain rfl := Option.some.inj ho2
      obtain ⟨Ag, cg, rfl, hgl, hgF⟩ := k46_openF hK
      have x0 : wo.cell? (ad.add (kk * 2)) = some (.int .i64 g.f0) := hcc 0 _ rfl
      have x1 : wo.cell? ⟨(ad.add (kk * 2)).block, (ad.add (kk * 2)).off + 1, none⟩ = some (.slice Ag g.f1.length cg) := by rw [← add_field _ _ 1 (by omega)]; exact hcc 1 _ rfl
      have HPOS := Aside0.mk hpos
      have HT2a := Aside0.mk hT
      have HGF := Aside0.mk (Kd.FK_mono hK (ok' := fun z => w.heap.size ≤ z ∧ z < wo.heap.size) (fun z hz => ⟨hz.1, Nat.lt_of_lt_of_le hz.2 HB1.out.size⟩))
      have HGC := Aside0.mk (Kd.F_now hgF)
      clear hK hcc hT hpos ho2 HT hgF
      go_wp2_with fail
      go_loopg [9] outs.length (fun gg v9 wr => ∃ i : Nat, i ≤ outs.length ∧ outs.length - i ≤ gg ∧ v9 = .int .i64 i ∧ Aside0 (pzPos k g (outs.drop i) i = some pos) ∧ Aside0 (Below wo.heap.size wo wr) ∧ Aside0 (wr.heap[wo.heap.size]? = some (.cells #[.int .i64 g.f0, .slice Ag g.f1.length cg] 46 (0, 0))))
      case atStart => exact ⟨0, Nat.zero_le _, Nat.le_refl _, rfl, HPOS, ⟨(Below.refl _ wo).alloc (Nat.le_refl _) _⟩, ⟨blk_new wo _⟩⟩
      case round =>
        clear HPOS x0 x1
        obtain ⟨i, hi, hgi, rfl, HPOS, HQ, HGB⟩ := hrel
        have HOQ := Aside0.mk (Kd.F_mono (Kd.F_below HO.out HQ.out) (ok' := fun z => w.heap.size ≤ z ∧ z < wr.heap.size) (fun z hz => ⟨hz.1, Nat.lt_of_lt_of_le hz.2 HQ.out.size⟩))
        have HGFQ := Aside0.mk (Kd.FK_mono (Kd.FK_below HGF.out HQ.out) (ok' := fun z => w.heap.size ≤ z ∧ z < wr.heap.size) (fun z hz => ⟨hz.1, Nat.lt_of_lt_of_le hz.2 HQ.out.size⟩))
        have HA1 := Aside0.mk (HB1.out.trans (HQ.out.mono HB1.out.size))
        have HBQ := Aside0.mk (HB.out.trans (HA1.out.mono HB.out.size))
        by_cases hil : i < outs.length
        · have hiz : (i : Int) < (outs.length : Int) := Int.ofNat_lt.2 hil
          have hizb : decide ((i : Int) < (outs.length : Int)) = true := decide_eq_true hiz
          obtain ⟨bd, cc2, e2, _, hK2, hcc2, _⟩ := Kd.F_get HOQ.out z46 (i : Int) (Int.natCast_nonneg _) hiz
          subst e2
          rw [Int.toNat_natCast] at hK2 hcc2
          have hP := HPOS.out
          rw [pzPos_drop hil] at hP
          generalize outs.getD i z46 = x at hK2 hP
          obtain ⟨bb, hbb, hP⟩ := Option.bind_eq_some_iff.mp hP
          obtain ⟨Ax, cx, rfl, hxl, hxF⟩ := k46_openF hK2
          have y0 : wr.cell? (bd.add (i * 2)) = some (.int .i64 x.f0) := hcc2 0 _ rfl
          have y1 : wr.cell? ⟨(bd.add (i * 2)).block, (bd.add (i * 2)).off + 1, none⟩ = some (.slice Ax x.f1.length cx) := by rw [← add_field _ _ 1 (by omega)]; exact hcc2 1 _ rfl
          have HXC := Aside0.mk (Kd.F_now hxF)
          have HGC2 := Aside0.mk (Kd.C_below HGC.out HQ.out)
          have HBB := Aside0.mk hbb
          have HP2 := Aside0.mk hP
          have hci : (0 : Int) ≤ (i : Int) := Int.natCast_nonneg _
          have hcib : decide ((0 : Int) ≤ (i : Int)) = true := decide_eq_true hci
          clear hK2 hcc2 hP hbb hxF HPOS
          go_wp2_with fail
          refine start_ (n := 12) (S := fun w' => w'.cell? ⟨wo.heap.size, 0, none⟩ = some (.int .i64 g.f0) ∧ w'.cell? ⟨wo.heap.size, 1, none⟩ = some (.slice Ag g.f1.length cg) ∧ w'.cell? (bd.add (i * 2)) = some (.int .i64 x.f0) ∧ w'.cell? ⟨(bd.add (i * 2)).block, (bd.add (i * 2)).off + 1, none⟩ = some (.slice Ax x.f1.length cx)) (ds := []) #[false, false, false, false, false, false, false, false, false, false, false, false] (by kernel_rfl) rfl rfl (⟨(blk_cell (blk_drew HGB.out) 0).trans rfl, (blk_cell (blk_drew HGB.out) 1).trans rfl, y0, y1⟩) (fun hHeld => ?_)
          have HDR := Aside0.mk (below_drew (Below.refl wr.heap.size wr))
          generalize hwd : wr.drew = wd0 at *
          refine pure_ (i := 0) (N := some 23) (v := ?_) (a' := ?_) #[true, false, false, false, false, false, false, false, false, false, false, false] rfl rfl (by kernel_rfl) (fun _ _ _ h => h) (Or.inl ⟨by rfl, ?_⟩) ?_ ?_
          rotate_left
          · intro w'
            go_simp
            with_reducible rfl
          rotate_left
          · simp only [Act.put, List.setIfInBounds_toArray, List.set_cons_zero, List.set_cons_succ, i64_w, i32_w]
            rfl
          refine pure_ (i := 1) (N := some 24) (v := ?_) (a' := ?_) #[true, true, false, false, false, false, false, false, false, false, false, false] rfl rfl (by kernel_rfl) (fun _ _ _ h => h) (Or.inl ⟨by rfl, ?_⟩) ?_ ?_
          rotate_left
          · intro w'
            go_simp
            with_reducible rfl
          rotate_left
          · simp only [Act.put, List.setIfInBounds_toArray, List.set_cons_zero, List.set_cons_succ, i64_w, i32_w]
            rfl
          refine pure_ (i := 2) (N := some 25) (v := ?_) (a' := ?_) #[true, true, true, false, false, false, false, false, false, false, false, false] rfl rfl (by kernel_rfl) (fun _ _ _ h => h) (Or.inl ⟨by rfl, ?_⟩) ?_ ?_
          rotate_left
          · intro w'
            go_simp
            with_reducible rfl
          rotate_left
          · simp only [Act.put, List.setIfInBounds_toArray, List.set_cons_zero, List.set_cons_succ, i64_w, i32_w]
            rfl
          refine pure_ (i := 3) (N := some 26) (v := ?_) (a' := ?_) #[true, true, true, true, false, false, false, false, false, false, false, false] rfl rfl (by kernel_rfl) (fun _ _ _ h => h) (Or.inl ⟨by rfl, ?_⟩) ?_ ?_
          rotate_left
          · intro w'
            go_simp
            with_reducible rfl
          rotate_left
          · simp only [Act.put, List.setIfInBounds_toArray, List.set_cons_zero, List.set_cons_succ, i64_w, i32_w]
            rfl
          refine pure_ (i := 4) (N := some 27) (v := ?_) (a' := ?_) #[true, true, true, true, true, false, false, false, false, false, false, false] rfl rfl (by kernel_rfl) (fun _ _ _ h => h) (Or.inl ⟨by rfl, ?_⟩) ?_ ?_
          rotate_left
          · intro w'
            go_simp
            with_reducible rfl
          rotate_left
          · simp only [Act.put, List.setIfInBounds_toArray, List.set_cons_zero, List.set_cons_succ, i64_w, i32_w]
            rfl
          refine pure_ (i := 5) (N := some 28) (v := ?_) (a' := ?_) #[true, true, true, true, true, true, false, false, false, false, false, false] rfl rfl (by kernel_rfl) (fun _ _ _ h => h) (Or.inl ⟨by rfl, ?_⟩) ?_ ?_
          rotate_left
          · intro w'
            go_simp
            with_reducible rfl
          rotate_left
          · simp only [Act.put, List.setIfInBounds_toArray, List.set_cons_zero, List.set_cons_succ, i64_w, i32_w]
            rfl
          refine pure_ (i := 6) (N := some 29) (v := ?_) (a' := ?_) #[true, true, true, true, true, true, true, false, false, false, false, false] rfl rfl (by kernel_rfl) (fun _ _ _ h => h) (Or.inl ⟨by rfl, ?_⟩) ?_ ?_
          rotate_left
          · intro w'
            go_simp
            with_reducible rfl
          rotate_left
          · simp only [Act.put, List.setIfInBounds_toArray, List.set_cons_zero, List.set_cons_succ, i64_w, i32_w]
            rfl
          refine pure_ (i := 7) (N := some 30) (v := ?_) (a' := ?_) #[true, true, true, true, true, true, true, true, false, false, false, false] rfl rfl (by kernel_rfl) (fun _ _ _ h => h) (Or.inl ⟨by rfl, ?_⟩) ?_ ?_
          rotate_left
          · intro w'
            go_simp
            with_reducible rfl
          rotate_left
          · simp only [Act.put, List.setIfInBounds_toArray, List.set_cons_zero, List.set_cons_succ, i64_w, i32_w]
            rfl
          refine take_ (i := 8) (N := some 31) (v := ?_) (a' := ?_) #[true, true, true, true, true, true, true, true, true, false, false, false] rfl rfl (by kernel_rfl) (fun _ _ _ h => h) (Or.inl ⟨by rfl, ?_⟩) hHeld ?_ ?_
          rotate_left
          · rintro w' ⟨s0, s1, s2, s3⟩
            go_simp
            with_reducible rfl
          rotate_left
          · simp only [Act.put, List.setIfInBounds_toArray, List.set_cons_zero, List.set_cons_succ, i64_w, i32_w]
            rfl
          refine take_ (i := 9) (N := some 32) (v := ?_) (a' := ?_) #[true, true, true, true, true, true, true, true, true, true, false, false] rfl rfl (by kernel_rfl) (fun _ _ _ h => h) (Or.inl ⟨by rfl, ?_⟩) hHeld ?_ ?_
          rotate_left
          · rintro w' ⟨s0, s1, s2, s3⟩
            go_simp
            with_reducible rfl
          rotate_left
          · simp only [Act.put, List.setIfInBounds_toArray, List.set_cons_zero, List.set_cons_succ, i64_w, i32_w]
            rfl
          refine one_ (i := 10) (N := some 33) #[true, true, true, true, true, true, true, true, true, true, true, false] rfl rfl (by kernel_rfl) (by decide) (fun K hK => ?_)
          refine goes_ Tryz.func70 (by kernel_rfl) rfl #[.agg #[.int .i64 x.f0, .slice Ax x.f1.length cx], .agg #[.int .i64 g.f0, .slice Ag g.f1.length cg]] (by rfl) rfl rfl (by (try simp only [List.map_toArray, List.map_cons, List.map_nil]); first | done | rfl) ?_
          refine (spec_gmBefore.calls k x.f0 Ax cx x.f1 g.f0 Ag cg g.f1 bb _ (Kd.C_below HXC.out HDR.out) hxl (Kd.C_below HGC2.out HDR.out) hgl HBB.out).mono ?_
          rintro e wz ⟨rfl, hbz⟩
          refine ⟨_, rfl, ?_⟩
          have HZ := Aside0.mk (HDR.out.trans (hbz.mono HDR.out.size))
          refine hK.out _ _ (⟨(blk_cell (blk_below HGB.out HZ.out) 0).trans rfl, (blk_cell (blk_below HGB.out HZ.out) 1).trans rfl, (HZ.out.cell (World.block_lt_of_cell? wr _ y0)).trans y0, (HZ.out.cell (World.block_lt_of_cell? wr _ y1)).trans y1⟩) (fun hHeld => ?_)
          clear hK K
          refine norm_ (a' := ?_) ?_ ?_
          rotate_left
          · show Act.put _ (some 33) _ = _
            simp only [Act.put, List.setIfInBounds_toArray, List.set_cons_zero, List.set_cons_succ, i64_w, i32_w]
            rfl
          clear hbz y0 y1
          refine pure_ (i := 11) (N := some 34) (v := ?_) (a' := ?_) #[true, true, true, true, true, true, true, true, true, true, true, true] rfl rfl (by kernel_rfl) (fun _ _ _ h => h) (Or.inl ⟨by rfl, ?_⟩) ?_ ?_
          rotate_left
          · intro w'
            go_simp
            with_reducible rfl
          rotate_left
          · simp only [Act.put, List.setIfInBounds_toArray, List.set_cons_zero, List.set_cons_succ, i64_w, i32_w]
            rfl
          refine done_ (by kernel_rfl) ?_
          cases bb
          case true =>
            have hP := HP2.out
            rw [if_pos rfl] at hP
            have HP3 := Aside0.mk hP
            clear hP HP2
            go_wp2
            go_roundg (outs.length - (i + 1))
            case measure => exact om2 hil hgi
            case rel => exact ⟨i + 1, hil, Nat.le_refl _, by congr 1; (try exact om3 hil (Nat.le_trans (Nat.le_of_lt hol) (by decide))), HP3, ⟨HQ.out.trans (HZ.out.mono HQ.out.size)⟩, ⟨blk_below HGB.out HZ.out⟩⟩
          case false =>
            have hP := HP2.out
            rw [if_neg (by decide)] at hP
            obtain rfl := Option.some.inj hP
            have HT2 := HT2a
            clear hP HP2
            have HGBz := Aside0.mk (blk_below HGB.out HZ.out)
            have HOQz := Aside0.mk (Kd.F_mono (Kd.F_below HOQ.out HZ.out) (ok' := fun z => w.heap.size ≤ z ∧ z < wz.heap.size) (fun z hz => ⟨hz.1, Nat.lt_of_lt_of_le hz.2 HZ.out.size⟩))
            have HGFQz := Aside0.mk (Kd.FK_mono (Kd.FK_below HGFQ.out HZ.out) (ok' := fun z => w.heap.size ≤ z ∧ z < wz.heap.size) (fun z hz => ⟨hz.1, Nat.lt_of_lt_of_le hz.2 HZ.out.size⟩))
            have HA1z := Aside0.mk (HA1.out.trans (HZ.out.mono HA1.out.size))
            have HBQz := Aside0.mk (HBQ.out.trans (HZ.out.mono HBQ.out.size))
            clear HGB HOQ HGFQ HA1 HBQ HGC HGC2 HXC HBB HT2a HGF HQ
            have HGB := HGBz
            have HOQ := HOQz
            have HGFQ := HGFQz
            have HA1 := HA1z
            have HBQ := HBQz
            clear HGBz HOQz HGFQz HA1z HBQz HZ
            have hcut1 := cut_to (P := Tryz.prog) 51 46 .i64 Tryz.underlying51 hinf (some bd) outs.length co (i : Int) (Int.natCast_nonneg _) (Int.ofNat_le.2 hi) hoc
            simp only [Int.toNat_natCast] at hcut1
            have hcut2 := cut_from (P := Tryz.prog) 51 46 .i64 Tryz.underlying51 hinf 2 hinf2 (some bd) outs.length co (i : Int) (Int.natCast_nonneg _) (Int.ofNat_le.2 hi)
            simp only [Int.toNat_natCast] at hcut2
            obtain ⟨A2c, hA2c⟩ : ∃ A2c : Option Addr, A2c = (if co = i then (some bd) else ((some bd) : Option Addr).map (·.add (i * 2))) := ⟨_, rfl⟩
            obtain ⟨c2c, hc2c⟩ : ∃ c2c : Nat, c2c = co - i := ⟨_, rfl⟩
            obtain ⟨n2c, hn2c⟩ : ∃ n2c : Nat, n2c = outs.length - i := ⟨_, rfl⟩
            rw [← hA2c, ← hc2c, ← hn2c] at hcut2
            have hib : decide (0 ≤ (i : Int)) = true := decide_eq_true (Int.natCast_nonneg _)
            have hlt1 : (outs.take i).length = i := by rw [List.length_take]; exact Nat.min_eq_left hi
            have hld1 : (outs.drop i).length = outs.length - i := List.length_drop
            have HF1 := Aside0.mk (show Kd.F k46 wz (fun z => w.heap.size ≤ z ∧ z < wz.heap.size) (some bd) i (outs.take i) from by have := Kd.F_take HOQ.out hi; rwa [hlt1] at this)
            have HF2 := Aside0.mk (show Kd.F k46 wz (fun z => w.heap.size ≤ z ∧ z < wz.heap.size) A2c n2c (outs.drop i) from by have := Kd.F_cut HOQ.out hi hoc; rw [hld1] at this; rw [hA2c, hn2c]; exact this)
            have HN2c := Aside0.mk hn2c
            clear hA2c hc2c hn2c
            go_wp2_with fail
            refine start_ (n := 9) (S := fun w' => w'.cell? ⟨wo.heap.size, 0, none⟩ = some (.int .i64 g.f0) ∧ w'.cell? ⟨wo.heap.size, 1, none⟩ = some (.slice Ag g.f1.length cg)) (ds := []) #[false, false, false, false, false, false, false, false, false] (by kernel_rfl) rfl rfl (⟨(blk_cell (blk_drew HGB.out) 0).trans rfl, (blk_cell (blk_drew HGB.out) 1).trans rfl⟩) (fun hHeld => ?_)
            have HBD := Aside0.mk (HBQ.out.trans ((below_drew (Below.refl _ _)).mono HBQ.out.size))
            have HAD := Aside0.mk (Below.trans HA1.out ((below_drew (Below.refl _ _)).mono HA1.out.size))
            have HF1d := Aside0.mk (Kd.F_drew HF1.out)
            have HF2d := Aside0.mk (Kd.F_drew HF2.out)
            have HGd := Aside0.mk (blk_drew HGB.out)
            have HGFd := Aside0.mk (Kd.FK_below HGFQ.out (below_drew (Below.refl _ _)))
            have hsz : wz.drew.heap.size = wz.heap.size := rfl
            clear HF1 HF2 HGB HGFQ HOQ HBQ HA1
            rw [← hsz] at HF1d HF2d HGFd
            clear hsz
            generalize wz.drew = wd at *
            refine pure_ (i := 1) (N := some 38) (v := ?_) (a' := ?_) #[false, true, false, false, false, false, false, false, false] rfl rfl (by kernel_rfl) (fun _ _ _ h => h) (Or.inl ⟨by rfl, ?_⟩) ?_ ?_
            rotate_left
            · intro w'
              go_simp
              with_reducible rfl
            rotate_left
            · simp only [Act.put, List.setIfInBounds_toArray, List.set_cons_zero, List.set_cons_succ, i64_w, i32_w]
              rfl
            refine pure_ (i := 2) (N := some 39) (v := ?_) (a' := ?_) #[false, true, true, false, false, false, false, false, false] rfl rfl (by kernel_rfl) (fun _ _ _ h => h) (Or.inl ⟨by rfl, ?_⟩) ?_ ?_
            rotate_left
            · intro w'
              go_simp
              with_reducible rfl
            rotate_left
            · simp only [Act.put, List.setIfInBounds_toArray, List.set_cons_zero, List.set_cons_succ, i64_w, i32_w]
              rfl
            refine pure_ (i := 3) (N := some 40) (v := ?_) (a' := ?_) #[false, true, true, true, false, false, false, false, false] rfl rfl (by kernel_rfl) (fun _ _ _ h => h) (Or.inl ⟨by rfl, ?_⟩) ?_ ?_
            rotate_left
            · intro w'
              go_simp
              with_reducible rfl
            rotate_left
            · simp only [Act.put, List.setIfInBounds_toArray, List.set_cons_zero, List.set_cons_succ, i64_w, i32_w]
              rfl
            refine take_ (i := 5) (N := some 42) (v := ?_) (a' := ?_) #[false, true, true, true, false, true, false, false, false] rfl rfl (by kernel_rfl) (fun _ _ _ h => h) (Or.inl ⟨by rfl, ?_⟩) hHeld ?_ ?_
            rotate_left
            · rintro w' ⟨s0, s1⟩
              go_simp
              with_reducible rfl
            rotate_left
            · simp only [Act.put, List.setIfInBounds_toArray, List.set_cons_zero, List.set_cons_succ, i64_w, i32_w]
              rfl
            refine join_ (σ := Value × Value × Value) 2 #[true, true, true, true, true, true, true, false, false] (fun s_ => [(37, s_.1), (41, s_.2.1), (43, s_.2.2)]) (fun s_ w' => Kd.N k46 46 w' wd.heap.size (fun z => w.heap.size ≤ z) s_.2.1 (outs.take i) ∧ (∃ b, s_.2.2 = .slice (some ⟨b, 0, none⟩) 1 1 ∧ w'.heap[b]? = some (.cells #[.int .i64 g.f0, .slice Ag g.f1.length cg] 46 (0, 0)) ∧ some b ≠ s_.2.1.ownBlock) ∧ Below wd.heap.size wd w') ?_ ?_
            rotate_left
            · intro hCont
              refine two_ (i := 0) (j := 6) (Ni := some 37) (Nj := some 43) #[true, true, true, true, false, true, false, false, false] #[false, true, true, true, false, true, true, false, false] rfl rfl rfl rfl (by kernel_rfl) (by decide) (by decide) (fun K hK => ?_) (fun K hK => ?_)
              · refine Kd.N_lit_step k46 _ 46 ?hg (N' := 37) ?hd (xs := ([] : List S46)) (inner := []) (ok := fun _ => True) (okp := fun _ => False) ?hr ?hp (fun _ hk => hk.elim) trivial (Below.refl _ _) (Nat.le_refl _) (by simp) ?_
                case hd => rfl
                case hg => rfl
                case hr => first | (go_simp; done) | (go_simp; rfl)
                case hp => exact Reps.none _ _
                intro v37 wa hn37 hba _ hnew
                have HN37 := Aside0.mk (Kd.N_mono (Kd.N_lower hn37 (Nat.le_refl wd.heap.size)) (ok' := fun z => w.heap.size ≤ z ∨ True) (fun _ _ => .inr trivial))
                have hN37 : Kd.N k46 46 wa wd.heap.size (fun z => w.heap.size ≤ z) v37 [] := N_own hn37 (Nat.le_trans HBD.out.size (Nat.le_refl _))
                have HN37 := Aside0.mk hN37
                have HBa := Aside0.mk hba
                clear hn37 hba hN37 hnew
                refine hK.out _ _ ⟨(blk_cell (blk_below HGd.out HBa.out) 0).trans rfl, (blk_cell (blk_below HGd.out HBa.out) 1).trans rfl⟩ (fun hHeld => ?_)
                clear hK K
                refine norm_ (a' := ?_) ?_ ?_
                rotate_left
                · show Act.put _ (some 37) _ = _
                  simp only [Act.put, List.setIfInBounds_toArray, List.set_cons_zero, List.set_cons_succ, i64_w, i32_w]
                  rfl
                refine two_ (i := 4) (j := 6) (Ni := some 41) (Nj := some 43) #[true, true, true, true, true, true, false, false, false] #[true, true, true, true, false, true, true, false, false] rfl rfl rfl rfl (by kernel_rfl) (by decide) (by decide) (fun K hK => ?_) (fun K hK => ?_)
                · refine Kd.N_append_rows_step k46 (w0 := wd) wd.heap.size (by rfl) (.tmp 37) (.tmp 40) 51 46 (.agg #[(.int .i64 0), (.slice none 0 0)]) 32 rfl Tryz.underlying51 info46 rfl (by decide) (by omega) v37 [] (outs.take i) (some bd) i co (fun z => w.heap.size ≤ z) (fun z => w.heap.size ≤ z ∧ z < wd.heap.size) rfl rfl HN37.out (Kd.F_below HF1d.out HBa.out) (fun z hz => ⟨hz.1, fun he => by have := Kd.N_base HN37.out z he.symm; exact absurd hz.2 (Nat.not_lt.2 this)⟩) (fun z hz => Nat.le_trans HBD.out.size (Nat.le_trans (Below.size HBa.out) hz)) HBa.out (Below.size HBa.out) (by have := hol; simp; omega) ?_
                  intro v41 wb hn41 hbb hgb hat
                  rw [List.nil_append] at hn41
                  have HN41 := Aside0.mk hn41
                  have HBb := Aside0.mk hbb
                  clear hn41 hbb hgb hat HN37 HBa
                  refine hK.out _ _ ⟨(blk_cell (blk_below HGd.out HBb.out) 0).trans rfl, (blk_cell (blk_below HGd.out HBb.out) 1).trans rfl⟩ (fun hHeld => ?_)
                  clear hK K
                  refine norm_ (a' := ?_) ?_ ?_
                  rotate_left
                  · show Act.put _ (some 41) _ = _
                    simp only [Act.put, List.setIfInBounds_toArray, List.set_cons_zero, List.set_cons_succ, i64_w, i32_w]
                    rfl
                  refine one_ (i := 6) (N := some 43) #[true, true, true, true, true, true, true, false, false] rfl rfl (by kernel_rfl) (by decide) (fun K hK => ?_)
                  refine value_ (w1 := ?_) (v := ?_) (by rfl) rfl ?_ ?_
                  rotate_left 2
                  · go_simp
                    constructor
                    · rfl
                    · rfl
                  refine hK.out _ _ ⟨(blk_cell (blk_alloc (blk_below HGd.out HBb.out) _) 0).trans rfl, (blk_cell (blk_alloc (blk_below HGd.out HBb.out) _) 1).trans rfl⟩ (fun hHeld => ?_)
                  clear hK K
                  refine norm_ (a' := ?_) ?_ ?_
                  rotate_left
                  · show Act.put _ (some 43) _ = _
                    simp only [Act.put, List.setIfInBounds_toArray, List.set_cons_zero, List.set_cons_succ, i64_w, i32_w]
                    rfl
                  exact norm_ (by simp only [putAll, Act.put, List.setIfInBounds_toArray, List.set_cons_zero, List.set_cons_succ]) (hCont (v37, v41, .slice (some ⟨wb.heap.size, 0, none⟩) 1 1) _ ⟨Kd.N_alloc HN41.out _, ⟨_, rfl, blk_new wb _, fun he => Nat.lt_irrefl _ (Kd.N_lt HN41.out _ he.symm)⟩, HBb.out.alloc HBb.out.size _⟩)
                · refine value_ (w1 := ?_) (v := ?_) (by rfl) rfl ?_ ?_
                  rotate_left 2
                  · go_simp
                    constructor
                    · rfl
                    · rfl
                  refine hK.out _ _ ⟨(blk_cell (blk_alloc (blk_below HGd.out HBa.out) _) 0).trans rfl, (blk_cell (blk_alloc (blk_below HGd.out HBa.out) _) 1).trans rfl⟩ (fun hHeld => ?_)
                  clear hK K
                  refine norm_ (a' := ?_) ?_ ?_
                  rotate_left
                  · show Act.put _ (some 43) _ = _
                    simp only [Act.put, List.setIfInBounds_toArray, List.set_cons_zero, List.set_cons_succ, i64_w, i32_w]
                    rfl
                  have hb43 := blk_new wa (.cells #[.int .i64 g.f0, .slice Ag g.f1.length cg] 46 (0, 0))
                  have hne43 : some wa.heap.size ≠ v37.ownBlock := fun he => Nat.lt_irrefl _ (Kd.N_lt HN37.out _ he.symm)
                  have HN37b := Aside0.mk (Kd.N_alloc HN37.out (.cells #[.int .i64 g.f0, .slice Ag g.f1.length cg] 46 (0, 0)))
                  have HBab := Aside0.mk (HBa.out.alloc HBa.out.size (.cells #[.int .i64 g.f0, .slice Ag g.f1.length cg] 46 (0, 0)))
                  refine one_ (i := 4) (N := some 41) #[true, true, true, true, true, true, true, false, false] rfl rfl (by kernel_rfl) (by decide) (fun K hK => ?_)
                  refine Kd.N_append_rows_step k46 (w0 := wd) wd.heap.size (by rfl) (.tmp 37) (.tmp 40) 51 46 (.agg #[(.int .i64 0), (.slice none 0 0)]) 32 rfl Tryz.underlying51 info46 rfl (by decide) (by omega) v37 [] (outs.take i) (some bd) i co (fun z => w.heap.size ≤ z) (fun z => w.heap.size ≤ z ∧ z < wd.heap.size) rfl rfl HN37b.out (Kd.F_below HF1d.out HBab.out) (fun z hz => ⟨hz.1, fun he => by have := Kd.N_base HN37b.out z he.symm; exact absurd hz.2 (Nat.not_lt.2 this)⟩) (fun z hz => Nat.le_trans HBD.out.size (Nat.le_trans (Below.size HBab.out) hz)) HBab.out (Below.size HBab.out) (by have := hol; simp; omega) ?_
                  intro v41 wb hn41 hbb hgb hat
                  rw [List.nil_append] at hn41
                  have hb43' := blk_grown hb43 hgb hne43
                  have hne41 : some wa.heap.size ≠ v41.ownBlock := by
                    rcases hat with hat | ⟨bb, hbb', hle⟩
                    · rw [hat]; exact hne43
                    · rw [hbb']; intro he; injection he with he; have := blk_lt hb43; omega
                  refine hK.out _ _ ⟨(blk_cell (blk_below HGd.out hbb) 0).trans rfl, (blk_cell (blk_below HGd.out hbb) 1).trans rfl⟩ (fun hHeld => ?_)
                  clear hK K
                  refine norm_ (a' := ?_) ?_ ?_
                  rotate_left
                  · show Act.put _ (some 41) _ = _
                    simp only [Act.put, List.setIfInBounds_toArray, List.set_cons_zero, List.set_cons_succ, i64_w, i32_w]
                    rfl
                  exact norm_ (by simp only [putAll, Act.put, List.setIfInBounds_toArray, List.set_cons_zero, List.set_cons_succ]) (hCont (v37, v41, .slice (some ⟨wa.heap.size, 0, none⟩) 1 1) _ ⟨hn41, ⟨_, rfl, hb43', hne41⟩, hbb⟩)
              · refine value_ (w1 := ?_) (v := ?_) (by rfl) rfl ?_ ?_
                rotate_left 2
                · go_simp
                  constructor
                  · rfl
                  · rfl
                refine hK.out _ _ ⟨(blk_cell (blk_alloc HGd.out _) 0).trans rfl, (blk_cell (blk_alloc HGd.out _) 1).trans rfl⟩ (fun hHeld => ?_)
                clear hK K
                refine norm_ (a' := ?_) ?_ ?_
                rotate_left
                · show Act.put _ (some 43) _ = _
                  simp only [Act.put, List.setIfInBounds_toArray, List.set_cons_zero, List.set_cons_succ, i64_w, i32_w]
                  rfl
                have hb430 := blk_new wd (.cells #[.int .i64 g.f0, .slice Ag g.f1.length cg] 46 (0, 0))
                have HBe := Aside0.mk ((Below.refl _ wd).alloc (Nat.le_refl _) (.cells #[.int .i64 g.f0, .slice Ag g.f1.length cg] 46 (0, 0)))
                refine one_ (i := 0) (N := some 37) #[true, true, true, true, false, true, true, false, false] rfl rfl (by kernel_rfl) (by decide) (fun K hK => ?_)
                refine Kd.N_lit_step k46 _ 46 ?hg (N' := 37) ?hd (xs := ([] : List S46)) (inner := []) (ok := fun _ => True) (okp := fun _ => False) ?hr ?hp (fun _ hk => hk.elim) trivial (Below.refl _ _) (Nat.le_refl _) (by simp) ?_
                case hd => rfl
                case hg => rfl
                case hr => first | (go_simp; done) | (go_simp; rfl)
                case hp => exact Reps.none _ _
                intro v37 wa hn37 hba _ hnew
                have hN37 : Kd.N k46 46 wa wd.heap.size (fun z => w.heap.size ≤ z) v37 [] := Kd.N_lower (N_own hn37 (Nat.le_trans HBD.out.size HBe.out.size)) HBe.out.size
                have hb43 := blk_below hb430 hba
                have hne43 : some wd.heap.size ≠ v37.ownBlock := fun he => by have h1 := Kd.N_base hn37 _ he.symm; have h2 := blk_lt hb430; omega
                have HBab := Aside0.mk (HBe.out.trans (hba.mono HBe.out.size))
                have HN37b := Aside0.mk hN37
                clear hn37 hba hN37 hnew
                refine hK.out _ _ ⟨(blk_cell (blk_below HGd.out HBab.out) 0).trans rfl, (blk_cell (blk_below HGd.out HBab.out) 1).trans rfl⟩ (fun hHeld => ?_)
                clear hK K
                refine norm_ (a' := ?_) ?_ ?_
                rotate_left
                · show Act.put _ (some 37) _ = _
                  simp only [Act.put, List.setIfInBounds_toArray, List.set_cons_zero, List.set_cons_succ, i64_w, i32_w]
                  rfl
                refine one_ (i := 4) (N := some 41) #[true, true, true, true, true, true, true, false, false] rfl rfl (by kernel_rfl) (by decide) (fun K hK => ?_)
                refine Kd.N_append_rows_step k46 (w0 := wd) wd.heap.size (by rfl) (.tmp 37) (.tmp 40) 51 46 (.agg #[(.int .i64 0), (.slice none 0 0)]) 32 rfl Tryz.underlying51 info46 rfl (by decide) (by omega) v37 [] (outs.take i) (some bd) i co (fun z => w.heap.size ≤ z) (fun z => w.heap.size ≤ z ∧ z < wd.heap.size) rfl rfl HN37b.out (Kd.F_below HF1d.out HBab.out) (fun z hz => ⟨hz.1, fun he => by have := Kd.N_base HN37b.out z he.symm; exact absurd hz.2 (Nat.not_lt.2 this)⟩) (fun z hz => Nat.le_trans HBD.out.size (Nat.le_trans (Below.size HBab.out) hz)) HBab.out (Below.size HBab.out) (by have := hol; simp; omega) ?_
                intro v41 wb hn41 hbb hgb hat
                rw [List.nil_append] at hn41
                have hb43' := blk_grown hb43 hgb hne43
                have hne41 : some wd.heap.size ≠ v41.ownBlock := by
                  rcases hat with hat | ⟨bb, hbb', hle⟩
                  · rw [hat]; exact hne43
                  · rw [hbb']; intro he; injection he with he; have := blk_lt hb43; omega
                refine hK.out _ _ ⟨(blk_cell (blk_below HGd.out hbb) 0).trans rfl, (blk_cell (blk_below HGd.out hbb) 1).trans rfl⟩ (fun hHeld => ?_)
                clear hK K
                refine norm_ (a' := ?_) ?_ ?_
                rotate_left
                · show Act.put _ (some 41) _ = _
                  simp only [Act.put, List.setIfInBounds_toArray, List.set_cons_zero, List.set_cons_succ, i64_w, i32_w]
                  rfl
                exact norm_ (by simp only [putAll, Act.put, List.setIfInBounds_toArray, List.set_cons_zero, List.set_cons_succ]) (hCont (v37, v41, .slice (some ⟨wd.heap.size, 0, none⟩) 1 1) _ ⟨hn41, ⟨_, rfl, hb43', hne41⟩, hbb⟩)
            rintro ⟨v37, v41, v43⟩ w' ⟨hn41, ⟨b, hb43e, hb43, hne41⟩, hbw⟩
            dsimp only at hn41 hb43e hne41
            subst hb43e
            have HN41 := Aside0.mk hn41
            have HBW := Aside0.mk hbw
            have HB43 := Aside0.mk hb43
            have HNE := Aside0.mk hne41
            clear hn41 hbw hb43 hne41
            refine norm_ (a' := ?_) ?_ ?_
            rotate_left
            · simp only [putAll, Act.put, List.setIfInBounds_toArray, List.set_cons_zero, List.set_cons_succ]
              rfl
            refine one_ (i := 7) (N := some 44) #[true, true, true, true, true, true, true, true, false] rfl rfl (by kernel_rfl) (by decide) (fun K hK => ?_)
            refine N_append_rr_step k46 (w0 := wd) wd.heap.size (by rfl) (.tmp 41) (.tmp 43) 51 46 (.agg #[(.int .i64 0), (.slice none 0 0)]) 32 rfl Tryz.underlying51 info46 rfl (by decide) (by omega) v41 (outs.take i) [g] (some ⟨b, 0, none⟩) 1 1 (fun z => w.heap.size ≤ z) (fun z => w.heap.size ≤ z ∧ z < wd.heap.size) rfl rfl HN41.out (rr_one HB43.out (Kd.FK_below HGFd.out HBW.out)) (fun z hz => ⟨hz.1, fun he => by have := Kd.N_base HN41.out z he.symm; exact absurd hz.2 (Nat.not_lt.2 this)⟩) (fun z hz => Nat.le_trans HBD.out.size (Nat.le_trans HBW.out.size hz)) HBW.out HBW.out.size (by rw [hlt1]; have := hol; omega) ?_
            intro v44 wc hn44 hbc _ _
            obtain ⟨A44, c44, rfl⟩ := Kd.N_slice hn44
            have HN44 := Aside0.mk hn44
            have HBC := Aside0.mk hbc
            clear hn44 hbc HN41 HBW HB43 HNE
            refine hK.out _ _ ⟨(blk_cell (blk_below HGd.out HBC.out) 0).trans rfl, (blk_cell (blk_below HGd.out HBC.out) 1).trans rfl⟩ (fun hHeld => ?_)
            clear hK K
            refine norm_ (a' := ?_) ?_ ?_
            rotate_left
            · show Act.put _ (some 44) _ = _
              simp only [Act.put, List.setIfInBounds_toArray, List.set_cons_zero, List.set_cons_succ, i64_w, i32_w]
              rfl
            refine pure_ (i := 8) (N := some 10) (v := ?_) (a' := ?_) #[true, true, true, true, true, true, true, true, true] rfl rfl (by kernel_rfl) (fun _ _ _ h => h) (Or.inl ⟨by rfl, ?_⟩) ?_ ?_
            rotate_left
            · intro w'
              go_simp
              with_reducible rfl
            rotate_left
            · simp only [Act.put, List.setIfInBounds_toArray, List.set_cons_zero, List.set_cons_succ, i64_w, i32_w]
              rfl
            refine done_ (by kernel_rfl) ?_
            have hl44 : (outs.take i ++ [g]).length = i + 1 := by rw [List.length_append, hlt1]; rfl
            have hn44 := HN44.out
            rw [hl44] at hn44
            have HN45 := Aside0.mk hn44
            clear hn44 HN44
            go_wp2_with ((with_reducible refine gate_builtin (b := .append) (xs := #[.tmp 45, .tmp 48]) rfl ?_); at_builtin; refine Kd.N_append_rows k46 (w0 := wd) wd.heap.size rfl (.tmp 45) (.tmp 48) 51 46 (.agg #[(.int .i64 0), (.slice none 0 0)]) 32 rfl Tryz.underlying51 info46 rfl (by decide) (by omega) (.slice A44 (i + 1) c44) (outs.take i ++ [g]) (outs.drop i) A2c n2c c2c (fun z => w.heap.size ≤ z) (fun z => w.heap.size ≤ z ∧ z < wd.heap.size) rfl rfl HN45.out (Kd.F_below HF2d.out HBC.out) (fun z hz => ⟨hz.1, fun he => by have := Kd.N_base HN45.out z he.symm; exact absurd hz.2 (Nat.not_lt.2 this)⟩) (fun z hz => Nat.le_trans HBD.out.size (Nat.le_trans HBC.out.size hz)) HBC.out HBC.out.size (by rw [hl44, HN2c.out]; have := hol; omega) ?_; intro v49 we hn49 hbe _ _; obtain ⟨A49, c49, rfl⟩ := Kd.N_slice hn49; have HN49 := Aside0.mk hn49; have HBE := Aside0.mk hbe; clear hn49 hbe)
            have hl3 : (outs.take i ++ [g] ++ outs.drop i).length = outs.length + 1 := by rw [List.length_append, hl44, hld1]; exact om6 hi
            go_roundg (gs.length - (kk + 1))
            case measure => exact om2 hlt hg
            case rel => exact ⟨kk + 1, A49, c49, outs.take i ++ [g] ++ outs.drop i, hlt, Nat.le_refl _, by first | rfl | (simp; done) | (congr 1; simp; omega), by congr 1; (try exact om3 hlt (Nat.le_trans c1 (by decide))), ⟨by rw [hl3, HOL.out]⟩, (Kd.N_reads' HN49.out).2.1, HT2, ⟨Kd.F_bound (Kd.N_F HN49.out)⟩, ⟨HAD.out.trans (HBE.out.mono HAD.out.size)⟩⟩
        · have hiz : ¬ (i : Int) < (outs.length : Int) := fun e => hil (Int.ofNat_lt.1 e)
          have hizb : decide ((i : Int) < (outs.length : Int)) = false := decide_eq_false hiz
          have hie : i = outs.length := Nat.le_antisymm hi (Nat.le_of_not_lt hil)
          have hP := HPOS.out
          rw [List.drop_of_length_le (Nat.le_of_eq hie.symm)] at hP
          obtain rfl := Option.some.inj hP
          have HT2 := HT2a
          clear hP HPOS hie
          clear HGC HT2a HGF HQ
          go_wp2_with fail
          refine start_ (n := 12) (S := fun w' => w'.cell? ⟨wo.heap.size, 0, none⟩ = some (.int .i64 g.f0) ∧ w'.cell? ⟨wo.heap.size, 1, none⟩ = some (.slice Ag g.f1.length cg)) (ds := []) #[false, false, false, false, false, false, false, false, false, false, false, false] (by kernel_rfl) rfl rfl (⟨(blk_cell (blk_drew HGB.out) 0).trans rfl, (blk_cell (blk_drew HGB.out) 1).trans rfl⟩) (fun hHeld => ?_)
          have HDR := Aside0.mk (below_drew (Below.refl wr.heap.size wr))
          generalize hwd : wr.drew = wd0 at *
          refine pure_ (i := 0) (N := some 23) (v := ?_) (a' := ?_) #[true, false, false, false, false, false, false, false, false, false, false, false] rfl rfl (by kernel_rfl) (fun _ _ _ h => h) (Or.inl ⟨by rfl, ?_⟩) ?_ ?_
          rotate_left
          · intro w'
            go_simp
            with_reducible rfl
          rotate_left
          · simp only [Act.put, List.setIfInBounds_toArray, List.set_cons_zero, List.set_cons_succ, i64_w, i32_w]
            rfl
          refine pure_ (i := 1) (N := some 24) (v := ?_) (a' := ?_) #[true, true, false, false, false, false, false, false, false, false, false, false] rfl rfl (by kernel_rfl) (fun _ _ _ h => h) (Or.inl ⟨by rfl, ?_⟩) ?_ ?_
          rotate_left
          · intro w'
            go_simp
            with_reducible rfl
          rotate_left
          · simp only [Act.put, List.setIfInBounds_toArray, List.set_cons_zero, List.set_cons_succ, i64_w, i32_w]
            rfl
          refine pure_ (i := 2) (N := some 25) (v := ?_) (a' := ?_) #[true, true, true, false, false, false, false, false, false, false, false, false] rfl rfl (by kernel_rfl) (fun _ _ _ h => h) (Or.inl ⟨by rfl, ?_⟩) ?_ ?_
          rotate_left
          · intro w'
            go_simp
            with_reducible rfl
          rotate_left
          · simp only [Act.put, List.setIfInBounds_toArray, List.set_cons_zero, List.set_cons_succ, i64_w, i32_w]
            rfl
          refine pure_ (i := 3) (N := some 26) (v := ?_) (a' := ?_) #[true, true, true, true, false, false, false, false, false, false, false, false] rfl rfl (by kernel_rfl) (fun _ _ _ h => h) (Or.inl ⟨by rfl, ?_⟩) ?_ ?_
          rotate_left
          · intro w'
            go_simp
            with_reducible rfl
          rotate_left
          · simp only [Act.put, List.setIfInBounds_toArray, List.set_cons_zero, List.set_cons_succ, i64_w, i32_w]
            rfl
          refine pure_ (i := 4) (N := some 27) (v := ?_) (a' := ?_) #[true, true, true, true, true, false, false, false, false, false, false, false] rfl rfl (by kernel_rfl) (fun _ _ _ h => h) (Or.inl ⟨by rfl, ?_⟩) ?_ ?_
          rotate_left
          · intro w'
            go_simp
            with_reducible rfl
          rotate_left
          · simp only [Act.put, List.setIfInBounds_toArray, List.set_cons_zero, List.set_cons_succ, i64_w, i32_w]
            rfl
          refine pure_ (i := 5) (N := some 28) (v := undef) (a' := ?_) #[true, true, true, true, true, true, false, false, false, false, false, false] rfl rfl (by kernel_rfl) (fun _ _ _ h => h) (Or.inr ⟨by rfl, rfl⟩) ?_ ?_
          rotate_left
          · simp only [Act.put, List.setIfInBounds_toArray, List.set_cons_zero, List.set_cons_succ, i64_w, i32_w]
            rfl
          refine pure_ (i := 6) (N := some 29) (v := undef) (a' := ?_) #[true, true, true, true, true, true, true, false, false, false, false, false] rfl rfl (by kernel_rfl) (fun _ _ _ h => h) (Or.inr ⟨by rfl, rfl⟩) ?_ ?_
          rotate_left
          · simp only [Act.put, List.setIfInBounds_toArray, List.set_cons_zero, List.set_cons_succ, i64_w, i32_w]
            rfl
          refine pure_ (i := 7) (N := some 30) (v := undef) (a' := ?_) #[true, true, true, true, true, true, true, true, false, false, false, false] rfl rfl (by kernel_rfl) (fun _ _ _ h => h) (Or.inr ⟨by rfl, rfl⟩) ?_ ?_
          rotate_left
          · simp only [Act.put, List.setIfInBounds_toArray, List.set_cons_zero, List.set_cons_succ, i64_w, i32_w]
            rfl
          refine pure_ (i := 8) (N := some 31) (v := undef) (a' := ?_) #[true, true, true, true, true, true, true, true, true, false, false, false] rfl rfl (by kernel_rfl) (fun _ _ _ h => h) (Or.inr ⟨by rfl, rfl⟩) ?_ ?_
          rotate_left
          · simp only [Act.put, List.setIfInBounds_toArray, List.set_cons_zero, List.set_cons_succ, i64_w, i32_w]
            rfl
          refine pure_ (i := 9) (N := some 32) (v := undef) (a' := ?_) #[true, true, true, true, true, true, true, true, true, true, false, false] rfl rfl (by kernel_rfl) (fun _ _ _ h => h) (Or.inr ⟨by rfl, rfl⟩) ?_ ?_
          rotate_left
          · simp only [Act.put, List.setIfInBounds_toArray, List.set_cons_zero, List.set_cons_succ, i64_w, i32_w]
            rfl
          refine pure_ (i := 10) (N := some 33) (v := undef) (a' := ?_) #[true, true, true, true, true, true, true, true, true, true, true, false] rfl rfl (by kernel_rfl) (fun _ _ _ h => h) (Or.inr ⟨by rfl, rfl⟩) ?_ ?_
          rotate_left
          · simp only [Act.put, List.setIfInBounds_toArray, List.set_cons_zero, List.set_cons_succ, i64_w, i32_w]
            rfl
          refine pure_ (i := 11) (N := some 34) (v := ?_) (a' := ?_) #[true, true, true, true, true, true, true, true, true, true, true, true] rfl rfl (by kernel_rfl) (fun _ _ _ h => h) (Or.inl ⟨by rfl, ?_⟩) ?_ ?_
          rotate_left
          · intro w'
            go_simp
            with_reducible rfl
          rotate_left
          · simp only [Act.put, List.setIfInBounds_toArray, List.set_cons_zero, List.set_cons_succ, i64_w, i32_w]
            rfl
          refine done_ (by kernel_rfl) ?_
          have HGBd := Aside0.mk (blk_below HGB.out HDR.out)
          have HOQd := Aside0.mk (Kd.F_mono (Kd.F_below HOQ.out HDR.out) (ok' := fun z => w.heap.size ≤ z ∧ z < wd0.heap.size) (fun z hz => ⟨hz.1, Nat.lt_of_lt_of_le hz.2 HDR.out.size⟩))
          have HGFQd := Aside0.mk (Kd.FK_mono (Kd.FK_below HGFQ.out HDR.out) (ok' := fun z => w.heap.size ≤ z ∧ z < wd0.heap.size) (fun z hz => ⟨hz.1, Nat.lt_of_lt_of_le hz.2 HDR.out.size⟩))
          have HA1d := Aside0.mk (HA1.out.trans (HDR.out.mono HA1.out.size))
          have HBQd := Aside0.mk (HBQ.out.trans (HDR.out.mono HBQ.out.size))
          clear HGB HOQ HGFQ HA1 HBQ hHeld
          have HGB := HGBd
          have HOQ := HOQd
          have HGFQ := HGFQd
          have HA1 := HA1d
          have HBQ := HBQd
          clear HGBd HOQd HGFQd HA1d HBQd HDR
          go_wp2_with fail
          have hcut1 := cut_to (P := Tryz.prog) 51 46 .i64 Tryz.underlying51 hinf Ao outs.length co (i : Int) (Int.natCast_nonneg _) (Int.ofNat_le.2 hi) hoc
          simp only [Int.toNat_natCast] at hcut1
          have hcut2 := cut_from (P := Tryz.prog) 51 46 .i64 Tryz.underlying51 hinf 2 hinf2 Ao outs.length co (i : Int) (Int.natCast_nonneg _) (Int.ofNat_le.2 hi)
          simp only [Int.toNat_natCast] at hcut2
          obtain ⟨A2c, hA2c⟩ : ∃ A2c : Option Addr, A2c = (if co = i then Ao else (Ao : Option Addr).map (·.add (i * 2))) := ⟨_, rfl⟩
          obtain ⟨c2c, hc2c⟩ : ∃ c2c : Nat, c2c = co - i := ⟨_, rfl⟩
          obtain ⟨n2c, hn2c⟩ : ∃ n2c : Nat, n2c = outs.length - i := ⟨_, rfl⟩
          rw [← hA2c, ← hc2c, ← hn2c] at hcut2
          have hib : decide (0 ≤ (i : Int)) = true := decide_eq_true (Int.natCast_nonneg _)
          have hlt1 : (outs.take i).length = i := by rw [List.length_take]; exact Nat.min_eq_left hi
          have hld1 : (outs.drop i).length = outs.length - i := List.length_drop
          have HF1 := Aside0.mk (show Kd.F k46 wd0 (fun z => w.heap.size ≤ z ∧ z < wd0.heap.size) Ao i (outs.take i) from by have := Kd.F_take HOQ.out hi; rwa [hlt1] at this)
          have HF2 := Aside0.mk (show Kd.F k46 wd0 (fun z => w.heap.size ≤ z ∧ z < wd0.heap.size) A2c n2c (outs.drop i) from by have := Kd.F_cut HOQ.out hi hoc; rw [hld1] at this; rw [hA2c, hn2c]; exact this)
          have HN2c := Aside0.mk hn2c
          clear hA2c hc2c hn2c
          go_wp2_with fail
          refine start_ (n := 9) (S := fun w' => w'.cell? ⟨wo.heap.size, 0, none⟩ = some (.int .i64 g.f0) ∧ w'.cell? ⟨wo.heap.size, 1, none⟩ = some (.slice Ag g.f1.length cg)) (ds := []) #[false, false, false, false, false, false, false, false, false] (by kernel_rfl) rfl rfl (⟨(blk_cell (blk_drew HGB.out) 0).trans rfl, (blk_cell (blk_drew HGB.out) 1).trans rfl⟩) (fun hHeld => ?_)
          have HBD := Aside0.mk (HBQ.out.trans ((below_drew (Below.refl _ _)).mono HBQ.out.size))
          have HAD := Aside0.mk (Below.trans HA1.out ((below_drew (Below.refl _ _)).mono HA1.out.size))
          have HF1d := Aside0.mk (Kd.F_drew HF1.out)
          have HF2d := Aside0.mk (Kd.F_drew HF2.out)
          have HGd := Aside0.mk (blk_drew HGB.out)
          have HGFd := Aside0.mk (Kd.FK_below HGFQ.out (below_drew (Below.refl _ _)))
          have hsz : wd0.drew.heap.size = wd0.heap.size := rfl
          clear HF1 HF2 HGB HGFQ HOQ HBQ HA1
          rw [← hsz] at HF1d HF2d HGFd
          clear hsz
          generalize wd0.drew = wd at *
          refine pure_ (i := 1) (N := some 38) (v := ?_) (a' := ?_) #[false, true, false, false, false, false, false, false, false] rfl rfl (by kernel_rfl) (fun _ _ _ h => h) (Or.inl ⟨by rfl, ?_⟩) ?_ ?_
          rotate_left
          · intro w'
            go_simp
            with_reducible rfl
          rotate_left
          · simp only [Act.put, List.setIfInBounds_toArray, List.set_cons_zero, List.set_cons_succ, i64_w, i32_w]
            rfl
          refine pure_ (i := 2) (N := some 39) (v := ?_) (a' := ?_) #[false, true, true, false, false, false, false, false, false] rfl rfl (by kernel_rfl) (fun _ _ _ h => h) (Or.inl ⟨by rfl, ?_⟩) ?_ ?_
          rotate_left
          · intro w'
            go_simp
            with_reducible rfl
          rotate_left
          · simp only [Act.put, List.setIfInBounds_toArray, List.set_cons_zero, List.set_cons_succ, i64_w, i32_w]
            rfl
          refine pure_ (i := 3) (N := some 40) (v := ?_) (a' := ?_) #[false, true, true, true, false, false, false, false, false] rfl rfl (by kernel_rfl) (fun _ _ _ h => h) (Or.inl ⟨by rfl, ?_⟩) ?_ ?_
          rotate_left
          · intro w'
            go_simp
            with_reducible rfl
          rotate_left
          · simp only [Act.put, List.setIfInBounds_toArray, List.set_cons_zero, List.set_cons_succ, i64_w, i32_w]
            rfl
          refine take_ (i := 5) (N := some 42) (v := ?_) (a' := ?_) #[false, true, true, true, false, true, false, false, false] rfl rfl (by kernel_rfl) (fun _ _ _ h => h) (Or.inl ⟨by rfl, ?_⟩) hHeld ?_ ?_
          rotate_left
          · rintro w' ⟨s0, s1⟩
            go_simp
            with_reducible rfl
          rotate_left
          · simp only [Act.put, List.setIfInBounds_toArray, List.set_cons_zero, List.set_cons_succ, i64_w, i32_w]
            rfl
          refine join_ (σ := Value × Value × Value) 2 #[true, true, true, true, true, true, true, false, false] (fun s_ => [(37, s_.1), (41, s_.2.1), (43, s_.2.2)]) (fun s_ w' => Kd.N k46 46 w' wd.heap.size (fun z => w.heap.size ≤ z) s_.2.1 (outs.take i) ∧ (∃ b, s_.2.2 = .slice (some ⟨b, 0, none⟩) 1 1 ∧ w'.heap[b]? = some (.cells #[.int .i64 g.f0, .slice Ag g.f1.length cg] 46 (0, 0)) ∧ some b ≠ s_.2.1.ownBlock) ∧ Below wd.heap.size wd w') ?_ ?_
          rotate_left
          · intro hCont
            refine two_ (i := 0) (j := 6) (Ni := some 37) (Nj := some 43) #[true, true, true, true, false, true, false, false, false] #[false, true, true, true, false, true, true, false, false] rfl rfl rfl rfl (by kernel_rfl) (by decide) (by decide) (fun K hK => ?_) (fun K hK => ?_)
            · refine Kd.N_lit_step k46 _ 46 ?hg (N' := 37) ?hd (xs := ([] : List S46)) (inner := []) (ok := fun _ => True) (okp := fun _ => False) ?hr ?hp (fun _ hk => hk.elim) trivial (Below.refl _ _) (Nat.le_refl _) (by simp) ?_
              case hd => rfl
              case hg => rfl
              case hr => first | (go_simp; done) | (go_simp; rfl)
              case hp => exact Reps.none _ _
              intro v37 wa hn37 hba _ hnew
              have HN37 := Aside0.mk (Kd.N_mono (Kd.N_lower hn37 (Nat.le_refl wd.heap.size)) (ok' := fun z => w.heap.size ≤ z ∨ True) (fun _ _ => .inr trivial))
              have hN37 : Kd.N k46 46 wa wd.heap.size (fun z => w.heap.size ≤ z) v37 [] := N_own hn37 (Nat.le_trans HBD.out.size (Nat.le_refl _))
              have HN37 := Aside0.mk hN37
              have HBa := Aside0.mk hba
              clear hn37 hba hN37 hnew
              refine hK.out _ _ ⟨(blk_cell (blk_below HGd.out HBa.out) 0).trans rfl, (blk_cell (blk_below HGd.out HBa.out) 1).trans rfl⟩ (fun hHeld => ?_)
              clear hK K
              refine norm_ (a' := ?_) ?_ ?_
              rotate_left
              · show Act.put _ (some 37) _ = _
                simp only [Act.put, List.setIfInBounds_toArray, List.set_cons_zero, List.set_cons_succ, i64_w, i32_w]
                rfl
              refine two_ (i := 4) (j := 6) (Ni := some 41) (Nj := some 43) #[true, true, true, true, true, true, false, false, false] #[true, true, true, true, false, true, true, false, false] rfl rfl rfl rfl (by kernel_rfl) (by decide) (by decide) (fun K hK => ?_) (fun K hK => ?_)
              · refine Kd.N_append_rows_step k46 (w0 := wd) wd.heap.size (by rfl) (.tmp 37) (.tmp 40) 51 46 (.agg #[(.int .i64 0), (.slice none 0 0)]) 32 rfl Tryz.underlying51 info46 rfl (by decide) (by omega) v37 [] (outs.take i) Ao i co (fun z => w.heap.size ≤ z) (fun z => w.heap.size ≤ z ∧ z < wd.heap.size) rfl rfl HN37.out (Kd.F_below HF1d.out HBa.out) (fun z hz => ⟨hz.1, fun he => by have := Kd.N_base HN37.out z he.symm; exact absurd hz.2 (Nat.not_lt.2 this)⟩) (fun z hz => Nat.le_trans HBD.out.size (Nat.le_trans (Below.size HBa.out) hz)) HBa.out (Below.size HBa.out) (by have := hol; simp; omega) ?_
                intro v41 wb hn41 hbb hgb hat
                rw [List.nil_append] at hn41
                have HN41 := Aside0.mk hn41
                have HBb := Aside0.mk hbb
                clear hn41 hbb hgb hat HN37 HBa
                refine hK.out _ _ ⟨(blk_cell (blk_below HGd.out HBb.out) 0).trans rfl, (blk_cell (blk_below HGd.out HBb.out) 1).trans rfl⟩ (fun hHeld => ?_)
                clear hK K
                refine norm_ (a' := ?_) ?_ ?_
                rotate_left
                · show Act.put _ (some 41) _ = _
                  simp only [Act.put, List.setIfInBounds_toArray, List.set_cons_zero, List.set_cons_succ, i64_w, i32_w]
                  rfl
                refine one_ (i := 6) (N := some 43) #[true, true, true, true, true, true, true, false, false] rfl rfl (by kernel_rfl) (by decide) (fun K hK => ?_)
                refine value_ (w1 := ?_) (v := ?_) (by rfl) rfl ?_ ?_
                rotate_left 2
                · go_simp
                  constructor
                  · rfl
                  · rfl
                refine hK.out _ _ ⟨(blk_cell (blk_alloc (blk_below HGd.out HBb.out) _) 0).trans rfl, (blk_cell (blk_alloc (blk_below HGd.out HBb.out) _) 1).trans rfl⟩ (fun hHeld => ?_)
                clear hK K
                refine norm_ (a' := ?_) ?_ ?_
                rotate_left
                · show Act.put _ (some 43) _ = _
                  simp only [Act.put, List.setIfInBounds_toArray, List.set_cons_zero, List.set_cons_succ, i64_w, i32_w]
                  rfl
                exact norm_ (by simp only [putAll, Act.put, List.setIfInBounds_toArray, List.set_cons_zero, List.set_cons_succ]) (hCont (v37, v41, .slice (some ⟨wb.heap.size, 0, none⟩) 1 1) _ ⟨Kd.N_alloc HN41.out _, ⟨_, rfl, blk_new wb _, fun he => Nat.lt_irrefl _ (Kd.N_lt HN41.out _ he.symm)⟩, HBb.out.alloc HBb.out.size _⟩)
              · refine value_ (w1 := ?_) (v := ?_) (by rfl) rfl ?_ ?_
                rotate_left 2
                · go_simp
                  constructor
                  · rfl
                  · rfl
                refine hK.out _ _ ⟨(blk_cell (blk_alloc (blk_below HGd.out HBa.out) _) 0).trans rfl, (blk_cell (blk_alloc (blk_below HGd.out HBa.out) _) 1).trans rfl⟩ (fun hHeld => ?_)
                clear hK K
                refine norm_ (a' := ?_) ?_ ?_
                rotate_left
                · show Act.put _ (some 43) _ = _
                  simp only [Act.put, List.setIfInBounds_toArray, List.set_cons_zero, List.set_cons_succ, i64_w, i32_w]
                  rfl
                have hb43 := blk_new wa (.cells #[.int .i64 g.f0, .slice Ag g.f1.length cg] 46 (0, 0))
                have hne43 : some wa.heap.size ≠ v37.ownBlock := fun he => Nat.lt_irrefl _ (Kd.N_lt HN37.out _ he.symm)
                have HN37b := Aside0.mk (Kd.N_alloc HN37.out (.cells #[.int .i64 g.f0, .slice Ag g.f1.length cg] 46 (0, 0)))
                have HBab := Aside0.mk (HBa.out.alloc HBa.out.size (.cells #[.int .i64 g.f0, .slice Ag g.f1.length cg] 46 (0, 0)))
                refine one_ (i := 4) (N := some 41) #[true, true, true, true, true, true, true, false, false] rfl rfl (by kernel_rfl) (by decide) (fun K hK => ?_)
                refine Kd.N_append_rows_step k46 (w0 := wd) wd.heap.size (by rfl) (.tmp 37) (.tmp 40) 51 46 (.agg #[(.int .i64 0), (.slice none 0 0)]) 32 rfl Tryz.underlying51 info46 rfl (by decide) (by omega) v37 [] (outs.take i) Ao i co (fun z => w.heap.size ≤ z) (fun z => w.heap.size ≤ z ∧ z < wd.heap.size) rfl rfl HN37b.out (Kd.F_below HF1d.out HBab.out) (fun z hz => ⟨hz.1, fun he => by have := Kd.N_base HN37b.out z he.symm; exact absurd hz.2 (Nat.not_lt.2 this)⟩) (fun z hz => Nat.le_trans HBD.out.size (Nat.le_trans (Below.size HBab.out) hz)) HBab.out (Below.size HBab.out) (by have := hol; simp; omega) ?_
                intro v41 wb hn41 hbb hgb hat
                rw [List.nil_append] at hn41
                have hb43' := blk_grown hb43 hgb hne43
                have hne41 : some wa.heap.size ≠ v41.ownBlock := by
                  rcases hat with hat | ⟨bb, hbb', hle⟩
                  · rw [hat]; exact hne43
                  · rw [hbb']; intro he; injection he with he; have := blk_lt hb43; omega
                refine hK.out _ _ ⟨(blk_cell (blk_below HGd.out hbb) 0).trans rfl, (blk_cell (blk_below HGd.out hbb) 1).trans rfl⟩ (fun hHeld => ?_)
                clear hK K
                refine norm_ (a' := ?_) ?_ ?_
                rotate_left
                · show Act.put _ (some 41) _ = _
                  simp only [Act.put, List.setIfInBounds_toArray, List.set_cons_zero, List.set_cons_succ, i64_w, i32_w]
                  rfl
                exact norm_ (by simp only [putAll, Act.put, List.setIfInBounds_toArray, List.set_cons_zero, List.set_cons_succ]) (hCont (v37, v41, .slice (some ⟨wa.heap.size, 0, none⟩) 1 1) _ ⟨hn41, ⟨_, rfl, hb43', hne41⟩, hbb⟩)
            · refine value_ (w1 := ?_) (v := ?_) (by rfl) rfl ?_ ?_
              rotate_left 2
              · go_simp
                constructor
                · rfl
                · rfl
              refine hK.out _ _ ⟨(blk_cell (blk_alloc HGd.out _) 0).trans rfl, (blk_cell (blk_alloc HGd.out _) 1).trans rfl⟩ (fun hHeld => ?_)
              clear hK K
              refine norm_ (a' := ?_) ?_ ?_
              rotate_left
              · show Act.put _ (some 43) _ = _
                simp only [Act.put, List.setIfInBounds_toArray, List.set_cons_zero, List.set_cons_succ, i64_w, i32_w]
                rfl
              have hb430 := blk_new wd (.cells #[.int .i64 g.f0, .slice Ag g.f1.length cg] 46 (0, 0))
              have HBe := Aside0.mk ((Below.refl _ wd).alloc (Nat.le_refl _) (.cells #[.int .i64 g.f0, .slice Ag g.f1.length cg] 46 (0, 0)))
              refine one_ (i := 0) (N := some 37) #[true, true, true, true, false, true, true, false, false] rfl rfl (by kernel_rfl) (by decide) (fun K hK => ?_)
              refine Kd.N_lit_step k46 _ 46 ?hg (N' := 37) ?hd (xs := ([] : List S46)) (inner := []) (ok := fun _ => True) (okp := fun _ => False) ?hr ?hp (fun _ hk => hk.elim) trivial (Below.refl _ _) (Nat.le_refl _) (by simp) ?_
              case hd => rfl
              case hg => rfl
              case hr => first | (go_simp; done) | (go_simp; rfl)
              case hp => exact Reps.none _ _
              intro v37 wa hn37 hba _ hnew
              have hN37 : Kd.N k46 46 wa wd.heap.size (fun z => w.heap.size ≤ z) v37 [] := Kd.N_lower (N_own hn37 (Nat.le_trans HBD.out.size HBe.out.size)) HBe.out.size
              have hb43 := blk_below hb430 hba
              have hne43 : some wd.heap.size ≠ v37.ownBlock := fun he => by have h1 := Kd.N_base hn37 _ he.symm; have h2 := blk_lt hb430; omega
              have HBab := Aside0.mk (HBe.out.trans (hba.mono HBe.out.size))
              have HN37b := Aside0.mk hN37
              clear hn37 hba hN37 hnew
              refine hK.out _ _ ⟨(blk_cell (blk_below HGd.out HBab.out) 0).trans rfl, (blk_cell (blk_below HGd.out HBab.out) 1).trans rfl⟩ (fun hHeld => ?_)
              clear hK K
              refine norm_ (a' := ?_) ?_ ?_
              rotate_left
              · show Act.put _ (some 37) _ = _
                simp only [Act.put, List.setIfInBounds_toArray, List.set_cons_zero, List.set_cons_succ, i64_w, i32_w]
                rfl
              refine one_ (i := 4) (N := some 41) #[true, true, true, true, true, true, true, false, false] rfl rfl (by kernel_rfl) (by decide) (fun K hK => ?_)
              refine Kd.N_append_rows_step k46 (w0 := wd) wd.heap.size (by rfl) (.tmp 37) (.tmp 40) 51 46 (.agg #[(.int .i64 0), (.slice none 0 0)]) 32 rfl Tryz.underlying51 info46 rfl (by decide) (by omega) v37 [] (outs.take i) Ao i co (fun z => w.heap.size ≤ z) (fun z => w.heap.size ≤ z ∧ z < wd.heap.size) rfl rfl HN37b.out (Kd.F_below HF1d.out HBab.out) (fun z hz => ⟨hz.1, fun he => by have := Kd.N_base HN37b.out z he.symm; exact absurd hz.2 (Nat.not_lt.2 this)⟩) (fun z hz => Nat.le_trans HBD.out.size (Nat.le_trans (Below.size HBab.out) hz)) HBab.out (Below.size HBab.out) (by have := hol; simp; omega) ?_
              intro v41 wb hn41 hbb hgb hat
              rw [List.nil_append] at hn41
              have hb43' := blk_grown hb43 hgb hne43
              have hne41 : some wd.heap.size ≠ v41.ownBlock := by
                rcases hat with hat | ⟨bb, hbb', hle⟩
                · rw [hat]; exact hne43
                · rw [hbb']; intro he; injection he with he; have := blk_lt hb43; omega
              refine hK.out _ _ ⟨(blk_cell (blk_below HGd.out hbb) 0).trans rfl, (blk_cell (blk_below HGd.out hbb) 1).trans rfl⟩ (fun hHeld => ?_)
              clear hK K
              refine norm_ (a' := ?_) ?_ ?_
              rotate_left
              · show Act.put _ (some 41) _ = _
                simp only [Act.put, List.setIfInBounds_toArray, List.set_cons_zero, List.set_cons_succ, i64_w, i32_w]
                rfl
              exact norm_ (by simp only [putAll, Act.put, List.setIfInBounds_toArray, List.set_cons_zero, List.set_cons_succ]) (hCont (v37, v41, .slice (some ⟨wd.heap.size, 0, none⟩) 1 1) _ ⟨hn41, ⟨_, rfl, hb43', hne41⟩, hbb⟩)
          rintro ⟨v37, v41, v43⟩ w' ⟨hn41, ⟨b, hb43e, hb43, hne41⟩, hbw⟩
          dsimp only at hn41 hb43e hne41
          subst hb43e
          have HN41 := Aside0.mk hn41
          have HBW := Aside0.mk hbw
          have HB43 := Aside0.mk hb43
          have HNE := Aside0.mk hne41
          clear hn41 hbw hb43 hne41
          refine norm_ (a' := ?_) ?_ ?_
          rotate_left
          · simp only [putAll, Act.put, List.setIfInBounds_toArray, List.set_cons_zero, List.set_cons_succ]
            rfl
          refine one_ (i := 7) (N := some 44) #[true, true, true, true, true, true, true, true, false] rfl rfl (by kernel_rfl) (by decide) (fun K hK => ?_)
          refine N_append_rr_step k46 (w0 := wd) wd.heap.size (by rfl) (.tmp 41) (.tmp 43) 51 46 (.agg #[(.int .i64 0), (.slice none 0 0)]) 32 rfl Tryz.underlying51 info46 rfl (by decide) (by omega) v41 (outs.take i) [g] (some ⟨b, 0, none⟩) 1 1 (fun z => w.heap.size ≤ z) (fun z => w.heap.size ≤ z ∧ z < wd.heap.size) rfl rfl HN41.out (rr_one HB43.out (Kd.FK_below HGFd.out HBW.out)) (fun z hz => ⟨hz.1, fun he => by have := Kd.N_base HN41.out z he.symm; exact absurd hz.2 (Nat.not_lt.2 this)⟩) (fun z hz => Nat.le_trans HBD.out.size (Nat.le_trans HBW.out.size hz)) HBW.out HBW.out.size (by rw [hlt1]; have := hol; omega) ?_
          intro v44 wc hn44 hbc _ _
          obtain ⟨A44, c44, rfl⟩ := Kd.N_slice hn44
          have HN44 := Aside0.mk hn44
          have HBC := Aside0.mk hbc
          clear hn44 hbc HN41 HBW HB43 HNE
          refine hK.out _ _ ⟨(blk_cell (blk_below HGd.out HBC.out) 0).trans rfl, (blk_cell (blk_below HGd.out HBC.out) 1).trans rfl⟩ (fun hHeld => ?_)
          clear hK K
          refine norm_ (a' := ?_) ?_ ?_
          rotate_left
          · show Act.put _ (some 44) _ = _
            simp only [Act.put, List.setIfInBounds_toArray, List.set_cons_zero, List.set_cons_succ, i64_w, i32_w]
            rfl
          refine pure_ (i := 8) (N := some 10) (v := ?_) (a' := ?_) #[true, true, true, true, true, true, true, true, true] rfl rfl (by kernel_rfl) (fun _ _ _ h => h) (Or.inl ⟨by rfl, ?_⟩) ?_ ?_
          rotate_left
          · intro w'
            go_simp
            with_reducible rfl
          rotate_left
          · simp only [Act.put, List.setIfInBounds_toArray, List.set_cons_zero, List.set_cons_succ, i64_w, i32_w]
            rfl
          refine done_ (by kernel_rfl) ?_
          have hl44 : (outs.take i ++ [g]).length = i + 1 := by rw [List.length_append, hlt1]; rfl
          have hn44 := HN44.out
          rw [hl44] at hn44
          have HN45 := Aside0.mk hn44
          clear hn44 HN44
          go_wp2_with ((with_reducible refine gate_builtin (b := .append) (xs := #[.tmp 45, .tmp 48]) rfl ?_); at_builtin; refine Kd.N_append_rows k46 (w0 := wd) wd.heap.size rfl (.tmp 45) (.tmp 48) 51 46 (.agg #[(.int .i64 0), (.slice none 0 0)]) 32 rfl Tryz.underlying51 info46 rfl (by decide) (by omega) (.slice A44 (i + 1) c44) (outs.take i ++ [g]) (outs.drop i) A2c n2c c2c (fun z => w.heap.size ≤ z) (fun z => w.heap.size ≤ z ∧ z < wd.heap.size) rfl rfl HN45.out (Kd.F_below HF2d.out HBC.out) (fun z hz => ⟨hz.1, fun he => by have := Kd.N_base HN45.out z he.symm; exact absurd hz.2 (Nat.not_lt.2 this)⟩) (fun z hz => Nat.le_trans HBD.out.size (Nat.le_trans HBC.out.size hz)) HBC.out HBC.out.size (by rw [hl44, HN2c.out]; have := hol; omega) ?_; intro v49 we hn49 hbe _ _; obtain ⟨A49, c49, rfl⟩ := Kd.N_slice hn49; have HN49 := Aside0.mk hn49; have HBE := Aside0.mk hbe; clear hn49 hbe)
          have hl3 : (outs.take i ++ [g] ++ outs.drop i).length = outs.length + 1 := by rw [List.length_append, hl44, hld1]; exact om6 hi
          go_roundg (gs.length - (kk + 1))
          case measure => exact om2 hlt hg
          case rel => exact ⟨kk + 1, A49, c49, outs.take i ++ [g] ++ outs.drop i, hlt, Nat.le_refl _, by first | rfl | (simp; done) | (congr 1; simp; omega), by congr 1; (try exact om3 hlt (Nat.le_trans c1 (by decide))), ⟨by rw [hl3, HOL.out]⟩, (Kd.N_reads' HN49.out).2.1, HT2, ⟨Kd.F_bound (Kd.N_F HN49.out)⟩, ⟨HAD.out.trans (HBE.out.mono HAD.out.size)⟩⟩
    · have hkl : kk = gs.length := Nat.le_antisymm hkk (Nat.le_of_not_lt hlt)
      have hltz : ¬ (kk : Int) < (gs.length : Int) := fun e => hlt (Int.ofNat_lt.1 e)
      subst hkl
      have hT := HT.out
      rw [List.drop_length] at hT
      obtain rfl := Option.some.inj hT
      go_wp2
      go_ret
      exact ⟨_, rfl, ⟨Ao, co, rfl, hoc, Kd.F_mono HO.out (fun z hz => hz.1)⟩, HB.out.trans (HB1.out.mono HB.out.size)⟩
end Go.Proofs.YtgjakcpbfbfejaaGreat.Q
end
section
namespace Go.Proofs.YtgjakcpbfbfejaaGreat.Q
open Go.RowKit Go.Proofs.YtgjakcpbfbfejaaGreatW.PrintWords Go.Proofs.YtgjakcpbfbfejaaGreatW.PrintLast Go.Proofs.YtgjakcpbfbfejaaGreatW.PrintMore
attribute [local go_sem] max2_int min2_int max_two min_two max_three min_three max_four min_four
set_option linter.unusedVariables false
set_option linter.unusedSimpArgs false
def spec_pzSolved.f (k : Nat) (a0 : Int) (l1 : List (S72)) : Option (Bool) := (spec_pzAll.f k a0 l1).bind fun t391 => (some ((t391.length : Int) == 1))
set_option maxHeartbeats 8000000 in
set_option maxRecDepth 100000 in
theorem spec_pzSolved.calls (k : Nat) (a0 : Int) (A1 : Option Addr) (c1 : Nat) (l1 : List (S72)) (r : Bool) (w : World) (hr1 : Kd.C k72 w A1 l1.length l1) (hc1 : l1.length ≤ c1) (h : spec_pzSolved.f k a0 l1 = some r) :
  Calls Tryz.prog 55 #[.int .i64 a0, .slice A1 l1.length c1] w fun e w' => e = .returned (.bool r) ∧ Below w.heap.size w w' := by
 have HR1 := Aside0.mk hr1
 have HC1 := Aside0.mk hc1
 clear hr1 hc1
 have HB := Aside0.mk (Below.refl w.heap.size w)
 have H : ((spec_pzAll.f k a0 l1).bind fun t391 => (some ((t391.length : Int) == 1))) = some r := h
 clear h
 replace H := Option.bind_eq_some_iff.mp H
 obtain ⟨t391, A30, H⟩ := H
 replace H : (some ((t391.length : Int) == 1)) = some r := H
 have A3 := Aside0.mk A30
 clear A30
 obtain rfl := Option.some.inj H
 go_enter Tryz.func55, Tryz.ntmps55
 go_wp2_with (first | ((with_reducible refine gate_callee (f := 52) rfl ?_); refine goesL_ (some 7) rfl rfl Tryz.func52 (by kernel_rfl) rfl #[.int .i64 a0, .slice A1 l1.length c1] rfl (by (try simp only [List.map_toArray, List.map_cons, List.map_nil]); first | done | rfl | (simp only [List.length_drop, List.length_take]; rfl)) ?_; (with_reducible refine (spec_pzAll.calls k a0 _ _ l1 t391 _ ?side1 ?side2 A3.out).mono ?_); (case side1 => repeat (first | exact HR1.out | (with_reducible refine Kd.C_alloc ?_ _) | (with_reducible refine Kd.C_drewN ?_ _) | (with_reducible refine Kd.C_drew ?_))); (case side2 => exact HC1.out); rintro e w4 ⟨v392, rfl, ho0, hb⟩; refine ⟨_, rfl, ?_⟩; have n0_ := Aside0.mk (Kd.V_lower (Kd.V_mono (ok' := fun k_ => True) ho0 (fun k_ hk_ => trivial)) (below_size (zh HB.out))); have n1_ := Aside0.mk (below_step (zh HB.out) hb); clear HB; have HO393 := n0_; have HB := n1_; clear n0_ n1_; (try clear hb); (try clear hb2); (try clear hk); (try clear hi); (try clear ho0); obtain ⟨Ao5, co5, eo5⟩ := Kd.V_slice HO393.out; subst eo5))
 go_ret
 exact ⟨by first | rfl | (simp [*, errW_none, errW_some] <;> rfl), zh HB.out⟩
mutual
def spec_HarderPuzzle.j0 : Nat → Bool → Int → List (S72) → Option (Int × (List (S72)) × Bool)
 | 0, _, _, _ => none
 | k + 1, x17, x616000, x616001 => if x17 = true then (some (0, ([] : List (S72)), false)) else ((some (([] : List (S72)) : List (S72))).bind fun y619 => (if y619.length + x616001.length < 5864062014805 then (spec_HarderPuzzle.l0 k (y619 ++ x616001) 0 x616000 x616001) else (none)))
def spec_HarderPuzzle.l0 : Nat → List (S72) → Int → Int → List (S72) → Option (Int × (List (S72)) × Bool)
 | 0, _, _, _, _ => none
 | k + 1, x4, x5, x616000, x616001 => if x5 < (x4.length : Int) then ((spec_pzWithout.f x4 x5).bind fun t625 => ((spec_pzSolved.f k x616000 t625).bind fun t628 => (if t628 = true then (spec_HarderPuzzle.l0 k t625 x5 x616000 x616001) else (spec_HarderPuzzle.l0 k x4 (wrap64 (x5 + 1)) x616000 x616001)))) else (some (x616000, x4, true))
end
def spec_HarderPuzzle.f (k : Nat) (a0_0 : Int) (l0_1 : List (S72)) : Option (Int × (List (S72)) × Bool) := (spec_pzGood.f k a0_0 l0_1).bind fun t617 => (if t617 = true then ((spec_pzSolved.f k a0_0 l0_1).bind fun t618 => (spec_HarderPuzzle.j0 k (!t618) a0_0 l0_1)) else (spec_HarderPuzzle.j0 k true a0_0 l0_1))
set_option maxHeartbeats 8000000 in
set_option maxRecDepth 100000 in
theorem spec_HarderPuzzle.calls (k : Nat) (a0_0 : Int) (A0_1 : Option Addr) (c0_1 : Nat) (l0_1 : List (S72)) (r1 : Int) (r2 : List (S72)) (r3 : Bool) (w : World) (hr0_1 : Kd.C k72 w A0_1 l0_1.length l0_1) (hc0_1 : l0_1.length ≤ c0_1) (h : spec_HarderPuzzle.f k a0_0 l0_1 = some (r1, r2, r3)) :
  Calls Tryz.prog 30 #[.agg #[.int .i64 a0_0, .slice A0_1 l0_1.length c0_1]] w fun e w' => ∃ v1_ : Value, e = .returned (.tuple #[.agg #[.int .i64 r1, v1_], .bool r3]) ∧ Kd.R k72 72 w' w.heap.size (fun _ => True) v1_ r2 ∧ Below w.heap.size w w' := by
 have hu30 := Tryz.underlying30
 have HR0_1 := Aside0.mk hr0_1
 have HC0_1 := Aside0.mk hc0_1
 clear hr0_1 hc0_1
 have HB := Aside0.mk (Below.refl w.heap.size w)
 have H : ((spec_pzGood.f k a0_0 l0_1).bind fun t617 => (if t617 = true then ((spec_pzSolved.f k a0_0 l0_1).bind fun t618 => (spec_HarderPuzzle.j0 k (!t618) a0_0 l0_1)) else (spec_HarderPuzzle.j0 k true a0_0 l0_1))) = some (r1, r2, r3) := h
 clear h
 have HC2 := Aside0.mk H
 clear H
 go_enter Tryz.func30, Tryz.ntmps30
 go_upto_region 1 with (first | ((with_reducible refine gate_dst (N := 1) rfl ?_); refine box_event ?hg (N := 1) ?hd (cs := #[.int .i64 a0_0, .slice A0_1 l0_1.length c0_1]) (t := 30) ?hr ?_; (case hd => rfl); (case hg => rfl); (case hr => first | (go_simp; done) | (go_simp; rfl)); intro gb615 hg w3 hbox hb; have n2_ := Aside0.mk ((by rw [hg]; exact (below_size (zh HB.out)) : w.heap.size ≤ gb615)); replace HB := Aside0.mk (below_step (zh HB.out) hb); have BK615 := Aside0.mk hbox; have GW615 := n2_; have GE615 := n2_; clear n2_ hb hbox hg) | ((with_reducible refine gate_dst (N := 2) rfl ?_); refine box_event ?hg (N := 2) ?hd (cs := #[.int .i64 0, .slice none 0 0]) (t := 30) ?hr ?_; (case hd => rfl); (case hg => rfl); (case hr => first | (go_simp; done) | (go_simp; rfl)); intro gb616 hg w4 hbox hb; have n0_ := Aside0.mk (blk_below (g := gb615) (o := .cells #[.int .i64 a0_0, .slice A0_1 l0_1.length c0_1] 30 (0, 0)) (zb BK615.out) hb); have n1_ := Aside0.mk (below_step (zh HB.out) hb); have n2_ := Aside0.mk (hbox); have n3_ := Aside0.mk ((by rw [hg]; exact (below_size (zh HB.out)) : w.heap.size ≤ gb616)); have n4_ := Aside0.mk ((by rw [hg]; exact (below_size (zh HB.out)) : w.heap.size ≤ gb616)); have n5_ := Aside0.mk ((by rw [hg]; exact Nat.ne_of_lt (blk_lt (g := gb615) (o := .cells #[.int .i64 a0_0, .slice A0_1 l0_1.length c0_1] 30 (0, 0)) (zb BK615.out)) : gb615 ≠ gb616)); have n6_ := Aside0.mk ((by rw [hg]; exact Nat.ne_of_gt (blk_lt (g := gb615) (o := .cells #[.int .i64 a0_0, .slice A0_1 l0_1.length c0_1] 30 (0, 0)) (zb BK615.out)) : gb616 ≠ gb615)); clear BK615; clear HB; have BK615 := n0_; have HB := n1_; have BK616 := n2_; have GW616 := n3_; have GE616 := n4_; have NB615_616 := n5_; have NB616_615 := n6_; clear n0_ n1_ n2_ n3_ n4_ n5_ n6_; clear hb hbox hg))
 (try simp only [Act.put, List.setIfInBounds_toArray, List.set_cons_zero, List.set_cons_succ])
 go_cut [17] (fun v17 wc => ∃ (kq : Nat) (x17_1 : Bool), v17 = .bool x17_1 ∧ Aside0 (spec_HarderPuzzle.j0 kq x17_1 a0_0 l0_1 = some (r1, r2, r3)) ∧ Aside0 (kq ≤ k) ∧ Aside0 (wc.heap[gb615]? = some (.cells #[.int .i64 a0_0, (.slice A0_1 l0_1.length c0_1)] 30 (0, 0))) ∧ Aside0 (wc.heap[gb616]? = some (.cells #[.int .i64 0, (.slice none 0 0)] 30 (0, 0))) ∧ Aside0 (Below w.heap.size w wc))
 case first =>
  have H := HC2.out
  clear HC2
  replace H := Option.bind_eq_some_iff.mp H
  obtain ⟨t617, A50, H⟩ := H
  replace H : (if t617 = true then ((spec_pzSolved.f k a0_0 l0_1).bind fun t618 => (spec_HarderPuzzle.j0 k (!t618) a0_0 l0_1)) else (spec_HarderPuzzle.j0 k true a0_0 l0_1)) = some (r1, r2, r3) := H
  have A5 := Aside0.mk A50
  clear A50
  by_cases c6 : t617 = true
  ·subst c6
   have H1 : ((spec_pzSolved.f k a0_0 l0_1).bind fun t618 => (spec_HarderPuzzle.j0 k (!t618) a0_0 l0_1)) = some (r1, r2, r3) := by rw [if_pos rfl] at H; exact H
   clear H
   have H := H1
   clear H1
   replace H := Option.bind_eq_some_iff.mp H
   obtain ⟨t618, A70, H⟩ := H
   replace H : (spec_HarderPuzzle.j0 k (!t618) a0_0 l0_1) = some (r1, r2, r3) := H
   have A7 := Aside0.mk A70
   clear A70
   have H' := Aside0.mk H
   clear H
   have hnb8 := NB615_616.out
   have hnc8 := NB616_615.out
   have hcz9_0 : w4.cell? ⟨gb615, 0, none⟩ = some (.int .i64 a0_0) := (blk_cell BK615.out 0).trans rfl
   have hcz9_1 : w4.cell? ⟨gb615, 1, none⟩ = some (.slice A0_1 l0_1.length c0_1) := (blk_cell BK615.out 1).trans rfl
   have hfz9_0 := blk_frozen BK615.out 0
   have hfz9_1 := blk_frozen BK615.out 1
   go_wp2_with (first | ((with_reducible refine gate_callee (f := 51) rfl ?_); refine goesL_ (some 8) rfl rfl Tryz.func51 (by kernel_rfl) rfl #[.agg #[.int .i64 a0_0, .slice A0_1 l0_1.length c0_1]] rfl (by (try simp only [List.map_toArray, List.map_cons, List.map_nil]); first | done | rfl | (simp only [List.length_drop, List.length_take]; rfl)) ?_; (with_reducible refine (spec_pzGood.calls k a0_0 _ _ l0_1 true _ ?side1 ?side2 A5.out).mono ?_); (case side1 => repeat (first | exact (Kd.C_below HR0_1.out HB.out) | (with_reducible refine Kd.C_alloc ?_ _) | (with_reducible refine Kd.C_drewN ?_ _) | (with_reducible refine Kd.C_drew ?_))); (case side2 => exact HC0_1.out); rintro e w10 ⟨rfl, hb⟩; refine ⟨_, rfl, ?_⟩; have n0_ := Aside0.mk (blk_below (g := gb615) (o := .cells #[.int .i64 a0_0, .slice A0_1 l0_1.length c0_1] 30 (0, 0)) (zb BK615.out) hb); have n1_ := Aside0.mk (blk_below (g := gb616) (o := .cells #[.int .i64 0, .slice none 0 0] 30 (0, 0)) (zb BK616.out) hb); have n2_ := Aside0.mk (below_step (zh HB.out) hb); clear BK615; clear BK616; clear HB; have BK615 := n0_; have BK616 := n1_; have HB := n2_; clear n0_ n1_ n2_; (try clear hb); (try clear hb2); (try clear hk); (try clear hi); have hcz11_0 : w10.cell? ⟨gb615, 0, none⟩ = some (.int .i64 a0_0) := (blk_cell BK615.out 0).trans rfl; have hcz11_1 : w10.cell? ⟨gb615, 1, none⟩ = some (.slice A0_1 l0_1.length c0_1) := (blk_cell BK615.out 1).trans rfl; have hfz11_0 := blk_frozen BK615.out 0; have hfz11_1 := blk_frozen BK615.out 1) | (go_at_call 55; (with_reducible refine (spec_pzSolved.calls k a0_0 _ _ l0_1 t618 _ ?side1 ?side2 A7.out).mono ?_); (case side1 => repeat (first | exact (Kd.C_below HR0_1.out HB.out) | (with_reducible refine Kd.C_alloc ?_ _) | (with_reducible refine Kd.C_drewN ?_ _) | (with_reducible refine Kd.C_drew ?_))); (case side2 => exact HC0_1.out); rintro e w12 ⟨rfl, hb⟩; have n0_ := Aside0.mk (blk_below (g := gb615) (o := .cells #[.int .i64 a0_0, .slice A0_1 l0_1.length c0_1] 30 (0, 0)) (zb BK615.out) hb); have n1_ := Aside0.mk (blk_below (g := gb616) (o := .cells #[.int .i64 0, .slice none 0 0] 30 (0, 0)) (zb BK616.out) hb); have n2_ := Aside0.mk (below_step (zh HB.out) hb); clear BK615; clear BK616; clear HB; have BK615 := n0_; have BK616 := n1_; have HB := n2_; clear n0_ n1_ n2_; (try clear hb); (try clear hb2); (try clear hk); (try clear hi)))
   go_meet
   case rel => exact ⟨_, (!t618), (by first | rfl | (simp; done) | (simp [*]; done)), H', ⟨by first | omega | exact Nat.le_refl _⟩, ⟨zb BK615.out⟩, ⟨zb BK616.out⟩, ⟨zh HB.out⟩⟩
  ·replace c6 := Bool.eq_false_iff.mpr c6
   subst c6
   have H1 : (spec_HarderPuzzle.j0 k true a0_0 l0_1) = some (r1, r2, r3) := by rw [if_neg (show ¬ (false = true) by decide)] at H; exact H
   clear H
   have H := H1
   clear H1
   have H' := Aside0.mk H
   clear H
   have hnb13 := NB615_616.out
   have hnc13 := NB616_615.out
   have hcz14_0 : w4.cell? ⟨gb615, 0, none⟩ = some (.int .i64 a0_0) := (blk_cell BK615.out 0).trans rfl
   have hcz14_1 : w4.cell? ⟨gb615, 1, none⟩ = some (.slice A0_1 l0_1.length c0_1) := (blk_cell BK615.out 1).trans rfl
   have hfz14_0 := blk_frozen BK615.out 0
   have hfz14_1 := blk_frozen BK615.out 1
   go_wp2_with (first | ((with_reducible refine gate_callee (f := 51) rfl ?_); refine goesL_ (some 8) rfl rfl Tryz.func51 (by kernel_rfl) rfl #[.agg #[.int .i64 a0_0, .slice A0_1 l0_1.length c0_1]] rfl (by (try simp only [List.map_toArray, List.map_cons, List.map_nil]); first | done | rfl | (simp only [List.length_drop, List.length_take]; rfl)) ?_; (with_reducible refine (spec_pzGood.calls k a0_0 _ _ l0_1 false _ ?side1 ?side2 A5.out).mono ?_); (case side1 => repeat (first | exact (Kd.C_below HR0_1.out HB.out) | (with_reducible refine Kd.C_alloc ?_ _) | (with_reducible refine Kd.C_drewN ?_ _) | (with_reducible refine Kd.C_drew ?_))); (case side2 => exact HC0_1.out); rintro e w15 ⟨rfl, hb⟩; refine ⟨_, rfl, ?_⟩; have n0_ := Aside0.mk (blk_below (g := gb615) (o := .cells #[.int .i64 a0_0, .slice A0_1 l0_1.length c0_1] 30 (0, 0)) (zb BK615.out) hb); have n1_ := Aside0.mk (blk_below (g := gb616) (o := .cells #[.int .i64 0, .slice none 0 0] 30 (0, 0)) (zb BK616.out) hb); have n2_ := Aside0.mk (below_step (zh HB.out) hb); clear BK615; clear BK616; clear HB; have BK615 := n0_; have BK616 := n1_; have HB := n2_; clear n0_ n1_ n2_; (try clear hb); (try clear hb2); (try clear hk); (try clear hi)))
   go_meet
   case rel => exact ⟨_, (true), (by first | rfl | (simp; done) | (simp [*]; done)), H', ⟨by first | omega | exact Nat.le_refl _⟩, ⟨zb BK615.out⟩, ⟨zb BK616.out⟩, ⟨zh HB.out⟩⟩
 case rest =>
  clear HC2
  try clear c1
  try clear p2
  try clear c3
  try clear c5
  try clear c6
  try clear c8
  try clear c13
  try clear hcz11_0
  try clear hcz11_1
  try clear hcz14_0
  try clear hcz14_1
  try clear hcz9_0
  try clear hcz9_1
  try clear hfz11_0
  try clear hfz11_1
  try clear hfz14_0
  try clear hfz14_1
  try clear hfz9_0
  try clear hfz9_1
  obtain ⟨kq, x17_1, rfl, HA, HJ1, BK615, BK616, HB⟩ := hcut
  cases kq with
  | zero => exact absurd HA.out (by simp [spec_HarderPuzzle.j0])
  | succ kj1 =>
   have H := HA.out
   clear HA
   simp only [spec_HarderPuzzle.j0] at H
   by_cases c16 : x17_1 = true
   ·subst c16
    have H1 : (some (0, ([] : List (S72)), false)) = some (r1, r2, r3) := by rw [if_pos rfl] at H; exact H
    clear H
    have H := H1
    clear H1
    simp only [Option.some.injEq, Prod.mk.injEq] at H
    obtain ⟨rfl, rfl, rfl⟩ := H
    have hnb17 := NB616_615.out
    have hnc17 := NB615_616.out
    have hcz18_0 : wc.cell? ⟨gb616, 0, none⟩ = some (.int .i64 0) := (blk_cell BK616.out 0).trans rfl
    have hcz18_1 : wc.cell? ⟨gb616, 1, none⟩ = some (.slice none 0 0) := (blk_cell BK616.out 1).trans rfl
    have hfz18_0 := blk_frozen BK616.out 0
    have hfz18_1 := blk_frozen BK616.out 1
    go_wp2
    refine bodyPost_ret (results_ct rfl _ _ gb616 30 #[.int .i64 0, .slice none 0 0] (0, 0) _ rfl (by (with_reducible repeat (first | refine blk_drewN ?_ _ | refine blk_drew ?_ | refine blk_alloc ?_ _)); refine blk_put (cs := #[.int .i64 0, .slice none 0 0]) ?_ 1 _ rfl; (with_reducible repeat (first | refine blk_drewN ?_ _ | refine blk_drew ?_ | refine blk_alloc ?_ _)); refine blk_put (cs := #[.int .i64 0, .slice none 0 0]) ?_ 0 _ rfl; (with_reducible repeat (first | refine blk_drewN ?_ _ | refine blk_drew ?_ | refine blk_alloc ?_ _)); exact BK616.out) Tryz.underlying30 rfl (by kernel_rfl)) rfl ?_
    exact ⟨_, by first | rfl | (simp [*, errW_none, errW_some] <;> rfl), by first | exact Kd.R_nil _ _ _ _ _ | exact Kd.N_nil _ _ _ _ _ | exact Kd.V_nil _ _ _ _ _ | exact Kd.Q_nil _ _ _ _ _ | exact Kd.S_nil _ _ _ _ _, zh HB.out⟩
   replace c16 := Bool.eq_false_iff.mpr c16
   subst c16
   have H1 : ((some (([] : List (S72)) : List (S72))).bind fun y619 => (if y619.length + l0_1.length < 5864062014805 then (spec_HarderPuzzle.l0 kj1 (y619 ++ l0_1) 0 a0_0 l0_1) else (none))) = some (r1, r2, r3) := by rw [if_neg (show ¬ (false = true) by decide)] at H; exact H
   clear H
   have H := H1
   clear H1
   obtain ⟨y619, hy619⟩ : ∃ y_ : List (S72), y_ = (([] : List (S72))) := ⟨_, rfl⟩
   replace H : (if y619.length + l0_1.length < 5864062014805 then (spec_HarderPuzzle.l0 kj1 (y619 ++ l0_1) 0 a0_0 l0_1) else (none)) = some (r1, r2, r3) := by first | (rw [hy619]; with_reducible exact H) | (have H2_ := (Option.bind_some _ _).symm.trans H; rw [hy619]; with_reducible exact H2_) | (have H2_ := (Option.bind_some _ _).symm.trans H; with_reducible exact H2_) | with_reducible exact H | (rw [hy619]; exact H) | exact H
   have Ny619 := Aside0.mk hy619
   clear hy619
   by_cases c19 : y619.length + l0_1.length < 5864062014805
   rotate_left
   ·rw [if_neg c19] at H
    exact absurd H (by simp)
   rw [if_pos c19] at H
   have LMc19 := Aside0.mk c19
   clear c19
   obtain ⟨y622, hy622⟩ : ∃ y_ : List (S72), y_ = (y619 ++ l0_1) := ⟨_, rfl⟩
   replace H : (spec_HarderPuzzle.l0 kj1 y622 0 a0_0 l0_1) = some (r1, r2, r3) := by first | (rw [hy622]; with_reducible exact H) | (have H2_ := (Option.bind_some _ _).symm.trans H; rw [hy622]; with_reducible exact H2_) | (have H2_ := (Option.bind_some _ _).symm.trans H; with_reducible exact H2_) | with_reducible exact H | (rw [hy622]; exact H) | exact H
   have Ny622 := Aside0.mk hy622
   clear hy622
   have H' := Aside0.mk H
   clear H
   go_wp2_with (first | ((with_reducible refine gate_dst (N := 19) rfl ?_); refine Kd.R_lit k72 _ 72 ?hg (N := 19) ?hd (xs := ([] : List (S72))) (inner := []) (ok := fun _ => True) (okp := fun _ => True) ?hr ?hp (fun _ hk => hk) trivial (Below.refl _ _) (Nat.le_refl _) (by simp) ?_; (case hd => rfl); (case hg => rfl); (case hr => first | (go_simp; done) | (go_simp; rfl)); (case hp => exact (Reps.none _ _)); intro v620 w20 ho21 hb hg_ hnew_; clear hg_ hnew_; (first | rw [← Ny619.out] at ho21 | (simp only [Int.reduceToNat] at ho21; rw [← Ny619.out] at ho21)); have n0_ := Aside0.mk (Kd.R_lower ho21 (below_size (zh HB.out))); have n1_ := Aside0.mk (blk_below (g := gb615) (o := .cells #[.int .i64 a0_0, .slice A0_1 l0_1.length c0_1] 30 (0, 0)) (zb BK615.out) hb); have n2_ := Aside0.mk (blk_below (g := gb616) (o := .cells #[.int .i64 0, .slice none 0 0] 30 (0, 0)) (zb BK616.out) hb); have n3_ := Aside0.mk (below_step (zh HB.out) hb); clear BK615; clear BK616; clear HB; have HO621 := n0_; have BK615 := n1_; have BK616 := n2_; have HB := n3_; clear n0_ n1_ n2_ n3_; clear hb ho21; have hnb22 := NB615_616.out; have hnc22 := NB616_615.out; have hcz23_0 : w20.cell? ⟨gb615, 0, none⟩ = some (.int .i64 a0_0) := (blk_cell BK615.out 0).trans rfl; have hcz23_1 : w20.cell? ⟨gb615, 1, none⟩ = some (.slice A0_1 l0_1.length c0_1) := (blk_cell BK615.out 1).trans rfl; have hfz23_0 := blk_frozen BK615.out 0; have hfz23_1 := blk_frozen BK615.out 1) | ((with_reducible refine gate_builtin (b := .append) (xs := #[.tmp 19, .tmp 21]) rfl ?_); at_builtin; refine Kd.R_append_rows k72 (w0 := w) w.heap.size rfl (.tmp 19) (.tmp 21) 28 72 (.agg #[(.int .i64 0), (.int .i64 0), (.int .i64 0)]) 24 rfl Tryz.underlying28 info72 rfl (by decide) (by omega) v620 y619 l0_1 _ _ _ (fun _ => True) (fun _ => False) rfl rfl ?aO ?aR (fun _ _ h => h) (fun _ h => h.elim) ?aF ?aB ?aS ?aL ?_; (case aR => repeat (first | exact (Kd.C_below HR0_1.out HB.out) | (with_reducible refine Kd.C_alloc ?_ _) | (with_reducible refine Kd.C_drewN ?_ _) | (with_reducible refine Kd.C_drew ?_))); (case aB => exact (zh HB.out)); (case aF => exact (fun _ _ => trivial)); (case aO => exact (zr HO621.out)); (case aS => exact (below_size (zh HB.out))); (case aL => have := LMc19.out; omega); intro v623 w24 ho hb hg hat; rw [← Ny622.out] at ho; have n0_ := Aside0.mk (blk_grown (g := gb615) (o := .cells #[.int .i64 a0_0, .slice A0_1 l0_1.length c0_1] 30 (0, 0)) (zb BK615.out) hg (Kd.R_ne HO621.out BK615.out (by decide))); have n1_ := Aside0.mk (blk_grown (g := gb616) (o := .cells #[.int .i64 0, .slice none 0 0] 30 (0, 0)) (zb BK616.out) hg (Kd.R_ne HO621.out BK616.out (by decide))); have n2_ := Aside0.mk (hb); have n3_ := Aside0.mk (ho); clear BK615; clear BK616; clear HB; clear HO621; have BK615 := n0_; have BK616 := n1_; have HB := n2_; have HO624 := n3_; clear n0_ n1_ n2_ n3_; clear ho hb hg hat))
   go_loopg [4, 5] kj1 (fun kq v4 v5 w' => ∃ (x4_2 : List (S72)) (x5_2 : Int), v5 = .int .i64 x5_2 ∧ Aside0 (spec_HarderPuzzle.l0 kq x4_2 x5_2 a0_0 l0_1 = some (r1, r2, r3)) ∧ Aside0 (kq ≤ kj1) ∧ Aside0 (Kd.R k72 72 w' w.heap.size (fun _ => True) v4 x4_2) ∧ Aside0 (w'.heap[gb615]? = some (.cells #[.int .i64 a0_0, (.slice A0_1 l0_1.length c0_1)] 30 (0, 0))) ∧ Aside0 (w'.heap[gb616]? = some (.cells #[.int .i64 0, (.slice none 0 0)] 30 (0, 0))) ∧ Aside0 (Below w.heap.size w w'))
   case atStart => exact ⟨(y622), (0), (by first | rfl | (simp; done) | (simp [*]; done)), H', ⟨Nat.le_refl _⟩, ⟨zr HO624.out⟩, ⟨zb BK615.out⟩, ⟨zb BK616.out⟩, ⟨zh HB.out⟩⟩
   case round =>
    clear H'
    try clear c1
    try clear c2
    try clear p2
    try clear c3
    try clear c5
    try clear c6
    try clear c8
    try clear c13
    try clear c16
    try clear c17
    try clear c19
    try clear c22
    try clear hcz11_0
    try clear hcz11_1
    try clear hcz14_0
    try clear hcz14_1
    try clear hcz18_0
    try clear hcz18_1
    try clear hcz23_0
    try clear hcz23_1
    try clear hcz9_0
    try clear hcz9_1
    try clear hfz11_0
    try clear hfz11_1
    try clear hfz14_0
    try clear hfz14_1
    try clear hfz18_0
    try clear hfz18_1
    try clear hfz23_0
    try clear hfz23_1
    try clear hfz9_0
    try clear hfz9_1
    try clear p2
    obtain ⟨x4_2, x5_2, rfl, HA, HK2, HO_4, BK615, BK616, HB⟩ := hrel
    cases gk with
    | zero => exact absurd HA.out (by simp [spec_HarderPuzzle.l0])
    | succ k2 =>
     have H := HA.out
     clear HA
     simp only [spec_HarderPuzzle.l0] at H
     by_cases c25 : x5_2 < (x4_2.length : Int)
     rotate_left
     ·rw [if_neg c25] at H
      have c25b0 : decide (x5_2 < (x4_2.length : Int)) = false := decide_eq_false c25
      clear c25
      simp only [Option.some.injEq, Prod.mk.injEq] at H
      obtain ⟨rfl, rfl, rfl⟩ := H
      obtain ⟨Ao41, co41, eo41⟩ := Kd.R_slice HO_4.out
      subst eo41
      have hnb42 := NB615_616.out
      have hnc42 := NB616_615.out
      have hcz43_0 : wr.cell? ⟨gb615, 0, none⟩ = some (.int .i64 a0_0) := (blk_cell BK615.out 0).trans rfl
      have hcz43_1 : wr.cell? ⟨gb615, 1, none⟩ = some (.slice A0_1 l0_1.length c0_1) := (blk_cell BK615.out 1).trans rfl
      have hfz43_0 := blk_frozen BK615.out 0
      have hfz43_1 := blk_frozen BK615.out 1
      have hcz44_0 : wr.cell? ⟨gb616, 0, none⟩ = some (.int .i64 0) := (blk_cell BK616.out 0).trans rfl
      have hcz44_1 : wr.cell? ⟨gb616, 1, none⟩ = some (.slice none 0 0) := (blk_cell BK616.out 1).trans rfl
      have hfz44_0 := blk_frozen BK616.out 0
      have hfz44_1 := blk_frozen BK616.out 1
      go_wp2
      refine bodyPost_ret (results_ct rfl _ _ gb616 30 #[.int .i64 a0_0, .slice Ao41 x4_2.length co41] (0, 0) _ rfl (by (with_reducible repeat (first | refine blk_drewN ?_ _ | refine blk_drew ?_ | refine blk_alloc ?_ _)); refine blk_put (cs := #[.int .i64 a0_0, .slice none 0 0]) ?_ 1 _ rfl; (with_reducible repeat (first | refine blk_drewN ?_ _ | refine blk_drew ?_ | refine blk_alloc ?_ _)); refine blk_put (cs := #[.int .i64 0, .slice none 0 0]) ?_ 0 _ rfl; (with_reducible repeat (first | refine blk_drewN ?_ _ | refine blk_drew ?_ | refine blk_alloc ?_ _)); exact BK616.out) Tryz.underlying30 rfl (by kernel_rfl)) rfl ?_
      exact ⟨_, by first | rfl | (simp [*, errW_none, errW_some] <;> rfl), by (with_reducible repeat (first | apply Kd.R_alloc | apply Kd.R_drewN | apply Kd.R_drew)); exact Kd.R_mono (Kd.R_far (p := ⟨gb616, 1, none⟩) (Kd.R_far (p := ⟨gb616, 0, none⟩) (Kd.R_types HO_4.out BK616.out (by decide)) (fun _ hk => hk.2) (.int .i64 a0_0)) (fun _ hk => hk.2) (.slice Ao41 x4_2.length co41)) (fun _ hk => trivial), zh HB.out⟩
     rw [if_pos c25] at H
     have c25b0 : decide (x5_2 < (x4_2.length : Int)) = true := decide_eq_true c25
     clear c25
     replace H := Option.bind_eq_some_iff.mp H
     obtain ⟨t625, A260, H⟩ := H
     replace H : ((spec_pzSolved.f k2 a0_0 t625).bind fun t628 => (if t628 = true then (spec_HarderPuzzle.l0 k2 t625 x5_2 a0_0 l0_1) else (spec_HarderPuzzle.l0 k2 x4_2 (wrap64 (x5_2 + 1)) a0_0 l0_1))) = some (r1, r2, r3) := H
     have A26 := Aside0.mk A260
     clear A260
     replace H := Option.bind_eq_some_iff.mp H
     obtain ⟨t628, A270, H⟩ := H
     replace H : (if t628 = true then (spec_HarderPuzzle.l0 k2 t625 x5_2 a0_0 l0_1) else (spec_HarderPuzzle.l0 k2 x4_2 (wrap64 (x5_2 + 1)) a0_0 l0_1)) = some (r1, r2, r3) := H
     have A27 := Aside0.mk A270
     clear A270
     by_cases c28 : t628 = true
     ·subst c28
      have H1 : (spec_HarderPuzzle.l0 k2 t625 x5_2 a0_0 l0_1) = some (r1, r2, r3) := by rw [if_pos rfl] at H; exact H
      clear H
      have H := H1
      clear H1
      have H' := Aside0.mk H
      clear H
      obtain ⟨Ao29, co29, eo29⟩ := Kd.R_slice HO_4.out
      subst eo29
      go_wp2_with (first | ((with_reducible refine gate_callee (f := 59) rfl ?_); refine goesL_ (some 29) rfl rfl Tryz.func59 (by kernel_rfl) rfl #[.slice Ao29 x4_2.length co29, .int .i64 x5_2] rfl (by (try simp only [List.map_toArray, List.map_cons, List.map_nil]); first | done | rfl | (simp only [List.length_drop, List.length_take]; rfl)) ?_; (with_reducible refine (spec_pzWithout.calls _ _ x4_2 x5_2 t625 _ ?side1 ?side2 A26.out).mono ?_); (case side1 => repeat (first | exact (Kd.R_reads' HO_4.out).2.2 | (with_reducible refine Kd.C_alloc ?_ _) | (with_reducible refine Kd.C_drewN ?_ _) | (with_reducible refine Kd.C_drew ?_))); (case side2 => exact (Kd.R_reads' HO_4.out).2.1); rintro e w30 ⟨v626, rfl, ho0, hb⟩; refine ⟨_, rfl, ?_⟩; have n0_ := Aside0.mk (Kd.R_elder' (zr HO_4.out) (Kd.R_base ho0) hb); have n1_ := Aside0.mk (Kd.R_lower (Kd.R_new' ho0 (Kd.R_lt (zr HO_4.out))) (below_size (zh HB.out))); have n2_ := Aside0.mk (blk_below (g := gb615) (o := .cells #[.int .i64 a0_0, .slice A0_1 l0_1.length c0_1] 30 (0, 0)) (zb BK615.out) hb); have n3_ := Aside0.mk (blk_below (g := gb616) (o := .cells #[.int .i64 0, .slice none 0 0] 30 (0, 0)) (zb BK616.out) hb); have n4_ := Aside0.mk (below_step (zh HB.out) hb); clear HO_4; clear BK615; clear BK616; clear HB; have HO_4 := n0_; have HO627 := n1_; have BK615 := n2_; have BK616 := n3_; have HB := n4_; clear n0_ n1_ n2_ n3_ n4_; (try clear hb); (try clear hb2); (try clear hk); (try clear hi); (try clear ho0); have hnb31 := NB615_616.out; have hnc31 := NB616_615.out; have hcz32_0 : w30.cell? ⟨gb615, 0, none⟩ = some (.int .i64 a0_0) := (blk_cell BK615.out 0).trans rfl; have hcz32_1 : w30.cell? ⟨gb615, 1, none⟩ = some (.slice A0_1 l0_1.length c0_1) := (blk_cell BK615.out 1).trans rfl; have hfz32_0 := blk_frozen BK615.out 0; have hfz32_1 := blk_frozen BK615.out 1; obtain ⟨Ao33, co33, eo33⟩ := Kd.R_slice HO627.out; subst eo33) | ((with_reducible refine gate_callee (f := 55) rfl ?_); refine goesL_ (some 33) rfl rfl Tryz.func55 (by kernel_rfl) rfl #[.int .i64 a0_0, .slice Ao33 t625.length co33] rfl (by (try simp only [List.map_toArray, List.map_cons, List.map_nil]); first | done | rfl | (simp only [List.length_drop, List.length_take]; rfl)) ?_; (with_reducible refine (spec_pzSolved.calls k2 a0_0 _ _ t625 true _ ?side1 ?side2 A27.out).mono ?_); (case side1 => repeat (first | exact (Kd.R_reads' HO627.out).2.2 | (with_reducible refine Kd.C_alloc ?_ _) | (with_reducible refine Kd.C_drewN ?_ _) | (with_reducible refine Kd.C_drew ?_))); (case side2 => exact (Kd.R_reads' HO627.out).2.1); rintro e w34 ⟨rfl, hb⟩; refine ⟨_, rfl, ?_⟩; have n0_ := Aside0.mk (Kd.R_below (zr HO_4.out) hb); have n1_ := Aside0.mk (Kd.R_below (zr HO627.out) hb); have n2_ := Aside0.mk (blk_below (g := gb615) (o := .cells #[.int .i64 a0_0, .slice A0_1 l0_1.length c0_1] 30 (0, 0)) (zb BK615.out) hb); have n3_ := Aside0.mk (blk_below (g := gb616) (o := .cells #[.int .i64 0, .slice none 0 0] 30 (0, 0)) (zb BK616.out) hb); have n4_ := Aside0.mk (below_step (zh HB.out) hb); clear HO_4; clear HO627; clear BK615; clear BK616; clear HB; have HO_4 := n0_; have HO627 := n1_; have BK615 := n2_; have BK616 := n3_; have HB := n4_; clear n0_ n1_ n2_ n3_ n4_; (try clear hb); (try clear hb2); (try clear hk); (try clear hi)))
      go_roundg k2
      case measure => have := HJ1.out; have := HK2.out; omega
      case rel => exact ⟨(t625), (x5_2), (by first | rfl | (simp; done) | (simp [*]; done)), H', ⟨by have := HJ1.out; have := HK2.out; omega⟩, ⟨by (with_reducible repeat (first | apply Kd.R_alloc | apply Kd.R_drewN | apply Kd.R_drew)); exact Kd.R_mono HO627.out (fun _ hk => trivial)⟩, ⟨zb BK615.out⟩, ⟨zb BK616.out⟩, ⟨zh HB.out⟩⟩
     replace c28 := Bool.eq_false_iff.mpr c28
     subst c28
     have H1 : (spec_HarderPuzzle.l0 k2 x4_2 (wrap64 (x5_2 + 1)) a0_0 l0_1) = some (r1, r2, r3) := by rw [if_neg (show ¬ (false = true) by decide)] at H; exact H
     clear H
     have H := H1
     clear H1
     have H' := Aside0.mk H
     clear H
     obtain ⟨Ao35, co35, eo35⟩ := Kd.R_slice HO_4.out
     subst eo35
     go_wp2_with (first | ((with_reducible refine gate_callee (f := 59) rfl ?_); refine goesL_ (some 29) rfl rfl Tryz.func59 (by kernel_rfl) rfl #[.slice Ao35 x4_2.length co35, .int .i64 x5_2] rfl (by (try simp only [List.map_toArray, List.map_cons, List.map_nil]); first | done | rfl | (simp only [List.length_drop, List.length_take]; rfl)) ?_; (with_reducible refine (spec_pzWithout.calls _ _ x4_2 x5_2 t625 _ ?side1 ?side2 A26.out).mono ?_); (case side1 => repeat (first | exact (Kd.R_reads' HO_4.out).2.2 | (with_reducible refine Kd.C_alloc ?_ _) | (with_reducible refine Kd.C_drewN ?_ _) | (with_reducible refine Kd.C_drew ?_))); (case side2 => exact (Kd.R_reads' HO_4.out).2.1); rintro e w36 ⟨v626, rfl, ho0, hb⟩; refine ⟨_, rfl, ?_⟩; have n0_ := Aside0.mk (Kd.R_elder' (zr HO_4.out) (Kd.R_base ho0) hb); have n1_ := Aside0.mk (Kd.R_lower (Kd.R_new' ho0 (Kd.R_lt (zr HO_4.out))) (below_size (zh HB.out))); have n2_ := Aside0.mk (blk_below (g := gb615) (o := .cells #[.int .i64 a0_0, .slice A0_1 l0_1.length c0_1] 30 (0, 0)) (zb BK615.out) hb); have n3_ := Aside0.mk (blk_below (g := gb616) (o := .cells #[.int .i64 0, .slice none 0 0] 30 (0, 0)) (zb BK616.out) hb); have n4_ := Aside0.mk (below_step (zh HB.out) hb); clear HO_4; clear BK615; clear BK616; clear HB; have HO_4 := n0_; have HO627 := n1_; have BK615 := n2_; have BK616 := n3_; have HB := n4_; clear n0_ n1_ n2_ n3_ n4_; (try clear hb); (try clear hb2); (try clear hk); (try clear hi); (try clear ho0); have hnb37 := NB615_616.out; have hnc37 := NB616_615.out; have hcz38_0 : w36.cell? ⟨gb615, 0, none⟩ = some (.int .i64 a0_0) := (blk_cell BK615.out 0).trans rfl; have hcz38_1 : w36.cell? ⟨gb615, 1, none⟩ = some (.slice A0_1 l0_1.length c0_1) := (blk_cell BK615.out 1).trans rfl; have hfz38_0 := blk_frozen BK615.out 0; have hfz38_1 := blk_frozen BK615.out 1; obtain ⟨Ao39, co39, eo39⟩ := Kd.R_slice HO627.out; subst eo39) | ((with_reducible refine gate_callee (f := 55) rfl ?_); refine goesL_ (some 33) rfl rfl Tryz.func55 (by kernel_rfl) rfl #[.int .i64 a0_0, .slice Ao39 t625.length co39] rfl (by (try simp only [List.map_toArray, List.map_cons, List.map_nil]); first | done | rfl | (simp only [List.length_drop, List.length_take]; rfl)) ?_; (with_reducible refine (spec_pzSolved.calls k2 a0_0 _ _ t625 false _ ?side1 ?side2 A27.out).mono ?_); (case side1 => repeat (first | exact (Kd.R_reads' HO627.out).2.2 | (with_reducible refine Kd.C_alloc ?_ _) | (with_reducible refine Kd.C_drewN ?_ _) | (with_reducible refine Kd.C_drew ?_))); (case side2 => exact (Kd.R_reads' HO627.out).2.1); rintro e w40 ⟨rfl, hb⟩; refine ⟨_, rfl, ?_⟩; have n0_ := Aside0.mk (Kd.R_below (zr HO_4.out) hb); have n1_ := Aside0.mk (Kd.R_below (zr HO627.out) hb); have n2_ := Aside0.mk (blk_below (g := gb615) (o := .cells #[.int .i64 a0_0, .slice A0_1 l0_1.length c0_1] 30 (0, 0)) (zb BK615.out) hb); have n3_ := Aside0.mk (blk_below (g := gb616) (o := .cells #[.int .i64 0, .slice none 0 0] 30 (0, 0)) (zb BK616.out) hb); have n4_ := Aside0.mk (below_step (zh HB.out) hb); clear HO_4; clear HO627; clear BK615; clear BK616; clear HB; have HO_4 := n0_; have HO627 := n1_; have BK615 := n2_; have BK616 := n3_; have HB := n4_; clear n0_ n1_ n2_ n3_ n4_; (try clear hb); (try clear hb2); (try clear hk); (try clear hi)))
     go_roundg k2
     case measure => have := HJ1.out; have := HK2.out; omega
     case rel => exact ⟨(x4_2), (wrap64 (x5_2 + 1)), (by first | rfl | (simp; done) | (simp [*]; done)), H', ⟨by have := HJ1.out; have := HK2.out; omega⟩, ⟨by (with_reducible repeat (first | apply Kd.R_alloc | apply Kd.R_drewN | apply Kd.R_drew)); exact Kd.R_mono HO_4.out (fun _ hk => trivial)⟩, ⟨zb BK615.out⟩, ⟨zb BK616.out⟩, ⟨zh HB.out⟩⟩
end Go.Proofs.YtgjakcpbfbfejaaGreat.Q
end
section
namespace Go.Proofs.YtgjakcpbfbfejaaGreat.Q
open Go.RowKit Go.Proofs.YtgjakcpbfbfejaaGreatW.PrintWords Go.Proofs.YtgjakcpbfbfejaaGreatW.PrintLast Go.Proofs.YtgjakcpbfbfejaaGreatW.PrintMore
set_option linter.unusedVariables false
set_option linter.unusedSimpArgs false
theorem k72_KM {w : World} {base : Nat} {ok : Nat → Prop} (x : S72) (cs : List Value) (h : k72.K w x cs) : k72.M w base ok x cs := by
  obtain rfl := k72_open h
  exact k72_mkM _ _ _ _
def impl_Clue_63.f (l0 : List S72) : Option (List S72) := if l0.length < 5864062014805 then some l0 else none
set_option maxHeartbeats 2000000 in
theorem impl_Clue_63.calls (A0 : Option Addr) (c0 : Nat) (l0 : List S72) (r : List S72) (w : World) (hr0 : Kd.C k72 w A0 l0.length l0) (hc0 : l0.length ≤ c0)
    (h : impl_Clue_63.f l0 = some r) :
    Calls Tryz.prog 63 #[.slice A0 l0.length c0] w fun e w' => ∃ v0_ : Value, e = .returned (v0_) ∧ Kd.R k72 72 w' w.heap.size (fun _ => True) v0_ r ∧ Below w.heap.size w w' := by
  unfold impl_Clue_63.f at h
  split at h
  case isFalse => cases h
  case isTrue hl =>
    obtain rfl := Option.some.inj h
    clear h
    have he : ∀ w, (binOp .eql 28 (.slice A0 l0.length c0) (.slice none 0 0)).run Tryz.prog w = .ok (.bool A0.isNone) w := fun w => run_eql_slice_nil w 28 72 A0 _ _ Tryz.underlying28
    have HL := Aside0.mk hl
    have HR := Aside0.mk hr0
    clear hl
    cases A0 with
    | none =>
      have h0 : l0 = [] := by
        cases l0 with
        | nil => rfl
        | cons x l => obtain ⟨ad, e, _⟩ := hr0.2.2 (by simp); cases e
      subst h0
      clear hr0 he
      have he : ∀ w, (binOp .eql 28 (.slice none 0 c0) (.slice none 0 0)).run Tryz.prog w = .ok (.bool true) w := fun w => run_eql_slice_nil w 28 72 none _ _ Tryz.underlying28
      go_enter Tryz.func63, Tryz.ntmps63
      go_wp2
      go_ret
      exact ⟨_, rfl, Kd.R_nil _ _ _ _ _, Below.refl _ _⟩
    | some ad =>
      clear hr0
      go_enter Tryz.func63, Tryz.ntmps63
      go_wp2_with (first | ((with_reducible refine gate_dst (N := 5) rfl ?_); refine Kd.R_lit k72 (w0 := w) w.heap.size 72 ?hg (N := 5) ?hd (xs := ([] : List S72)) (inner := []) (ok := fun _ => True) (okp := fun _ => True) ?hr ?hp (fun _ hk => hk) trivial (Below.refl _ _) (Nat.le_refl _) (by simp) ?_; (case hd => rfl); (case hg => rfl); (case hr => first | (go_simp; done) | (go_simp; rfl)); (case hp => exact (Reps.none _ _)); intro v5 w2 ho hb hg_ hnew_; clear hg_ hnew_; have HO := Aside0.mk ho; have HB := Aside0.mk hb; clear ho hb) | ((with_reducible refine gate_builtin (b := .append) (xs := #[.tmp 5, .tmp 6]) rfl ?_); refine Kd.R_append_rows k72 (Rr := k72.K w2) (w0 := w) w.heap.size rfl (.tmp 5) (.tmp 6) 28 72 (.agg #[(.int .i64 0), (.int .i64 0), (.int .i64 0)]) 24 rfl Tryz.underlying28 info72 rfl (by decide) (by omega) v5 [] l0 (some ad) l0.length c0 (fun _ => True) (fun _ => False) rfl rfl ?aO ?aR ?aK (fun _ hk => hk.elim) (fun _ _ => trivial) HB.out HB.out.size ?aL ?_; (case aO => exact HO.out); (case aR => exact Kd.C_below HR.out HB.out); (case aK => exact fun x cs hx => k72_KM x cs hx); (case aL => have := HL.out; simp; omega); intro v7 w3 ho2 hb2 hg2 hat2; clear hg2 hat2; have HO2 := Aside0.mk ho2; have HB2 := Aside0.mk hb2; clear ho2 hb2))
      refine bodyPost_ret (v := v7) (by simp [results, Tryz.results63, go_sem]) rfl ?_
      exact ⟨_, rfl, by simpa using HO2.out, HB2.out⟩
theorem step_app_row {P : Program} {ops : Array Oper} {o : Oper} {a : Act} {w : World} {K : Act → World → Prop} {Q : Exit → Act → World → Prop} {E : Prop}
    (hg : o.guard = none) (s x : Operand) (t : TypeId) (hop : o.op = Op.call { callee := Callee.builtin Builtin.append, args := #[s, x], argTypes := #[t, t] })
    (e : TypeId) (i : TypeInfo) (size : Nat) (h1 : P.underlying t = some (.slice e)) (h2 : P.info? e = some i) (h4 : i.size = size)
    (b n cap : Nat) (cur : Array Value) (hb : w.heap[b]? = some (.cells cur e (0, 0))) (hs : a.eval s = .slice (some ⟨b, 0, none⟩) n cap)
    (ad : Addr) (m c : Nat) (news : List Value) (hx : a.eval x = .slice (some ad) m c) (hn : news.length = m * size) (hc : ∀ j u, news[j]? = some u → w.cell? (ad.add j) = some u) (h1c : ∀ u ∈ news, u.oneCell' = true)
    (hroom : n + m ≤ cap) (hfit : n * size + news.length ≤ cur.size)
    (hK : K (a.put o.dst (.slice (some ⟨b, 0, none⟩) (n + m) cap)) (w.setRow b (cur.toList.take (n * size) ++ news ++ cur.toList.drop (n * size + news.length)).toArray)) :
    if Region.wanted o (yielded ops a.tmps) = true then Oper.wp P o a w K Q else E := by
  have hw : Region.wanted o (yielded ops a.tmps) = true := by simp [Region.wanted, hg]
  rw [if_pos hw]
  subst h4
  have hrun := run_append_room (P := P) w t o.type e i h1 h2 b n cap cur hb ad m c news hn hc h1c hroom hfit
  unfold Oper.wp
  simp [execOp, hop, resolve, invoke, builtin, hs, hx, hrun, Result.andThen]
  rw [List.append_assoc] at hK
  exact hK
theorem run_clear_one {P : Program} (w : World) (t e ty : TypeId) (z : Value) (zs : List Value) (ht : P.underlying t = some (.slice e)) (hv : ∀ w, (zeroValue e).run P w = .ok z w) (hz : (Builtin.zeroCells z.cells 1).toList = zs) (h1 : ∀ u ∈ zs, u.oneCell' = true) (b o c : Nat) (cur : Array Value) (hb : w.heap[b]? = some (.cells cur e (0, 0))) (hfit : o + zs.length ≤ cur.size) :
    (Builtin.clear_ #[t] ty #[.slice (some ⟨b, o, none⟩) 1 c]).run P w = .ok (.tuple #[]) (w.setRow b (cur.toList.take o ++ zs ++ cur.toList.drop (o + zs.length)).toArray) := by
  have hst := run_storeCells_at (P := P) b o e zs 0 cur w hb (by simpa using hfit) h1
  simp only [Nat.add_zero] at hst
  simp [Builtin.clear_, run_underlying ht, hv, hz, hst]
theorem zero72 (w : World) : (zeroValue 72).run Tryz.prog w = .ok (.agg #[(.int .i64 0), (.int .i64 0), (.int .i64 0)]) w := by kernel_rfl
set_option maxHeartbeats 4000000 in
set_option maxRecDepth 100000 in
theorem delete1.calls (g n c i : Nat) (cur : Array Value) (w : World) (hg : w.heap[g]? = some (.cells cur 72 (0, 0))) (hi : i < n) (hnc : n ≤ c) (hm : c ≤ 9223372036854775807) (hs : cur.size = c * 3) (h1 : ∀ u ∈ cur.toList.take (n * 3), u.oneCell' = true) :
    Calls Tryz.prog 83 #[.slice (some ⟨g, 0, none⟩) n c, .int .i64 i, .int .i64 (i + 1 : Nat)] w fun e w' => e = .returned (.slice (some ⟨g, 0, none⟩) (n - 1) c) ∧
      ∃ q cur', w' = (w.drewN q).setRow g cur' ∧ cur'.size = c * 3 ∧ cur'.toList.take ((n - 1) * 3) = (cur.toList.take (n * 3)).take (i * 3) ++ (cur.toList.take (n * 3)).drop ((i + 1) * 3) := by
  obtain ⟨news, hnews⟩ : ∃ news, news = (cur.toList.take (n * 3)).drop ((i + 1) * 3) := ⟨_, rfl⟩
  have hlen : news.length = (n - (i + 1)) * 3 := by rw [hnews]; simp; omega
  obtain ⟨A, hA, hsrc⟩ : ∃ A : Addr, (if c = i + 1 then some (⟨g, 0, none⟩ : Addr) else some ⟨g, (i + 1) * 3, none⟩) = some A ∧ Aside0 (∀ t u, news[t]? = some u → w.drew.cell? (A.add t) = some u) := by
    by_cases h : c = i + 1
    · refine ⟨⟨g, 0, none⟩, by simp [h], ⟨fun t u hu => ?_⟩⟩
      have h0 : news.length = 0 := by rw [hlen]; omega
      rw [List.length_eq_zero_iff.1 h0] at hu
      simp at hu
    · refine ⟨⟨g, (i + 1) * 3, none⟩, by simp [h], ⟨fun t u hu => ?_⟩⟩
      rw [Addr.add_lit]
      rw [hnews, List.getElem?_drop, List.getElem?_take] at hu
      split at hu
      · exact (cell_of_row w g ((i + 1) * 3 + t) cur 72 (0, 0) hg).trans (by simpa using hu)
      · cases hu
  have s1 : Aside0 (news.length = (n - (i + 1)) * 3) := ⟨hlen⟩
  have s2 : Aside0 (∀ u ∈ news, u.oneCell' = true) := ⟨fun u hu => h1 u (by rw [hnews] at hu; exact List.mem_of_mem_drop hu)⟩
  have s3 : Aside0 (w.drew.heap[g]? = some (.cells cur 72 (0, 0))) := ⟨hg⟩
  obtain ⟨row1, hrow1⟩ : ∃ row1, row1 = (cur.toList.take (i * 3) ++ news ++ cur.toList.drop (i * 3 + news.length)).toArray := ⟨_, rfl⟩
  have hr1s : row1.size = c * 3 := by rw [hrow1]; simp [hs, hlen]; omega
  obtain ⟨W1, hW1⟩ : ∃ W1, W1 = w.drew.setRow g row1 := ⟨_, rfl⟩
  have hg1 : W1.heap[g]? = some (.cells row1 72 (0, 0)) := by rw [hW1]; exact setRow_heap _ _ _ _ _ _ s3.out
  have hcl : ∀ ty cc, (Builtin.clear_ #[28] ty #[.slice (some ⟨g, (i + (n - (i + 1))) * 3, none⟩) (n - (i + (n - (i + 1)))) cc]).run Tryz.prog W1 = .ok (.tuple #[]) (W1.setRow g (row1.toList.take ((n - 1) * 3) ++ ([.int .i64 0, .int .i64 0, .int .i64 0] : List Value) ++ row1.toList.drop ((n - 1) * 3 + 3)).toArray) := by
    intro ty cc
    rw [show i + (n - (i + 1)) = n - 1 by omega, show n - (n - 1) = 1 by omega]
    exact run_clear_one W1 _ 72 ty _ [.int .i64 0, .int .i64 0, .int .i64 0] Tryz.underlying28 zero72 (by kernel_rfl) (by intro u hu; simp at hu; rw [hu]; rfl) g _ _ _ hg1 (by rw [hr1s]; simp; omega)
  have hW : Aside0 (W1 = w.drew.setRow g row1) := ⟨hW1⟩
  have hR : Aside0 (row1 = (cur.toList.take (i * 3) ++ news ++ cur.toList.drop (i * 3 + news.length)).toArray) := ⟨hrow1⟩
  have hN : Aside0 (news = (cur.toList.take (n * 3)).drop ((i + 1) * 3)) := ⟨hnews⟩
  have HF : Aside0 (i * 3 + news.length ≤ cur.size) := ⟨by rw [hlen, hs]; omega⟩
  have HS := Aside0.mk hr1s
  have hic : i ≤ c := by omega
  have hjc : i + 1 ≤ c := by omega
  have hjn : i + 1 ≤ n := by omega
  have hne : ¬ (i = i + 1) := by omega
  have hb0 : (0 : Int) ≤ (i : Int) + 1 := by omega
  have hb1 : (i : Int) + 1 ≤ (n : Int) := by omega
  obtain ⟨info, hinfo, hsz⟩ : ∃ x, Tryz.prog.info? 72 = some x ∧ x.size = 3 := by
    have := info72
    cases h : Tryz.prog.info? 72 with
    | none => rw [h] at this; cases this
    | some x => rw [h] at this; injection this with this; injection this with _ this; injection this with this _; exact ⟨x, rfl, this⟩
  clear hW1 hrow1 hnews hlen hg1 hr1s hg h1 hs
  go_enter Tryz.func83, Tryz.ntmps83
  go_wp2_with fail
  go_region_law (refine step_app_row rfl (.tmp 22) (.tmp 25) 28 rfl 72 info 3 Tryz.underlying28 hinfo hsz g i c cur s3.out (by simp [Act.eval, Act.put]) A (n - (i + 1)) (c - (i + 1)) news (by simp [Act.eval, Act.put]) s1.out hsrc.out s2.out (by omega) HF.out ?_; rw [← hR.out, ← hW.out])
  go_wp2
  go_ret
  refine ⟨by rw [show i + (n - (i + 1)) = n - 1 by omega]; rfl, 1, (row1.toList.take ((n - 1) * 3) ++ ([.int .i64 0, .int .i64 0, .int .i64 0] : List Value) ++ row1.toList.drop ((n - 1) * 3 + 3)).toArray, ?_, ?_, ?_⟩
  · rw [hW.out, setRow_setRow, List.append_assoc]
    rfl
  · have := HS.out
    simp [this]; omega
  · have hr : row1.size = c * 3 := HS.out
    rw [List.toList_toArray, List.append_assoc, List.take_append_of_le_length (by simp [hr]; omega), List.take_take, Nat.min_self, hR.out, List.toList_toArray, ← hN.out]
    have hl : news.length = (n - (i + 1)) * 3 := s1.out
    rw [List.take_append_of_le_length (by have := HF.out; simp [hl]; omega), List.take_take, List.take_of_length_le (by simp [hl]; omega), show min (i * 3) (n * 3) = i * 3 by omega]
def impl_without.f (l0 : List S72) (a1 : Int) : Option (List S72) := if 0 ≤ a1 ∧ a1 < (l0.length : Int) ∧ l0.length < 5864062014805 then some (l0.eraseIdx a1.toNat) else none
theorem reps_oneCell {α : Type} {R : α → List Value → Prop} {size : Nat} {ps : List α} {cs : List Value} (h : Reps R size ps cs) (hs : 0 < size) (h1 : ∀ p c, R p c → ∀ u ∈ c, u.oneCell' = true) : ∀ u ∈ cs, u.oneCell' = true := by
  intro u hu
  obtain ⟨q, hq, rfl⟩ := List.mem_iff_getElem.1 hu
  have hq' := hq
  rw [h.1] at hq'
  have hj : q / size < ps.length := Nat.div_lt_of_lt_mul (by rw [Nat.mul_comm]; exact hq')
  have hc := h.2 (q / size) _ (List.getElem?_eq_getElem hj)
  refine h1 _ _ hc _ ?_
  refine List.mem_iff_getElem?.2 ⟨q % size, ?_⟩
  rw [List.getElem?_take_of_lt (Nat.mod_lt _ hs), List.getElem?_drop, Nat.mul_comm, Nat.div_add_mod, List.getElem?_eq_getElem hq]
theorem delete1_R (base : Nat) (ok : Nat → Prop) (v : Value) (l : List S72) (i : Nat) (w : World) (h : Kd.R k72 72 w base ok v l) (hi : i < l.length) :
    Calls Tryz.prog 83 #[v, .int .i64 i, .int .i64 (i + 1 : Nat)] w fun e w' => ∃ v', e = .returned v' ∧ Kd.R k72 72 w' base ok v' (l.eraseIdx i) ∧ ∀ w0, Below base w0 w → Below base w0 w' := by
  obtain ⟨h0, inner, ho, hr⟩ := h
  rcases ho.2 with ⟨_, hn⟩ | ⟨g, cap, cur, rfl, hb, hg, hn, hm, hs, ht⟩
  · omega
  have hm' : cap ≤ 9223372036854775807 := hm
  have hs' : cur.size = cap * 3 := hs
  have ht' : cur.toList.take (l.length * 3) = inner := ht
  have hone := reps_oneCell hr (by decide) (fun p c hp u hu => by rw [k72_openM hp] at hu; simp at hu; rcases hu with rfl | rfl | rfl <;> rfl)
  refine (delete1.calls g l.length cap i cur w hg hi hn hm' hs' (by rw [ht']; exact hone)).mono ?_
  rintro e w' ⟨rfl, q, cur', rfl, hs2, ht2⟩
  rw [ht'] at ht2
  have hmove : ∀ k, (ok k ∧ some k ≠ (Value.slice (some ⟨g, 0, none⟩) l.length cap).ownBlock) → ((w.drewN q).setRow g cur').heap[k]? = w.heap[k]? := by
    intro k hk
    rw [setRow_other _ _ _ _ (fun e => hk.2 (by rw [e]; rfl))]
    rfl
  refine ⟨_, rfl, ⟨fun k hk => h0 k hk, inner.take (i * 3) ++ inner.drop ((i + 1) * 3), ?_, ?_⟩, fun w0 hB => below_setRow (pw_below_drewN hB q) hb cur'⟩
  · rw [List.length_eraseIdx_of_lt hi]
    refine ⟨?_, .inr ⟨g, cap, cur', rfl, hb, setRow_heap _ _ _ _ _ _ hg, by omega, hm, hs2, ht2⟩⟩
    have : inner.length = l.length * 3 := hr.1
    have e3 : k72.sz = 3 := rfl
    rw [List.length_append, List.length_take, List.length_drop, this, e3]
    omega
  · rw [List.eraseIdx_eq_take_drop_succ]
    exact Kd.reps_append ((Kd.reps_take hr (by omega)).imp_ fun p c hp => k72.M_move hmove hp) ((Kd.reps_drop hr).imp_ fun p c hp => k72.M_move hmove hp)
set_option maxHeartbeats 2000000 in
theorem impl_without.calls (A0 : Option Addr) (c0 : Nat) (l0 : List S72) (a1 : Int) (r : List S72) (w : World) (hr0 : Kd.C k72 w A0 l0.length l0) (hc0 : l0.length ≤ c0)
    (h : impl_without.f l0 a1 = some r) :
    Calls Tryz.prog 62 #[.slice A0 l0.length c0, .int .i64 a1] w fun e w' => ∃ v0_ : Value, e = .returned (v0_) ∧ Kd.R k72 72 w' w.heap.size (fun _ => True) v0_ r ∧ Below w.heap.size w w' := by
  unfold impl_without.f at h
  split at h
  case isFalse => cases h
  case isTrue hl =>
    obtain rfl := Option.some.inj h
    obtain ⟨i, rfl⟩ := Int.eq_ofNat_of_zero_le hl.1
    have hi : i < l0.length := by omega
    have hcl : impl_Clue_63.f l0 = some l0 := if_pos hl.2.2
    have HI := Aside0.mk hi
    have HR := Aside0.mk hr0
    have HL := Aside0.mk hl.2.2
    clear hl h hr0 hi
    have hw1 : wrap64 ((i : Int) + 1) = ((i + 1 : Nat) : Int) := by have := HI.out; have := HL.out; unfold wrap64; omega
    go_enter Tryz.func62, Tryz.ntmps62
    go_wp2_with (first | (go_at_call 63; refine (impl_Clue_63.calls A0 c0 l0 l0 _ HR.out hc0 hcl).mono ?_; rintro e w1 ⟨v1, rfl, ho, hb⟩; have HO := Aside0.mk ho; have HB := Aside0.mk hb; clear ho hb))
    refine (delete1_R _ _ _ l0 i _ HO.out HI.out).mono ?_
    rintro e w2 ⟨v2, rfl, ho2, hb2⟩
    have HO2 := Aside0.mk ho2
    have HB2 := Aside0.mk (hb2 w HB.out)
    clear ho2 hb2
    go_wp2
    go_ret
    exact ⟨_, rfl, HO2.out, HB2.out⟩
def idxO {α : Type} (p : α → Option Bool) : List α → Nat → Option Int
  | [], _ => some (-1)
  | x :: xs, k => (p x).bind fun b => if b = true then some (k : Int) else idxO p xs (k + 1)
def anyO {α : Type} (p : α → Option Bool) : List α → Option Bool
  | [] => some false
  | x :: xs => (p x).bind fun b => if b = true then some true else anyO p xs
theorem anyO_idxO {α : Type} (p : α → Option Bool) (xs : List α) : ∀ (k : Nat) (r : Bool), anyO p xs = some r → ∃ i, idxO p xs k = some i ∧ r = decide (0 ≤ i) := by
  induction xs with
  | nil => intro k r h; simp only [anyO, Option.some.injEq] at h; exact ⟨-1, rfl, by subst h; rfl⟩
  | cons x xs ih =>
    intro k r h
    simp only [anyO] at h
    obtain ⟨b, hb, h⟩ := Option.bind_eq_some_iff.mp h
    cases b with
    | true => rw [if_pos rfl] at h; exact ⟨k, by simp [idxO, hb], by simp only [Option.some.injEq] at h; subst h; simp⟩
    | false =>
      rw [if_neg (by simp)] at h
      obtain ⟨i, hi, hr⟩ := ih (k + 1) r h
      exact ⟨i, by simp [idxO, hb, hi], hr⟩
theorem idxO_step {α : Type} {p : α → Option Bool} {xs : List α} {k : Nat} {r : Int} {x : α} (h : idxO p (xs.drop k) k = some r) (hx : xs[k]? = some x) :
    ∃ b, p x = some b ∧ (b = true → r = k) ∧ (b = false → idxO p (xs.drop (k + 1)) (k + 1) = some r) := by
  rw [show xs.drop k = x :: xs.drop (k + 1) from by
    obtain ⟨hk, rfl⟩ := List.getElem?_eq_some_iff.1 hx; exact List.drop_eq_getElem_cons hk] at h
  simp only [idxO] at h
  obtain ⟨b, hb, h⟩ := Option.bind_eq_some_iff.mp h
  refine ⟨b, hb, ?_, ?_⟩
  · rintro rfl; rw [if_pos rfl] at h; exact (Option.some.inj h).symm
  · rintro rfl; rw [if_neg (by simp)] at h; exact h
def PredK {α : Type} (P : Program) (g : Nat) (lb : Array Value) (d : Kd α) (mkv : List Value → Value) (w : World) (p : α → Option Bool) : Prop :=
  ∀ (W : World) (x : α) (c : List Value) (b : Bool), Below w.heap.size w W → d.K w x c → p x = some b → Calls P g (#[mkv c] ++ lb) W fun e w' => e = .returned (.bool b) ∧ Below w.heap.size w w'
theorem anyO_some {α : Type} {p : α → Option Bool} {q : α → Bool} {xs : List α} (h : ∀ x ∈ xs, p x = some (q x)) : anyO p xs = some (xs.any q) := by
  induction xs with
  | nil => rfl
  | cons x xs ih =>
    simp only [anyO, h x (List.mem_cons_self ..), Option.bind_some]
    rw [ih (fun y hy => h y (List.mem_cons_of_mem _ hy))]
    rw [List.any_cons]
    cases q x <;> rfl
theorem ret_i {a b : Int} (h : a = b) : Ending.returned (.int .i64 a) = .returned (.int .i64 b) := by rw [h]
theorem ret_b {a b : Bool} (h : a = b) : Ending.returned (.bool a) = .returned (.bool b) := by rw [h]
set_option maxHeartbeats 2000000 in
theorem indexFunc_clue (p : S72 → Option Bool) (g : Nat) (lb : Array Value) (eg : ∀ args w, (callFunc g args).run Tryz.prog w = .ok (.enter g args) w)
    (A0 : Option Addr) (c0 : Nat) (l0 : List S72) (r : Int) (w : World) (hr0 : Kd.C k72 w A0 l0.length l0) (hc0 : l0.length ≤ c0)
    (hp : PredK Tryz.prog g lb k72 (fun c => .agg c.toArray) w p) (h : idxO p l0 0 = some r) :
    Calls Tryz.prog 97 #[.slice A0 l0.length c0, .func (.func g) #[] lb] w fun e w' => e = .returned (.int .i64 r) ∧ Below w.heap.size w w' := by
  have hlen := hr0.2.1
  have HR0 := Aside0.mk hr0
  clear hr0
  have HP := Aside0.mk hp
  clear hp
  have H0 := Aside0.mk h
  clear h
  go_enter Tryz.func97, Tryz.ntmps97
  go_wp2
  go_loopg [5, 8] l0.length (fun gg _ s8 wr => ∃ kk : Nat, kk ≤ l0.length ∧ l0.length - kk ≤ gg ∧ s8 = .int .i64 kk ∧ Aside0 (Below w.heap.size w wr) ∧ Aside0 (idxO p (l0.drop kk) kk = some r))
  case atStart => exact ⟨0, Nat.zero_le _, by omega, rfl, ⟨Below.refl _ w⟩, H0⟩
  case round =>
    obtain ⟨kk, hkk, hg, rfl, BW, A⟩ := hrel
    by_cases hlt : kk < l0.length
    · have hltz : (kk : Int) < (l0.length : Int) := by omega
      obtain ⟨ad, e, x0, x1, x2⟩ := at_T72 HR0.out (kk : Int) (by omega) hltz
      subst e
      replace x0 := (BW.out.cell (World.block_lt_of_cell? w _ x0)).trans x0
      replace x1 := (BW.out.cell (World.block_lt_of_cell? w _ x1)).trans x1
      replace x2 := (BW.out.cell (World.block_lt_of_cell? w _ x2)).trans x2
      rw [Int.toNat_natCast] at x0 x1 x2
      obtain ⟨b, hb, h1, h2⟩ := idxO_step A.out (show l0[kk]? = some (rd_T72 l0 (kk : Int)) by unfold rd_T72; rw [Int.toNat_natCast, List.getD_eq_getElem?_getD, List.getElem?_eq_getElem hlt]; rfl)
      have hcall := HP.out wr _ _ b BW.out (k72_mk w _) hb
      generalize rd_T72 l0 (kk : Int) = y at x0 x1 x2 hcall hb
      have B := Aside0.mk hb
      clear hb
      cases b with
      | true =>
        have E := Aside0.mk (h1 rfl)
        clear h1 h2
        go_wp2_with (go_at_fn g; refine hcall.mono ?_; rintro e w' ⟨rfl, hb'⟩)
        go_ret
        exact ⟨ret_i E.out.symm, hb'⟩
      | false =>
        have E := Aside0.mk (h2 rfl)
        clear h1 h2
        go_wp2_with (go_at_fn g; refine hcall.mono ?_; rintro e w' ⟨rfl, hb'⟩)
        go_roundg (l0.length - (kk + 1))
        case measure => omega
        case rel => exact ⟨kk + 1, by omega, by omega, by go_num, ⟨hb'⟩, E⟩
    · have hltz : ¬ (kk : Int) < (l0.length : Int) := by omega
      have : kk = l0.length := by omega
      subst this
      go_wp2
      go_ret
      refine ⟨?_, BW.out⟩
      have h3 := A.out
      rw [List.drop_length] at h3
      have h4 : (-1 : Int) = r := by simpa [idxO] using h3
      exact ret_i h4
set_option maxHeartbeats 1000000 in
theorem containsFunc_clue (p : S72 → Option Bool) (g : Nat) (lb : Array Value) (eg : ∀ args w, (callFunc g args).run Tryz.prog w = .ok (.enter g args) w)
    (A0 : Option Addr) (c0 : Nat) (l0 : List S72) (r : Bool) (w : World) (hr0 : Kd.C k72 w A0 l0.length l0) (hc0 : l0.length ≤ c0)
    (hp : PredK Tryz.prog g lb k72 (fun c => .agg c.toArray) w p) (h : anyO p l0 = some r) :
    Calls Tryz.prog 74 #[.slice A0 l0.length c0, .func (.func g) #[] lb] w fun e w' => e = .returned (.bool r) ∧ Below w.heap.size w w' := by
  obtain ⟨i, hi, rfl⟩ := anyO_idxO p l0 0 r h
  have hcon := indexFunc_clue p g lb eg A0 c0 l0 i w hr0 hc0 hp hi
  clear hr0 hp h hi
  go_enter Tryz.func74, Tryz.ntmps74
  go_wp2_with (go_at_call 97; refine hcon.mono ?_; rintro e w' ⟨rfl, hb'⟩)
  go_ret
  exact ⟨rfl, hb'⟩
def impl_IsPuzzle_1.f (m : Int) (x : S72) : Option Bool := (impl_IsClue.f m x.f0 x.f1 x.f2).bind fun b => some (!b)
set_option maxHeartbeats 1000000 in
theorem impl_IsPuzzle_1.pred (m : Int) (v : Value) (b1 : Nat) (w : World) (h1 : w.cell? ⟨b1, 0, none⟩ = some (.int .i64 m)) :
    PredK Tryz.prog 75 #[.pointer (some ⟨b1, 0, none⟩)] k72 (fun c => .agg c.toArray) w (impl_IsPuzzle_1.f m) := by
  intro W x c b hb hK hp
  obtain rfl := k72_open hK
  show Calls Tryz.prog 75 #[.agg #[.int .i64 x.f0, .int .i64 x.f1, .int .i64 x.f2], .pointer (some ⟨b1, 0, none⟩)] W _
  have q1 := (hb.cell (World.block_lt_of_cell? w _ h1)).trans h1
  have q2 := Nat.lt_of_lt_of_le (World.block_lt_of_cell? w _ h1) hb.size
  obtain ⟨t, ht, hr⟩ := Option.bind_eq_some_iff.mp hp
  have hr' : (!t) = b := Option.some.inj hr
  have hB := Aside0.mk hb
  have hT := Aside0.mk ht
  have hE := Aside0.mk hr'
  have q3 : W.heap.size ≠ b1 := by have : b1 < W.heap.size := q2; omega
  have q4 : b1 ≠ W.heap.size := fun h => q3 h.symm
  clear h1 hb hK hp hr hr' ht
  go_enter Tryz.func75, Tryz.ntmps75
  go_wp2_with (go_at_call 76; refine (impl_IsClue.calls _ _ _ _ _ _ hT.out).mono ?_; rintro e w' ⟨rfl, hb'⟩)
  go_ret
  exact ⟨ret_b hE.out, hB.out.trans (((Below.refl W.heap.size W).alloc (Nat.le_refl _) _).trans (hb'.mono (by simp)) |>.mono hB.out.size)⟩
def impl_IsPuzzle.f (a0_0 : Int) (l0_1 : List S72) : Option Bool :=
  (impl_isHidden.f a0_0).bind fun t => if t = true then (if (l0_1.length : Int) ≤ 8 then (anyO (impl_IsPuzzle_1.f a0_0) l0_1).bind fun b => some (!b) else some false) else some false
set_option maxHeartbeats 2000000 in
theorem impl_IsPuzzle.calls (a0_0 : Int) (A0_1 : Option Addr) (c0_1 : Nat) (l0_1 : List S72) (r : Bool) (w : World) (hr0_1 : Kd.C k72 w A0_1 l0_1.length l0_1) (hc0_1 : l0_1.length ≤ c0_1) (h : impl_IsPuzzle.f a0_0 l0_1 = some r) :
    Calls Tryz.prog 56 #[.agg #[.int .i64 a0_0, .slice A0_1 l0_1.length c0_1]] w fun e w' => e = .returned (.bool r) ∧ Below w.heap.size w w' := by
  have eg : ∀ args w, (callFunc 75 args).run Tryz.prog w = .ok (.enter 75 args) w := enters_of Tryz.func75 (by kernel_rfl) rfl
  obtain ⟨t, ht, h⟩ := Option.bind_eq_some_iff.mp h
  have hT := Aside0.mk ht
  have HR := Aside0.mk hr0_1
  clear ht hr0_1
  cases t with
  | false =>
    rw [if_neg (by simp)] at h
    obtain rfl := Option.some.inj h
    go_enter Tryz.func56, Tryz.ntmps56
    go_wp2_with (go_at_call 73; refine (impl_isHidden.calls _ _ _ hT.out).mono ?_; rintro e w' ⟨rfl, nd, rfl⟩)
    go_ret
    exact ⟨rfl, pw_below_drewN ((Below.refl _ w).alloc (Nat.le_refl _) _) _⟩
  | true =>
    rw [if_pos rfl] at h
    by_cases hl : l0_1.length ≤ 8
    · rw [if_pos (by omega)] at h
      obtain ⟨b, hb, h⟩ := Option.bind_eq_some_iff.mp h
      obtain rfl := Option.some.inj h
      have hBB := Aside0.mk hb
      clear hb h
      have hl2 : (l0_1.length : Int) ≤ 8 := by omega
      go_enter Tryz.func56, Tryz.ntmps56
      go_wp2_with (go_at_call 73; refine (impl_isHidden.calls _ _ _ hT.out).mono ?_; rintro e w' ⟨rfl, nd, rfl⟩)
      refine (containsFunc_clue (impl_IsPuzzle_1.f a0_0) 75 #[.pointer (some ⟨w.heap.size, 0, none⟩)] eg A0_1 c0_1 l0_1 b _ ?_ hc0_1 ?_ hBB.out).mono ?_
      · exact Kd.C_below HR.out (pw_below_drewN ((Below.refl _ w).alloc (Nat.le_refl _) _) _)
      · exact impl_IsPuzzle_1.pred a0_0 undef _ _ (by go_simp)
      · rintro e w' ⟨rfl, hb⟩
        go_wp2
        go_ret
        exact ⟨rfl, (pw_below_drewN ((Below.refl _ w).alloc (Nat.le_refl _) _) nd).trans (hb.mono (by simp))⟩
    · rw [if_neg (by omega)] at h
      obtain rfl := Option.some.inj h
      have hl2 : ¬ (l0_1.length : Int) ≤ 8 := by omega
      go_enter Tryz.func56, Tryz.ntmps56
      go_wp2_with (go_at_call 73; refine (impl_isHidden.calls _ _ _ hT.out).mono ?_; rintro e w' ⟨rfl, nd, rfl⟩)
      go_ret
      exact ⟨rfl, pw_below_drewN ((Below.refl _ w).alloc (Nat.le_refl _) _) _⟩
@[reducible] def PredG (P : Program) (g : Nat) (lb : Array Value) (wb : World) (p : S46 → Option Bool) : Prop :=
  ∀ (W : World) (x : S46) (A : Option Addr) (c : Nat) (b : Bool), Below wb.heap.size wb W → x.f1.length ≤ c → Kd.C (Kd.slice 3 (Kd.int .i64)) W A x.f1.length x.f1 → p x = some b → Calls P g (#[.agg #[.int .i64 x.f0, .slice A x.f1.length c]] ++ lb) W fun e w' => e = .returned (.bool b) ∧ Below W.heap.size W w'
def filO {α : Type} (p : α → Option Bool) : List α → Option (List α)
  | [] => some []
  | x :: xs => (p x).bind fun b => (filO p xs).bind fun r => some (if b = true then r else x :: r)
theorem filO_idx {α : Type} (p : α → Option Bool) : ∀ (l : List α) (k : Nat) (r : List α), filO p l = some r → ∃ i, idxO p l k = some i ∧ ((i = -1 ∧ r = l) ∨ ∃ n : Nat, i = ((k + n : Nat) : Int) ∧ n < l.length ∧ ∃ rest, filO p (l.drop (n + 1)) = some rest ∧ r = l.take n ++ rest)
  | [], k, r, h => ⟨-1, rfl, .inl ⟨rfl, (Option.some.inj h).symm⟩⟩
  | x :: xs, k, r, h => by
    obtain ⟨b, hb, h⟩ := Option.bind_eq_some_iff.mp h
    obtain ⟨r1, h1, h⟩ := Option.bind_eq_some_iff.mp h
    have hr := Option.some.inj h
    cases b with
    | true => exact ⟨k, by simp [idxO, hb], .inr ⟨0, by simp, by simp, r1, by simpa using h1, by simpa using hr.symm⟩⟩
    | false =>
      obtain ⟨i, hi, hc⟩ := filO_idx p xs (k + 1) r1 h1
      refine ⟨i, by simp [idxO, hb, hi], ?_⟩
      rcases hc with ⟨e1, e2⟩ | ⟨n, e1, e2, rest, e3, e4⟩
      · exact .inl ⟨e1, by rw [← hr, e2]; simp⟩
      · exact .inr ⟨n + 1, by rw [e1]; congr 1; omega, by simp; omega, rest, by simpa using e3, by rw [← hr, e4]; simp⟩
set_option maxHeartbeats 2000000 in
theorem indexFunc_game (p : S46 → Option Bool) (g : Nat) (lb : Array Value) (eg : ∀ args w, (callFunc g args).run Tryz.prog w = .ok (.enter g args) w) (wb : World)
    (A0 : Option Addr) (c0 : Nat) (l0 : List S46) (r : Int) (w : World) (hB : Below wb.heap.size wb w) (hr0 : Kd.C k46 w A0 l0.length l0) (hc0 : l0.length ≤ c0)
    (hp : PredG Tryz.prog g lb wb p) (h : idxO p l0 0 = some r) :
    Calls Tryz.prog 98 #[.slice A0 l0.length c0, .func (.func g) #[] lb] w fun e w' => e = .returned (.int .i64 r) ∧ Below w.heap.size w w' := by
  have hlen := hr0.2.1
  have HR0 := Aside0.mk hr0
  have HWB := Aside0.mk hB
  clear hr0 hB
  have HP := Aside0.mk hp
  clear hp
  have H0 := Aside0.mk h
  clear h
  go_enter Tryz.func98, Tryz.ntmps98
  go_wp2
  go_loopg [5, 8] l0.length (fun gg _ s8 wr => ∃ kk : Nat, kk ≤ l0.length ∧ l0.length - kk ≤ gg ∧ s8 = .int .i64 kk ∧ Aside0 (Below w.heap.size w wr) ∧ Aside0 (idxO p (l0.drop kk) kk = some r))
  case atStart => exact ⟨0, Nat.zero_le _, by omega, rfl, ⟨Below.refl _ w⟩, H0⟩
  case round =>
    obtain ⟨kk, hkk, hg, rfl, BW, A⟩ := hrel
    by_cases hlt : kk < l0.length
    · have hltz : (kk : Int) < (l0.length : Int) := by omega
      obtain ⟨ad, A1, c1, e, x0, x1, l1, g1⟩ := at_T46 (Kd.C_below HR0.out BW.out) (kk : Int) (by omega) hltz
      subst e
      rw [Int.toNat_natCast] at x0 x1
      obtain ⟨b, hb, h1, h2⟩ := idxO_step A.out (show l0[kk]? = some (rd_T46 l0 (kk : Int)) by unfold rd_T46; rw [Int.toNat_natCast, List.getD_eq_getElem?_getD, List.getElem?_eq_getElem hlt]; rfl)
      have hcall := HP.out wr _ A1 c1 b (HWB.out.trans (BW.out.mono HWB.out.size)) l1 g1 hb
      generalize rd_T46 l0 (kk : Int) = y at x0 x1 hcall hb l1 g1
      clear g1 hb
      cases b with
      | true =>
        have E := Aside0.mk (h1 rfl)
        clear h1 h2
        go_wp2_with (go_at_fn g; refine hcall.mono ?_; rintro e w' ⟨rfl, hb'⟩)
        go_ret
        exact ⟨ret_i E.out.symm, BW.out.trans (hb'.mono BW.out.size)⟩
      | false =>
        have E := Aside0.mk (h2 rfl)
        clear h1 h2
        go_wp2_with (go_at_fn g; refine hcall.mono ?_; rintro e w' ⟨rfl, hb'⟩)
        go_roundg (l0.length - (kk + 1))
        case measure => omega
        case rel => exact ⟨kk + 1, by omega, by omega, by go_num, ⟨BW.out.trans (hb'.mono BW.out.size)⟩, E⟩
    · have hltz : ¬ (kk : Int) < (l0.length : Int) := by omega
      have : kk = l0.length := by omega
      subst this
      go_wp2
      go_ret
      refine ⟨?_, BW.out⟩
      have h3 := A.out
      rw [List.drop_length] at h3
      have h4 : (-1 : Int) = r := by simpa [idxO] using h3
      exact ret_i h4
theorem run_clear_n {P : Program} (w : World) (t e ty : TypeId) (m : Nat) (z : Value) (zs : List Value) (ht : P.underlying t = some (.slice e)) (hv : ∀ w, (zeroValue e).run P w = .ok z w) (hz : (Builtin.zeroCells z.cells (m + 1)).toList = zs) (h1 : ∀ u ∈ zs, u.oneCell' = true) (b o c : Nat) (cur : Array Value) (hb : w.heap[b]? = some (.cells cur e (0, 0))) (hfit : o + zs.length ≤ cur.size) :
    (Builtin.clear_ #[t] ty #[.slice (some ⟨b, o, none⟩) (m + 1) c]).run P w = .ok (.tuple #[]) (w.setRow b (cur.toList.take o ++ zs ++ cur.toList.drop (o + zs.length)).toArray) := by
  have hst := run_storeCells_at (P := P) b o e zs 0 cur w hb (by simpa using hfit) h1
  simp only [Nat.add_zero] at hst
  simp [Builtin.clear_, run_underlying ht, hv, hz, hst]
theorem zeroG (w : World) : (zeroValue 46).run Tryz.prog w = .ok (.agg #[(.int .i64 0), (.slice none 0 0)]) w := by kernel_rfl
theorem zero_cells2 (a b : Value) (m : Nat) : (Builtin.zeroCells #[a, b] m).toList.length = m * 2 ∧ ∀ u ∈ (Builtin.zeroCells #[a, b] m).toList, u = a ∨ u = b := by
  unfold Builtin.zeroCells
  refine ⟨by simp, fun u hu => ?_⟩
  simp only [Array.toList_map, Array.toList_range, List.mem_map, List.mem_range, List.size_toArray, List.length_cons, List.length_nil] at hu
  obtain ⟨i, _, rfl⟩ := hu
  rcases Nat.mod_two_eq_zero_or_one i with h | h
  · left; simp [h]
  · right; simp [h]
theorem N_tail {α : Type} {d : Kd α} {e base i c g : Nat} {ok : Nat → Prop} {W : World} {xs : List α} {cur cur' : Array Value} (h : Kd.N d e W base ok (.slice (some ⟨g, 0, none⟩) i c) xs) (hb : W.heap[g]? = some (.cells cur e (0, 0))) (hs : cur'.size = cur.size) (ht : cur'.toList.take (i * d.sz) = cur.toList.take (i * d.sz)) :
    Kd.N d e (W.setRow g cur') base ok (.slice (some ⟨g, 0, none⟩) i c) xs := by
  obtain ⟨h0, rows, hl, ⟨hok, inner, ho, hr⟩, hf⟩ := h
  refine ⟨h0, rows, hl, ⟨hok, inner, ⟨ho.1, ?_⟩, ?_⟩, fun j x c hx hc => ?_⟩
  · rcases ho.2 with ⟨hv, _⟩ | ⟨g', cap, cur0, hv, hbase, hb0, h1, h2, h3, h4⟩
    · cases hv
    · injection hv with hA hn hc
      injection hA with hA
      injection hA with hA
      subst hA; subst hc
      rw [hb] at hb0
      injection hb0 with hb0
      injection hb0 with hb0
      subst hb0
      refine .inr ⟨g, c, cur', by rw [← hn], hbase, setRow_heap _ _ _ _ _ _ hb, h1, h2, hs.trans h3, ?_⟩
      rw [← h4, ← hn]; exact ht
  · exact hr.imp_ fun _ _ hp => hp
  · exact Kd.FK_step (hf j x c hx hc) (fun k hk _ => setRow_other _ _ _ _ (fun e => hk.2 (by rw [e]; rfl)))
theorem take_set_same {α : Type} (l : List α) (i : Nat) (x : α) (h : i < l.length) : (l.set i x).take (i + 1) = l.take i ++ [x] := by
  rw [List.take_succ_eq_append_getElem (by rw [List.length_set]; exact h), List.getElem_set_self, List.take_set_of_le (Nat.le_refl _)]
theorem drop_set_lt {α : Type} (l : List α) (i j : Nat) (x : α) (h : i < j) : (l.set i x).drop j = l.drop j := List.drop_set_of_lt h
theorem om7 {i j : Nat} (h : i < j) : i + 1 < j + 1 := by omega
theorem om8 {i j : Nat} (h : i < j) : i < j + 1 := by omega
theorem om9 {i n : Nat} (h : i < n) : ∃ m, n - i = m + 1 := ⟨n - i - 1, by omega⟩
theorem two_seg {W : World} {ok : Nat → Prop} {x : S46} {a b : Value} {ci : List Value} (h : ci.length = 2) (hF : Kd.FK k46 W ok x [a, b]) : Kd.FK k46 W ok x (ci.take 0 ++ [a, b] ++ ci.drop (0 + [a, b].length)) := by
  match ci, h with
  | [_, _], _ => exact hF
set_option maxHeartbeats 8000000 in
set_option maxRecDepth 100000 in
theorem deleteFunc_games (p : S46 → Option Bool) (g : Nat) (lb : Array Value) (eg : ∀ args w, (callFunc g args).run Tryz.prog w = .ok (.enter g args) w) (wb w : World) (A : Option Addr) (c : Nat) (l r : List S46)
    (hp : PredG Tryz.prog g lb wb p) (hB : Below wb.heap.size wb w) (hN : Kd.N k46 46 w wb.heap.size (fun z => wb.heap.size ≤ z) (.slice A l.length c) l) (hl : l.length ≤ 1000000) (h : filO p l = some r) :
    Calls Tryz.prog 77 #[.slice A l.length c, .func (.func g) #[] lb] w fun e w' => ∃ A' c', e = .returned (.slice A' r.length c') ∧ Kd.N k46 46 w' wb.heap.size (fun z => wb.heap.size ≤ z) (.slice A' r.length c') r ∧ Below wb.heap.size wb w' := by
  obtain ⟨i, hi, hcase⟩ := filO_idx p l 0 r h
  have hrd := Kd.N_reads' hN
  have HI := Aside0.mk (indexFunc_game p g lb eg wb A c l i w hB hrd.2.2 hrd.2.1 hp hi)
  have HN := Aside0.mk hN
  have HB := Aside0.mk hB
  have HP := Aside0.mk hp
  have hlc := hrd.2.1
  clear hN hB hp hi hrd h
  rcases hcase with ⟨rfl, rfl⟩ | ⟨n0, rfl, hn0, rest0, hrest0, hr0⟩
  · go_enter Tryz.func77, Tryz.ntmps77
    go_wp2_with (go_at_call 98; refine HI.out.mono ?_; rintro e w1 ⟨rfl, hb1⟩; have HB1 := Aside0.mk hb1; clear hb1)
    go_ret
    exact ⟨A, c, rfl, Kd.N_below HN.out HB1.out, HB.out.trans (HB1.out.mono HB.out.size)⟩
  · rw [Nat.zero_add] at HI
    obtain ⟨g0, cap, hv, hg0, hglt, cells, hcells⟩ := Kd.N_form HN.out (Nat.lt_of_le_of_lt (Nat.zero_le _) hn0)
    injection hv with hA _ hc
    subst hA; subst hc
    obtain ⟨inf, hinf, _, hinf2, _⟩ := info_parts info46
    have hm1 : ((n0 : Int) == -1) = false := by rw [beq_eq_false_iff_ne]; omega
    have hm2 : ¬ ((n0 : Int) = -1) := by omega
    have hw1 : wrap64 ((n0 : Int) + 1) = ((n0 + 1 : Nat) : Int) := om3 hn0 (Nat.le_trans hl (by decide))
    have HR0 := Aside0.mk hr0
    have HRS := Aside0.mk hrest0
    clear hr0 hrest0 hcells
    go_enter Tryz.func77, Tryz.ntmps77
    go_wp2_with (go_at_call 98; refine HI.out.mono ?_; rintro e w1 ⟨rfl, hb1⟩; have HN1 := Aside0.mk (Kd.N_below HN.out hb1); have HB1 := Aside0.mk (HB.out.trans (hb1.mono HB.out.size)); clear hb1 HN HI)
    go_loopg [5, 6] l.length (fun gg v5 v6 wr => ∃ (i j : Nat) (cur : List S46), i < j ∧ j ≤ l.length ∧ l.length - j ≤ gg ∧ v5 = .int .i64 i ∧ v6 = .int .i64 j ∧ Aside0 (cur.length = l.length) ∧ Aside0 (cur.drop j = l.drop j) ∧ Aside0 (∃ rest, filO p (l.drop j) = some rest ∧ r = cur.take i ++ rest) ∧ Aside0 (Kd.N k46 46 wr wb.heap.size (fun z => wb.heap.size ≤ z) (.slice (some ⟨g0, 0, none⟩) l.length c) cur) ∧ Aside0 (Below wb.heap.size wb wr))
    case atStart => exact ⟨n0, n0 + 1, l, Nat.lt_succ_self _, hn0, Nat.sub_le _ _, rfl, by first | rfl | (congr 1; omega), ⟨rfl⟩, ⟨rfl⟩, ⟨⟨rest0, HRS.out, HR0.out⟩⟩, HN1, HB1⟩
    case round =>
      clear HN1 HB1 HR0 HRS hw1 hm1 hm2
      obtain ⟨i, j, cur, hij, hj, hg, rfl, rfl, HL, HD, HR, HN, HB⟩ := hrel
      by_cases hlt : j < l.length
      · have hltz : (j : Int) < (l.length : Int) := Int.ofNat_lt.2 hlt
        have hdec : decide ((j : Int) < (l.length : Int)) = true := decide_eq_true hltz
        have hil : i < l.length := Nat.lt_trans hij hlt
        have hilz : (i : Int) < (l.length : Int) := Int.ofNat_lt.2 hil
        have hjc : j < cur.length := by rw [HL.out]; exact hlt
        obtain ⟨cj, hcl, hFK, hcc, hfr⟩ := Kd.N_elem HN.out z46 (j : Int) (Int.natCast_nonneg _) hltz
        rw [Int.toNat_natCast] at hFK hcc
        have hDj : l.drop j = cur.getD j z46 :: l.drop (j + 1) := by
          have h1 := HD.out
          rw [List.drop_eq_getElem_cons hjc, List.drop_eq_getElem_cons hlt] at h1
          rw [List.drop_eq_getElem_cons hlt, List.getD_eq_getElem?_getD, List.getElem?_eq_getElem hjc]
          exact congrArg (· :: l.drop (j + 1)) (List.cons.inj h1).1.symm
        have hDn : cur.drop (j + 1) = l.drop (j + 1) := by
          have h1 := HD.out
          rw [List.drop_eq_getElem_cons hjc, List.drop_eq_getElem_cons hlt] at h1
          exact (List.cons.inj h1).2
        obtain ⟨rest, hrest, hr⟩ := HR.out
        rw [hDj] at hrest
        clear hDj
        generalize cur.getD j z46 = x at hFK hrest
        obtain ⟨b, hpb, hrest⟩ := Option.bind_eq_some_iff.mp hrest
        obtain ⟨r1, hr1, hrest⟩ := Option.bind_eq_some_iff.mp hrest
        have hrst := Option.some.inj hrest
        obtain ⟨Ax, cx, rfl, hxl, hxF⟩ := k46_openF hFK
        have x0 : wr.cell? ⟨g0, j * 2, none⟩ = some (.int .i64 x.f0) := hcc 0 _ rfl
        have x1 : wr.cell? ⟨g0, j * 2 + 1, none⟩ = some (.slice Ax x.f1.length cx) := hcc 1 _ rfl
        have HFK := Aside0.mk hFK
        have HCL := Aside0.mk (fun (W : World) (hb : Below wr.heap.size wr W) => HP.out W x Ax cx b (HB.out.trans (hb.mono HB.out.size)) hxl (Kd.C_below (Kd.F_now hxF) hb) hpb)
        have HR1 := Aside0.mk hr1
        have HRR := Aside0.mk hr
        have HDN := Aside0.mk hDn
        have HST := Aside0.mk hrst
        clear hFK hcc hfr hxF hpb hr1 hr hDn hrst hrest HR HD hcl
        cases b
        case true =>
          have hs := HST.out
          rw [if_pos rfl] at hs
          subst hs
          clear HST
          go_wp2_with (go_at_fn g; refine (HCL.out _ ((Below.refl _ wr).alloc (Nat.le_refl _) _)).mono ?_; rintro e w2 ⟨rfl, hb2⟩; have HB2 := Aside0.mk (((Below.refl _ wr).alloc (Nat.le_refl _) _).trans (hb2.mono (by simp))); clear hb2)
          go_roundg (l.length - (j + 1))
          case measure => exact om2 hlt hg
          case rel => exact ⟨i, j + 1, cur, om8 hij, hlt, Nat.le_refl _, rfl, by congr 1; (try exact om3 hlt (Nat.le_trans hl (by decide))), HL, HDN, ⟨⟨r1, HR1.out, HRR.out⟩⟩, ⟨Kd.N_below HN.out HB2.out⟩, ⟨HB.out.trans (HB2.out.mono HB.out.size)⟩⟩
        case false =>
          have hs := HST.out
          rw [if_neg (by decide)] at hs
          subst hs
          clear HST
          have hso : i * 2 = (i : Int).toNat * Kd.sz k46 + 0 := by rw [Int.toNat_natCast]; rfl
          have hsst : (Tryz.prog.info? 46).map (·.size) = some ([.int .i64 x.f0, .slice Ax x.f1.length cx] : List Value).length := by rw [hinf]; exact congrArg some hinf2
          have hs1 : ∀ q ∈ ([.int .i64 x.f0, .slice Ax x.f1.length cx] : List Value), q.oneCell' = true := fun q hq => by
            simp only [List.mem_cons, List.not_mem_nil, or_false] at hq
            rcases hq with rfl | rfl <;> rfl
          have HSO := Aside0.mk hso
          have HSS := Aside0.mk hsst
          have HS1 := Aside0.mk hs1
          clear hso hsst hs1
          go_wp2_with (first | (go_at_fn g; refine (HCL.out _ ((Below.refl _ wr).alloc (Nat.le_refl _) _)).mono ?_; rintro e w2 ⟨rfl, hb2⟩; have hbx := blk_below (blk_new wr (.cells #[.int .i64 x.f0, .slice Ax x.f1.length cx] 46 (0, 0))) hb2; have y0 := (blk_cell hbx 0).trans rfl; have y1 := (blk_cell hbx 1).trans rfl; have HB2 := Aside0.mk (((Below.refl _ wr).alloc (Nat.le_refl _) _).trans (hb2.mono (by simp))); clear hb2 hbx) | ((with_reducible refine gate_store (t := 46) (p := 33) rfl ?_); obtain ⟨ci, hcil, _, hcic, _⟩ := Kd.N_elem (Kd.N_below HN.out HB2.out) z46 (i : Int) (Int.natCast_nonneg _) hilz; refine Kd.N_store k46 (w0 := wb) wb.heap.size rfl rfl 46 (.tmp 33) (.tmp 32) rfl 46 (i : Int) 0 cur x (.agg #[.int .i64 x.f0, .slice Ax x.f1.length cx]) [.int .i64 x.f0, .slice Ax x.f1.length cx] ci (fun z => wb.heap.size ≤ z) (fun z => wb.heap.size ≤ z ∧ z ≠ g0) rfl HSO.out rfl rfl HSS.out HS1.out (Kd.N_below HN.out HB2.out) (Int.natCast_nonneg _) hilz hcil hcic (Nat.le_refl 2) (two_seg hcil (Kd.FK_below HFK.out HB2.out)) (fun _ hz => hz) (HB.out.trans (HB2.out.mono HB.out.size)) ?_; intro w3 hn3 hb3 hg3; have HN3 := Aside0.mk hn3; have HB3 := Aside0.mk hb3; clear hn3 hb3 hg3))
          go_roundg (l.length - (j + 1))
          case measure => exact om2 hlt hg
          case rel => exact ⟨i + 1, j + 1, cur.set i x, om7 hij, hlt, Nat.le_refl _, by congr 1; (try exact om3 hil (Nat.le_trans hl (by decide))), by congr 1; (try exact om3 hlt (Nat.le_trans hl (by decide))), ⟨by rw [List.length_set]; exact HL.out⟩, ⟨by rw [drop_set_lt _ _ _ _ (om8 hij)]; exact HDN.out⟩, ⟨⟨r1, HR1.out, by rw [take_set_same _ _ _ (by rw [HL.out]; exact hil), List.append_assoc]; exact HRR.out⟩⟩, ⟨by have := HN3.out; rwa [Int.toNat_natCast] at this⟩, HB3⟩
      · have hjl : j = l.length := Nat.le_antisymm hj (Nat.le_of_not_lt hlt)
        have hltz : ¬ (j : Int) < (l.length : Int) := fun e => hlt (Int.ofNat_lt.1 e)
        obtain ⟨rest, hrest, hr⟩ := HR.out
        rw [hjl, List.drop_length] at hrest
        obtain rfl := Option.some.inj hrest
        rw [List.append_nil] at hr
        have hil : i < l.length := by omega
        have hrl : r.length = i := by rw [hr, List.length_take, HL.out]; exact Nat.min_eq_left (Nat.le_of_lt hil)
        have HRr := Aside0.mk hr
        have HRl := Aside0.mk hrl
        clear hr hrl HR HD hrest hjl
        have hiz : (i : Int) ≤ (l.length : Int) := Int.ofNat_le.2 (Nat.le_of_lt hil)
        have hcut1 := cut_from (P := Tryz.prog) 51 46 .i64 Tryz.underlying51 hinf 2 hinf2 (some ⟨g0, 0, none⟩) l.length c (i : Int) (Int.natCast_nonneg _) hiz
        simp only [Int.toNat_natCast, if_neg (show ¬ c = i by omega), Option.map_some, add_at, Nat.zero_add] at hcut1
        have hcut2 := cut_to (P := Tryz.prog) 51 46 .i64 Tryz.underlying51 hinf (some ⟨g0, 0, none⟩) l.length c (i : Int) (Int.natCast_nonneg _) hiz hlc
        simp only [Int.toNat_natCast] at hcut2
        obtain ⟨m, hm⟩ := om9 hil
        rw [hm] at hcut1
        have hNi := Kd.N_take HN.out (show i ≤ cur.length by rw [HL.out]; exact Nat.le_of_lt hil)
        rw [← HRr.out] at hNi
        obtain ⟨curA, hcurA, hsz, hst⟩ : ∃ curA, wr.heap[g0]? = some (.cells curA 46 (0, 0)) ∧ curA.size = c * 2 ∧ l.length ≤ c := by
          obtain ⟨_, rows, hrl2, ⟨_, inner, ho, _⟩, _⟩ := HN.out
          rcases ho.2 with ⟨hv, _⟩ | ⟨g', cap', cur0, hv, hbase, hb0, h1, h2, h3, h4⟩
          · cases hv
          · injection hv with hA hn hc
            injection hA with hA
            injection hA with hA
            subst hA; subst hc
            exact ⟨cur0, hb0, h3, hlc⟩
        have hz2 := zero_cells2 (.int .i64 0) (.slice none 0 0) (m + 1)
        have hclr : ∀ ty cc, (Builtin.clear_ #[51] ty #[.slice (some ⟨g0, i * 2, none⟩) (m + 1) cc]).run Tryz.prog wr = .ok (.tuple #[]) (wr.setRow g0 (curA.toList.take (i * 2) ++ (Builtin.zeroCells #[.int .i64 0, .slice none 0 0] (m + 1)).toList ++ curA.toList.drop (i * 2 + (Builtin.zeroCells #[.int .i64 0, .slice none 0 0] (m + 1)).toList.length)).toArray) := by
          intro ty cc
          exact run_clear_n wr _ 46 ty m _ _ Tryz.underlying51 zeroG rfl (by intro u hu; rcases hz2.2 u hu with rfl | rfl <;> rfl) g0 _ _ _ hcurA (by show i * 2 + (Builtin.zeroCells #[.int .i64 0, .slice none 0 0] (m + 1)).toList.length ≤ _; rw [hz2.1, hsz]; omega)
        have hNt := N_tail hNi hcurA (cur' := (curA.toList.take (i * 2) ++ (Builtin.zeroCells #[.int .i64 0, .slice none 0 0] (m + 1)).toList ++ curA.toList.drop (i * 2 + (Builtin.zeroCells #[.int .i64 0, .slice none 0 0] (m + 1)).toList.length)).toArray) (by rw [hz2.1]; simp [hsz, hz2.1]; omega) (by
          show List.take (i * 2) _ = List.take (i * 2) _
          rw [List.toList_toArray, List.append_assoc, List.take_append_of_le_length (by simp [hsz]; omega), List.take_take, Nat.min_self])
        have HNT := Aside0.mk hNt
        have HBT := Aside0.mk (below_setRow HB.out hg0 (curA.toList.take (i * 2) ++ (Builtin.zeroCells #[.int .i64 0, .slice none 0 0] (m + 1)).toList ++ curA.toList.drop (i * 2 + (Builtin.zeroCells #[.int .i64 0, .slice none 0 0] (m + 1)).toList.length)).toArray)
        generalize (curA.toList.take (i * 2) ++ (Builtin.zeroCells #[.int .i64 0, .slice none 0 0] (m + 1)).toList ++ curA.toList.drop (i * 2 + (Builtin.zeroCells #[.int .i64 0, .slice none 0 0] (m + 1)).toList.length)).toArray = rowz at hclr HNT HBT
        clear hNt hNi hcurA hsz hst hz2 hm
        go_wp2
        go_ret
        exact ⟨_, _, by rw [HRl.out]; rfl, by rw [HRl.out]; exact HNT.out, HBT.out⟩
set_option maxHeartbeats 1000000 in
theorem indexFunc_int (p : Int → Option Bool) (g : Nat) (lb : Array Value) (eg : ∀ args w, (callFunc g args).run Tryz.prog w = .ok (.enter g args) w)
    (A0 : Option Addr) (c0 : Nat) (l0 : List Int) (r : Int) (w : World) (hr0 : Kd.C (Kd.int .i64) w A0 l0.length l0) (hc0 : l0.length ≤ c0)
    (hp : PredK Tryz.prog g lb (Kd.int .i64) (fun c => c.getD 0 undef) w p) (h : idxO p l0 0 = some r) :
    Calls Tryz.prog 145 #[.slice A0 l0.length c0, .func (.func g) #[] lb] w fun e w' => e = .returned (.int .i64 r) ∧ Below w.heap.size w w' := by
  have hlen := hr0.2.1
  have HR0 := Aside0.mk hr0
  clear hr0
  have HP := Aside0.mk hp
  clear hp
  have H0 := Aside0.mk h
  clear h
  go_enter Tryz.func145, Tryz.ntmps145
  go_wp2
  go_loopg [5, 8] l0.length (fun gg _ s8 wr => ∃ kk : Nat, kk ≤ l0.length ∧ l0.length - kk ≤ gg ∧ s8 = .int .i64 kk ∧ Aside0 (Below w.heap.size w wr) ∧ Aside0 (idxO p (l0.drop kk) kk = some r))
  case atStart => exact ⟨0, Nat.zero_le _, by omega, rfl, ⟨Below.refl _ w⟩, H0⟩
  case round =>
    obtain ⟨kk, hkk, hg, rfl, BW, A⟩ := hrel
    by_cases hlt : kk < l0.length
    · have hltz : (kk : Int) < (l0.length : Int) := by omega
      obtain ⟨ad, c, e, _, hK, hcell⟩ := Kd.C_get HR0.out 0 (kk : Int) (by omega) hltz
      subst e
      have hK1 : c = [.int .i64 (l0.getD kk 0)] := hK
      subst hK1
      have l2 := (BW.out.cell (World.block_lt_of_cell? w _ (hcell 0 _ rfl))).trans (hcell 0 _ rfl)
      clear hcell
      obtain ⟨b, hb, h1, h2⟩ := idxO_step A.out (show l0[kk]? = some (l0.getD kk 0) by rw [List.getD_eq_getElem?_getD, List.getElem?_eq_getElem hlt]; rfl)
      have hcall := HP.out wr _ _ b BW.out hK hb
      have l3 : wr.cell? (ad.add kk) = some (.int .i64 (l0.getD kk 0)) := by simpa [show (Kd.int .i64).sz = 1 from rfl] using l2
      clear l2 hK
      generalize l0.getD kk 0 = y at l3 hcall hb
      have B := Aside0.mk hb
      clear hb
      cases b with
      | true =>
        have E := h1 rfl
        clear h1 h2
        have E' := Aside0.mk E
        clear E
        go_wp2_with (go_at_fn g; refine hcall.mono ?_; rintro e w' ⟨rfl, hb'⟩)
        go_ret
        exact ⟨ret_i E'.out.symm, hb'⟩
      | false =>
        have E := Aside0.mk (h2 rfl)
        clear h1 h2
        go_wp2_with (go_at_fn g; refine hcall.mono ?_; rintro e w' ⟨rfl, hb'⟩)
        go_roundg (l0.length - (kk + 1))
        case measure => omega
        case rel => exact ⟨kk + 1, by omega, by omega, by go_num, ⟨hb'⟩, E⟩
    · have hltz : ¬ (kk : Int) < (l0.length : Int) := by omega
      have : kk = l0.length := by omega
      subst this
      go_wp2
      go_ret
      refine ⟨?_, BW.out⟩
      have h3 := A.out
      rw [List.drop_length] at h3
      have h4 : (-1 : Int) = r := by simpa [idxO] using h3
      exact ret_i h4
set_option maxHeartbeats 1000000 in
theorem containsFunc_int (p : Int → Option Bool) (g : Nat) (lb : Array Value) (eg : ∀ args w, (callFunc g args).run Tryz.prog w = .ok (.enter g args) w)
    (A0 : Option Addr) (c0 : Nat) (l0 : List Int) (r : Bool) (w : World) (hr0 : Kd.C (Kd.int .i64) w A0 l0.length l0) (hc0 : l0.length ≤ c0)
    (hp : PredK Tryz.prog g lb (Kd.int .i64) (fun c => c.getD 0 undef) w p) (h : anyO p l0 = some r) :
    Calls Tryz.prog 126 #[.slice A0 l0.length c0, .func (.func g) #[] lb] w fun e w' => e = .returned (.bool r) ∧ Below w.heap.size w w' := by
  obtain ⟨i, hi, rfl⟩ := anyO_idxO p l0 0 r h
  have hcon := indexFunc_int p g lb eg A0 c0 l0 i w hr0 hc0 hp hi
  clear hr0 hp h hi
  go_enter Tryz.func126, Tryz.ntmps126
  go_wp2_with (go_at_call 145; refine hcon.mono ?_; rintro e w' ⟨rfl, hb'⟩)
  go_ret
  exact ⟨rfl, hb'⟩
set_option maxHeartbeats 1000000 in
theorem impl_votesBy_11.pred (mask : Int) (b1 : Nat) (w : World) (h1 : w.cell? ⟨b1, 0, none⟩ = some (.int .i64 mask)) :
    PredK Tryz.prog 127 #[.pointer (some ⟨b1, 0, none⟩)] (Kd.int .i64) (fun c => c.getD 0 undef) w (fun m => some (Go.bits .and .i64 mask m == m)) := by
  intro W x c b hb hK hp
  have hK1 : c = [.int .i64 x] := hK
  subst hK1
  show Calls Tryz.prog 127 #[.int .i64 x, .pointer (some ⟨b1, 0, none⟩)] W _
  have q1 := (hb.cell (World.block_lt_of_cell? w _ h1)).trans h1
  have hB := Aside0.mk hb
  have hE := Aside0.mk (Option.some.inj hp)
  clear h1 hb hK hp
  go_enter Tryz.func127, Tryz.ntmps127
  go_wp2
  go_ret
  exact ⟨ret_b hE.out, hB.out⟩
set_option maxHeartbeats 1000000 in
theorem impl_votesBy_1.pred (l : List Int) (A : Option Addr) (c b1 : Nat) (w : World) (h1 : w.cell? ⟨b1, 0, none⟩ = some (.slice A l.length c)) (hC : Kd.C (Kd.int .i64) w A l.length l) (hc : l.length ≤ c) :
    PredI Tryz.prog 125 #[] #[.pointer (some ⟨b1, 0, none⟩)] w (fun mask => anyO (fun m => some (Go.bits .and .i64 mask m == m)) l) := by
  intro W x b hb hp
  show Calls Tryz.prog 125 #[.int .i64 x, .pointer (some ⟨b1, 0, none⟩)] W _
  have eg : ∀ args w, (callFunc 127 args).run Tryz.prog w = .ok (.enter 127 args) w := enters_of Tryz.func127 (by kernel_rfl) rfl
  have q1 := (hb.cell (World.block_lt_of_cell? w _ h1)).trans h1
  have hR := Aside0.mk (Kd.C_below hC hb)
  have hE := Aside0.mk hp
  clear h1 hb hC hp
  have q2 : (W.alloc (.cells #[.int .i64 x] 3)).cell? ⟨b1, 0, none⟩ = some (.slice A l.length c) := (Below.cell ((Below.refl _ W).alloc (Nat.le_refl _) _) (World.block_lt_of_cell? W _ q1)).trans q1
  go_enter Tryz.func125, Tryz.ntmps125
  go_wp2_with fail
  refine (containsFunc_int (fun m => some (Go.bits .and .i64 x m == m)) 127 #[.pointer (some ⟨W.heap.size, 0, none⟩)] eg A c l b _ ?_ hc ?_ hE.out).mono ?_
  · exact Kd.C_below hR.out ((Below.refl _ W).alloc (Nat.le_refl _) _)
  · exact impl_votesBy_11.pred x _ _ (by go_simp)
  · rintro e w' ⟨rfl, hb⟩
    go_wp2
    go_ret
    exact ⟨rfl, ((Below.refl _ W).alloc (Nat.le_refl _) _).trans (hb.mono (by simp))⟩
def votesOf_votesBy.f (k : Nat) (a0 : Int) (l1 : List Int) : Option (Int × List Bool) := impl_votesOf.f k a0 (fun mask => anyO (fun m => some (Go.bits .and .i64 mask m == m)) l1)
theorem votesOf_votesBy.calls (k : Nat) (a0 : Int) (A1 : Option Addr) (c1 : Nat) (l1 : List Int) (r1 : Int) (r2 : List Bool) (w : World) (hr1 : Kd.C (Kd.int .i64) w A1 l1.length l1) (hc1 : l1.length ≤ c1) (gb : Nat) (hcell : w.cell? ⟨gb, 0, none⟩ = some (.slice A1 l1.length c1)) (h : votesOf_votesBy.f k a0 l1 = some (r1, r2)) :
    Calls Tryz.prog 100 #[.int .i64 a0, .func (.func 125) #[] #[.pointer (some ⟨gb, 0, none⟩)]] w fun e w' => ∃ v1_ : Value, e = .returned (.agg #[.int .i64 r1, v1_]) ∧ Kd.R Kd.bool 4 w' w.heap.size (fun _ => True) v1_ r2 ∧ Below w.heap.size w w' :=
  impl_votesOf.calls k a0 _ 125 #[] #[.pointer (some ⟨gb, 0, none⟩)] (enters_of Tryz.func125 (by kernel_rfl) rfl) r1 r2 w (impl_votesBy_1.pred l1 A1 c1 gb w hcell hr1 hc1) h
end Go.Proofs.YtgjakcpbfbfejaaGreat.Q
end
section
namespace Go.Proofs.YtgjakcpbfbfejaaGreat.Q
open Go.RowKit Go.Proofs.YtgjakcpbfbfejaaGreatW.PrintWords Go.Proofs.YtgjakcpbfbfejaaGreatW.PrintLast Go.Proofs.YtgjakcpbfbfejaaGreatW.PrintMore
attribute [local go_sem] max2_int min2_int max_two min_two max_three min_three max_four min_four
set_option linter.unusedVariables false
set_option linter.unusedSimpArgs false
def impl_votesBy.l0 : Nat → Int → List (List Int) → Int → Int → List Int → Option (Int × List Bool)
 | 0, _, _, _, _, _ => none
 | k + 1, x0, x9, x10, x11, x295000 => if x11 < x10 then (if 0 ≤ x11 then (if x11 < (x9.length : Int) then ((impl_maskOf.f k (rd_L4 x9 x11)).bind fun t296 => (if x295000.length < 17592186044416 then (impl_votesBy.l0 k x0 x9 x10 (wrap64 (x11 + 1)) (x295000 ++ [t296])) else (none))) else (none)) else (none)) else ((votesOf_votesBy.f k x0 x295000).bind fun bt300 => (some (bt300.1, bt300.2)))
def impl_votesBy.f (k : Nat) (a0 : Int) (l1 : List (List Int)) : Option (Int × List Bool) := impl_votesBy.l0 k a0 l1 (l1.length : Int) 0 (([] : List Int))
set_option maxHeartbeats 8000000 in
set_option maxRecDepth 100000 in
theorem impl_votesBy.calls (k : Nat) (a0 : Int) (A1 : Option Addr) (c1 : Nat) (l1 : List (List Int)) (r1 : Int) (r2 : List Bool) (w : World) (hr1 : Kd.C (Kd.slice 3 (Kd.int .i64)) w A1 l1.length l1) (hc1 : l1.length ≤ c1) (h : impl_votesBy.f k a0 l1 = some (r1, r2)) :
  Calls Tryz.prog 107 #[.int .i64 a0, .slice A1 l1.length c1] w fun e w' => ∃ v1_ : Value, e = .returned (.agg #[.int .i64 r1, v1_]) ∧ Kd.R Kd.bool 4 w' w.heap.size (fun _ => True) v1_ r2 ∧ Below w.heap.size w w' := by
 have hu86 := Tryz.underlying86
 have HR1 := Aside0.mk hr1
 have HC1 := Aside0.mk hc1
 clear hr1 hc1
 have HB := Aside0.mk (Below.refl w.heap.size w)
 have H : (impl_votesBy.l0 k a0 l1 (l1.length : Int) 0 (([] : List Int))) = some (r1, r2) := h
 clear h
 obtain ⟨y291, hy291⟩ : ∃ y_ : List Int, y_ = (([] : List Int)) := ⟨_, rfl⟩
 replace H : (impl_votesBy.l0 k a0 l1 (l1.length : Int) 0 y291) = some (r1, r2) := by first | (rw [hy291]; with_reducible exact H) | (have H2_ := (Option.bind_some _ _).symm.trans H; rw [hy291]; with_reducible exact H2_) | (have H2_ := (Option.bind_some _ _).symm.trans H; with_reducible exact H2_) | with_reducible exact H | (rw [hy291]; exact H) | exact H
 have Ny291 := Aside0.mk hy291
 clear hy291
 have H' := Aside0.mk H
 clear H
 go_enter Tryz.func107, Tryz.ntmps107
 go_wp2_with (first | ((with_reducible refine gate_dst (N := 4) rfl ?_); refine box_event ?hg (N := 4) ?hd (cs := #[.int .i64 0, .slice none 0 0]) (t := 86) ?hr ?_; (case hd => rfl); (case hg => rfl); (case hr => first | (go_simp; done) | (go_simp; rfl)); intro gb290 hg w3 hbox hb; have n2_ := Aside0.mk ((by rw [hg]; exact (below_size (zh HB.out)) : w.heap.size ≤ gb290)); replace HB := Aside0.mk (below_step (zh HB.out) hb); have BK290 := Aside0.mk hbox; have GW290 := n2_; have GE290 := n2_; clear n2_ hb hbox hg) | ((with_reducible refine gate_dst (N := 8) rfl ?_); refine Kd.R_lit (Kd.int .i64) _ 3 ?hg (N := 8) ?hd (xs := ([] : List Int)) (inner := []) (ok := fun _ => True) (okp := fun _ => True) ?hr ?hp (fun _ hk => hk) trivial (Below.refl _ _) (Nat.le_refl _) (by simp) ?_; (case hd => rfl); (case hg => rfl); (case hr => first | (go_simp; done) | (go_simp; rfl)); (case hp => exact (Reps.none _ _)); intro v292 w4 ho5 hb hg_ hnew_; clear hg_ hnew_; (first | rw [← Ny291.out] at ho5 | (simp only [Int.reduceToNat] at ho5; rw [← Ny291.out] at ho5)); have n0_ := Aside0.mk (Kd.R_lower ho5 (below_size (zh HB.out))); have n1_ := Aside0.mk (blk_below (g := gb290) (o := .cells #[.int .i64 0, .slice none 0 0] 86 (0, 0)) (zb BK290.out) hb); have n2_ := Aside0.mk (below_step (zh HB.out) hb); clear BK290; clear HB; have HO293 := n0_; have BK290 := n1_; have HB := n2_; clear n0_ n1_ n2_; clear hb ho5) | ((with_reducible refine gate_dst (N := 5) rfl ?_); refine box_event ?hg (N := 5) ?hd (cs := #[.slice none 0 0]) (t := 36) ?hr ?_; (case hd => rfl); (case hg => rfl); (case hr => first | (go_simp; done) | (go_simp; rfl)); intro gb294 hg w6 hbox hb; have n0_ := Aside0.mk (Kd.R_below (zr HO293.out) hb); have n1_ := Aside0.mk (blk_below (g := gb290) (o := .cells #[.int .i64 0, .slice none 0 0] 86 (0, 0)) (zb BK290.out) hb); have n2_ := Aside0.mk (below_step (zh HB.out) hb); have n3_ := Aside0.mk (hbox); have n4_ := Aside0.mk ((by rw [hg]; exact (below_size (zh HB.out)) : w.heap.size ≤ gb294)); have n5_ := Aside0.mk ((by rw [hg]; exact (below_size (zh HB.out)) : w.heap.size ≤ gb294)); have n6_ := Aside0.mk ((by rw [hg]; exact Nat.ne_of_lt (blk_lt (g := gb290) (o := .cells #[.int .i64 0, .slice none 0 0] 86 (0, 0)) (zb BK290.out)) : gb290 ≠ gb294)); have n7_ := Aside0.mk ((by rw [hg]; exact Nat.ne_of_gt (blk_lt (g := gb290) (o := .cells #[.int .i64 0, .slice none 0 0] 86 (0, 0)) (zb BK290.out)) : gb294 ≠ gb290)); clear HO293; clear BK290; clear HB; have HO293 := n0_; have BK290 := n1_; have HB := n2_; have BK294 := n3_; have GW294 := n4_; have GE294 := n5_; have NB290_294 := n6_; have NB294_290 := n7_; clear n0_ n1_ n2_ n3_ n4_ n5_ n6_ n7_; clear hb hbox hg; obtain ⟨Ao7, co7, eo7⟩ := Kd.R_slice HO293.out; subst eo7; have hnb8 := NB294_290.out; have hnc8 := NB290_294.out; have hcz9_0 : w6.cell? ⟨gb294, 0, none⟩ = some (.slice none 0 0) := (blk_cell BK294.out 0).trans rfl; have hfz9_0 := blk_frozen BK294.out 0))
 go_loopg [11] k (fun kq v11 w' => ∃ (x11_1 : Int) (x295000_1 : List Int) (u295000 : Value), v11 = .int .i64 x11_1 ∧ Aside0 (impl_votesBy.l0 kq a0 l1 (l1.length : Int) x11_1 x295000_1 = some (r1, r2)) ∧ Aside0 (kq ≤ k) ∧ Aside0 (Kd.R (Kd.int .i64) 3 w' w.heap.size (fun _ => True) u295000 x295000_1) ∧ Aside0 (w'.heap[gb290]? = some (.cells #[.int .i64 0, (.slice none 0 0)] 86 (0, 0))) ∧ Aside0 (w'.heap[gb294]? = some (.cells #[u295000] 36 (0, 0))) ∧ Aside0 (Below w.heap.size w w'))
 case atStart => exact ⟨(0), (y291), (.slice Ao7 y291.length co7), (by first | rfl | (simp; done) | (simp [*]; done)), H', ⟨Nat.le_refl _⟩, ⟨by (with_reducible repeat (first | apply Kd.R_alloc | apply Kd.R_drewN | apply Kd.R_drew)); exact Kd.R_mono (Kd.R_far (p := ⟨gb294, 0, none⟩) (Kd.R_types HO293.out BK294.out (by decide)) (fun _ hk => hk.2) (.slice Ao7 y291.length co7)) (fun _ hk => trivial)⟩, ⟨by (with_reducible repeat (first | refine blk_drewN ?_ _ | refine blk_drew ?_ | refine blk_alloc ?_ _)); refine blk_far ?_ NB290_294.out _; (with_reducible repeat (first | refine blk_drewN ?_ _ | refine blk_drew ?_ | refine blk_alloc ?_ _)); exact BK290.out⟩, ⟨by (with_reducible repeat (first | refine blk_drewN ?_ _ | refine blk_drew ?_ | refine blk_alloc ?_ _)); refine blk_put (cs := #[.slice none 0 0]) ?_ 0 _ rfl; (with_reducible repeat (first | refine blk_drewN ?_ _ | refine blk_drew ?_ | refine blk_alloc ?_ _)); exact BK294.out⟩, ⟨zh HB.out⟩⟩
 case round =>
  clear H'
  try clear c1
  try clear p2
  try clear c8
  try clear hcz9_0
  try clear hfz9_0
  obtain ⟨x11_1, x295000_1, u295000, rfl, HA, HK1, HO_295000, BK290, BK294, HB⟩ := hrel
  cases gk with
  | zero => exact absurd HA.out (by simp [impl_votesBy.l0])
  | succ k1 =>
   have H := HA.out
   clear HA
   simp only [impl_votesBy.l0] at H
   by_cases c10 : x11_1 < (l1.length : Int)
   rotate_left
   ·rw [if_neg c10] at H
    have c10b0 : decide (x11_1 < (l1.length : Int)) = false := decide_eq_false c10
    clear c10
    replace H := Option.bind_eq_some_iff.mp H
    obtain ⟨⟨t300, t301⟩, A190, H⟩ := H
    replace H : (some (t300, t301)) = some (r1, r2) := H
    have A19 := Aside0.mk A190
    clear A190
    simp only [Option.some.injEq, Prod.mk.injEq] at H
    obtain ⟨rfl, rfl⟩ := H
    obtain ⟨Ao20, co20, eo20⟩ := Kd.R_slice HO_295000.out
    subst eo20
    go_wp2_with (first | ((with_reducible refine gate_callee (f := 100) rfl ?_); refine goesL_ (some 23) rfl rfl Tryz.func100 (by kernel_rfl) rfl #[.int .i64 a0, .func (.func 125) #[] #[.pointer (some ⟨gb294, 0, none⟩)]] rfl (by (try simp only [List.map_toArray, List.map_cons, List.map_nil]); first | done | rfl | (simp only [List.length_drop, List.length_take]; rfl)) ?_; (with_reducible refine (votesOf_votesBy.calls k1 a0 _ _ x295000_1 t300 t301 _ ?side1 ?side2 gb294 (by first | exact (blk_cell (zb BK294.out) 0).trans rfl | exact (blk_cell (blk_put (zb BK294.out) 0 _ rfl) 0).trans rfl | exact zb BK294.out) A19.out).mono ?_); (case side1 => repeat (first | exact (Kd.R_reads' HO_295000.out).2.2 | (with_reducible refine Kd.C_alloc ?_ _) | (with_reducible refine Kd.C_drewN ?_ _) | (with_reducible refine Kd.C_drew ?_))); (case side2 => exact (Kd.R_reads' HO_295000.out).2.1); rintro e w21 ⟨v302, rfl, ho0, hb⟩; refine ⟨_, rfl, ?_⟩; have n0_ := Aside0.mk (Kd.R_below (zr HO_295000.out) hb); have n1_ := Aside0.mk (Kd.R_lower ho0 (below_size (zh HB.out))); have n2_ := Aside0.mk (blk_below (g := gb290) (o := .cells #[.int .i64 0, .slice none 0 0] 86 (0, 0)) (zb BK290.out) hb); have n3_ := Aside0.mk (blk_below (g := gb294) (o := .cells #[.slice Ao20 x295000_1.length co20] 36 (0, 0)) (zb BK294.out) hb); have n4_ := Aside0.mk (below_step (zh HB.out) hb); clear HO_295000; clear BK290; clear BK294; clear HB; have HO_295000 := n0_; have HO303 := n1_; have BK290 := n2_; have BK294 := n3_; have HB := n4_; clear n0_ n1_ n2_ n3_ n4_; (try clear hb); (try clear hb2); (try clear hk); (try clear hi); (try clear ho0); have hnb22 := NB290_294.out; have hnc22 := NB294_290.out; have hcz23_0 : w21.cell? ⟨gb290, 0, none⟩ = some (.int .i64 0) := (blk_cell BK290.out 0).trans rfl; have hcz23_1 : w21.cell? ⟨gb290, 1, none⟩ = some (.slice none 0 0) := (blk_cell BK290.out 1).trans rfl; have hfz23_0 := blk_frozen BK290.out 0; have hfz23_1 := blk_frozen BK290.out 1; obtain ⟨Ao24, co24, eo24⟩ := Kd.R_slice HO303.out; subst eo24))
    refine bodyPost_ret (results_cell_row rfl _ _ gb290 86 #[.int .i64 t300, .slice Ao24 t301.length co24] (0, 0) _ rfl (by (with_reducible repeat (first | refine blk_drewN ?_ _ | refine blk_drew ?_ | refine blk_alloc ?_ _)); refine blk_put (cs := #[.int .i64 t300, .slice none 0 0]) ?_ 1 _ rfl; (with_reducible repeat (first | refine blk_drewN ?_ _ | refine blk_drew ?_ | refine blk_alloc ?_ _)); refine blk_put (cs := #[.int .i64 0, .slice none 0 0]) ?_ 0 _ rfl; (with_reducible repeat (first | refine blk_drewN ?_ _ | refine blk_drew ?_ | refine blk_alloc ?_ _)); exact BK290.out) Tryz.underlying86 rfl (by kernel_rfl)) rfl ?_
    exact ⟨_, by first | rfl | (simp [*, errW_none, errW_some] <;> rfl), by (with_reducible repeat (first | apply Kd.R_alloc | apply Kd.R_drewN | apply Kd.R_drew)); exact Kd.R_mono (Kd.R_far (p := ⟨gb290, 1, none⟩) (Kd.R_far (p := ⟨gb290, 0, none⟩) (Kd.R_types HO303.out BK290.out (by decide)) (fun _ hk => hk.2) (.int .i64 t300)) (fun _ hk => hk.2) (.slice Ao24 t301.length co24)) (fun _ hk => trivial), zh HB.out⟩
   rw [if_pos c10] at H
   have c10b0 : decide (x11_1 < (l1.length : Int)) = true := decide_eq_true c10
   clear c10
   by_cases c11 : 0 ≤ x11_1
   rotate_left
   ·rw [if_neg c11] at H
    exact absurd H (by simp)
   rw [if_pos c11] at H
   have c11b0 : decide (0 ≤ x11_1) = true := decide_eq_true c11
   clear c11
   by_cases c12 : x11_1 < (l1.length : Int)
   rotate_left
   ·rw [if_neg c12] at H
    exact absurd H (by simp)
   rw [if_pos c12] at H
   have c12b0 : decide (x11_1 < (l1.length : Int)) = true := decide_eq_true c12
   clear c12
   replace H := Option.bind_eq_some_iff.mp H
   obtain ⟨t296, A130, H⟩ := H
   replace H : (if x295000_1.length < 17592186044416 then (impl_votesBy.l0 k1 a0 l1 (l1.length : Int) (wrap64 (x11_1 + 1)) (x295000_1 ++ [t296])) else (none)) = some (r1, r2) := H
   have A13 := Aside0.mk A130
   clear A130
   by_cases c14 : x295000_1.length < 17592186044416
   rotate_left
   ·rw [if_neg c14] at H
    exact absurd H (by simp)
   rw [if_pos c14] at H
   have LMc14 := Aside0.mk c14
   clear c14
   obtain ⟨y297, hy297⟩ : ∃ y_ : List Int, y_ = (x295000_1 ++ [t296]) := ⟨_, rfl⟩
   replace H : (impl_votesBy.l0 k1 a0 l1 (l1.length : Int) (wrap64 (x11_1 + 1)) y297) = some (r1, r2) := by first | (rw [hy297]; with_reducible exact H) | (have H2_ := (Option.bind_some _ _).symm.trans H; rw [hy297]; with_reducible exact H2_) | (have H2_ := (Option.bind_some _ _).symm.trans H; with_reducible exact H2_) | with_reducible exact H | (rw [hy297]; exact H) | exact H
   have Ny297 := Aside0.mk hy297
   clear hy297
   have H' := Aside0.mk H
   clear H
   have p295 : 0 ≤ (x11_1 : Int) := of_decide_eq_true (by first | (with_reducible assumption) | assumption)
   have q295 : x11_1 < (l1.length : Int) := of_decide_eq_true (by first | (with_reducible assumption) | assumption)
   obtain ⟨ad295, A295_0, c295_0, e295, hx295_0, hl295_0, hi295_0⟩ := at_L4 HR1.out x11_1 p295 q295
   cases e295
   replace hx295_0 := (HB.out.cell (World.block_lt_of_cell? w _ hx295_0)).trans hx295_0
   have HR295_0 := Aside0.mk hi295_0
   have HC295_0 := Aside0.mk hl295_0
   clear hi295_0 hl295_0
   replace p295 := eq_true p295
   replace q295 := eq_true q295
   try go_wp2
   have n0_ := Aside0.mk (Kd.R_drew HO_295000.out)
   have n1_ := Aside0.mk (blk_drew BK290.out)
   have n2_ := Aside0.mk (blk_drew BK294.out)
   have n3_ := Aside0.mk (below_drew1 HB.out)
   clear HO_295000
   clear BK290
   clear BK294
   clear HB
   have HO_295000 := n0_
   have BK290 := n1_
   have BK294 := n2_
   have HB := n3_
   clear n0_ n1_ n2_ n3_
   refine start_ (n := 6) (S := fun w' => w'.cell? ⟨gb294, 0, none⟩ = some (u295000)) (ds := [5]) (tb 6 0) (by kernel_rfl) rfl rfl ((blk_cell BK294.out 0).trans rfl) (fun hHeld => ?_)
   generalize wr.drew = w15 at HO_295000 BK290 BK294 HB hHeld ⊢
   refine pure_ (i := 1) (N := some 16) (v := ?_) (a' := ?_) (tb 6 2) rfl rfl (by kernel_rfl) (fun _ _ _ h => h) (Or.inl ⟨by rfl, ?_⟩) ?_ ?_
   rotate_left
   ·intro w'
    go_simp
    with_reducible rfl
   rotate_left
   ·simp only [Act.put, List.setIfInBounds_toArray, List.set_cons_zero, List.set_cons_succ, i64_w, i32_w]
    rfl
   refine take_ (i := 0) (N := some 15) (v := ?_) (a' := ?_) (tb 6 3) rfl rfl (by kernel_rfl) (fun _ _ _ h => h) (Or.inl ⟨by rfl, ?_⟩) hHeld ?_ ?_
   rotate_left
   ·intro w' s0
    go_simp
    with_reducible rfl
   rotate_left
   ·simp only [Act.put, List.setIfInBounds_toArray, List.set_cons_zero, List.set_cons_succ, i64_w, i32_w]
    rfl
   refine one_ (i := 2) (N := some 17) (tb 6 7) rfl rfl (by kernel_rfl) (by decide) (fun K hK => ?_)
   refine goes_ Tryz.func124 (by kernel_rfl) rfl #[.slice A295_0 (rd_L4 l1 x11_1).length c295_0] (by rfl) rfl rfl (by (try simp only [List.map_toArray, List.map_cons, List.map_nil]); first | done | rfl | (simp only [List.length_drop, List.length_take]; rfl)) ?_
   with_reducible refine (impl_maskOf.calls k1 _ _ (rd_L4 l1 x11_1) t296 _ ?side1 ?side2 A13.out).mono ?_
   (case side1 => repeat (first | exact (Kd.C_below HR295_0.out HB.out) | (with_reducible refine Kd.C_alloc ?_ _) | (with_reducible refine Kd.C_drewN ?_ _) | (with_reducible refine Kd.C_drew ?_)))
   (case side2 => exact HC295_0.out)
   rintro e w' ⟨rfl, ⟨nd, rfl⟩⟩
   refine ⟨_, rfl, ?_⟩
   refine hK.out _ _ ((blk_cell BK294.out 0).trans rfl) (fun hHeld => ?_)
   clear hK K
   refine norm_ (a' := ?_) ?_ ?_
   rotate_left
   ·show Act.put _ (some 17) _ = _
    simp only [Act.put, List.setIfInBounds_toArray, List.set_cons_zero, List.set_cons_succ, i64_w, i32_w]
    rfl
   refine one_ (i := 3) (N := some 18) (tb 6 15) rfl rfl (by kernel_rfl) (by decide) (fun K hK => ?_)
   refine value_ (w1 := ?_) (v := ?_) (by rfl) rfl ?_ ?_
   rotate_left 2
   ·go_simp
    constructor
    ·rfl
    ·rfl
   refine hK.out _ _ ((blk_cell (blk_alloc BK294.out _) 0).trans rfl) (fun hHeld => ?_)
   clear hK K
   refine norm_ (a' := ?_) ?_ ?_
   rotate_left
   ·show Act.put _ (some 18) _ = _
    simp only [Act.put, List.setIfInBounds_toArray, List.set_cons_zero, List.set_cons_succ, i64_w, i32_w]
    rfl
   refine one_ (i := 4) (N := some 19) (tb 6 31) rfl rfl (by kernel_rfl) (by decide) (fun K hK => ?_)
   refine Kd.R_append_step (Kd.int .i64) (w0 := w) w.heap.size (by rfl) (.tmp 15) (.tmp 18) 36 3 (.int .i64 0) 8 rfl Tryz.underlying36 info3 rfl (by decide) (by omega) u295000 x295000_1 t296 [.int .i64 t296] (fun _ => True) (fun _ => False) rfl rfl ?aP (fun _ hk => hk.elim) ?aF ?aO ?aB ?aS ?aL ?_
   (case aP => exact rfl)
   (case aB => exact (zh HB.out))
   (case aF => exact (fun _ _ => trivial))
   (case aO => exact (zr HO_295000.out))
   (case aS => exact (below_size (zh HB.out)))
   (case aL => have := LMc14.out; omega)
   intro v298 w16 ho hb hg hat
   rw [← Ny297.out] at ho
   have n0_ := Aside0.mk (blk_grown (g := gb290) (o := .cells #[.int .i64 0, .slice none 0 0] 86 (0, 0)) (zb BK290.out) hg (Kd.R_ne HO_295000.out BK290.out (by decide)))
   have n1_ := Aside0.mk (blk_grown (g := gb294) (o := .cells #[u295000] 36 (0, 0)) (zb BK294.out) hg (Kd.R_ne HO_295000.out BK294.out (by decide)))
   have n2_ := Aside0.mk (hb)
   have n3_ := Aside0.mk (ho)
   clear BK290
   clear BK294
   clear HB
   clear HO_295000
   have BK290 := n0_
   have BK294 := n1_
   have HB := n2_
   have HO299 := n3_
   clear n0_ n1_ n2_ n3_
   clear ho hb hg hat
   obtain ⟨Ao17, co17, eo17⟩ := Kd.R_slice HO299.out
   (first | subst eo17 | (injection eo17 with f1_ f2_ f3_; have f4_ := f1_.symm; have f5_ := f3_.symm; clear f1_ f2_ f3_; subst f4_; subst f5_))
   refine hK.out _ _ ((blk_cell BK294.out 0).trans rfl) (fun hHeld => ?_)
   clear hK K
   refine norm_ (a' := ?_) ?_ ?_
   rotate_left
   ·show Act.put _ (some 19) _ = _
    simp only [Act.put, List.setIfInBounds_toArray, List.set_cons_zero, List.set_cons_succ, i64_w, i32_w]
    rfl
   refine last_ (i := 5) (N := none) (tb 6 63) rfl rfl (by kernel_rfl) (by decide) (fun K hK => ?_)
   have hs18 : w16.cell? ⟨gb294, 0, none⟩ = some (u295000) := (blk_cell BK294.out 0).trans rfl
   have hfs18 := blk_frozen BK294.out 0
   have hns18_0 := NB290_294.out
   have hms18_0 := NB294_290.out
   refine skip_ (w1 := ?_) (by rfl) rfl ?_ ?_
   rotate_left
   ·go_simp
    rfl
   refine hK.out _ _ ?_
   clear hK K
   refine done_ (by kernel_rfl) ?_
   try go_wp2
   go_roundg k1
   case measure => have := HK1.out; omega
   case rel => exact ⟨(wrap64 (x11_1 + 1)), (y297), (.slice Ao17 y297.length co17), (by first | rfl | (simp; done) | (simp [*]; done)), H', ⟨by have := HK1.out; omega⟩, ⟨by (with_reducible repeat (first | apply Kd.R_alloc | apply Kd.R_drewN | apply Kd.R_drew)); exact Kd.R_mono (Kd.R_far (p := ⟨gb294, 0, none⟩) (Kd.R_types HO299.out BK294.out (by decide)) (fun _ hk => hk.2) (.slice Ao17 y297.length co17)) (fun _ hk => trivial)⟩, ⟨by (with_reducible repeat (first | refine blk_drewN ?_ _ | refine blk_drew ?_ | refine blk_alloc ?_ _)); refine blk_far ?_ NB290_294.out _; (with_reducible repeat (first | refine blk_drewN ?_ _ | refine blk_drew ?_ | refine blk_alloc ?_ _)); exact BK290.out⟩, ⟨by (with_reducible repeat (first | refine blk_drewN ?_ _ | refine blk_drew ?_ | refine blk_alloc ?_ _)); refine blk_put (cs := #[u295000]) ?_ 0 _ rfl; (with_reducible repeat (first | refine blk_drewN ?_ _ | refine blk_drew ?_ | refine blk_alloc ?_ _)); exact BK294.out⟩, ⟨zh HB.out⟩⟩
def impl_Game_votes.f (k : Nat) (a0_0 : Int) (l0_1 : List (List Int)) : Option (Int × List Bool) := (impl_votesBy.f k a0_0 l0_1).bind fun bt306 => (some (bt306.1, bt306.2))
set_option maxHeartbeats 8000000 in
set_option maxRecDepth 100000 in
theorem impl_Game_votes.calls (k : Nat) (a0_0 : Int) (A0_1 : Option Addr) (c0_1 : Nat) (l0_1 : List (List Int)) (r1 : Int) (r2 : List Bool) (w : World) (hr0_1 : Kd.C (Kd.slice 3 (Kd.int .i64)) w A0_1 l0_1.length l0_1) (hc0_1 : l0_1.length ≤ c0_1) (h : impl_Game_votes.f k a0_0 l0_1 = some (r1, r2)) :
  Calls Tryz.prog 80 #[.agg #[.int .i64 a0_0, .slice A0_1 l0_1.length c0_1]] w fun e w' => ∃ v1_ : Value, e = .returned (.agg #[.int .i64 r1, v1_]) ∧ Kd.R Kd.bool 4 w' w.heap.size (fun _ => True) v1_ r2 ∧ Below w.heap.size w w' := by
 have hu46 := Tryz.underlying46
 have hu86 := Tryz.underlying86
 have HR0_1 := Aside0.mk hr0_1
 have HC0_1 := Aside0.mk hc0_1
 clear hr0_1 hc0_1
 have HB := Aside0.mk (Below.refl w.heap.size w)
 have H : ((impl_votesBy.f k a0_0 l0_1).bind fun bt306 => (some (bt306.1, bt306.2))) = some (r1, r2) := h
 clear h
 replace H := Option.bind_eq_some_iff.mp H
 obtain ⟨⟨t306, t307⟩, A20, H⟩ := H
 replace H : (some (t306, t307)) = some (r1, r2) := H
 have A2 := Aside0.mk A20
 clear A20
 simp only [Option.some.injEq, Prod.mk.injEq] at H
 obtain ⟨rfl, rfl⟩ := H
 go_enter Tryz.func80, Tryz.ntmps80
 go_wp2_with (first | ((with_reducible refine gate_dst (N := 1) rfl ?_); refine box_event ?hg (N := 1) ?hd (cs := #[.int .i64 a0_0, .slice A0_1 l0_1.length c0_1]) (t := 46) ?hr ?_; (case hd => rfl); (case hg => rfl); (case hr => first | (go_simp; done) | (go_simp; rfl)); intro gb304 hg w3 hbox hb; have n2_ := Aside0.mk ((by rw [hg]; exact (below_size (zh HB.out)) : w.heap.size ≤ gb304)); replace HB := Aside0.mk (below_step (zh HB.out) hb); have BK304 := Aside0.mk hbox; have GW304 := n2_; have GE304 := n2_; clear n2_ hb hbox hg) | ((with_reducible refine gate_dst (N := 2) rfl ?_); refine box_event ?hg (N := 2) ?hd (cs := #[.int .i64 0, .slice none 0 0]) (t := 86) ?hr ?_; (case hd => rfl); (case hg => rfl); (case hr => first | (go_simp; done) | (go_simp; rfl)); intro gb305 hg w4 hbox hb; have n0_ := Aside0.mk (blk_below (g := gb304) (o := .cells #[.int .i64 a0_0, .slice A0_1 l0_1.length c0_1] 46 (0, 0)) (zb BK304.out) hb); have n1_ := Aside0.mk (below_step (zh HB.out) hb); have n2_ := Aside0.mk (hbox); have n3_ := Aside0.mk ((by rw [hg]; exact (below_size (zh HB.out)) : w.heap.size ≤ gb305)); have n4_ := Aside0.mk ((by rw [hg]; exact (below_size (zh HB.out)) : w.heap.size ≤ gb305)); have n5_ := Aside0.mk ((by rw [hg]; exact Nat.ne_of_lt (blk_lt (g := gb304) (o := .cells #[.int .i64 a0_0, .slice A0_1 l0_1.length c0_1] 46 (0, 0)) (zb BK304.out)) : gb304 ≠ gb305)); have n6_ := Aside0.mk ((by rw [hg]; exact Nat.ne_of_gt (blk_lt (g := gb304) (o := .cells #[.int .i64 a0_0, .slice A0_1 l0_1.length c0_1] 46 (0, 0)) (zb BK304.out)) : gb305 ≠ gb304)); clear BK304; clear HB; have BK304 := n0_; have HB := n1_; have BK305 := n2_; have GW305 := n3_; have GE305 := n4_; have NB304_305 := n5_; have NB305_304 := n6_; clear n0_ n1_ n2_ n3_ n4_ n5_ n6_; clear hb hbox hg; have hnb5 := NB304_305.out; have hnc5 := NB305_304.out; have hcz6_0 : w4.cell? ⟨gb304, 0, none⟩ = some (.int .i64 a0_0) := (blk_cell BK304.out 0).trans rfl; have hcz6_1 : w4.cell? ⟨gb304, 1, none⟩ = some (.slice A0_1 l0_1.length c0_1) := (blk_cell BK304.out 1).trans rfl; have hfz6_0 := blk_frozen BK304.out 0; have hfz6_1 := blk_frozen BK304.out 1) | ((with_reducible refine gate_callee (f := 107) rfl ?_); refine goesL_ (some 7) rfl rfl Tryz.func107 (by kernel_rfl) rfl #[.int .i64 a0_0, .slice A0_1 l0_1.length c0_1] rfl (by (try simp only [List.map_toArray, List.map_cons, List.map_nil]); first | done | rfl | (simp only [List.length_drop, List.length_take]; rfl)) ?_; (with_reducible refine (impl_votesBy.calls k a0_0 _ _ l0_1 t306 t307 _ ?side1 ?side2 A2.out).mono ?_); (case side1 => repeat (first | exact (Kd.C_below HR0_1.out HB.out) | (with_reducible refine Kd.C_alloc ?_ _) | (with_reducible refine Kd.C_drewN ?_ _) | (with_reducible refine Kd.C_drew ?_))); (case side2 => exact HC0_1.out); rintro e w7 ⟨v308, rfl, ho0, hb⟩; refine ⟨_, rfl, ?_⟩; have n0_ := Aside0.mk (Kd.R_lower ho0 (below_size (zh HB.out))); have n1_ := Aside0.mk (blk_below (g := gb304) (o := .cells #[.int .i64 a0_0, .slice A0_1 l0_1.length c0_1] 46 (0, 0)) (zb BK304.out) hb); have n2_ := Aside0.mk (blk_below (g := gb305) (o := .cells #[.int .i64 0, .slice none 0 0] 86 (0, 0)) (zb BK305.out) hb); have n3_ := Aside0.mk (below_step (zh HB.out) hb); clear BK304; clear BK305; clear HB; have HO309 := n0_; have BK304 := n1_; have BK305 := n2_; have HB := n3_; clear n0_ n1_ n2_ n3_; (try clear hb); (try clear hb2); (try clear hk); (try clear hi); (try clear ho0); have hcz8_0 : w7.cell? ⟨gb305, 0, none⟩ = some (.int .i64 0) := (blk_cell BK305.out 0).trans rfl; have hcz8_1 : w7.cell? ⟨gb305, 1, none⟩ = some (.slice none 0 0) := (blk_cell BK305.out 1).trans rfl; have hfz8_0 := blk_frozen BK305.out 0; have hfz8_1 := blk_frozen BK305.out 1; obtain ⟨Ao9, co9, eo9⟩ := Kd.R_slice HO309.out; subst eo9))
 refine bodyPost_ret (results_cell_row rfl _ _ gb305 86 #[.int .i64 t306, .slice Ao9 t307.length co9] (0, 0) _ rfl (by (with_reducible repeat (first | refine blk_drewN ?_ _ | refine blk_drew ?_ | refine blk_alloc ?_ _)); refine blk_put (cs := #[.int .i64 t306, .slice none 0 0]) ?_ 1 _ rfl; (with_reducible repeat (first | refine blk_drewN ?_ _ | refine blk_drew ?_ | refine blk_alloc ?_ _)); refine blk_put (cs := #[.int .i64 0, .slice none 0 0]) ?_ 0 _ rfl; (with_reducible repeat (first | refine blk_drewN ?_ _ | refine blk_drew ?_ | refine blk_alloc ?_ _)); exact BK305.out) Tryz.underlying86 rfl (by kernel_rfl)) rfl ?_
 exact ⟨_, by first | rfl | (simp [*, errW_none, errW_some] <;> rfl), by (with_reducible repeat (first | apply Kd.R_alloc | apply Kd.R_drewN | apply Kd.R_drew)); exact Kd.R_mono (Kd.R_far (p := ⟨gb305, 1, none⟩) (Kd.R_far (p := ⟨gb305, 0, none⟩) (Kd.R_types HO309.out BK305.out (by decide)) (fun _ hk => hk.2) (.int .i64 t306)) (fun _ hk => hk.2) (.slice Ao9 t307.length co9)) (fun _ hk => trivial), zh HB.out⟩
end Go.Proofs.YtgjakcpbfbfejaaGreat.Q
end
section
namespace Go.Proofs.YtgjakcpbfbfejaaGreat.Q
open Go.RowKit Go.Proofs.YtgjakcpbfbfejaaGreatW.PrintWords Go.Proofs.YtgjakcpbfbfejaaGreatW.PrintLast Go.Proofs.YtgjakcpbfbfejaaGreatW.PrintMore
set_option linter.unusedVariables false
set_option linter.unusedSimpArgs false
set_option maxHeartbeats 1000000 in
theorem impl_allGames_1.pred (t : Int) (b1 : Nat) (w : World) (h1 : w.cell? ⟨b1, 0, none⟩ = some (.int .i64 t)) : PredI Tryz.prog 101 #[] #[.pointer (some ⟨b1, 0, none⟩)] w (fun mask => impl_has.f t mask) := by
  intro W x b hb hp
  show Calls Tryz.prog 101 #[.int .i64 x, .pointer (some ⟨b1, 0, none⟩)] W _
  have q1 := (hb.cell (World.block_lt_of_cell? w _ h1)).trans h1
  have hE := Aside0.mk hp
  clear h1 hb hp
  go_enter Tryz.func101, Tryz.ntmps101
  go_wp2_with (go_at_call 102; refine (impl_has.calls t x b _ hE.out).mono ?_; rintro e w' ⟨rfl, hq⟩; have HQ := Aside0.mk hq; clear hq)
  go_ret
  exact ⟨rfl, HQ.out.below⟩
def votesOf_allGames.f (k : Nat) (a0 t : Int) : Option (Int × List Bool) := impl_votesOf.f k a0 (fun mask => impl_has.f t mask)
theorem votesOf_allGames.mono : ∀ a0 t k, LeO (votesOf_allGames.f k a0 t) (votesOf_allGames.f (k + 1) a0 t) := fun a0 t k => impl_votesOf.mono a0 _ k
theorem votesOf_allGames.calls (k : Nat) (a0 t : Int) (r1 : Int) (r2 : List Bool) (w : World) (gb : Nat) (hcell : w.cell? ⟨gb, 0, none⟩ = some (.int .i64 t)) (h : votesOf_allGames.f k a0 t = some (r1, r2)) :
    Calls Tryz.prog 100 #[.int .i64 a0, .func (.func 101) #[] #[.pointer (some ⟨gb, 0, none⟩)]] w fun e w' => ∃ v1_ : Value, e = .returned (.agg #[.int .i64 r1, v1_]) ∧ Kd.R Kd.bool 4 w' w.heap.size (fun _ => True) v1_ r2 ∧ Below w.heap.size w w' :=
  impl_votesOf.calls k a0 _ 101 #[] #[.pointer (some ⟨gb, 0, none⟩)] (enters_of Tryz.func101 (by kernel_rfl) rfl) r1 r2 w (impl_allGames_1.pred t gb w hcell) h
theorem isLeast.predL (k : Nat) (n : Int) (A : Option Addr) (c : Nat) (l : List Bool) (w : World) (hC : Kd.C Kd.bool w A l.length l) (hc : l.length ≤ c) : PredI Tryz.prog 134 #[.agg #[.int .i64 n, .slice A l.length c]] #[] w (impl_votes_isLeast.f k n l) :=
  fun W x b hb hp => impl_votes_isLeast.calls k n A c l x b W (Kd.C_below hC hb) hc hp
def impl_votes_least.f (k : Nat) (n : Int) (l : List Bool) : Option (List (List Int)) := impl_votes_sets.f k n l (impl_votes_isLeast.f k n l)
theorem sets_pmono {p q : Int → Option Bool} (h : ∀ x, LeO (p x) (q x)) : ∀ k x5 x10 x11, LeO (impl_votes_sets.l0 p k x5 x10 x11) (impl_votes_sets.l0 q k x5 x10 x11)
  | 0, _, _, _ => fun r h => by simp [impl_votes_sets.l0] at h
  | k + 1, x5, x10, x11 => by
    unfold impl_votes_sets.l0
    refine LeO.ite (LeO.bind (h _) fun _ => LeO.ite (LeO.bind (LeO.refl _) fun _ => LeO.ite (sets_pmono h k _ _ _) (LeO.refl _)) (sets_pmono h k _ _ _)) (LeO.refl _)
theorem impl_votes_least.mono : ∀ n l k, LeO (impl_votes_least.f k n l) (impl_votes_least.f (k + 1) n l) := by
  intro n l k r hr
  have h1 := impl_votes_sets.mono n l (impl_votes_isLeast.f k n l) k r hr
  unfold impl_votes_least.f impl_votes_sets.f at *
  exact sets_pmono (fun x => impl_votes_isLeast.mono n l x k) _ _ _ _ _ h1
set_option maxHeartbeats 1000000 in
theorem impl_votes_least.calls (k : Nat) (n : Int) (A : Option Addr) (c : Nat) (l : List Bool) (r : List (List Int)) (w : World) (hC : Kd.C Kd.bool w A l.length l) (hc : l.length ≤ c) (h : impl_votes_least.f k n l = some r) :
    Calls Tryz.prog 120 #[.agg #[.int .i64 n, .slice A l.length c]] w fun e w' => ∃ v0_ : Value, e = .returned v0_ ∧ Kd.S (Kd.slice 3 (Kd.int .i64)) 36 w' w.heap.size (fun _ => True) v0_ r ∧ Below w.heap.size w w' := by
  have HC := Aside0.mk hC
  have HH := Aside0.mk h
  have u1 := Tryz.underlying86
  clear hC h
  go_enter Tryz.func120, Tryz.ntmps120
  go_wp2_with fail
  have hb : ∀ o : Obj, Below w.heap.size w (w.alloc o) := fun _ => (Below.refl _ w).alloc (Nat.le_refl _) _
  refine (impl_votes_sets.calls k n A c l _ 134 #[.agg #[.int .i64 n, .slice A l.length c]] #[] (enters_of Tryz.func134 (by kernel_rfl) rfl) r _ (isLeast.predL k n A c l _ (Kd.C_alloc HC.out _) hc) (Kd.C_alloc HC.out _) hc HH.out).mono ?_
  rintro e w1 ⟨v0, rfl, hS, hb1⟩
  have HS := Aside0.mk hS
  have HB := Aside0.mk hb1
  clear hS hb1
  go_wp2
  go_ret
  exact ⟨v0, rfl, Kd.S_lower HS.out (hb _).size, (hb _).trans (HB.out.mono (hb _).size)⟩
end Go.Proofs.YtgjakcpbfbfejaaGreat.Q
end
section
namespace Go.Proofs.YtgjakcpbfbfejaaGreat.Q
open Go.RowKit Go.Proofs.YtgjakcpbfbfejaaGreatW.PrintWords Go.Proofs.YtgjakcpbfbfejaaGreatW.PrintLast Go.Proofs.YtgjakcpbfbfejaaGreatW.PrintMore
attribute [local go_sem] max2_int min2_int max_two min_two max_three min_three max_four min_four
set_option linter.unusedVariables false
set_option linter.unusedSimpArgs false
def impl_votes_game.f (k : Nat) (a0_0 : Int) (l0_1 : List Bool) : Option (Int × (List (List Int))) := (impl_votes_least.f k a0_0 l0_1).bind fun t263 => (some (a0_0, t263))
theorem impl_votes_game.mono : ∀ a0 a1 k, LeO (impl_votes_game.f k a0 a1) (impl_votes_game.f (k + 1) a0 a1) := by
 intro a0 a1 k
 unfold impl_votes_game.f
 repeat' first
   | (with_reducible exact impl_votes_least.mono _ _ _)
   | (with_reducible exact LeO.refl _)
   | (with_reducible exact LeO.none _)
   | (with_reducible refine LeO.ite ?_ ?_)
   | (with_reducible refine LeO.bind ?_ (fun _ => ?_))
   | exact impl_votes_least.mono _ _ _
   | exact LeO.none _
   | refine LeO.ite ?_ ?_
   | refine LeO.bind ?_ (fun _ => ?_)
set_option maxHeartbeats 8000000 in
set_option maxRecDepth 100000 in
theorem impl_votes_game.calls (k : Nat) (a0_0 : Int) (A0_1 : Option Addr) (c0_1 : Nat) (l0_1 : List Bool) (r1 : Int) (r2 : List (List Int)) (w : World) (hr0_1 : Kd.C Kd.bool w A0_1 l0_1.length l0_1) (hc0_1 : l0_1.length ≤ c0_1) (h : impl_votes_game.f k a0_0 l0_1 = some (r1, r2)) :
  Calls Tryz.prog 104 #[.agg #[.int .i64 a0_0, .slice A0_1 l0_1.length c0_1]] w fun e w' => ∃ v1_ : Value, e = .returned (.agg #[.int .i64 r1, v1_]) ∧ Kd.S (Kd.slice 3 (Kd.int .i64)) 36 w' w.heap.size (fun _ => True) v1_ r2 ∧ Below w.heap.size w w' := by
 have hu86 := Tryz.underlying86
 have hu46 := Tryz.underlying46
 have HR0_1 := Aside0.mk hr0_1
 have HC0_1 := Aside0.mk hc0_1
 clear hr0_1 hc0_1
 have HB := Aside0.mk (Below.refl w.heap.size w)
 have H : ((impl_votes_least.f k a0_0 l0_1).bind fun t263 => (some (a0_0, t263))) = some (r1, r2) := h
 clear h
 replace H := Option.bind_eq_some_iff.mp H
 obtain ⟨t263, A20, H⟩ := H
 replace H : (some (a0_0, t263)) = some (r1, r2) := H
 have A2 := Aside0.mk A20
 clear A20
 simp only [Option.some.injEq, Prod.mk.injEq] at H
 obtain ⟨rfl, rfl⟩ := H
 go_enter Tryz.func104, Tryz.ntmps104
 try go_wp2_with (first | ((with_reducible refine gate_dst (N := 1) rfl ?_); refine box_event ?hg (N := 1) ?hd (cs := #[.int .i64 a0_0, .slice A0_1 l0_1.length c0_1]) (t := 86) ?hr ?_; (case hd => rfl); (case hg => rfl); (case hr => first | (go_simp; done) | (go_simp; rfl)); intro gb261 hg w3 hbox hb; have n2_ := Aside0.mk ((by rw [hg]; exact (below_size (zh HB.out)) : w.heap.size ≤ gb261)); replace HB := Aside0.mk (below_step (zh HB.out) hb); have BK261 := Aside0.mk hbox; have GW261 := n2_; have GE261 := n2_; clear n2_ hb hbox hg) | ((with_reducible refine gate_dst (N := 2) rfl ?_); refine box_event ?hg (N := 2) ?hd (cs := #[.int .i64 0, .slice none 0 0]) (t := 46) ?hr ?_; (case hd => rfl); (case hg => rfl); (case hr => first | (go_simp; done) | (go_simp; rfl)); intro gb262 hg w4 hbox hb; have n0_ := Aside0.mk (blk_below (g := gb261) (o := .cells #[.int .i64 a0_0, .slice A0_1 l0_1.length c0_1] 86 (0, 0)) (zb BK261.out) hb); have n1_ := Aside0.mk (below_step (zh HB.out) hb); have n2_ := Aside0.mk (hbox); have n3_ := Aside0.mk ((by rw [hg]; exact (below_size (zh HB.out)) : w.heap.size ≤ gb262)); have n4_ := Aside0.mk ((by rw [hg]; exact (below_size (zh HB.out)) : w.heap.size ≤ gb262)); have n5_ := Aside0.mk ((by rw [hg]; exact Nat.ne_of_lt (blk_lt (g := gb261) (o := .cells #[.int .i64 a0_0, .slice A0_1 l0_1.length c0_1] 86 (0, 0)) (zb BK261.out)) : gb261 ≠ gb262)); have n6_ := Aside0.mk ((by rw [hg]; exact Nat.ne_of_gt (blk_lt (g := gb261) (o := .cells #[.int .i64 a0_0, .slice A0_1 l0_1.length c0_1] 86 (0, 0)) (zb BK261.out)) : gb262 ≠ gb261)); clear BK261; clear HB; have BK261 := n0_; have HB := n1_; have BK262 := n2_; have GW262 := n3_; have GE262 := n4_; have NB261_262 := n5_; have NB262_261 := n6_; clear n0_ n1_ n2_ n3_ n4_ n5_ n6_; clear hb hbox hg))
 have n0_ := Aside0.mk (blk_drew BK261.out)
 have n1_ := Aside0.mk (blk_drew BK262.out)
 have n2_ := Aside0.mk (below_drew1 HB.out)
 clear BK261
 clear BK262
 clear HB
 have BK261 := n0_
 have BK262 := n1_
 have HB := n2_
 clear n0_ n1_ n2_
 refine start_ (n := 6) (S := fun w' => w'.cell? ⟨gb261, 0, none⟩ = some (.int .i64 a0_0) ∧ w'.cell? ⟨gb261, 1, none⟩ = some (.slice A0_1 l0_1.length c0_1)) (ds := []) (tb 6 0) (by kernel_rfl) rfl rfl ⟨(blk_cell BK261.out 0).trans rfl, (blk_cell BK261.out 1).trans rfl⟩ (fun hHeld => ?_)
 generalize w4.drew = w5 at BK261 BK262 HB hHeld ⊢
 refine pure_ (i := 0) (N := some 3) (v := ?_) (a' := ?_) (tb 6 1) rfl rfl (by kernel_rfl) (fun _ _ _ h => h) (Or.inl ⟨by rfl, ?_⟩) ?_ ?_
 rotate_left
 ·intro w'
  go_simp
  with_reducible rfl
 rotate_left
 ·simp only [Act.put, List.setIfInBounds_toArray, List.set_cons_zero, List.set_cons_succ, i64_w, i32_w]
  rfl
 refine take_ (i := 1) (N := some 4) (v := ?_) (a' := ?_) (tb 6 3) rfl rfl (by kernel_rfl) (fun _ _ _ h => h) (Or.inl ⟨by rfl, ?_⟩) hHeld ?_ ?_
 rotate_left
 ·rintro w' ⟨s0, s1⟩
  go_simp
  with_reducible rfl
 rotate_left
 ·simp only [Act.put, List.setIfInBounds_toArray, List.set_cons_zero, List.set_cons_succ, i64_w, i32_w]
  rfl
 refine take_ (i := 2) (N := some 5) (v := ?_) (a' := ?_) (tb 6 7) rfl rfl (by kernel_rfl) (fun _ _ _ h => h) (Or.inl ⟨by rfl, ?_⟩) hHeld ?_ ?_
 rotate_left
 ·rintro w' ⟨s0, s1⟩
  go_simp
  with_reducible rfl
 rotate_left
 ·simp only [Act.put, List.setIfInBounds_toArray, List.set_cons_zero, List.set_cons_succ, i64_w, i32_w]
  rfl
 refine one_ (i := 3) (N := some 6) (tb 6 15) rfl rfl (by kernel_rfl) (by decide) (fun K hK => ?_)
 refine goes_ Tryz.func120 (by kernel_rfl) rfl #[.agg #[.int .i64 a0_0, .slice A0_1 l0_1.length c0_1]] (by rfl) rfl rfl (by (try simp only [List.map_toArray, List.map_cons, List.map_nil]); first | done | rfl | (simp only [List.length_drop, List.length_take]; rfl)) ?_
 with_reducible refine (impl_votes_least.calls k a0_0 _ _ l0_1 t263 _ ?side1 ?side2 A2.out).mono ?_
 (case side1 => repeat (first | exact (Kd.C_below HR0_1.out HB.out) | (with_reducible refine Kd.C_alloc ?_ _) | (with_reducible refine Kd.C_drewN ?_ _) | (with_reducible refine Kd.C_drew ?_)))
 (case side2 => exact HC0_1.out)
 rintro e w6 ⟨v264, rfl, ho0, hb⟩
 refine ⟨_, rfl, ?_⟩
 have n0_ := Aside0.mk (Kd.S_lower ho0 (below_size (zh HB.out)))
 have n1_ := Aside0.mk (blk_below (g := gb261) (o := .cells #[.int .i64 a0_0, .slice A0_1 l0_1.length c0_1] 86 (0, 0)) (zb BK261.out) hb)
 have n2_ := Aside0.mk (blk_below (g := gb262) (o := .cells #[.int .i64 0, .slice none 0 0] 46 (0, 0)) (zb BK262.out) hb)
 have n3_ := Aside0.mk (below_step (zh HB.out) hb)
 clear BK261
 clear BK262
 clear HB
 have HO265 := n0_
 have BK261 := n1_
 have BK262 := n2_
 have HB := n3_
 clear n0_ n1_ n2_ n3_
 (try clear hb)
 (try clear hb2)
 (try clear hk)
 (try clear hi)
 (try clear ho0)
 obtain ⟨Ao7, co7, eo7⟩ := Kd.S_slice HO265.out
 (first | subst eo7 | (injection eo7 with f1_ f2_ f3_; have f4_ := f1_.symm; have f5_ := f3_.symm; clear f1_ f2_ f3_; subst f4_; subst f5_))
 refine hK.out _ _ ⟨(blk_cell BK261.out 0).trans rfl, (blk_cell BK261.out 1).trans rfl⟩ (fun hHeld => ?_)
 clear hK K
 refine norm_ (a' := ?_) ?_ ?_
 rotate_left
 ·show Act.put _ (some 6) _ = _
  simp only [Act.put, List.setIfInBounds_toArray, List.set_cons_zero, List.set_cons_succ, i64_w, i32_w]
  rfl
 refine pure_ (i := 4) (N := some 7) (v := ?_) (a' := ?_) (tb 6 31) rfl rfl (by kernel_rfl) (fun _ _ _ h => h) (Or.inl ⟨by rfl, ?_⟩) ?_ ?_
 rotate_left
 ·intro w'
  go_simp
  with_reducible rfl
 rotate_left
 ·simp only [Act.put, List.setIfInBounds_toArray, List.set_cons_zero, List.set_cons_succ, i64_w, i32_w]
  rfl
 refine one_ (i := 5) (N := none) (tb 6 63) rfl rfl (by kernel_rfl) (by decide) (fun K hK => ?_)
 have hs8 : w6.cell? ⟨gb262, 0, none⟩ = some (.int .i64 0) := (blk_cell BK262.out 0).trans rfl
 have hfs8 := blk_frozen BK262.out 0
 have hns8_0 := NB261_262.out
 have hms8_0 := NB262_261.out
 have hs9 : w6.cell? ⟨gb262, 1, none⟩ = some (.slice none 0 0) := (blk_cell BK262.out 1).trans rfl
 have hfs9 := blk_frozen BK262.out 1
 have hns9_0 := NB261_262.out
 have hms9_0 := NB262_261.out
 refine skip_ (w1 := ?_) (by rfl) rfl ?_ ?_
 rotate_left
 ·go_simp
  rfl
 refine hK.out _ _ ⟨((cell_far (p := ⟨gb262, _, none⟩) NB261_262.out _).trans (((cell_far (p := ⟨gb262, _, none⟩) NB261_262.out _).trans (hHeld.1)))), ((cell_far (p := ⟨gb262, _, none⟩) NB261_262.out _).trans (((cell_far (p := ⟨gb262, _, none⟩) NB261_262.out _).trans (hHeld.2))))⟩ (fun hHeld => ?_)
 clear hK K
 refine done_ (by kernel_rfl) ?_
 try go_wp2
 refine bodyPost_ret (results_cell_row rfl _ _ gb262 46 #[.int .i64 a0_0, .slice Ao7 t263.length co7] (0, 0) _ rfl (by (with_reducible repeat (first | refine blk_drewN ?_ _ | refine blk_drew ?_ | refine blk_alloc ?_ _)); refine blk_put (cs := #[.int .i64 a0_0, .slice none 0 0]) ?_ 1 _ rfl; (with_reducible repeat (first | refine blk_drewN ?_ _ | refine blk_drew ?_ | refine blk_alloc ?_ _)); refine blk_put (cs := #[.int .i64 0, .slice none 0 0]) ?_ 0 _ rfl; (with_reducible repeat (first | refine blk_drewN ?_ _ | refine blk_drew ?_ | refine blk_alloc ?_ _)); exact BK262.out) Tryz.underlying46 rfl (by kernel_rfl)) rfl ?_
 exact ⟨_, by first | rfl | (simp [*, errW_none, errW_some] <;> rfl), by (with_reducible repeat (first | apply Kd.S_alloc | apply Kd.S_drewN | apply Kd.S_drew)); exact Kd.S_mono (Kd.S_far (p := ⟨gb262, 1, none⟩) (Kd.S_far (p := ⟨gb262, 0, none⟩) (Kd.S_types HO265.out BK262.out (by decide)) (fun _ hk => hk.2) (.int .i64 a0_0)) (fun _ hk => hk.2) (.slice Ao7 t263.length co7)) (fun _ hk => trivial), zh HB.out⟩
end Go.Proofs.YtgjakcpbfbfejaaGreat.Q
end
section
namespace Go.Proofs.YtgjakcpbfbfejaaGreat.Q
open Go.RowKit Go.Proofs.YtgjakcpbfbfejaaGreatW.PrintWords Go.Proofs.YtgjakcpbfbfejaaGreatW.PrintLast Go.Proofs.YtgjakcpbfbfejaaGreatW.PrintMore
set_option linter.unusedVariables false
set_option linter.unusedSimpArgs false
def lexG : List (List Int) → List (List Int) → Bool
  | [], [] => false
  | [], _ :: _ => true
  | _ :: _, [] => false
  | x :: xs, y :: ys => if x = y then lexG xs ys else lexB x y
def cmpG : List (List Int) → List (List Int) → Int
  | [], [] => 0
  | [], _ :: _ => -1
  | _ :: _, [] => 1
  | x :: xs, y :: ys => if x = y then cmpG xs ys else cmpL x y
theorem cmpG_lt : ∀ a b, decide (cmpG a b < 0) = lexG a b
  | [], [] => rfl
  | [], _ :: _ => rfl
  | _ :: _, [] => rfl
  | x :: xs, y :: ys => by
    unfold cmpG lexG
    by_cases h : x = y
    · rw [if_pos h, if_pos h]; exact cmpG_lt xs ys
    · rw [if_neg h, if_neg h]; exact cmpL_lt x y
theorem cmpL_zero : ∀ a b, cmpL a b = 0 ↔ a = b
  | [], [] => by simp [cmpL]
  | [], _ :: _ => by simp [cmpL]
  | _ :: _, [] => by simp [cmpL]
  | x :: xs, y :: ys => by
    unfold cmpL
    by_cases h : x = y
    · subst h; rw [if_pos rfl, cmpL_zero xs ys]; simp
    · rw [if_neg h]
      by_cases h2 : x < y
      · rw [if_pos h2]; simp [h]
      · rw [if_neg h2]; simp [h]
theorem lexG_irrefl : ∀ a, lexG a a = false
  | [] => rfl
  | x :: xs => by rw [lexG, if_pos rfl]; exact lexG_irrefl xs
theorem lexG_trans : ∀ a b c, lexG a b = true → lexG b c = true → lexG a c = true
  | [], [], _, h, _ => by cases h
  | [], _ :: _, [], _, h => by cases h
  | [], _ :: _, _ :: _, _, _ => rfl
  | _ :: _, [], _, h, _ => by cases h
  | _ :: _, _ :: _, [], _, h => by cases h
  | x :: xs, y :: ys, z :: zs, h1, h2 => by
    rw [lexG] at h1 h2 ⊢
    by_cases e1 : x = y
    · subst e1
      rw [if_pos rfl] at h1
      by_cases e2 : x = z
      · subst e2
        rw [if_pos rfl] at h2 ⊢
        exact lexG_trans xs ys zs h1 h2
      · rw [if_neg e2] at h2 ⊢; exact h2
    · rw [if_neg e1] at h1
      by_cases e2 : y = z
      · subst e2
        rw [if_neg e1]; exact h1
      · rw [if_neg e2] at h2
        have h3 := lexB_trans _ _ _ h1 h2
        rw [if_neg (fun e => by subst e; rw [lexB_irrefl] at h3; cases h3)]
        exact h3
theorem lexG_total : ∀ a b, lexG a b = false → lexG b a = false → a = b
  | [], [], _, _ => rfl
  | [], _ :: _, h, _ => by cases h
  | _ :: _, [], _, h => by cases h
  | x :: xs, y :: ys, h1, h2 => by
    rw [lexG] at h1 h2
    by_cases e : x = y
    · subst e
      rw [if_pos rfl] at h1 h2
      rw [lexG_total xs ys h1 h2]
    · rw [if_neg e] at h1
      rw [if_neg (fun q => e q.symm)] at h2
      exact absurd (lexB_total _ _ h1 h2) e
theorem lexG_asymm {a b : List (List Int)} (h : lexG a b = true) : lexG b a = false := by
  cases h2 : lexG b a
  · rfl
  · have := lexG_trans _ _ _ h h2
    rw [lexG_irrefl] at this; cases this
theorem lexG_ntrans (a b c : List (List Int)) (h1 : lexG a b = false) (h2 : lexG b c = false) : lexG a c = false := by
  cases h3 : lexG a c
  · rfl
  · cases h4 : lexG b a
    · have := lexG_total a b h1 h4
      subst this
      rw [h2] at h3; cases h3
    · rw [lexG_trans _ _ _ h4 h3] at h2; cases h2
theorem sort_filter {α : Type} (lt : α → α → Bool) (hnt : ∀ a b c, lt a b = false → lt b c = false → lt a c = false) (has : ∀ a b, lt a b = true → lt b a = false) (tot : ∀ a b, lt a b = false → lt b a = false → a = b) (p : α → Bool) (l : List α) :
    sortL lt (l.filter p) = (sortL lt l).filter p := by
  symm
  exact sortL_eq lt hnt has tot ((sortL_perm lt l).filter p) ((sortL_sorted lt hnt has l).filter p)
theorem cmpG_drop {a b : List (List Int)} {i : Nat} (h : i < a.length) : cmpG (a.drop i) (b.drop i) = if h2 : i < b.length then (if a[i] = b[i] then cmpG (a.drop (i + 1)) (b.drop (i + 1)) else cmpL a[i] b[i]) else 1 := by
  rw [List.drop_eq_getElem_cons h]
  by_cases h2 : i < b.length
  · rw [dif_pos h2, List.drop_eq_getElem_cons h2, cmpG]
  · have hb : b.drop i = [] := List.drop_of_length_le (by omega)
    rw [dif_neg h2, hb]; rfl
theorem drewN_drewN (w : World) (a b : Nat) : (w.drewN a).drewN b = w.drewN (a + b) := by
  induction b with
  | zero => rfl
  | succ b ih => exact congrArg World.drew ih
set_option maxHeartbeats 2000000 in
set_option maxRecDepth 100000 in
theorem compareFunc.calls (A B : Option Addr) (c d : Nat) (a b : List (List Int)) (w : World) (hA : Kd.C (Kd.slice 3 (Kd.int .i64)) w A a.length a) (hc : a.length ≤ c) (hB : Kd.C (Kd.slice 3 (Kd.int .i64)) w B b.length b) (hd : b.length ≤ d) (hx : ∀ x ∈ a, x.length ≤ 1152921504606846976) :
    Calls Tryz.prog 123 #[.slice A a.length c, .slice B b.length d, .func (.func 116) #[] #[]] w fun e w' => e = .returned (.int .i64 (cmpG a b)) ∧ ∃ q, w' = w.drewN q := by
  have hlm := Kd.C_max hA
  have eg : ∀ args w, (callFunc 116 args).run Tryz.prog w = .ok (.enter 116 args) w := enters_of Tryz.func116 (by kernel_rfl) rfl
  have HA := Aside0.mk hA
  have HB := Aside0.mk hB
  have HX := Aside0.mk hx
  clear hA hB hx
  generalize hr : cmpG a b = r
  have HR := Aside0.mk hr
  clear hr
  go_enter Tryz.func123, Tryz.ntmps123
  go_wp2
  go_loopg [13] a.length (fun gg v13 wr => ∃ kk : Nat, kk ≤ a.length ∧ a.length - kk ≤ gg ∧ v13 = .int .i64 kk ∧ Aside0 (∃ q, wr = w.drewN q) ∧ Aside0 (cmpG (a.drop kk) (b.drop kk) = r))
  case atStart => exact ⟨0, Nat.zero_le _, Nat.le_refl _, rfl, ⟨⟨0, rfl⟩⟩, HR⟩
  case round =>
    clear HR
    obtain ⟨kk, hkk, hg, rfl, HQ, HR⟩ := hrel
    have hAr : Kd.C (Kd.slice 3 (Kd.int .i64)) wr A a.length a := by obtain ⟨q, hq⟩ := HQ.out; rw [hq]; exact Kd.C_drewN HA.out q
    have hBr : Kd.C (Kd.slice 3 (Kd.int .i64)) wr B b.length b := by obtain ⟨q, hq⟩ := HQ.out; rw [hq]; exact Kd.C_drewN HB.out q
    have HAr := Aside0.mk hAr
    have HBr := Aside0.mk hBr
    clear hAr hBr
    by_cases hlt : kk < a.length
    · have hltz : (kk : Int) < (a.length : Int) := Int.ofNat_lt.2 hlt
      have hR := HR.out
      rw [cmpG_drop hlt] at hR
      have hxa := HX.out _ (List.getElem_mem hlt)
      obtain ⟨ad, A1, c1, e, x0, hl1, hC1⟩ := at_L4 HAr.out (kk : Int) (Int.natCast_nonneg _) hltz
      subst e
      have ea : rd_L4 a (kk : Int) = a[kk] := by unfold rd_L4; rw [Int.toNat_natCast, List.getD_eq_getElem?_getD, List.getElem?_eq_getElem hlt]; rfl
      rw [ea] at x0 hl1 hC1
      rw [Int.toNat_natCast] at x0
      generalize a[kk] = x at hR hxa x0 hl1 hC1
      clear ea
      by_cases h2 : kk < b.length
      · have h2z : (kk : Int) < (b.length : Int) := Int.ofNat_lt.2 h2
        have h2b : decide ((kk : Int) ≥ (b.length : Int)) = false := decide_eq_false (Int.not_le.2 h2z)
        rw [dif_pos h2] at hR
        obtain ⟨bd, B1, d1, e, y0, hl2, hC2⟩ := at_L4 HBr.out (kk : Int) (Int.natCast_nonneg _) h2z
        subst e
        have eb : rd_L4 b (kk : Int) = b[kk] := by unfold rd_L4; rw [Int.toNat_natCast, List.getD_eq_getElem?_getD, List.getElem?_eq_getElem h2]; rfl
        rw [eb] at y0 hl2 hC2
        rw [Int.toNat_natCast] at y0
        generalize b[kk] = y at hR y0 hl2 hC2
        clear eb
        obtain ⟨K, hK⟩ := Compare_ev x y hxa
        have hk : slices_Compare_int_int.f K x y = some (cmpL x y) := hK K (Nat.le_refl _)
        have HCL := Aside0.mk (slices_Compare_int_int.calls K A1 c1 x B1 d1 y (cmpL x y) wr hC1 hl1 hC2 hl2 hk)
        have HR2 := Aside0.mk hR
        have hcz := cmpL_zero x y
        clear hk hC1 hC2 hK hxa HR hR
        generalize cmpL x y = cv at HCL HR2 hcz
        by_cases hxy : x = y
        · have c0 := hcz.2 hxy
          subst c0
          have hR := HR2.out
          rw [if_pos hxy] at hR
          have HR3 := Aside0.mk hR
          clear hR HR2 hxy hcz
          go_wp2_with (go_at_fn 116; refine HCL.out.mono ?_; rintro e w' ⟨rfl, ⟨m, rfl⟩⟩)
          go_roundg (a.length - (kk + 1))
          case measure => omega
          case rel => exact ⟨kk + 1, by omega, by omega, by congr 1; (try (unfold wrap64; omega)), ⟨by obtain ⟨q, hq⟩ := HQ.out; exact ⟨_, by rw [hq]; exact drewN_drewN _ _ _⟩⟩, HR3⟩
        · have c0 : ¬ cv = 0 := fun e => hxy (hcz.1 e)
          have c0b : (cv == 0) = false := by rw [beq_eq_false_iff_ne]; exact c0
          have c0d : decide (cv = 0) = false := decide_eq_false c0
          have hR := HR2.out
          rw [if_neg hxy] at hR
          subst hR
          clear HR2 hxy hcz
          go_wp2_with (go_at_fn 116; refine HCL.out.mono ?_; rintro e w' ⟨rfl, ⟨m, rfl⟩⟩)
          go_ret
          exact ⟨rfl, by obtain ⟨q, hq⟩ := HQ.out; exact ⟨_, by rw [hq]; exact drewN_drewN _ _ _⟩⟩
      · have h2b : decide ((kk : Int) ≥ (b.length : Int)) = true := decide_eq_true (by omega)
        have h2z : ¬ (kk : Int) < (b.length : Int) := by omega
        rw [dif_neg h2] at hR
        have HR2 := Aside0.mk hR
        clear hR HR hC1
        go_wp2
        go_ret
        exact ⟨by rw [← HR2.out]; rfl, HQ.out⟩
    · have hkl : kk = a.length := by omega
      have hltz : ¬ (kk : Int) < (a.length : Int) := by omega
      subst hkl
      have hR := HR.out
      rw [List.drop_length] at hR
      by_cases h2 : a.length < b.length
      · have h2b : decide ((a.length : Int) < (b.length : Int)) = true := decide_eq_true (by omega)
        have hR2 : r = -1 := by rw [← hR, List.drop_eq_getElem_cons h2]; rfl
        have HR2 := Aside0.mk hR2
        clear hR hR2 HR
        go_wp2
        go_ret
        exact ⟨by rw [HR2.out]; rfl, HQ.out⟩
      · have h2b : decide ((a.length : Int) < (b.length : Int)) = false := decide_eq_false (by omega)
        have hR2 : r = 0 := by rw [← hR, List.drop_of_length_le (by omega)]; rfl
        have HR2 := Aside0.mk hR2
        clear hR hR2 HR
        go_wp2
        go_ret
        exact ⟨by rw [HR2.out]; rfl, HQ.out⟩
set_option maxHeartbeats 2000000 in
set_option maxRecDepth 100000 in
theorem compareGames.lays (m n : Int) (A B : Option Addr) (c d : Nat) (a b : List (List Int)) (w : World) (hA : Kd.C (Kd.slice 3 (Kd.int .i64)) w A a.length a) (hc : a.length ≤ c) (hB : Kd.C (Kd.slice 3 (Kd.int .i64)) w B b.length b) (hd : b.length ≤ d) (hx : ∀ x ∈ a, x.length ≤ 1152921504606846976) :
    Calls Tryz.prog 106 #[.agg #[.int .i64 m, .slice A a.length c], .agg #[.int .i64 n, .slice B b.length d]] w fun e w' => e = .returned (.int .i64 (cmpG a b)) ∧ ∃ q os, w' = Go.Sort.grow (w.drewN q) os := by
  have hcall := fun W (hb : Below w.heap.size w W) => compareFunc.calls A B c d a b W (Kd.C_below hA hb) hc (Kd.C_below hB hb) hd hx
  have HCL := Aside0.mk hcall
  have u1 := Tryz.underlying46
  clear hA hB hx hcall
  go_enter Tryz.func106, Tryz.ntmps106
  have hh := HCL.out ((w.alloc (.cells #[.int .i64 m, .slice A a.length c] 46)).alloc (.cells #[.int .i64 n, .slice B b.length d] 46)) (((Below.refl _ w).alloc (Nat.le_refl _) _).alloc (by simp) _)
  have HH := Aside0.mk hh
  clear hh HCL
  go_wp2_with (go_at_call 123; refine HH.out.mono ?_; rintro e w' ⟨rfl, ⟨q, rfl⟩⟩)
  go_ret
  refine ⟨rfl, q, #[.cells #[.int .i64 m, .slice A a.length c] 46 (0, 0), .cells #[.int .i64 n, .slice B b.length d] 46 (0, 0)], ?_⟩
  rw [Go.Sort.alloc_eq_grow, Go.Sort.alloc_eq_grow, Go.Sort.grow_grow]
  rfl
end Go.Proofs.YtgjakcpbfbfejaaGreat.Q
end
section
namespace Go.Proofs.YtgjakcpbfbfejaaGreat.Q
open Go.RowKit Go.Proofs.YtgjakcpbfbfejaaGreatW.PrintWords Go.Proofs.YtgjakcpbfbfejaaGreatW.PrintLast Go.Proofs.YtgjakcpbfbfejaaGreatW.PrintMore
set_option linter.unusedVariables false
set_option linter.unusedSimpArgs false
def ly105_ren : Go.Shelf.Ren := ⟨fun | 6 => 105 | 15 => 122 | 14 => 121 | 28 => 143 | 29 => 144 | 20 => 135 | 21 => 136 | 22 => 137 | 23 => 138 | 24 => 139 | 25 => 140 | 26 => 141 | 27 => 142 | 46 => 155 | 47 => 156 | 48 => 157 | 49 => 158 | 50 => 159 | 57 => 163 | n => n, fun | 22 => 51 | 24 => 46 | 25 => 109 | 3 => 3 | 39 => 120 | 0 => 0 | 53 => 138 | 55 => 140 | 4 => 4 | 46 => 132 | 45 => 131 | 50 => 26 | 5 => 5 | 9 => 9 | 66 => 147 | 70 => 151 | 76 => 155 | 77 => 156 | n => n, fun | n => n⟩
theorem ly105 : Go.Proofs.SlLaysF0.n6 Tryz.prog ly105_ren := {
  mixed := by kernel_rfl
  f6 := ⟨Tryz.f105.name, by decide, Tryz.func105.trans (congrArg some (by kernel_rfl))⟩
  f14 := ⟨Tryz.f121.name, by decide, Tryz.func121.trans (congrArg some (by kernel_rfl))⟩
  f15 := Tryz.func122.trans (congrArg some (by kernel_rfl))
  f20 := ⟨Tryz.f135.name, by decide, Tryz.func135.trans (congrArg some (by kernel_rfl))⟩
  f21 := ⟨Tryz.f136.name, by decide, Tryz.func136.trans (congrArg some (by kernel_rfl))⟩
  f22 := ⟨Tryz.f137.name, by decide, Tryz.func137.trans (congrArg some (by kernel_rfl))⟩
  f23 := ⟨Tryz.f138.name, by decide, Tryz.func138.trans (congrArg some (by kernel_rfl))⟩
  f24 := ⟨Tryz.f139.name, by decide, Tryz.func139.trans (congrArg some (by kernel_rfl))⟩
  f25 := ⟨Tryz.f140.name, by decide, Tryz.func140.trans (congrArg some (by kernel_rfl))⟩
  f26 := ⟨Tryz.f141.name, by decide, Tryz.func141.trans (congrArg some (by kernel_rfl))⟩
  f27 := ⟨Tryz.f142.name, by decide, Tryz.func142.trans (congrArg some (by kernel_rfl))⟩
  f28 := Tryz.func143.trans (congrArg some (by kernel_rfl))
  f29 := Tryz.func144.trans (congrArg some (by kernel_rfl))
  f46 := ⟨Tryz.f155.name, by decide, Tryz.func155.trans (congrArg some (by kernel_rfl))⟩
  f47 := Tryz.func156.trans (congrArg some (by kernel_rfl))
  f48 := Tryz.func157.trans (congrArg some (by kernel_rfl))
  f49 := ⟨Tryz.f158.name, by decide, Tryz.func158.trans (congrArg some (by kernel_rfl))⟩
  f50 := ⟨Tryz.f159.name, by decide, Tryz.func159.trans (congrArg some (by kernel_rfl))⟩
  f57 := ⟨Tryz.f163.name, by decide, Tryz.func163.trans (congrArg some (by kernel_rfl))⟩
  t0 := Tryz.underlying0
  a0 := Tryz.isAgg0
  z0 := Tryz.sizeOf0
  v0 := Tryz.zeroValue0
  t3 := Tryz.underlying3
  a3 := Tryz.isAgg3
  z3 := Tryz.sizeOf3
  v3 := Tryz.zeroValue3
  t4 := Tryz.underlying4
  a4 := Tryz.isAgg4
  z4 := Tryz.sizeOf4
  v4 := Tryz.zeroValue4
  t5 := Tryz.underlying5
  a5 := Tryz.isAgg5
  z5 := Tryz.sizeOf5
  v5 := Tryz.zeroValue5
  t9 := Tryz.underlying9
  a9 := Tryz.isAgg9
  z9 := Tryz.sizeOf9
  v9 := Tryz.zeroValue9
  t22 := Tryz.underlying51
  a22 := Tryz.isAgg51
  z22 := Tryz.sizeOf51
  v22 := Tryz.zeroValue51
  t25 := Tryz.underlying109
  a25 := Tryz.isAgg109
  z25 := Tryz.sizeOf109
  v25 := Tryz.zeroValue109
  t39 := Tryz.underlying120
  a39 := Tryz.isAgg120
  z39 := Tryz.sizeOf120
  v39 := Tryz.zeroValue120
  t45 := Tryz.underlying131
  a45 := Tryz.isAgg131
  z45 := Tryz.sizeOf131
  v45 := Tryz.zeroValue131
  t46 := Tryz.underlying132
  a46 := Tryz.isAgg132
  z46 := Tryz.sizeOf132
  v46 := Tryz.zeroValue132
  t50 := Tryz.underlying26
  a50 := Tryz.isAgg26
  z50 := Tryz.sizeOf26
  v50 := Tryz.zeroValue26
  t53 := Tryz.underlying138
  a53 := Tryz.isAgg138
  z53 := Tryz.sizeOf138
  v53 := Tryz.zeroValue138
  t55 := Tryz.underlying140
  a55 := Tryz.isAgg140
  z55 := Tryz.sizeOf140
  v55 := Tryz.zeroValue140
  t66 := Tryz.underlying147
  a66 := Tryz.isAgg147
  z66 := Tryz.sizeOf147
  v66 := Tryz.zeroValue147
  t70 := Tryz.underlying151
  a70 := Tryz.isAgg151
  z70 := Tryz.sizeOf151
  v70 := Tryz.zeroValue151
  t76 := Tryz.underlying155
  a76 := Tryz.isAgg155
  z76 := Tryz.sizeOf155
  v76 := Tryz.zeroValue155
  t77 := Tryz.underlying156
  a77 := Tryz.isAgg156
  z77 := Tryz.sizeOf156
  v77 := Tryz.zeroValue156 }
open Go.Shelf Go.Lib Go.Sort
structure QG (W : World) (okq : Nat → Prop) (base : Nat) where
  v : Value
  x : S46
  hM : Kd.R (Kd.slice 3 (Kd.int .i64)) 36 W base okq v x.f1
  hl : ∀ s ∈ x.f1, s.length ≤ 1152921504606846976
def QG.enc {W okq base} (q : QG W okq base) : List Value := [.int .i64 q.x.f0, q.v]
instance {W okq base} : Inhabited (QG W okq base) := ⟨⟨.slice none 0 0, ⟨0, []⟩, Kd.R_nil _ _ _ _ _, by simp⟩⟩
def sortGames.f (l : List S46) : Option (List S46) := if (decide (l.length < 1000000) && l.all (fun x => decide (x.f0 = (l.headD z46).f0) && x.f1.all fun s => decide (s.length ≤ 1152921504606846976))) = true then some ((sortL lexG (l.map fun x => x.f1)).map fun s => ⟨(l.headD z46).f0, s⟩) else none
theorem cmp_laysG (W : World) (okq : Nat → Prop) (base g n : Nat) (hg : ∀ k, okq k → k ≠ g) :
    CmpLays Tryz.prog 106 #[] (fun q : QG W okq base => q.enc) 2 (fun x y => cmpG x.x.f1 y.x.f1) g 0 n W := by
  intro m os dk hs x y
  have hgr := grownBy_sorted (fun v : Value => v) (w := W) (g := g) (n := m) (os := os) (flatK (fun q : QG W okq base => q.enc) 2 dk)
  have hx := Kd.R_grown x.hM hgr (fun k hk e => hg k hk (by injection e))
  have hy := Kd.R_grown y.hM hgr (fun k hk e => hg k hk (by injection e))
  change Kd.R _ _ (sortWorldK (fun q : QG W okq base => q.enc) 2 W g 0 m dk os) _ _ _ _ at hx
  change Kd.R _ _ (sortWorldK (fun q : QG W okq base => q.enc) 2 W g 0 m dk os) _ _ _ _ at hy
  generalize sortWorldK (fun q : QG W okq base => q.enc) 2 W g 0 m dk os = wS at hx hy
  obtain ⟨A, c, hxv, hxl, hxC⟩ := Kd.R_reads hx
  obtain ⟨B, d, hyv, hyl, hyC⟩ := Kd.R_reads hy
  have := compareGames.lays x.x.f0 y.x.f0 A B c d x.x.f1 y.x.f1 wS hxC hxl hyC hyl x.hl
  show Calls Tryz.prog 106 #[.agg #[.int .i64 x.x.f0, x.v], .agg #[.int .i64 y.x.f0, y.v]] wS _
  rw [hxv, hyv]
  exact this
theorem swo_lexG {W okq base} : SWO (ltOf (fun x y : QG W okq base => cmpG x.x.f1 y.x.f1)) where
  irrefl x := by unfold ltOf; rw [cmpG_lt]; exact lexG_irrefl _
  trans x y z h1 h2 := by unfold ltOf at *; rw [cmpG_lt] at *; exact lexG_trans _ _ _ h1 h2
  ntrans x y z h1 h2 := by unfold ltOf at *; rw [cmpG_lt] at *; exact lexG_ntrans _ _ _ h1 h2
theorem flat_inner {W okq base} {ss : List (QG W okq base)} {inner : List Value} (hl : inner.length = ss.length * 2) (h : ∀ j (hj : j < ss.length), (inner.drop (j * 2)).take 2 = ss[j].enc) : inner = (flatK (fun q : QG W okq base => q.enc) 2 ss.toArray).toList := by
  have hfs : (flatK (fun q : QG W okq base => q.enc) 2 ss.toArray).size = ss.length * 2 := by rw [size_flatK, List.size_toArray]
  refine List.ext_getElem (hl.trans (hfs.symm.trans Array.length_toList.symm)) fun t h1 h2 => ?_
  have ht : t < ss.length * 2 := by omega
  have hj : t / 2 < ss.length := by omega
  have hm : t % 2 < 2 := Nat.mod_lt _ (by decide)
  have e : ((inner.drop (t / 2 * 2)).take 2)[t % 2]? = (ss[t / 2].enc)[t % 2]? := congrArg (fun z => z[t % 2]?) (h (t / 2) hj)
  rw [List.getElem?_take_of_lt hm, List.getElem?_drop, show t / 2 * 2 + t % 2 = t by omega, List.getElem?_eq_getElem h1] at e
  have g := get_flatK (fun q : QG W okq base => q.enc) 2 ss.toArray t (by rw [List.size_toArray]; exact ht)
  rw [getElem!_pos _ t (by rw [size_flatK, List.size_toArray]; exact ht)] at g
  refine Eq.trans ?_ (Eq.trans g.symm (Array.getElem_toList ..).symm)
  have e2 : ss.toArray[t / 2]! = ss[t / 2] := by rw [getElem!_pos _ _ (by rw [List.size_toArray]; exact hj), List.getElem_toArray]
  rw [e2]
  have hel : (ss[t / 2]).enc.length = 2 := rfl
  rw [List.getElem?_eq_getElem (by rw [hel]; exact hm)] at e
  rw [getElem!_pos (ss[t / 2].enc) (t % 2) (by rw [hel]; exact hm)]
  exact Option.some.inj e
theorem flat_seg {W okq base} (ss : List (QG W okq base)) (j : Nat) (hj : j < ss.length) : (((flatK (fun q : QG W okq base => q.enc) 2 ss.toArray).toList).drop (j * 2)).take 2 = ss[j].enc := by
  have hel : (ss[j]).enc.length = 2 := rfl
  refine List.ext_getElem (by rw [List.length_take, List.length_drop, Array.length_toList, size_flatK, List.size_toArray, hel]; omega) fun t h1 h2 => ?_
  have ht : t < 2 := by rw [hel] at h2; exact h2
  rw [List.getElem_take, List.getElem_drop, Array.getElem_toList]
  have g := get_flatK (fun q : QG W okq base => q.enc) 2 ss.toArray (j * 2 + t) (by rw [List.size_toArray]; omega)
  rw [getElem!_pos _ _ (by rw [size_flatK, List.size_toArray]; omega)] at g
  rw [g, show (j * 2 + t) / 2 = j by omega, show (j * 2 + t) % 2 = t by omega]
  have e2 : ss.toArray[j]! = ss[j] := by rw [getElem!_pos _ _ (by rw [List.size_toArray]; exact hj), List.getElem_toArray]
  rw [e2, getElem!_pos (ss[j].enc) t h2]
theorem isAggG (w : World) : (isAgg 46).run Tryz.prog w = .ok true w := by kernel_rfl
theorem sizeOfG (w : World) : (Go.sizeOf 46).run Tryz.prog w = .ok 2 w := by kernel_rfl
theorem sortGames.calls (l t : List S46) (A : Option Addr) (c base : Nat) (ok : Nat → Prop) (w : World) (hR : Kd.R k46 46 w base ok (.slice A l.length c) l) (h : sortGames.f l = some t) :
    Calls Tryz.prog 105 #[.slice A l.length c, .func (.func 106) #[] #[]] w fun e w' =>
      e = .returned (.tuple #[]) ∧ Kd.R k46 46 w' base ok (.slice A l.length c) t ∧ t.length = l.length ∧ w.grownBy w' (Value.slice A l.length c).ownBlock := by
  unfold sortGames.f at h
  split at h
  case isFalse => cases h
  rename_i hall
  rw [Bool.and_eq_true, decide_eq_true_eq] at hall
  obtain ⟨hsz, hall⟩ := hall
  obtain rfl := Option.some.inj h
  generalize (l.headD z46).f0 = m at hall
  have hall0 : ∀ x ∈ l, x.f0 = m ∧ ∀ s ∈ x.f1, s.length ≤ 1152921504606846976 := fun x hx => by
    have := List.all_eq_true.1 hall x hx
    rw [Bool.and_eq_true, decide_eq_true_eq] at this
    exact ⟨this.1, fun s hs => of_decide_eq_true (List.all_eq_true.1 this.2 s hs)⟩
  have htl0 : ((sortL lexG (l.map fun x => x.f1)).map fun s => (⟨m, s⟩ : S46)).length = l.length := by rw [List.length_map, (sortL_perm lexG _).length_eq, List.length_map]
  by_cases h0 : l.length = 0
  · have hl0 := List.length_eq_zero_iff.1 h0
    subst hl0
    have hcon := AnyF.slices_SortFunc_none { ly105 with } A c (.func (.func 106) #[] #[]) w
    change Calls Tryz.prog 105 _ _ _ at hcon
    refine hcon.mono ?_
    rintro e w' ⟨rfl, rfl⟩
    exact ⟨rfl, hR, rfl, ⟨rfl, rfl, rfl, Nat.le_refl _, fun _ _ _ => rfl⟩⟩
  obtain ⟨hok, inner, ho, hr⟩ := hR
  rcases ho.2 with ⟨hv, hn⟩ | ⟨g, cap, cur, hv, hbase, hb, h1, h2, h3, h4⟩
  · exact absurd hn h0
  injection hv with hA _ hc
  subst hA; subst hc
  have hil : inner.length = l.length * 2 := ho.1
  change cur.size = c * 2 at h3
  change cur.toList.take (l.length * 2) = inner at h4
  have key : ∀ j : Nat, ∃ q : QG w (fun k => ok k ∧ k ≠ g) base, j < l.length → q.x = l.getD j z46 ∧ (inner.drop (j * 2)).take 2 = q.enc := by
    intro j
    by_cases hj : j < l.length
    · have hp := hr.2 j _ (List.getElem?_eq_getElem hj)
      obtain ⟨v, hv, hR1⟩ := k46_openM hp
      refine ⟨⟨v, l[j], Kd.R_mono hR1 (fun k hk => ⟨hk.1, fun e => hk.2 (by rw [e]; rfl)⟩), (hall0 _ (List.getElem_mem hj)).2⟩, fun _ => ⟨?_, hv⟩⟩
      rw [List.getD_eq_getElem?_getD, List.getElem?_eq_getElem hj]; rfl
    · exact ⟨default, fun e => absurd e hj⟩
  obtain ⟨fq, hfq⟩ := Classical.axiomOfChoice key
  obtain ⟨ss, hss⟩ : ∃ ss, ss = (List.range l.length).map fq := ⟨_, rfl⟩
  have hsl : ss.length = l.length := by rw [hss]; simp
  have hget : ∀ j (hj : j < ss.length), ss[j] = fq j := fun j hj => by simp [hss]
  have hinn : inner = (flatK (fun q : QG w (fun k => ok k ∧ k ≠ g) base => q.enc) 2 ss.toArray).toList := flat_inner (by rw [hil, hsl]) fun j hj => by rw [hget j hj]; exact (hfq j (by omega)).2
  have hsll : ss.map QG.x = l := by
    refine List.ext_getElem (by rw [List.length_map]; exact hsl) fun j h1 h2 => ?_
    rw [List.getElem_map, hget, (hfq j h2).1, List.getD_eq_getElem?_getD, List.getElem?_eq_getElem h2]; rfl
  have hH : HoldsK (fun q : QG w (fun k => ok k ∧ k ≠ g) base => q.enc) 2 w g 0 ss.toArray := by
    have := holds_of_block (fun v : Value => v) (ss := (flatK (fun q : QG w (fun k => ok k ∧ k ≠ g) base => q.enc) 2 ss.toArray).toList) hb (by rw [← hinn, hil, h4, List.map_id'])
    rwa [Array.toArray_toList] at this
  have eg : ∀ args w, (callFunc 106 args).run Tryz.prog w = .ok (.enter 106 args) w := enters_of Tryz.func106 (by kernel_rfl) rfl
  have hcon := AnyQ.slices_SortFunc ly105 2 isAggG sizeOfG (fun q : QG w (fun k => ok k ∧ k ≠ g) base => q.enc) (fun _ => rfl) (fun q v hv => by simp [QG.enc] at hv; rcases hv with rfl | rfl; exact rfl; exact (Kd.R_val q.hM).2) (fun x y => cmpG x.x.f1 y.x.f1) swo_lexG 106 #[] g 0 c ss.toArray w eg (cmp_laysG w _ base g _ (fun k hk => hk.2)) hH (Array.getElem?_eq_some_iff.1 hb).1 (by rw [List.size_toArray, hsl]; omega)
  change Calls Tryz.prog 105 _ _ _ at hcon
  rw [List.size_toArray, hsl] at hcon
  refine hcon.mono ?_
  rintro e w' ⟨rfl, d', n, os, hp, hs, rfl⟩
  obtain ⟨ts, rfl⟩ : ∃ ts : List _, d' = ts.toArray := ⟨d'.toList, rfl⟩
  obtain ⟨fl, hfl⟩ : ∃ fl, fl = flatK (fun q : QG w (fun k => ok k ∧ k ≠ g) base => q.enc) 2 ts.toArray := ⟨_, rfl⟩
  have hgr := grownBy_sorted (fun v : Value => v) (w := w) (g := g) (n := n) (os := os) fl
  have hhp := heap_sorted (fun v : Value => v) (w := w) (g := g) (n := n) (os := os) fl hb
  have hws : sortWorldK (fun q : QG w (fun k => ok k ∧ k ≠ g) base => q.enc) 2 w g 0 n ts.toArray os = sortWorld (fun v : Value => v) w g 0 n fl os := by rw [hfl]; rfl
  rw [hws]
  have hperm : ts.Perm ss := perm_of_PermIn (d := ss.toArray) (by simpa [hsl] using hp)
  have htl : ts.length = l.length := by rw [hperm.length_eq, hsl]
  have hsort : ts.Pairwise (fun a b => ltOf (fun x y : QG w (fun k => ok k ∧ k ≠ g) base => cmpG x.x.f1 y.x.f1) b a = false) := pairwise_of_SortedIn (d := ts.toArray) (by simpa [htl] using hs)
  have ht1 : ts.map (fun q => q.x.f1) = sortL lexG (l.map fun x => x.f1) := by
    refine sortL_eq lexG lexG_ntrans (fun _ _ => lexG_asymm) lexG_total ?_ ?_
    · rw [← hsll, List.map_map]; exact hperm.map _
    · rw [List.pairwise_map]
      refine hsort.imp fun h => ?_
      unfold ltOf at h
      rwa [cmpG_lt] at h
  have ht : ts.map QG.x = (sortL lexG (l.map fun x => x.f1)).map fun s => (⟨m, s⟩ : S46) := by
    rw [← ht1, List.map_map]
    refine List.map_congr_left fun q hq => ?_
    have hm : q.x ∈ l := by rw [← hsll]; exact List.mem_map_of_mem (hperm.mem_iff.1 hq)
    have := (hall0 _ hm).1
    show q.x = ⟨m, q.x.f1⟩
    rw [← this]
  have hfsz : fl.size = l.length * 2 := by rw [hfl, size_flatK, List.size_toArray, htl]
  have htk : (putCells (fun v : Value => v) 0 fl cur).toList.take (l.length * 2) = fl.toList := by
    have := take_putCells (fun v : Value => v) cur fl.toList (by rw [Array.length_toList, hfsz, h3]; omega)
    rw [Array.toArray_toList, Array.length_toList, hfsz, List.map_id'] at this
    exact this
  rw [← ht]
  refine ⟨rfl, ⟨hok, fl.toList, ⟨by rw [Array.length_toList, List.length_map, htl]; exact hfsz, .inr ⟨g, c, _, by rw [List.length_map, htl], hbase, hhp, by rw [List.length_map, htl]; exact h1, h2, by simp [putCells]; exact h3, by rw [List.length_map, htl]; exact htk⟩⟩, ⟨by rw [Array.length_toList, List.length_map, htl]; exact hfsz, fun j p hj => ?_⟩⟩, by rw [List.length_map]; exact htl, hgr⟩
  rw [List.getElem?_map] at hj
  obtain ⟨q, hq, rfl⟩ := Option.map_eq_some_iff.1 hj
  obtain ⟨hjl, hqe⟩ := List.getElem?_eq_some_iff.1 hq
  have hseg := flat_seg ts j hjl
  rw [← hfl, hqe] at hseg
  show k46.M _ _ _ _ ((fl.toList.drop (j * 2)).take 2)
  rw [hseg]
  refine k46_mkM _ _ _ q.x (Kd.R_mono (Kd.R_grown q.hM hgr (fun k hk e => hk.2 (by injection e))) (fun k hk => ⟨hk.1, fun e => hk.2 (by injection e)⟩))
end Go.Proofs.YtgjakcpbfbfejaaGreat.Q
end

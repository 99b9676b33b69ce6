/- Part 2 of the proof of FnExactChambersOf: what it leans on (no condition). -/
import Derived.Test.YtmbkmabpebjboaaGreatKFnExactChambersOf1
import Derived.Test.YtmbkmabpebjboaaGreatProg
section
namespace Go.Proofs.YtmbkmabpebjboaaGreat.Q
open Go.RowKit Go.Proofs.YtmbkmabpebjboaaGreatW.PrintWords Go.Proofs.YtmbkmabpebjboaaGreatW.PrintLast Go.Proofs.YtmbkmabpebjboaaGreatW.PrintMore
attribute [local go_sem] max2_int min2_int max_two min_two max_three min_three max_four min_four
set_option linter.unusedVariables false
set_option linter.unusedSimpArgs false
def errW : Option Int → Value
  | none => .nilIface
  | some c => .iface 0 (.int .i64 c)
theorem errW_none : errW none = .nilIface := rfl
theorem errW_some (c : Int) : errW (some c) = .iface 0 (.int .i64 c) := rfl
theorem info3 : (Tryz.prog.info? 3).map (fun i => (i.zero, i.size, i.bytes)) = some (some (.int .i64 0), 1, 8) := by kernel_rfl
theorem info4 : (Tryz.prog.info? 4).map (fun i => (i.zero, i.size, i.bytes)) = some (some (.bool false), 1, 1) := by kernel_rfl
theorem info28 : (Tryz.prog.info? 28).map (fun i => (i.zero, i.size, i.bytes)) = some (some (.agg #[(.int .i64 0), (.slice none 0 0)]), 2, 32) := by kernel_rfl
theorem info61 : (Tryz.prog.info? 61).map (fun i => (i.zero, i.size, i.bytes)) = some (some (.agg #[(.int .i64 0), (.slice none 0 0)]), 2, 32) := by kernel_rfl
theorem info65 : (Tryz.prog.info? 65).map (fun i => (i.zero, i.size, i.bytes)) = some (some (.slice none 0 0), 1, 24) := by kernel_rfl
theorem info67 : (Tryz.prog.info? 67).map (fun i => (i.zero, i.size, i.bytes)) = some (some (.agg #[(.int .i64 0), (.slice none 0 0)]), 2, 32) := by kernel_rfl
def rd_L1 (xs : List (List Int)) (i : Int) : (List Int) := xs.getD i.toNat ([] : List Int)
theorem at_L1 {w : World} {A : Option Addr} {n : Nat} {xs : List (List Int)} (h : Kd.C (Kd.slice 3 (Kd.int .i64)) w A n xs) (i : Int) (h0 : 0 ≤ i) (h1 : i < n) : ∃ ad A0 c0, A = some ad ∧ w.cell? (ad.add i.toNat) = some (.slice A0 (rd_L1 xs i).length c0) ∧ (rd_L1 xs i).length ≤ c0 ∧ (Kd.int .i64).C w A0 (rd_L1 xs i).length (rd_L1 xs i) := by
  obtain ⟨ad, c, e, _, hK, hc0⟩ := Kd.C_get h ([] : List Int) i h0 h1
  have hc : ∀ j u, c[j]? = some u → w.cell? (ad.add (i.toNat * 1 + j)) = some u := hc0
  obtain ⟨A0, c0, rfl, l0, g0⟩ := hK
  exact ⟨ad, A0, c0, e, by have hq := hc 0 _ rfl; rwa [Nat.mul_one, Nat.add_zero] at hq, l0, g0⟩
structure S28 where
  f0 : Int
  f1 : (List (List Int))
def z28 : S28 := ⟨(0 : Int), ([] : List (List Int))⟩
def k28 : Kd S28 := Kd.iso (Kd.pair (Kd.int .i64) (Kd.slice 65 (Kd.slice 3 (Kd.int .i64)))) (fun x : S28 => (x.f0, x.f1))
theorem k28_open {w : World} {x : S28} {cs : List Value} (h : k28.K w x cs) : ∃ A1 c1, cs = [.int .i64 x.f0, .slice A1 x.f1.length c1] ∧ x.f1.length ≤ c1 ∧ (Kd.slice 3 (Kd.int .i64)).C w A1 x.f1.length x.f1 := by
  obtain ⟨_, _, rfl, rfl, ⟨A1, c1, rfl, l1, g1⟩⟩ := h
  exact ⟨A1, c1, rfl, l1, g1⟩
theorem k28_openM {w : World} {base : Nat} {ok : Nat → Prop} {x : S28} {cs : List Value} (h : k28.M w base ok x cs) : ∃ v1, cs = [.int .i64 x.f0, v1] ∧ (Kd.slice 3 (Kd.int .i64)).R 65 w base ok v1 x.f1 := by
  obtain ⟨_, _, rfl, rfl, ⟨v1, rfl, g1⟩⟩ := h
  exact ⟨v1, rfl, g1⟩
theorem k28_mk (w : World) (x : S28) {A1 : Option Addr} {c1 : Nat} (l1 : x.f1.length ≤ c1) (g1 : (Kd.slice 3 (Kd.int .i64)).C w A1 x.f1.length x.f1) : k28.K w x [.int .i64 x.f0, .slice A1 x.f1.length c1] := ⟨[.int .i64 x.f0], [.slice A1 x.f1.length c1], rfl, rfl, ⟨A1, c1, rfl, l1, g1⟩⟩
theorem k28_mkM (w : World) (base : Nat) (ok : Nat → Prop) (x : S28) {v1 : Value} (g1 : (Kd.slice 3 (Kd.int .i64)).R 65 w base ok v1 x.f1) : k28.M w base ok x [.int .i64 x.f0, v1] := ⟨[.int .i64 x.f0], [v1], rfl, rfl, ⟨v1, rfl, g1⟩⟩
theorem k28_openF {W : World} {ok : Nat → Prop} {x : S28} {cs : List Value} (h : Kd.FK k28 W ok x cs) : ∃ A1 c1, cs = [.int .i64 x.f0, .slice A1 x.f1.length c1] ∧ x.f1.length ≤ c1 ∧ Kd.F (Kd.slice 3 (Kd.int .i64)) W ok A1 x.f1.length x.f1 := by
  obtain ⟨A1, c1, rfl, l1, _⟩ := k28_open (Kd.FK_now h)
  exact ⟨A1, c1, rfl, l1, (fun W' hW => by obtain ⟨A1_, c1_, he, l1_, g1_⟩ := k28_open (h W' hW); injection (Option.some.inj (show some (Value.slice A1 x.f1.length c1) = some (Value.slice A1_ x.f1.length c1_) from congrArg (fun l => l[1]?) he)) with ha_ _ _; rw [ha_]; exact g1_)⟩
theorem k28_mkF (W : World) (ok : Nat → Prop) (x : S28) {A1 : Option Addr} {c1 : Nat} (l1 : x.f1.length ≤ c1) (g1 : Kd.F (Kd.slice 3 (Kd.int .i64)) W ok A1 x.f1.length x.f1) : Kd.FK k28 W ok x [.int .i64 x.f0, .slice A1 x.f1.length c1] := fun W2 hW => k28_mk W2 x l1 (g1 W2 hW)
def rd_T28 (xs : List S28) (i : Int) : S28 := xs.getD i.toNat z28
theorem at_T28 {w : World} {A : Option Addr} {n : Nat} {xs : List S28} (h : Kd.C k28 w A n xs) (i : Int) (h0 : 0 ≤ i) (h1 : i < n) : ∃ ad A1 c1, A = some ad ∧ w.cell? (ad.add (i.toNat * 2)) = some (.int .i64 (rd_T28 xs i).f0) ∧ w.cell? ⟨(ad.add (i.toNat * 2)).block, (ad.add (i.toNat * 2)).off + 1, none⟩ = some (.slice A1 (rd_T28 xs i).f1.length c1) ∧ (rd_T28 xs i).f1.length ≤ c1 ∧ (Kd.slice 3 (Kd.int .i64)).C w A1 (rd_T28 xs i).f1.length (rd_T28 xs i).f1 := by
  obtain ⟨ad, c, e, _, hK, hc0⟩ := Kd.C_get h z28 i h0 h1
  have hc : ∀ j u, c[j]? = some u → w.cell? (ad.add (i.toNat * 2 + j)) = some u := hc0
  obtain ⟨A1, c1, rfl, l1, g1⟩ := k28_open hK
  exact ⟨ad, A1, c1, e, hc 0 _ rfl, by rw [← add_field _ _ 1 (by omega)]; exact hc 1 _ rfl, l1, g1⟩
structure S61 where
  f0 : Int
  f1 : (List Bool)
def z61 : S61 := ⟨(0 : Int), ([] : List Bool)⟩
def k61 : Kd S61 := Kd.iso (Kd.pair (Kd.int .i64) (Kd.slice 4 Kd.bool)) (fun x : S61 => (x.f0, x.f1))
theorem k61_open {w : World} {x : S61} {cs : List Value} (h : k61.K w x cs) : ∃ A1 c1, cs = [.int .i64 x.f0, .slice A1 x.f1.length c1] ∧ x.f1.length ≤ c1 ∧ Kd.bool.C w A1 x.f1.length x.f1 := by
  obtain ⟨_, _, rfl, rfl, ⟨A1, c1, rfl, l1, g1⟩⟩ := h
  exact ⟨A1, c1, rfl, l1, g1⟩
theorem k61_mk (w : World) (x : S61) {A1 : Option Addr} {c1 : Nat} (l1 : x.f1.length ≤ c1) (g1 : Kd.bool.C w A1 x.f1.length x.f1) : k61.K w x [.int .i64 x.f0, .slice A1 x.f1.length c1] := ⟨[.int .i64 x.f0], [.slice A1 x.f1.length c1], rfl, rfl, ⟨A1, c1, rfl, l1, g1⟩⟩
theorem k61_openF {W : World} {ok : Nat → Prop} {x : S61} {cs : List Value} (h : Kd.FK k61 W ok x cs) : ∃ A1 c1, cs = [.int .i64 x.f0, .slice A1 x.f1.length c1] ∧ x.f1.length ≤ c1 ∧ Kd.F Kd.bool W ok A1 x.f1.length x.f1 := by
  obtain ⟨A1, c1, rfl, l1, _⟩ := k61_open (Kd.FK_now h)
  exact ⟨A1, c1, rfl, l1, (fun W' hW => by obtain ⟨A1_, c1_, he, l1_, g1_⟩ := k61_open (h W' hW); injection (Option.some.inj (show some (Value.slice A1 x.f1.length c1) = some (Value.slice A1_ x.f1.length c1_) from congrArg (fun l => l[1]?) he)) with ha_ _ _; rw [ha_]; exact g1_)⟩
theorem k61_mkF (W : World) (ok : Nat → Prop) (x : S61) {A1 : Option Addr} {c1 : Nat} (l1 : x.f1.length ≤ c1) (g1 : Kd.F Kd.bool W ok A1 x.f1.length x.f1) : Kd.FK k61 W ok x [.int .i64 x.f0, .slice A1 x.f1.length c1] := fun W2 hW => k61_mk W2 x l1 (g1 W2 hW)
def rd_T61 (xs : List S61) (i : Int) : S61 := xs.getD i.toNat z61
structure S67 where
  f0 : Int
  f1 : (List Int)
def z67 : S67 := ⟨(0 : Int), ([] : List Int)⟩
def k67 : Kd S67 := Kd.iso (Kd.pair (Kd.int .i64) (Kd.slice 3 (Kd.int .i64))) (fun x : S67 => (x.f0, x.f1))
theorem k67_open {w : World} {x : S67} {cs : List Value} (h : k67.K w x cs) : ∃ A1 c1, cs = [.int .i64 x.f0, .slice A1 x.f1.length c1] ∧ x.f1.length ≤ c1 ∧ (Kd.int .i64).C w A1 x.f1.length x.f1 := by
  obtain ⟨_, _, rfl, rfl, ⟨A1, c1, rfl, l1, g1⟩⟩ := h
  exact ⟨A1, c1, rfl, l1, g1⟩
theorem k67_openM {w : World} {base : Nat} {ok : Nat → Prop} {x : S67} {cs : List Value} (h : k67.M w base ok x cs) : ∃ v1, cs = [.int .i64 x.f0, v1] ∧ (Kd.int .i64).R 3 w base ok v1 x.f1 := by
  obtain ⟨_, _, rfl, rfl, ⟨v1, rfl, g1⟩⟩ := h
  exact ⟨v1, rfl, g1⟩
theorem k67_mkM (w : World) (base : Nat) (ok : Nat → Prop) (x : S67) {v1 : Value} (g1 : (Kd.int .i64).R 3 w base ok v1 x.f1) : k67.M w base ok x [.int .i64 x.f0, v1] := ⟨[.int .i64 x.f0], [v1], rfl, rfl, ⟨v1, rfl, g1⟩⟩
def rd_T67 (xs : List S67) (i : Int) : S67 := xs.getD i.toNat z67
theorem at_T67 {w : World} {A : Option Addr} {n : Nat} {xs : List S67} (h : Kd.C k67 w A n xs) (i : Int) (h0 : 0 ≤ i) (h1 : i < n) : ∃ ad A1 c1, A = some ad ∧ w.cell? (ad.add (i.toNat * 2)) = some (.int .i64 (rd_T67 xs i).f0) ∧ w.cell? ⟨(ad.add (i.toNat * 2)).block, (ad.add (i.toNat * 2)).off + 1, none⟩ = some (.slice A1 (rd_T67 xs i).f1.length c1) ∧ (rd_T67 xs i).f1.length ≤ c1 ∧ (Kd.int .i64).C w A1 (rd_T67 xs i).f1.length (rd_T67 xs i).f1 := by
  obtain ⟨ad, c, e, _, hK, hc0⟩ := Kd.C_get h z67 i h0 h1
  have hc : ∀ j u, c[j]? = some u → w.cell? (ad.add (i.toNat * 2 + j)) = some u := hc0
  obtain ⟨A1, c1, rfl, l1, g1⟩ := k67_open hK
  exact ⟨ad, A1, c1, e, hc 0 _ rfl, by rw [← add_field _ _ 1 (by omega)]; exact hc 1 _ rfl, l1, g1⟩
structure S24 where
  f0 : Int
  f1 : (List (List Int))
def z24 : S24 := ⟨(0 : Int), ([] : List (List Int))⟩
theorem zd {w : World} {a b : Nat} : (w.drewN a).drewN b = w.drewN (a + b) := World.drewN_drewN _ _ _
theorem ze {w : World} {a b c : Nat} : (w.drewN (a + b)).drewN c = w.drewN (a + (b + c)) := Eq.trans (World.drewN_drewN _ _ _) (congrArg (World.drewN _) (Nat.add_assoc _ _ _))
theorem zb {P Q : Prop} (h : P) (f : P → Q := by intro h_; (with_reducible repeat (first | refine blk_drewN ?_ _ | refine blk_drew ?_ | refine blk_alloc ?_ _)); exact h_) : Q := f h
theorem zr {P Q : Prop} (h : P) (f : P → Q := by intro h_; (with_reducible repeat (first | apply Kd.R_alloc | apply Kd.R_drewN | apply Kd.R_drew)); exact h_) : Q := f h
theorem zh {P Q : Prop} (h : P) (f : P → Q := by intro h_; repeat (first | (with_reducible first | exact h_ | apply below_alloc | apply pw_below_drewN | apply below_drew1 | refine below_set ?_ (Aside0.out (by with_reducible assumption))) | exact h_)) : Q := f h
def tb (n m : Nat) : Array Bool := ((List.range n).map fun i => m >>> i % 2 == 1).toArray
theorem zu {P : Program} {md : Region.Mode} {ops : Array Oper} {Q : Exit → Act → World → Prop} {S : World → Prop} {ds : List Nat} {T : _} {i : Nat} {N : Option Tmp} {oi : Oper} {v : Value} {fuel : Nat} {l : Array Bool} {a : Act} {w : World} (l' : Array Bool) (hi : ops[i]? = some oi) (hN : oi.dst = N) (HT : Aside0 (rtab md ops = T)) {a' : Act}
    (h : wpAnyLast P md ops Q S ds fuel l' a' w) (hc : anyT T l.toList l'.toList i = true := by kernel_rfl) (hQ : ∀ c a w, Q (.panic c) (a.put oi.dst v) w → Q (.panic c) a w := by exact fun _ _ _ h => h) (hy : Yields P ops oi v a := by refine Or.inl ⟨by rfl, ?_⟩; intro w'; go_simp; with_reducible rfl)
    (ha : a.put N v = a' := by simp only [Act.put, List.setIfInBounds_toArray, List.set_cons_zero, List.set_cons_succ, i64_w, i32_w]; rfl) : wpAnyLast P md ops Q S ds (fuel + 1) l a w := pure_ l' hi hN (any_of HT.out hc) hQ hy ha h
theorem zv {P : Program} {md : Region.Mode} {ops : Array Oper} {Q : Exit → Act → World → Prop} {S : World → Prop} {ds : List Nat} {T : _} {i : Nat} {N : Option Tmp} {oi : Oper} {fuel : Nat} {l : Array Bool} {a : Act} {w : World} (l' : Array Bool) (hi : ops[i]? = some oi) (hN : oi.dst = N) (HT : Aside0 (rtab md ops = T)) {a' : Act}
    (h : wpAnyLast P md ops Q S ds fuel l' a' w) (hc : anyT T l.toList l'.toList i = true := by kernel_rfl) (hQ : ∀ c a w, Q (.panic c) (a.put oi.dst undef) w → Q (.panic c) a w := by exact fun _ _ _ h => h) (hy : Yields P ops oi undef a := by exact Or.inr ⟨by rfl, rfl⟩)
    (ha : a.put N undef = a' := by simp only [Act.put, List.setIfInBounds_toArray, List.set_cons_zero, List.set_cons_succ, i64_w, i32_w]; rfl) : wpAnyLast P md ops Q S ds (fuel + 1) l a w := pure_ l' hi hN (any_of HT.out hc) hQ hy ha h
theorem zk {p : Prop} [Decidable p] (h : decide p = true := by first | (with_reducible assumption) | assumption) : p := of_decide_eq_true h
theorem zc {P Q : Prop} (h : P) (f : P → Q := by intro h_; iterate 9 (try (first | exact h_ | (with_reducible refine Kd.C_alloc ?_ _) | (with_reducible refine Kd.C_drewN ?_ _) | (with_reducible refine Kd.C_drew ?_)))) : Q := f h
theorem zx {w W : World} {a : Addr} {v : Value} (hb : Below w.heap.size w W) (h : w.cell? a = some v) : W.cell? a = some v := (hb.cell (World.block_lt_of_cell? w _ h)).trans h
theorem zl {P : Program} {ops : Array Oper} {Q : Exit → Act → World → Prop} {rest : List Oper} {oi : Oper} {a : Act} {w : World} (N : Tmp) {f : FuncId} {fn : Func} {os_ : Array Operand} {ts : Array TypeId} (hf : P.funcs[f]? = some fn) (args : Array Value) (h : Calls P f args w fun e w' => ∃ v, e = .returned v ∧ wpList P ops Q rest (a.put (some N) v) w') (hd : oi.dst = some N := by rfl) (hg : oi.guard = none := by rfl) (hname : (fn.name == "runtime.NumGoroutine") = false := by kernel_rfl) (hb : fn.body.isSome = true := by rfl)
    (hop : oi.op = .call { callee := .value (.func f), args := os_, argTypes := ts } := by rfl) (hargs : os_.map a.eval = args := by (try simp only [List.map_toArray, List.map_cons, List.map_nil]); first | done | rfl | (simp only [List.length_drop, List.length_take]; rfl)) : wpList P ops Q (oi :: rest) a w := goesL_ (some N) hd hg hf hname hb args hop hargs h
theorem zt {P : Program} {md : Region.Mode} {ops : Array Oper} {Q : Exit → Act → World → Prop} {S : World → Prop} {ds : List Nat} {i : Nat} {N : Option Tmp} {oi : Oper} {v : Value} {fuel : Nat} {l : Array Bool} {a : Act} {w : World} (l' : Array Bool) (hi : ops[i]? = some oi) (hN : oi.dst = N) (hc : takeB md ops ds l l' i = true) (hS : S w) {a' : Act} (h : wpAnyLast P md ops Q S ds fuel l' a' w)
    (hQ : ∀ c a w, Q (.panic c) (a.put oi.dst v) w → Q (.panic c) a w := by exact fun _ _ _ h => h) (hy : YieldsIf P ops S oi v a := by refine Or.inl ⟨by rfl, ?_⟩; intro w' hs_; (try simp only [and_imp] at hs_); (repeat (cases hs_; rename_i hs_)); go_simp; with_reducible rfl) (ha : a.put N v = a' := by simp only [Act.put, List.setIfInBounds_toArray, List.set_cons_zero, List.set_cons_succ, i64_w, i32_w]; rfl) : wpAnyLast P md ops Q S ds (fuel + 1) l a w := take_ l' hi hN hc hQ hy hS ha h
theorem zq {P : Program} {ops : Array Oper} {Q : Exit → Act → World → Prop} {rest : List Oper} {o : Oper} {a : Act} {W : World} (N : Tmp) (cs : Array Value) (t : TypeId) (h : ∀ g, g = W.heap.size → ∀ w1, w1.heap[g]? = some (.cells cs t (0, 0)) → Below W.heap.size W w1 → wpList P ops Q rest (a.put o.dst (.pointer (some ⟨g, 0, none⟩))) w1) (hgd : o.guard = none := by rfl) (hd : o.dst = some N := by rfl)
    (hrun : (execOp a.eval o).run P W = .ok (.value (.pointer (some ⟨W.heap.size, 0, none⟩))) (W.alloc (.cells cs t (0, 0))) := by first | (go_simp; done) | (go_simp; rfl)) : wpList P ops Q (o :: rest) a W := box_event hgd hd hrun h
theorem za1 {P : Prop} {w w' : World} (h1 : P := by first | rfl | (simp; done) | (simp [*]; done)) (h2 : Drawn0 w w' := by repeat (first | exact Drawn0.refl _ | apply Drawn0.step)) : P ∧ Drawn0 w w' := ⟨h1, h2⟩
theorem zp1 {P : Program} {md : Region.Mode} {ops : Array Oper} {Q : Exit → Act → World → Prop} {S : World → Prop} {ds : List Nat} {i : Nat} {N : Option Tmp} {oi : Oper} {v : Value} {fuel : Nat} {l : Array Bool} {a : Act} {w : World} (l' : Array Bool) (hi : ops[i]? = some oi) (hN : oi.dst = N) (hc : anyB md ops l l' i = true) {a' : Act} (h : wpAnyLast P md ops Q S ds fuel l' a' w)
    (hQ : ∀ c a w, Q (.panic c) (a.put oi.dst v) w → Q (.panic c) a w := by exact fun _ _ _ h => h) (hy : Yields P ops oi v a := by refine Or.inl ⟨by rfl, ?_⟩; intro w'; go_simp; with_reducible rfl) (ha : a.put N v = a' := by simp only [Act.put, List.setIfInBounds_toArray, List.set_cons_zero, List.set_cons_succ, i64_w, i32_w]; rfl) : wpAnyLast P md ops Q S ds (fuel + 1) l a w := pure_ l' hi hN hc hQ hy ha h
theorem zn1 {P : Program} {md : Region.Mode} {ops : Array Oper} {Q : Exit → Act → World → Prop} {S : World → Prop} {ds : List Nat} {fuel : Nat} {l : Array Bool} {a a' : Act} {w : World} (h : wpAnyLast P md ops Q S ds fuel l a' w) (ha : a = a' := by show Act.put _ (some _) _ = _; simp only [Act.put, List.setIfInBounds_toArray, List.set_cons_zero, List.set_cons_succ, i64_w, i32_w]; rfl) : wpAnyLast P md ops Q S ds fuel l a w := norm_ ha h
theorem zf1 {P Q N : Prop} (h : P) (n : N) (f : P → N → Q := by intro h_ n_; (with_reducible repeat (first | refine blk_drewN ?_ _ | refine blk_drew ?_ | refine blk_alloc ?_ _)); refine blk_far ?_ n_ _; (with_reducible repeat (first | refine blk_drewN ?_ _ | refine blk_drew ?_ | refine blk_alloc ?_ _)); exact h_) : Q := f h n
theorem zf2 {P Q N M : Prop} (h : P) (n : N) (m : M) (f : P → N → M → Q := by intro h_ n_ m_; (with_reducible repeat (first | refine blk_drewN ?_ _ | refine blk_drew ?_ | refine blk_alloc ?_ _)); refine blk_far ?_ n_ _; (with_reducible repeat (first | refine blk_drewN ?_ _ | refine blk_drew ?_ | refine blk_alloc ?_ _)); refine blk_far ?_ m_ _; (with_reducible repeat (first | refine blk_drewN ?_ _ | refine blk_drew ?_ | refine blk_alloc ?_ _)); exact h_) : Q := f h n m
theorem zf3 {P Q N M K : Prop} (h : P) (n : N) (m : M) (k : K) (f : P → N → M → K → Q := by intro h_ n_ m_ k_; (with_reducible repeat (first | refine blk_drewN ?_ _ | refine blk_drew ?_ | refine blk_alloc ?_ _)); refine blk_far ?_ n_ _; (with_reducible repeat (first | refine blk_drewN ?_ _ | refine blk_drew ?_ | refine blk_alloc ?_ _)); refine blk_far ?_ m_ _; (with_reducible repeat (first | refine blk_drewN ?_ _ | refine blk_drew ?_ | refine blk_alloc ?_ _)); refine blk_far ?_ k_ _; (with_reducible repeat (first | refine blk_drewN ?_ _ | refine blk_drew ?_ | refine blk_alloc ?_ _)); exact h_) : Q := f h n m k
theorem zF : ¬ (false = true) := by decide
theorem zE {p : Prop} (h : p := by first | rfl | (simp; done) | (simp [*]; done)) : p := h
theorem zO {p q : Prop} (h : Aside0 q) (f : q → p := by intro h_; omega) : Aside0 p := ⟨f h.out⟩
theorem zO2 {p q r : Prop} (h : Aside0 q) (h2 : Aside0 r) (f : q → r → p := by intro h_ h2_; omega) : Aside0 p := ⟨f h.out h2.out⟩
theorem zD {w w' : World} (h : Drawn0 w w' := by repeat (first | exact Drawn0.refl _ | apply Drawn0.step)) : Drawn0 w w' := h
theorem zS {P Q : Prop} (h : P) (f : P → Q := by intro h_; (with_reducible repeat (first | apply Kd.S_alloc | apply Kd.S_drewN | apply Kd.S_drew)); exact h_) : Q := f h
theorem zY {α β : Type _} {E : α} {f : α → Option β} {r : Option β} (h : (some E).bind f = r) : ∃ y, Aside0 (y = E) ∧ f y = r := ⟨E, ⟨rfl⟩, h⟩
theorem zW {p q R : Prop} (f : p → q → R) [Decidable p] [Decidable q] (hp : decide p = true := by first | (with_reducible assumption) | assumption) (hq : decide q = true := by first | (with_reducible assumption) | assumption) : R ∧ (p = True) ∧ (q = True) := ⟨f (of_decide_eq_true hp) (of_decide_eq_true hq), eq_true (of_decide_eq_true hp), eq_true (of_decide_eq_true hq)⟩
theorem zG {g : Nat} {w0 w1 W : World} (hg : g = W.heap.size) (h : Aside0 (Below w0.heap.size w0 w1)) (f : Below w0.heap.size w0 w1 → Below w0.heap.size w0 W := by intro h_; repeat (first | (with_reducible first | exact h_ | apply below_alloc | apply pw_below_drewN | apply below_drew1 | refine below_set ?_ (Aside0.out (by with_reducible assumption))) | exact h_)) : Aside0 (w0.heap.size ≤ g) := ⟨by rw [hg]; exact below_size (f h.out)⟩
theorem zH {w0 w1 W W2 : World} (hb : Below W.heap.size W W2) (h : Aside0 (Below w0.heap.size w0 w1)) (f : Below w0.heap.size w0 w1 → Below w0.heap.size w0 W := by intro h_; repeat (first | (with_reducible first | exact h_ | apply below_alloc | apply pw_below_drewN | apply below_drew1 | refine below_set ?_ (Aside0.out (by with_reducible assumption))) | exact h_)) : Aside0 (Below w0.heap.size w0 W2) := ⟨below_step (f h.out) hb⟩
theorem zK {w1 W W2 : World} {g : Nat} {o : Obj} (h : Aside0 (w1.heap[g]? = some o)) (hb : Below W.heap.size W W2) (f : w1.heap[g]? = some o → W.heap[g]? = some o := by intro h_; (with_reducible repeat (first | refine blk_drewN ?_ _ | refine blk_drew ?_ | refine blk_alloc ?_ _)); exact h_) : Aside0 (W2.heap[g]? = some o) := ⟨blk_below (f h.out) hb⟩
theorem zNa {w1 W : World} {g n : Nat} {o : Obj} (hg : n = W.heap.size) (h : Aside0 (w1.heap[g]? = some o)) (f : w1.heap[g]? = some o → W.heap[g]? = some o := by intro h_; (with_reducible repeat (first | refine blk_drewN ?_ _ | refine blk_drew ?_ | refine blk_alloc ?_ _)); exact h_) : Aside0 (g ≠ n) := ⟨by rw [hg]; exact Nat.ne_of_lt (blk_lt (f h.out))⟩
theorem zNb {w1 W : World} {g n : Nat} {o : Obj} (hg : n = W.heap.size) (h : Aside0 (w1.heap[g]? = some o)) (f : w1.heap[g]? = some o → W.heap[g]? = some o := by intro h_; (with_reducible repeat (first | refine blk_drewN ?_ _ | refine blk_drew ?_ | refine blk_alloc ?_ _)); exact h_) : Aside0 (n ≠ g) := ⟨by rw [hg]; exact Nat.ne_of_gt (blk_lt (f h.out))⟩
theorem zC1 {w : World} {g : Nat} {t : TypeId} {a : Value} (h : Aside0 (w.heap[g]? = some (.cells #[a] t (0, 0)))) : w.cell? ⟨g, 0, none⟩ = some a ∧ w.frozen? ⟨g, 0, none⟩ = false := ⟨(blk_cell h.out 0).trans rfl, blk_frozen h.out 0⟩
theorem zC2 {w : World} {g : Nat} {t : TypeId} {a b : Value} (h : Aside0 (w.heap[g]? = some (.cells #[a, b] t (0, 0)))) : w.cell? ⟨g, 0, none⟩ = some a ∧ w.cell? ⟨g, 1, none⟩ = some b ∧ w.frozen? ⟨g, 0, none⟩ = false ∧ w.frozen? ⟨g, 1, none⟩ = false := ⟨(blk_cell h.out 0).trans rfl, (blk_cell h.out 1).trans rfl, blk_frozen h.out 0, blk_frozen h.out 1⟩
theorem zC3 {w : World} {g : Nat} {t : TypeId} {a b c : Value} (h : Aside0 (w.heap[g]? = some (.cells #[a, b, c] t (0, 0)))) : w.cell? ⟨g, 0, none⟩ = some a ∧ w.cell? ⟨g, 1, none⟩ = some b ∧ w.cell? ⟨g, 2, none⟩ = some c ∧ w.frozen? ⟨g, 0, none⟩ = false ∧ w.frozen? ⟨g, 1, none⟩ = false ∧ w.frozen? ⟨g, 2, none⟩ = false := ⟨(blk_cell h.out 0).trans rfl, (blk_cell h.out 1).trans rfl, (blk_cell h.out 2).trans rfl, blk_frozen h.out 0, blk_frozen h.out 1, blk_frozen h.out 2⟩
theorem zQ {α : Type} {d : Kd α} {w W : World} {A : Option Addr} {n : Nat} {xs : List α} (h : d.C w A n xs) (f : d.C w A n xs → d.C W A n xs := by intro h_; repeat (first | exact h_ | (with_reducible refine Kd.C_alloc ?_ _) | (with_reducible refine Kd.C_drewN ?_ _) | (with_reducible refine Kd.C_drew ?_))) : d.C W A n xs := f h
theorem zI {x y j : Int} (h : shr .i64 x y = j) : x / 2 ^ min y.toNat 64 = j ∧ (y ≤ 64 → x / 2 ^ y.toNat = j) := ⟨h, shr_small h⟩
theorem zJ {x y j : Int} (h : shl .i64 x y = j) : IntKind.i64.wrap (x * 2 ^ min y.toNat 64) = j ∧ (y ≤ 64 → IntKind.i64.wrap (x * 2 ^ y.toNat) = j) ∧ wrap64 (x * 2 ^ min y.toNat 64) = j ∧ (y ≤ 64 → wrap64 (x * 2 ^ y.toNat) = j) := ⟨h, shl_small h, (i64_w _).symm.trans h, fun h_ => (i64_w _).symm.trans (shl_small h h_)⟩
theorem zJ1 {y j : Int} (h : shl .i64 1 y = j) : IntKind.i64.wrap (1 * 2 ^ min y.toNat 64) = j ∧ (y ≤ 64 → IntKind.i64.wrap (1 * 2 ^ y.toNat) = j) ∧ IntKind.i64.wrap (2 ^ min y.toNat 64) = j ∧ (y ≤ 64 → IntKind.i64.wrap (2 ^ y.toNat) = j) ∧ wrap64 (1 * 2 ^ min y.toNat 64) = j ∧ (y ≤ 64 → wrap64 (1 * 2 ^ y.toNat) = j) := ⟨(zJ h).1, (zJ h).2.1, by have h_ := (zJ h).1; rw [Int.one_mul] at h_; exact h_, fun hl => by have h_ := (zJ h).2.1 hl; rw [Int.one_mul] at h_; exact h_, (zJ h).2.2.1, (zJ h).2.2.2⟩
theorem u64_wrap_nn (n : Int) : 0 ≤ IntKind.u64.wrap n := by unfold IntKind.wrap; simp [IntKind.signed]; exact Int.emod_nonneg _ (by decide)
def spec_l1In.f (a0 : Int) (a1 : Int) (a2 : Int) : Option (Bool) := if a0 ≥ a1 then (some (decide (a0 ≤ a2))) else (some false)
set_option maxHeartbeats 8000000 in
set_option maxRecDepth 100000 in
theorem spec_l1In.calls (a0 : Int) (a1 : Int) (a2 : Int) (r : Bool) (w : World) (h : spec_l1In.f a0 a1 a2 = some r) :
  Calls Tryz.prog 110 #[.int .i64 a0, .int .i64 a1, .int .i64 a2] w fun e w' => e = .returned (.bool r) ∧ Drawn0 w w' := by
 have H : (if a0 ≥ a1 then (some (decide (a0 ≤ a2))) else (some false)) = some r := h
 clear h
 by_cases c4 : a0 ≥ a1
 ·rw [if_pos c4] at H
  have c4b0 := decide_eq_true c4
  clear c4
  obtain rfl := Option.some.inj H
  go_enter Tryz.func110, Tryz.ntmps110
  go_wp2
  go_ret
  exact za1
 rw [if_neg c4] at H
 have c4b0 := decide_eq_false c4
 clear c4
 obtain rfl := Option.some.inj H
 go_enter Tryz.func110, Tryz.ntmps110
 go_wp2
 go_ret
 exact za1
mutual
def spec_voBefore.l0 : Nat → List Int → List Int → Int → Option (Bool)
 | 0, _, _, _ => none
 | k + 1, x0, x1, x5 => if x5 < (x0.length : Int) then (spec_voBefore.j1 k x0 x1 x5 (decide (x5 < (x1.length : Int)))) else (spec_voBefore.j1 k x0 x1 x5 false)
def spec_voBefore.j1 : Nat → List Int → List Int → Int → Bool → Option (Bool)
 | 0, _, _, _, _ => none
 | k + 1, x0, x1, x5, x15 => if x15 = true then (if 0 ≤ x5 then (if x5 < (x0.length : Int) then (if x5 < (x1.length : Int) then (if (rd x0 x5) = (rd x1 x5) then (spec_voBefore.l0 k x0 x1 (wrap64 (x5 + 1))) else (some (decide ((rd x0 x5) < (rd x1 x5))))) else (none)) else (none)) else (none)) else (some (decide ((x0.length : Int) < (x1.length : Int))))
end
def spec_voBefore.f (k : Nat) (l0 : List Int) (l1 : List Int) : Option (Bool) := spec_voBefore.l0 k l0 l1 0
theorem spec_voBefore.mono_l : ∀ k, (∀ y0 y1 y2, LeO (spec_voBefore.l0 k y0 y1 y2) (spec_voBefore.l0 (k + 1) y0 y1 y2)) ∧ (∀ y0 y1 y2 y3, LeO (spec_voBefore.j1 k y0 y1 y2 y3) (spec_voBefore.j1 (k + 1) y0 y1 y2 y3))
 | 0 => ⟨fun _ _ _ r h => by simp [spec_voBefore.l0] at h, fun _ _ _ _ r h => by simp [spec_voBefore.j1] at h⟩
 | k + 1 => by
  obtain ⟨ih0, ih1⟩ := spec_voBefore.mono_l k
  refine ⟨?_, ?_⟩
  ·intro y0 y1 y2
   unfold spec_voBefore.l0
   repeat' first
   | (with_reducible exact ih0 _ _ _)
   | (with_reducible exact ih1 _ _ _ _)
   | (with_reducible exact LeO.refl _)
   | (with_reducible exact LeO.none _)
   | (with_reducible refine LeO.ite ?_ ?_)
   | (with_reducible refine LeO.bind ?_ (fun _ => ?_))
   | exact ih0 _ _ _
   | exact ih1 _ _ _ _
   | exact LeO.none _
   | refine LeO.ite ?_ ?_
   | refine LeO.bind ?_ (fun _ => ?_)
  ·intro y0 y1 y2 y3
   unfold spec_voBefore.j1
   repeat' first
   | (with_reducible exact ih0 _ _ _)
   | (with_reducible exact ih1 _ _ _ _)
   | (with_reducible exact LeO.refl _)
   | (with_reducible exact LeO.none _)
   | (with_reducible refine LeO.ite ?_ ?_)
   | (with_reducible refine LeO.bind ?_ (fun _ => ?_))
   | exact ih0 _ _ _
   | exact ih1 _ _ _ _
   | exact LeO.none _
   | refine LeO.ite ?_ ?_
   | refine LeO.bind ?_ (fun _ => ?_)
theorem spec_voBefore.mono : ∀ a0 a1 k, LeO (spec_voBefore.f k a0 a1) (spec_voBefore.f (k + 1) a0 a1) := by
 intro a0 a1 k
 obtain ⟨ih0, ih1⟩ := spec_voBefore.mono_l k
 unfold spec_voBefore.f
 repeat' first
   | (with_reducible exact ih0 _ _ _)
   | (with_reducible exact ih1 _ _ _ _)
   | (with_reducible exact LeO.refl _)
   | (with_reducible exact LeO.none _)
   | (with_reducible refine LeO.ite ?_ ?_)
   | (with_reducible refine LeO.bind ?_ (fun _ => ?_))
   | exact ih0 _ _ _
   | exact ih1 _ _ _ _
   | exact LeO.none _
   | refine LeO.ite ?_ ?_
   | refine LeO.bind ?_ (fun _ => ?_)
set_option maxHeartbeats 8000000 in
set_option maxRecDepth 100000 in
theorem spec_voBefore.calls (k : Nat) (A0 : Option Addr) (c0 : Nat) (l0 : List Int) (A1 : Option Addr) (c1 : Nat) (l1 : List Int) (r : Bool) (w : World) (hr0 : Kd.C (Kd.int .i64) w A0 l0.length l0) (hc0 : l0.length ≤ c0) (hr1 : Kd.C (Kd.int .i64) w A1 l1.length l1) (hc1 : l1.length ≤ c1) (h : spec_voBefore.f k l0 l1 = some r) :
  Calls Tryz.prog 83 #[.slice A0 l0.length c0, .slice A1 l1.length c1] w fun e w' => e = .returned (.bool r) ∧ Drawn0 w w' := by
 have HR0 := Aside0.mk hr0
 have HC0 := Aside0.mk hc0
 clear hr0 hc0
 have HR1 := Aside0.mk hr1
 have HC1 := Aside0.mk hc1
 clear hr1 hc1
 have H : (spec_voBefore.l0 k l0 l1 0) = some r := h
 clear h
 have H' := Aside0.mk H
 clear H
 go_enter Tryz.func83, Tryz.ntmps83
 go_wp2
 repeat (go_quiet (fail); try go_wp2)
 go_loopg [5] k (fun kq v5 w' => ∃ (x5_1 : Int), v5 = .int .i64 x5_1 ∧ Aside0 (spec_voBefore.l0 kq l0 l1 x5_1 = some r) ∧ Aside0 (kq ≤ k) ∧ Drawn0 w w')
 case atStart => exact ⟨(0), zE, H', ⟨Nat.le_refl _⟩, zD⟩
 case round =>
  clear H'
  try clear c1
  try clear p2
  obtain ⟨x5_1, rfl, HA, HK1, ⟨m1, rfl⟩⟩ := hrel
  cases gk with
  | zero => exact absurd HA.out (by simp [spec_voBefore.l0])
  | succ k1 =>
   have H := HA.out
   clear HA
   simp only [spec_voBefore.l0] at H
   have HC3 := Aside0.mk H
   clear H
   go_upto_region 2 with (fail)
   repeat (go_quiet (fail); go_upto_region 2 with (fail))
   go_cut [15] (fun v15 wc => ∃ (kq : Nat) (x15_2 : Bool), v15 = .bool x15_2 ∧ Aside0 (spec_voBefore.j1 kq l0 l1 x5_1 x15_2 = some r) ∧ Aside0 (kq ≤ k1) ∧ Drawn0 w wc)
   case first =>
    have H := HC3.out
    clear HC3
    by_cases c4 : x5_1 < (l0.length : Int)
    ·rw [if_pos c4] at H
     have c4b0 := decide_eq_true c4
     clear c4
     (first | rw [c4b0] | (simp only [i64_w, i32_w]; rw [c4b0]) | skip)
     have H' := Aside0.mk H
     clear H
     go_wp2
     repeat (go_quiet (fail); try go_wp2)
     go_meet
     case rel => exact ⟨_, (decide (x5_1 < (l1.length : Int))), zE, H', ⟨by have := HK1.out; first | omega | exact Nat.le_refl _⟩, zD⟩
    ·rw [if_neg c4] at H
     have c4b0 := decide_eq_false c4
     clear c4
     (first | rw [c4b0] | (simp only [i64_w, i32_w]; rw [c4b0]) | skip)
     have H' := Aside0.mk H
     clear H
     go_wp2
     repeat (go_quiet (fail); try go_wp2)
     go_meet
     case rel => exact ⟨_, (false), zE, H', ⟨by have := HK1.out; first | omega | exact Nat.le_refl _⟩, zD⟩
   case rest =>
    clear HC3
    try clear c1
    try clear p2
    try clear c4
    try clear c4b0
    try clear p2
    obtain ⟨kq, x15_2, rfl, HA, HJ2, ⟨mc2, rfl⟩⟩ := hcut
    cases kq with
    | zero => exact absurd HA.out (by simp [spec_voBefore.j1])
    | succ kj2 =>
     have H := HA.out
     clear HA
     simp only [spec_voBefore.j1] at H
     by_cases c5 : x15_2 = true
     rotate_left
     ·replace c5 := Bool.eq_false_iff.mpr c5
      subst c5
      rw [if_neg zF] at H
      obtain rfl := Option.some.inj H
      go_wp2
      repeat (go_quiet (fail); try go_wp2)
      go_ret
      exact za1
     subst c5
     rw [if_pos rfl] at H
     by_cases c6 : 0 ≤ x5_1
     rotate_left
     ·rw [if_neg c6] at H
      cases H
     rw [if_pos c6] at H
     have c6b0 := decide_eq_true c6
     clear c6
     by_cases c7 : x5_1 < (l0.length : Int)
     rotate_left
     ·rw [if_neg c7] at H
      cases H
     rw [if_pos c7] at H
     have c7b0 := decide_eq_true c7
     clear c7
     by_cases c8 : x5_1 < (l1.length : Int)
     rotate_left
     ·rw [if_neg c8] at H
      cases H
     rw [if_pos c8] at H
     have c8b0 := decide_eq_true c8
     clear c8
     by_cases c9 : (rd l0 x5_1) = (rd l1 x5_1)
     ·rw [if_pos c9] at H
      have c9b0 := beq_iff_eq.mpr c9
      have c9b1 := bne_eq_false_iff_eq.mpr c9
      clear c9
      have H' := Aside0.mk H
      clear H
      obtain ⟨⟨ad113, e113, hx113_0⟩, p113, q113⟩ := zW (Kd.at_int HR0.out x5_1)
      cases e113
      obtain ⟨⟨ad114, e114, hx114_0⟩, p114, q114⟩ := zW (Kd.at_int HR1.out x5_1)
      cases e114
      go_wp2
      repeat (go_quiet (fail); try go_wp2)
      go_roundg kj2
      case measure => have := HK1.out; have := HJ2.out; omega
      case rel => exact ⟨(wrap64 (x5_1 + 1)), zE, H', zO2 HK1 HJ2, zD⟩
     rw [if_neg c9] at H
     have c9b0 := beq_eq_false_iff_ne.mpr c9
     have c9b1 := bne_iff_ne.mpr c9
     obtain rfl := Option.some.inj H
     obtain ⟨⟨ad113, e113, hx113_0⟩, p113, q113⟩ := zW (Kd.at_int HR0.out x5_1)
     cases e113
     obtain ⟨⟨ad114, e114, hx114_0⟩, p114, q114⟩ := zW (Kd.at_int HR1.out x5_1)
     cases e114
     obtain ⟨⟨ad115, e115, hx115_0⟩, p115, q115⟩ := zW (Kd.at_int HR0.out x5_1)
     obtain rfl : ad113 = ad115 := (by injection e115)
     obtain ⟨⟨ad116, e116, hx116_0⟩, p116, q116⟩ := zW (Kd.at_int HR1.out x5_1)
     obtain rfl : ad114 = ad116 := (by injection e116)
     go_wp2
     repeat (go_quiet (fail); try go_wp2)
     go_ret
     exact za1
def spec_voAll.f (a0 : Int) : Option (Int) := if 0 ≤ a0 then (some (wrap64 ((shl .i64 1 a0) - 1))) else (none)
set_option maxHeartbeats 8000000 in
set_option maxRecDepth 100000 in
theorem spec_voAll.calls (a0 : Int) (r : Int) (w : World) (h : spec_voAll.f a0 = some r) :
  Calls Tryz.prog 111 #[.int .i64 a0] w fun e w' => e = .returned (.int .i64 r) ∧ Drawn0 w w' := by
 have H : (if 0 ≤ a0 then (some (wrap64 ((shl .i64 1 a0) - 1))) else (none)) = some r := h
 clear h
 by_cases c2 : 0 ≤ a0
 rotate_left
 ·rw [if_neg c2] at H
  cases H
 rw [if_pos c2] at H
 have c2b0 := eq_true c2
 have c2b1 := decide_eq_true c2
 clear c2
 obtain ⟨ji3, hji3⟩ : ∃ j_ : Int, (shl .i64 1 a0) = j_ := ⟨_, rfl⟩
 rw [hji3] at H
 obtain ⟨hji3_, hji3z, hji3u, hji3v, hji3y, hji3x⟩ := zJ1 hji3
 obtain rfl := Option.some.inj H
 go_enter Tryz.func111, Tryz.ntmps111
 go_wp2
 go_ret
 exact ⟨by first | rfl | (simp; done) | (simp only [← hji3] <;> (first | rfl | simp)) | (simp [*]; done), by repeat (first | exact Drawn0.refl _ | apply Drawn0.step)⟩
def spec_gmBefore.l0 : Nat → List (List Int) → Int → Int → Int → List (List Int) → Int → List (List Int) → Option (Bool)
 | 0, _, _, _, _, _, _, _ => none
 | k + 1, x8, x9, x10, x146000, x146001, x147000, x147001 => if x10 < x9 then (if 0 ≤ x10 then (if x10 < (x8.length : Int) then (if x10 ≥ (x147001.length : Int) then (some false) else (if x10 < (x147001.length : Int) then ((spec_voBefore.f k (rd_L1 x8 x10) (rd_L1 x147001 x10)).bind fun t149 => (if t149 = true then (some true) else ((spec_voBefore.f k (rd_L1 x147001 x10) (rd_L1 x8 x10)).bind fun t151 => (if t151 = true then (some false) else (spec_gmBefore.l0 k x8 x9 (wrap64 (x10 + 1)) x146000 x146001 x147000 x147001))))) else (none))) else (none)) else (none)) else (some (decide ((x146001.length : Int) < (x147001.length : Int))))
def spec_gmBefore.f (k : Nat) (a0_0 : Int) (l0_1 : List (List Int)) (a1_0 : Int) (l1_1 : List (List Int)) : Option (Bool) := spec_gmBefore.l0 k l0_1 (l0_1.length : Int) 0 a0_0 l0_1 a1_0 l1_1
set_option maxHeartbeats 8000000 in
set_option maxRecDepth 100000 in
theorem spec_gmBefore.calls (k : Nat) (a0_0 : Int) (A0_1 : Option Addr) (c0_1 : Nat) (l0_1 : List (List Int)) (a1_0 : Int) (A1_1 : Option Addr) (c1_1 : Nat) (l1_1 : List (List Int)) (r : Bool) (w : World) (hr0_1 : Kd.C (Kd.slice 3 (Kd.int .i64)) w A0_1 l0_1.length l0_1) (hc0_1 : l0_1.length ≤ c0_1) (hr1_1 : Kd.C (Kd.slice 3 (Kd.int .i64)) w A1_1 l1_1.length l1_1) (hc1_1 : l1_1.length ≤ c1_1) (h : spec_gmBefore.f k a0_0 l0_1 a1_0 l1_1 = some r) :
  Calls Tryz.prog 71 #[.agg #[.int .i64 a0_0, .slice A0_1 l0_1.length c0_1], .agg #[.int .i64 a1_0, .slice A1_1 l1_1.length c1_1]] w fun e w' => e = .returned (.bool r) ∧ Below w.heap.size w w' := by
 have hu28 := Tryz.underlying28
 have HR0_1 := Aside0.mk hr0_1
 have HC0_1 := Aside0.mk hc0_1
 clear hr0_1 hc0_1
 have HR1_1 := Aside0.mk hr1_1
 have HC1_1 := Aside0.mk hc1_1
 clear hr1_1 hc1_1
 have HB := Aside0.mk (Below.refl w.heap.size w)
 have H : (spec_gmBefore.l0 k l0_1 (l0_1.length : Int) 0 a0_0 l0_1 a1_0 l1_1) = some r := h
 clear h
 have H' := Aside0.mk H
 clear H
 go_enter Tryz.func71, Tryz.ntmps71
 go_wp2_with (first | ((with_reducible refine gate_dst (N := 2) rfl ?_); refine zq 2 #[.int .i64 a0_0, .slice A0_1 l0_1.length c0_1] 28 ?_; intro gb145 hg w3 hbox hb; have GW145 := zG hg HB; replace HB := zH hb HB; have BK145 := Aside0.mk hbox; have GE145 := GW145; clear hb hbox hg) | ((with_reducible refine gate_dst (N := 3) rfl ?_); refine zq 3 #[.int .i64 a1_0, .slice A1_1 l1_1.length c1_1] 28 ?_; intro gb146 hg w4 hbox hb; have BK146 := Aside0.mk hbox; have GW146 := zG hg HB; have GE146 := zG hg HB; have NB145_146 := zNa hg BK145; have NB146_145 := zNb hg BK145; replace BK145 := zK BK145 hb; replace HB := zH hb HB; clear hb hbox hg; have hnb5 := NB145_146.out; have hnc5 := NB146_145.out; obtain ⟨hcz6_0, hcz6_1, hfz6_0, hfz6_1⟩ := zC2 BK145))
 go_loopg [10] k (fun kq v10 w' => ∃ (x10_1 : Int), v10 = .int .i64 x10_1 ∧ Aside0 (spec_gmBefore.l0 kq l0_1 (l0_1.length : Int) x10_1 a0_0 l0_1 a1_0 l1_1 = some r) ∧ Aside0 (kq ≤ k) ∧ Aside0 (w'.heap[gb145]? = some (.cells #[.int .i64 a0_0, (.slice A0_1 l0_1.length c0_1)] 28 (0, 0))) ∧ Aside0 (w'.heap[gb146]? = some (.cells #[.int .i64 a1_0, (.slice A1_1 l1_1.length c1_1)] 28 (0, 0))) ∧ Aside0 (Below w.heap.size w w'))
 case atStart => exact ⟨(0), zE, H', ⟨Nat.le_refl _⟩, ⟨zb BK145.out⟩, ⟨zb BK146.out⟩, ⟨zh HB.out⟩⟩
 case round =>
  clear H'
  try clear c1
  try clear p2
  try clear c5
  try clear hcz6_0
  try clear hcz6_1
  try clear hfz6_0
  try clear hfz6_1
  obtain ⟨x10_1, rfl, HA, HK1, BK145, BK146, HB⟩ := hrel
  cases gk with
  | zero => exact absurd HA.out (by simp [spec_gmBefore.l0])
  | succ k1 =>
   have H := HA.out
   clear HA
   simp only [spec_gmBefore.l0] at H
   by_cases c7 : x10_1 < (l0_1.length : Int)
   rotate_left
   ·rw [if_neg c7] at H
    have c7b0 := decide_eq_false c7
    clear c7
    obtain rfl := Option.some.inj H
    have hnb24 := NB145_146.out
    have hnc24 := NB146_145.out
    obtain ⟨hcz25_0, hcz25_1, hfz25_0, hfz25_1⟩ := zC2 BK145
    obtain ⟨hcz26_0, hcz26_1, hfz26_0, hfz26_1⟩ := zC2 BK146
    go_wp2
    go_ret
    exact ⟨by first | rfl | (simp [*, errW_none, errW_some] <;> rfl), zh HB.out⟩
   rw [if_pos c7] at H
   have c7b0 := decide_eq_true c7
   clear c7
   by_cases c8 : 0 ≤ x10_1
   rotate_left
   ·rw [if_neg c8] at H
    cases H
   rw [if_pos c8] at H
   have c8b0 := decide_eq_true c8
   clear c8
   by_cases c9 : x10_1 < (l0_1.length : Int)
   rotate_left
   ·rw [if_neg c9] at H
    cases H
   rw [if_pos c9] at H
   have c9b0 := decide_eq_true c9
   clear c9
   by_cases c10 : x10_1 ≥ (l1_1.length : Int)
   ·rw [if_pos c10] at H
    have c10b0 := decide_eq_true c10
    clear c10
    obtain rfl := Option.some.inj H
    obtain ⟨⟨ad147, A147_0, c147_0, e147, hx147_0, hl147_0, hi147_0⟩, p147, q147⟩ := zW (at_L1 HR0_1.out x10_1)
    cases e147
    replace hx147_0 := zx HB.out hx147_0
    have HR147_0 := Aside0.mk hi147_0
    have HC147_0 := Aside0.mk hl147_0
    clear hi147_0 hl147_0
    have hnb11 := NB146_145.out
    have hnc11 := NB145_146.out
    obtain ⟨hcz12_0, hcz12_1, hfz12_0, hfz12_1⟩ := zC2 BK146
    go_wp2
    go_ret
    exact ⟨by first | rfl | (simp [*, errW_none, errW_some] <;> rfl), zh HB.out⟩
   rw [if_neg c10] at H
   have c10b0 := decide_eq_false c10
   clear c10
   by_cases c13 : x10_1 < (l1_1.length : Int)
   rotate_left
   ·rw [if_neg c13] at H
    cases H
   rw [if_pos c13] at H
   have c13b0 := decide_eq_true c13
   clear c13
   replace H := Option.bind_eq_some_iff.mp H
   obtain ⟨t149, A140, H⟩ := H
   have A14 := Aside0.mk A140
   clear A140
   by_cases c15 : t149 = true
   ·subst c15
    rw [if_pos rfl] at H
    obtain rfl := Option.some.inj H
    obtain ⟨⟨ad147, A147_0, c147_0, e147, hx147_0, hl147_0, hi147_0⟩, p147, q147⟩ := zW (at_L1 HR0_1.out x10_1)
    cases e147
    replace hx147_0 := zx HB.out hx147_0
    have HR147_0 := Aside0.mk hi147_0
    have HC147_0 := Aside0.mk hl147_0
    clear hi147_0 hl147_0
    have hnb16 := NB146_145.out
    have hnc16 := NB145_146.out
    obtain ⟨hcz17_0, hcz17_1, hfz17_0, hfz17_1⟩ := zC2 BK146
    obtain ⟨⟨ad148, A148_0, c148_0, e148, hx148_0, hl148_0, hi148_0⟩, p148, q148⟩ := zW (at_L1 HR1_1.out x10_1)
    cases e148
    replace hx148_0 := zx HB.out hx148_0
    have HR148_0 := Aside0.mk hi148_0
    have HC148_0 := Aside0.mk hl148_0
    clear hi148_0 hl148_0
    go_wp2_with (first | ((with_reducible refine gate_callee (f := 83) rfl ?_); refine zl 26 Tryz.func83 #[.slice A147_0 (rd_L1 l0_1 x10_1).length c147_0, .slice A148_0 (rd_L1 l1_1 x10_1).length c148_0] ?_; (with_reducible refine (spec_voBefore.calls k1 _ _ (rd_L1 l0_1 x10_1) _ _ (rd_L1 l1_1 x10_1) true _ ?side1 ?side2 ?side3 ?side4 A14.out).mono ?_); (case side1 => exact zQ (Kd.C_below HR147_0.out HB.out)); (case side2 => exact HC147_0.out); (case side3 => exact zQ (Kd.C_below HR148_0.out HB.out)); (case side4 => exact HC148_0.out); rintro e w' ⟨rfl, ⟨nd, rfl⟩⟩; refine ⟨_, rfl, ?_⟩))
    go_ret
    exact ⟨by first | rfl | (simp [*, errW_none, errW_some] <;> rfl), zh HB.out⟩
   replace c15 := Bool.eq_false_iff.mpr c15
   subst c15
   rw [if_neg zF] at H
   replace H := Option.bind_eq_some_iff.mp H
   obtain ⟨t151, A180, H⟩ := H
   have A18 := Aside0.mk A180
   clear A180
   by_cases c19 : t151 = true
   ·subst c19
    rw [if_pos rfl] at H
    obtain rfl := Option.some.inj H
    obtain ⟨⟨ad147, A147_0, c147_0, e147, hx147_0, hl147_0, hi147_0⟩, p147, q147⟩ := zW (at_L1 HR0_1.out x10_1)
    cases e147
    replace hx147_0 := zx HB.out hx147_0
    have HR147_0 := Aside0.mk hi147_0
    have HC147_0 := Aside0.mk hl147_0
    clear hi147_0 hl147_0
    have hnb20 := NB146_145.out
    have hnc20 := NB145_146.out
    obtain ⟨hcz21_0, hcz21_1, hfz21_0, hfz21_1⟩ := zC2 BK146
    obtain ⟨⟨ad148, A148_0, c148_0, e148, hx148_0, hl148_0, hi148_0⟩, p148, q148⟩ := zW (at_L1 HR1_1.out x10_1)
    cases e148
    replace hx148_0 := zx HB.out hx148_0
    have HR148_0 := Aside0.mk hi148_0
    have HC148_0 := Aside0.mk hl148_0
    clear hi148_0 hl148_0
    go_wp2_with (first | ((with_reducible refine gate_callee (f := 83) rfl ?_); refine zl 26 Tryz.func83 #[.slice A147_0 (rd_L1 l0_1 x10_1).length c147_0, .slice A148_0 (rd_L1 l1_1 x10_1).length c148_0] ?_; (with_reducible refine (spec_voBefore.calls k1 _ _ (rd_L1 l0_1 x10_1) _ _ (rd_L1 l1_1 x10_1) false _ ?side1 ?side2 ?side3 ?side4 A14.out).mono ?_); (case side1 => exact zQ (Kd.C_below HR147_0.out HB.out)); (case side2 => exact HC147_0.out); (case side3 => exact zQ (Kd.C_below HR148_0.out HB.out)); (case side4 => exact HC148_0.out); rintro e w' ⟨rfl, ⟨nd, rfl⟩⟩; refine ⟨_, rfl, ?_⟩; have p150 : 0 ≤ (x10_1 : Int) := zk; have q150 : x10_1 < (l1_1.length : Int) := zk; obtain ⟨ad150, A150_0, c150_0, e150, hx150_0, hl150_0, hi150_0⟩ := at_L1 HR1_1.out x10_1 p150 q150; obtain rfl : ad148 = ad150 := (by injection e150); replace hx150_0 := zx HB.out hx150_0; have HR150_0 := Aside0.mk hi150_0; have HC150_0 := Aside0.mk hl150_0; clear hi150_0 hl150_0; replace p150 := eq_true p150; replace q150 := eq_true q150; have ea_ := Option.some.inj (hx148_0.symm.trans hx150_0); injection ea_ with ea_ en_ ec_; subst ea_; subst ec_; clear en_) | ((with_reducible refine gate_callee (f := 83) rfl ?_); refine zl 33 Tryz.func83 #[.slice A148_0 (rd_L1 l1_1 x10_1).length c148_0, .slice A147_0 (rd_L1 l0_1 x10_1).length c147_0] ?_; (with_reducible refine (spec_voBefore.calls k1 _ _ (rd_L1 l1_1 x10_1) _ _ (rd_L1 l0_1 x10_1) true _ ?side1 ?side2 ?side3 ?side4 A18.out).mono ?_); (case side1 => exact zQ (Kd.C_below HR150_0.out (zh HB.out))); (case side2 => exact HC150_0.out); (case side3 => exact zQ (Kd.C_below HR147_0.out (zh HB.out))); (case side4 => exact HC147_0.out); rintro e w' ⟨rfl, ⟨nd, rfl⟩⟩; refine ⟨_, rfl, ?_⟩))
    go_ret
    exact ⟨by first | rfl | (simp [*, errW_none, errW_some] <;> rfl), zh HB.out⟩
   replace c19 := Bool.eq_false_iff.mpr c19
   subst c19
   rw [if_neg zF] at H
   have H' := Aside0.mk H
   clear H
   obtain ⟨⟨ad147, A147_0, c147_0, e147, hx147_0, hl147_0, hi147_0⟩, p147, q147⟩ := zW (at_L1 HR0_1.out x10_1)
   cases e147
   replace hx147_0 := zx HB.out hx147_0
   have HR147_0 := Aside0.mk hi147_0
   have HC147_0 := Aside0.mk hl147_0
   clear hi147_0 hl147_0
   have hnb22 := NB146_145.out
   have hnc22 := NB145_146.out
   obtain ⟨hcz23_0, hcz23_1, hfz23_0, hfz23_1⟩ := zC2 BK146
   obtain ⟨⟨ad148, A148_0, c148_0, e148, hx148_0, hl148_0, hi148_0⟩, p148, q148⟩ := zW (at_L1 HR1_1.out x10_1)
   cases e148
   replace hx148_0 := zx HB.out hx148_0
   have HR148_0 := Aside0.mk hi148_0
   have HC148_0 := Aside0.mk hl148_0
   clear hi148_0 hl148_0
   go_wp2_with (first | ((with_reducible refine gate_callee (f := 83) rfl ?_); refine zl 26 Tryz.func83 #[.slice A147_0 (rd_L1 l0_1 x10_1).length c147_0, .slice A148_0 (rd_L1 l1_1 x10_1).length c148_0] ?_; (with_reducible refine (spec_voBefore.calls k1 _ _ (rd_L1 l0_1 x10_1) _ _ (rd_L1 l1_1 x10_1) false _ ?side1 ?side2 ?side3 ?side4 A14.out).mono ?_); (case side1 => exact zQ (Kd.C_below HR147_0.out HB.out)); (case side2 => exact HC147_0.out); (case side3 => exact zQ (Kd.C_below HR148_0.out HB.out)); (case side4 => exact HC148_0.out); rintro e w' ⟨rfl, ⟨nd, rfl⟩⟩; refine ⟨_, rfl, ?_⟩; have p150 : 0 ≤ (x10_1 : Int) := zk; have q150 : x10_1 < (l1_1.length : Int) := zk; obtain ⟨ad150, A150_0, c150_0, e150, hx150_0, hl150_0, hi150_0⟩ := at_L1 HR1_1.out x10_1 p150 q150; obtain rfl : ad148 = ad150 := (by injection e150); replace hx150_0 := zx HB.out hx150_0; have HR150_0 := Aside0.mk hi150_0; have HC150_0 := Aside0.mk hl150_0; clear hi150_0 hl150_0; replace p150 := eq_true p150; replace q150 := eq_true q150; have ea_ := Option.some.inj (hx148_0.symm.trans hx150_0); injection ea_ with ea_ en_ ec_; subst ea_; subst ec_; clear en_) | ((with_reducible refine gate_callee (f := 83) rfl ?_); refine zl 33 Tryz.func83 #[.slice A148_0 (rd_L1 l1_1 x10_1).length c148_0, .slice A147_0 (rd_L1 l0_1 x10_1).length c147_0] ?_; (with_reducible refine (spec_voBefore.calls k1 _ _ (rd_L1 l1_1 x10_1) _ _ (rd_L1 l0_1 x10_1) false _ ?side1 ?side2 ?side3 ?side4 A18.out).mono ?_); (case side1 => exact zQ (Kd.C_below HR150_0.out (zh HB.out))); (case side2 => exact HC150_0.out); (case side3 => exact zQ (Kd.C_below HR147_0.out (zh HB.out))); (case side4 => exact HC147_0.out); rintro e w' ⟨rfl, ⟨nd, rfl⟩⟩; refine ⟨_, rfl, ?_⟩))
   go_roundg k1
   case measure => have := HK1.out; omega
   case rel => exact ⟨(wrap64 (x10_1 + 1)), zE, H', zO HK1, ⟨zb BK145.out⟩, ⟨zb BK146.out⟩, ⟨zh HB.out⟩⟩
def spec_voList.l0 : Nat → Int → List Int → Int → Option (List Int)
 | 0, _, _, _ => none
 | k + 1, x0, x3, x4 => if 0 ≤ x4 then (if (shr .i64 x0 x4) > 0 then (if (Int.tmod (shr .i64 x0 x4) 2) = 1 then (if x3.length < 17592186044416 then (spec_voList.l0 k x0 (x3 ++ [x4]) (wrap64 (x4 + 1))) else (none)) else (spec_voList.l0 k x0 x3 (wrap64 (x4 + 1)))) else (some x3)) else (none)
def spec_voList.f (k : Nat) (a0 : Int) : Option (List Int) := spec_voList.l0 k a0 ([] : List Int) 0
theorem spec_voList.mono_l : ∀ k, (∀ y0 y1 y2, LeO (spec_voList.l0 k y0 y1 y2) (spec_voList.l0 (k + 1) y0 y1 y2))
 | 0 => fun _ _ _ r h => by simp [spec_voList.l0] at h
 | k + 1 => by
  have ih0 := spec_voList.mono_l k
  ·intro y0 y1 y2
   unfold spec_voList.l0
   repeat' first
   | (with_reducible exact ih0 _ _ _)
   | (with_reducible exact LeO.refl _)
   | (with_reducible exact LeO.none _)
   | (with_reducible refine LeO.ite ?_ ?_)
   | (with_reducible refine LeO.bind ?_ (fun _ => ?_))
   | exact ih0 _ _ _
   | exact LeO.none _
   | refine LeO.ite ?_ ?_
   | refine LeO.bind ?_ (fun _ => ?_)
theorem spec_voList.mono : ∀ a0 k, LeO (spec_voList.f k a0) (spec_voList.f (k + 1) a0) := by
 intro a0 k
 have ih0 := spec_voList.mono_l k
 unfold spec_voList.f
 repeat' first
   | (with_reducible exact ih0 _ _ _)
   | (with_reducible exact LeO.refl _)
   | (with_reducible exact LeO.none _)
   | (with_reducible refine LeO.ite ?_ ?_)
   | (with_reducible refine LeO.bind ?_ (fun _ => ?_))
   | exact ih0 _ _ _
   | exact LeO.none _
   | refine LeO.ite ?_ ?_
   | refine LeO.bind ?_ (fun _ => ?_)
set_option maxHeartbeats 8000000 in
set_option maxRecDepth 100000 in
theorem spec_voList.calls (k : Nat) (a0 : Int) (r : List Int) (w : World) (h : spec_voList.f k a0 = some r) :
  Calls Tryz.prog 114 #[.int .i64 a0] w fun e w' => ∃ v0_ : Value, e = .returned (v0_) ∧ Kd.R (Kd.int .i64) 3 w' w.heap.size (fun _ => True) v0_ r ∧ Below w.heap.size w w' := by
 have HB := Aside0.mk (Below.refl w.heap.size w)
 have H : (spec_voList.l0 k a0 ([] : List Int) 0) = some r := h
 clear h
 have H' := Aside0.mk H
 clear H
 go_enter Tryz.func114, Tryz.ntmps114
 go_wp2
 go_loopg [3, 4] k (fun kq v3 v4 w' => ∃ (x3_1 : List Int) (x4_1 : Int), v4 = .int .i64 x4_1 ∧ Aside0 (spec_voList.l0 kq a0 x3_1 x4_1 = some r) ∧ Aside0 (kq ≤ k) ∧ Aside0 (Kd.R (Kd.int .i64) 3 w' w.heap.size (fun _ => True) v3 x3_1) ∧ Aside0 (Below w.heap.size w w'))
 case atStart => exact ⟨(([] : List Int)), (0), zE, H', ⟨Nat.le_refl _⟩, ⟨by first | exact Kd.R_nil _ _ _ _ _ | exact Kd.N_nil _ _ _ _ _ | exact Kd.V_nil _ _ _ _ _ | exact Kd.Q_nil _ _ _ _ _ | exact Kd.S_nil _ _ _ _ _⟩, ⟨zh HB.out⟩⟩
 case round =>
  clear H'
  try clear c1
  obtain ⟨x3_1, x4_1, rfl, HA, HK1, HO_3, HB⟩ := hrel
  cases gk with
  | zero => exact absurd HA.out (by simp [spec_voList.l0])
  | succ k1 =>
   have H := HA.out
   clear HA
   simp only [spec_voList.l0] at H
   by_cases c2 : 0 ≤ x4_1
   rotate_left
   ·rw [if_neg c2] at H
    cases H
   rw [if_pos c2] at H
   have c2b0 := eq_true c2
   have c2b1 := decide_eq_true c2
   clear c2
   obtain ⟨ji3, hji3⟩ : ∃ j_ : Int, (shr .i64 a0 x4_1) = j_ := ⟨_, rfl⟩
   rw [hji3] at H
   obtain ⟨hji3_, hji3z⟩ := zI hji3
   by_cases c4 : (ji3) > 0
   rotate_left
   ·rw [if_neg c4] at H
    have c4b0 := decide_eq_false c4
    clear c4
    obtain rfl := Option.some.inj H
    go_wp2
    go_ret
    exact ⟨_, by first | rfl | (simp [errW_none, errW_some] <;> rfl) | (simp only [← hji3]; first | rfl | (simp [errW_none, errW_some] <;> rfl)) | (simp [*, errW_none, errW_some] <;> rfl), by (with_reducible repeat (first | apply Kd.R_alloc | apply Kd.R_drewN | apply Kd.R_drew)); exact HO_3.out, zh HB.out⟩
   rw [if_pos c4] at H
   have c4b0 := decide_eq_true c4
   clear c4
   have c5b0 := eq_true (zk : 0 ≤ x4_1)
   by_cases c6 : (Int.tmod (ji3) 2) = 1
   rotate_left
   ·rw [if_neg c6] at H
    have c6b0 := beq_eq_false_iff_ne.mpr c6
    have c6b1 := bne_iff_ne.mpr c6
    have H' := Aside0.mk H
    clear H
    go_wp2
    go_roundg k1
    case measure => have := HK1.out; omega
    case rel => exact ⟨(x3_1), (wrap64 (x4_1 + 1)), zE, H', zO HK1, ⟨zr HO_3.out⟩, ⟨zh HB.out⟩⟩
   rw [if_pos c6] at H
   have c6b0 := beq_iff_eq.mpr c6
   have c6b1 := bne_eq_false_iff_eq.mpr c6
   clear c6
   by_cases c7 : x3_1.length < 17592186044416
   rotate_left
   ·rw [if_neg c7] at H
    cases H
   rw [if_pos c7] at H
   have LMc7 := Aside0.mk c7
   clear c7
   obtain ⟨y157, hy157⟩ : ∃ y_ : List Int, y_ = (x3_1 ++ [x4_1]) := ⟨_, rfl⟩
   rw [← hy157] at H
   have Ny157 := Aside0.mk hy157
   clear hy157
   have H' := Aside0.mk H
   clear H
   go_wp2_with (first | ((with_reducible refine gate_builtin (b := .append) (xs := #[.tmp 16, .tmp 18]) rfl ?_); at_builtin; refine Kd.R_append (Kd.int .i64) (w0 := w) w.heap.size rfl (.tmp 16) (.tmp 18) 65 3 (.int .i64 0) 8 rfl Tryz.underlying65 info3 rfl (by decide) (by omega) u3 x3_1 x4_1 [.int .i64 x4_1] (fun _ => True) (fun _ => False) rfl rfl ?aP (fun _ hk => hk.elim) ?aF ?aO ?aB ?aS ?aL ?_; (case aP => exact rfl); (case aB => exact (zh HB.out)); (case aF => exact (fun _ _ => trivial)); (case aO => exact (zr HO_3.out)); (case aS => exact (below_size (zh HB.out))); (case aL => have := LMc7.out; omega); intro v158 w8 ho hb hg hat; rw [← Ny157.out] at ho; have HO159 := Aside0.mk (ho); replace HB := Aside0.mk (hb); clear HO_3 ho hb hg hat))
   go_roundg k1
   case measure => have := HK1.out; omega
   case rel => exact ⟨(y157), (wrap64 (x4_1 + 1)), zE, H', zO HK1, ⟨zr HO159.out⟩, ⟨zh HB.out⟩⟩
def impl_within.f (a0 : Int) (a1 : Int) (a2 : Int) : Option (Bool) := if a0 ≥ a1 then (some (decide (a0 ≤ a2))) else (some false)
set_option maxHeartbeats 8000000 in
set_option maxRecDepth 100000 in
theorem impl_within.calls (a0 : Int) (a1 : Int) (a2 : Int) (r : Bool) (w : World) (h : impl_within.f a0 a1 a2 = some r) :
  Calls Tryz.prog 88 #[.int .i64 a0, .int .i64 a1, .int .i64 a2] w fun e w' => e = .returned (.bool r) ∧ Drawn0 w w' := by
 have H : (if a0 ≥ a1 then (some (decide (a0 ≤ a2))) else (some false)) = some r := h
 clear h
 by_cases c4 : a0 ≥ a1
 ·rw [if_pos c4] at H
  have c4b0 := decide_eq_true c4
  clear c4
  obtain rfl := Option.some.inj H
  go_enter Tryz.func88, Tryz.ntmps88
  go_wp2
  go_ret
  exact za1
 rw [if_neg c4] at H
 have c4b0 := decide_eq_false c4
 clear c4
 obtain rfl := Option.some.inj H
 go_enter Tryz.func88, Tryz.ntmps88
 go_wp2
 go_ret
 exact za1
def cmp_isNaN_int.f (a0 : Int) : Option (Bool) := some (a0 != a0)
set_option maxHeartbeats 8000000 in
set_option maxRecDepth 100000 in
theorem cmp_isNaN_int.calls (a0 : Int) (r : Bool) (w : World) (h : cmp_isNaN_int.f a0 = some r) :
  Calls Tryz.prog 143 #[.int .i64 a0] w fun e w' => e = .returned (.bool r) ∧ Drawn0 w w' := by
 have H : (some (a0 != a0)) = some r := h
 clear h
 obtain rfl := Option.some.inj H
 go_enter Tryz.func143, Tryz.ntmps143
 go_wp2
 go_ret
 exact za1
end Go.Proofs.YtmbkmabpebjboaaGreat.Q
end
section
namespace Go.Proofs.YtmbkmabpebjboaaGreat.Q
open Go.RowKit Go.Proofs.YtmbkmabpebjboaaGreatW.PrintWords Go.Proofs.YtmbkmabpebjboaaGreatW.PrintLast Go.Proofs.YtmbkmabpebjboaaGreatW.PrintMore
set_option linter.unusedVariables false
set_option linter.unusedSimpArgs false
structure Q_ (W : World) (ok : Nat → Prop) where
  A : Option Addr
  c : Nat
  l : List Int
  hl : l.length ≤ c
  hF : Kd.F (Kd.int .i64) W ok A l.length l
section
variable {W w : World} {ok ok' : Nat → Prop}
@[reducible] def Q_.val (x : Q_ W ok) : Value := .slice x.A x.l.length x.c
def Q_.nil : Q_ W ok := ⟨none, 0, [], Nat.le_refl _, Kd.F_nil _ _ _⟩
def KQ_ (W : World) (ok : Nat → Prop) : Kd (Q_ W ok) := Kd.scalar Q_.val (fun _ => rfl)
theorem at_Q_ {A : Option Addr} {n : Nat} {xs : List (Q_ W ok)} (h : (KQ_ W ok).C w A n xs) (i : Int) (h0 : 0 ≤ i) (h1 : i < n) : ∃ ad, A = some ad ∧ w.cell? (ad.add i.toNat) = some (Q_.val (rdOf Q_.nil xs i)) :=
  ReadsOf.at_ (Kd.reads_of_C (enc := Q_.val) (d := Q_.nil) (h1 := fun _ => rfl) h) i h0 h1
theorem Q_of_F {A : Option Addr} {n : Nat} {xs : List (List Int)} (h : Kd.F (Kd.slice 3 (Kd.int .i64)) W ok A n xs) : ∃ qs : List (Q_ W ok), qs.map Q_.l = xs ∧ Kd.C (KQ_ W ok) W A n qs := by
  have hC := Kd.F_now h
  have hn : xs.length = n := hC.1
  have key : ∀ i : Nat, ∃ q : Q_ W ok, i < n → q.l = xs.getD i [] ∧ ∀ ad, A = some ad → W.cell? (ad.add i) = some q.val := by
    intro i
    by_cases hi : i < n
    · obtain ⟨ad, c, rfl, _, hK, hcc, _⟩ := Kd.F_get h [] (i : Int) (by omega) (by omega)
      obtain ⟨A', c', rfl, hl, hF⟩ := Kd.FK_slice_open hK
      rw [Int.toNat_natCast] at hl hF hcc
      refine ⟨⟨A', c', _, hl, hF⟩, fun _ => ⟨rfl, fun ad' e => ?_⟩⟩
      injection e with e
      subst e
      have := hcc 0 _ rfl
      rwa [show i * (Kd.slice 3 (Kd.int .i64)).sz + 0 = i from by show i * 1 + 0 = i; omega] at this
    · exact ⟨Q_.nil, fun e => absurd e hi⟩
  obtain ⟨f, hf⟩ := Classical.axiomOfChoice key
  refine ⟨(List.range n).map f, ?_, ?_, hC.2.1, fun h0 => ?_⟩
  · refine List.ext_getElem (by simp [hn]) fun i h1 h2 => ?_
    have hi : i < n := by omega
    rw [List.getElem_map, List.getElem_map, List.getElem_range, (hf i hi).1, List.getD_eq_getElem?_getD, List.getElem?_eq_getElem h2]; rfl
  · simp
  · obtain ⟨ad, rfl, _⟩ := hC.2.2 h0
    refine ⟨ad, rfl, fun j p hj => ?_⟩
    rw [List.getElem?_map] at hj
    obtain ⟨j', hj', rfl⟩ := Option.map_eq_some_iff.1 hj
    obtain ⟨hlt, e⟩ := List.getElem?_eq_some_iff.1 hj'
    rw [List.getElem_range] at e
    subst e
    refine ⟨[(f j).val], rfl, rfl, fun i u hu => ?_⟩
    cases i with
    | zero =>
      injection hu with hu
      subst hu
      rw [show j * (KQ_ W ok).sz + 0 = j from by show j * 1 + 0 = j; omega]
      exact (hf j (by simpa using hlt)).2 ad rfl
    | succ i => simp at hu
theorem F_of_Q {A : Option Addr} {n : Nat} {qs : List (Q_ W ok)} (hb : Below W.heap.size W w) (h : Kd.F (KQ_ W ok) w ok' A n qs) (hok : ∀ k, ok k → ok' k) : Kd.F (Kd.slice 3 (Kd.int .i64)) w ok' A n (qs.map Q_.l) := by
  intro W' hW
  obtain ⟨h1, h2, h3⟩ := h W' hW
  refine ⟨by rw [List.length_map]; exact h1, h2, fun h0 => ?_⟩
  obtain ⟨ad, e, hc⟩ := h3 h0
  refine ⟨ad, e, fun j p hj => ?_⟩
  rw [List.getElem?_map] at hj
  obtain ⟨q, hq, rfl⟩ := Option.map_eq_some_iff.1 hj
  obtain ⟨c, hcl, hK, hcc⟩ := hc j q hq
  have hK1 : c = [q.val] := hK
  subst hK1
  exact ⟨_, rfl, ⟨q.A, q.c, rfl, q.hl, (Kd.F_mono (Kd.F_below q.hF hb) hok) W' hW⟩, hcc⟩
end
section
variable {W_ : World} {ok_ : Nat → Prop}
def spec_voBefore_q.f (k : Nat) (x y : Q_ W_ ok_) : Option Bool := spec_voBefore.f k x.l y.l
theorem spec_voBefore_q.calls (k : Nat) (x y : Q_ W_ ok_) (r : Bool) (w : World) (h : spec_voBefore_q.f k x y = some r) (hB : Below W_.heap.size W_ w := by repeat (first | (with_reducible first | exact Aside0.out (by with_reducible assumption) | apply below_alloc | apply pw_below_drewN | apply below_drew1) | exact Aside0.out (by with_reducible assumption))) :
    Calls Tryz.prog 83 #[Q_.val x, Q_.val y] w fun e w' => e = .returned (.bool r) ∧ Below w.heap.size w w' :=
  (spec_voBefore.calls k x.A x.c x.l y.A y.c y.l r w (Kd.F_now (Kd.F_below x.hF hB)) x.hl (Kd.F_now (Kd.F_below y.hF hB)) y.hl h).mono fun _ _ ⟨he, hd⟩ => ⟨he, hd.below⟩
mutual
def spec_voSorted_q.l0 : Nat → List (Q_ W_ ok_) → List (Q_ W_ ok_) → Int → Int → Option (List (Q_ W_ ok_))
 | 0, _, _, _, _ => none
 | k + 1, x3, x8, x9, x10 => if x10 < x9 then (if 0 ≤ x10 then (if x10 < (x8.length : Int) then (spec_voSorted_q.l1 k x3 (rdOf Q_.nil x8 x10) 0 x8 x9 x10) else (none)) else (none)) else (some x3)
def spec_voSorted_q.l1 : Nat → List (Q_ W_ ok_) → (Q_ W_ ok_) → Int → List (Q_ W_ ok_) → Int → Int → Option (List (Q_ W_ ok_))
 | 0, _, _, _, _, _, _ => none
 | k + 1, x3, x5, x6, x8, x9, x10 => if x6 < (x3.length : Int) then (if 0 ≤ x6 then ((spec_voBefore_q.f k (rdOf Q_.nil x3 x6) x5).bind fun t103 => (if t103 = true then (spec_voSorted_q.l1 k x3 x5 (wrap64 (x6 + 1)) x8 x9 x10) else ((some (([] : List (Q_ W_ ok_)) : List (Q_ W_ ok_))).bind fun y104 => (if x6 ≤ (x3.length : Int) then ((some (x3.take (x6 : Int).toNat : List (Q_ W_ ok_))).bind fun y107 => (if y104.length + y107.length < 5864062014805 then ((some (y104 ++ y107 : List (Q_ W_ ok_))).bind fun y111 => (if y111.length < 5864062014805 then ((some (y111 ++ [x5] : List (Q_ W_ ok_))).bind fun y114 => ((some (x3.drop (x6 : Int).toNat : List (Q_ W_ ok_))).bind fun y117 => (if y114.length + y117.length < 5864062014805 then (spec_voSorted_q.l0 k (y114 ++ y117) x8 x9 (wrap64 (x10 + 1))) else (none)))) else (none))) else (none))) else (none))))) else (none)) else ((some (([] : List (Q_ W_ ok_)) : List (Q_ W_ ok_))).bind fun y124 => (if 0 ≤ x6 then (if x6 ≤ (x3.length : Int) then ((some (x3.take (x6 : Int).toNat : List (Q_ W_ ok_))).bind fun y127 => (if y124.length + y127.length < 5864062014805 then ((some (y124 ++ y127 : List (Q_ W_ ok_))).bind fun y131 => (if y131.length < 5864062014805 then ((some (y131 ++ [x5] : List (Q_ W_ ok_))).bind fun y134 => ((some (x3.drop (x6 : Int).toNat : List (Q_ W_ ok_))).bind fun y137 => (if y134.length + y137.length < 5864062014805 then (spec_voSorted_q.l0 k (y134 ++ y137) x8 x9 (wrap64 (x10 + 1))) else (none)))) else (none))) else (none))) else (none)) else (none)))
end
def spec_voSorted_q.f (k : Nat) (l0 : List (Q_ W_ ok_)) : Option (List (Q_ W_ ok_)) := spec_voSorted_q.l0 k ([] : List (Q_ W_ ok_)) l0 (l0.length : Int) 0
set_option maxHeartbeats 8000000 in
set_option maxRecDepth 100000 in
theorem spec_voSorted_q.calls (w : World) (ok_ : Nat → Prop) (k : Nat) (A0 : Option Addr) (c0 : Nat) (l0 : List (Q_ w ok_)) (r : List (Q_ w ok_)) (hr0 : Kd.C (KQ_ w ok_) w A0 l0.length l0) (hc0 : l0.length ≤ c0) (h : spec_voSorted_q.f k l0 = some r) :
  Calls Tryz.prog 161 #[.slice A0 l0.length c0] w fun e w' => ∃ v0_ : Value, e = .returned (v0_) ∧ Kd.R (KQ_ w ok_) 65 w' w.heap.size (fun _ => True) v0_ r ∧ Below w.heap.size w w' := by
 have HR0 := Aside0.mk hr0
 have HC0 := Aside0.mk hc0
 clear hr0 hc0
 have HB := Aside0.mk (Below.refl w.heap.size w)
 have H : (spec_voSorted_q.l0 k ([] : List (Q_ w ok_)) l0 (l0.length : Int) 0) = some r := h
 clear h
 have H' := Aside0.mk H
 clear H
 go_enter Tryz.func161, Tryz.ntmps161
 go_wp2
 go_loopg [3, 10] k (fun kq v3 v10 w' => ∃ (x3_1 : List (Q_ w ok_)) (x10_1 : Int), v10 = .int .i64 x10_1 ∧ Aside0 (spec_voSorted_q.l0 kq x3_1 l0 (l0.length : Int) x10_1 = some r) ∧ Aside0 (kq ≤ k) ∧ Aside0 (Kd.R (KQ_ w ok_) 65 w' w.heap.size (fun _ => True) v3 x3_1) ∧ Aside0 (Below w.heap.size w w'))
 case atStart => exact ⟨(([] : List (Q_ w ok_))), (0), zE, H', ⟨Nat.le_refl _⟩, ⟨by first | exact Kd.R_nil _ _ _ _ _ | exact Kd.N_nil _ _ _ _ _ | exact Kd.V_nil _ _ _ _ _ | exact Kd.Q_nil _ _ _ _ _ | exact Kd.S_nil _ _ _ _ _⟩, ⟨zh HB.out⟩⟩
 case round =>
  clear H'
  try clear c1
  obtain ⟨x3_1, x10_1, rfl, HA, HK1, HO_3, HB⟩ := hrel
  cases gk with
  | zero => exact absurd HA.out (by simp [spec_voSorted_q.l0])
  | succ k1 =>
   have H := HA.out
   clear HA
   simp only [spec_voSorted_q.l0] at H
   by_cases c2 : x10_1 < (l0.length : Int)
   rotate_left
   ·rw [if_neg c2] at H
    have c2b0 := decide_eq_false c2
    clear c2
    obtain rfl := Option.some.inj H
    go_wp2
    go_ret
    exact ⟨_, by first | rfl | (simp [errW_none, errW_some] <;> rfl) | (simp [*, errW_none, errW_some] <;> rfl), by (with_reducible repeat (first | apply Kd.R_alloc | apply Kd.R_drewN | apply Kd.R_drew)); exact HO_3.out, zh HB.out⟩
   rw [if_pos c2] at H
   have c2b0 := decide_eq_true c2
   clear c2
   by_cases c3 : 0 ≤ x10_1
   rotate_left
   ·rw [if_neg c3] at H
    cases H
   rw [if_pos c3] at H
   have c3b0 := decide_eq_true c3
   clear c3
   by_cases c4 : x10_1 < (l0.length : Int)
   rotate_left
   ·rw [if_neg c4] at H
    cases H
   rw [if_pos c4] at H
   have c4b0 := decide_eq_true c4
   clear c4
   have H' := Aside0.mk H
   clear H
   obtain ⟨⟨ad101, e101, hx101_0⟩, p101, q101⟩ := zW (at_Q_ HR0.out x10_1)
   cases e101
   replace hx101_0 := zx HB.out hx101_0
   go_wp2
   go_loopg [6] k1 (fun kq v6 w' => ∃ (x6_2 : Int), v6 = .int .i64 x6_2 ∧ Aside0 (spec_voSorted_q.l1 kq x3_1 (rdOf Q_.nil l0 x10_1) x6_2 l0 (l0.length : Int) x10_1 = some r) ∧ Aside0 (kq ≤ k1) ∧ Aside0 (Kd.R (KQ_ w ok_) 65 w' w.heap.size (fun _ => True) u3 x3_1) ∧ Aside0 (Below w.heap.size w w'))
   case atStart => exact ⟨(0), zE, H', ⟨Nat.le_refl _⟩, ⟨zr HO_3.out⟩, ⟨zh HB.out⟩⟩
   case round =>
    clear H'
    try clear c1
    try clear p1
    try clear q1
    try clear hx1
    try clear c2
    try clear c2b0
    try clear p2
    try clear c3
    try clear c3b0
    try clear c4
    try clear c4b0
    try clear hx101_0
    try clear p101
    try clear q101
    obtain ⟨x6_2, rfl, HA, HK2, HO_3, HB⟩ := hrel
    cases gk with
    | zero => exact absurd HA.out (by simp [spec_voSorted_q.l1])
    | succ k2 =>
     have H := HA.out
     clear HA
     simp only [spec_voSorted_q.l1] at H
     by_cases c5 : x6_2 < (x3_1.length : Int)
     rotate_left
     ·rw [if_neg c5] at H
      have c5b0 := decide_eq_false c5
      clear c5
      replace H := zY H
      obtain ⟨y124, Ny124, H⟩ := H
      by_cases c27 : 0 ≤ x6_2
      rotate_left
      ·rw [if_neg c27] at H
       cases H
      rw [if_pos c27] at H
      have c27b0 := eq_true c27
      have c27b1 := decide_eq_true c27
      clear c27
      by_cases c28 : x6_2 ≤ (x3_1.length : Int)
      rotate_left
      ·rw [if_neg c28] at H
       cases H
      rw [if_pos c28] at H
      have c28b0 := eq_true c28
      have c28b1 := decide_eq_true c28
      clear c28
      replace H := zY H
      obtain ⟨y127, Ny127, H⟩ := H
      by_cases c29 : y124.length + y127.length < 5864062014805
      rotate_left
      ·rw [if_neg c29] at H
       cases H
      rw [if_pos c29] at H
      have LMc29 := Aside0.mk c29
      clear c29
      replace H := zY H
      obtain ⟨y131, Ny131, H⟩ := H
      by_cases c30 : y131.length < 5864062014805
      rotate_left
      ·rw [if_neg c30] at H
       cases H
      rw [if_pos c30] at H
      have LMc30 := Aside0.mk c30
      clear c30
      replace H := zY H
      obtain ⟨y134, Ny134, H⟩ := H
      have c31b0 := eq_true (zk : 0 ≤ x6_2)
      have c32b0 := eq_true (zk : x6_2 ≤ (x3_1.length : Int))
      replace H := zY H
      obtain ⟨y137, Ny137, H⟩ := H
      by_cases c33 : y134.length + y137.length < 5864062014805
      rotate_left
      ·rw [if_neg c33] at H
       cases H
      rw [if_pos c33] at H
      have LMc33 := Aside0.mk c33
      clear c33
      obtain ⟨y141, hy141⟩ : ∃ y_ : List (Q_ w ok_), y_ = (y134 ++ y137) := ⟨_, rfl⟩
      rw [← hy141] at H
      have Ny141 := Aside0.mk hy141
      clear hy141
      have H' := Aside0.mk H
      clear H
      obtain ⟨Ao34, co34, eo34⟩ := Kd.R_slice HO_3.out
      subst eo34
      go_wp2_with (first | ((with_reducible refine gate_dst (N := 28) rfl ?_); refine Kd.R_lit (KQ_ w ok_) _ 65 ?hg (N := 28) ?hd (xs := ([] : List (Q_ w ok_))) (inner := []) (ok := fun _ => True) (okp := fun _ => True) ?hr ?hp (fun _ hk => hk) trivial (Below.refl _ _) (Nat.le_refl _) (by simp) ?_; (case hd => rfl); (case hg => rfl); (case hr => first | (go_simp; done) | (go_simp; rfl)); (case hp => exact (Reps.none _ _)); intro v125 w35 ho36 hb hg_ hnew_; clear hg_ hnew_; (first | rw [← Ny124.out] at ho36 | (simp only [Int.reduceToNat] at ho36; rw [← Ny124.out] at ho36)); have HO126 := Aside0.mk (Kd.R_lower (Kd.R_new' ho36 (Kd.R_lt (zr HO_3.out))) (below_size (zh HB.out))); replace HO_3 := Aside0.mk (Kd.R_elder' (zr HO_3.out) (Kd.R_base ho36) hb); replace HB := zH hb HB; clear hb ho36; have q37 : (x6_2 : Int) ≤ ((x3_1.length : Int) : Int) := zk; obtain ⟨i037, hi037, _, hsz37, _⟩ := info_parts info65; have hroom37 : x3_1.length ≤ co34 := (Kd.R_reads' HO_3.out).2.1; have hC37 : Kd.C (KQ_ w ok_) _ Ao34 x3_1.length x3_1 := (Kd.R_reads' HO_3.out).2.2; have hcut37 := cut_to (P := Tryz.prog) 22 65 .i64 Tryz.underlying22 hi037 Ao34 x3_1.length co34 x6_2 (zk) q37 hroom37; have hr37 := Kd.C_take (m := (x6_2 : Int).toNat) hC37 (by omega); have hy37 : y127.length = (x6_2 : Int).toNat := (by rw [Ny127.out, List.length_take]; omega); rw [← Ny127.out] at hr37; rw [← hy37] at hcut37; have HR130 := Aside0.mk hr37; have HC130 := Aside0.mk (show y127.length ≤ co34 from by omega); clear hr37 hC37 hroom37 hi037 hsz37; have KY37 := Aside0.mk hy37; clear hy37; have KL37 := Aside0.mk (show (x6_2 : Int).toNat ≤ x3_1.length from by omega); replace q37 := eq_true q37) | ((with_reducible refine gate_builtin (b := .append) (xs := #[.tmp 28, .tmp 31]) rfl ?_); at_builtin; refine Kd.R_append_rows (KQ_ w ok_) (w0 := w) w.heap.size rfl (.tmp 28) (.tmp 31) 22 65 (.slice none 0 0) 24 rfl Tryz.underlying22 info65 rfl (by first | decide | exact Nat.zero_lt_one) (by omega) v125 y124 y127 _ _ _ (fun k_ => some k_ ≠ (.slice Ao34 x3_1.length co34 : Value).ownBlock) (fun _ => False) rfl rfl ?aO ?aR (fun _ _ h => h) (fun _ h => h.elim) ?aF ?aB ?aS ?aL ?_; (case aR => repeat (first | exact (by repeat (first | (with_reducible exact HR130.out) | (with_reducible refine Kd.C_alloc ?_ _) | (with_reducible refine Kd.C_drewN ?_ _) | (with_reducible refine Kd.C_drew ?_) | exact HR130.out)) | (with_reducible refine Kd.C_alloc ?_ _) | (with_reducible refine Kd.C_drewN ?_ _) | (with_reducible refine Kd.C_drew ?_))); (case aB => exact (zh HB.out)); (case aF => exact (fun k_ hk => Kd.fresh' (Kd.R_lt (zr HO_3.out)) k_ hk)); (case aO => exact (zr (Kd.R_mono HO126.out (fun _ hk => hk.2)))); (case aS => exact (below_size (zh HB.out))); (case aL => have := LMc29.out; omega); intro v132 w38 ho hb hg hat; rw [← Ny131.out] at ho; have HO133 := Aside0.mk (ho); replace HB := Aside0.mk (hb); replace HR130 := Aside0.mk ((show Kd.C (KQ_ w ok_) w38 Ao34 y127.length y127 from by rw [Ny127.out]; exact Kd.C_take (m := (x6_2 : Int).toNat) ((Kd.R_reads' (Kd.R_after (ok := (fun _ => True)) (zr HO_3.out) hg hat)).2.2) KL37.out)); replace HO_3 := Aside0.mk (Kd.R_after (ok := (fun _ => True)) (zr HO_3.out) hg hat); clear HO126 ho hb hg hat) | ((with_reducible refine gate_builtin (b := .append) (xs := #[.tmp 32, .tmp 34]) rfl ?_); at_builtin; refine Kd.R_append (KQ_ w ok_) (w0 := w) w.heap.size rfl (.tmp 32) (.tmp 34) 22 65 (.slice none 0 0) 24 rfl Tryz.underlying22 info65 rfl (by first | decide | exact Nat.zero_lt_one) (by omega) v132 y131 (rdOf Q_.nil l0 x10_1) [Q_.val (rdOf Q_.nil l0 x10_1)] (fun k_ => some k_ ≠ (.slice Ao34 x3_1.length co34 : Value).ownBlock) (fun _ => False) rfl rfl ?aP (fun _ hk => hk.elim) ?aF ?aO ?aB ?aS ?aL ?_; (case aP => exact rfl); (case aB => exact (zh HB.out)); (case aF => exact (fun k_ hk => Kd.fresh' (Kd.R_lt (zr HO_3.out)) k_ hk)); (case aO => exact (zr HO133.out)); (case aS => exact (below_size (zh HB.out))); (case aL => have := LMc30.out; omega); intro v135 w39 ho hb hg hat; rw [← Ny134.out] at ho; have HO136 := Aside0.mk (ho); replace HB := Aside0.mk (hb); replace HR130 := Aside0.mk ((show Kd.C (KQ_ w ok_) w39 Ao34 y127.length y127 from by rw [Ny127.out]; exact Kd.C_take (m := (x6_2 : Int).toNat) ((Kd.R_reads' (Kd.R_after (ok := (fun _ => True)) (zr HO_3.out) hg hat)).2.2) KL37.out)); replace HO_3 := Aside0.mk (Kd.R_after (ok := (fun _ => True)) (zr HO_3.out) hg hat); clear HO133 ho hb hg hat; have q40 : (x6_2 : Int) ≤ ((x3_1.length : Int) : Int) := zk; obtain ⟨i040, hi040, _, hsz40, _⟩ := info_parts info65; have hroom40 : x3_1.length ≤ co34 := (Kd.R_reads' HO_3.out).2.1; have hC40 : Kd.C (KQ_ w ok_) _ Ao34 x3_1.length x3_1 := (Kd.R_reads' HO_3.out).2.2; have q040 : (0 : Int) ≤ (x6_2 : Int) := zk; have hcut40 := cut_from (P := Tryz.prog) 22 65 .i64 Tryz.underlying22 hi040 1 hsz40 Ao34 x3_1.length co34 x6_2 q040 q40; have hr40 := Kd.C_drop (m := (x6_2 : Int).toNat) (c := co34) hC40 (by omega) hroom40; obtain ⟨A40, hA40⟩ : ∃ A1, A1 = (if co34 = (x6_2 : Int).toNat then Ao34 else (Ao34 : Option Addr).map (·.add ((x6_2 : Int).toNat * 1))) := ⟨_, rfl⟩; obtain ⟨c40, hc40⟩ : ∃ c1, c1 = co34 - (x6_2 : Int).toNat := ⟨_, rfl⟩; have hy40 : y137.length = x3_1.length - (x6_2 : Int).toNat := (by rw [Ny137.out, List.length_drop] <;> omega); rw [show (x3_1).drop (x6_2 : Int).toNat = y137 from Ny137.out.symm] at hr40; replace hr40 : Kd.C (KQ_ w ok_) _ A40 y137.length y137 := (by rw [hA40]; exact hr40); rw [← hy40, ← hA40, ← hc40] at hcut40; have HR140 := Aside0.mk hr40; have HC140 := Aside0.mk (show y137.length ≤ c40 from by rw [hy40, hc40]; exact Nat.sub_le_sub_right hroom40 _); clear hr40 hC40 hroom40 hi040 hsz40 hc40; have KY40 := Aside0.mk hy40; have KA40 := Aside0.mk hA40; clear hy40 hA40; have KL40 := Aside0.mk (show (x6_2 : Int).toNat ≤ x3_1.length from by omega); replace q40 := eq_true q40) | ((with_reducible refine gate_builtin (b := .append) (xs := #[.tmp 36, .tmp 39]) rfl ?_); at_builtin; refine Kd.R_append_rows (KQ_ w ok_) (w0 := w) w.heap.size rfl (.tmp 36) (.tmp 39) 22 65 (.slice none 0 0) 24 rfl Tryz.underlying22 info65 rfl (by first | decide | exact Nat.zero_lt_one) (by omega) v135 y134 y137 _ _ _ (fun k_ => some k_ ≠ (.slice Ao34 x3_1.length co34 : Value).ownBlock) (fun _ => False) rfl rfl ?aO ?aR (fun _ _ h => h) (fun _ h => h.elim) ?aF ?aB ?aS ?aL ?_; (case aR => repeat (first | exact (by repeat (first | (with_reducible exact HR140.out) | (with_reducible refine Kd.C_alloc ?_ _) | (with_reducible refine Kd.C_drewN ?_ _) | (with_reducible refine Kd.C_drew ?_) | exact HR140.out)) | (with_reducible refine Kd.C_alloc ?_ _) | (with_reducible refine Kd.C_drewN ?_ _) | (with_reducible refine Kd.C_drew ?_))); (case aB => exact (zh HB.out)); (case aF => exact (fun k_ hk => Kd.fresh' (Kd.R_lt (zr HO_3.out)) k_ hk)); (case aO => exact (zr HO136.out)); (case aS => exact (below_size (zh HB.out))); (case aL => have := LMc33.out; omega); intro v142 w41 ho hb hg hat; rw [← Ny141.out] at ho; have HO143 := Aside0.mk (ho); replace HB := Aside0.mk (hb); replace HR130 := Aside0.mk ((show Kd.C (KQ_ w ok_) w41 Ao34 y127.length y127 from by rw [Ny127.out]; exact Kd.C_take (m := (x6_2 : Int).toNat) ((Kd.R_reads' (Kd.R_after (ok := (fun _ => True)) (zr HO_3.out) hg hat)).2.2) KL37.out)); replace HR140 := Aside0.mk ((show Kd.C (KQ_ w ok_) w41 A40 y137.length y137 from by rw [Ny137.out, KA40.out]; exact Kd.C_drop (m := (x6_2 : Int).toNat) (c := co34) ((Kd.R_reads' (Kd.R_after (ok := (fun _ => True)) (zr HO_3.out) hg hat)).2.2) KL40.out ((Kd.R_reads' (Kd.R_after (ok := (fun _ => True)) (zr HO_3.out) hg hat)).2.1))); replace HO_3 := Aside0.mk (Kd.R_after (ok := (fun _ => True)) (zr HO_3.out) hg hat); clear HO136 ho hb hg hat))
      go_roundg k2
      case measure => have := HK1.out; have := HK2.out; omega
      case rel => exact ⟨(y141), (wrap64 (x10_1 + 1)), zE, H', zO2 HK1 HK2, ⟨zr (Kd.R_mono HO143.out (fun _ hk => trivial))⟩, ⟨zh HB.out⟩⟩
     rw [if_pos c5] at H
     have c5b0 := decide_eq_true c5
     clear c5
     by_cases c6 : 0 ≤ x6_2
     rotate_left
     ·rw [if_neg c6] at H
      cases H
     rw [if_pos c6] at H
     have c6b0 := decide_eq_true c6
     clear c6
     replace H := Option.bind_eq_some_iff.mp H
     obtain ⟨t103, A70, H⟩ := H
     have A7 := Aside0.mk A70
     clear A70
     by_cases c8 : t103 = true
     ·subst c8
      rw [if_pos rfl] at H
      have H' := Aside0.mk H
      clear H
      obtain ⟨Ao9, co9, eo9⟩ := Kd.R_slice HO_3.out
      subst eo9
      obtain ⟨⟨ad102, e102, hx102_0⟩, p102, q102⟩ := zW (at_Q_ (Kd.R_reads' HO_3.out).2.2 x6_2)
      cases e102
      go_wp2_with (first | (go_at_call 83; (with_reducible refine (spec_voBefore_q.calls k2 (rdOf Q_.nil x3_1 x6_2) (rdOf Q_.nil l0 x10_1) true _ A7.out).mono ?_); rintro e w10 ⟨rfl, hb⟩; replace HO_3 := Aside0.mk (Kd.R_below (zr HO_3.out) hb); replace HB := zH hb HB; clear hb))
      go_roundg k2
      case measure => have := HK1.out; have := HK2.out; omega
      case rel => exact ⟨(wrap64 (x6_2 + 1)), zE, H', zO2 HK1 HK2, ⟨zr HO_3.out⟩, ⟨zh HB.out⟩⟩
     replace c8 := Bool.eq_false_iff.mpr c8
     subst c8
     rw [if_neg zF] at H
     replace H := zY H
     obtain ⟨y104, Ny104, H⟩ := H
     have c11b0 := eq_true (zk : 0 ≤ x6_2)
     by_cases c12 : x6_2 ≤ (x3_1.length : Int)
     rotate_left
     ·rw [if_neg c12] at H
      cases H
     rw [if_pos c12] at H
     have c12b0 := eq_true c12
     have c12b1 := decide_eq_true c12
     clear c12
     replace H := zY H
     obtain ⟨y107, Ny107, H⟩ := H
     by_cases c13 : y104.length + y107.length < 5864062014805
     rotate_left
     ·rw [if_neg c13] at H
      cases H
     rw [if_pos c13] at H
     have LMc13 := Aside0.mk c13
     clear c13
     replace H := zY H
     obtain ⟨y111, Ny111, H⟩ := H
     by_cases c14 : y111.length < 5864062014805
     rotate_left
     ·rw [if_neg c14] at H
      cases H
     rw [if_pos c14] at H
     have LMc14 := Aside0.mk c14
     clear c14
     replace H := zY H
     obtain ⟨y114, Ny114, H⟩ := H
     have c15b0 := eq_true (zk : 0 ≤ x6_2)
     have c16b0 := eq_true (zk : x6_2 ≤ (x3_1.length : Int))
     replace H := zY H
     obtain ⟨y117, Ny117, H⟩ := H
     by_cases c17 : y114.length + y117.length < 5864062014805
     rotate_left
     ·rw [if_neg c17] at H
      cases H
     rw [if_pos c17] at H
     have LMc17 := Aside0.mk c17
     clear c17
     obtain ⟨y121, hy121⟩ : ∃ y_ : List (Q_ w ok_), y_ = (y114 ++ y117) := ⟨_, rfl⟩
     rw [← hy121] at H
     have Ny121 := Aside0.mk hy121
     clear hy121
     have H' := Aside0.mk H
     clear H
     obtain ⟨Ao18, co18, eo18⟩ := Kd.R_slice HO_3.out
     subst eo18
     obtain ⟨⟨ad102, e102, hx102_0⟩, p102, q102⟩ := zW (at_Q_ (Kd.R_reads' HO_3.out).2.2 x6_2)
     cases e102
     go_wp2_with (first | (go_at_call 83; (with_reducible refine (spec_voBefore_q.calls k2 (rdOf Q_.nil x3_1 x6_2) (rdOf Q_.nil l0 x10_1) false _ A7.out).mono ?_); rintro e w19 ⟨rfl, hb⟩; replace HO_3 := Aside0.mk (Kd.R_below (zr HO_3.out) hb); replace HB := zH hb HB; clear hb) | ((with_reducible refine gate_dst (N := 28) rfl ?_); refine Kd.R_lit (KQ_ w ok_) _ 65 ?hg (N := 28) ?hd (xs := ([] : List (Q_ w ok_))) (inner := []) (ok := fun _ => True) (okp := fun _ => True) ?hr ?hp (fun _ hk => hk) trivial (Below.refl _ _) (Nat.le_refl _) (by simp) ?_; (case hd => rfl); (case hg => rfl); (case hr => first | (go_simp; done) | (go_simp; rfl)); (case hp => exact (Reps.none _ _)); intro v105 w20 ho21 hb hg_ hnew_; clear hg_ hnew_; (first | rw [← Ny104.out] at ho21 | (simp only [Int.reduceToNat] at ho21; rw [← Ny104.out] at ho21)); have HO106 := Aside0.mk (Kd.R_lower (Kd.R_new' ho21 (Kd.R_lt (zr HO_3.out))) (below_size (zh HB.out))); replace HO_3 := Aside0.mk (Kd.R_elder' (zr HO_3.out) (Kd.R_base ho21) hb); replace HB := zH hb HB; clear hb ho21; have q22 : (x6_2 : Int) ≤ ((x3_1.length : Int) : Int) := zk; obtain ⟨i022, hi022, _, hsz22, _⟩ := info_parts info65; have hroom22 : x3_1.length ≤ co18 := (Kd.R_reads' HO_3.out).2.1; have hC22 : Kd.C (KQ_ w ok_) _ (some ad102) x3_1.length x3_1 := (Kd.R_reads' HO_3.out).2.2; have hcut22 := cut_to (P := Tryz.prog) 22 65 .i64 Tryz.underlying22 hi022 (some ad102) x3_1.length co18 x6_2 (zk) q22 hroom22; have hr22 := Kd.C_take (m := (x6_2 : Int).toNat) hC22 (by omega); have hy22 : y107.length = (x6_2 : Int).toNat := (by rw [Ny107.out, List.length_take]; omega); rw [← Ny107.out] at hr22; rw [← hy22] at hcut22; have HR110 := Aside0.mk hr22; have HC110 := Aside0.mk (show y107.length ≤ co18 from by omega); clear hr22 hC22 hroom22 hi022 hsz22; have KY22 := Aside0.mk hy22; clear hy22; have KL22 := Aside0.mk (show (x6_2 : Int).toNat ≤ x3_1.length from by omega); replace q22 := eq_true q22) | ((with_reducible refine gate_builtin (b := .append) (xs := #[.tmp 28, .tmp 31]) rfl ?_); at_builtin; refine Kd.R_append_rows (KQ_ w ok_) (w0 := w) w.heap.size rfl (.tmp 28) (.tmp 31) 22 65 (.slice none 0 0) 24 rfl Tryz.underlying22 info65 rfl (by first | decide | exact Nat.zero_lt_one) (by omega) v105 y104 y107 _ _ _ (fun k_ => some k_ ≠ (.slice (some ad102) x3_1.length co18 : Value).ownBlock) (fun _ => False) rfl rfl ?aO ?aR (fun _ _ h => h) (fun _ h => h.elim) ?aF ?aB ?aS ?aL ?_; (case aR => repeat (first | exact (by repeat (first | (with_reducible exact HR110.out) | (with_reducible refine Kd.C_alloc ?_ _) | (with_reducible refine Kd.C_drewN ?_ _) | (with_reducible refine Kd.C_drew ?_) | exact HR110.out)) | (with_reducible refine Kd.C_alloc ?_ _) | (with_reducible refine Kd.C_drewN ?_ _) | (with_reducible refine Kd.C_drew ?_))); (case aB => exact (zh HB.out)); (case aF => exact (fun k_ hk => Kd.fresh' (Kd.R_lt (zr HO_3.out)) k_ hk)); (case aO => exact (zr (Kd.R_mono HO106.out (fun _ hk => hk.2)))); (case aS => exact (below_size (zh HB.out))); (case aL => have := LMc13.out; omega); intro v112 w23 ho hb hg hat; rw [← Ny111.out] at ho; have HO113 := Aside0.mk (ho); replace HB := Aside0.mk (hb); replace HR110 := Aside0.mk ((show Kd.C (KQ_ w ok_) w23 (some ad102) y107.length y107 from by rw [Ny107.out]; exact Kd.C_take (m := (x6_2 : Int).toNat) ((Kd.R_reads' (Kd.R_after (ok := (fun _ => True)) (zr HO_3.out) hg hat)).2.2) KL22.out)); replace HO_3 := Aside0.mk (Kd.R_after (ok := (fun _ => True)) (zr HO_3.out) hg hat); clear HO106 ho hb hg hat) | ((with_reducible refine gate_builtin (b := .append) (xs := #[.tmp 32, .tmp 34]) rfl ?_); at_builtin; refine Kd.R_append (KQ_ w ok_) (w0 := w) w.heap.size rfl (.tmp 32) (.tmp 34) 22 65 (.slice none 0 0) 24 rfl Tryz.underlying22 info65 rfl (by first | decide | exact Nat.zero_lt_one) (by omega) v112 y111 (rdOf Q_.nil l0 x10_1) [Q_.val (rdOf Q_.nil l0 x10_1)] (fun k_ => some k_ ≠ (.slice (some ad102) x3_1.length co18 : Value).ownBlock) (fun _ => False) rfl rfl ?aP (fun _ hk => hk.elim) ?aF ?aO ?aB ?aS ?aL ?_; (case aP => exact rfl); (case aB => exact (zh HB.out)); (case aF => exact (fun k_ hk => Kd.fresh' (Kd.R_lt (zr HO_3.out)) k_ hk)); (case aO => exact (zr HO113.out)); (case aS => exact (below_size (zh HB.out))); (case aL => have := LMc14.out; omega); intro v115 w24 ho hb hg hat; rw [← Ny114.out] at ho; have HO116 := Aside0.mk (ho); replace HB := Aside0.mk (hb); replace HR110 := Aside0.mk ((show Kd.C (KQ_ w ok_) w24 (some ad102) y107.length y107 from by rw [Ny107.out]; exact Kd.C_take (m := (x6_2 : Int).toNat) ((Kd.R_reads' (Kd.R_after (ok := (fun _ => True)) (zr HO_3.out) hg hat)).2.2) KL22.out)); replace HO_3 := Aside0.mk (Kd.R_after (ok := (fun _ => True)) (zr HO_3.out) hg hat); clear HO113 ho hb hg hat; have q25 : (x6_2 : Int) ≤ ((x3_1.length : Int) : Int) := zk; obtain ⟨i025, hi025, _, hsz25, _⟩ := info_parts info65; have hroom25 : x3_1.length ≤ co18 := (Kd.R_reads' HO_3.out).2.1; have hC25 : Kd.C (KQ_ w ok_) _ (some ad102) x3_1.length x3_1 := (Kd.R_reads' HO_3.out).2.2; have q025 : (0 : Int) ≤ (x6_2 : Int) := zk; have hcut25 := cut_from (P := Tryz.prog) 22 65 .i64 Tryz.underlying22 hi025 1 hsz25 (some ad102) x3_1.length co18 x6_2 q025 q25; have hr25 := Kd.C_drop (m := (x6_2 : Int).toNat) (c := co18) hC25 (by omega) hroom25; obtain ⟨A25, hA25⟩ : ∃ A1, A1 = (if co18 = (x6_2 : Int).toNat then (some ad102) else ((some ad102) : Option Addr).map (·.add ((x6_2 : Int).toNat * 1))) := ⟨_, rfl⟩; obtain ⟨c25, hc25⟩ : ∃ c1, c1 = co18 - (x6_2 : Int).toNat := ⟨_, rfl⟩; have hy25 : y117.length = x3_1.length - (x6_2 : Int).toNat := (by rw [Ny117.out, List.length_drop] <;> omega); rw [show (x3_1).drop (x6_2 : Int).toNat = y117 from Ny117.out.symm] at hr25; replace hr25 : Kd.C (KQ_ w ok_) _ A25 y117.length y117 := (by rw [hA25]; exact hr25); rw [← hy25, ← hA25, ← hc25] at hcut25; have HR120 := Aside0.mk hr25; have HC120 := Aside0.mk (show y117.length ≤ c25 from by rw [hy25, hc25]; exact Nat.sub_le_sub_right hroom25 _); clear hr25 hC25 hroom25 hi025 hsz25 hc25; have KY25 := Aside0.mk hy25; have KA25 := Aside0.mk hA25; clear hy25 hA25; have KL25 := Aside0.mk (show (x6_2 : Int).toNat ≤ x3_1.length from by omega); replace q25 := eq_true q25) | ((with_reducible refine gate_builtin (b := .append) (xs := #[.tmp 36, .tmp 39]) rfl ?_); at_builtin; refine Kd.R_append_rows (KQ_ w ok_) (w0 := w) w.heap.size rfl (.tmp 36) (.tmp 39) 22 65 (.slice none 0 0) 24 rfl Tryz.underlying22 info65 rfl (by first | decide | exact Nat.zero_lt_one) (by omega) v115 y114 y117 _ _ _ (fun k_ => some k_ ≠ (.slice (some ad102) x3_1.length co18 : Value).ownBlock) (fun _ => False) rfl rfl ?aO ?aR (fun _ _ h => h) (fun _ h => h.elim) ?aF ?aB ?aS ?aL ?_; (case aR => repeat (first | exact (by repeat (first | (with_reducible exact HR120.out) | (with_reducible refine Kd.C_alloc ?_ _) | (with_reducible refine Kd.C_drewN ?_ _) | (with_reducible refine Kd.C_drew ?_) | exact HR120.out)) | (with_reducible refine Kd.C_alloc ?_ _) | (with_reducible refine Kd.C_drewN ?_ _) | (with_reducible refine Kd.C_drew ?_))); (case aB => exact (zh HB.out)); (case aF => exact (fun k_ hk => Kd.fresh' (Kd.R_lt (zr HO_3.out)) k_ hk)); (case aO => exact (zr HO116.out)); (case aS => exact (below_size (zh HB.out))); (case aL => have := LMc17.out; omega); intro v122 w26 ho hb hg hat; rw [← Ny121.out] at ho; have HO123 := Aside0.mk (ho); replace HB := Aside0.mk (hb); replace HR110 := Aside0.mk ((show Kd.C (KQ_ w ok_) w26 (some ad102) y107.length y107 from by rw [Ny107.out]; exact Kd.C_take (m := (x6_2 : Int).toNat) ((Kd.R_reads' (Kd.R_after (ok := (fun _ => True)) (zr HO_3.out) hg hat)).2.2) KL22.out)); replace HR120 := Aside0.mk ((show Kd.C (KQ_ w ok_) w26 A25 y117.length y117 from by rw [Ny117.out, KA25.out]; exact Kd.C_drop (m := (x6_2 : Int).toNat) (c := co18) ((Kd.R_reads' (Kd.R_after (ok := (fun _ => True)) (zr HO_3.out) hg hat)).2.2) KL25.out ((Kd.R_reads' (Kd.R_after (ok := (fun _ => True)) (zr HO_3.out) hg hat)).2.1))); replace HO_3 := Aside0.mk (Kd.R_after (ok := (fun _ => True)) (zr HO_3.out) hg hat); clear HO116 ho hb hg hat))
     go_roundg k2
     case measure => have := HK1.out; have := HK2.out; omega
     case rel => exact ⟨(y121), (wrap64 (x10_1 + 1)), zE, H', zO2 HK1 HK2, ⟨zr (Kd.R_mono HO123.out (fun _ hk => trivial))⟩, ⟨zh HB.out⟩⟩
end
mutual
def spec_voSorted.l0 : Nat → List (List Int) → List (List Int) → Int → Int → Option (List (List Int))
 | 0, _, _, _, _ => none
 | k + 1, x3, x8, x9, x10 => if x10 < x9 then (if 0 ≤ x10 then (if x10 < (x8.length : Int) then (spec_voSorted.l1 k x3 (rdOf [] x8 x10) 0 x8 x9 x10) else (none)) else (none)) else (some x3)
def spec_voSorted.l1 : Nat → List (List Int) → (List Int) → Int → List (List Int) → Int → Int → Option (List (List Int))
 | 0, _, _, _, _, _, _ => none
 | k + 1, x3, x5, x6, x8, x9, x10 => if x6 < (x3.length : Int) then (if 0 ≤ x6 then ((spec_voBefore.f k (rdOf [] x3 x6) x5).bind fun t103 => (if t103 = true then (spec_voSorted.l1 k x3 x5 (wrap64 (x6 + 1)) x8 x9 x10) else ((some (([] : List (List Int)) : List (List Int))).bind fun y104 => (if x6 ≤ (x3.length : Int) then ((some (x3.take (x6 : Int).toNat : List (List Int))).bind fun y107 => (if y104.length + y107.length < 5864062014805 then ((some (y104 ++ y107 : List (List Int))).bind fun y111 => (if y111.length < 5864062014805 then ((some (y111 ++ [x5] : List (List Int))).bind fun y114 => ((some (x3.drop (x6 : Int).toNat : List (List Int))).bind fun y117 => (if y114.length + y117.length < 5864062014805 then (spec_voSorted.l0 k (y114 ++ y117) x8 x9 (wrap64 (x10 + 1))) else (none)))) else (none))) else (none))) else (none))))) else (none)) else ((some (([] : List (List Int)) : List (List Int))).bind fun y124 => (if 0 ≤ x6 then (if x6 ≤ (x3.length : Int) then ((some (x3.take (x6 : Int).toNat : List (List Int))).bind fun y127 => (if y124.length + y127.length < 5864062014805 then ((some (y124 ++ y127 : List (List Int))).bind fun y131 => (if y131.length < 5864062014805 then ((some (y131 ++ [x5] : List (List Int))).bind fun y134 => ((some (x3.drop (x6 : Int).toNat : List (List Int))).bind fun y137 => (if y134.length + y137.length < 5864062014805 then (spec_voSorted.l0 k (y134 ++ y137) x8 x9 (wrap64 (x10 + 1))) else (none)))) else (none))) else (none))) else (none)) else (none)))
end
def spec_voSorted.f (k : Nat) (l0 : List (List Int)) : Option (List (List Int)) := spec_voSorted.l0 k ([] : List (List Int)) l0 (l0.length : Int) 0
theorem spec_voSorted.mono_l : ∀ k, (∀ y0 y1 y2 y3, LeO (spec_voSorted.l0 k y0 y1 y2 y3) (spec_voSorted.l0 (k + 1) y0 y1 y2 y3)) ∧ (∀ y0 y1 y2 y3 y4 y5, LeO (spec_voSorted.l1 k y0 y1 y2 y3 y4 y5) (spec_voSorted.l1 (k + 1) y0 y1 y2 y3 y4 y5))
 | 0 => ⟨fun _ _ _ _ r h => by simp [spec_voSorted.l0] at h, fun _ _ _ _ _ _ r h => by simp [spec_voSorted.l1] at h⟩
 | k + 1 => by
  obtain ⟨ih0, ih1⟩ := spec_voSorted.mono_l k
  refine ⟨?_, ?_⟩
  ·intro y0 y1 y2 y3
   unfold spec_voSorted.l0
   repeat' first
   | (with_reducible exact ih0 _ _ _ _)
   | (with_reducible exact ih1 _ _ _ _ _ _)
   | (with_reducible exact spec_voBefore.mono _ _ _)
   | (with_reducible exact LeO.refl _)
   | (with_reducible exact LeO.none _)
   | (with_reducible refine LeO.ite ?_ ?_)
   | (with_reducible refine LeO.bind ?_ (fun _ => ?_))
   | exact ih0 _ _ _ _
   | exact ih1 _ _ _ _ _ _
   | exact spec_voBefore.mono _ _ _
   | exact LeO.none _
   | refine LeO.ite ?_ ?_
   | refine LeO.bind ?_ (fun _ => ?_)
  ·intro y0 y1 y2 y3 y4 y5
   unfold spec_voSorted.l1
   repeat' first
   | (with_reducible exact ih0 _ _ _ _)
   | (with_reducible exact ih1 _ _ _ _ _ _)
   | (with_reducible exact spec_voBefore.mono _ _ _)
   | (with_reducible exact LeO.refl _)
   | (with_reducible exact LeO.none _)
   | (with_reducible refine LeO.ite ?_ ?_)
   | (with_reducible refine LeO.bind ?_ (fun _ => ?_))
   | exact ih0 _ _ _ _
   | exact ih1 _ _ _ _ _ _
   | exact spec_voBefore.mono _ _ _
   | exact LeO.none _
   | refine LeO.ite ?_ ?_
   | refine LeO.bind ?_ (fun _ => ?_)
theorem spec_voSorted.mono : ∀ a0 k, LeO (spec_voSorted.f k a0) (spec_voSorted.f (k + 1) a0) := by
 intro a0 k
 obtain ⟨ih0, ih1⟩ := spec_voSorted.mono_l k
 unfold spec_voSorted.f
 repeat' first
   | (with_reducible exact ih0 _ _ _ _)
   | (with_reducible exact ih1 _ _ _ _ _ _)
   | (with_reducible exact spec_voBefore.mono _ _ _)
   | (with_reducible exact LeO.refl _)
   | (with_reducible exact LeO.none _)
   | (with_reducible refine LeO.ite ?_ ?_)
   | (with_reducible refine LeO.bind ?_ (fun _ => ?_))
   | exact ih0 _ _ _ _
   | exact ih1 _ _ _ _ _ _
   | exact spec_voBefore.mono _ _ _
   | exact LeO.none _
   | refine LeO.ite ?_ ?_
   | refine LeO.bind ?_ (fun _ => ?_)
section
variable {W_ : World} {ok_ : Nat → Prop}
theorem rdQ (xs : List (Q_ W_ ok_)) (i : Int) : (rdOf Q_.nil xs i).l = rdOf [] (xs.map Q_.l) i := by
  unfold rdOf
  rw [List.getD_eq_getElem?_getD, List.getD_eq_getElem?_getD, List.getElem?_map]
  cases xs[i.toNat]? <;> rfl
theorem map_ite {α β : Type} {c : Prop} [Decidable c] {x y : Option α} {x' y' : Option β} {g : α → β} (h1 : c → x.map g = x') (h2 : ¬ c → y.map g = y') : (if c then x else y).map g = if c then x' else y' := by
  by_cases h : c
  · rw [if_pos h, if_pos h]; exact h1 h
  · rw [if_neg h, if_neg h]; exact h2 h
theorem map_bind1 {α β δ : Type} {x : Option α} {f : α → Option β} {f' : α → Option δ} {g : β → δ} (h : ∀ t, (f t).map g = f' t) : (x.bind f).map g = x.bind f' := by
  cases x with
  | none => rfl
  | some t => exact h t
theorem voSorted_map : ∀ k, (∀ (x3 x8 : List (Q_ W_ ok_)) x9 x10, (spec_voSorted_q.l0 k x3 x8 x9 x10).map (List.map Q_.l) = spec_voSorted.l0 k (x3.map Q_.l) (x8.map Q_.l) x9 x10) ∧
    (∀ (x3 : List (Q_ W_ ok_)) (x5 : Q_ W_ ok_) x6 x8 x9 x10, (spec_voSorted_q.l1 k x3 x5 x6 x8 x9 x10).map (List.map Q_.l) = spec_voSorted.l1 k (x3.map Q_.l) x5.l x6 (x8.map Q_.l) x9 x10)
  | 0 => ⟨fun _ _ _ _ => by simp [spec_voSorted_q.l0, spec_voSorted.l0], fun _ _ _ _ _ _ => by simp [spec_voSorted_q.l1, spec_voSorted.l1]⟩
  | k + 1 => by
    obtain ⟨ih0, ih1⟩ := voSorted_map k
    refine ⟨fun x3 x8 x9 x10 => ?_, fun x3 x5 x6 x8 x9 x10 => ?_⟩
    · simp only [spec_voSorted_q.l0, spec_voSorted.l0]
      refine map_ite (fun _ => map_ite (fun _ => ?_) (fun _ => rfl)) (fun _ => rfl)
      rw [List.length_map]
      refine map_ite (fun _ => ?_) (fun _ => rfl)
      rw [ih1, rdQ]
    · simp only [spec_voSorted_q.l1, spec_voSorted.l1, Option.bind_some, ← List.map_take, ← List.map_drop, List.nil_append, List.length_append, List.length_cons, List.length_nil, List.length_map]
      refine map_ite (fun _ => map_ite (fun _ => ?_) (fun _ => rfl)) (fun _ => ?_)
      · refine (map_bind1 fun t => ?_).trans (congrArg (fun z => Option.bind z _) (show spec_voBefore_q.f k _ _ = spec_voBefore.f k _ _ from by rw [← rdQ]; rfl))
        refine map_ite (fun _ => ih1 _ _ _ _ _ _) (fun _ => map_ite (fun _ => map_ite (fun _ => map_ite (fun _ => map_ite (fun _ => ?_) (fun _ => rfl)) (fun _ => rfl)) (fun _ => rfl)) (fun _ => rfl))
        rw [ih0]; simp
      · refine map_ite (fun _ => map_ite (fun _ => map_ite (fun _ => map_ite (fun _ => map_ite (fun _ => ?_) (fun _ => rfl)) (fun _ => rfl)) (fun _ => rfl)) (fun _ => rfl)) (fun _ => rfl)
        rw [ih0]; simp
theorem voSorted_f (k : Nat) (l : List (Q_ W_ ok_)) : (spec_voSorted_q.f k l).map (List.map Q_.l) = spec_voSorted.f k (l.map Q_.l) := by
  unfold spec_voSorted_q.f spec_voSorted.f
  rw [(voSorted_map k).1, List.length_map]; rfl
end
theorem spec_voSorted.calls (k : Nat) (P0_ : Nat → Prop) (A0 : Option Addr) (c0 : Nat) (l0 r : List (List Int)) (w : World) (hV : Kd.V (Kd.slice 3 (Kd.int .i64)) 65 w 0 P0_ (.slice A0 l0.length c0) l0) (h : spec_voSorted.f k l0 = some r) :
    Calls Tryz.prog 161 #[.slice A0 l0.length c0] w fun e w' => ∃ v0_ : Value, e = .returned v0_ ∧ Kd.V (Kd.slice 3 (Kd.int .i64)) 65 w' w.heap.size (fun k_ => P0_ k_ ∨ w.heap.size ≤ k_) v0_ r ∧ Below w.heap.size w w' := by
  obtain ⟨A, c, hv, hl, hF⟩ := hV
  injection hv with hv1 _ hv2
  subst hv1; subst hv2
  obtain ⟨qs, rfl, hC⟩ := Q_of_F hF
  rw [← voSorted_f] at h
  obtain ⟨rq, hq, rfl⟩ := Option.map_eq_some_iff.1 h
  rw [List.length_map] at hC hl ⊢
  refine (spec_voSorted_q.calls w P0_ k A0 c0 qs rq hC hl hq).mono ?_
  rintro e w' ⟨v, rfl, hR, hb⟩
  have hR2 := Kd.R_bound hR
  obtain ⟨A', c', rfl⟩ := Kd.R_slice hR
  refine ⟨_, rfl, ⟨A', c', by rw [List.length_map], by rw [List.length_map]; exact (Kd.R_reads' hR).2.1, ?_⟩, hb⟩
  rw [List.length_map]
  exact F_of_Q hb (Kd.F_mono (Kd.R_F hR2) (fun k hk => .inr hk.2.1)) (fun k hk => .inl hk)
end Go.Proofs.YtmbkmabpebjboaaGreat.Q
end
section
namespace Go.Proofs.YtmbkmabpebjboaaGreat.Q
open Go.RowKit Go.Proofs.YtmbkmabpebjboaaGreatW.PrintWords Go.Proofs.YtmbkmabpebjboaaGreatW.PrintLast Go.Proofs.YtmbkmabpebjboaaGreatW.PrintMore
attribute [local go_sem] max2_int min2_int max_two min_two max_three min_three max_four min_four
set_option linter.unusedVariables false
set_option linter.unusedSimpArgs false
mutual
def spec_voLeast.l0 : Nat → List Bool → List (List Int) → List Bool → Int → Int → Option ((List (List Int)))
 | 0, _, _, _, _, _ => none
 | k + 1, x0, x3, x9, x10, x11 => if x11 < x10 then (if 0 ≤ x11 then (if x11 < (x9.length : Int) then (if rdOf false x9 x11 = true then ((spec_voList.f k x11).bind fun t164 => (spec_voLeast.l1 k x0 x3 x11 true x9 x10 x11 t164 (t164.length : Int) 0)) else (spec_voLeast.l0 k x0 x3 x9 x10 (wrap64 (x11 + 1)))) else (none)) else (none)) else ((spec_voSorted.f k x3).bind fun t160 => (some t160))
def spec_voLeast.l1 : Nat → List Bool → List (List Int) → Int → Bool → List Bool → Int → Int → List Int → Int → Int → Option ((List (List Int)))
 | 0, _, _, _, _, _, _, _, _, _, _ => none
 | k + 1, x0, x3, x4, x6, x9, x10, x11, x19, x20, x21 => if x21 < x20 then (if 0 ≤ x21 then (if x21 < (x19.length : Int) then (if x6 = true then (if 0 ≤ (rd x19 x21) then (if 0 ≤ (wrap64 (x4 - (shl .i64 1 (rd x19 x21)))) then (if (wrap64 (x4 - (shl .i64 1 (rd x19 x21)))) < (x0.length : Int) then (spec_voLeast.l1 k x0 x3 x4 (!(rdOf false x0 (wrap64 (x4 - (shl .i64 1 (rd x19 x21)))))) x9 x10 x11 x19 x20 (wrap64 (x21 + 1))) else (none)) else (none)) else (none)) else (spec_voLeast.l1 k x0 x3 x4 false x9 x10 x11 x19 x20 (wrap64 (x21 + 1)))) else (none)) else (none)) else (if x6 = true then ((spec_voList.f k x4).bind fun t169 => (if x3.length < 5864062014805 then (spec_voLeast.l0 k x0 (x3 ++ [t169]) x9 x10 (wrap64 (x11 + 1))) else (none))) else (spec_voLeast.l0 k x0 x3 x9 x10 (wrap64 (x11 + 1))))
end
def spec_voLeast.f (k : Nat) (l0 : List Bool) : Option ((List (List Int))) := spec_voLeast.l0 k l0 ([] : List (List Int)) l0 (l0.length : Int) 0
theorem spec_voLeast.mono_l : ∀ k, (∀ y0 y1 y2 y3 y4, LeO (spec_voLeast.l0 k y0 y1 y2 y3 y4) (spec_voLeast.l0 (k + 1) y0 y1 y2 y3 y4)) ∧ (∀ y0 y1 y2 y3 y4 y5 y6 y7 y8 y9, LeO (spec_voLeast.l1 k y0 y1 y2 y3 y4 y5 y6 y7 y8 y9) (spec_voLeast.l1 (k + 1) y0 y1 y2 y3 y4 y5 y6 y7 y8 y9))
 | 0 => ⟨fun _ _ _ _ _ r h => by simp [spec_voLeast.l0] at h, fun _ _ _ _ _ _ _ _ _ _ r h => by simp [spec_voLeast.l1] at h⟩
 | k + 1 => by
  obtain ⟨ih0, ih1⟩ := spec_voLeast.mono_l k
  refine ⟨?_, ?_⟩
  ·intro y0 y1 y2 y3 y4
   unfold spec_voLeast.l0
   repeat' first
   | (with_reducible exact ih0 _ _ _ _ _)
   | (with_reducible exact ih1 _ _ _ _ _ _ _ _ _ _)
   | (with_reducible exact spec_voList.mono _ _)
   | (with_reducible exact spec_voSorted.mono _ _)
   | (with_reducible exact LeO.refl _)
   | (with_reducible exact LeO.none _)
   | (with_reducible refine LeO.ite ?_ ?_)
   | (with_reducible refine LeO.bind ?_ (fun _ => ?_))
   | exact ih0 _ _ _ _ _
   | exact ih1 _ _ _ _ _ _ _ _ _ _
   | exact spec_voList.mono _ _
   | exact spec_voSorted.mono _ _
   | exact LeO.none _
   | refine LeO.ite ?_ ?_
   | refine LeO.bind ?_ (fun _ => ?_)
  ·intro y0 y1 y2 y3 y4 y5 y6 y7 y8 y9
   unfold spec_voLeast.l1
   repeat' first
   | (with_reducible exact ih0 _ _ _ _ _)
   | (with_reducible exact ih1 _ _ _ _ _ _ _ _ _ _)
   | (with_reducible exact spec_voList.mono _ _)
   | (with_reducible exact spec_voSorted.mono _ _)
   | (with_reducible exact LeO.refl _)
   | (with_reducible exact LeO.none _)
   | (with_reducible refine LeO.ite ?_ ?_)
   | (with_reducible refine LeO.bind ?_ (fun _ => ?_))
   | exact ih0 _ _ _ _ _
   | exact ih1 _ _ _ _ _ _ _ _ _ _
   | exact spec_voList.mono _ _
   | exact spec_voSorted.mono _ _
   | exact LeO.none _
   | refine LeO.ite ?_ ?_
   | refine LeO.bind ?_ (fun _ => ?_)
theorem spec_voLeast.mono : ∀ a0 k, LeO (spec_voLeast.f k a0) (spec_voLeast.f (k + 1) a0) := by
 intro a0 k
 obtain ⟨ih0, ih1⟩ := spec_voLeast.mono_l k
 unfold spec_voLeast.f
 repeat' first
   | (with_reducible exact ih0 _ _ _ _ _)
   | (with_reducible exact ih1 _ _ _ _ _ _ _ _ _ _)
   | (with_reducible exact spec_voList.mono _ _)
   | (with_reducible exact spec_voSorted.mono _ _)
   | (with_reducible exact LeO.refl _)
   | (with_reducible exact LeO.none _)
   | (with_reducible refine LeO.ite ?_ ?_)
   | (with_reducible refine LeO.bind ?_ (fun _ => ?_))
   | exact ih0 _ _ _ _ _
   | exact ih1 _ _ _ _ _ _ _ _ _ _
   | exact spec_voList.mono _ _
   | exact spec_voSorted.mono _ _
   | exact LeO.none _
   | refine LeO.ite ?_ ?_
   | refine LeO.bind ?_ (fun _ => ?_)
set_option maxHeartbeats 8000000 in
set_option maxRecDepth 100000 in
theorem spec_voLeast.calls (k : Nat) (A0 : Option Addr) (c0 : Nat) (l0 : List Bool) (r : List (List Int)) (w : World) (hr0 : Kd.C Kd.bool w A0 l0.length l0) (hc0 : l0.length ≤ c0) (h : spec_voLeast.f k l0 = some r) :
  Calls Tryz.prog 137 #[.slice A0 l0.length c0] w fun e w' => ∃ v0_ : Value, e = .returned (v0_) ∧ Kd.V (Kd.slice 3 (Kd.int .i64)) 65 w' w.heap.size (fun k_ => (w.heap.size ≤ k_)) v0_ r ∧ Below w.heap.size w w' := by
 have HR0 := Aside0.mk hr0
 have HC0 := Aside0.mk hc0
 clear hr0 hc0
 have HB := Aside0.mk (Below.refl w.heap.size w)
 have H : (spec_voLeast.l0 k l0 ([] : List (List Int)) l0 (l0.length : Int) 0) = some r := h
 clear h
 have H' := Aside0.mk H
 clear H
 go_enter Tryz.func137, Tryz.ntmps137
 go_wp2
 go_loopg [3, 11] k (fun kq v3 v11 w' => ∃ (x3_1 : List (List Int)) (x11_1 : Int), v11 = .int .i64 x11_1 ∧ Aside0 (spec_voLeast.l0 kq l0 x3_1 l0 (l0.length : Int) x11_1 = some r) ∧ Aside0 (kq ≤ k) ∧ Aside0 (Kd.S (Kd.slice 3 (Kd.int .i64)) 65 w' w.heap.size (fun k_ => (w.heap.size ≤ k_)) v3 x3_1) ∧ Aside0 (Below w.heap.size w w'))
 case atStart => exact ⟨(([] : List (List Int))), (0), zE, H', ⟨Nat.le_refl _⟩, ⟨by first | exact Kd.S_nil _ _ _ _ _ | exact Kd.N_nil _ _ _ _ _ | exact Kd.V_nil _ _ _ _ _ | exact Kd.Q_nil _ _ _ _ _ | exact Kd.R_nil _ _ _ _ _⟩, ⟨zh HB.out⟩⟩
 case round =>
  clear H'
  try clear c1
  obtain ⟨x3_1, x11_1, rfl, HA, HK1, HO_3, HB⟩ := hrel
  cases gk with
  | zero => exact absurd HA.out (by simp [spec_voLeast.l0])
  | succ k1 =>
   have H := HA.out
   clear HA
   simp only [spec_voLeast.l0] at H
   by_cases c2 : x11_1 < (l0.length : Int)
   rotate_left
   ·rw [if_neg c2] at H
    have c2b0 := decide_eq_false c2
    clear c2
    replace H := Option.bind_eq_some_iff.mp H
    obtain ⟨t160, A250, H⟩ := H
    have A25 := Aside0.mk A250
    clear A250
    obtain rfl := Option.some.inj H
    obtain ⟨Ao26, co26, eo26⟩ := Kd.S_slice HO_3.out
    subst eo26
    go_wp2_with (first | ((with_reducible refine gate_callee (f := 161) rfl ?_); refine zl 45 Tryz.func161 #[.slice Ao26 x3_1.length co26] ?_; (with_reducible refine (spec_voSorted.calls k1 (fun k_ => (w.heap.size ≤ k_)) _ _ x3_1 t160 _ ?side1 A25.out).mono ?_); (case side1 => exact Kd.S_V (HO_3.out)); rintro e w27 ⟨v161, rfl, ho0, hb⟩; refine ⟨_, rfl, ?_⟩; have HO162 := Aside0.mk (Kd.V_lower (Kd.V_mono (ok' := fun k_ => (w.heap.size ≤ k_)) ho0 (fun k_ hk_ => Or.elim hk_ (fun hs_ => hs_) (fun hn_ => (Nat.le_trans (below_size (zh HB.out)) hn_)))) (below_size (zh HB.out))); replace HO_3 := Aside0.mk (Kd.S_below (by (with_reducible repeat (first | apply Kd.S_alloc | apply Kd.S_drewN | apply Kd.S_drew)); exact HO_3.out) hb); replace HB := zH hb HB; clear hb; (try clear ho0)))
    go_ret
    exact ⟨_, by first | rfl | (simp [*, errW_none, errW_some] <;> rfl), by (with_reducible repeat (first | apply Kd.V_alloc | apply Kd.V_drewN | apply Kd.V_drew)); exact HO162.out, zh HB.out⟩
   rw [if_pos c2] at H
   have c2b0 := decide_eq_true c2
   clear c2
   by_cases c3 : 0 ≤ x11_1
   rotate_left
   ·rw [if_neg c3] at H
    cases H
   rw [if_pos c3] at H
   have c3b0 := decide_eq_true c3
   clear c3
   by_cases c4 : x11_1 < (l0.length : Int)
   rotate_left
   ·rw [if_neg c4] at H
    cases H
   rw [if_pos c4] at H
   have c4b0 := decide_eq_true c4
   clear c4
   obtain ⟨bq5, hbq5⟩ : ∃ b_ : Bool, b_ = (rdOf false l0 x11_1) := ⟨_, rfl⟩
   rw [← hbq5] at H
   have Nbq5 := Aside0.mk hbq5
   clear hbq5
   by_cases c6 : bq5 = true
   rotate_left
   ·replace c6 := Bool.eq_false_iff.mpr c6
    subst c6
    rw [if_neg zF] at H
    have H' := Aside0.mk H
    clear H
    obtain ⟨⟨ad163, e163, hx163_0⟩, p163, q163⟩ := zW (Kd.at_bool HR0.out x11_1)
    (try rw [← Nbq5.out] at hx163_0)
    cases e163
    replace hx163_0 := zx HB.out hx163_0
    go_wp2
    go_roundg k1
    case measure => have := HK1.out; omega
    case rel => exact ⟨(x3_1), (wrap64 (x11_1 + 1)), zE, H', zO HK1, ⟨zS HO_3.out⟩, ⟨zh HB.out⟩⟩
   subst c6
   rw [if_pos rfl] at H
   replace H := Option.bind_eq_some_iff.mp H
   obtain ⟨t164, A70, H⟩ := H
   have A7 := Aside0.mk A70
   clear A70
   have H' := Aside0.mk H
   clear H
   obtain ⟨⟨ad163, e163, hx163_0⟩, p163, q163⟩ := zW (Kd.at_bool HR0.out x11_1)
   (try rw [← Nbq5.out] at hx163_0)
   cases e163
   replace hx163_0 := zx HB.out hx163_0
   go_wp2_with (first | ((with_reducible refine gate_callee (f := 114) rfl ?_); refine zl 19 Tryz.func114 #[.int .i64 x11_1] ?_; (with_reducible refine (spec_voList.calls k1 x11_1 t164 _ A7.out).mono ?_); rintro e w8 ⟨v165, rfl, ho0, hb⟩; refine ⟨_, rfl, ?_⟩; have HO166 := Aside0.mk (Kd.R_lower (Kd.R_newM (M := fun k_ => (w.heap.size ≤ k_)) ho0 (below_size (zh HB.out)) (fun k_ h_ => h_)) (below_size (zh HB.out))); replace HO_3 := Aside0.mk (Kd.S_elder' (by (with_reducible repeat (first | apply Kd.S_alloc | apply Kd.S_drewN | apply Kd.S_drew)); exact HO_3.out) (Kd.R_base ho0) hb); replace HB := zH hb HB; clear hb; (try clear ho0); obtain ⟨Ao9, co9, eo9⟩ := Kd.R_slice HO166.out; subst eo9))
   go_loopg [6, 21] k1 (fun kq v6 v21 w' => ∃ (x6_2 : Bool) (x21_2 : Int), v6 = .bool x6_2 ∧ v21 = .int .i64 x21_2 ∧ Aside0 (spec_voLeast.l1 kq l0 x3_1 x11_1 x6_2 l0 (l0.length : Int) x11_1 t164 (t164.length : Int) x21_2 = some r) ∧ Aside0 (kq ≤ k1) ∧ Aside0 (Kd.S (Kd.slice 3 (Kd.int .i64)) 65 w' w.heap.size (fun k_ => (w.heap.size ≤ k_) ∧ some k_ ≠ ((.slice Ao9 t164.length co9) : Value).ownBlock) u3 x3_1) ∧ Aside0 (Kd.R (Kd.int .i64) 3 w' w.heap.size (fun k_ => (w.heap.size ≤ k_)) (.slice Ao9 t164.length co9) t164) ∧ Aside0 (Below w.heap.size w w'))
   case atStart => exact ⟨(true), (0), zE, zE, H', ⟨Nat.le_refl _⟩, ⟨zS HO_3.out⟩, ⟨zr (Kd.R_mono HO166.out (fun _ hk => hk.1))⟩, ⟨zh HB.out⟩⟩
   case round =>
    clear H'
    try clear c1
    try clear p1
    try clear q1
    try clear hx1
    try clear c2
    try clear c2b0
    try clear p2
    try clear c3
    try clear c3b0
    try clear c4
    try clear c4b0
    try clear q5
    try clear c6
    try clear p6
    try clear hx163_0
    try clear p163
    try clear q163
    obtain ⟨x6_2, x21_2, rfl, rfl, HA, HK2, HO_3, HO_19, HB⟩ := hrel
    cases gk with
    | zero => exact absurd HA.out (by simp [spec_voLeast.l1])
    | succ k2 =>
     have H := HA.out
     clear HA
     simp only [spec_voLeast.l1] at H
     by_cases c10 : x21_2 < (t164.length : Int)
     rotate_left
     ·rw [if_neg c10] at H
      have c10b0 := decide_eq_false c10
      clear c10
      by_cases c19 : x6_2 = true
      rotate_left
      ·replace c19 := Bool.eq_false_iff.mpr c19
       subst c19
       rw [if_neg zF] at H
       have H' := Aside0.mk H
       clear H
       go_wp2
       go_roundg k2
       case measure => have := HK1.out; have := HK2.out; omega
       case rel => exact ⟨(x3_1), (wrap64 (x11_1 + 1)), zE, H', zO2 HK1 HK2, ⟨zS (Kd.S_mono HO_3.out (fun _ hk => hk.1))⟩, ⟨zh HB.out⟩⟩
      subst c19
      rw [if_pos rfl] at H
      replace H := Option.bind_eq_some_iff.mp H
      obtain ⟨t169, A200, H⟩ := H
      have A20 := Aside0.mk A200
      clear A200
      by_cases c21 : x3_1.length < 5864062014805
      rotate_left
      ·rw [if_neg c21] at H
       cases H
      rw [if_pos c21] at H
      have LMc21 := Aside0.mk c21
      clear c21
      obtain ⟨y172, hy172⟩ : ∃ y_ : List (List Int), y_ = (x3_1 ++ [t169]) := ⟨_, rfl⟩
      rw [← hy172] at H
      have Ny172 := Aside0.mk hy172
      clear hy172
      have H' := Aside0.mk H
      clear H
      go_wp2_with (first | ((with_reducible refine gate_callee (f := 114) rfl ?_); refine zl 40 Tryz.func114 #[.int .i64 x11_1] ?_; (with_reducible refine (spec_voList.calls k2 x11_1 t169 _ A20.out).mono ?_); rintro e w22 ⟨v170, rfl, ho0, hb⟩; refine ⟨_, rfl, ?_⟩; have HO171 := Aside0.mk (Kd.R_lower (Kd.R_new' (Kd.R_newM (M := fun k_ => (w.heap.size ≤ k_)) ho0 (below_size (zh HB.out)) (fun k_ h_ => h_)) (Kd.R_lt (zr HO_19.out))) (below_size (zh HB.out))); replace HO_3 := Aside0.mk (Kd.S_elder' (by (with_reducible repeat (first | apply Kd.S_alloc | apply Kd.S_drewN | apply Kd.S_drew)); exact HO_3.out) (Kd.R_base ho0) hb); replace HO_19 := Aside0.mk (Kd.R_elder' (zr HO_19.out) (Kd.R_base ho0) hb); replace HB := zH hb HB; clear hb; (try clear ho0); obtain ⟨Ao24, co24, eo24⟩ := Kd.R_slice HO171.out; subst eo24) | ((with_reducible refine gate_builtin (b := .append) (xs := #[.tmp 38, .tmp 41]) rfl ?_); at_builtin; refine Kd.S_append (Kd.slice 3 (Kd.int .i64)) (w0 := w) w.heap.size rfl (.tmp 38) (.tmp 41) 22 65 (.slice none 0 0) 24 rfl Tryz.underlying22 info65 rfl (by decide) (by omega) u3 x3_1 t169 [.slice Ao24 t169.length co24] (fun k_ => (w.heap.size ≤ k_) ∧ some k_ ≠ (.slice Ao9 t164.length co9 : Value).ownBlock) (fun k_ => some k_ = (.slice Ao24 t169.length co24 : Value).ownBlock) rfl rfl ?aP (fun k_ hk_ => ((Kd.R_mono (ok' := fun k_ => ((fun k_ => (w.heap.size ≤ k_) ∧ some k_ ≠ (.slice Ao9 t164.length co9 : Value).ownBlock)) k_ ∧ some k_ ≠ (u3 : Value).ownBlock) (Kd.R_apart' (HO171.out) (Kd.S_typed HO_3.out) (by decide)) (fun k_ hk => ⟨⟨hk.1.1.1, hk.1.2⟩, hk.2⟩))).1 k_ hk_.symm) ?aF ?aO ?aB ?aS ?aL ?_; (case aP => exact Kd.M_row (Kd.R_mono (Kd.R_tight rfl (Kd.R_mono (ok' := fun k_ => ((fun k_ => (w.heap.size ≤ k_) ∧ some k_ ≠ (.slice Ao9 t164.length co9 : Value).ownBlock)) k_ ∧ some k_ ≠ (u3 : Value).ownBlock) (Kd.R_apart' (HO171.out) (Kd.S_typed HO_3.out) (by decide)) (fun k_ hk => ⟨⟨hk.1.1.1, hk.1.2⟩, hk.2⟩))) (fun _ h_ => h_))); (case aB => exact (zh HB.out)); (case aF => exact (fun k_ hk => ⟨(Nat.le_trans (below_size (zh HB.out)) hk), Kd.fresh' (Kd.R_lt (zr HO_19.out)) k_ hk⟩)); (case aO => exact (by (with_reducible repeat (first | apply Kd.S_alloc | apply Kd.S_drewN | apply Kd.S_drew)); exact Kd.S_mono HO_3.out (fun k_ hk => ⟨⟨hk.1.1, hk.1.2⟩, fun e_ => hk.2 e_⟩))); (case aS => exact (below_size (zh HB.out))); (case aL => have := LMc21.out; omega); intro v173 w23 ho hb hg hat; rw [← Ny172.out] at ho; have HO174 := Aside0.mk (ho); replace HO_19 := Aside0.mk (Kd.R_over' (zr HO_19.out) (Kd.S_typed (by (with_reducible repeat (first | apply Kd.S_alloc | apply Kd.S_drewN | apply Kd.S_drew)); exact HO_3.out)) (by decide) hg); replace HB := Aside0.mk (hb); clear HO_3 HO171 ho hb hg hat))
      go_roundg k2
      case measure => have := HK1.out; have := HK2.out; omega
      case rel => exact ⟨(y172), (wrap64 (x11_1 + 1)), zE, H', zO2 HK1 HK2, ⟨zS (Kd.S_mono HO174.out (fun _ hk => hk.1))⟩, ⟨zh HB.out⟩⟩
     rw [if_pos c10] at H
     have c10b0 := decide_eq_true c10
     clear c10
     by_cases c11 : 0 ≤ x21_2
     rotate_left
     ·rw [if_neg c11] at H
      cases H
     rw [if_pos c11] at H
     have c11b0 := decide_eq_true c11
     clear c11
     by_cases c12 : x21_2 < (t164.length : Int)
     rotate_left
     ·rw [if_neg c12] at H
      cases H
     rw [if_pos c12] at H
     have c12b0 := decide_eq_true c12
     clear c12
     by_cases c13 : x6_2 = true
     rotate_left
     ·replace c13 := Bool.eq_false_iff.mpr c13
      subst c13
      rw [if_neg zF] at H
      have H' := Aside0.mk H
      clear H
      obtain ⟨⟨ad167, e167, hx167_0⟩, p167, q167⟩ := zW (Kd.at_int (Kd.R_reads' HO_19.out).2.2 x21_2)
      cases e167
      go_wp2
      go_roundg k2
      case measure => have := HK1.out; have := HK2.out; omega
      case rel => exact ⟨(false), (wrap64 (x21_2 + 1)), zE, zE, H', zO2 HK1 HK2, ⟨zS HO_3.out⟩, ⟨zr HO_19.out⟩, ⟨zh HB.out⟩⟩
     subst c13
     rw [if_pos rfl] at H
     by_cases c14 : 0 ≤ (rd t164 x21_2)
     rotate_left
     ·rw [if_neg c14] at H
      cases H
     rw [if_pos c14] at H
     have c14b0 := eq_true c14
     have c14b1 := decide_eq_true c14
     clear c14
     obtain ⟨ji15, hji15⟩ : ∃ j_ : Int, (shl .i64 1 (rd t164 x21_2)) = j_ := ⟨_, rfl⟩
     rw [hji15] at H
     obtain ⟨hji15_, hji15z, hji15u, hji15v, hji15y, hji15x⟩ := zJ1 hji15
     obtain ⟨ji16, hji16⟩ : ∃ j_ : Int, (wrap64 (x11_1 - (ji15))) = j_ := ⟨_, rfl⟩
     rw [hji16] at H
     have hji16w := (i64_w _).trans hji16
     by_cases c17 : 0 ≤ (ji16)
     rotate_left
     ·rw [if_neg c17] at H
      cases H
     rw [if_pos c17] at H
     have c17b0 := decide_eq_true c17
     clear c17
     by_cases c18 : (ji16) < (l0.length : Int)
     rotate_left
     ·rw [if_neg c18] at H
      cases H
     rw [if_pos c18] at H
     have c18b0 := decide_eq_true c18
     clear c18
     have H' := Aside0.mk H
     clear H
     obtain ⟨⟨ad167, e167, hx167_0⟩, p167, q167⟩ := zW (Kd.at_int (Kd.R_reads' HO_19.out).2.2 x21_2)
     cases e167
     obtain ⟨⟨ad168, e168, hx168_0⟩, p168, q168⟩ := zW (Kd.at_bool HR0.out (ji16))
     (try rw [← Nbq5.out] at hx168_0)
     obtain rfl : ad163 = ad168 := (by injection e168)
     replace hx168_0 := zx HB.out hx168_0
     go_wp2
     go_roundg k2
     case measure => have := HK1.out; have := HK2.out; omega
     case rel => exact ⟨(!(rdOf false l0 (ji16))), (wrap64 (x21_2 + 1)), (by first | rfl | (simp; done) | (simp only [← hji16] <;> (first | rfl | simp)) | (simp [*]; done)), zE, H', zO2 HK1 HK2, ⟨zS HO_3.out⟩, ⟨zr HO_19.out⟩, ⟨zh HB.out⟩⟩
def spec_gmOf.f (k : Nat) (a0 : Int) (l1 : List Bool) : Option (Int × (List (List Int))) := (spec_voLeast.f k l1).bind fun t176 => (some (a0, t176))
theorem spec_gmOf.mono : ∀ a0 a1 k, LeO (spec_gmOf.f k a0 a1) (spec_gmOf.f (k + 1) a0 a1) := by
 intro a0 a1 k
 unfold spec_gmOf.f
 repeat' first
   | (with_reducible exact spec_voLeast.mono _ _)
   | (with_reducible exact LeO.refl _)
   | (with_reducible exact LeO.none _)
   | (with_reducible refine LeO.ite ?_ ?_)
   | (with_reducible refine LeO.bind ?_ (fun _ => ?_))
   | exact spec_voLeast.mono _ _
   | exact LeO.none _
   | refine LeO.ite ?_ ?_
   | refine LeO.bind ?_ (fun _ => ?_)
set_option maxHeartbeats 8000000 in
set_option maxRecDepth 100000 in
theorem spec_gmOf.calls (k : Nat) (a0 : Int) (A1 : Option Addr) (c1 : Nat) (l1 : List Bool) (r1 : Int) (r2 : List (List Int)) (w : World) (hr1 : Kd.C Kd.bool w A1 l1.length l1) (hc1 : l1.length ≤ c1) (h : spec_gmOf.f k a0 l1 = some (r1, r2)) :
  Calls Tryz.prog 113 #[.int .i64 a0, .slice A1 l1.length c1] w fun e w' => ∃ v1_ : Value, e = .returned (.agg #[.int .i64 r1, v1_]) ∧ Kd.V (Kd.slice 3 (Kd.int .i64)) 65 w' w.heap.size (fun k_ => (w.heap.size ≤ k_)) v1_ r2 ∧ Below w.heap.size w w' := by
 have hu28 := Tryz.underlying28
 have HR1 := Aside0.mk hr1
 have HC1 := Aside0.mk hc1
 clear hr1 hc1
 have HB := Aside0.mk (Below.refl w.heap.size w)
 have H : ((spec_voLeast.f k l1).bind fun t176 => (some (a0, t176))) = some (r1, r2) := h
 clear h
 replace H := Option.bind_eq_some_iff.mp H
 obtain ⟨t176, A30, H⟩ := H
 replace H : (some (a0, t176)) = some (r1, r2) := H
 have A3 := Aside0.mk A30
 clear A30
 simp only [Option.some.injEq, Prod.mk.injEq] at H
 obtain ⟨rfl, rfl⟩ := H
 go_enter Tryz.func113, Tryz.ntmps113
 go_wp2_with (first | ((with_reducible refine gate_dst (N := 4) rfl ?_); refine zq 4 #[.int .i64 0, .slice none 0 0] 28 ?_; intro gb175 hg w4 hbox hb; have GW175 := zG hg HB; replace HB := zH hb HB; have BK175 := Aside0.mk hbox; have GE175 := GW175; clear hb hbox hg) | ((with_reducible refine gate_callee (f := 137) rfl ?_); refine zl 7 Tryz.func137 #[.slice A1 l1.length c1] ?_; (with_reducible refine (spec_voLeast.calls k _ _ l1 t176 _ ?side1 ?side2 A3.out).mono ?_); (case side1 => exact zQ (Kd.C_below HR1.out HB.out)); (case side2 => exact HC1.out); rintro e w5 ⟨v177, rfl, ho0, hb⟩; refine ⟨_, rfl, ?_⟩; have HO178 := Aside0.mk (Kd.V_lower (Kd.V_mono (ok' := fun k_ => (w.heap.size ≤ k_) ∧ k_ ≠ gb175) ho0 (fun k_ hk_ => ⟨(Nat.le_trans (below_size (zh HB.out)) hk_), (Kd.freshB (g := gb175) (o := .cells #[.int .i64 0, .slice none 0 0] 28 (0, 0)) (zb BK175.out) k_ hk_)⟩)) (below_size (zh HB.out))); replace BK175 := zK BK175 hb; replace HB := zH hb HB; clear hb; (try clear ho0); obtain ⟨Ao6, co6, eo6⟩ := Kd.V_slice HO178.out; subst eo6; obtain ⟨hcz7_0, hcz7_1, hfz7_0, hfz7_1⟩ := zC2 BK175))
 refine bodyPost_ret (results_cell_row rfl _ _ gb175 28 #[.int .i64 a0, .slice Ao6 t176.length co6] (0, 0) _ rfl (by (with_reducible repeat (first | refine blk_drewN ?_ _ | refine blk_drew ?_ | refine blk_alloc ?_ _)); refine blk_put (cs := #[.int .i64 a0, .slice none 0 0]) ?_ 1 _ rfl; (with_reducible repeat (first | refine blk_drewN ?_ _ | refine blk_drew ?_ | refine blk_alloc ?_ _)); refine blk_put (cs := #[.int .i64 0, .slice none 0 0]) ?_ 0 _ rfl; (with_reducible repeat (first | refine blk_drewN ?_ _ | refine blk_drew ?_ | refine blk_alloc ?_ _)); exact BK175.out) Tryz.underlying28 rfl (by kernel_rfl)) rfl ?_
 exact ⟨_, by first | rfl | (simp [*, errW_none, errW_some] <;> rfl), by (with_reducible repeat (first | apply Kd.V_alloc | apply Kd.V_drewN | apply Kd.V_drew)); exact Kd.V_mono (Kd.V_far (p := ⟨gb175, 1, none⟩) (Kd.V_far (p := ⟨gb175, 0, none⟩) (Kd.V_mono HO178.out (fun k_ hk => (⟨hk, hk.2⟩ : _ ∧ k_ ≠ gb175))) (fun _ hk => hk.2) (.int .i64 a0)) (fun _ hk => hk.2) (.slice Ao6 t176.length co6)) (fun _ hk => hk.1.1), zh HB.out⟩
end Go.Proofs.YtmbkmabpebjboaaGreat.Q
end
section
namespace Go.Proofs.YtmbkmabpebjboaaGreat.Q
open Go.RowKit Go.Proofs.YtmbkmabpebjboaaGreatW.PrintWords Go.Proofs.YtmbkmabpebjboaaGreatW.PrintLast Go.Proofs.YtmbkmabpebjboaaGreatW.PrintMore
set_option linter.unusedVariables false
set_option linter.unusedSimpArgs false
def mustO (p : List Bool) : List Int → Bool → Option Bool
  | [], m => some m
  | i :: s, m => if m = true then mustO p s true else if 0 ≤ i then (if 0 ≤ wrap64 ((p.length : Int) - shl .i64 1 i) ∧ wrap64 ((p.length : Int) - shl .i64 1 i) < (p.length : Int) then mustO p s (rdOf false p (wrap64 ((p.length : Int) - shl .i64 1 i))) else none) else none
theorem rdN {xs : List Bool} {i : Nat} (h : i < xs.length) : rdOf false xs (i : Int) = xs[i] := by
  unfold rdOf
  rw [Int.toNat_natCast, List.getD_eq_getElem?_getD, List.getElem?_eq_getElem h]; rfl
theorem C_bools {w : World} {g e : Nat} {ws : List Bool} (hb : w.heap[g]? = some (.cells (ws.map Value.bool).toArray e (0, 0))) (hm : ws.length ≤ 65536) : Kd.C Kd.bool w (some ⟨g, 0, none⟩) ws.length ws := by
  refine ⟨rfl, Nat.le_trans hm (by decide), fun _ => ⟨_, rfl, fun j p hj => ⟨[.bool p], rfl, rfl, fun i u hu => ?_⟩⟩⟩
  cases i with
  | zero =>
    have : Value.bool p = u := by simpa using hu
    subst this
    rw [add_at, show (0 : Nat) + (j * Kd.bool.sz + 0) = j from by show 0 + (j * 1 + 0) = j; omega, blk_cell hb, List.getElem?_toArray, List.getElem?_map, hj]; rfl
  | succ i => simp at hu
structure LookSt (gw go : Nat) (w0 w : World) (ws : List Bool) (v : Value) (gs : List S28) : Prop where
  N : Kd.N k28 28 w w0.heap.size (fun z => w0.heap.size ≤ z ∧ z ≠ gw ∧ z ≠ go) v gs
  O : w.heap[go]? = some (.cells #[v] 42 (0, 0))
  W : w.heap[gw]? = some (.cells (ws.map Value.bool).toArray 4 (0, 0))
  B : Below w0.heap.size w0 w
section
variable {gw go : Nat} {w0 w w1 : World} {ws : List Bool} {v : Value} {gs : List S28}
theorem LookSt.below (h : LookSt gw go w0 w ws v gs) (hb : Below w.heap.size w w1) : LookSt gw go w0 w1 ws v gs :=
  ⟨Kd.N_below h.N hb, blk_below h.O hb, blk_below h.W hb, h.B.trans (hb.mono h.B.size)⟩
theorem LookSt.alloc (h : LookSt gw go w0 w ws v gs) (o : Obj) : LookSt gw go w0 (w.alloc o) ws v gs := h.below ((Below.refl _ _).alloc (Nat.le_refl _) o)
theorem LookSt.put (h : LookSt gw go w0 w ws v gs) (hne : gw ≠ go) (hbw : w0.heap.size ≤ gw) (i : Nat) (b : Bool) : LookSt gw go w0 (w.setCell ⟨gw, i, none⟩ (.bool b)) (ws.set i b) v gs :=
  ⟨Kd.N_far h.N (fun _ hk => hk.2.1) _, blk_far h.O (Ne.symm hne) _, blk_put h.W i _ (by simp), below_set h.B hbw⟩
end
theorem om1 {m d N : Nat} (h : m + (d + 1) = N) : m + 1 + d = N := by omega
theorem om2 {k n g : Nat} (h : k < n) (hg : n - k ≤ g) : n - (k + 1) < g := by omega
theorem om3 {k n : Nat} (h : k < n) (hn : n ≤ 9223372036854775807) : wrap64 ((k : Int) + 1) = ((k + 1 : Nat) : Int) := by unfold wrap64; omega
theorem om4 {a b c d : Nat} (h : a + (b + c) ≤ d) : a + b ≤ d := by omega
theorem om5 {a b c d : Nat} (h : a + (b + c) ≤ d) : a + b + c ≤ d := by omega
theorem mustO_drop {p : List Bool} {s : List Int} {i : Nat} {m : Bool} (h : i < s.length) : mustO p (s.drop i) m = if m = true then mustO p (s.drop (i + 1)) true else if 0 ≤ rd s (i : Int) then (if 0 ≤ wrap64 ((p.length : Int) - shl .i64 1 (rd s (i : Int))) ∧ wrap64 ((p.length : Int) - shl .i64 1 (rd s (i : Int))) < (p.length : Int) then mustO p (s.drop (i + 1)) (rdOf false p (wrap64 ((p.length : Int) - shl .i64 1 (rd s (i : Int))))) else none) else none := by
  have e : rd s (i : Int) = s[i] := by unfold rd; rw [Int.toNat_natCast, List.getD_eq_getElem?_getD, List.getElem?_eq_getElem h]; rfl
  rw [e, List.drop_eq_getElem_cons h, mustO]
theorem take_rdOf {p ws : List Bool} (h : ws.take p.length = p) {j : Int} (h0 : 0 ≤ j) (h1 : j < (p.length : Int)) : ∃ hj : j.toNat < ws.length, ws[j.toNat] = rdOf false p j := by
  have hl : p.length ≤ ws.length := by have := congrArg List.length h; rw [List.length_take] at this; omega
  refine ⟨by omega, ?_⟩
  unfold rdOf
  have : p.getD j.toNat false = (ws.take p.length).getD j.toNat false := by rw [h]
  rw [this, List.getD_eq_getElem?_getD, List.getElem?_take_of_lt (by omega), List.getElem?_eq_getElem (by omega)]; rfl
theorem take_set_snoc {p ws : List Bool} (h : ws.take p.length = p) (hl : p.length < ws.length) (b : Bool) : (ws.set p.length b).take (p ++ [b]).length = p ++ [b] := by
  rw [List.length_append, List.length_singleton, List.take_succ_eq_append_getElem (by rw [List.length_set]; exact hl), List.getElem_set_self, List.take_set_of_le (Nat.le_refl _), h]
theorem take_less {p ws : List Bool} {b : Bool} (h : ws.take (p ++ [b]).length = p ++ [b]) : ws.take p.length = p := by
  have := congrArg (List.take p.length) h
  rw [List.length_append, List.length_singleton, List.take_take, Nat.min_eq_left (by omega), List.take_left'] at this
  · exact this
  · rfl
end Go.Proofs.YtmbkmabpebjboaaGreat.Q
end
section
namespace Go.Proofs.YtmbkmabpebjboaaGreat.Q
open Go.RowKit Go.Proofs.YtmbkmabpebjboaaGreatW.PrintWords Go.Proofs.YtmbkmabpebjboaaGreatW.PrintLast Go.Proofs.YtmbkmabpebjboaaGreatW.PrintMore
attribute [local go_sem] max2_int min2_int max_two min_two max_three min_three max_four min_four
set_option linter.unusedVariables false
set_option linter.unusedSimpArgs false
def laws_szIntS.f (l0 : List Int) (a1 : Int) : Option (Int) := if (wrap64 (a1 - (l0.length : Int))) < 0 then (some (-1)) else (some (wrap64 (a1 - (l0.length : Int))))
set_option maxHeartbeats 8000000 in
set_option maxRecDepth 100000 in
theorem laws_szIntS.calls (A0 : Option Addr) (c0 : Nat) (l0 : List Int) (a1 : Int) (r : Int) (w : World) (hr0 : Kd.C (Kd.int .i64) w A0 l0.length l0) (hc0 : l0.length ≤ c0) (h : laws_szIntS.f l0 a1 = some r) :
  Calls Tryz.prog 49 #[.slice A0 l0.length c0, .int .i64 a1] w fun e w' => e = .returned (.int .i64 r) ∧ Drawn0 w w' := by
 have HR0 := Aside0.mk hr0
 have HC0 := Aside0.mk hc0
 clear hr0 hc0
 have H : (if (wrap64 (a1 - (l0.length : Int))) < 0 then (some (-1)) else (some (wrap64 (a1 - (l0.length : Int))))) = some r := h
 clear h
 by_cases c3 : (wrap64 (a1 - (l0.length : Int))) < 0
 ·rw [if_pos c3] at H
  have c3b0 := decide_eq_true c3
  clear c3
  obtain rfl := Option.some.inj H
  go_enter Tryz.func49, Tryz.ntmps49
  go_wp2
  go_ret
  exact za1
 rw [if_neg c3] at H
 have c3b0 := decide_eq_false c3
 clear c3
 obtain rfl := Option.some.inj H
 go_enter Tryz.func49, Tryz.ntmps49
 go_wp2
 go_ret
 exact za1
def laws_szIntSS.l0 : Nat → List (List Int) → Int → Int → Option (Int)
 | 0, _, _, _ => none
 | k + 1, x0, x1, x5 => if x5 < (x0.length : Int) then (if 0 ≤ x5 then ((laws_szIntS.f (rd_L1 x0 x5) x1).bind fun t102 => (if t102 < 0 then (some (-1)) else (laws_szIntSS.l0 k x0 t102 (wrap64 (x5 + 1))))) else (none)) else (some x1)
def laws_szIntSS.f (k : Nat) (l0 : List (List Int)) (a1 : Int) : Option (Int) := if (wrap64 (a1 - (l0.length : Int))) < 0 then (some (-1)) else (laws_szIntSS.l0 k l0 (wrap64 (a1 - (l0.length : Int))) 0)
set_option maxHeartbeats 8000000 in
set_option maxRecDepth 100000 in
theorem laws_szIntSS.calls (k : Nat) (A0 : Option Addr) (c0 : Nat) (l0 : List (List Int)) (a1 : Int) (r : Int) (w : World) (hr0 : Kd.C (Kd.slice 3 (Kd.int .i64)) w A0 l0.length l0) (hc0 : l0.length ≤ c0) (h : laws_szIntSS.f k l0 a1 = some r) :
  Calls Tryz.prog 26 #[.slice A0 l0.length c0, .int .i64 a1] w fun e w' => e = .returned (.int .i64 r) ∧ Drawn0 w w' := by
 have HR0 := Aside0.mk hr0
 have HC0 := Aside0.mk hc0
 clear hr0 hc0
 have H : (if (wrap64 (a1 - (l0.length : Int))) < 0 then (some (-1)) else (laws_szIntSS.l0 k l0 (wrap64 (a1 - (l0.length : Int))) 0)) = some r := h
 clear h
 by_cases c3 : (wrap64 (a1 - (l0.length : Int))) < 0
 ·rw [if_pos c3] at H
  have c3b0 := decide_eq_true c3
  clear c3
  obtain rfl := Option.some.inj H
  go_enter Tryz.func26, Tryz.ntmps26
  go_wp2
  go_ret
  exact za1
 rw [if_neg c3] at H
 have c3b0 := decide_eq_false c3
 clear c3
 have H' := Aside0.mk H
 clear H
 go_enter Tryz.func26, Tryz.ntmps26
 go_wp2
 go_loopg [1, 5] k (fun kq v1 v5 w' => ∃ (x1_1 : Int) (x5_1 : Int), v1 = .int .i64 x1_1 ∧ v5 = .int .i64 x5_1 ∧ Aside0 (laws_szIntSS.l0 kq l0 x1_1 x5_1 = some r) ∧ Aside0 (kq ≤ k) ∧ Drawn0 w w')
 case atStart => exact ⟨(wrap64 (a1 - (l0.length : Int))), (0), zE, zE, H', ⟨Nat.le_refl _⟩, zD⟩
 case round =>
  clear H'
  try clear c2
  try clear p2
  try clear c3
  try clear c3b0
  obtain ⟨x1_1, x5_1, rfl, rfl, HA, HK1, ⟨m1, rfl⟩⟩ := hrel
  cases gk with
  | zero => exact absurd HA.out (by simp [laws_szIntSS.l0])
  | succ k1 =>
   have H := HA.out
   clear HA
   simp only [laws_szIntSS.l0] at H
   by_cases c4 : x5_1 < (l0.length : Int)
   rotate_left
   ·rw [if_neg c4] at H
    have c4b0 := decide_eq_false c4
    clear c4
    obtain rfl := Option.some.inj H
    go_wp2
    go_ret
    exact za1
   rw [if_pos c4] at H
   have c4b0 := decide_eq_true c4
   clear c4
   by_cases c5 : 0 ≤ x5_1
   rotate_left
   ·rw [if_neg c5] at H
    cases H
   rw [if_pos c5] at H
   have c5b0 := decide_eq_true c5
   clear c5
   replace H := Option.bind_eq_some_iff.mp H
   obtain ⟨t102, A60, H⟩ := H
   have A6 := Aside0.mk A60
   clear A60
   by_cases c7 : t102 < 0
   ·rw [if_pos c7] at H
    have c7b0 := decide_eq_true c7
    clear c7
    obtain rfl := Option.some.inj H
    obtain ⟨⟨ad101, A101_0, c101_0, e101, hx101_0, hl101_0, hi101_0⟩, p101, q101⟩ := zW (at_L1 HR0.out x5_1)
    cases e101
    have HR101_0 := Aside0.mk hi101_0
    have HC101_0 := Aside0.mk hl101_0
    clear hi101_0 hl101_0
    go_wp2_with (first | ((with_reducible refine gate_callee (f := 49) rfl ?_); refine zl 23 Tryz.func49 #[.slice A101_0 (rd_L1 l0 x5_1).length c101_0, .int .i64 x1_1] ?_; (with_reducible refine (laws_szIntS.calls _ _ (rd_L1 l0 x5_1) x1_1 t102 _ ?side1 ?side2 A6.out).mono ?_); (case side1 => exact zQ HR101_0.out); (case side2 => exact HC101_0.out); rintro e w' ⟨rfl, ⟨nd, rfl⟩⟩; refine ⟨_, rfl, ?_⟩))
    go_ret
    exact za1
   rw [if_neg c7] at H
   have c7b0 := decide_eq_false c7
   clear c7
   have H' := Aside0.mk H
   clear H
   obtain ⟨⟨ad101, A101_0, c101_0, e101, hx101_0, hl101_0, hi101_0⟩, p101, q101⟩ := zW (at_L1 HR0.out x5_1)
   cases e101
   have HR101_0 := Aside0.mk hi101_0
   have HC101_0 := Aside0.mk hl101_0
   clear hi101_0 hl101_0
   go_wp2_with (first | ((with_reducible refine gate_callee (f := 49) rfl ?_); refine zl 23 Tryz.func49 #[.slice A101_0 (rd_L1 l0 x5_1).length c101_0, .int .i64 x1_1] ?_; (with_reducible refine (laws_szIntS.calls _ _ (rd_L1 l0 x5_1) x1_1 t102 _ ?side1 ?side2 A6.out).mono ?_); (case side1 => exact zQ HR101_0.out); (case side2 => exact HC101_0.out); rintro e w' ⟨rfl, ⟨nd, rfl⟩⟩; refine ⟨_, rfl, ?_⟩))
   go_roundg k1
   case measure => have := HK1.out; omega
   case rel => exact ⟨(t102), (wrap64 (x5_1 + 1)), zE, zE, H', zO HK1, zD⟩
def laws_szGame.f (k : Nat) (a0_0 : Int) (l0_1 : List (List Int)) (a1 : Int) : Option (Int) := (laws_szIntSS.f k l0_1 a1).bind fun t104 => (if t104 < 0 then (some (-1)) else (some t104))
set_option maxHeartbeats 8000000 in
set_option maxRecDepth 100000 in
theorem laws_szGame.calls (k : Nat) (a0_0 : Int) (A0_1 : Option Addr) (c0_1 : Nat) (l0_1 : List (List Int)) (a1 : Int) (r : Int) (w : World) (hr0_1 : Kd.C (Kd.slice 3 (Kd.int .i64)) w A0_1 l0_1.length l0_1) (hc0_1 : l0_1.length ≤ c0_1) (h : laws_szGame.f k a0_0 l0_1 a1 = some r) :
  Calls Tryz.prog 6 #[.agg #[.int .i64 a0_0, .slice A0_1 l0_1.length c0_1], .int .i64 a1] w fun e w' => e = .returned (.int .i64 r) ∧ Below w.heap.size w w' := by
 have hu24 := Tryz.underlying24
 have HR0_1 := Aside0.mk hr0_1
 have HC0_1 := Aside0.mk hc0_1
 clear hr0_1 hc0_1
 have HB := Aside0.mk (Below.refl w.heap.size w)
 have H : ((laws_szIntSS.f k l0_1 a1).bind fun t104 => (if t104 < 0 then (some (-1)) else (some t104))) = some r := h
 clear h
 replace H := Option.bind_eq_some_iff.mp H
 obtain ⟨t104, A30, H⟩ := H
 have A3 := Aside0.mk A30
 clear A30
 by_cases c4 : t104 < 0
 ·rw [if_pos c4] at H
  have c4b0 := decide_eq_true c4
  clear c4
  obtain rfl := Option.some.inj H
  go_enter Tryz.func6, Tryz.ntmps6
  go_wp2_with (first | ((with_reducible refine gate_dst (N := 2) rfl ?_); refine zq 2 #[.int .i64 a0_0, .slice A0_1 l0_1.length c0_1] 24 ?_; intro gb103 hg w5 hbox hb; have GW103 := zG hg HB; replace HB := zH hb HB; have BK103 := Aside0.mk hbox; have GE103 := GW103; clear hb hbox hg; obtain ⟨hcz6_0, hcz6_1, hfz6_0, hfz6_1⟩ := zC2 BK103) | ((with_reducible refine gate_callee (f := 26) rfl ?_); refine zl 8 Tryz.func26 #[.slice A0_1 l0_1.length c0_1, .int .i64 a1] ?_; (with_reducible refine (laws_szIntSS.calls k _ _ l0_1 a1 t104 _ ?side1 ?side2 A3.out).mono ?_); (case side1 => exact zQ (Kd.C_below HR0_1.out HB.out)); (case side2 => exact HC0_1.out); rintro e w' ⟨rfl, ⟨nd, rfl⟩⟩; refine ⟨_, rfl, ?_⟩))
  go_ret
  exact ⟨by first | rfl | (simp [*, errW_none, errW_some] <;> rfl), zh HB.out⟩
 rw [if_neg c4] at H
 have c4b0 := decide_eq_false c4
 clear c4
 obtain rfl := Option.some.inj H
 go_enter Tryz.func6, Tryz.ntmps6
 go_wp2_with (first | ((with_reducible refine gate_dst (N := 2) rfl ?_); refine zq 2 #[.int .i64 a0_0, .slice A0_1 l0_1.length c0_1] 24 ?_; intro gb103 hg w7 hbox hb; have GW103 := zG hg HB; replace HB := zH hb HB; have BK103 := Aside0.mk hbox; have GE103 := GW103; clear hb hbox hg; obtain ⟨hcz8_0, hcz8_1, hfz8_0, hfz8_1⟩ := zC2 BK103) | ((with_reducible refine gate_callee (f := 26) rfl ?_); refine zl 8 Tryz.func26 #[.slice A0_1 l0_1.length c0_1, .int .i64 a1] ?_; (with_reducible refine (laws_szIntSS.calls k _ _ l0_1 a1 t104 _ ?side1 ?side2 A3.out).mono ?_); (case side1 => exact zQ (Kd.C_below HR0_1.out HB.out)); (case side2 => exact HC0_1.out); rintro e w' ⟨rfl, ⟨nd, rfl⟩⟩; refine ⟨_, rfl, ?_⟩))
 go_ret
 exact ⟨by first | rfl | (simp [*, errW_none, errW_some] <;> rfl), zh HB.out⟩
def spec_l1Rising.l0 : Nat → List Int → Int → Int → List Int → Int → Int → Option (Bool)
 | 0, _, _, _, _, _, _ => none
 | k + 1, x0, x1, x2, x9, x10, x11 => if x11 < x10 then (if 0 ≤ x11 then (if x11 < (x9.length : Int) then ((spec_l1In.f (rd x9 x11) x1 x2).bind fun t106 => (if t106 = true then (if x11 > 0 then (if 0 ≤ (wrap64 (x11 - 1)) then (if (wrap64 (x11 - 1)) < (x0.length : Int) then (if (rd x0 (wrap64 (x11 - 1))) ≥ (rd x9 x11) then (some false) else (spec_l1Rising.l0 k x0 x1 x2 x9 x10 (wrap64 (x11 + 1)))) else (none)) else (none)) else (spec_l1Rising.l0 k x0 x1 x2 x9 x10 (wrap64 (x11 + 1)))) else (some false))) else (none)) else (none)) else (some true)
def spec_l1Rising.f (k : Nat) (l0 : List Int) (a1 : Int) (a2 : Int) : Option (Bool) := spec_l1Rising.l0 k l0 a1 a2 l0 (l0.length : Int) 0
set_option maxHeartbeats 8000000 in
set_option maxRecDepth 100000 in
theorem spec_l1Rising.calls (k : Nat) (A0 : Option Addr) (c0 : Nat) (l0 : List Int) (a1 : Int) (a2 : Int) (r : Bool) (w : World) (hr0 : Kd.C (Kd.int .i64) w A0 l0.length l0) (hc0 : l0.length ≤ c0) (h : spec_l1Rising.f k l0 a1 a2 = some r) :
  Calls Tryz.prog 139 #[.slice A0 l0.length c0, .int .i64 a1, .int .i64 a2] w fun e w' => e = .returned (.bool r) ∧ Drawn0 w w' := by
 have HR0 := Aside0.mk hr0
 have HC0 := Aside0.mk hc0
 clear hr0 hc0
 have H : (spec_l1Rising.l0 k l0 a1 a2 l0 (l0.length : Int) 0) = some r := h
 clear h
 have H' := Aside0.mk H
 clear H
 go_enter Tryz.func139, Tryz.ntmps139
 go_wp2
 go_loopg [11] k (fun kq v11 w' => ∃ (x11_1 : Int), v11 = .int .i64 x11_1 ∧ Aside0 (spec_l1Rising.l0 kq l0 a1 a2 l0 (l0.length : Int) x11_1 = some r) ∧ Aside0 (kq ≤ k) ∧ Drawn0 w w')
 case atStart => exact ⟨(0), zE, H', ⟨Nat.le_refl _⟩, zD⟩
 case round =>
  clear H'
  try clear c1
  try clear p2
  obtain ⟨x11_1, rfl, HA, HK1, ⟨m1, rfl⟩⟩ := hrel
  cases gk with
  | zero => exact absurd HA.out (by simp [spec_l1Rising.l0])
  | succ k1 =>
   have H := HA.out
   clear HA
   simp only [spec_l1Rising.l0] at H
   by_cases c4 : x11_1 < (l0.length : Int)
   rotate_left
   ·rw [if_neg c4] at H
    have c4b0 := decide_eq_false c4
    clear c4
    obtain rfl := Option.some.inj H
    go_wp2
    go_ret
    exact za1
   rw [if_pos c4] at H
   have c4b0 := decide_eq_true c4
   clear c4
   by_cases c5 : 0 ≤ x11_1
   rotate_left
   ·rw [if_neg c5] at H
    cases H
   rw [if_pos c5] at H
   have c5b0 := decide_eq_true c5
   clear c5
   by_cases c6 : x11_1 < (l0.length : Int)
   rotate_left
   ·rw [if_neg c6] at H
    cases H
   rw [if_pos c6] at H
   have c6b0 := decide_eq_true c6
   clear c6
   replace H := Option.bind_eq_some_iff.mp H
   obtain ⟨t106, A70, H⟩ := H
   have A7 := Aside0.mk A70
   clear A70
   by_cases c8 : t106 = true
   rotate_left
   ·replace c8 := Bool.eq_false_iff.mpr c8
    subst c8
    rw [if_neg zF] at H
    obtain rfl := Option.some.inj H
    obtain ⟨⟨ad105, e105, hx105_0⟩, p105, q105⟩ := zW (Kd.at_int HR0.out x11_1)
    cases e105
    go_wp2_with (first | ((with_reducible refine gate_callee (f := 110) rfl ?_); refine zl 19 Tryz.func110 #[.int .i64 (rd l0 x11_1), .int .i64 a1, .int .i64 a2] ?_; (with_reducible refine (spec_l1In.calls (rd l0 x11_1) a1 a2 false _ A7.out).mono ?_); rintro e w' ⟨rfl, ⟨nd, rfl⟩⟩; refine ⟨_, rfl, ?_⟩))
    go_ret
    exact za1
   subst c8
   rw [if_pos rfl] at H
   by_cases c9 : x11_1 > 0
   rotate_left
   ·rw [if_neg c9] at H
    have c9b0 := decide_eq_false c9
    clear c9
    have H' := Aside0.mk H
    clear H
    obtain ⟨⟨ad105, e105, hx105_0⟩, p105, q105⟩ := zW (Kd.at_int HR0.out x11_1)
    cases e105
    go_wp2_with (first | ((with_reducible refine gate_callee (f := 110) rfl ?_); refine zl 19 Tryz.func110 #[.int .i64 (rd l0 x11_1), .int .i64 a1, .int .i64 a2] ?_; (with_reducible refine (spec_l1In.calls (rd l0 x11_1) a1 a2 true _ A7.out).mono ?_); rintro e w' ⟨rfl, ⟨nd, rfl⟩⟩; refine ⟨_, rfl, ?_⟩))
    go_roundg k1
    case measure => have := HK1.out; omega
    case rel => exact ⟨(wrap64 (x11_1 + 1)), zE, H', zO HK1, zD⟩
   rw [if_pos c9] at H
   have c9b0 := decide_eq_true c9
   clear c9
   obtain ⟨ji10, hji10⟩ : ∃ j_ : Int, (wrap64 (x11_1 - 1)) = j_ := ⟨_, rfl⟩
   rw [hji10] at H
   (try rw [hji10] at A7)
   have hji10w := (i64_w _).trans hji10
   by_cases c11 : 0 ≤ (ji10)
   rotate_left
   ·rw [if_neg c11] at H
    cases H
   rw [if_pos c11] at H
   have c11b0 := decide_eq_true c11
   clear c11
   by_cases c12 : (ji10) < (l0.length : Int)
   rotate_left
   ·rw [if_neg c12] at H
    cases H
   rw [if_pos c12] at H
   have c12b0 := decide_eq_true c12
   clear c12
   by_cases c13 : (rd l0 (ji10)) ≥ (rd l0 x11_1)
   ·rw [if_pos c13] at H
    have c13b0 := decide_eq_true c13
    clear c13
    obtain rfl := Option.some.inj H
    obtain ⟨⟨ad105, e105, hx105_0⟩, p105, q105⟩ := zW (Kd.at_int HR0.out x11_1)
    cases e105
    go_wp2_with (first | ((with_reducible refine gate_callee (f := 110) rfl ?_); refine zl 19 Tryz.func110 #[.int .i64 (rd l0 x11_1), .int .i64 a1, .int .i64 a2] ?_; (with_reducible refine (spec_l1In.calls (rd l0 x11_1) a1 a2 true _ A7.out).mono ?_); rintro e w' ⟨rfl, ⟨nd, rfl⟩⟩; refine ⟨_, rfl, ?_⟩; have p107 : 0 ≤ ((ji10) : Int) := zk; have q107 : (ji10) < (l0.length : Int) := zk; obtain ⟨ad107, e107, hx107_0⟩ := Kd.at_int HR0.out (ji10) p107 q107; obtain rfl : ad105 = ad107 := (by injection e107); replace p107 := eq_true p107; replace q107 := eq_true q107))
    go_ret
    exact ⟨by first | rfl | (simp; done) | (simp only [← hji10] <;> (first | rfl | simp)) | (simp [*]; done), by repeat (first | exact Drawn0.refl _ | apply Drawn0.step)⟩
   rw [if_neg c13] at H
   have c13b0 := decide_eq_false c13
   clear c13
   have H' := Aside0.mk H
   clear H
   obtain ⟨⟨ad105, e105, hx105_0⟩, p105, q105⟩ := zW (Kd.at_int HR0.out x11_1)
   cases e105
   go_wp2_with (first | ((with_reducible refine gate_callee (f := 110) rfl ?_); refine zl 19 Tryz.func110 #[.int .i64 (rd l0 x11_1), .int .i64 a1, .int .i64 a2] ?_; (with_reducible refine (spec_l1In.calls (rd l0 x11_1) a1 a2 true _ A7.out).mono ?_); rintro e w' ⟨rfl, ⟨nd, rfl⟩⟩; refine ⟨_, rfl, ?_⟩; have p107 : 0 ≤ ((ji10) : Int) := zk; have q107 : (ji10) < (l0.length : Int) := zk; obtain ⟨ad107, e107, hx107_0⟩ := Kd.at_int HR0.out (ji10) p107 q107; obtain rfl : ad105 = ad107 := (by injection e107); replace p107 := eq_true p107; replace q107 := eq_true q107))
   go_roundg k1
   case measure => have := HK1.out; omega
   case rel => exact ⟨(wrap64 (x11_1 + 1)), zE, H', zO HK1, zD⟩
def spec_voSet.f (k : Nat) (a0 : Int) (l1 : List Int) : Option (Bool) := (spec_l1Rising.f k l1 0 (wrap64 (a0 - 1))).bind fun t108 => (some t108)
set_option maxHeartbeats 8000000 in
set_option maxRecDepth 100000 in
theorem spec_voSet.calls (k : Nat) (a0 : Int) (A1 : Option Addr) (c1 : Nat) (l1 : List Int) (r : Bool) (w : World) (hr1 : Kd.C (Kd.int .i64) w A1 l1.length l1) (hc1 : l1.length ≤ c1) (h : spec_voSet.f k a0 l1 = some r) :
  Calls Tryz.prog 122 #[.int .i64 a0, .slice A1 l1.length c1] w fun e w' => e = .returned (.bool r) ∧ Drawn0 w w' := by
 have HR1 := Aside0.mk hr1
 have HC1 := Aside0.mk hc1
 clear hr1 hc1
 have H : ((spec_l1Rising.f k l1 0 (wrap64 (a0 - 1))).bind fun t108 => (some t108)) = some r := h
 clear h
 replace H := Option.bind_eq_some_iff.mp H
 obtain ⟨t108, A30, H⟩ := H
 have A3 := Aside0.mk A30
 clear A30
 obtain rfl := Option.some.inj H
 go_enter Tryz.func122, Tryz.ntmps122
 go_wp2_with (first | ((with_reducible refine gate_callee (f := 139) rfl ?_); refine zl 8 Tryz.func139 #[.slice A1 l1.length c1, .int .i64 0, .int .i64 (wrap64 (a0 - 1))] ?_; (with_reducible refine (spec_l1Rising.calls k _ _ l1 0 (wrap64 (a0 - 1)) t108 _ ?side1 ?side2 A3.out).mono ?_); (case side1 => exact zQ HR1.out); (case side2 => exact HC1.out); rintro e w' ⟨rfl, ⟨nd, rfl⟩⟩; refine ⟨_, rfl, ?_⟩))
 go_ret
 exact za1
mutual
def spec_gmSets.j0 : Nat → Int → List (List Int) → Bool → Option (Bool)
 | 0, _, _, _ => none
 | k + 1, x0, x1, x18 => if x18 = true then (some false) else (spec_gmSets.l0 k x0 x1 (x1.length : Int) 0)
def spec_gmSets.l0 : Nat → Int → List (List Int) → Int → Int → Option (Bool)
 | 0, _, _, _, _ => none
 | k + 1, x0, x19, x20, x21 => if x21 < x20 then (if 0 ≤ x21 then (if x21 < (x19.length : Int) then (if ((rd_L1 x19 x21).length : Int) = 0 then (some false) else ((spec_voSet.f k x0 (rd_L1 x19 x21)).bind fun t112 => (if t112 = true then (spec_gmSets.l0 k x0 x19 x20 (wrap64 (x21 + 1))) else (some false)))) else (none)) else (none)) else (some true)
end
def spec_gmSets.f (k : Nat) (a0 : Int) (l1 : List (List Int)) (a2 : Int) : Option (Bool) := (spec_l1In.f a0 1 9).bind fun t109 => (if t109 = true then ((spec_l1In.f (l1.length : Int) 1 a2).bind fun t110 => (spec_gmSets.j0 k a0 l1 (!t110))) else (spec_gmSets.j0 k a0 l1 true))
set_option maxHeartbeats 8000000 in
set_option maxRecDepth 100000 in
theorem spec_gmSets.calls (k : Nat) (a0 : Int) (A1 : Option Addr) (c1 : Nat) (l1 : List (List Int)) (a2 : Int) (r : Bool) (w : World) (hr1 : Kd.C (Kd.slice 3 (Kd.int .i64)) w A1 l1.length l1) (hc1 : l1.length ≤ c1) (h : spec_gmSets.f k a0 l1 a2 = some r) :
  Calls Tryz.prog 82 #[.int .i64 a0, .slice A1 l1.length c1, .int .i64 a2] w fun e w' => e = .returned (.bool r) ∧ Drawn0 w w' := by
 have HR1 := Aside0.mk hr1
 have HC1 := Aside0.mk hc1
 clear hr1 hc1
 have H : ((spec_l1In.f a0 1 9).bind fun t109 => (if t109 = true then ((spec_l1In.f (l1.length : Int) 1 a2).bind fun t110 => (spec_gmSets.j0 k a0 l1 (!t110))) else (spec_gmSets.j0 k a0 l1 true))) = some r := h
 clear h
 have HC4 := Aside0.mk H
 clear H
 go_enter Tryz.func82, Tryz.ntmps82
 go_upto_region 1 with (fail)
 go_cut [18] (fun v18 wc => ∃ (kq : Nat) (x18_3 : Bool), v18 = .bool x18_3 ∧ Aside0 (spec_gmSets.j0 kq a0 l1 x18_3 = some r) ∧ Aside0 (kq ≤ k) ∧ Drawn0 w wc)
 case first =>
  have H := HC4.out
  clear HC4
  replace H := Option.bind_eq_some_iff.mp H
  obtain ⟨t109, A50, H⟩ := H
  have A5 := Aside0.mk A50
  clear A50
  by_cases c6 : t109 = true
  ·subst c6
   rw [if_pos rfl] at H
   replace H := Option.bind_eq_some_iff.mp H
   obtain ⟨t110, A70, H⟩ := H
   have A7 := Aside0.mk A70
   clear A70
   have H' := Aside0.mk H
   clear H
   go_wp2_with (first | ((with_reducible refine gate_callee (f := 110) rfl ?_); refine zl 10 Tryz.func110 #[.int .i64 a0, .int .i64 1, .int .i64 9] ?_; (with_reducible refine (spec_l1In.calls a0 1 9 true _ A5.out).mono ?_); rintro e w' ⟨rfl, ⟨nd, rfl⟩⟩; refine ⟨_, rfl, ?_⟩) | (go_at_call 110; (with_reducible refine (spec_l1In.calls (l1.length : Int) 1 a2 t110 _ A7.out).mono ?_); rintro e w' ⟨rfl, ⟨nd, rfl⟩⟩))
   go_meet
   case rel => exact ⟨_, (!t110), zE, H', ⟨by first | omega | exact Nat.le_refl _⟩, zD⟩
  ·replace c6 := Bool.eq_false_iff.mpr c6
   subst c6
   rw [if_neg zF] at H
   have H' := Aside0.mk H
   clear H
   go_wp2_with (first | ((with_reducible refine gate_callee (f := 110) rfl ?_); refine zl 10 Tryz.func110 #[.int .i64 a0, .int .i64 1, .int .i64 9] ?_; (with_reducible refine (spec_l1In.calls a0 1 9 false _ A5.out).mono ?_); rintro e w' ⟨rfl, ⟨nd, rfl⟩⟩; refine ⟨_, rfl, ?_⟩))
   go_meet
   case rel => exact ⟨_, (true), zE, H', ⟨by first | omega | exact Nat.le_refl _⟩, zD⟩
 case rest =>
  clear HC4
  try clear c1
  try clear p2
  try clear c6
  obtain ⟨kq, x18_3, rfl, HA, HJ3, ⟨mc3, rfl⟩⟩ := hcut
  cases kq with
  | zero => exact absurd HA.out (by simp [spec_gmSets.j0])
  | succ kj3 =>
   have H := HA.out
   clear HA
   simp only [spec_gmSets.j0] at H
   by_cases c8 : x18_3 = true
   ·subst c8
    rw [if_pos rfl] at H
    obtain rfl := Option.some.inj H
    go_wp2
    go_ret
    exact za1
   replace c8 := Bool.eq_false_iff.mpr c8
   subst c8
   rw [if_neg zF] at H
   have H' := Aside0.mk H
   clear H
   go_wp2
   go_loopg [21] kj3 (fun kq v21 w' => ∃ (x21_2 : Int), v21 = .int .i64 x21_2 ∧ Aside0 (spec_gmSets.l0 kq a0 l1 (l1.length : Int) x21_2 = some r) ∧ Aside0 (kq ≤ kj3) ∧ Drawn0 w w')
   case atStart => exact ⟨(0), zE, H', ⟨Nat.le_refl _⟩, zD⟩
   case round =>
    clear H'
    try clear c1
    try clear p2
    try clear c3
    try clear c6
    try clear c8
    try clear p2
    obtain ⟨x21_2, rfl, HA, HK2, ⟨m2, rfl⟩⟩ := hrel
    cases gk with
    | zero => exact absurd HA.out (by simp [spec_gmSets.l0])
    | succ k2 =>
     have H := HA.out
     clear HA
     simp only [spec_gmSets.l0] at H
     by_cases c9 : x21_2 < (l1.length : Int)
     rotate_left
     ·rw [if_neg c9] at H
      have c9b0 := decide_eq_false c9
      clear c9
      obtain rfl := Option.some.inj H
      go_wp2
      go_ret
      exact za1
     rw [if_pos c9] at H
     have c9b0 := decide_eq_true c9
     clear c9
     by_cases c10 : 0 ≤ x21_2
     rotate_left
     ·rw [if_neg c10] at H
      cases H
     rw [if_pos c10] at H
     have c10b0 := decide_eq_true c10
     clear c10
     by_cases c11 : x21_2 < (l1.length : Int)
     rotate_left
     ·rw [if_neg c11] at H
      cases H
     rw [if_pos c11] at H
     have c11b0 := decide_eq_true c11
     clear c11
     by_cases c12 : ((rd_L1 l1 x21_2).length : Int) = 0
     ·rw [if_pos c12] at H
      have c12b0 := beq_iff_eq.mpr c12
      have c12b1 := bne_eq_false_iff_eq.mpr c12
      clear c12
      obtain rfl := Option.some.inj H
      obtain ⟨⟨ad111, A111_0, c111_0, e111, hx111_0, hl111_0, hi111_0⟩, p111, q111⟩ := zW (at_L1 HR1.out x21_2)
      cases e111
      have HR111_0 := Aside0.mk hi111_0
      have HC111_0 := Aside0.mk hl111_0
      clear hi111_0 hl111_0
      go_wp2
      go_ret
      exact za1
     rw [if_neg c12] at H
     have c12b0 := beq_eq_false_iff_ne.mpr c12
     have c12b1 := bne_iff_ne.mpr c12
     have c12b2 : ¬ ((rd_L1 l1 x21_2) = []) := fun h_ => c12 (by rw [h_]; rfl)
     replace H := Option.bind_eq_some_iff.mp H
     obtain ⟨t112, A130, H⟩ := H
     have A13 := Aside0.mk A130
     clear A130
     by_cases c14 : t112 = true
     rotate_left
     ·replace c14 := Bool.eq_false_iff.mpr c14
      subst c14
      rw [if_neg zF] at H
      obtain rfl := Option.some.inj H
      obtain ⟨⟨ad111, A111_0, c111_0, e111, hx111_0, hl111_0, hi111_0⟩, p111, q111⟩ := zW (at_L1 HR1.out x21_2)
      cases e111
      have HR111_0 := Aside0.mk hi111_0
      have HC111_0 := Aside0.mk hl111_0
      clear hi111_0 hl111_0
      go_wp2_with (first | (go_at_call 122; (with_reducible refine (spec_voSet.calls k2 a0 _ _ (rd_L1 l1 x21_2) false _ ?side1 ?side2 A13.out).mono ?_); (case side1 => exact zQ HR111_0.out); (case side2 => exact HC111_0.out); rintro e w' ⟨rfl, ⟨nd, rfl⟩⟩))
      go_ret
      exact za1
     subst c14
     rw [if_pos rfl] at H
     have H' := Aside0.mk H
     clear H
     obtain ⟨⟨ad111, A111_0, c111_0, e111, hx111_0, hl111_0, hi111_0⟩, p111, q111⟩ := zW (at_L1 HR1.out x21_2)
     cases e111
     have HR111_0 := Aside0.mk hi111_0
     have HC111_0 := Aside0.mk hl111_0
     clear hi111_0 hl111_0
     go_wp2_with (first | (go_at_call 122; (with_reducible refine (spec_voSet.calls k2 a0 _ _ (rd_L1 l1 x21_2) true _ ?side1 ?side2 A13.out).mono ?_); (case side1 => exact zQ HR111_0.out); (case side2 => exact HC111_0.out); rintro e w' ⟨rfl, ⟨nd, rfl⟩⟩))
     go_roundg k2
     case measure => have := HJ3.out; have := HK2.out; omega
     case rel => exact ⟨(wrap64 (x21_2 + 1)), zE, H', zO2 HJ3 HK2, zD⟩
def spec_voBits.l0 : Nat → Int → List Int → Int → Int → Option (Int)
 | 0, _, _, _, _ => none
 | k + 1, x3, x6, x7, x8 => if x8 < x7 then (if 0 ≤ x8 then (if x8 < (x6.length : Int) then (if 0 ≤ (rd x6 x8) then (spec_voBits.l0 k (Go.bits .or .i64 x3 (shl .i64 1 (rd x6 x8))) x6 x7 (wrap64 (x8 + 1))) else (none)) else (none)) else (none)) else (some x3)
def spec_voBits.f (k : Nat) (l0 : List Int) : Option (Int) := spec_voBits.l0 k 0 l0 (l0.length : Int) 0
set_option maxHeartbeats 8000000 in
set_option maxRecDepth 100000 in
theorem spec_voBits.calls (k : Nat) (A0 : Option Addr) (c0 : Nat) (l0 : List Int) (r : Int) (w : World) (hr0 : Kd.C (Kd.int .i64) w A0 l0.length l0) (hc0 : l0.length ≤ c0) (h : spec_voBits.f k l0 = some r) :
  Calls Tryz.prog 84 #[.slice A0 l0.length c0] w fun e w' => e = .returned (.int .i64 r) ∧ Drawn0 w w' := by
 have HR0 := Aside0.mk hr0
 have HC0 := Aside0.mk hc0
 clear hr0 hc0
 have H : (spec_voBits.l0 k 0 l0 (l0.length : Int) 0) = some r := h
 clear h
 have H' := Aside0.mk H
 clear H
 go_enter Tryz.func84, Tryz.ntmps84
 go_wp2
 go_loopg [3, 8] k (fun kq v3 v8 w' => ∃ (x3_1 : Int) (x8_1 : Int), v3 = .int .i64 x3_1 ∧ v8 = .int .i64 x8_1 ∧ Aside0 (spec_voBits.l0 kq x3_1 l0 (l0.length : Int) x8_1 = some r) ∧ Aside0 (kq ≤ k) ∧ Drawn0 w w')
 case atStart => exact ⟨(0), (0), zE, zE, H', ⟨Nat.le_refl _⟩, zD⟩
 case round =>
  clear H'
  obtain ⟨x3_1, x8_1, rfl, rfl, HA, HK1, ⟨m1, rfl⟩⟩ := hrel
  cases gk with
  | zero => exact absurd HA.out (by simp [spec_voBits.l0])
  | succ k1 =>
   have H := HA.out
   clear HA
   simp only [spec_voBits.l0] at H
   by_cases c2 : x8_1 < (l0.length : Int)
   rotate_left
   ·rw [if_neg c2] at H
    have c2b0 := decide_eq_false c2
    clear c2
    obtain rfl := Option.some.inj H
    go_wp2
    go_ret
    exact za1
   rw [if_pos c2] at H
   have c2b0 := decide_eq_true c2
   clear c2
   by_cases c3 : 0 ≤ x8_1
   rotate_left
   ·rw [if_neg c3] at H
    cases H
   rw [if_pos c3] at H
   have c3b0 := decide_eq_true c3
   clear c3
   by_cases c4 : x8_1 < (l0.length : Int)
   rotate_left
   ·rw [if_neg c4] at H
    cases H
   rw [if_pos c4] at H
   have c4b0 := decide_eq_true c4
   clear c4
   by_cases c5 : 0 ≤ (rd l0 x8_1)
   rotate_left
   ·rw [if_neg c5] at H
    cases H
   rw [if_pos c5] at H
   have c5b0 := eq_true c5
   have c5b1 := decide_eq_true c5
   clear c5
   obtain ⟨ji6, hji6⟩ : ∃ j_ : Int, (shl .i64 1 (rd l0 x8_1)) = j_ := ⟨_, rfl⟩
   rw [hji6] at H
   obtain ⟨hji6_, hji6z, hji6u, hji6v, hji6y, hji6x⟩ := zJ1 hji6
   have H' := Aside0.mk H
   clear H
   obtain ⟨⟨ad117, e117, hx117_0⟩, p117, q117⟩ := zW (Kd.at_int HR0.out x8_1)
   cases e117
   go_wp2
   go_roundg k1
   case measure => have := HK1.out; omega
   case rel => exact ⟨(Go.bits .or .i64 x3_1 (ji6)), (wrap64 (x8_1 + 1)), (by first | rfl | (simp; done) | (simp only [← hji6] <;> (first | rfl | simp)) | (simp [*]; done)), zE, H', zO HK1, zD⟩
mutual
def spec_gmWins.l0 : Nat → List (List Int) → List Bool → Int → Int → Option (List Bool)
 | 0, _, _, _, _ => none
 | k + 1, x1, x5, x15, x16 => if x16 < x15 then (spec_gmWins.l1 k x1 x5 x16 x15 x16 x1 (x1.length : Int) 0) else (some x5)
def spec_gmWins.l1 : Nat → List (List Int) → List Bool → Int → Int → Int → List (List Int) → Int → Int → Option (List Bool)
 | 0, _, _, _, _, _, _, _, _ => none
 | k + 1, x1, x5, x6, x15, x16, x19, x20, x21 => if x21 < x20 then (if 0 ≤ x21 then (if x21 < (x19.length : Int) then ((spec_voBits.f k (rd_L1 x19 x21)).bind fun t137 => (if 0 ≤ x6 then (if x6 < (x5.length : Int) then (if rdOf false x5 x6 = true then (spec_gmWins.l1 k x1 (x5.set (x6 : Int).toNat true) x6 x15 x16 x19 x20 (wrap64 (x21 + 1))) else (spec_gmWins.l1 k x1 (x5.set (x6 : Int).toNat ((Go.bits .and .i64 x6 t137) == t137)) x6 x15 x16 x19 x20 (wrap64 (x21 + 1)))) else (none)) else (none))) else (none)) else (none)) else (spec_gmWins.l0 k x1 x5 x15 (wrap64 (x16 + 1)))
end
def spec_gmWins.f (k : Nat) (a0 : Int) (l1 : List (List Int)) : Option (List Bool) := (spec_voAll.f a0).bind fun t132 => (if 0 ≤ (wrap64 (t132 + 1)) then (if (wrap64 (t132 + 1) : Int).toNat ≤ 281474976710656 then ((some (List.replicate (wrap64 (t132 + 1) : Int).toNat false : List Bool)).bind fun y133 => (spec_gmWins.l0 k l1 y133 (y133.length : Int) 0)) else (none)) else (none))
set_option maxHeartbeats 8000000 in
set_option maxRecDepth 100000 in
theorem spec_gmWins.calls (k : Nat) (a0 : Int) (A1 : Option Addr) (c1 : Nat) (l1 : List (List Int)) (r : List Bool) (w : World) (hr1 : Kd.C (Kd.slice 3 (Kd.int .i64)) w A1 l1.length l1) (hc1 : l1.length ≤ c1) (h : spec_gmWins.f k a0 l1 = some r) :
  Calls Tryz.prog 87 #[.int .i64 a0, .slice A1 l1.length c1] w fun e w' => ∃ v0_ : Value, e = .returned (v0_) ∧ Kd.R Kd.bool 4 w' w.heap.size (fun _ => True) v0_ r ∧ Below w.heap.size w w' := by
 have HR1 := Aside0.mk hr1
 have HC1 := Aside0.mk hc1
 clear hr1 hc1
 have HB := Aside0.mk (Below.refl w.heap.size w)
 have H : ((spec_voAll.f a0).bind fun t132 => (if 0 ≤ (wrap64 (t132 + 1)) then (if (wrap64 (t132 + 1) : Int).toNat ≤ 281474976710656 then ((some (List.replicate (wrap64 (t132 + 1) : Int).toNat false : List Bool)).bind fun y133 => (spec_gmWins.l0 k l1 y133 (y133.length : Int) 0)) else (none)) else (none))) = some r := h
 clear h
 replace H := Option.bind_eq_some_iff.mp H
 obtain ⟨t132, A30, H⟩ := H
 have A3 := Aside0.mk A30
 clear A30
 obtain ⟨ji4, hji4⟩ : ∃ j_ : Int, (wrap64 (t132 + 1)) = j_ := ⟨_, rfl⟩
 first | rw [hji4] at H | simp only [hji4] at H
 (try rw [hji4] at A3)
 have hji4w := (i64_w _).trans hji4
 by_cases c5 : 0 ≤ (ji4)
 rotate_left
 ·rw [if_neg c5] at H
  cases H
 rw [if_pos c5] at H
 have c5b0 := eq_true c5
 have c5b1 := decide_eq_true c5
 clear c5
 by_cases c6 : (ji4 : Int).toNat ≤ 281474976710656
 rotate_left
 ·rw [if_neg c6] at H
  cases H
 rw [if_pos c6] at H
 have c6b0 := eq_true c6
 have c6b1 := decide_eq_true c6
 clear c6
 replace H := zY H
 obtain ⟨y133, Ny133, H⟩ := H
 have H' := Aside0.mk H
 clear H
 go_enter Tryz.func87, Tryz.ntmps87
 go_wp2_with (first | ((with_reducible refine gate_callee (f := 111) rfl ?_); refine zl 11 Tryz.func111 #[.int .i64 a0] ?_; (with_reducible refine (spec_voAll.calls a0 t132 _ A3.out).mono ?_); rintro e w' ⟨rfl, ⟨nd, rfl⟩⟩; refine ⟨_, rfl, ?_⟩) | ((with_reducible refine gate_dst (N := 13) rfl ?_); refine Kd.R_make Kd.bool _ 4 rfl (N := 13) rfl 59 _ _ rfl ji4 rfl rfl Tryz.underlying59 (.bool false) 1 info4 rfl (by decide) (by omega) false (ok := fun _ => True) (okp := fun _ => True) rfl (fun _ hk => hk) trivial (zk) (Nat.le_trans (Nat.mul_le_mul_right _ (zk : ji4.toNat ≤ 281474976710656)) (by omega)) (Below.refl _ _) (Nat.le_refl _) ?_; intro v134 w7 ho8 hb hg_ hnew_; clear hg_ hnew_; (first | rw [← Ny133.out] at ho8 | (simp only [Int.reduceToNat] at ho8; rw [← Ny133.out] at ho8)); have HO135 := Aside0.mk (Kd.R_lower ho8 (below_size (zh HB.out))); replace HB := zH hb HB; clear hb ho8; obtain ⟨Ao9, co9, eo9⟩ := Kd.R_slice HO135.out; subst eo9))
 go_loopg [16] k (fun kq v16 w' => ∃ (x5_1 : List Bool) (x16_1 : Int), v16 = .int .i64 x16_1 ∧ Aside0 (spec_gmWins.l0 kq l1 x5_1 (y133.length : Int) x16_1 = some r) ∧ Aside0 (kq ≤ k) ∧ Aside0 (Kd.R Kd.bool 4 w' w.heap.size (fun _ => True) (.slice Ao9 y133.length co9) x5_1) ∧ Aside0 (Below w.heap.size w w'))
 case atStart => exact ⟨(y133), (0), zE, H', ⟨Nat.le_refl _⟩, ⟨zr HO135.out⟩, ⟨zh HB.out⟩⟩
 case round =>
  clear H'
  try clear c1
  try clear p2
  try clear c5
  try clear c5b0
  try clear c5b1
  try clear c6
  try clear c6b0
  try clear c6b1
  try clear p6
  try clear c8
  obtain ⟨x5_1, x16_1, rfl, HA, HK1, HO_5, HB⟩ := hrel
  have hl5_1 := (Kd.R_reads' HO_5.out).1
  rw [hl5_1] at HO_5
  (try simp only [hl5_1])
  cases gk with
  | zero => exact absurd HA.out (by simp [spec_gmWins.l0])
  | succ k1 =>
   have H := HA.out
   clear HA
   simp only [spec_gmWins.l0] at H
   by_cases c10 : x16_1 < (y133.length : Int)
   rotate_left
   ·rw [if_neg c10] at H
    have c10b0 := decide_eq_false c10
    (try simp only [hl5_2] at c10b0)
    (try simp only [hl5_1] at c10b0)
    clear c10
    obtain rfl := Option.some.inj H
    go_wp2
    go_ret
    exact ⟨_, by first | rfl | (simp [errW_none, errW_some] <;> rfl) | (simp only [← hji4]; first | rfl | (simp [errW_none, errW_some] <;> rfl)) | (simp [*, errW_none, errW_some] <;> rfl), by (with_reducible repeat (first | apply Kd.R_alloc | apply Kd.R_drewN | apply Kd.R_drew)); exact HO_5.out, zh HB.out⟩
   rw [if_pos c10] at H
   have c10b0 := decide_eq_true c10
   (try simp only [hl5_1] at c10b0)
   clear c10
   have H' := Aside0.mk H
   clear H
   go_wp2
   go_loopg [21] k1 (fun kq v21 w' => ∃ (x5_2 : List Bool) (x21_2 : Int), v21 = .int .i64 x21_2 ∧ Aside0 (spec_gmWins.l1 kq l1 x5_2 x16_1 (y133.length : Int) x16_1 l1 (l1.length : Int) x21_2 = some r) ∧ Aside0 (kq ≤ k1) ∧ Aside0 (Kd.R Kd.bool 4 w' w.heap.size (fun _ => True) (.slice Ao9 x5_1.length co9) x5_2) ∧ Aside0 (Below w.heap.size w w'))
   case atStart => exact ⟨(x5_1), (0), zE, H', ⟨Nat.le_refl _⟩, ⟨by (try simp only [hl5_1]); (with_reducible repeat (first | apply Kd.R_alloc | apply Kd.R_drewN | apply Kd.R_drew)); exact HO_5.out⟩, ⟨zh HB.out⟩⟩
   case round =>
    clear H'
    try clear c1
    try clear p2
    try clear c5
    try clear c5b0
    try clear c5b1
    try clear c6
    try clear c6b0
    try clear c6b1
    try clear p6
    try clear c8
    try clear c10
    try clear c10b0
    try clear p2
    try clear p6
    obtain ⟨x5_2, x21_2, rfl, HA, HK2, HO_5, HB⟩ := hrel
    have hl5_2 := (Kd.R_reads' HO_5.out).1
    rw [hl5_2] at HO_5
    (try simp only [hl5_2])
    cases gk with
    | zero => exact absurd HA.out (by simp [spec_gmWins.l1])
    | succ k2 =>
     have H := HA.out
     clear HA
     simp only [spec_gmWins.l1] at H
     by_cases c11 : x21_2 < (l1.length : Int)
     rotate_left
     ·rw [if_neg c11] at H
      have c11b0 := decide_eq_false c11
      clear c11
      have H' := Aside0.mk H
      clear H
      go_wp2
      (try simp only [← hl5_1, ← hl5_2])
      go_roundg k2
      case measure => have := HK1.out; have := HK2.out; omega
      case rel => exact ⟨(x5_2), (wrap64 (x16_1 + 1)), zE, H', zO2 HK1 HK2, ⟨by (try simp only [hl5_1]); (try simp only [hl5_2]); (with_reducible repeat (first | apply Kd.R_alloc | apply Kd.R_drewN | apply Kd.R_drew)); exact HO_5.out⟩, ⟨zh HB.out⟩⟩
     rw [if_pos c11] at H
     have c11b0 := decide_eq_true c11
     clear c11
     by_cases c12 : 0 ≤ x21_2
     rotate_left
     ·rw [if_neg c12] at H
      cases H
     rw [if_pos c12] at H
     have c12b0 := decide_eq_true c12
     clear c12
     by_cases c13 : x21_2 < (l1.length : Int)
     rotate_left
     ·rw [if_neg c13] at H
      cases H
     rw [if_pos c13] at H
     have c13b0 := decide_eq_true c13
     clear c13
     replace H := Option.bind_eq_some_iff.mp H
     obtain ⟨t137, A140, H⟩ := H
     have A14 := Aside0.mk A140
     clear A140
     by_cases c15 : 0 ≤ x16_1
     rotate_left
     ·rw [if_neg c15] at H
      cases H
     rw [if_pos c15] at H
     have c15b0 := decide_eq_true c15
     clear c15
     by_cases c16 : x16_1 < (x5_2.length : Int)
     rotate_left
     ·rw [if_neg c16] at H
      cases H
     rw [if_pos c16] at H
     have c16b0 := decide_eq_true c16
     clear c16
     obtain ⟨bq17, hbq17⟩ : ∃ b_ : Bool, b_ = (rdOf false x5_2 x16_1) := ⟨_, rfl⟩
     rw [← hbq17] at H
     have Nbq17 := Aside0.mk hbq17
     clear hbq17
     by_cases c18 : bq17 = true
     ·subst c18
      rw [if_pos rfl] at H
      obtain ⟨y139, hy139⟩ : ∃ y_ : List Bool, y_ = (x5_2.set (x16_1 : Int).toNat true) := ⟨_, rfl⟩
      rw [← hy139] at H
      have Ny139 := Aside0.mk hy139
      clear hy139
      have H' := Aside0.mk H
      clear H
      obtain ⟨⟨ad136, A136_0, c136_0, e136, hx136_0, hl136_0, hi136_0⟩, p136, q136⟩ := zW (at_L1 HR1.out x21_2)
      cases e136
      replace hx136_0 := zx HB.out hx136_0
      have HR136_0 := Aside0.mk hi136_0
      have HC136_0 := Aside0.mk hl136_0
      clear hi136_0 hl136_0
      go_wp2_with (first | ((with_reducible refine gate_callee (f := 84) rfl ?_); refine zl 26 Tryz.func84 #[.slice A136_0 (rd_L1 l1 x21_2).length c136_0] ?_; (with_reducible refine (spec_voBits.calls k2 _ _ (rd_L1 l1 x21_2) t137 _ ?side1 ?side2 A14.out).mono ?_); (case side1 => exact zQ (Kd.C_below HR136_0.out HB.out)); (case side2 => exact HC136_0.out); rintro e w' ⟨rfl, ⟨nd, rfl⟩⟩; refine ⟨_, rfl, ?_⟩; (try (rw [drewN_self wr]; generalize hq_ : World.drewN wr _ = wr; have n0_ : Aside0 (Kd.R Kd.bool 4 wr w.heap.size (fun _ => True) (.slice Ao9 x5_2.length co9) x5_2) := ⟨by rw [← hq_]; exact (zr HO_5.out)⟩; have n1_ : Aside0 (Below w.heap.size w wr) := ⟨by rw [← hq_]; exact (zh HB.out)⟩; clear HO_5 HB hq_; have HO_5 := n0_; have HB := n1_; clear n0_ n1_)); have p138 : 0 ≤ (x16_1 : Int) := zk; have q138 : x16_1 < (x5_2.length : Int) := zk; obtain ⟨ad138, e138, hx138_0⟩ := Kd.at_bool (Kd.R_reads' HO_5.out).2.2 x16_1 p138 q138; (try rw [← Nbq17.out] at hx138_0); cases e138; replace p138 := eq_true p138; replace q138 := eq_true q138; have p19 : 0 ≤ (x16_1 : Int) := zk; have q19 : (x16_1 : Int) < ((x5_2.length : Int) : Int) := zk; obtain ⟨go19, co19, eo19, gb19, gl19, cl19, HG19⟩ := Kd.R_form HO_5.out (by omega); (first | cases eo19 | (injection eo19 with ea_ en_ ec_; (first | subst ea_ | (injection ea_ with ea_; subst ea_)); subst ec_; clear en_)); have GB19 := Aside0.mk gb19; have GG19 := Aside0.mk HG19; clear gb19 gl19 HG19; (first | simp only [add_plain] at hx138_0 | skip); obtain ⟨hx19_0, hf19_0⟩ := Kd.R_celln false HO_5.out (x16_1 : Int) p19 q19; replace p19 := eq_true p19; replace q19 := eq_true q19; obtain ⟨hy20_, hz20_⟩ := Kd.R_celln false HO_5.out (x16_1 : Int) (zk) (zk); have HP20 := Kd.R_putg HO_5.out (x16_1 : Int) true) | ((with_reducible refine gate_store (t := 4) (p := 40) rfl ?_); refine store_event (t := 4) (p := 40) (v := ?vo_w21) (w1 := (wr.setCell ⟨go19, (x16_1 : Int).toNat, none⟩ (.bool true))) ?hg ?ho ?hn ?hr ?_; (case ho => rfl); (case hg => rfl); (case hn => rfl); (case hr => first | (go_simp; done) | (go_simp; rfl)); intro w21 hw; have hg : wr.grownBy w21 (some go19) := (by rw [hw]; exact HP20.2); have hp_ : Kd.R Kd.bool 4 w21 w.heap.size (fun _ => True) (.slice (some ⟨go19, 0, none⟩) x5_2.length co9) y139 := (by rw [hw, Ny139.out]; exact HP20.1); clear HP20; replace HO_5 := Aside0.mk (hp_); replace HB := Aside0.mk ((by rw [hw]; exact below_set (HB.out) GB19.out : Below w.heap.size w w21)); clear hg hw hp_))
      (try simp only [← hl5_2])
      go_roundg k2
      case measure => have := HK1.out; have := HK2.out; omega
      case rel => exact ⟨(y139), (wrap64 (x21_2 + 1)), zE, H', zO2 HK1 HK2, ⟨by (try simp only [hl5_1]); (try simp only [hl5_2]); (with_reducible repeat (first | apply Kd.R_alloc | apply Kd.R_drewN | apply Kd.R_drew)); exact HO_5.out⟩, ⟨zh HB.out⟩⟩
     replace c18 := Bool.eq_false_iff.mpr c18
     subst c18
     rw [if_neg zF] at H
     obtain ⟨y140, hy140⟩ : ∃ y_ : List Bool, y_ = (x5_2.set (x16_1 : Int).toNat ((Go.bits .and .i64 x16_1 t137) == t137)) := ⟨_, rfl⟩
     rw [← hy140] at H
     have Ny140 := Aside0.mk hy140
     clear hy140
     have H' := Aside0.mk H
     clear H
     obtain ⟨⟨ad136, A136_0, c136_0, e136, hx136_0, hl136_0, hi136_0⟩, p136, q136⟩ := zW (at_L1 HR1.out x21_2)
     cases e136
     replace hx136_0 := zx HB.out hx136_0
     have HR136_0 := Aside0.mk hi136_0
     have HC136_0 := Aside0.mk hl136_0
     clear hi136_0 hl136_0
     go_wp2_with (first | ((with_reducible refine gate_callee (f := 84) rfl ?_); refine zl 26 Tryz.func84 #[.slice A136_0 (rd_L1 l1 x21_2).length c136_0] ?_; (with_reducible refine (spec_voBits.calls k2 _ _ (rd_L1 l1 x21_2) t137 _ ?side1 ?side2 A14.out).mono ?_); (case side1 => exact zQ (Kd.C_below HR136_0.out HB.out)); (case side2 => exact HC136_0.out); rintro e w' ⟨rfl, ⟨nd, rfl⟩⟩; refine ⟨_, rfl, ?_⟩; (try (rw [drewN_self wr]; generalize hq_ : World.drewN wr _ = wr; have n0_ : Aside0 (Kd.R Kd.bool 4 wr w.heap.size (fun _ => True) (.slice Ao9 x5_2.length co9) x5_2) := ⟨by rw [← hq_]; exact (zr HO_5.out)⟩; have n1_ : Aside0 (Below w.heap.size w wr) := ⟨by rw [← hq_]; exact (zh HB.out)⟩; clear HO_5 HB hq_; have HO_5 := n0_; have HB := n1_; clear n0_ n1_)); have p138 : 0 ≤ (x16_1 : Int) := zk; have q138 : x16_1 < (x5_2.length : Int) := zk; obtain ⟨ad138, e138, hx138_0⟩ := Kd.at_bool (Kd.R_reads' HO_5.out).2.2 x16_1 p138 q138; (try rw [← Nbq17.out] at hx138_0); cases e138; replace p138 := eq_true p138; replace q138 := eq_true q138; have p22 : 0 ≤ (x16_1 : Int) := zk; have q22 : (x16_1 : Int) < ((x5_2.length : Int) : Int) := zk; obtain ⟨go22, co22, eo22, gb22, gl22, cl22, HG22⟩ := Kd.R_form HO_5.out (by omega); (first | cases eo22 | (injection eo22 with ea_ en_ ec_; (first | subst ea_ | (injection ea_ with ea_; subst ea_)); subst ec_; clear en_)); have GB22 := Aside0.mk gb22; have GG22 := Aside0.mk HG22; clear gb22 gl22 HG22; (first | simp only [add_plain] at hx138_0 | skip); obtain ⟨hx22_0, hf22_0⟩ := Kd.R_celln false HO_5.out (x16_1 : Int) p22 q22; replace p22 := eq_true p22; replace q22 := eq_true q22; obtain ⟨hy23_, hz23_⟩ := Kd.R_celln false HO_5.out (x16_1 : Int) (zk) (zk); have HP23 := Kd.R_putg HO_5.out (x16_1 : Int) ((Go.bits .and .i64 x16_1 t137) == t137)) | ((with_reducible refine gate_store (t := 4) (p := 40) rfl ?_); refine store_event (t := 4) (p := 40) (v := ?vo_w24) (w1 := (wr.setCell ⟨go22, (x16_1 : Int).toNat, none⟩ (.bool ((Go.bits .and .i64 x16_1 t137) == t137)))) ?hg ?ho ?hn ?hr ?_; (case ho => rfl); (case hg => rfl); (case hn => rfl); (case hr => first | (go_simp; done) | (go_simp; rfl)); intro w24 hw; have hg : wr.grownBy w24 (some go22) := (by rw [hw]; exact HP23.2); have hp_ : Kd.R Kd.bool 4 w24 w.heap.size (fun _ => True) (.slice (some ⟨go22, 0, none⟩) x5_2.length co9) y140 := (by rw [hw, Ny140.out]; exact HP23.1); clear HP23; replace HO_5 := Aside0.mk (hp_); replace HB := Aside0.mk ((by rw [hw]; exact below_set (HB.out) GB22.out : Below w.heap.size w w24)); clear hg hw hp_))
     (try simp only [← hl5_2])
     go_roundg k2
     case measure => have := HK1.out; have := HK2.out; omega
     case rel => exact ⟨(y140), (wrap64 (x21_2 + 1)), zE, H', zO2 HK1 HK2, ⟨by (try simp only [hl5_1]); (try simp only [hl5_2]); (with_reducible repeat (first | apply Kd.R_alloc | apply Kd.R_drewN | apply Kd.R_drew)); exact HO_5.out⟩, ⟨zh HB.out⟩⟩
def spec_gmAll.f (k : Nat) (a0_0 : Int) (l0_1 : List (List Int)) : Option (List Bool) := (spec_gmWins.f k a0_0 l0_1).bind fun t142 => (some t142)
set_option maxHeartbeats 8000000 in
set_option maxRecDepth 100000 in
theorem spec_gmAll.calls (k : Nat) (a0_0 : Int) (A0_1 : Option Addr) (c0_1 : Nat) (l0_1 : List (List Int)) (r : List Bool) (w : World) (hr0_1 : Kd.C (Kd.slice 3 (Kd.int .i64)) w A0_1 l0_1.length l0_1) (hc0_1 : l0_1.length ≤ c0_1) (h : spec_gmAll.f k a0_0 l0_1 = some r) :
  Calls Tryz.prog 53 #[.agg #[.int .i64 a0_0, .slice A0_1 l0_1.length c0_1]] w fun e w' => ∃ v0_ : Value, e = .returned (v0_) ∧ Kd.R Kd.bool 4 w' w.heap.size (fun _ => True) v0_ r ∧ Below w.heap.size w w' := by
 have hu28 := Tryz.underlying28
 have HR0_1 := Aside0.mk hr0_1
 have HC0_1 := Aside0.mk hc0_1
 clear hr0_1 hc0_1
 have HB := Aside0.mk (Below.refl w.heap.size w)
 have H : ((spec_gmWins.f k a0_0 l0_1).bind fun t142 => (some t142)) = some r := h
 clear h
 replace H := Option.bind_eq_some_iff.mp H
 obtain ⟨t142, A20, H⟩ := H
 have A2 := Aside0.mk A20
 clear A20
 obtain rfl := Option.some.inj H
 go_enter Tryz.func53, Tryz.ntmps53
 go_wp2_with (first | ((with_reducible refine gate_dst (N := 1) rfl ?_); refine zq 1 #[.int .i64 a0_0, .slice A0_1 l0_1.length c0_1] 28 ?_; intro gb141 hg w3 hbox hb; have GW141 := zG hg HB; replace HB := zH hb HB; have BK141 := Aside0.mk hbox; have GE141 := GW141; clear hb hbox hg; obtain ⟨hcz4_0, hcz4_1, hfz4_0, hfz4_1⟩ := zC2 BK141) | ((with_reducible refine gate_callee (f := 87) rfl ?_); refine zl 7 Tryz.func87 #[.int .i64 a0_0, .slice A0_1 l0_1.length c0_1] ?_; (with_reducible refine (spec_gmWins.calls k a0_0 _ _ l0_1 t142 _ ?side1 ?side2 A2.out).mono ?_); (case side1 => exact zQ (Kd.C_below HR0_1.out HB.out)); (case side2 => exact HC0_1.out); rintro e w5 ⟨v143, rfl, ho0, hb⟩; refine ⟨_, rfl, ?_⟩; have HO144 := Aside0.mk (Kd.R_lower ho0 (below_size (zh HB.out))); replace BK141 := zK BK141 hb; replace HB := zH hb HB; clear hb; (try clear ho0)))
 go_ret
 exact ⟨_, by first | rfl | (simp [*, errW_none, errW_some] <;> rfl), by (with_reducible repeat (first | apply Kd.R_alloc | apply Kd.R_drewN | apply Kd.R_drew)); exact HO144.out, zh HB.out⟩
def spec_deWorth.l0 : Nat → List Bool → Int → Int → Int → Int → Option (Bool)
 | 0, _, _, _, _, _ => none
 | k + 1, x0, x1, x2, x9, x10 => if x10 < x9 then (if 0 ≤ x1 then (if (Int.tmod (shr .i64 x10 x1) 2) = 0 then (if 0 ≤ x2 then (if (Int.tmod (shr .i64 x10 x2) 2) = 0 then (if 0 ≤ (wrap64 (x10 + (shl .i64 1 x2))) then (if (wrap64 (x10 + (shl .i64 1 x2))) < (x0.length : Int) then (if rdOf false x0 (wrap64 (x10 + (shl .i64 1 x2))) = true then (if 0 ≤ (wrap64 (x10 + (shl .i64 1 x1))) then (if (wrap64 (x10 + (shl .i64 1 x1))) < (x0.length : Int) then (if (rdOf false x0 (wrap64 (x10 + (shl .i64 1 x1))) = true) then (spec_deWorth.l0 k x0 x1 x2 x9 (wrap64 (x10 + 1))) else (some false)) else (none)) else (none)) else (spec_deWorth.l0 k x0 x1 x2 x9 (wrap64 (x10 + 1)))) else (none)) else (none)) else (spec_deWorth.l0 k x0 x1 x2 x9 (wrap64 (x10 + 1)))) else (none)) else (spec_deWorth.l0 k x0 x1 x2 x9 (wrap64 (x10 + 1)))) else (none)) else (some true)
def spec_deWorth.f (k : Nat) (l0 : List Bool) (a1 : Int) (a2 : Int) : Option (Bool) := spec_deWorth.l0 k l0 a1 a2 (l0.length : Int) 0
set_option maxHeartbeats 8000000 in
set_option maxRecDepth 100000 in
theorem spec_deWorth.calls (k : Nat) (A0 : Option Addr) (c0 : Nat) (l0 : List Bool) (a1 : Int) (a2 : Int) (r : Bool) (w : World) (hr0 : Kd.C Kd.bool w A0 l0.length l0) (hc0 : l0.length ≤ c0) (h : spec_deWorth.f k l0 a1 a2 = some r) :
  Calls Tryz.prog 135 #[.slice A0 l0.length c0, .int .i64 a1, .int .i64 a2] w fun e w' => e = .returned (.bool r) ∧ Drawn0 w w' := by
 have HR0 := Aside0.mk hr0
 have HC0 := Aside0.mk hc0
 clear hr0 hc0
 have H : (spec_deWorth.l0 k l0 a1 a2 (l0.length : Int) 0) = some r := h
 clear h
 have H' := Aside0.mk H
 clear H
 go_enter Tryz.func135, Tryz.ntmps135
 go_wp2
 go_loopg [10] k (fun kq v10 w' => ∃ (x10_1 : Int), v10 = .int .i64 x10_1 ∧ Aside0 (spec_deWorth.l0 kq l0 a1 a2 (l0.length : Int) x10_1 = some r) ∧ Aside0 (kq ≤ k) ∧ Drawn0 w w')
 case atStart => exact ⟨(0), zE, H', ⟨Nat.le_refl _⟩, zD⟩
 case round =>
  clear H'
  try clear c1
  try clear p2
  obtain ⟨x10_1, rfl, HA, HK1, ⟨m1, rfl⟩⟩ := hrel
  cases gk with
  | zero => exact absurd HA.out (by simp [spec_deWorth.l0])
  | succ k1 =>
   have H := HA.out
   clear HA
   simp only [spec_deWorth.l0] at H
   by_cases c4 : x10_1 < (l0.length : Int)
   rotate_left
   ·rw [if_neg c4] at H
    have c4b0 := decide_eq_false c4
    clear c4
    obtain rfl := Option.some.inj H
    go_wp2
    go_ret
    exact za1
   rw [if_pos c4] at H
   have c4b0 := decide_eq_true c4
   clear c4
   by_cases c5 : 0 ≤ a1
   rotate_left
   ·rw [if_neg c5] at H
    cases H
   rw [if_pos c5] at H
   have c5b0 := eq_true c5
   have c5b1 := decide_eq_true c5
   clear c5
   obtain ⟨ji6, hji6⟩ : ∃ j_ : Int, (shr .i64 x10_1 a1) = j_ := ⟨_, rfl⟩
   rw [hji6] at H
   obtain ⟨hji6_, hji6z⟩ := zI hji6
   by_cases c7 : (Int.tmod (ji6) 2) = 0
   rotate_left
   ·rw [if_neg c7] at H
    have c7b0 := beq_eq_false_iff_ne.mpr c7
    have c7b1 := bne_iff_ne.mpr c7
    have H' := Aside0.mk H
    clear H
    go_wp2
    go_roundg k1
    case measure => have := HK1.out; omega
    case rel => exact ⟨(wrap64 (x10_1 + 1)), zE, H', zO HK1, zD⟩
   rw [if_pos c7] at H
   have c7b0 := beq_iff_eq.mpr c7
   have c7b1 := bne_eq_false_iff_eq.mpr c7
   clear c7
   by_cases c8 : 0 ≤ a2
   rotate_left
   ·rw [if_neg c8] at H
    cases H
   rw [if_pos c8] at H
   have c8b0 := eq_true c8
   have c8b1 := decide_eq_true c8
   clear c8
   obtain ⟨ji9, hji9⟩ : ∃ j_ : Int, (shr .i64 x10_1 a2) = j_ := ⟨_, rfl⟩
   rw [hji9] at H
   obtain ⟨hji9_, hji9z⟩ := zI hji9
   by_cases c10 : (Int.tmod (ji9) 2) = 0
   rotate_left
   ·rw [if_neg c10] at H
    have c10b0 := beq_eq_false_iff_ne.mpr c10
    have c10b1 := bne_iff_ne.mpr c10
    have H' := Aside0.mk H
    clear H
    go_wp2
    go_roundg k1
    case measure => have := HK1.out; omega
    case rel => exact ⟨(wrap64 (x10_1 + 1)), zE, H', zO HK1, zD⟩
   rw [if_pos c10] at H
   have c10b0 := beq_iff_eq.mpr c10
   have c10b1 := bne_eq_false_iff_eq.mpr c10
   clear c10
   have c11b0 := eq_true (zk : 0 ≤ a2)
   obtain ⟨ji12, hji12⟩ : ∃ j_ : Int, (shl .i64 1 a2) = j_ := ⟨_, rfl⟩
   rw [hji12] at H
   obtain ⟨hji12_, hji12z, hji12u, hji12v, hji12y, hji12x⟩ := zJ1 hji12
   obtain ⟨ji13, hji13⟩ : ∃ j_ : Int, (wrap64 (x10_1 + (ji12))) = j_ := ⟨_, rfl⟩
   rw [hji13] at H
   have hji13w := (i64_w _).trans hji13
   by_cases c14 : 0 ≤ (ji13)
   rotate_left
   ·rw [if_neg c14] at H
    cases H
   rw [if_pos c14] at H
   have c14b0 := decide_eq_true c14
   clear c14
   by_cases c15 : (ji13) < (l0.length : Int)
   rotate_left
   ·rw [if_neg c15] at H
    cases H
   rw [if_pos c15] at H
   have c15b0 := decide_eq_true c15
   clear c15
   obtain ⟨bq16, hbq16⟩ : ∃ b_ : Bool, b_ = (rdOf false l0 (ji13)) := ⟨_, rfl⟩
   rw [← hbq16] at H
   have Nbq16 := Aside0.mk hbq16
   clear hbq16
   by_cases c17 : bq16 = true
   rotate_left
   ·replace c17 := Bool.eq_false_iff.mpr c17
    subst c17
    rw [if_neg zF] at H
    have H' := Aside0.mk H
    clear H
    obtain ⟨⟨ad152, e152, hx152_0⟩, p152, q152⟩ := zW (Kd.at_bool HR0.out (ji13))
    (try rw [← Nbq16.out] at hx152_0)
    cases e152
    go_wp2
    go_roundg k1
    case measure => have := HK1.out; omega
    case rel => exact ⟨(wrap64 (x10_1 + 1)), zE, H', zO HK1, zD⟩
   subst c17
   rw [if_pos rfl] at H
   have c18b0 := eq_true (zk : 0 ≤ a1)
   obtain ⟨ji19, hji19⟩ : ∃ j_ : Int, (shl .i64 1 a1) = j_ := ⟨_, rfl⟩
   rw [hji19] at H
   obtain ⟨hji19_, hji19z, hji19u, hji19v, hji19y, hji19x⟩ := zJ1 hji19
   obtain ⟨ji20, hji20⟩ : ∃ j_ : Int, (wrap64 (x10_1 + (ji19))) = j_ := ⟨_, rfl⟩
   rw [hji20] at H
   have hji20w := (i64_w _).trans hji20
   by_cases c21 : 0 ≤ (ji20)
   rotate_left
   ·rw [if_neg c21] at H
    cases H
   rw [if_pos c21] at H
   have c21b0 := decide_eq_true c21
   clear c21
   by_cases c22 : (ji20) < (l0.length : Int)
   rotate_left
   ·rw [if_neg c22] at H
    cases H
   rw [if_pos c22] at H
   have c22b0 := decide_eq_true c22
   clear c22
   obtain ⟨bq23, hbq23⟩ : ∃ b_ : Bool, b_ = (rdOf false l0 (ji20)) := ⟨_, rfl⟩
   rw [← hbq23] at H
   have Nbq23 := Aside0.mk hbq23
   clear hbq23
   by_cases c24 : (bq23 = true)
   rotate_left
   ·replace c24 := Bool.eq_false_iff.mpr c24
    subst c24
    rw [if_neg zF] at H
    obtain rfl := Option.some.inj H
    obtain ⟨⟨ad152, e152, hx152_0⟩, p152, q152⟩ := zW (Kd.at_bool HR0.out (ji13))
    (try rw [← Nbq16.out] at hx152_0)
    (try rw [← Nbq23.out] at hx152_0)
    cases e152
    obtain ⟨⟨ad153, e153, hx153_0⟩, p153, q153⟩ := zW (Kd.at_bool HR0.out (ji20))
    (try rw [← Nbq16.out] at hx153_0)
    (try rw [← Nbq23.out] at hx153_0)
    obtain rfl : ad152 = ad153 := (by injection e153)
    go_wp2
    go_ret
    exact ⟨by first | rfl | (simp; done) | (simp only [← hji6, ← hji9, ← hji12, ← hji13, ← hji19, ← hji20] <;> (first | rfl | simp)) | (simp [*]; done), by repeat (first | exact Drawn0.refl _ | apply Drawn0.step)⟩
   subst c24
   rw [if_pos rfl] at H
   have H' := Aside0.mk H
   clear H
   obtain ⟨⟨ad152, e152, hx152_0⟩, p152, q152⟩ := zW (Kd.at_bool HR0.out (ji13))
   (try rw [← Nbq16.out] at hx152_0)
   (try rw [← Nbq23.out] at hx152_0)
   cases e152
   obtain ⟨⟨ad153, e153, hx153_0⟩, p153, q153⟩ := zW (Kd.at_bool HR0.out (ji20))
   (try rw [← Nbq16.out] at hx153_0)
   (try rw [← Nbq23.out] at hx153_0)
   obtain rfl : ad152 = ad153 := (by injection e153)
   go_wp2
   go_roundg k1
   case measure => have := HK1.out; omega
   case rel => exact ⟨(wrap64 (x10_1 + 1)), zE, H', zO HK1, zD⟩
def spec_deUnlike.f (k : Nat) (l0 : List Bool) (a1 : Int) (a2 : Int) : Option (Bool) := (spec_deWorth.f k l0 a1 a2).bind fun t154 => (if t154 = true then (some false) else ((spec_deWorth.f k l0 a2 a1).bind fun t155 => (some (!t155))))
set_option maxHeartbeats 8000000 in
set_option maxRecDepth 100000 in
theorem spec_deUnlike.calls (k : Nat) (A0 : Option Addr) (c0 : Nat) (l0 : List Bool) (a1 : Int) (a2 : Int) (r : Bool) (w : World) (hr0 : Kd.C Kd.bool w A0 l0.length l0) (hc0 : l0.length ≤ c0) (h : spec_deUnlike.f k l0 a1 a2 = some r) :
  Calls Tryz.prog 105 #[.slice A0 l0.length c0, .int .i64 a1, .int .i64 a2] w fun e w' => e = .returned (.bool r) ∧ Drawn0 w w' := by
 have HR0 := Aside0.mk hr0
 have HC0 := Aside0.mk hc0
 clear hr0 hc0
 have H : ((spec_deWorth.f k l0 a1 a2).bind fun t154 => (if t154 = true then (some false) else ((spec_deWorth.f k l0 a2 a1).bind fun t155 => (some (!t155))))) = some r := h
 clear h
 replace H := Option.bind_eq_some_iff.mp H
 obtain ⟨t154, A40, H⟩ := H
 have A4 := Aside0.mk A40
 clear A40
 by_cases c5 : t154 = true
 ·subst c5
  rw [if_pos rfl] at H
  obtain rfl := Option.some.inj H
  go_enter Tryz.func105, Tryz.ntmps105
  go_wp2_with (first | ((with_reducible refine gate_callee (f := 135) rfl ?_); refine zl 10 Tryz.func135 #[.slice A0 l0.length c0, .int .i64 a1, .int .i64 a2] ?_; (with_reducible refine (spec_deWorth.calls k _ _ l0 a1 a2 true _ ?side1 ?side2 A4.out).mono ?_); (case side1 => exact zQ HR0.out); (case side2 => exact HC0.out); rintro e w' ⟨rfl, ⟨nd, rfl⟩⟩; refine ⟨_, rfl, ?_⟩))
  go_ret
  exact za1
 replace c5 := Bool.eq_false_iff.mpr c5
 subst c5
 rw [if_neg zF] at H
 replace H := Option.bind_eq_some_iff.mp H
 obtain ⟨t155, A60, H⟩ := H
 have A6 := Aside0.mk A60
 clear A60
 obtain rfl := Option.some.inj H
 go_enter Tryz.func105, Tryz.ntmps105
 go_wp2_with (first | ((with_reducible refine gate_callee (f := 135) rfl ?_); refine zl 10 Tryz.func135 #[.slice A0 l0.length c0, .int .i64 a1, .int .i64 a2] ?_; (with_reducible refine (spec_deWorth.calls k _ _ l0 a1 a2 false _ ?side1 ?side2 A4.out).mono ?_); (case side1 => exact zQ HR0.out); (case side2 => exact HC0.out); rintro e w' ⟨rfl, ⟨nd, rfl⟩⟩; refine ⟨_, rfl, ?_⟩) | (go_at_call 135; (with_reducible refine (spec_deWorth.calls k _ _ l0 a2 a1 t155 _ ?side1 ?side2 A6.out).mono ?_); (case side1 => exact zQ HR0.out); (case side2 => exact HC0.out); rintro e w' ⟨rfl, ⟨nd, rfl⟩⟩))
 go_ret
 exact za1
mutual
def spec_deComplete.l0 : Nat → List Bool → Int → Int → Option (Bool)
 | 0, _, _, _ => none
 | k + 1, x0, x1, x5 => if x5 < x1 then (spec_deComplete.l1 k x0 x1 x5 0) else (some true)
def spec_deComplete.l1 : Nat → List Bool → Int → Int → Int → Option (Bool)
 | 0, _, _, _, _ => none
 | k + 1, x0, x1, x5, x6 => if x6 < x5 then ((spec_deUnlike.f k x0 x5 x6).bind fun t156 => (if t156 = true then (some false) else (spec_deComplete.l1 k x0 x1 x5 (wrap64 (x6 + 1))))) else (spec_deComplete.l0 k x0 x1 (wrap64 (x5 + 1)))
end
def spec_deComplete.f (k : Nat) (l0 : List Bool) (a1 : Int) : Option (Bool) := spec_deComplete.l0 k l0 a1 0
set_option maxHeartbeats 8000000 in
set_option maxRecDepth 100000 in
theorem spec_deComplete.calls (k : Nat) (A0 : Option Addr) (c0 : Nat) (l0 : List Bool) (a1 : Int) (r : Bool) (w : World) (hr0 : Kd.C Kd.bool w A0 l0.length l0) (hc0 : l0.length ≤ c0) (h : spec_deComplete.f k l0 a1 = some r) :
  Calls Tryz.prog 62 #[.slice A0 l0.length c0, .int .i64 a1] w fun e w' => e = .returned (.bool r) ∧ Drawn0 w w' := by
 have HR0 := Aside0.mk hr0
 have HC0 := Aside0.mk hc0
 clear hr0 hc0
 have H : (spec_deComplete.l0 k l0 a1 0) = some r := h
 clear h
 have H' := Aside0.mk H
 clear H
 go_enter Tryz.func62, Tryz.ntmps62
 go_wp2
 go_loopg [5] k (fun kq v5 w' => ∃ (x5_1 : Int), v5 = .int .i64 x5_1 ∧ Aside0 (spec_deComplete.l0 kq l0 a1 x5_1 = some r) ∧ Aside0 (kq ≤ k) ∧ Drawn0 w w')
 case atStart => exact ⟨(0), zE, H', ⟨Nat.le_refl _⟩, zD⟩
 case round =>
  clear H'
  try clear p2
  obtain ⟨x5_1, rfl, HA, HK1, ⟨m1, rfl⟩⟩ := hrel
  cases gk with
  | zero => exact absurd HA.out (by simp [spec_deComplete.l0])
  | succ k1 =>
   have H := HA.out
   clear HA
   simp only [spec_deComplete.l0] at H
   by_cases c3 : x5_1 < a1
   rotate_left
   ·rw [if_neg c3] at H
    have c3b0 := decide_eq_false c3
    clear c3
    obtain rfl := Option.some.inj H
    go_wp2
    go_ret
    exact za1
   rw [if_pos c3] at H
   have c3b0 := decide_eq_true c3
   clear c3
   have H' := Aside0.mk H
   clear H
   go_wp2
   go_loopg [6] k1 (fun kq v6 w' => ∃ (x6_2 : Int), v6 = .int .i64 x6_2 ∧ Aside0 (spec_deComplete.l1 kq l0 a1 x5_1 x6_2 = some r) ∧ Aside0 (kq ≤ k1) ∧ Drawn0 w w')
   case atStart => exact ⟨(0), zE, H', ⟨Nat.le_refl _⟩, zD⟩
   case round =>
    clear H'
    try clear p2
    try clear c3
    try clear c3b0
    try clear p2
    obtain ⟨x6_2, rfl, HA, HK2, ⟨m2, rfl⟩⟩ := hrel
    cases gk with
    | zero => exact absurd HA.out (by simp [spec_deComplete.l1])
    | succ k2 =>
     have H := HA.out
     clear HA
     simp only [spec_deComplete.l1] at H
     by_cases c4 : x6_2 < x5_1
     rotate_left
     ·rw [if_neg c4] at H
      have c4b0 := decide_eq_false c4
      clear c4
      have H' := Aside0.mk H
      clear H
      go_wp2
      go_roundg k2
      case measure => have := HK1.out; have := HK2.out; omega
      case rel => exact ⟨(wrap64 (x5_1 + 1)), zE, H', zO2 HK1 HK2, zD⟩
     rw [if_pos c4] at H
     have c4b0 := decide_eq_true c4
     clear c4
     replace H := Option.bind_eq_some_iff.mp H
     obtain ⟨t156, A50, H⟩ := H
     have A5 := Aside0.mk A50
     clear A50
     by_cases c6 : t156 = true
     ·subst c6
      rw [if_pos rfl] at H
      obtain rfl := Option.some.inj H
      go_wp2_with (first | ((with_reducible refine gate_callee (f := 105) rfl ?_); refine zl 20 Tryz.func105 #[.slice A0 l0.length c0, .int .i64 x5_1, .int .i64 x6_2] ?_; (with_reducible refine (spec_deUnlike.calls k2 _ _ l0 x5_1 x6_2 true _ ?side1 ?side2 A5.out).mono ?_); (case side1 => exact zQ HR0.out); (case side2 => exact HC0.out); rintro e w' ⟨rfl, ⟨nd, rfl⟩⟩; refine ⟨_, rfl, ?_⟩))
      go_ret
      exact za1
     replace c6 := Bool.eq_false_iff.mpr c6
     subst c6
     rw [if_neg zF] at H
     have H' := Aside0.mk H
     clear H
     go_wp2_with (first | ((with_reducible refine gate_callee (f := 105) rfl ?_); refine zl 20 Tryz.func105 #[.slice A0 l0.length c0, .int .i64 x5_1, .int .i64 x6_2] ?_; (with_reducible refine (spec_deUnlike.calls k2 _ _ l0 x5_1 x6_2 false _ ?side1 ?side2 A5.out).mono ?_); (case side1 => exact zQ HR0.out); (case side2 => exact HC0.out); rintro e w' ⟨rfl, ⟨nd, rfl⟩⟩; refine ⟨_, rfl, ?_⟩))
     go_roundg k2
     case measure => have := HK1.out; have := HK2.out; omega
     case rel => exact ⟨(wrap64 (x6_2 + 1)), zE, H', zO2 HK1 HK2, zD⟩
def spec_weSame.l0 : Nat → List Bool → List Bool → Int → Int → Option (Bool)
 | 0, _, _, _, _ => none
 | k + 1, x0, x1, x12, x13 => if x13 < x12 then (if 0 ≤ x13 then (if x13 < (x0.length : Int) then (if x13 < (x1.length : Int) then (if ((rdOf false x0 x13) != (rdOf false x1 x13)) = true then (some false) else (spec_weSame.l0 k x0 x1 x12 (wrap64 (x13 + 1)))) else (none)) else (none)) else (none)) else (some true)
def spec_weSame.f (k : Nat) (l0 : List Bool) (l1 : List Bool) : Option (Bool) := if (l0.length : Int) = (l1.length : Int) then (spec_weSame.l0 k l0 l1 (l0.length : Int) 0) else (some false)
set_option maxHeartbeats 8000000 in
set_option maxRecDepth 100000 in
theorem spec_weSame.calls (k : Nat) (A0 : Option Addr) (c0 : Nat) (l0 : List Bool) (A1 : Option Addr) (c1 : Nat) (l1 : List Bool) (r : Bool) (w : World) (hr0 : Kd.C Kd.bool w A0 l0.length l0) (hc0 : l0.length ≤ c0) (hr1 : Kd.C Kd.bool w A1 l1.length l1) (hc1 : l1.length ≤ c1) (h : spec_weSame.f k l0 l1 = some r) :
  Calls Tryz.prog 86 #[.slice A0 l0.length c0, .slice A1 l1.length c1] w fun e w' => e = .returned (.bool r) ∧ Drawn0 w w' := by
 have HR0 := Aside0.mk hr0
 have HC0 := Aside0.mk hc0
 clear hr0 hc0
 have HR1 := Aside0.mk hr1
 have HC1 := Aside0.mk hc1
 clear hr1 hc1
 have H : (if (l0.length : Int) = (l1.length : Int) then (spec_weSame.l0 k l0 l1 (l0.length : Int) 0) else (some false)) = some r := h
 clear h
 by_cases c3 : (l0.length : Int) = (l1.length : Int)
 rotate_left
 ·rw [if_neg c3] at H
  have c3b0 := beq_eq_false_iff_ne.mpr c3
  have c3b1 := bne_iff_ne.mpr c3
  have c3b2 : (l0.length == l1.length) = false := by first | simpa using c3 | (simp at c3 ⊢; omega)
  obtain rfl := Option.some.inj H
  go_enter Tryz.func86, Tryz.ntmps86
  go_wp2
  repeat (go_quiet (fail); try go_wp2)
  go_ret
  exact za1
 rw [if_pos c3] at H
 have c3b0 := beq_iff_eq.mpr c3
 have c3b1 := bne_eq_false_iff_eq.mpr c3
 have c3b2 : (l0.length == l1.length) = true := by first | simpa using c3 | (simp at c3 ⊢; omega)
 clear c3
 have H' := Aside0.mk H
 clear H
 go_enter Tryz.func86, Tryz.ntmps86
 go_wp2
 repeat (go_quiet (fail); try go_wp2)
 go_loopg [13] k (fun kq v13 w' => ∃ (x13_1 : Int), v13 = .int .i64 x13_1 ∧ Aside0 (spec_weSame.l0 kq l0 l1 (l0.length : Int) x13_1 = some r) ∧ Aside0 (kq ≤ k) ∧ Drawn0 w w')
 case atStart => exact ⟨(0), zE, H', ⟨Nat.le_refl _⟩, zD⟩
 case round =>
  clear H'
  try clear c1
  try clear p2
  try clear c3
  try clear c3b0
  try clear c3b1
  try clear c3b2
  obtain ⟨x13_1, rfl, HA, HK1, ⟨m1, rfl⟩⟩ := hrel
  cases gk with
  | zero => exact absurd HA.out (by simp [spec_weSame.l0])
  | succ k1 =>
   have H := HA.out
   clear HA
   simp only [spec_weSame.l0] at H
   by_cases c4 : x13_1 < (l0.length : Int)
   rotate_left
   ·rw [if_neg c4] at H
    have c4b0 := decide_eq_false c4
    clear c4
    obtain rfl := Option.some.inj H
    go_wp2
    repeat (go_quiet (fail); try go_wp2)
    go_ret
    exact za1
   rw [if_pos c4] at H
   have c4b0 := decide_eq_true c4
   clear c4
   by_cases c5 : 0 ≤ x13_1
   rotate_left
   ·rw [if_neg c5] at H
    cases H
   rw [if_pos c5] at H
   have c5b0 := decide_eq_true c5
   clear c5
   by_cases c6 : x13_1 < (l0.length : Int)
   rotate_left
   ·rw [if_neg c6] at H
    cases H
   rw [if_pos c6] at H
   have c6b0 := decide_eq_true c6
   clear c6
   by_cases c7 : x13_1 < (l1.length : Int)
   rotate_left
   ·rw [if_neg c7] at H
    cases H
   rw [if_pos c7] at H
   have c7b0 := decide_eq_true c7
   clear c7
   by_cases c8 : ((rdOf false l0 x13_1) != (rdOf false l1 x13_1)) = true
   ·rw [if_pos c8] at H
    have c8b0 : ((rdOf false l0 x13_1) != (rdOf false l1 x13_1)) = true := c8
    (try (have c8b1 : decide ((rdOf false l0 x13_1) = (rdOf false l1 x13_1)) = false := by simpa using c8))
    (try (have c8b2 : ((rdOf false l0 x13_1) == (rdOf false l1 x13_1)) = false := by simpa using c8))
    (try (have c8b3 : ¬ ((rdOf false l0 x13_1) = (rdOf false l1 x13_1)) := by simpa using c8))
    clear c8
    obtain rfl := Option.some.inj H
    obtain ⟨⟨ad187, e187, hx187_0⟩, p187, q187⟩ := zW (Kd.at_bool HR0.out x13_1)
    cases e187
    obtain ⟨⟨ad188, e188, hx188_0⟩, p188, q188⟩ := zW (Kd.at_bool HR1.out x13_1)
    cases e188
    go_wp2
    repeat (go_quiet (fail); try go_wp2)
    go_ret
    exact za1
   rw [if_neg c8] at H
   have c8b0 : ((rdOf false l0 x13_1) != (rdOf false l1 x13_1)) = false := by simpa using c8
   (try (have c8b1 : decide ((rdOf false l0 x13_1) = (rdOf false l1 x13_1)) = true := by simpa using c8))
   (try (have c8b2 : ((rdOf false l0 x13_1) == (rdOf false l1 x13_1)) = true := by simpa using c8))
   clear c8
   have H' := Aside0.mk H
   clear H
   obtain ⟨⟨ad187, e187, hx187_0⟩, p187, q187⟩ := zW (Kd.at_bool HR0.out x13_1)
   cases e187
   obtain ⟨⟨ad188, e188, hx188_0⟩, p188, q188⟩ := zW (Kd.at_bool HR1.out x13_1)
   cases e188
   go_wp2
   repeat (go_quiet (fail); try go_wp2)
   go_roundg k1
   case measure => have := HK1.out; omega
   case rel => exact ⟨(wrap64 (x13_1 + 1)), zE, H', zO HK1, zD⟩
def laws_toIntS.l0 : Nat → List Int → List Int → Int → Option (List Int)
 | 0, _, _, _ => none
 | k + 1, x0, x3, x4 => if x4 < (x0.length : Int) then (if 0 ≤ x4 then (if x4 < (x3.length : Int) then (laws_toIntS.l0 k x0 (x3.set (x4 : Int).toNat (rd x0 x4)) (wrap64 (x4 + 1))) else (none)) else (none)) else (some x3)
def laws_toIntS.f (k : Nat) (l0 : List Int) : Option (List Int) := if 0 ≤ (l0.length : Int) then (if ((l0.length : Int) : Int).toNat ≤ 35184372088832 then (laws_toIntS.l0 k l0 (List.replicate ((l0.length : Int) : Int).toNat 0) 0) else (none)) else (none)
set_option maxHeartbeats 8000000 in
set_option maxRecDepth 100000 in
theorem laws_toIntS.calls (k : Nat) (A0 : Option Addr) (c0 : Nat) (l0 : List Int) (r : List Int) (w : World) (hr0 : Kd.C (Kd.int .i64) w A0 l0.length l0) (hc0 : l0.length ≤ c0) (h : laws_toIntS.f k l0 = some r) :
  Calls Tryz.prog 54 #[.slice A0 l0.length c0] w fun e w' => ∃ v0_ : Value, e = .returned (v0_) ∧ Kd.R (Kd.int .i64) 3 w' w.heap.size (fun _ => True) v0_ r ∧ Below w.heap.size w w' := by
 have HR0 := Aside0.mk hr0
 have HC0 := Aside0.mk hc0
 clear hr0 hc0
 have HB := Aside0.mk (Below.refl w.heap.size w)
 have H : (if 0 ≤ (l0.length : Int) then (if ((l0.length : Int) : Int).toNat ≤ 35184372088832 then (laws_toIntS.l0 k l0 (List.replicate ((l0.length : Int) : Int).toNat 0) 0) else (none)) else (none)) = some r := h
 clear h
 by_cases c2 : 0 ≤ (l0.length : Int)
 rotate_left
 ·rw [if_neg c2] at H
  cases H
 rw [if_pos c2] at H
 have c2b0 := eq_true c2
 have c2b1 := decide_eq_true c2
 clear c2
 by_cases c3 : ((l0.length : Int) : Int).toNat ≤ 35184372088832
 rotate_left
 ·rw [if_neg c3] at H
  cases H
 rw [if_pos c3] at H
 have c3b0 := eq_true c3
 have c3b1 := decide_eq_true c3
 clear c3
 obtain ⟨y220, hy220⟩ : ∃ y_ : List Int, y_ = (List.replicate ((l0.length : Int) : Int).toNat 0) := ⟨_, rfl⟩
 rw [← hy220] at H
 have Ny220 := Aside0.mk hy220
 clear hy220
 have H' := Aside0.mk H
 clear H
 go_enter Tryz.func54, Tryz.ntmps54
 go_wp2_with (first | ((with_reducible refine gate_dst (N := 7) rfl ?_); refine Kd.R_make (Kd.int .i64) _ 3 rfl (N := 7) rfl 65 _ _ rfl (l0.length : Int) rfl rfl Tryz.underlying65 (.int .i64 0) 8 info3 rfl (by decide) (by omega) 0 (ok := fun _ => True) (okp := fun _ => True) rfl (fun _ hk => hk) trivial (zk) (Nat.le_trans (Nat.mul_le_mul_right _ (zk : (l0.length : Int).toNat ≤ 35184372088832)) (by omega)) (Below.refl _ _) (Nat.le_refl _) ?_; intro v221 w4 ho5 hb hg_ hnew_; clear hg_ hnew_; (first | rw [← Ny220.out] at ho5 | (simp only [Int.reduceToNat] at ho5; rw [← Ny220.out] at ho5)); have HO222 := Aside0.mk (Kd.R_lower ho5 (below_size (zh HB.out))); replace HB := zH hb HB; clear hb ho5))
 go_loopg [4] k (fun kq v4 w' => ∃ (x3_1 : List Int) (x4_1 : Int), v4 = .int .i64 x4_1 ∧ Aside0 (laws_toIntS.l0 kq l0 x3_1 x4_1 = some r) ∧ Aside0 (kq ≤ k) ∧ Aside0 (Kd.R (Kd.int .i64) 3 w' w.heap.size (fun _ => True) v221 x3_1) ∧ Aside0 (Below w.heap.size w w'))
 case atStart => exact ⟨(y220), (0), zE, H', ⟨Nat.le_refl _⟩, ⟨zr HO222.out⟩, ⟨zh HB.out⟩⟩
 case round =>
  clear H'
  try clear c2
  try clear c2b0
  try clear c2b1
  try clear p2
  try clear c3
  try clear c3b0
  try clear c3b1
  try clear c5
  obtain ⟨x3_1, x4_1, rfl, HA, HK1, HO_3, HB⟩ := hrel
  cases gk with
  | zero => exact absurd HA.out (by simp [laws_toIntS.l0])
  | succ k1 =>
   have H := HA.out
   clear HA
   simp only [laws_toIntS.l0] at H
   by_cases c6 : x4_1 < (l0.length : Int)
   rotate_left
   ·rw [if_neg c6] at H
    have c6b0 := decide_eq_false c6
    clear c6
    obtain rfl := Option.some.inj H
    go_wp2
    go_ret
    exact ⟨_, by first | rfl | (simp [*, errW_none, errW_some] <;> rfl), by (with_reducible repeat (first | apply Kd.R_alloc | apply Kd.R_drewN | apply Kd.R_drew)); exact HO_3.out, zh HB.out⟩
   rw [if_pos c6] at H
   have c6b0 := decide_eq_true c6
   clear c6
   by_cases c7 : 0 ≤ x4_1
   rotate_left
   ·rw [if_neg c7] at H
    cases H
   rw [if_pos c7] at H
   have c7b0 := decide_eq_true c7
   clear c7
   by_cases c8 : x4_1 < (x3_1.length : Int)
   rotate_left
   ·rw [if_neg c8] at H
    cases H
   rw [if_pos c8] at H
   have c8b0 := decide_eq_true c8
   clear c8
   obtain ⟨y224, hy224⟩ : ∃ y_ : List Int, y_ = (x3_1.set (x4_1 : Int).toNat (rd l0 x4_1)) := ⟨_, rfl⟩
   rw [← hy224] at H
   have Ny224 := Aside0.mk hy224
   clear hy224
   have H' := Aside0.mk H
   clear H
   obtain ⟨⟨ad223, e223, hx223_0⟩, p223, q223⟩ := zW (Kd.at_int HR0.out x4_1)
   cases e223
   replace hx223_0 := zx HB.out hx223_0
   have p9 : 0 ≤ (x4_1 : Int) := zk
   have q9 : (x4_1 : Int) < ((x3_1.length : Int) : Int) := zk
   obtain ⟨go9, co9, eo9, gb9, gl9, cl9, HG9⟩ := Kd.R_form HO_3.out (by omega)
   (first | cases eo9 | (injection eo9 with ea_ en_ ec_; (first | subst ea_ | (injection ea_ with ea_; subst ea_)); subst ec_; clear en_))
   have GB9 := Aside0.mk gb9
   have GG9 := Aside0.mk HG9
   clear gb9 gl9 HG9
   obtain ⟨hx9_0, hf9_0⟩ := Kd.R_celln 0 HO_3.out (x4_1 : Int) p9 q9
   replace p9 := eq_true p9
   replace q9 := eq_true q9
   have HP10 := Kd.R_putg HO_3.out (x4_1 : Int) (rd l0 x4_1)
   go_wp2_with (first | ((with_reducible refine gate_store (t := 3) (p := 20) rfl ?_); refine store_event (t := 3) (p := 20) (v := ?vo_w11) (w1 := (wr.setCell ⟨go9, (x4_1 : Int).toNat, none⟩ (.int .i64 (rd l0 x4_1)))) ?hg ?ho ?hn ?hr ?_; (case ho => rfl); (case hg => rfl); (case hn => rfl); (case hr => first | (go_simp; done) | (go_simp; rfl)); intro w11 hw; have hg : wr.grownBy w11 (some go9) := (by rw [hw]; exact HP10.2); have hp_ : Kd.R (Kd.int .i64) 3 w11 w.heap.size (fun _ => True) (.slice (some ⟨go9, 0, none⟩) x3_1.length co9) y224 := (by rw [hw, Ny224.out]; exact HP10.1); clear HP10; replace HO_3 := Aside0.mk (hp_); replace HB := Aside0.mk ((by rw [hw]; exact below_set (HB.out) GB9.out : Below w.heap.size w w11)); clear hg hw hp_))
   go_roundg k1
   case measure => have := HK1.out; omega
   case rel => exact ⟨(y224), (wrap64 (x4_1 + 1)), zE, H', zO HK1, ⟨zr HO_3.out⟩, ⟨zh HB.out⟩⟩
def laws_toIntSS.l0 : Nat → List (List Int) → List (List Int) → Int → Option ((List (List Int)))
 | 0, _, _, _ => none
 | k + 1, x0, x3, x4 => if x4 < (x0.length : Int) then (if 0 ≤ x4 then ((laws_toIntS.f k (rd_L1 x0 x4)).bind fun t229 => (if x4 < (x3.length : Int) then (laws_toIntSS.l0 k x0 (x3.set (x4 : Int).toNat t229) (wrap64 (x4 + 1))) else (none))) else (none)) else (some x3)
def laws_toIntSS.f (k : Nat) (l0 : List (List Int)) : Option ((List (List Int))) := if 0 ≤ (l0.length : Int) then (if ((l0.length : Int) : Int).toNat ≤ 11728124029610 then (laws_toIntSS.l0 k l0 (List.replicate ((l0.length : Int) : Int).toNat []) 0) else (none)) else (none)
set_option maxHeartbeats 8000000 in
set_option maxRecDepth 100000 in
theorem laws_toIntSS.calls (k : Nat) (A0 : Option Addr) (c0 : Nat) (l0 : List (List Int)) (r : List (List Int)) (w : World) (hr0 : Kd.C (Kd.slice 3 (Kd.int .i64)) w A0 l0.length l0) (hc0 : l0.length ≤ c0) (h : laws_toIntSS.f k l0 = some r) :
  Calls Tryz.prog 29 #[.slice A0 l0.length c0] w fun e w' => ∃ v0_ : Value, e = .returned (v0_) ∧ Kd.S (Kd.slice 3 (Kd.int .i64)) 65 w' w.heap.size (fun _ => True) v0_ r ∧ Below w.heap.size w w' := by
 have HR0 := Aside0.mk hr0
 have HC0 := Aside0.mk hc0
 clear hr0 hc0
 have HB := Aside0.mk (Below.refl w.heap.size w)
 have H : (if 0 ≤ (l0.length : Int) then (if ((l0.length : Int) : Int).toNat ≤ 11728124029610 then (laws_toIntSS.l0 k l0 (List.replicate ((l0.length : Int) : Int).toNat []) 0) else (none)) else (none)) = some r := h
 clear h
 by_cases c2 : 0 ≤ (l0.length : Int)
 rotate_left
 ·rw [if_neg c2] at H
  cases H
 rw [if_pos c2] at H
 have c2b0 := eq_true c2
 have c2b1 := decide_eq_true c2
 clear c2
 by_cases c3 : ((l0.length : Int) : Int).toNat ≤ 11728124029610
 rotate_left
 ·rw [if_neg c3] at H
  cases H
 rw [if_pos c3] at H
 have c3b0 := eq_true c3
 have c3b1 := decide_eq_true c3
 clear c3
 obtain ⟨y225, hy225⟩ : ∃ y_ : List (List Int), y_ = (List.replicate ((l0.length : Int) : Int).toNat []) := ⟨_, rfl⟩
 rw [← hy225] at H
 have Ny225 := Aside0.mk hy225
 clear hy225
 have H' := Aside0.mk H
 clear H
 go_enter Tryz.func29, Tryz.ntmps29
 go_wp2_with (first | ((with_reducible refine gate_dst (N := 7) rfl ?_); refine Kd.S_make (Kd.slice 3 (Kd.int .i64)) _ 65 rfl (N := 7) rfl 22 _ _ rfl (l0.length : Int) rfl rfl Tryz.underlying22 (.slice none 0 0) 24 info65 rfl (by decide) (by omega) [] (ok := fun _ => True) (okp := fun _ => True) ⟨_, rfl, Kd.R_nil _ _ _ _ _⟩ (fun _ hk => hk) trivial (zk) (Nat.le_trans (Nat.mul_le_mul_right _ (zk : (l0.length : Int).toNat ≤ 11728124029610)) (by omega)) (Below.refl _ _) (Nat.le_refl _) ?_; intro v226 w4 ho5 hb hg_ hnew_; clear hg_ hnew_; (first | rw [← Ny225.out] at ho5 | (simp only [Int.reduceToNat] at ho5; rw [← Ny225.out] at ho5)); have HO227 := Aside0.mk (Kd.S_lower ho5 (below_size (zh HB.out))); replace HB := zH hb HB; clear hb ho5))
 go_loopg [4] k (fun kq v4 w' => ∃ (x3_1 : List (List Int)) (x4_1 : Int), v4 = .int .i64 x4_1 ∧ Aside0 (laws_toIntSS.l0 kq l0 x3_1 x4_1 = some r) ∧ Aside0 (kq ≤ k) ∧ Aside0 (Kd.S (Kd.slice 3 (Kd.int .i64)) 65 w' w.heap.size (fun _ => True) v226 x3_1) ∧ Aside0 (Below w.heap.size w w'))
 case atStart => exact ⟨(y225), (0), zE, H', ⟨Nat.le_refl _⟩, ⟨zS HO227.out⟩, ⟨zh HB.out⟩⟩
 case round =>
  clear H'
  try clear c2
  try clear c2b0
  try clear c2b1
  try clear p2
  try clear c3
  try clear c3b0
  try clear c3b1
  obtain ⟨x3_1, x4_1, rfl, HA, HK1, HO_3, HB⟩ := hrel
  cases gk with
  | zero => exact absurd HA.out (by simp [laws_toIntSS.l0])
  | succ k1 =>
   have H := HA.out
   clear HA
   simp only [laws_toIntSS.l0] at H
   by_cases c6 : x4_1 < (l0.length : Int)
   rotate_left
   ·rw [if_neg c6] at H
    have c6b0 := decide_eq_false c6
    clear c6
    obtain rfl := Option.some.inj H
    go_wp2
    go_ret
    exact ⟨_, by first | rfl | (simp [*, errW_none, errW_some] <;> rfl), by (with_reducible repeat (first | apply Kd.S_alloc | apply Kd.S_drewN | apply Kd.S_drew)); exact HO_3.out, zh HB.out⟩
   rw [if_pos c6] at H
   have c6b0 := decide_eq_true c6
   clear c6
   by_cases c7 : 0 ≤ x4_1
   rotate_left
   ·rw [if_neg c7] at H
    cases H
   rw [if_pos c7] at H
   have c7b0 := decide_eq_true c7
   clear c7
   replace H := Option.bind_eq_some_iff.mp H
   obtain ⟨t229, A80, H⟩ := H
   have A8 := Aside0.mk A80
   clear A80
   by_cases c9 : x4_1 < (x3_1.length : Int)
   rotate_left
   ·rw [if_neg c9] at H
    cases H
   rw [if_pos c9] at H
   have c9b0 := decide_eq_true c9
   clear c9
   obtain ⟨y232, hy232⟩ : ∃ y_ : List (List Int), y_ = (x3_1.set (x4_1 : Int).toNat t229) := ⟨_, rfl⟩
   rw [← hy232] at H
   have Ny232 := Aside0.mk hy232
   clear hy232
   have H' := Aside0.mk H
   clear H
   obtain ⟨⟨ad228, A228_0, c228_0, e228, hx228_0, hl228_0, hi228_0⟩, p228, q228⟩ := zW (at_L1 HR0.out x4_1)
   cases e228
   replace hx228_0 := zx HB.out hx228_0
   have HR228_0 := Aside0.mk hi228_0
   have HC228_0 := Aside0.mk hl228_0
   clear hi228_0 hl228_0
   go_wp2_with (first | ((with_reducible refine gate_callee (f := 54) rfl ?_); refine zl 20 Tryz.func54 #[.slice A228_0 (rd_L1 l0 x4_1).length c228_0] ?_; (with_reducible refine (laws_toIntS.calls k1 _ _ (rd_L1 l0 x4_1) t229 _ ?side1 ?side2 A8.out).mono ?_); (case side1 => exact zQ (Kd.C_below HR228_0.out HB.out)); (case side2 => exact HC228_0.out); rintro e w11 ⟨v230, rfl, ho0, hb⟩; refine ⟨_, rfl, ?_⟩; have HO231 := Aside0.mk (Kd.R_lower ho0 (below_size (zh HB.out))); replace HO_3 := Aside0.mk (Kd.S_elder' (by (with_reducible repeat (first | apply Kd.S_alloc | apply Kd.S_drewN | apply Kd.S_drew)); exact HO_3.out) (Kd.R_base ho0) hb); replace HB := zH hb HB; clear hb; (try clear ho0); have p10 : 0 ≤ (x4_1 : Int) := zk; have q10 : (x4_1 : Int) < ((x3_1.length : Int) : Int) := zk; obtain ⟨go10, co10, eo10, gb10, gl10, cl10, HG10⟩ := Kd.S_form HO_3.out (by omega); (first | cases eo10 | (injection eo10 with ea_ en_ ec_; (first | subst ea_ | (injection ea_ with ea_; subst ea_)); subst ec_; clear en_)); have GB10 := Aside0.mk gb10; have GG10 := Aside0.mk HG10; clear gb10 gl10 HG10; obtain ⟨_, ce10, hcl10, hM10, hcc10, hfr10, _, _⟩ := Kd.S_elem HO_3.out [] (x4_1 : Int) p10 q10; obtain ⟨ve10_0, rfl, ge10_0⟩ := hM10; have hx10_0 := hcc10 0 _ rfl; have hf10_0 := hfr10 0; (try simp only [show ((Kd.slice 3 (Kd.int .i64))).sz = 1 from rfl, Nat.mul_one, Nat.add_zero] at hx10_0); (try simp only [show ((Kd.slice 3 (Kd.int .i64))).sz = 1 from rfl, Nat.mul_one, Nat.add_zero] at hf10_0); (try clear hM10); clear hcl10 hcc10 hfr10; replace p10 := eq_true p10; replace q10 := eq_true q10; have n_ := Aside0.mk (Kd.S_mono (ok' := (fun k_ => some k_ ≠ (v230 : Value).ownBlock)) HO_3.out (fun k_ hk => hk.2)); clear HO_3; have HO_3 := n_; clear n_; have HX12 := Aside0.mk (show Kd.S (Kd.slice 3 (Kd.int .i64)) 65 w11 w.heap.size (fun k_ => ((fun _ => True)) k_ ∧ ¬ ((fun k_ => some k_ = (v230 : Value).ownBlock)) k_) (.slice (some ⟨go10, 0, none⟩) x3_1.length co10) x3_1 from (by (with_reducible repeat (first | apply Kd.S_alloc | apply Kd.S_drewN | apply Kd.S_drew)); exact Kd.S_mono HO_3.out (fun k_ hk => ⟨trivial, fun e_ => hk e_⟩))); obtain ⟨oki12, ce12, hcl12, hM12, hcc12, hfr12, hoki12, hH12⟩ := Kd.S_elem HX12.out [] (x4_1 : Int) (zk) (by have h_ : (x4_1 : Int) < ((x3_1.length : Int) : Int) := zk; first | exact h_ | (have e_ := (Kd.S_reads' HO_3.out).1; omega) | simpa using h_); obtain ⟨ve12_0, rfl, ge12_0⟩ := hM12; have HP12 := Kd.S_seg hH12 (zk) (by have h_ : (x4_1 : Int) < ((x3_1.length : Int) : Int) := zk; first | exact h_ | (have e_ := (Kd.S_reads' HO_3.out).1; omega) | simpa using h_) (seg := [v230]) (j := 0) (show 1 ≤ 1 from by decide) (x' := t229) (Kd.M_row (Kd.R_mono (Kd.R_tight rfl (Kd.R_mono (ok' := fun k_ => ((fun _ => True)) k_ ∧ k_ ≠ go10) (Kd.R_apart' (HO231.out) (Kd.S_typed HO_3.out) (by decide)) (fun k_ hk => ⟨trivial, fun e_ => (hk.2) (by rw [e_]; rfl)⟩))) (fun _ h_ => Or.inr (h_)))) (fun _ hk => hk) (fun k_ hk_ => ((Kd.R_mono (ok' := fun k_ => ((fun _ => True)) k_ ∧ k_ ≠ go10) (Kd.R_apart' (HO231.out) (Kd.S_typed HO_3.out) (by decide)) (fun k_ hk => ⟨trivial, fun e_ => (hk.2) (by rw [e_]; rfl)⟩))).1 k_ hk_.symm); have hx12_0 := hcc12 0 _ rfl; (try simp only [show ((Kd.slice 3 (Kd.int .i64))).sz = 1 from rfl, Nat.mul_one, Nat.add_zero] at hx12_0); have hf12_0 := hfr12 0; (try simp only [show ((Kd.slice 3 (Kd.int .i64))).sz = 1 from rfl, Nat.mul_one, Nat.add_zero] at hf12_0); (try clear hM12); clear hcl12 hcc12 hfr12 hoki12 hH12; (try simp only [show ((Kd.slice 3 (Kd.int .i64))).sz = 1 from rfl, Nat.mul_one, Nat.add_zero] at HP12)) | ((with_reducible refine gate_store (t := 65) (p := 21) rfl ?_); refine store_event (t := 65) (p := 21) (v := ?vo_w13) (w1 := (w11.setCell ⟨go10, (x4_1 : Int).toNat, none⟩ (v230))) ?hg ?ho ?hn ?hr ?_; (case ho => rfl); (case hg => rfl); (case hn => rfl); (case hr => first | (obtain ⟨_, _, es_⟩ := Kd.R_slice HO231.out; rw [es_]; first | (go_simp; done) | (go_simp; rfl)) | (go_simp; done) | (go_simp; rfl)); intro w13 hw; have hg : w11.grownBy w13 (some go10) := (by rw [hw]; exact HP12.2); have hp_ : Kd.S (Kd.slice 3 (Kd.int .i64)) 65 w13 w.heap.size (fun _ => True) (.slice (some ⟨go10, 0, none⟩) x3_1.length co10) y232 := (by rw [hw, Ny232.out]; exact HP12.1); clear HP12; replace HO_3 := Aside0.mk (hp_); replace HB := Aside0.mk ((by rw [hw]; exact below_set (HB.out) GB10.out : Below w.heap.size w w13)); clear HO231 hg hw hp_))
   go_roundg k1
   case measure => have := HK1.out; omega
   case rel => exact ⟨(y232), (wrap64 (x4_1 + 1)), zE, H', zO HK1, ⟨zS HO_3.out⟩, ⟨zh HB.out⟩⟩
def laws_toGame.f (k : Nat) (a0_0 : Int) (l0_1 : List (List Int)) : Option (Int × (List (List Int))) := (laws_toIntSS.f k l0_1).bind fun t236 => (some (a0_0, t236))
set_option maxHeartbeats 8000000 in
set_option maxRecDepth 100000 in
theorem laws_toGame.calls (k : Nat) (a0_0 : Int) (A0_1 : Option Addr) (c0_1 : Nat) (l0_1 : List (List Int)) (r1 : Int) (r2 : List (List Int)) (w : World) (hr0_1 : Kd.C (Kd.slice 3 (Kd.int .i64)) w A0_1 l0_1.length l0_1) (hc0_1 : l0_1.length ≤ c0_1) (h : laws_toGame.f k a0_0 l0_1 = some (r1, r2)) :
  Calls Tryz.prog 8 #[.agg #[.int .i64 a0_0, .slice A0_1 l0_1.length c0_1]] w fun e w' => ∃ v1_ : Value, e = .returned (.agg #[.int .i64 r1, v1_]) ∧ Kd.S (Kd.slice 3 (Kd.int .i64)) 65 w' w.heap.size (fun _ => True) v1_ r2 ∧ Below w.heap.size w w' := by
 have hu24 := Tryz.underlying24
 have hu28 := Tryz.underlying28
 have HR0_1 := Aside0.mk hr0_1
 have HC0_1 := Aside0.mk hc0_1
 clear hr0_1 hc0_1
 have HB := Aside0.mk (Below.refl w.heap.size w)
 have H : ((laws_toIntSS.f k l0_1).bind fun t236 => (some (a0_0, t236))) = some (r1, r2) := h
 clear h
 replace H := Option.bind_eq_some_iff.mp H
 obtain ⟨t236, A20, H⟩ := H
 replace H : (some (a0_0, t236)) = some (r1, r2) := H
 have A2 := Aside0.mk A20
 clear A20
 simp only [Option.some.injEq, Prod.mk.injEq] at H
 obtain ⟨rfl, rfl⟩ := H
 go_enter Tryz.func8, Tryz.ntmps8
 go_wp2_with (first | ((with_reducible refine gate_dst (N := 1) rfl ?_); refine zq 1 #[.int .i64 a0_0, .slice A0_1 l0_1.length c0_1] 24 ?_; intro gb233 hg w3 hbox hb; have GW233 := zG hg HB; replace HB := zH hb HB; have BK233 := Aside0.mk hbox; have GE233 := GW233; clear hb hbox hg) | ((with_reducible refine gate_dst (N := 2) rfl ?_); refine zq 2 #[.int .i64 0, .slice none 0 0] 28 ?_; intro gb234 hg w4 hbox hb; have BK234 := Aside0.mk hbox; have GW234 := zG hg HB; have GE234 := zG hg HB; have NB233_234 := zNa hg BK233; have NB234_233 := zNb hg BK233; replace BK233 := zK BK233 hb; replace HB := zH hb HB; clear hb hbox hg) | ((with_reducible refine gate_dst (N := 3) rfl ?_); refine zq 3 #[.int .i64 0, .slice none 0 0] 28 ?_; intro gb235 hg w5 hbox hb; have BK235 := Aside0.mk hbox; have GW235 := zG hg HB; have GE235 := zG hg HB; have NB233_235 := zNa hg BK233; have NB235_233 := zNb hg BK233; have NB234_235 := zNa hg BK234; have NB235_234 := zNb hg BK234; replace BK233 := zK BK233 hb; replace BK234 := zK BK234 hb; replace HB := zH hb HB; clear hb hbox hg; have hnb6 := NB233_234.out; have hnc6 := NB234_233.out; have hnb7 := NB233_235.out; have hnc7 := NB235_233.out; obtain ⟨hcz8_0, hcz8_1, hfz8_0, hfz8_1⟩ := zC2 BK233; have hnb9 := NB235_234.out; have hnc9 := NB234_235.out; obtain ⟨hcz10_0, hcz10_1, hfz10_0, hfz10_1⟩ := zC2 BK235) | ((with_reducible refine gate_callee (f := 29) rfl ?_); refine zl 9 Tryz.func29 #[.slice A0_1 l0_1.length c0_1] ?_; (with_reducible refine (laws_toIntSS.calls k _ _ l0_1 t236 _ ?side1 ?side2 A2.out).mono ?_); (case side1 => exact Kd.C_below HR0_1.out (zh HB.out)); (case side2 => exact HC0_1.out); rintro e w11 ⟨v237, rfl, ho0, hb⟩; refine ⟨_, rfl, ?_⟩; have HO238 := Aside0.mk (Kd.S_lower ho0 (below_size (zh HB.out))); replace BK233 := Aside0.mk (blk_below (g := gb233) (o := .cells #[.int .i64 a0_0, .slice A0_1 l0_1.length c0_1] 24 (0, 0)) (zf1 BK233.out NB233_235.out) hb); replace BK234 := Aside0.mk (blk_below (g := gb234) (o := .cells #[.int .i64 0, .slice none 0 0] 28 (0, 0)) (zf1 BK234.out NB234_235.out) hb); replace BK235 := Aside0.mk (blk_below (g := gb235) (o := .cells #[.int .i64 a0_0, .slice none 0 0] 28 (0, 0)) (by (with_reducible repeat (first | refine blk_drewN ?_ _ | refine blk_drew ?_ | refine blk_alloc ?_ _)); refine blk_put (cs := #[.int .i64 0, .slice none 0 0]) ?_ 0 _ rfl; (with_reducible repeat (first | refine blk_drewN ?_ _ | refine blk_drew ?_ | refine blk_alloc ?_ _)); exact BK235.out) hb); replace HB := zH hb HB; clear hb; (try clear ho0); obtain ⟨Ao12, co12, eo12⟩ := Kd.S_slice HO238.out; subst eo12; obtain ⟨hcz13_0, hcz13_1, hfz13_0, hfz13_1⟩ := zC2 BK235; obtain ⟨hcz14_0, hcz14_1, hfz14_0, hfz14_1⟩ := zC2 BK234))
 refine bodyPost_ret (results_cell_row rfl _ _ gb234 28 #[.int .i64 a0_0, .slice Ao12 t236.length co12] (0, 0) _ rfl (by (with_reducible repeat (first | refine blk_drewN ?_ _ | refine blk_drew ?_ | refine blk_alloc ?_ _)); refine blk_put (cs := #[.int .i64 a0_0, .slice none 0 0]) ?_ 1 _ rfl; (with_reducible repeat (first | refine blk_drewN ?_ _ | refine blk_drew ?_ | refine blk_alloc ?_ _)); refine blk_put (cs := #[.int .i64 0, .slice none 0 0]) ?_ 0 _ rfl; (with_reducible repeat (first | refine blk_drewN ?_ _ | refine blk_drew ?_ | refine blk_alloc ?_ _)); refine blk_far ?_ NB234_235.out _; (with_reducible repeat (first | refine blk_drewN ?_ _ | refine blk_drew ?_ | refine blk_alloc ?_ _)); exact BK234.out) Tryz.underlying28 rfl (by kernel_rfl)) rfl ?_
 exact ⟨_, by first | rfl | (simp [*, errW_none, errW_some] <;> rfl), by (with_reducible repeat (first | apply Kd.S_alloc | apply Kd.S_drewN | apply Kd.S_drew)); exact Kd.S_mono (Kd.S_far (p := ⟨gb234, 1, none⟩) (Kd.S_far (p := ⟨gb234, 0, none⟩) (Kd.S_far (p := ⟨gb235, 1, none⟩) (Kd.S_types (Kd.S_types HO238.out BK235.out (by decide)) BK234.out (by decide)) (fun _ hk => hk.1.2) (.slice Ao12 t236.length co12)) (fun _ hk => hk.2) (.int .i64 a0_0)) (fun _ hk => hk.2) (.slice Ao12 t236.length co12)) (fun _ hk => trivial), zh HB.out⟩
def impl_isIncreasing.l0 : Nat → List Int → Int → Int → Option (Bool)
 | 0, _, _, _ => none
 | k + 1, x0, x5, x6 => if x6 < x5 then (if x6 > 0 then (if 0 ≤ x6 then (if x6 < (x0.length : Int) then (if 0 ≤ (wrap64 (x6 - 1)) then (if (wrap64 (x6 - 1)) < (x0.length : Int) then (if (rd x0 x6) ≤ (rd x0 (wrap64 (x6 - 1))) then (some false) else (impl_isIncreasing.l0 k x0 x5 (wrap64 (x6 + 1)))) else (none)) else (none)) else (none)) else (none)) else (impl_isIncreasing.l0 k x0 x5 (wrap64 (x6 + 1)))) else (some true)
def impl_isIncreasing.f (k : Nat) (l0 : List Int) : Option (Bool) := impl_isIncreasing.l0 k l0 (l0.length : Int) 0
set_option maxHeartbeats 8000000 in
set_option maxRecDepth 100000 in
theorem impl_isIncreasing.calls (k : Nat) (A0 : Option Addr) (c0 : Nat) (l0 : List Int) (r : Bool) (w : World) (hr0 : Kd.C (Kd.int .i64) w A0 l0.length l0) (hc0 : l0.length ≤ c0) (h : impl_isIncreasing.f k l0 = some r) :
  Calls Tryz.prog 142 #[.slice A0 l0.length c0] w fun e w' => e = .returned (.bool r) ∧ Drawn0 w w' := by
 have HR0 := Aside0.mk hr0
 have HC0 := Aside0.mk hc0
 clear hr0 hc0
 have H : (impl_isIncreasing.l0 k l0 (l0.length : Int) 0) = some r := h
 clear h
 have H' := Aside0.mk H
 clear H
 go_enter Tryz.func142, Tryz.ntmps142
 go_wp2
 repeat (go_quiet (fail); try go_wp2)
 go_loopg [6] k (fun kq v6 w' => ∃ (x6_1 : Int), v6 = .int .i64 x6_1 ∧ Aside0 (impl_isIncreasing.l0 kq l0 (l0.length : Int) x6_1 = some r) ∧ Aside0 (kq ≤ k) ∧ Drawn0 w w')
 case atStart => exact ⟨(0), zE, H', ⟨Nat.le_refl _⟩, zD⟩
 case round =>
  clear H'
  try clear c1
  obtain ⟨x6_1, rfl, HA, HK1, ⟨m1, rfl⟩⟩ := hrel
  cases gk with
  | zero => exact absurd HA.out (by simp [impl_isIncreasing.l0])
  | succ k1 =>
   have H := HA.out
   clear HA
   simp only [impl_isIncreasing.l0] at H
   by_cases c2 : x6_1 < (l0.length : Int)
   rotate_left
   ·rw [if_neg c2] at H
    have c2b0 := decide_eq_false c2
    clear c2
    obtain rfl := Option.some.inj H
    go_wp2
    repeat (go_quiet (fail); try go_wp2)
    go_ret
    exact za1
   rw [if_pos c2] at H
   have c2b0 := decide_eq_true c2
   clear c2
   by_cases c3 : x6_1 > 0
   rotate_left
   ·rw [if_neg c3] at H
    have c3b0 := decide_eq_false c3
    clear c3
    have H' := Aside0.mk H
    clear H
    go_wp2
    repeat (go_quiet (fail); try go_wp2)
    go_roundg k1
    case measure => have := HK1.out; omega
    case rel => exact ⟨(wrap64 (x6_1 + 1)), zE, H', zO HK1, zD⟩
   rw [if_pos c3] at H
   have c3b0 := decide_eq_true c3
   clear c3
   by_cases c4 : 0 ≤ x6_1
   rotate_left
   ·rw [if_neg c4] at H
    cases H
   rw [if_pos c4] at H
   have c4b0 := decide_eq_true c4
   clear c4
   by_cases c5 : x6_1 < (l0.length : Int)
   rotate_left
   ·rw [if_neg c5] at H
    cases H
   rw [if_pos c5] at H
   have c5b0 := decide_eq_true c5
   clear c5
   obtain ⟨ji6, hji6⟩ : ∃ j_ : Int, (wrap64 (x6_1 - 1)) = j_ := ⟨_, rfl⟩
   rw [hji6] at H
   have hji6w := (i64_w _).trans hji6
   by_cases c7 : 0 ≤ (ji6)
   rotate_left
   ·rw [if_neg c7] at H
    cases H
   rw [if_pos c7] at H
   have c7b0 := decide_eq_true c7
   clear c7
   by_cases c8 : (ji6) < (l0.length : Int)
   rotate_left
   ·rw [if_neg c8] at H
    cases H
   rw [if_pos c8] at H
   have c8b0 := decide_eq_true c8
   clear c8
   by_cases c9 : (rd l0 x6_1) ≤ (rd l0 (ji6))
   ·rw [if_pos c9] at H
    have c9b0 := decide_eq_true c9
    clear c9
    obtain rfl := Option.some.inj H
    obtain ⟨⟨ad239, e239, hx239_0⟩, p239, q239⟩ := zW (Kd.at_int HR0.out x6_1)
    cases e239
    obtain ⟨⟨ad240, e240, hx240_0⟩, p240, q240⟩ := zW (Kd.at_int HR0.out (ji6))
    obtain rfl : ad239 = ad240 := (by injection e240)
    go_wp2
    repeat (go_quiet (fail); try go_wp2)
    go_ret
    exact ⟨by first | rfl | (simp; done) | (simp only [← hji6] <;> (first | rfl | simp)) | (simp [*]; done), by repeat (first | exact Drawn0.refl _ | apply Drawn0.step)⟩
   rw [if_neg c9] at H
   have c9b0 := decide_eq_false c9
   clear c9
   have H' := Aside0.mk H
   clear H
   obtain ⟨⟨ad239, e239, hx239_0⟩, p239, q239⟩ := zW (Kd.at_int HR0.out x6_1)
   cases e239
   obtain ⟨⟨ad240, e240, hx240_0⟩, p240, q240⟩ := zW (Kd.at_int HR0.out (ji6))
   obtain rfl : ad239 = ad240 := (by injection e240)
   go_wp2
   repeat (go_quiet (fail); try go_wp2)
   go_roundg k1
   case measure => have := HK1.out; omega
   case rel => exact ⟨(wrap64 (x6_1 + 1)), zE, H', zO HK1, zD⟩
def impl_votes_table.l0 : Nat → Int → List Bool → Int → Int → Option (Int)
 | 0, _, _, _, _ => none
 | k + 1, x3, x7, x8, x9 => if x9 < x8 then (if 0 ≤ x9 then (if x9 < (x7.length : Int) then (if rdOf false x7 x9 = true then (impl_votes_table.l0 k (Go.bits .or .i64 x3 (shl .i64 1 x9)) x7 x8 (wrap64 (x9 + 1))) else (impl_votes_table.l0 k x3 x7 x8 (wrap64 (x9 + 1)))) else (none)) else (none)) else (some x3)
def impl_votes_table.f (k : Nat) (a0_0 : Int) (l0_1 : List Bool) : Option (Int) := impl_votes_table.l0 k 0 l0_1 (l0_1.length : Int) 0
set_option maxHeartbeats 8000000 in
set_option maxRecDepth 100000 in
theorem impl_votes_table.calls (k : Nat) (a0_0 : Int) (A0_1 : Option Addr) (c0_1 : Nat) (l0_1 : List Bool) (r : Int) (w : World) (hr0_1 : Kd.C Kd.bool w A0_1 l0_1.length l0_1) (hc0_1 : l0_1.length ≤ c0_1) (h : impl_votes_table.f k a0_0 l0_1 = some r) :
  Calls Tryz.prog 57 #[.agg #[.int .i64 a0_0, .slice A0_1 l0_1.length c0_1]] w fun e w' => e = .returned (.int .i64 r) ∧ Below w.heap.size w w' := by
 have hu61 := Tryz.underlying61
 have HR0_1 := Aside0.mk hr0_1
 have HC0_1 := Aside0.mk hc0_1
 clear hr0_1 hc0_1
 have HB := Aside0.mk (Below.refl w.heap.size w)
 have H : (impl_votes_table.l0 k 0 l0_1 (l0_1.length : Int) 0) = some r := h
 clear h
 have H' := Aside0.mk H
 clear H
 go_enter Tryz.func57, Tryz.ntmps57
 go_wp2_with (first | ((with_reducible refine gate_dst (N := 1) rfl ?_); refine zq 1 #[.int .i64 a0_0, .slice A0_1 l0_1.length c0_1] 61 ?_; intro gb287 hg w2 hbox hb; have GW287 := zG hg HB; replace HB := zH hb HB; have BK287 := Aside0.mk hbox; have GE287 := GW287; clear hb hbox hg; obtain ⟨hcz3_0, hcz3_1, hfz3_0, hfz3_1⟩ := zC2 BK287))
 go_loopg [3, 9] k (fun kq v3 v9 w' => ∃ (x3_1 : Int) (x9_1 : Int), v3 = .int .i64 x3_1 ∧ v9 = .int .i64 x9_1 ∧ Aside0 (impl_votes_table.l0 kq x3_1 l0_1 (l0_1.length : Int) x9_1 = some r) ∧ Aside0 (kq ≤ k) ∧ Aside0 (w'.heap[gb287]? = some (.cells #[.int .i64 a0_0, (.slice A0_1 l0_1.length c0_1)] 61 (0, 0))) ∧ Aside0 (Below w.heap.size w w'))
 case atStart => exact ⟨(0), (0), zE, zE, H', ⟨Nat.le_refl _⟩, ⟨zb BK287.out⟩, ⟨zh HB.out⟩⟩
 case round =>
  clear H'
  try clear p2
  try clear hcz3_0
  try clear hcz3_1
  try clear hfz3_0
  try clear hfz3_1
  obtain ⟨x3_1, x9_1, rfl, rfl, HA, HK1, BK287, HB⟩ := hrel
  cases gk with
  | zero => exact absurd HA.out (by simp [impl_votes_table.l0])
  | succ k1 =>
   have H := HA.out
   clear HA
   simp only [impl_votes_table.l0] at H
   by_cases c4 : x9_1 < (l0_1.length : Int)
   rotate_left
   ·rw [if_neg c4] at H
    have c4b0 := decide_eq_false c4
    clear c4
    obtain rfl := Option.some.inj H
    go_wp2
    go_ret
    exact ⟨by first | rfl | (simp [*, errW_none, errW_some] <;> rfl), zh HB.out⟩
   rw [if_pos c4] at H
   have c4b0 := decide_eq_true c4
   clear c4
   by_cases c5 : 0 ≤ x9_1
   rotate_left
   ·rw [if_neg c5] at H
    cases H
   rw [if_pos c5] at H
   have c5b0 := decide_eq_true c5
   clear c5
   by_cases c6 : x9_1 < (l0_1.length : Int)
   rotate_left
   ·rw [if_neg c6] at H
    cases H
   rw [if_pos c6] at H
   have c6b0 := decide_eq_true c6
   clear c6
   obtain ⟨bq7, hbq7⟩ : ∃ b_ : Bool, b_ = (rdOf false l0_1 x9_1) := ⟨_, rfl⟩
   rw [← hbq7] at H
   have Nbq7 := Aside0.mk hbq7
   clear hbq7
   by_cases c8 : bq7 = true
   rotate_left
   ·replace c8 := Bool.eq_false_iff.mpr c8
    subst c8
    rw [if_neg zF] at H
    have H' := Aside0.mk H
    clear H
    obtain ⟨⟨ad288, e288, hx288_0⟩, p288, q288⟩ := zW (Kd.at_bool HR0_1.out x9_1)
    (try rw [← Nbq7.out] at hx288_0)
    cases e288
    replace hx288_0 := zx HB.out hx288_0
    go_wp2
    go_roundg k1
    case measure => have := HK1.out; omega
    case rel => exact ⟨(x3_1), (wrap64 (x9_1 + 1)), zE, zE, H', zO HK1, ⟨zb BK287.out⟩, ⟨zh HB.out⟩⟩
   subst c8
   rw [if_pos rfl] at H
   have c9b0 := eq_true (zk : 0 ≤ x9_1)
   obtain ⟨ji10, hji10⟩ : ∃ j_ : Int, (shl .i64 1 x9_1) = j_ := ⟨_, rfl⟩
   rw [hji10] at H
   obtain ⟨hji10_, hji10z, hji10u, hji10v, hji10y, hji10x⟩ := zJ1 hji10
   have H' := Aside0.mk H
   clear H
   obtain ⟨⟨ad288, e288, hx288_0⟩, p288, q288⟩ := zW (Kd.at_bool HR0_1.out x9_1)
   (try rw [← Nbq7.out] at hx288_0)
   cases e288
   replace hx288_0 := zx HB.out hx288_0
   go_wp2
   go_roundg k1
   case measure => have := HK1.out; omega
   case rel => exact ⟨(Go.bits .or .i64 x3_1 (ji10)), (wrap64 (x9_1 + 1)), (by first | rfl | (simp; done) | (simp only [← hji10] <;> (first | rfl | simp)) | (simp [*]; done)), zE, H', zO HK1, ⟨zb BK287.out⟩, ⟨zh HB.out⟩⟩
def slices_Index_int_int.l0 : Nat → List Int → Int → Int → Int → Option (Int)
 | 0, _, _, _, _ => none
 | k + 1, x0, x1, x7, x8 => if x8 < x7 then (if 0 ≤ x8 then (if x8 < (x0.length : Int) then (if x1 = (rd x0 x8) then (some x8) else (slices_Index_int_int.l0 k x0 x1 x7 (wrap64 (x8 + 1)))) else (none)) else (none)) else (some (-1))
def slices_Index_int_int.f (k : Nat) (l0 : List Int) (a1 : Int) : Option (Int) := slices_Index_int_int.l0 k l0 a1 (l0.length : Int) 0
set_option maxHeartbeats 8000000 in
set_option maxRecDepth 100000 in
theorem slices_Index_int_int.calls (k : Nat) (A0 : Option Addr) (c0 : Nat) (l0 : List Int) (a1 : Int) (r : Int) (w : World) (hr0 : Kd.C (Kd.int .i64) w A0 l0.length l0) (hc0 : l0.length ≤ c0) (h : slices_Index_int_int.f k l0 a1 = some r) :
  Calls Tryz.prog 157 #[.slice A0 l0.length c0, .int .i64 a1] w fun e w' => e = .returned (.int .i64 r) ∧ Drawn0 w w' := by
 have HR0 := Aside0.mk hr0
 have HC0 := Aside0.mk hc0
 clear hr0 hc0
 have H : (slices_Index_int_int.l0 k l0 a1 (l0.length : Int) 0) = some r := h
 clear h
 have H' := Aside0.mk H
 clear H
 go_enter Tryz.func157, Tryz.ntmps157
 go_wp2
 go_loopg [8] k (fun kq v8 w' => ∃ (x8_1 : Int), v8 = .int .i64 x8_1 ∧ Aside0 (slices_Index_int_int.l0 kq l0 a1 (l0.length : Int) x8_1 = some r) ∧ Aside0 (kq ≤ k) ∧ Drawn0 w w')
 case atStart => exact ⟨(0), zE, H', ⟨Nat.le_refl _⟩, zD⟩
 case round =>
  clear H'
  try clear c1
  try clear p2
  obtain ⟨x8_1, rfl, HA, HK1, ⟨m1, rfl⟩⟩ := hrel
  cases gk with
  | zero => exact absurd HA.out (by simp [slices_Index_int_int.l0])
  | succ k1 =>
   have H := HA.out
   clear HA
   simp only [slices_Index_int_int.l0] at H
   by_cases c3 : x8_1 < (l0.length : Int)
   rotate_left
   ·rw [if_neg c3] at H
    have c3b0 := decide_eq_false c3
    clear c3
    obtain rfl := Option.some.inj H
    go_wp2
    go_ret
    exact za1
   rw [if_pos c3] at H
   have c3b0 := decide_eq_true c3
   clear c3
   by_cases c4 : 0 ≤ x8_1
   rotate_left
   ·rw [if_neg c4] at H
    cases H
   rw [if_pos c4] at H
   have c4b0 := decide_eq_true c4
   clear c4
   by_cases c5 : x8_1 < (l0.length : Int)
   rotate_left
   ·rw [if_neg c5] at H
    cases H
   rw [if_pos c5] at H
   have c5b0 := decide_eq_true c5
   clear c5
   by_cases c6 : a1 = (rd l0 x8_1)
   ·rw [if_pos c6] at H
    have c6b0 := beq_iff_eq.mpr c6
    have c6b1 := bne_eq_false_iff_eq.mpr c6
    clear c6
    obtain rfl := Option.some.inj H
    obtain ⟨⟨ad367, e367, hx367_0⟩, p367, q367⟩ := zW (Kd.at_int HR0.out x8_1)
    cases e367
    go_wp2
    go_ret
    exact za1
   rw [if_neg c6] at H
   have c6b0 := beq_eq_false_iff_ne.mpr c6
   have c6b1 := bne_iff_ne.mpr c6
   have H' := Aside0.mk H
   clear H
   obtain ⟨⟨ad367, e367, hx367_0⟩, p367, q367⟩ := zW (Kd.at_int HR0.out x8_1)
   cases e367
   go_wp2
   go_roundg k1
   case measure => have := HK1.out; omega
   case rel => exact ⟨(wrap64 (x8_1 + 1)), zE, H', zO HK1, zD⟩
def slices_Contains_int_int.f (k : Nat) (l0 : List Int) (a1 : Int) : Option (Bool) := (slices_Index_int_int.f k l0 a1).bind fun t368 => (some (decide (t368 ≥ 0)))
set_option maxHeartbeats 8000000 in
set_option maxRecDepth 100000 in
theorem slices_Contains_int_int.calls (k : Nat) (A0 : Option Addr) (c0 : Nat) (l0 : List Int) (a1 : Int) (r : Bool) (w : World) (hr0 : Kd.C (Kd.int .i64) w A0 l0.length l0) (hc0 : l0.length ≤ c0) (h : slices_Contains_int_int.f k l0 a1 = some r) :
  Calls Tryz.prog 133 #[.slice A0 l0.length c0, .int .i64 a1] w fun e w' => e = .returned (.bool r) ∧ Drawn0 w w' := by
 have HR0 := Aside0.mk hr0
 have HC0 := Aside0.mk hc0
 clear hr0 hc0
 have H : ((slices_Index_int_int.f k l0 a1).bind fun t368 => (some (decide (t368 ≥ 0)))) = some r := h
 clear h
 replace H := Option.bind_eq_some_iff.mp H
 obtain ⟨t368, A30, H⟩ := H
 have A3 := Aside0.mk A30
 clear A30
 obtain rfl := Option.some.inj H
 go_enter Tryz.func133, Tryz.ntmps133
 go_wp2_with (first | ((with_reducible refine gate_callee (f := 157) rfl ?_); refine zl 7 Tryz.func157 #[.slice A0 l0.length c0, .int .i64 a1] ?_; (with_reducible refine (slices_Index_int_int.calls k _ _ l0 a1 t368 _ ?side1 ?side2 A3.out).mono ?_); (case side1 => exact zQ HR0.out); (case side2 => exact HC0.out); rintro e w' ⟨rfl, ⟨nd, rfl⟩⟩; refine ⟨_, rfl, ?_⟩))
 go_ret
 exact za1
mutual
def impl_chosen.l0 : Nat → List Int → Int → Int → Int → Int → Option (List Int × Bool)
 | 0, _, _, _, _, _ => none
 | k + 1, x0, x2, x3, x4, x12 => if x12 < (x0.length : Int) then (if 0 ≤ x12 then ((impl_chosen.f k x0 (wrap64 (x12 + 1)) (wrap64 (x2 - 1)) (Go.bits .and .i64 x3 (rd x0 x12)) x4).bind fun bt429 => (if bt429.2 = true then ((some (([x12] : List Int) : List Int)).bind fun y433 => (if y433.length + bt429.1.length < 17592186044416 then (some ((y433 ++ bt429.1), true)) else (none))) else (impl_chosen.l0 k x0 x2 x3 x4 (wrap64 (x12 + 1))))) else (none)) else (some (([] : List Int), false))
def impl_chosen.f : Nat → List Int → Int → Int → Int → Int → Option (List Int × Bool)
 | 0, _, _, _, _, _ => none
 | k + 1, l0, a1, a2, a3, a4 => if a2 = 0 then (some (([] : List Int), (a3 == a4))) else (impl_chosen.l0 k l0 a2 a3 a4 a1)
end
set_option maxHeartbeats 8000000 in
set_option maxRecDepth 100000 in
theorem impl_chosen.calls (k : Nat) : ∀ (A0 : Option Addr) (c0 : Nat) (l0 : List Int) (a1 : Int) (a2 : Int) (a3 : Int) (a4 : Int) (r1 : List Int) (r2 : Bool) (w : World) (hr0 : Kd.C (Kd.int .i64) w A0 l0.length l0) (hc0 : l0.length ≤ c0) (h : impl_chosen.f k l0 a1 a2 a3 a4 = some (r1, r2)),
  Calls Tryz.prog 60 #[.slice A0 l0.length c0, .int .i64 a1, .int .i64 a2, .int .i64 a3, .int .i64 a4] w fun e w' => ∃ v0_ : Value, e = .returned (.tuple #[v0_, .bool r2]) ∧ Kd.R (Kd.int .i64) 3 w' w.heap.size (fun _ => True) v0_ r1 ∧ Below w.heap.size w w' := by
 induction k using Nat.strongRecOn with
 | _ k ih =>
 intro A0 c0 l0 a1 a2 a3 a4 r1 r2 w hr0 hc0 h
 cases k with
 | zero => exact absurd h (by simp [impl_chosen.f])
 | succ k =>
 simp only [impl_chosen.f] at h
 have HR0 := Aside0.mk hr0
 have HC0 := Aside0.mk hc0
 clear hr0 hc0
 have HB := Aside0.mk (Below.refl w.heap.size w)
 have H : (if a2 = 0 then (some (([] : List Int), (a3 == a4))) else (impl_chosen.l0 k l0 a2 a3 a4 a1)) = some (r1, r2) := h
 clear h
 by_cases c6 : a2 = 0
 ·rw [if_pos c6] at H
  have c6b0 := beq_iff_eq.mpr c6
  have c6b1 := bne_eq_false_iff_eq.mpr c6
  clear c6
  simp only [Option.some.injEq, Prod.mk.injEq] at H
  obtain ⟨rfl, rfl⟩ := H
  go_enter Tryz.func60, Tryz.ntmps60
  go_wp2
  go_ret2
  exact ⟨_, by first | rfl | (simp [*, errW_none, errW_some] <;> rfl), by first | exact Kd.R_nil _ _ _ _ _ | exact Kd.N_nil _ _ _ _ _ | exact Kd.V_nil _ _ _ _ _ | exact Kd.Q_nil _ _ _ _ _ | exact Kd.S_nil _ _ _ _ _, zh HB.out⟩
 rw [if_neg c6] at H
 have c6b0 := beq_eq_false_iff_ne.mpr c6
 have c6b1 := bne_iff_ne.mpr c6
 have H' := Aside0.mk H
 clear H
 go_enter Tryz.func60, Tryz.ntmps60
 go_wp2
 go_loopg [12] k (fun kq v12 w' => ∃ (x12_1 : Int), v12 = .int .i64 x12_1 ∧ Aside0 (impl_chosen.l0 kq l0 a2 a3 a4 x12_1 = some (r1, r2)) ∧ Aside0 (kq ≤ k) ∧ Aside0 (Below w.heap.size w w'))
 case atStart => exact ⟨(a1), zE, H', ⟨Nat.le_refl _⟩, ⟨zh HB.out⟩⟩
 case round =>
  clear H'
  try clear p2
  try clear c6
  try clear c6b0
  try clear c6b1
  obtain ⟨x12_1, rfl, HA, HK1, HB⟩ := hrel
  cases gk with
  | zero => exact absurd HA.out (by simp [impl_chosen.l0])
  | succ k1 =>
   have H := HA.out
   clear HA
   simp only [impl_chosen.l0] at H
   by_cases c7 : x12_1 < (l0.length : Int)
   rotate_left
   ·rw [if_neg c7] at H
    have c7b0 := decide_eq_false c7
    clear c7
    simp only [Option.some.injEq, Prod.mk.injEq] at H
    obtain ⟨rfl, rfl⟩ := H
    go_wp2
    go_ret2
    exact ⟨_, by first | rfl | (simp [*, errW_none, errW_some] <;> rfl), by first | exact Kd.R_nil _ _ _ _ _ | exact Kd.N_nil _ _ _ _ _ | exact Kd.V_nil _ _ _ _ _ | exact Kd.Q_nil _ _ _ _ _ | exact Kd.S_nil _ _ _ _ _, zh HB.out⟩
   rw [if_pos c7] at H
   have c7b0 := decide_eq_true c7
   clear c7
   by_cases c8 : 0 ≤ x12_1
   rotate_left
   ·rw [if_neg c8] at H
    cases H
   rw [if_pos c8] at H
   have c8b0 := decide_eq_true c8
   clear c8
   replace H := Option.bind_eq_some_iff.mp H
   obtain ⟨⟨t429, t430⟩, A90, H⟩ := H
   replace H : (if t430 = true then ((some (([x12_1] : List Int) : List Int)).bind fun y433 => (if y433.length + t429.length < 17592186044416 then (some ((y433 ++ t429), true)) else (none))) else (impl_chosen.l0 k1 l0 a2 a3 a4 (wrap64 (x12_1 + 1)))) = some (r1, r2) := H
   have A9 := Aside0.mk A90
   clear A90
   by_cases c10 : t430 = true
   rotate_left
   ·replace c10 := Bool.eq_false_iff.mpr c10
    subst c10
    rw [if_neg zF] at H
    have H' := Aside0.mk H
    clear H
    obtain ⟨⟨ad428, e428, hx428_0⟩, p428, q428⟩ := zW (Kd.at_int HR0.out x12_1)
    cases e428
    replace hx428_0 := zx HB.out hx428_0
    go_wp2_with (first | ((with_reducible refine gate_callee (f := 60) rfl ?_); refine zl 40 Tryz.func60 #[.slice (some ad428) l0.length c0, .int .i64 (wrap64 (x12_1 + 1)), .int .i64 (wrap64 (a2 - 1)), .int .i64 (Go.bits .and .i64 a3 (rd l0 x12_1)), .int .i64 a4] ?_; (with_reducible refine (ih k1 (by have := HK1.out; omega) _ _ l0 (wrap64 (x12_1 + 1)) (wrap64 (a2 - 1)) (Go.bits .and .i64 a3 (rd l0 x12_1)) a4 t429 false _ ?side1 ?side2 A9.out).mono ?_); (case side1 => exact zQ (Kd.C_below HR0.out HB.out)); (case side2 => exact HC0.out); rintro e w17 ⟨v431, rfl, ho0, hb⟩; refine ⟨_, rfl, ?_⟩; have HO432 := Aside0.mk (Kd.R_lower ho0 (below_size (zh HB.out))); replace HB := zH hb HB; clear hb; (try clear ho0)))
    go_roundg k1
    case measure => have := HK1.out; omega
    case rel => exact ⟨(wrap64 (x12_1 + 1)), zE, H', zO HK1, ⟨zh HB.out⟩⟩
   subst c10
   rw [if_pos rfl] at H
   replace H := zY H
   obtain ⟨y433, Ny433, H⟩ := H
   by_cases c11 : y433.length + t429.length < 17592186044416
   rotate_left
   ·rw [if_neg c11] at H
    cases H
   rw [if_pos c11] at H
   have LMc11 := Aside0.mk c11
   clear c11
   obtain ⟨y436, hy436⟩ : ∃ y_ : List Int, y_ = (y433 ++ t429) := ⟨_, rfl⟩
   rw [← hy436] at H
   have Ny436 := Aside0.mk hy436
   clear hy436
   simp only [Option.some.injEq, Prod.mk.injEq] at H
   obtain ⟨rfl, rfl⟩ := H
   obtain ⟨⟨ad428, e428, hx428_0⟩, p428, q428⟩ := zW (Kd.at_int HR0.out x12_1)
   cases e428
   replace hx428_0 := zx HB.out hx428_0
   go_wp2_with (first | ((with_reducible refine gate_callee (f := 60) rfl ?_); refine zl 40 Tryz.func60 #[.slice (some ad428) l0.length c0, .int .i64 (wrap64 (x12_1 + 1)), .int .i64 (wrap64 (a2 - 1)), .int .i64 (Go.bits .and .i64 a3 (rd l0 x12_1)), .int .i64 a4] ?_; (with_reducible refine (ih k1 (by have := HK1.out; omega) _ _ l0 (wrap64 (x12_1 + 1)) (wrap64 (a2 - 1)) (Go.bits .and .i64 a3 (rd l0 x12_1)) a4 t429 true _ ?side1 ?side2 A9.out).mono ?_); (case side1 => exact zQ (Kd.C_below HR0.out HB.out)); (case side2 => exact HC0.out); rintro e w12 ⟨v431, rfl, ho0, hb⟩; refine ⟨_, rfl, ?_⟩; have HO432 := Aside0.mk (Kd.R_lower ho0 (below_size (zh HB.out))); replace HB := zH hb HB; clear hb; (try clear ho0)) | ((with_reducible refine gate_dst (N := 45) rfl ?_); refine Kd.R_lit (Kd.int .i64) _ 3 ?hg (N := 45) ?hd (xs := ([x12_1] : List Int)) (inner := [.int .i64 x12_1]) (ok := fun _ => True) (okp := fun _ => True) ?hr ?hp (fun _ hk => hk) trivial (Below.refl _ _) (Nat.le_refl _) (by simp) ?_; (case hd => rfl); (case hg => rfl); (case hr => first | (go_simp; done) | (go_simp; rfl)); (case hp => exact (Reps.one (show Kd.M (Kd.int .i64) _ _ _ x12_1 [.int .i64 x12_1] from rfl) (Reps.none _ _))); intro v434 w13 ho14 hb hg_ hnew_; clear hg_ hnew_; (first | rw [← Ny433.out] at ho14 | (simp only [Int.reduceToNat] at ho14; rw [← Ny433.out] at ho14)); have HO435 := Aside0.mk (Kd.R_lower (Kd.R_new' ho14 (Kd.R_lt (zr HO432.out))) (below_size (zh HB.out))); replace HO432 := Aside0.mk (Kd.R_elder' (zr HO432.out) (Kd.R_base ho14) hb); replace HB := zH hb HB; clear hb ho14; obtain ⟨Ao16, co16, eo16⟩ := Kd.R_slice HO432.out; subst eo16) | ((with_reducible refine gate_builtin (b := .append) (xs := #[.tmp 45, .tmp 46]) rfl ?_); at_builtin; refine Kd.R_append_rows (Kd.int .i64) (w0 := w) w.heap.size rfl (.tmp 45) (.tmp 46) 65 3 (.int .i64 0) 8 rfl Tryz.underlying65 info3 rfl (by decide) (by omega) v434 y433 t429 _ _ _ (fun k_ => some k_ ≠ (.slice Ao16 t429.length co16 : Value).ownBlock) (fun _ => False) rfl rfl ?aO ?aR (fun _ _ h => h) (fun _ h => h.elim) ?aF ?aB ?aS ?aL ?_; (case aR => exact zQ ((Kd.R_reads' HO432.out).2.2)); (case aB => exact (zh HB.out)); (case aF => exact (fun k_ hk => Kd.fresh' (Kd.R_lt (zr HO432.out)) k_ hk)); (case aO => exact (zr (Kd.R_mono HO435.out (fun _ hk => hk.2)))); (case aS => exact (below_size (zh HB.out))); (case aL => have := LMc11.out; omega); intro v437 w15 ho hb hg hat; rw [← Ny436.out] at ho; have HO438 := Aside0.mk (ho); replace HO432 := Aside0.mk (Kd.R_after (ok := (fun _ => True)) (zr HO432.out) hg hat); replace HB := Aside0.mk (hb); clear HO435 ho hb hg hat))
   go_ret2
   exact ⟨_, by first | rfl | (simp [*, errW_none, errW_some] <;> rfl), by (with_reducible repeat (first | apply Kd.R_alloc | apply Kd.R_drewN | apply Kd.R_drew)); exact Kd.R_mono HO438.out (fun _ hk => trivial), zh HB.out⟩
end Go.Proofs.YtmbkmabpebjboaaGreat.Q
end
section
namespace Go.Proofs.YtmbkmabpebjboaaGreat.Q
open Go.RowKit Go.Proofs.YtmbkmabpebjboaaGreatW.PrintWords Go.Proofs.YtmbkmabpebjboaaGreatW.PrintLast Go.Proofs.YtmbkmabpebjboaaGreatW.PrintMore
set_option linter.unusedVariables false
set_option linter.unusedSimpArgs false
section
variable {P : Program} {ops : Array Oper} {Q : Exit → Act → World → Prop}
theorem goesF_ {oi : Oper} {N : Option Tmp} {a : Act} {w : World} {K : Act → World → Prop} {g : Nat} {fa lb : Array Value} {c : Operand} {os : Array Operand} {ts : Array TypeId} (eg : ∀ args w, (callFunc g args).run P w = .ok (.enter g args) w) (hc : a.eval c = .func (.func g) fa lb) (args : Array Value)
    (hw : Region.wanted oi (yielded ops a.tmps) = true) (hN : oi.dst = N) (hop : oi.op = .call { callee := .value c, args := os, argTypes := ts }) (hargs : os.map a.eval = args)
    (h : Calls P g (fa ++ args ++ lb) w fun e w' => ∃ v, e = .returned v ∧ K (a.put N v) w') : if Region.wanted oi (yielded ops a.tmps) = true then Oper.wp P oi a w K Q else K (a.put N undef) w := by
  refine call_ g (fa ++ args ++ lb) hw hN ?_ h
  have he := eg (fa ++ args ++ lb) w
  have he2 := he
  rw [Array.append_assoc] at he2
  unfold execOp
  simp [hop, resolve, Deferred.ofValue, invoke, hc, hargs, he, he2]
theorem goesLF_ {rest : List Oper} {oi : Oper} {a : Act} {w : World} (N : Option Tmp) (hd : oi.dst = N) (hg : oi.guard = none) {g : Nat} {fa lb : Array Value} {c : Operand} {os : Array Operand} {ts : Array TypeId} (eg : ∀ args w, (callFunc g args).run P w = .ok (.enter g args) w) (hc : a.eval c = .func (.func g) fa lb) (args : Array Value)
    (hop : oi.op = .call { callee := .value c, args := os, argTypes := ts }) (hargs : os.map a.eval = args)
    (h : Calls P g (fa ++ args ++ lb) w fun e w' => ∃ v, e = .returned v ∧ wpList P ops Q rest (a.put N v) w') : wpList P ops Q (oi :: rest) a w := by
  refine wpList_plain hg fun K hK => ?_
  have he := eg (fa ++ args ++ lb) w
  have he2 := he
  rw [Array.append_assoc] at he2
  have hrun : (execOp a.eval oi).run P w = .ok (.enter g (fa ++ args ++ lb)) w := by
    unfold execOp
    simp [hop, resolve, Deferred.ofValue, invoke, hc, hargs, he, he2]
  unfold Oper.wp
  rw [hrun, Oper.upon_enter]
  refine h.mono fun e w'' hh => ?_
  obtain ⟨v, rfl, hk⟩ := hh
  subst hd
  exact hK _ _ hk
end
@[reducible] def PredI (P : Program) (g : Nat) (fa lb : Array Value) (w : World) (p : Int → Option Bool) : Prop :=
  ∀ (W : World) (x : Int) (b : Bool), Below w.heap.size w W → p x = some b → Calls P g (fa ++ #[.int .i64 x] ++ lb) W fun e w' => e = .returned (.bool b) ∧ Below W.heap.size W w'
@[reducible] def PredI4 (P : Program) (g : Nat) (fa lb : Array Value) (w : World) (p : Int → Int → Int → Int → Option Bool) : Prop :=
  ∀ (W : World) (x y z u : Int) (b : Bool), Below w.heap.size w W → p x y z u = some b → Calls P g (fa ++ #[.int .i64 x, .int .i64 y, .int .i64 z, .int .i64 u] ++ lb) W fun e w' => e = .returned (.bool b) ∧ Below W.heap.size W w'
end Go.Proofs.YtmbkmabpebjboaaGreat.Q
end
section
namespace Go.Proofs.YtmbkmabpebjboaaGreat.Q
open Go.RowKit Go.Proofs.YtmbkmabpebjboaaGreatW.PrintWords Go.Proofs.YtmbkmabpebjboaaGreatW.PrintLast Go.Proofs.YtmbkmabpebjboaaGreatW.PrintMore
attribute [local go_sem] max2_int min2_int max_two min_two max_three min_three max_four min_four
set_option linter.unusedVariables false
set_option linter.unusedSimpArgs false
def cmp_Compare_int.f (a0 : Int) (a1 : Int) : Option (Int) := (cmp_isNaN_int.f a0).bind fun t243 => ((cmp_isNaN_int.f a1).bind fun t244 => (if t243 = true then (if t244 = true then (some 0) else (some (-1))) else (if t244 = true then (some 1) else (if a0 < a1 then (some (-1)) else (if a0 > a1 then (some 1) else (some 0))))))
set_option maxHeartbeats 8000000 in
set_option maxRecDepth 100000 in
theorem cmp_Compare_int.calls (a0 : Int) (a1 : Int) (r : Int) (w : World) (h : cmp_Compare_int.f a0 a1 = some r) :
  Calls Tryz.prog 126 #[.int .i64 a0, .int .i64 a1] w fun e w' => e = .returned (.int .i64 r) ∧ Drawn0 w w' := by
 have H : ((cmp_isNaN_int.f a0).bind fun t243 => ((cmp_isNaN_int.f a1).bind fun t244 => (if t243 = true then (if t244 = true then (some 0) else (some (-1))) else (if t244 = true then (some 1) else (if a0 < a1 then (some (-1)) else (if a0 > a1 then (some 1) else (some 0))))))) = some r := h
 clear h
 replace H := Option.bind_eq_some_iff.mp H
 obtain ⟨t243, A30, H⟩ := H
 have A3 := Aside0.mk A30
 clear A30
 replace H := Option.bind_eq_some_iff.mp H
 obtain ⟨t244, A40, H⟩ := H
 have A4 := Aside0.mk A40
 clear A40
 by_cases c5 : t243 = true
 ·subst c5
  rw [if_pos rfl] at H
  by_cases c6 : t244 = true
  ·subst c6
   rw [if_pos rfl] at H
   obtain rfl := Option.some.inj H
   go_enter Tryz.func126, Tryz.ntmps126
   go_wp2_with (first | ((with_reducible refine gate_callee (f := 143) rfl ?_); refine zl 8 Tryz.func143 #[.int .i64 a0] ?_; (with_reducible refine (cmp_isNaN_int.calls a0 true _ A3.out).mono ?_); rintro e w' ⟨rfl, ⟨nd, rfl⟩⟩; refine ⟨_, rfl, ?_⟩) | ((with_reducible refine gate_callee (f := 143) rfl ?_); refine zl 10 Tryz.func143 #[.int .i64 a1] ?_; (with_reducible refine (cmp_isNaN_int.calls a1 true _ A4.out).mono ?_); rintro e w' ⟨rfl, ⟨nd, rfl⟩⟩; refine ⟨_, rfl, ?_⟩))
   go_ret
   exact za1
  replace c6 := Bool.eq_false_iff.mpr c6
  subst c6
  rw [if_neg zF] at H
  obtain rfl := Option.some.inj H
  go_enter Tryz.func126, Tryz.ntmps126
  go_wp2_with (first | ((with_reducible refine gate_callee (f := 143) rfl ?_); refine zl 8 Tryz.func143 #[.int .i64 a0] ?_; (with_reducible refine (cmp_isNaN_int.calls a0 true _ A3.out).mono ?_); rintro e w' ⟨rfl, ⟨nd, rfl⟩⟩; refine ⟨_, rfl, ?_⟩) | ((with_reducible refine gate_callee (f := 143) rfl ?_); refine zl 10 Tryz.func143 #[.int .i64 a1] ?_; (with_reducible refine (cmp_isNaN_int.calls a1 false _ A4.out).mono ?_); rintro e w' ⟨rfl, ⟨nd, rfl⟩⟩; refine ⟨_, rfl, ?_⟩))
  go_ret
  exact za1
 replace c5 := Bool.eq_false_iff.mpr c5
 subst c5
 rw [if_neg zF] at H
 by_cases c7 : t244 = true
 ·subst c7
  rw [if_pos rfl] at H
  obtain rfl := Option.some.inj H
  go_enter Tryz.func126, Tryz.ntmps126
  go_wp2_with (first | ((with_reducible refine gate_callee (f := 143) rfl ?_); refine zl 8 Tryz.func143 #[.int .i64 a0] ?_; (with_reducible refine (cmp_isNaN_int.calls a0 false _ A3.out).mono ?_); rintro e w' ⟨rfl, ⟨nd, rfl⟩⟩; refine ⟨_, rfl, ?_⟩) | ((with_reducible refine gate_callee (f := 143) rfl ?_); refine zl 10 Tryz.func143 #[.int .i64 a1] ?_; (with_reducible refine (cmp_isNaN_int.calls a1 true _ A4.out).mono ?_); rintro e w' ⟨rfl, ⟨nd, rfl⟩⟩; refine ⟨_, rfl, ?_⟩))
  go_ret
  exact za1
 replace c7 := Bool.eq_false_iff.mpr c7
 subst c7
 rw [if_neg zF] at H
 by_cases c8 : a0 < a1
 ·rw [if_pos c8] at H
  have c8b0 := decide_eq_true c8
  clear c8
  obtain rfl := Option.some.inj H
  go_enter Tryz.func126, Tryz.ntmps126
  go_wp2_with (first | ((with_reducible refine gate_callee (f := 143) rfl ?_); refine zl 8 Tryz.func143 #[.int .i64 a0] ?_; (with_reducible refine (cmp_isNaN_int.calls a0 false _ A3.out).mono ?_); rintro e w' ⟨rfl, ⟨nd, rfl⟩⟩; refine ⟨_, rfl, ?_⟩) | ((with_reducible refine gate_callee (f := 143) rfl ?_); refine zl 10 Tryz.func143 #[.int .i64 a1] ?_; (with_reducible refine (cmp_isNaN_int.calls a1 false _ A4.out).mono ?_); rintro e w' ⟨rfl, ⟨nd, rfl⟩⟩; refine ⟨_, rfl, ?_⟩))
  go_ret
  exact za1
 rw [if_neg c8] at H
 have c8b0 := decide_eq_false c8
 clear c8
 by_cases c9 : a0 > a1
 ·rw [if_pos c9] at H
  have c9b0 := decide_eq_true c9
  clear c9
  obtain rfl := Option.some.inj H
  go_enter Tryz.func126, Tryz.ntmps126
  go_wp2_with (first | ((with_reducible refine gate_callee (f := 143) rfl ?_); refine zl 8 Tryz.func143 #[.int .i64 a0] ?_; (with_reducible refine (cmp_isNaN_int.calls a0 false _ A3.out).mono ?_); rintro e w' ⟨rfl, ⟨nd, rfl⟩⟩; refine ⟨_, rfl, ?_⟩) | ((with_reducible refine gate_callee (f := 143) rfl ?_); refine zl 10 Tryz.func143 #[.int .i64 a1] ?_; (with_reducible refine (cmp_isNaN_int.calls a1 false _ A4.out).mono ?_); rintro e w' ⟨rfl, ⟨nd, rfl⟩⟩; refine ⟨_, rfl, ?_⟩))
  go_ret
  exact za1
 rw [if_neg c9] at H
 have c9b0 := decide_eq_false c9
 clear c9
 obtain rfl := Option.some.inj H
 go_enter Tryz.func126, Tryz.ntmps126
 go_wp2_with (first | ((with_reducible refine gate_callee (f := 143) rfl ?_); refine zl 8 Tryz.func143 #[.int .i64 a0] ?_; (with_reducible refine (cmp_isNaN_int.calls a0 false _ A3.out).mono ?_); rintro e w' ⟨rfl, ⟨nd, rfl⟩⟩; refine ⟨_, rfl, ?_⟩) | ((with_reducible refine gate_callee (f := 143) rfl ?_); refine zl 10 Tryz.func143 #[.int .i64 a1] ?_; (with_reducible refine (cmp_isNaN_int.calls a1 false _ A4.out).mono ?_); rintro e w' ⟨rfl, ⟨nd, rfl⟩⟩; refine ⟨_, rfl, ?_⟩))
 go_ret
 exact za1
def slices_Compare_int_int.l0 : Nat → List Int → List Int → List Int → Int → Int → Option (Int)
 | 0, _, _, _, _, _ => none
 | k + 1, x0, x1, x9, x10, x11 => if x11 < x10 then (if 0 ≤ x11 then (if x11 < (x9.length : Int) then (if x11 ≥ (x1.length : Int) then (some 1) else (if x11 < (x1.length : Int) then ((cmp_Compare_int.f (rd x9 x11) (rd x1 x11)).bind fun t247 => (if t247 = 0 then (slices_Compare_int_int.l0 k x0 x1 x9 x10 (wrap64 (x11 + 1))) else (some t247))) else (none))) else (none)) else (none)) else (if (x0.length : Int) < (x1.length : Int) then (some (-1)) else (some 0))
def slices_Compare_int_int.f (k : Nat) (l0 : List Int) (l1 : List Int) : Option (Int) := slices_Compare_int_int.l0 k l0 l1 l0 (l0.length : Int) 0
set_option maxHeartbeats 8000000 in
set_option maxRecDepth 100000 in
theorem slices_Compare_int_int.calls (k : Nat) (A0 : Option Addr) (c0 : Nat) (l0 : List Int) (A1 : Option Addr) (c1 : Nat) (l1 : List Int) (r : Int) (w : World) (hr0 : Kd.C (Kd.int .i64) w A0 l0.length l0) (hc0 : l0.length ≤ c0) (hr1 : Kd.C (Kd.int .i64) w A1 l1.length l1) (hc1 : l1.length ≤ c1) (h : slices_Compare_int_int.f k l0 l1 = some r) :
  Calls Tryz.prog 90 #[.slice A0 l0.length c0, .slice A1 l1.length c1] w fun e w' => e = .returned (.int .i64 r) ∧ Drawn0 w w' := by
 have HR0 := Aside0.mk hr0
 have HC0 := Aside0.mk hc0
 clear hr0 hc0
 have HR1 := Aside0.mk hr1
 have HC1 := Aside0.mk hc1
 clear hr1 hc1
 have H : (slices_Compare_int_int.l0 k l0 l1 l0 (l0.length : Int) 0) = some r := h
 clear h
 have H' := Aside0.mk H
 clear H
 go_enter Tryz.func90, Tryz.ntmps90
 go_wp2
 go_loopg [11] k (fun kq v11 w' => ∃ (x11_1 : Int), v11 = .int .i64 x11_1 ∧ Aside0 (slices_Compare_int_int.l0 kq l0 l1 l0 (l0.length : Int) x11_1 = some r) ∧ Aside0 (kq ≤ k) ∧ Drawn0 w w')
 case atStart => exact ⟨(0), zE, H', ⟨Nat.le_refl _⟩, zD⟩
 case round =>
  clear H'
  try clear c1
  try clear p2
  obtain ⟨x11_1, rfl, HA, HK1, ⟨m1, rfl⟩⟩ := hrel
  cases gk with
  | zero => exact absurd HA.out (by simp [slices_Compare_int_int.l0])
  | succ k1 =>
   have H := HA.out
   clear HA
   simp only [slices_Compare_int_int.l0] at H
   by_cases c3 : x11_1 < (l0.length : Int)
   rotate_left
   ·rw [if_neg c3] at H
    have c3b0 := decide_eq_false c3
    clear c3
    by_cases c10 : (l0.length : Int) < (l1.length : Int)
    ·rw [if_pos c10] at H
     have c10b0 := decide_eq_true c10
     have c10b1 : decide (l0.length < l1.length) = true := decide_eq_true (Int.ofNat_lt.mp c10)
     clear c10
     obtain rfl := Option.some.inj H
     go_wp2
     go_ret
     exact za1
    rw [if_neg c10] at H
    have c10b0 := decide_eq_false c10
    have c10b1 : decide (l0.length < l1.length) = false := decide_eq_false (fun h => c10 (Int.ofNat_lt.mpr h))
    clear c10
    obtain rfl := Option.some.inj H
    go_wp2
    go_ret
    exact za1
   rw [if_pos c3] at H
   have c3b0 := decide_eq_true c3
   clear c3
   by_cases c4 : 0 ≤ x11_1
   rotate_left
   ·rw [if_neg c4] at H
    cases H
   rw [if_pos c4] at H
   have c4b0 := decide_eq_true c4
   clear c4
   by_cases c5 : x11_1 < (l0.length : Int)
   rotate_left
   ·rw [if_neg c5] at H
    cases H
   rw [if_pos c5] at H
   have c5b0 := decide_eq_true c5
   clear c5
   by_cases c6 : x11_1 ≥ (l1.length : Int)
   ·rw [if_pos c6] at H
    have c6b0 := decide_eq_true c6
    clear c6
    obtain rfl := Option.some.inj H
    obtain ⟨⟨ad245, e245, hx245_0⟩, p245, q245⟩ := zW (Kd.at_int HR0.out x11_1)
    cases e245
    go_wp2
    go_ret
    exact za1
   rw [if_neg c6] at H
   have c6b0 := decide_eq_false c6
   clear c6
   by_cases c7 : x11_1 < (l1.length : Int)
   rotate_left
   ·rw [if_neg c7] at H
    cases H
   rw [if_pos c7] at H
   have c7b0 := decide_eq_true c7
   clear c7
   replace H := Option.bind_eq_some_iff.mp H
   obtain ⟨t247, A80, H⟩ := H
   have A8 := Aside0.mk A80
   clear A80
   by_cases c9 : t247 = 0
   rotate_left
   ·rw [if_neg c9] at H
    have c9b0 := beq_eq_false_iff_ne.mpr c9
    have c9b1 := bne_iff_ne.mpr c9
    obtain rfl := Option.some.inj H
    obtain ⟨⟨ad245, e245, hx245_0⟩, p245, q245⟩ := zW (Kd.at_int HR0.out x11_1)
    cases e245
    obtain ⟨⟨ad246, e246, hx246_0⟩, p246, q246⟩ := zW (Kd.at_int HR1.out x11_1)
    cases e246
    go_wp2_with (first | ((with_reducible refine gate_callee (f := 126) rfl ?_); refine zl 26 Tryz.func126 #[.int .i64 (rd l0 x11_1), .int .i64 (rd l1 x11_1)] ?_; (with_reducible refine (cmp_Compare_int.calls (rd l0 x11_1) (rd l1 x11_1) t247 _ A8.out).mono ?_); rintro e w' ⟨rfl, ⟨nd, rfl⟩⟩; refine ⟨_, rfl, ?_⟩))
    go_ret
    exact za1
   rw [if_pos c9] at H
   have c9b0 := beq_iff_eq.mpr c9
   have c9b1 := bne_eq_false_iff_eq.mpr c9
   clear c9
   have H' := Aside0.mk H
   clear H
   obtain ⟨⟨ad245, e245, hx245_0⟩, p245, q245⟩ := zW (Kd.at_int HR0.out x11_1)
   cases e245
   obtain ⟨⟨ad246, e246, hx246_0⟩, p246, q246⟩ := zW (Kd.at_int HR1.out x11_1)
   cases e246
   go_wp2_with (first | ((with_reducible refine gate_callee (f := 126) rfl ?_); refine zl 26 Tryz.func126 #[.int .i64 (rd l0 x11_1), .int .i64 (rd l1 x11_1)] ?_; (with_reducible refine (cmp_Compare_int.calls (rd l0 x11_1) (rd l1 x11_1) t247 _ A8.out).mono ?_); rintro e w' ⟨rfl, ⟨nd, rfl⟩⟩; refine ⟨_, rfl, ?_⟩))
   go_roundg k1
   case measure => have := HK1.out; omega
   case rel => exact ⟨(wrap64 (x11_1 + 1)), zE, H', zO HK1, zD⟩
def impl_maskOf.l0 : Nat → Int → List Int → Int → Int → Option (Int)
 | 0, _, _, _, _ => none
 | k + 1, x3, x6, x7, x8 => if x8 < x7 then (if 0 ≤ x8 then (if x8 < (x6.length : Int) then (if 0 ≤ (rd x6 x8) then (impl_maskOf.l0 k (Go.bits .or .i64 x3 (shl .i64 1 (rd x6 x8))) x6 x7 (wrap64 (x8 + 1))) else (none)) else (none)) else (none)) else (some x3)
def impl_maskOf.f (k : Nat) (l0 : List Int) : Option (Int) := impl_maskOf.l0 k 0 l0 (l0.length : Int) 0
set_option maxHeartbeats 8000000 in
set_option maxRecDepth 100000 in
theorem impl_maskOf.calls (k : Nat) (A0 : Option Addr) (c0 : Nat) (l0 : List Int) (r : Int) (w : World) (hr0 : Kd.C (Kd.int .i64) w A0 l0.length l0) (hc0 : l0.length ≤ c0) (h : impl_maskOf.f k l0 = some r) :
  Calls Tryz.prog 91 #[.slice A0 l0.length c0] w fun e w' => e = .returned (.int .i64 r) ∧ Drawn0 w w' := by
 have HR0 := Aside0.mk hr0
 have HC0 := Aside0.mk hc0
 clear hr0 hc0
 have H : (impl_maskOf.l0 k 0 l0 (l0.length : Int) 0) = some r := h
 clear h
 have H' := Aside0.mk H
 clear H
 go_enter Tryz.func91, Tryz.ntmps91
 go_wp2
 go_loopg [3, 8] k (fun kq v3 v8 w' => ∃ (x3_1 : Int) (x8_1 : Int), v3 = .int .i64 x3_1 ∧ v8 = .int .i64 x8_1 ∧ Aside0 (impl_maskOf.l0 kq x3_1 l0 (l0.length : Int) x8_1 = some r) ∧ Aside0 (kq ≤ k) ∧ Drawn0 w w')
 case atStart => exact ⟨(0), (0), zE, zE, H', ⟨Nat.le_refl _⟩, zD⟩
 case round =>
  clear H'
  obtain ⟨x3_1, x8_1, rfl, rfl, HA, HK1, ⟨m1, rfl⟩⟩ := hrel
  cases gk with
  | zero => exact absurd HA.out (by simp [impl_maskOf.l0])
  | succ k1 =>
   have H := HA.out
   clear HA
   simp only [impl_maskOf.l0] at H
   by_cases c2 : x8_1 < (l0.length : Int)
   ·rw [if_pos c2] at H
    have c2b0 := decide_eq_true c2
    clear c2
    by_cases c3 : 0 ≤ x8_1
    ·rw [if_pos c3] at H
     have c3b0 := decide_eq_true c3
     clear c3
     by_cases c4 : x8_1 < (l0.length : Int)
     ·rw [if_pos c4] at H
      have c4b0 := decide_eq_true c4
      clear c4
      by_cases c5 : 0 ≤ (rd l0 x8_1)
      ·rw [if_pos c5] at H
       have c5b0 := eq_true c5
       have c5b1 := decide_eq_true c5
       clear c5
       obtain ⟨ji6, hji6⟩ : ∃ j_ : Int, (shl .i64 1 (rd l0 x8_1)) = j_ := ⟨_, rfl⟩
       rw [hji6] at H
       obtain ⟨hji6_, hji6z, hji6u, hji6v, hji6y, hji6x⟩ := zJ1 hji6
       have H' := Aside0.mk H
       clear H
       obtain ⟨⟨ad248, e248, hx248_0⟩, p248, q248⟩ := zW (Kd.at_int HR0.out x8_1)
       cases e248
       go_wp2
       go_roundg k1
       case measure => have := HK1.out; omega
       case rel => exact ⟨(Go.bits .or .i64 x3_1 (ji6)), (wrap64 (x8_1 + 1)), (by first | rfl | (simp; done) | (simp only [← hji6] <;> (first | rfl | simp)) | (simp [*]; done)), zE, H', zO HK1, zD⟩
      ·rw [if_neg c5] at H
       cases H
     ·rw [if_neg c4] at H
      cases H
    ·rw [if_neg c3] at H
     cases H
   ·rw [if_neg c2] at H
    have c2b0 := decide_eq_false c2
    clear c2
    obtain rfl := Option.some.inj H
    go_wp2
    go_ret
    exact za1
section
variable (a1 : Int → Option Bool)
def impl_votesOf.l0 : Nat → Int → Int → Int → List Bool → Option (Int × List Bool)
 | 0, _, _, _, _ => none
 | k + 1, x14, x15, x265000, x265001 => if x15 < x14 then ((a1 x15).bind fun t265 => (if 0 ≤ x15 then (if x15 < (x265001.length : Int) then (impl_votesOf.l0 k x14 (wrap64 (x15 + 1)) x265000 (x265001.set (x15 : Int).toNat t265)) else (none)) else (none))) else (some (x265000, x265001))
def impl_votesOf.f (k : Nat) (a0 : Int) (a1 : Int → Option Bool) : Option (Int × List Bool) := if 0 ≤ a0 then (if 0 ≤ (shl .i64 1 a0) then (if (shl .i64 1 a0 : Int).toNat ≤ 281474976710656 then ((some (List.replicate (shl .i64 1 a0 : Int).toNat false : List Bool)).bind fun y261 => (impl_votesOf.l0 a1 k (y261.length : Int) 0 a0 y261)) else (none)) else (none)) else (none)
theorem impl_votesOf.mono_l : ∀ k, (∀ y0 y1 y2 y3, LeO (impl_votesOf.l0 a1 k y0 y1 y2 y3) (impl_votesOf.l0 a1 (k + 1) y0 y1 y2 y3))
 | 0 => fun _ _ _ _ r h => by simp [impl_votesOf.l0] at h
 | k + 1 => by
  have ih0 := impl_votesOf.mono_l k
  ·intro y0 y1 y2 y3
   unfold impl_votesOf.l0
   repeat' first
   | (with_reducible exact ih0 _ _ _ _)
   | (with_reducible exact LeO.refl _)
   | (with_reducible exact LeO.none _)
   | (with_reducible refine LeO.ite ?_ ?_)
   | (with_reducible refine LeO.bind ?_ (fun _ => ?_))
   | exact ih0 _ _ _ _
   | exact LeO.none _
   | refine LeO.ite ?_ ?_
   | refine LeO.bind ?_ (fun _ => ?_)
theorem impl_votesOf.mono : ∀ a0 a1 k, LeO (impl_votesOf.f k a0 a1) (impl_votesOf.f (k + 1) a0 a1) := by
 intro a0 a1 k
 have ih0 := impl_votesOf.mono_l a1 k
 unfold impl_votesOf.f
 repeat' first
   | (with_reducible exact ih0 _ _ _ _)
   | (with_reducible exact LeO.refl _)
   | (with_reducible exact LeO.none _)
   | (with_reducible refine LeO.ite ?_ ?_)
   | (with_reducible refine LeO.bind ?_ (fun _ => ?_))
   | exact ih0 _ _ _ _
   | exact LeO.none _
   | refine LeO.ite ?_ ?_
   | refine LeO.bind ?_ (fun _ => ?_)
def impl_votesOf.T5 : Bool × List (List Nat × List Nat) := (true, [([], []), ([0], [0]), ([], []), ([], []), ([], []), ([3, 4], [3, 4]), ([1, 2, 0, 1, 2, 3, 4, 5], [1, 2]), ([6, 5, 5, 0, 1, 2, 3, 4, 5], [5, 6])])
def impl_votesOf.B5 : List Nat := [0, 1, 0, 0, 0, 24, 63, 127]
theorem impl_votesOf.tab5 : rtab .any (opsOf Tryz.f92 5) = impl_votesOf.T5 := by kernel_rfl
theorem impl_votesOf.bits5 : waitsOk impl_votesOf.T5.2 impl_votesOf.B5 = true := by kernel_rfl
set_option maxHeartbeats 8000000 in
set_option maxRecDepth 100000 in
theorem impl_votesOf.calls (k : Nat) (a0 : Int) (a1 : Int → Option Bool) (g_ : Nat) (fa_ lb_ : Array Value) (eg_ : ∀ args w, (callFunc g_ args).run Tryz.prog w = .ok (.enter g_ args) w) (r1 : Int) (r2 : List Bool) (w : World) (hp0_ : PredI Tryz.prog g_ fa_ lb_ w a1) (h : impl_votesOf.f k a0 a1 = some (r1, r2)) :
  Calls Tryz.prog 92 #[.int .i64 a0, .func (.func g_) fa_ lb_] w fun e w' => ∃ v1_ : Value, e = .returned (.agg #[.int .i64 r1, v1_]) ∧ Kd.R Kd.bool 4 w' w.heap.size (fun _ => True) v1_ r2 ∧ Below w.heap.size w w' := by
 have hp_ := Aside0.mk hp0_
 clear hp0_
 have hu61 := Tryz.underlying61
 have HB := Aside0.mk (Below.refl w.heap.size w)
 have H : (if 0 ≤ a0 then (if 0 ≤ (shl .i64 1 a0) then (if (shl .i64 1 a0 : Int).toNat ≤ 281474976710656 then ((some (List.replicate (shl .i64 1 a0 : Int).toNat false : List Bool)).bind fun y261 => (impl_votesOf.l0 a1 k (y261.length : Int) 0 a0 y261)) else (none)) else (none)) else (none)) = some (r1, r2) := h
 clear h
 by_cases c3 : 0 ≤ a0
 ·rw [if_pos c3] at H
  have c3b0 := eq_true c3
  have c3b1 := decide_eq_true c3
  clear c3
  obtain ⟨ji4, hji4⟩ : ∃ j_ : Int, (shl .i64 1 a0) = j_ := ⟨_, rfl⟩
  first | rw [hji4] at H | simp only [hji4] at H
  obtain ⟨hji4_, hji4z, hji4u, hji4v, hji4y, hji4x⟩ := zJ1 hji4
  by_cases c5 : 0 ≤ (ji4)
  ·rw [if_pos c5] at H
   have c5b0 := eq_true c5
   have c5b1 := decide_eq_true c5
   clear c5
   by_cases c6 : (ji4 : Int).toNat ≤ 281474976710656
   ·rw [if_pos c6] at H
    have c6b0 := eq_true c6
    have c6b1 := decide_eq_true c6
    clear c6
    replace H := zY H
    obtain ⟨y261, Ny261, H⟩ := H
    have H' := Aside0.mk H
    clear H
    go_enter Tryz.func92, Tryz.ntmps92
    go_wp2_with (first | ((with_reducible refine gate_dst (N := 4) rfl ?_); refine zq 4 #[.int .i64 0, .slice none 0 0] 61 ?_; intro gb260 hg w7 hbox hb; have GW260 := zG hg HB; replace HB := zH hb HB; have BK260 := Aside0.mk hbox; have GE260 := GW260; clear hb hbox hg) | ((with_reducible refine gate_dst (N := 10) rfl ?_); refine Kd.R_make Kd.bool _ 4 rfl (N := 10) rfl 59 _ _ rfl ji4 rfl rfl Tryz.underlying59 (.bool false) 1 info4 rfl (by decide) (by omega) false (ok := fun _ => True) (okp := fun _ => True) rfl (fun _ hk => hk) trivial (zk) (Nat.le_trans (Nat.mul_le_mul_right _ (zk : ji4.toNat ≤ 281474976710656)) (by omega)) (Below.refl _ _) (Nat.le_refl _) ?_; intro v262 w8 ho9 hb hg_ hnew_; clear hg_ hnew_; (first | rw [← Ny261.out] at ho9 | (simp only [Int.reduceToNat] at ho9; rw [← Ny261.out] at ho9)); have HO263 := Aside0.mk (Kd.R_lower ho9 (below_size (zh HB.out))); replace BK260 := zK BK260 hb; replace HB := zH hb HB; clear hb ho9; obtain ⟨Ao10, co10, eo10⟩ := Kd.R_slice HO263.out; subst eo10) | ((with_reducible refine gate_dst (N := 5) rfl ?_); refine zq 5 #[.int .i64 0, .slice none 0 0] 61 ?_; intro gb264 hg w11 hbox hb; have BK264 := Aside0.mk hbox; have GW264 := zG hg HB; have GE264 := zG hg HB; have NB260_264 := zNa hg BK260; have NB264_260 := zNb hg BK260; replace HO263 := Aside0.mk (Kd.R_below (zr HO263.out) hb); replace BK260 := zK BK260 hb; replace HB := zH hb HB; clear hb hbox hg; have hnb12 := NB264_260.out; have hnc12 := NB260_264.out; obtain ⟨hcz13_0, hcz13_1, hfz13_0, hfz13_1⟩ := zC2 BK264))
    go_loopg [15] k (fun kq v15 w' => ∃ (x15_1 : Int) (x265001_1 : List Bool) (u265001 : Value), v15 = .int .i64 x15_1 ∧ Aside0 (impl_votesOf.l0 a1 kq (y261.length : Int) x15_1 a0 x265001_1 = some (r1, r2)) ∧ Aside0 (kq ≤ k) ∧ Aside0 (Kd.R Kd.bool 4 w' w.heap.size (fun _ => True) u265001 x265001_1) ∧ Aside0 (w'.heap[gb260]? = some (.cells #[.int .i64 0, (.slice none 0 0)] 61 (0, 0))) ∧ Aside0 (w'.heap[gb264]? = some (.cells #[.int .i64 a0, u265001] 61 (0, 0))) ∧ Aside0 (Below w.heap.size w w'))
    case atStart => exact ⟨(0), (y261), (.slice Ao10 y261.length co10), zE, H', ⟨Nat.le_refl _⟩, ⟨by (with_reducible repeat (first | apply Kd.R_alloc | apply Kd.R_drewN | apply Kd.R_drew)); exact Kd.R_mono (Kd.R_far (p := ⟨gb264, 1, none⟩) (Kd.R_far (p := ⟨gb264, 0, none⟩) (Kd.R_types HO263.out BK264.out (by decide)) (fun _ hk => hk.2) (.int .i64 a0)) (fun _ hk => hk.2) (.slice Ao10 y261.length co10)) (fun _ hk => trivial)⟩, ⟨zf2 BK260.out NB260_264.out NB260_264.out⟩, ⟨by (with_reducible repeat (first | refine blk_drewN ?_ _ | refine blk_drew ?_ | refine blk_alloc ?_ _)); refine blk_put (cs := #[.int .i64 a0, .slice none 0 0]) ?_ 1 _ rfl; (with_reducible repeat (first | refine blk_drewN ?_ _ | refine blk_drew ?_ | refine blk_alloc ?_ _)); refine blk_put (cs := #[.int .i64 0, .slice none 0 0]) ?_ 0 _ rfl; (with_reducible repeat (first | refine blk_drewN ?_ _ | refine blk_drew ?_ | refine blk_alloc ?_ _)); exact BK264.out⟩, ⟨zh HB.out⟩⟩
    case round =>
     clear H'
     try clear c1
     try clear p2
     try clear c3
     try clear c3b0
     try clear c3b1
     try clear c5
     try clear c5b0
     try clear c5b1
     try clear c6
     try clear c6b0
     try clear c6b1
     try clear p6
     try clear c9
     try clear c12
     try clear hcz13_0
     try clear hcz13_1
     try clear hfz13_0
     try clear hfz13_1
     obtain ⟨x15_1, x265001_1, u265001, rfl, HA, HK1, HO_265001, BK260, BK264, HB⟩ := hrel
     cases gk with
     | zero => exact absurd HA.out (by simp [impl_votesOf.l0])
     | succ k1 =>
      have H := HA.out
      clear HA
      simp only [impl_votesOf.l0] at H
      by_cases c14 : x15_1 < (y261.length : Int)
      ·rw [if_pos c14] at H
       have c14b0 := decide_eq_true c14
       clear c14
       replace H := Option.bind_eq_some_iff.mp H
       obtain ⟨t265, A150, H⟩ := H
       replace H : (if 0 ≤ x15_1 then (if x15_1 < (x265001_1.length : Int) then (impl_votesOf.l0 a1 k1 (y261.length : Int) (wrap64 (x15_1 + 1)) a0 (x265001_1.set (x15_1 : Int).toNat t265)) else (none)) else (none)) = some (r1, r2) := H
       have A15 := Aside0.mk A150
       clear A150
       by_cases c16 : 0 ≤ x15_1
       ·rw [if_pos c16] at H
        have c16b0 := decide_eq_true c16
        clear c16
        by_cases c17 : x15_1 < (x265001_1.length : Int)
        ·rw [if_pos c17] at H
         have c17b0 := decide_eq_true c17
         clear c17
         obtain ⟨y266, hy266⟩ : ∃ y_ : List Bool, y_ = (x265001_1.set (x15_1 : Int).toNat t265) := ⟨_, rfl⟩
         rw [← hy266] at H
         have Ny266 := Aside0.mk hy266
         clear hy266
         have H' := Aside0.mk H
         clear H
         try go_wp2
         have n0_ := Aside0.mk (Kd.R_drew HO_265001.out)
         have n1_ := Aside0.mk (blk_drew BK260.out)
         have n2_ := Aside0.mk (blk_drew BK264.out)
         have n3_ := Aside0.mk (below_drew1 HB.out)
         clear HO_265001 BK260 BK264 HB
         have HO_265001 := n0_
         have BK260 := n1_
         have BK264 := n2_
         have HB := n3_
         clear n0_ n1_ n2_ n3_
         refine start_ (n := 8) (S := fun w' => w'.cell? ⟨gb264, 0, none⟩ = some (.int .i64 a0) ∧ w'.cell? ⟨gb264, 1, none⟩ = some (u265001)) (ds := [7]) (tb 8 0) (by kernel_rfl) rfl rfl ⟨(blk_cell BK264.out 0).trans rfl, (blk_cell BK264.out 1).trans rfl⟩ (fun hHeld => ?_); refine with_tabW impl_votesOf.tab5 impl_votesOf.bits5 (fun HT_ HW_ => ?_)
         generalize wr.drew = w19 at HO_265001 BK260 BK264 HB hHeld ⊢
         refine zu (i := 0) (N := some 18) (tb 8 1) rfl rfl HT_ ?_
         refine zu (i := 2) (N := some 20) (tb 8 5) rfl rfl HT_ ?_
         refine zu (i := 3) (N := some 21) (tb 8 13) rfl rfl HT_ ?_
         refine zu (i := 4) (N := some 22) (tb 8 29) rfl rfl HT_ ?_
         refine zt (i := 1) (N := some 19) (tb 8 31) rfl rfl (take_ofW HT_.out HW_.out (by kernel_rfl)) hHeld ?_
         refine one_ (i := 5) (N := some 23) (tb 8 63) rfl rfl (one_of HT_.out (by kernel_rfl)) (by decide) (fun K hK => ?_)
         refine goesF_ eg_ (by rfl) #[.int .i64 x15_1] (by rfl) rfl rfl (by (try simp only [List.map_toArray, List.map_cons, List.map_nil]); first | done | rfl | (simp only [List.length_drop, List.length_take]; rfl)) ?_
         with_reducible refine (hp_.out _ x15_1 t265 (zh HB.out) A15.out).mono ?_
         rintro e w20 ⟨rfl, hb⟩
         refine ⟨_, rfl, ?_⟩
         have n0_ := Aside0.mk (Kd.R_below (zr HO_265001.out) hb)
         have n1_ := Aside0.mk (blk_below (g := gb260) (o := .cells #[.int .i64 0, .slice none 0 0] 61 (0, 0)) (zb BK260.out) hb)
         have n2_ := Aside0.mk (blk_below (g := gb264) (o := .cells #[.int .i64 a0, u265001] 61 (0, 0)) (zb BK264.out) hb)
         have n3_ := Aside0.mk (below_step (zh HB.out) hb)
         clear HO_265001 BK260 BK264 HB
         have HO_265001 := n0_
         have BK260 := n1_
         have BK264 := n2_
         have HB := n3_
         clear n0_ n1_ n2_ n3_
         (try clear hb)
         (try clear hb2)
         (try clear hk)
         (try clear hi)
         have p18 : 0 ≤ (x15_1 : Int) := zk
         have q18 : (x15_1 : Int) < ((x265001_1.length : Int) : Int) := zk
         obtain ⟨go18, co18, eo18, gb18, gl18, cl18, HG18⟩ := Kd.R_form HO_265001.out (by omega)
         (first | cases eo18 | (injection eo18 with ea_ en_ ec_; (first | subst ea_ | (injection ea_ with ea_; subst ea_)); subst ec_; clear en_))
         have GB18 := Aside0.mk gb18
         have GG18 := Aside0.mk HG18
         clear gb18 gl18 HG18
         obtain ⟨hx18_0, hf18_0⟩ := Kd.R_celln false HO_265001.out (x15_1 : Int) p18 q18
         replace p18 := eq_true p18
         replace q18 := eq_true q18
         have HP21 := Kd.R_putn HO_265001.out (x15_1 : Int) t265
         rw [← Ny266.out] at HP21
         have HQ21 := Aside0.mk HP21
         clear HP21
         refine hK.out _ _ ⟨(blk_cell BK264.out 0).trans rfl, (blk_cell BK264.out 1).trans rfl⟩ (fun hHeld => ?_)
         clear hK K
         refine zn1 ?_
         refine zu (i := 6) (N := some 24) (tb 8 127) rfl rfl HT_ ?_
         refine last_ (i := 7) (N := none) (tb 8 255) rfl rfl (one_of HT_.out (by kernel_rfl)) (by decide) (fun K hK => ?_)
         refine skip_ (w1 := ?_) (by rfl) rfl ?_ ?_
         rotate_left
         ·go_simp
          rfl
         refine hK.out _ _ ?_
         clear hK K
         refine done_ (done_of HT_.out (by kernel_rfl)) ?_
         try go_wp2
         go_roundg k1
         case measure => have := HK1.out; omega
         case rel => exact ⟨(wrap64 (x15_1 + 1)), (y266), (.slice (some ⟨go18, 0, none⟩) x265001_1.length co18), zE, H', zO HK1, ⟨zr HQ21.out⟩, ⟨by (with_reducible repeat (first | refine blk_drewN ?_ _ | refine blk_drew ?_ | refine blk_alloc ?_ _)); refine blk_far ?_ (by have h_ := Kd.R_ne HO_265001.out BK260.out (by decide); intro e_; exact h_ (by rw [e_]; rfl)) _; (with_reducible repeat (first | refine blk_drewN ?_ _ | refine blk_drew ?_ | refine blk_alloc ?_ _)); exact BK260.out⟩, ⟨by (with_reducible repeat (first | refine blk_drewN ?_ _ | refine blk_drew ?_ | refine blk_alloc ?_ _)); refine blk_far ?_ (by have h_ := Kd.R_ne HO_265001.out BK264.out (by decide); intro e_; exact h_ (by rw [e_]; rfl)) _; (with_reducible repeat (first | refine blk_drewN ?_ _ | refine blk_drew ?_ | refine blk_alloc ?_ _)); exact BK264.out⟩, ⟨zh HB.out⟩⟩
        ·rw [if_neg c17] at H
         cases H
       ·rw [if_neg c16] at H
        cases H
      ·rw [if_neg c14] at H
       have c14b0 := decide_eq_false c14
       clear c14
       simp only [Option.some.injEq, Prod.mk.injEq] at H
       obtain ⟨rfl, rfl⟩ := H
       have hnb22 := NB264_260.out
       have hnc22 := NB260_264.out
       obtain ⟨hcz23_0, hcz23_1, hfz23_0, hfz23_1⟩ := zC2 BK264
       obtain ⟨hcz24_0, hcz24_1, hfz24_0, hfz24_1⟩ := zC2 BK260
       obtain ⟨Ao25, co25, eo25⟩ := Kd.R_slice HO_265001.out
       subst eo25
       go_wp2
       refine bodyPost_ret (results_cell_row rfl _ _ gb260 61 #[.int .i64 a0, .slice Ao25 x265001_1.length co25] (0, 0) _ rfl (by (with_reducible repeat (first | refine blk_drewN ?_ _ | refine blk_drew ?_ | refine blk_alloc ?_ _)); refine blk_put (cs := #[.int .i64 a0, .slice none 0 0]) ?_ 1 _ rfl; (with_reducible repeat (first | refine blk_drewN ?_ _ | refine blk_drew ?_ | refine blk_alloc ?_ _)); refine blk_put (cs := #[.int .i64 0, .slice none 0 0]) ?_ 0 _ rfl; (with_reducible repeat (first | refine blk_drewN ?_ _ | refine blk_drew ?_ | refine blk_alloc ?_ _)); exact BK260.out) Tryz.underlying61 rfl (by kernel_rfl)) rfl ?_
       exact ⟨_, by first | rfl | (simp [errW_none, errW_some] <;> rfl) | (simp only [← hji4]; first | rfl | (simp [errW_none, errW_some] <;> rfl)) | (simp [*, errW_none, errW_some] <;> rfl), by (with_reducible repeat (first | apply Kd.R_alloc | apply Kd.R_drewN | apply Kd.R_drew)); exact Kd.R_mono (Kd.R_far (p := ⟨gb260, 1, none⟩) (Kd.R_far (p := ⟨gb260, 0, none⟩) (Kd.R_types HO_265001.out BK260.out (by decide)) (fun _ hk => hk.2) (.int .i64 a0)) (fun _ hk => hk.2) (.slice Ao25 x265001_1.length co25)) (fun _ hk => trivial), zh HB.out⟩
   ·rw [if_neg c6] at H
    cases H
  ·rw [if_neg c5] at H
   cases H
 ·rw [if_neg c3] at H
  cases H
end
end Go.Proofs.YtmbkmabpebjboaaGreat.Q
end

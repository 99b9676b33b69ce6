/- Part 2 of the proof of FnExactParsePuzzle: what it leans on (no condition). -/
import Derived.Test.YtdoojmkndmpgdaaDoorKFnExactParsePuzzle1
import Derived.Test.YtdoojmkndmpgdaaDoorProg
import Derived.Shelf.GgClosure.Gives
section
namespace Go.Proofs.YtdoojmkndmpgdaaDoor.Q
open Go.RowKit Go.Proofs.YtdoojmkndmpgdaaDoorW.PrintWords Go.Proofs.YtdoojmkndmpgdaaDoorW.PrintLast Go.Proofs.YtdoojmkndmpgdaaDoorW.PrintMore
attribute [local go_sem] max2_int min2_int max_two min_two max_three min_three max_four min_four
set_option linter.unusedVariables false
set_option linter.unusedSimpArgs false
def errW : Option Int → Value
  | none => .nilIface
  | some c => .iface 91 (.int .i64 c)
theorem errW_none : errW none = .nilIface := rfl
theorem errW_some (c : Int) : errW (some c) = .iface 91 (.int .i64 c) := rfl
theorem info3 : (Tryd.prog.info? 3).map (fun i => (i.zero, i.size, i.bytes)) = some (some (.int .i64 0), 1, 8) := by kernel_rfl
theorem info9 : (Tryd.prog.info? 9).map (fun i => (i.zero, i.size, i.bytes)) = some (some (.string ⟨#[]⟩), 1, 16) := by kernel_rfl
theorem info54 : (Tryd.prog.info? 54).map (fun i => (i.zero, i.size, i.bytes)) = some (some (.agg #[(.int .i64 0), (.int .i64 0), (.int .i64 0)]), 3, 24) := by kernel_rfl
structure S54 where
  f0 : Int
  f1 : Int
  f2 : Int
def z54 : S54 := ⟨(0 : Int), (0 : Int), (0 : Int)⟩
def k54 : Kd S54 := Kd.iso (Kd.pair (Kd.int .i64) (Kd.pair (Kd.int .i64) (Kd.int .i64))) (fun x : S54 => (x.f0, x.f1, x.f2))
theorem k54_open {w : World} {x : S54} {cs : List Value} (h : k54.K w x cs) : cs = [.int .i64 x.f0, .int .i64 x.f1, .int .i64 x.f2] := by
  obtain ⟨_, _, rfl, rfl, ⟨_, _, rfl, rfl, rfl⟩⟩ := h
  exact rfl
theorem k54_openM {w : World} {base : Nat} {ok : Nat → Prop} {x : S54} {cs : List Value} (h : k54.M w base ok x cs) : cs = [.int .i64 x.f0, .int .i64 x.f1, .int .i64 x.f2] := by
  obtain ⟨_, _, rfl, rfl, ⟨_, _, rfl, rfl, rfl⟩⟩ := h
  exact rfl
theorem k54_mk (w : World) (x : S54)  : k54.K w x [.int .i64 x.f0, .int .i64 x.f1, .int .i64 x.f2] := ⟨[.int .i64 x.f0], [.int .i64 x.f1, .int .i64 x.f2], rfl, rfl, ⟨[.int .i64 x.f1], [.int .i64 x.f2], rfl, rfl, rfl⟩⟩
theorem k54_mkM (w : World) (base : Nat) (ok : Nat → Prop) (x : S54)  : k54.M w base ok x [.int .i64 x.f0, .int .i64 x.f1, .int .i64 x.f2] := ⟨[.int .i64 x.f0], [.int .i64 x.f1, .int .i64 x.f2], rfl, rfl, ⟨[.int .i64 x.f1], [.int .i64 x.f2], rfl, rfl, rfl⟩⟩
def rd_T54 (xs : List S54) (i : Int) : S54 := xs.getD i.toNat z54
theorem at_T54 {w : World} {A : Option Addr} {n : Nat} {xs : List S54} (h : Kd.C k54 w A n xs) (i : Int) (h0 : 0 ≤ i) (h1 : i < n) : ∃ ad , A = some ad ∧ w.cell? (ad.add (i.toNat * 3)) = some (.int .i64 (rd_T54 xs i).f0) ∧ w.cell? ⟨(ad.add (i.toNat * 3)).block, (ad.add (i.toNat * 3)).off + 1, none⟩ = some (.int .i64 (rd_T54 xs i).f1) ∧ w.cell? ⟨(ad.add (i.toNat * 3)).block, (ad.add (i.toNat * 3)).off + 2, none⟩ = some (.int .i64 (rd_T54 xs i).f2) := by
  obtain ⟨ad, c, e, _, hK, hc0⟩ := Kd.C_get h z54 i h0 h1
  have hc : ∀ j u, c[j]? = some u → w.cell? (ad.add (i.toNat * 3 + j)) = some u := hc0
  obtain rfl := k54_open hK
  exact ⟨ad, e, hc 0 _ rfl, by rw [← add_field _ _ 1 (by omega)]; exact hc 1 _ rfl, by rw [← add_field _ _ 2 (by omega)]; exact hc 2 _ rfl⟩
theorem zd {w : World} {a b : Nat} : (w.drewN a).drewN b = w.drewN (a + b) := World.drewN_drewN _ _ _
theorem ze {w : World} {a b c : Nat} : (w.drewN (a + b)).drewN c = w.drewN (a + (b + c)) := Eq.trans (World.drewN_drewN _ _ _) (congrArg (World.drewN _) (Nat.add_assoc _ _ _))
theorem zb {P Q : Prop} (h : P) (f : P → Q := by intro h_; (with_reducible repeat (first | refine blk_drewN ?_ _ | refine blk_drew ?_ | refine blk_alloc ?_ _)); exact h_) : Q := f h
theorem zr {P Q : Prop} (h : P) (f : P → Q := by intro h_; (with_reducible repeat (first | apply Kd.R_alloc | apply Kd.R_drewN | apply Kd.R_drew)); exact h_) : Q := f h
theorem zh {P Q : Prop} (h : P) (f : P → Q := by intro h_; repeat (first | (with_reducible first | exact h_ | apply below_alloc | apply pw_below_drewN | apply below_drew1 | refine below_set ?_ (Aside0.out (by with_reducible assumption))) | exact h_)) : Q := f h
def tb (n m : Nat) : Array Bool := ((List.range n).map fun i => m >>> i % 2 == 1).toArray
theorem zu {P : Program} {md : Region.Mode} {ops : Array Oper} {Q : Exit → Act → World → Prop} {S : World → Prop} {ds : List Nat} {T : _} {i : Nat} {N : Option Tmp} {oi : Oper} {v : Value} {fuel : Nat} {l : Array Bool} {a : Act} {w : World} (l' : Array Bool) (hi : ops[i]? = some oi) (hN : oi.dst = N) (HT : Aside0 (rtab md ops = T)) {a' : Act}
    (h : wpAnyLast P md ops Q S ds fuel l' a' w) (hc : anyT T l.toList l'.toList i = true := by kernel_rfl) (hQ : ∀ c a w, Q (.panic c) (a.put oi.dst v) w → Q (.panic c) a w := by exact fun _ _ _ h => h) (hy : Yields P ops oi v a := by refine Or.inl ⟨by rfl, ?_⟩; intro w'; go_simp; with_reducible rfl)
    (ha : a.put N v = a' := by simp only [Act.put, List.setIfInBounds_toArray, List.set_cons_zero, List.set_cons_succ, i64_w, i32_w]; rfl) : wpAnyLast P md ops Q S ds (fuel + 1) l a w := pure_ l' hi hN (any_of HT.out hc) hQ hy ha h
theorem zv {P : Program} {md : Region.Mode} {ops : Array Oper} {Q : Exit → Act → World → Prop} {S : World → Prop} {ds : List Nat} {T : _} {i : Nat} {N : Option Tmp} {oi : Oper} {fuel : Nat} {l : Array Bool} {a : Act} {w : World} (l' : Array Bool) (hi : ops[i]? = some oi) (hN : oi.dst = N) (HT : Aside0 (rtab md ops = T)) {a' : Act}
    (h : wpAnyLast P md ops Q S ds fuel l' a' w) (hc : anyT T l.toList l'.toList i = true := by kernel_rfl) (hQ : ∀ c a w, Q (.panic c) (a.put oi.dst undef) w → Q (.panic c) a w := by exact fun _ _ _ h => h) (hy : Yields P ops oi undef a := by exact Or.inr ⟨by rfl, rfl⟩)
    (ha : a.put N undef = a' := by simp only [Act.put, List.setIfInBounds_toArray, List.set_cons_zero, List.set_cons_succ, i64_w, i32_w]; rfl) : wpAnyLast P md ops Q S ds (fuel + 1) l a w := pure_ l' hi hN (any_of HT.out hc) hQ hy ha h
theorem zk {p : Prop} [Decidable p] (h : decide p = true := by first | (with_reducible assumption) | assumption) : p := of_decide_eq_true h
theorem zc {P Q : Prop} (h : P) (f : P → Q := by intro h_; iterate 9 (try (first | exact h_ | (with_reducible refine Kd.C_alloc ?_ _) | (with_reducible refine Kd.C_drewN ?_ _) | (with_reducible refine Kd.C_drew ?_)))) : Q := f h
theorem zx {w W : World} {a : Addr} {v : Value} (hb : Below w.heap.size w W) (h : w.cell? a = some v) : W.cell? a = some v := (hb.cell (World.block_lt_of_cell? w _ h)).trans h
theorem zl {P : Program} {ops : Array Oper} {Q : Exit → Act → World → Prop} {rest : List Oper} {oi : Oper} {a : Act} {w : World} (N : Tmp) {f : FuncId} {fn : Func} {os_ : Array Operand} {ts : Array TypeId} (hf : P.funcs[f]? = some fn) (args : Array Value) (h : Calls P f args w fun e w' => ∃ v, e = .returned v ∧ wpList P ops Q rest (a.put (some N) v) w') (hd : oi.dst = some N := by rfl) (hg : oi.guard = none := by rfl) (hname : (fn.name == "runtime.NumGoroutine") = false := by kernel_rfl) (hb : fn.body.isSome = true := by rfl)
    (hop : oi.op = .call { callee := .value (.func f), args := os_, argTypes := ts } := by rfl) (hargs : os_.map a.eval = args := by (try simp only [List.map_toArray, List.map_cons, List.map_nil]); first | done | rfl | (simp only [List.length_drop, List.length_take]; rfl)) : wpList P ops Q (oi :: rest) a w := goesL_ (some N) hd hg hf hname hb args hop hargs h
theorem zt {P : Program} {md : Region.Mode} {ops : Array Oper} {Q : Exit → Act → World → Prop} {S : World → Prop} {ds : List Nat} {i : Nat} {N : Option Tmp} {oi : Oper} {v : Value} {fuel : Nat} {l : Array Bool} {a : Act} {w : World} (l' : Array Bool) (hi : ops[i]? = some oi) (hN : oi.dst = N) (hc : takeB md ops ds l l' i = true) (hS : S w) {a' : Act} (h : wpAnyLast P md ops Q S ds fuel l' a' w)
    (hQ : ∀ c a w, Q (.panic c) (a.put oi.dst v) w → Q (.panic c) a w := by exact fun _ _ _ h => h) (hy : YieldsIf P ops S oi v a := by refine Or.inl ⟨by rfl, ?_⟩; intro w' hs_; (try simp only [and_imp] at hs_); (repeat (cases hs_; rename_i hs_)); go_simp; with_reducible rfl) (ha : a.put N v = a' := by simp only [Act.put, List.setIfInBounds_toArray, List.set_cons_zero, List.set_cons_succ, i64_w, i32_w]; rfl) : wpAnyLast P md ops Q S ds (fuel + 1) l a w := take_ l' hi hN hc hQ hy hS ha h
theorem zq {P : Program} {ops : Array Oper} {Q : Exit → Act → World → Prop} {rest : List Oper} {o : Oper} {a : Act} {W : World} (N : Tmp) (cs : Array Value) (t : TypeId) (h : ∀ g, g = W.heap.size → ∀ w1, w1.heap[g]? = some (.cells cs t (0, 0)) → Below W.heap.size W w1 → wpList P ops Q rest (a.put o.dst (.pointer (some ⟨g, 0, none⟩))) w1) (hgd : o.guard = none := by rfl) (hd : o.dst = some N := by rfl)
    (hrun : (execOp a.eval o).run P W = .ok (.value (.pointer (some ⟨W.heap.size, 0, none⟩))) (W.alloc (.cells cs t (0, 0))) := by first | (go_simp; done) | (go_simp; rfl)) : wpList P ops Q (o :: rest) a W := box_event hgd hd hrun h
theorem za1 {P : Prop} {w w' : World} (h1 : P := by first | rfl | (simp; done) | (simp [*]; done)) (h2 : Drawn0 w w' := by repeat (first | exact Drawn0.refl _ | apply Drawn0.step)) : P ∧ Drawn0 w w' := ⟨h1, h2⟩
theorem zp1 {P : Program} {md : Region.Mode} {ops : Array Oper} {Q : Exit → Act → World → Prop} {S : World → Prop} {ds : List Nat} {i : Nat} {N : Option Tmp} {oi : Oper} {v : Value} {fuel : Nat} {l : Array Bool} {a : Act} {w : World} (l' : Array Bool) (hi : ops[i]? = some oi) (hN : oi.dst = N) (hc : anyB md ops l l' i = true) {a' : Act} (h : wpAnyLast P md ops Q S ds fuel l' a' w)
    (hQ : ∀ c a w, Q (.panic c) (a.put oi.dst v) w → Q (.panic c) a w := by exact fun _ _ _ h => h) (hy : Yields P ops oi v a := by refine Or.inl ⟨by rfl, ?_⟩; intro w'; go_simp; with_reducible rfl) (ha : a.put N v = a' := by simp only [Act.put, List.setIfInBounds_toArray, List.set_cons_zero, List.set_cons_succ, i64_w, i32_w]; rfl) : wpAnyLast P md ops Q S ds (fuel + 1) l a w := pure_ l' hi hN hc hQ hy ha h
theorem zn1 {P : Program} {md : Region.Mode} {ops : Array Oper} {Q : Exit → Act → World → Prop} {S : World → Prop} {ds : List Nat} {fuel : Nat} {l : Array Bool} {a a' : Act} {w : World} (h : wpAnyLast P md ops Q S ds fuel l a' w) (ha : a = a' := by show Act.put _ (some _) _ = _; simp only [Act.put, List.setIfInBounds_toArray, List.set_cons_zero, List.set_cons_succ, i64_w, i32_w]; rfl) : wpAnyLast P md ops Q S ds fuel l a w := norm_ ha h
theorem zf1 {P Q N : Prop} (h : P) (n : N) (f : P → N → Q := by intro h_ n_; (with_reducible repeat (first | refine blk_drewN ?_ _ | refine blk_drew ?_ | refine blk_alloc ?_ _)); refine blk_far ?_ n_ _; (with_reducible repeat (first | refine blk_drewN ?_ _ | refine blk_drew ?_ | refine blk_alloc ?_ _)); exact h_) : Q := f h n
theorem zf2 {P Q N M : Prop} (h : P) (n : N) (m : M) (f : P → N → M → Q := by intro h_ n_ m_; (with_reducible repeat (first | refine blk_drewN ?_ _ | refine blk_drew ?_ | refine blk_alloc ?_ _)); refine blk_far ?_ n_ _; (with_reducible repeat (first | refine blk_drewN ?_ _ | refine blk_drew ?_ | refine blk_alloc ?_ _)); refine blk_far ?_ m_ _; (with_reducible repeat (first | refine blk_drewN ?_ _ | refine blk_drew ?_ | refine blk_alloc ?_ _)); exact h_) : Q := f h n m
theorem zf3 {P Q N M K : Prop} (h : P) (n : N) (m : M) (k : K) (f : P → N → M → K → Q := by intro h_ n_ m_ k_; (with_reducible repeat (first | refine blk_drewN ?_ _ | refine blk_drew ?_ | refine blk_alloc ?_ _)); refine blk_far ?_ n_ _; (with_reducible repeat (first | refine blk_drewN ?_ _ | refine blk_drew ?_ | refine blk_alloc ?_ _)); refine blk_far ?_ m_ _; (with_reducible repeat (first | refine blk_drewN ?_ _ | refine blk_drew ?_ | refine blk_alloc ?_ _)); refine blk_far ?_ k_ _; (with_reducible repeat (first | refine blk_drewN ?_ _ | refine blk_drew ?_ | refine blk_alloc ?_ _)); exact h_) : Q := f h n m k
theorem zF : ¬ (false = true) := by decide
theorem zE {p : Prop} (h : p := by first | rfl | (simp; done) | (simp [*]; done)) : p := h
theorem zO {p q : Prop} (h : Aside0 q) (f : q → p := by intro h_; omega) : Aside0 p := ⟨f h.out⟩
theorem zO2 {p q r : Prop} (h : Aside0 q) (h2 : Aside0 r) (f : q → r → p := by intro h_ h2_; omega) : Aside0 p := ⟨f h.out h2.out⟩
theorem zD {w w' : World} (h : Drawn0 w w' := by repeat (first | exact Drawn0.refl _ | apply Drawn0.step)) : Drawn0 w w' := h
theorem zS {P Q : Prop} (h : P) (f : P → Q := by intro h_; (with_reducible repeat (first | apply Kd.S_alloc | apply Kd.S_drewN | apply Kd.S_drew)); exact h_) : Q := f h
theorem zY {α β : Type _} {E : α} {f : α → Option β} {r : Option β} (h : (some E).bind f = r) : ∃ y, Aside0 (y = E) ∧ f y = r := ⟨E, ⟨rfl⟩, h⟩
theorem zW {p q R : Prop} (f : p → q → R) [Decidable p] [Decidable q] (hp : decide p = true := by first | (with_reducible assumption) | assumption) (hq : decide q = true := by first | (with_reducible assumption) | assumption) : R ∧ (p = True) ∧ (q = True) := ⟨f (of_decide_eq_true hp) (of_decide_eq_true hq), eq_true (of_decide_eq_true hp), eq_true (of_decide_eq_true hq)⟩
theorem zG {g : Nat} {w0 w1 W : World} (hg : g = W.heap.size) (h : Aside0 (Below w0.heap.size w0 w1)) (f : Below w0.heap.size w0 w1 → Below w0.heap.size w0 W := by intro h_; repeat (first | (with_reducible first | exact h_ | apply below_alloc | apply pw_below_drewN | apply below_drew1 | refine below_set ?_ (Aside0.out (by with_reducible assumption))) | exact h_)) : Aside0 (w0.heap.size ≤ g) := ⟨by rw [hg]; exact below_size (f h.out)⟩
theorem zH {w0 w1 W W2 : World} (hb : Below W.heap.size W W2) (h : Aside0 (Below w0.heap.size w0 w1)) (f : Below w0.heap.size w0 w1 → Below w0.heap.size w0 W := by intro h_; repeat (first | (with_reducible first | exact h_ | apply below_alloc | apply pw_below_drewN | apply below_drew1 | refine below_set ?_ (Aside0.out (by with_reducible assumption))) | exact h_)) : Aside0 (Below w0.heap.size w0 W2) := ⟨below_step (f h.out) hb⟩
theorem zK {w1 W W2 : World} {g : Nat} {o : Obj} (h : Aside0 (w1.heap[g]? = some o)) (hb : Below W.heap.size W W2) (f : w1.heap[g]? = some o → W.heap[g]? = some o := by intro h_; (with_reducible repeat (first | refine blk_drewN ?_ _ | refine blk_drew ?_ | refine blk_alloc ?_ _)); exact h_) : Aside0 (W2.heap[g]? = some o) := ⟨blk_below (f h.out) hb⟩
theorem zNa {w1 W : World} {g n : Nat} {o : Obj} (hg : n = W.heap.size) (h : Aside0 (w1.heap[g]? = some o)) (f : w1.heap[g]? = some o → W.heap[g]? = some o := by intro h_; (with_reducible repeat (first | refine blk_drewN ?_ _ | refine blk_drew ?_ | refine blk_alloc ?_ _)); exact h_) : Aside0 (g ≠ n) := ⟨by rw [hg]; exact Nat.ne_of_lt (blk_lt (f h.out))⟩
theorem zNb {w1 W : World} {g n : Nat} {o : Obj} (hg : n = W.heap.size) (h : Aside0 (w1.heap[g]? = some o)) (f : w1.heap[g]? = some o → W.heap[g]? = some o := by intro h_; (with_reducible repeat (first | refine blk_drewN ?_ _ | refine blk_drew ?_ | refine blk_alloc ?_ _)); exact h_) : Aside0 (n ≠ g) := ⟨by rw [hg]; exact Nat.ne_of_gt (blk_lt (f h.out))⟩
theorem zC1 {w : World} {g : Nat} {t : TypeId} {a : Value} (h : Aside0 (w.heap[g]? = some (.cells #[a] t (0, 0)))) : w.cell? ⟨g, 0, none⟩ = some a ∧ w.frozen? ⟨g, 0, none⟩ = false := ⟨(blk_cell h.out 0).trans rfl, blk_frozen h.out 0⟩
theorem zC2 {w : World} {g : Nat} {t : TypeId} {a b : Value} (h : Aside0 (w.heap[g]? = some (.cells #[a, b] t (0, 0)))) : w.cell? ⟨g, 0, none⟩ = some a ∧ w.cell? ⟨g, 1, none⟩ = some b ∧ w.frozen? ⟨g, 0, none⟩ = false ∧ w.frozen? ⟨g, 1, none⟩ = false := ⟨(blk_cell h.out 0).trans rfl, (blk_cell h.out 1).trans rfl, blk_frozen h.out 0, blk_frozen h.out 1⟩
theorem zC3 {w : World} {g : Nat} {t : TypeId} {a b c : Value} (h : Aside0 (w.heap[g]? = some (.cells #[a, b, c] t (0, 0)))) : w.cell? ⟨g, 0, none⟩ = some a ∧ w.cell? ⟨g, 1, none⟩ = some b ∧ w.cell? ⟨g, 2, none⟩ = some c ∧ w.frozen? ⟨g, 0, none⟩ = false ∧ w.frozen? ⟨g, 1, none⟩ = false ∧ w.frozen? ⟨g, 2, none⟩ = false := ⟨(blk_cell h.out 0).trans rfl, (blk_cell h.out 1).trans rfl, (blk_cell h.out 2).trans rfl, blk_frozen h.out 0, blk_frozen h.out 1, blk_frozen h.out 2⟩
theorem zQ {α : Type} {d : Kd α} {w W : World} {A : Option Addr} {n : Nat} {xs : List α} (h : d.C w A n xs) (f : d.C w A n xs → d.C W A n xs := by intro h_; repeat (first | exact h_ | (with_reducible refine Kd.C_alloc ?_ _) | (with_reducible refine Kd.C_drewN ?_ _) | (with_reducible refine Kd.C_drew ?_))) : d.C W A n xs := f h
theorem zI {x y j : Int} (h : shr .i64 x y = j) : x / 2 ^ min y.toNat 64 = j ∧ (y ≤ 64 → x / 2 ^ y.toNat = j) := ⟨h, shr_small h⟩
theorem zJ {x y j : Int} (h : shl .i64 x y = j) : IntKind.i64.wrap (x * 2 ^ min y.toNat 64) = j ∧ (y ≤ 64 → IntKind.i64.wrap (x * 2 ^ y.toNat) = j) ∧ wrap64 (x * 2 ^ min y.toNat 64) = j ∧ (y ≤ 64 → wrap64 (x * 2 ^ y.toNat) = j) := ⟨h, shl_small h, (i64_w _).symm.trans h, fun h_ => (i64_w _).symm.trans (shl_small h h_)⟩
theorem zJ1 {y j : Int} (h : shl .i64 1 y = j) : IntKind.i64.wrap (1 * 2 ^ min y.toNat 64) = j ∧ (y ≤ 64 → IntKind.i64.wrap (1 * 2 ^ y.toNat) = j) ∧ IntKind.i64.wrap (2 ^ min y.toNat 64) = j ∧ (y ≤ 64 → IntKind.i64.wrap (2 ^ y.toNat) = j) ∧ wrap64 (1 * 2 ^ min y.toNat 64) = j ∧ (y ≤ 64 → wrap64 (1 * 2 ^ y.toNat) = j) := ⟨(zJ h).1, (zJ h).2.1, by have h_ := (zJ h).1; rw [Int.one_mul] at h_; exact h_, fun hl => by have h_ := (zJ h).2.1 hl; rw [Int.one_mul] at h_; exact h_, (zJ h).2.2.1, (zJ h).2.2.2⟩
end Go.Proofs.YtdoojmkndmpgdaaDoor.Q
end
section
namespace Go.Proofs.YtdoojmkndmpgdaaDoor.Q
open Go.RowKit Go.Proofs.YtdoojmkndmpgdaaDoorW.PrintWords Go.Proofs.YtdoojmkndmpgdaaDoorW.PrintLast Go.Proofs.YtdoojmkndmpgdaaDoorW.PrintMore
set_option linter.unusedVariables false
set_option linter.unusedSimpArgs false
structure VarsOk (w : World) : Prop where
  m : ∃ m, w.cell? ⟨0, 0, none⟩ = some (.int .i64 m)
  s : ∃ t p, w.cell? ⟨1, 0, none⟩ = some (.iface t p)
  r : ∃ t p, w.cell? ⟨2, 0, none⟩ = some (.iface t p)
theorem VarsOk.below {w W : World} (h : VarsOk w) (hb : Below w.heap.size w W) : VarsOk W := by
  obtain ⟨⟨m, hm⟩, ⟨t, p, hs⟩, ⟨t2, p2, hr⟩⟩ := h
  exact ⟨⟨m, (hb.cell (World.block_lt_of_cell? w _ hm)).trans hm⟩, ⟨t, p, (hb.cell (World.block_lt_of_cell? w _ hs)).trans hs⟩, ⟨t2, p2, (hb.cell (World.block_lt_of_cell? w _ hr)).trans hr⟩⟩
end Go.Proofs.YtdoojmkndmpgdaaDoor.Q
end
section
namespace Go.Proofs.YtdoojmkndmpgdaaDoor.Q
open Go.RowKit Go.Proofs.YtdoojmkndmpgdaaDoorW.PrintWords Go.Proofs.YtdoojmkndmpgdaaDoorW.PrintLast Go.Proofs.YtdoojmkndmpgdaaDoorW.PrintMore
attribute [local go_sem] max2_int min2_int max_two min_two max_three min_three max_four min_four
set_option linter.unusedVariables false
set_option linter.unusedSimpArgs false
def spec_l1In.f (a0 : Int) (a1 : Int) (a2 : Int) : Option (Bool) := if a0 ≥ a1 then (some (decide (a0 ≤ a2))) else (some false)
set_option maxHeartbeats 8000000 in
set_option maxRecDepth 100000 in
theorem spec_l1In.calls (a0 : Int) (a1 : Int) (a2 : Int) (r : Bool) (w : World) (h : spec_l1In.f a0 a1 a2 = some r) :
  Calls Tryd.prog 47 #[.int .i64 a0, .int .i64 a1, .int .i64 a2] w fun e w' => e = .returned (.bool r) ∧ Drawn0 w w' := by
 have H : (if a0 ≥ a1 then (some (decide (a0 ≤ a2))) else (some false)) = some r := h
 clear h
 by_cases c4 : a0 ≥ a1
 ·rw [if_pos c4] at H
  have c4b0 := decide_eq_true c4
  clear c4
  obtain rfl := Option.some.inj H
  go_enter Tryd.func47, Tryd.ntmps47
  go_wp2
  go_ret
  exact za1
 rw [if_neg c4] at H
 have c4b0 := decide_eq_false c4
 clear c4
 obtain rfl := Option.some.inj H
 go_enter Tryd.func47, Tryd.ntmps47
 go_wp2
 go_ret
 exact za1
def spec_pzMembers.f (a0 : Int) : Option (Bool) := (spec_l1In.f a0 1 4).bind fun t103 => (some t103)
set_option maxHeartbeats 8000000 in
set_option maxRecDepth 100000 in
theorem spec_pzMembers.calls (a0 : Int) (r : Bool) (w : World) (h : spec_pzMembers.f a0 = some r) :
  Calls Tryd.prog 29 #[.int .i64 a0] w fun e w' => e = .returned (.bool r) ∧ Drawn0 w w' := by
 have H : ((spec_l1In.f a0 1 4).bind fun t103 => (some t103)) = some r := h
 clear h
 replace H := Option.bind_eq_some_iff.mp H
 obtain ⟨t103, A20, H⟩ := H
 have A2 := Aside0.mk A20
 clear A20
 obtain rfl := Option.some.inj H
 go_enter Tryd.func29, Tryd.ntmps29
 go_wp2_with (first | ((with_reducible refine gate_callee (f := 47) rfl ?_); refine zl 4 Tryd.func47 #[.int .i64 a0, .int .i64 1, .int .i64 4] ?_; (with_reducible refine (spec_l1In.calls a0 1 4 t103 _ A2.out).mono ?_); rintro e w' ⟨rfl, ⟨nd, rfl⟩⟩; refine ⟨_, rfl, ?_⟩))
 go_ret
 exact za1
def spec_voAll.f (a0 : Int) : Option (Int) := if 0 ≤ a0 then (some (wrap64 ((shl .i64 1 a0) - 1))) else (none)
set_option maxHeartbeats 8000000 in
set_option maxRecDepth 100000 in
theorem spec_voAll.calls (a0 : Int) (r : Int) (w : World) (h : spec_voAll.f a0 = some r) :
  Calls Tryd.prog 48 #[.int .i64 a0] w fun e w' => e = .returned (.int .i64 r) ∧ Drawn0 w w' := by
 have H : (if 0 ≤ a0 then (some (wrap64 ((shl .i64 1 a0) - 1))) else (none)) = some r := h
 clear h
 by_cases c2 : 0 ≤ a0
 rotate_left
 ·rw [if_neg c2] at H
  cases H
 rw [if_pos c2] at H
 have c2b0 := eq_true c2
 have c2b1 := decide_eq_true c2
 clear c2
 obtain ⟨ji3, hji3⟩ : ∃ j_ : Int, (shl .i64 1 a0) = j_ := ⟨_, rfl⟩
 rw [hji3] at H
 obtain ⟨hji3_, hji3z, hji3u, hji3v, hji3y, hji3x⟩ := zJ1 hji3
 obtain rfl := Option.some.inj H
 go_enter Tryd.func48, Tryd.ntmps48
 go_wp2
 go_ret
 exact ⟨by first | rfl | (simp; done) | (simp only [← hji3] <;> (first | rfl | simp)) | (simp [*]; done), by repeat (first | exact Drawn0.refl _ | apply Drawn0.step)⟩
def spec_l1Split.l0 : Nat → ByteArray → Int → List ByteArray → Int → Int → Option (List ByteArray)
 | 0, _, _, _, _, _ => none
 | k + 1, x0, x1, x5, x6, x7 => if x7 < (x0.size : Int) then (if 0 ≤ x7 then (if (bt x0 x7) = x1 then (if 0 ≤ x6 then (if x6 ≤ x7 then (if x7 ≤ (x0.size : Int) then (if x5.length < 8796093022208 then (spec_l1Split.l0 k x0 x1 (x5 ++ [x0.extract (x6 : Int).toNat (x7 : Int).toNat]) (wrap64 (x7 + 1)) (wrap64 (x7 + 1))) else (none)) else (none)) else (none)) else (none)) else (spec_l1Split.l0 k x0 x1 x5 x6 (wrap64 (x7 + 1)))) else (none)) else (if 0 ≤ x6 then (if x6 ≤ (x0.size : Int) then (if x5.length < 8796093022208 then (some (x5 ++ [x0.extract (x6 : Int).toNat x0.size])) else (none)) else (none)) else (none))
def spec_l1Split.f (k : Nat) (a0 : ByteArray) (a1 : Int) : Option (List ByteArray) := spec_l1Split.l0 k a0 a1 ([] : List ByteArray) 0 0
set_option maxHeartbeats 8000000 in
set_option maxRecDepth 100000 in
theorem spec_l1Split.calls (k : Nat) (a0 : ByteArray) (a1 : Int) (r : List ByteArray) (w : World) (h : spec_l1Split.f k a0 a1 = some r) :
  Calls Tryd.prog 40 #[.string a0, .int .u8 a1] w fun e w' => ∃ v0_ : Value, e = .returned (v0_) ∧ Kd.R Kd.string 9 w' w.heap.size (fun _ => True) v0_ r ∧ Below w.heap.size w w' := by
 have HB := Aside0.mk (Below.refl w.heap.size w)
 have H : (spec_l1Split.l0 k a0 a1 ([] : List ByteArray) 0 0) = some r := h
 clear h
 have H' := Aside0.mk H
 clear H
 go_enter Tryd.func40, Tryd.ntmps40
 go_wp2
 go_loopg [5, 6, 7] k (fun kq v5 v6 v7 w' => ∃ (x5_1 : List ByteArray) (x6_1 : Int) (x7_1 : Int), v6 = .int .i64 x6_1 ∧ v7 = .int .i64 x7_1 ∧ Aside0 (spec_l1Split.l0 kq a0 a1 x5_1 x6_1 x7_1 = some r) ∧ Aside0 (kq ≤ k) ∧ Aside0 (Kd.R Kd.string 9 w' w.heap.size (fun _ => True) v5 x5_1) ∧ Aside0 (Below w.heap.size w w'))
 case atStart => exact ⟨(([] : List ByteArray)), (0), (0), zE, zE, H', ⟨Nat.le_refl _⟩, ⟨by first | exact Kd.R_nil _ _ _ _ _ | exact Kd.N_nil _ _ _ _ _ | exact Kd.V_nil _ _ _ _ _ | exact Kd.Q_nil _ _ _ _ _ | exact Kd.S_nil _ _ _ _ _⟩, ⟨zh HB.out⟩⟩
 case round =>
  clear H'
  try clear p2
  obtain ⟨x5_1, x6_1, x7_1, rfl, rfl, HA, HK1, HO_5, HB⟩ := hrel
  cases gk with
  | zero => exact absurd HA.out (by simp [spec_l1Split.l0])
  | succ k1 =>
   have H := HA.out
   clear HA
   simp only [spec_l1Split.l0] at H
   by_cases c3 : x7_1 < (a0.size : Int)
   rotate_left
   ·rw [if_neg c3] at H
    have c3b0 := decide_eq_false c3
    clear c3
    by_cases c12 : 0 ≤ x6_1
    rotate_left
    ·rw [if_neg c12] at H
     cases H
    rw [if_pos c12] at H
    have c12b0 := eq_true c12
    have c12b1 := decide_eq_true c12
    clear c12
    by_cases c13 : x6_1 ≤ (a0.size : Int)
    rotate_left
    ·rw [if_neg c13] at H
     cases H
    rw [if_pos c13] at H
    have c13b0 := eq_true c13
    have c13b1 := decide_eq_true c13
    clear c13
    by_cases c14 : x5_1.length < 8796093022208
    rotate_left
    ·rw [if_neg c14] at H
     cases H
    rw [if_pos c14] at H
    have LMc14 := Aside0.mk c14
    clear c14
    obtain ⟨y236, hy236⟩ : ∃ y_ : List ByteArray, y_ = (x5_1 ++ [a0.extract (x6_1 : Int).toNat a0.size]) := ⟨_, rfl⟩
    rw [← hy236] at H
    have Ny236 := Aside0.mk hy236
    clear hy236
    obtain rfl := Option.some.inj H
    go_wp2_with (first | ((with_reducible refine gate_builtin (b := .append) (xs := #[.tmp 28, .tmp 32]) rfl ?_); at_builtin; refine Kd.R_append Kd.string (w0 := w) w.heap.size rfl (.tmp 28) (.tmp 32) 47 9 (.string ⟨#[]⟩) 16 rfl Tryd.underlying47 info9 rfl (by decide) (by omega) u5 x5_1 (a0.extract (x6_1 : Int).toNat a0.size) [.string (a0.extract (x6_1 : Int).toNat a0.size)] (fun _ => True) (fun _ => False) rfl rfl ?aP (fun _ hk => hk.elim) ?aF ?aO ?aB ?aS ?aL ?_; (case aP => exact rfl); (case aB => exact (zh HB.out)); (case aF => exact (fun _ _ => trivial)); (case aO => exact (zr HO_5.out)); (case aS => exact (below_size (zh HB.out))); (case aL => have := LMc14.out; omega); intro v237 w15 ho hb hg hat; rw [← Ny236.out] at ho; have HO238 := Aside0.mk (ho); replace HB := Aside0.mk (hb); clear HO_5 ho hb hg hat))
    go_ret
    exact ⟨_, by first | rfl | (simp [*, errW_none, errW_some] <;> rfl), by (with_reducible repeat (first | apply Kd.R_alloc | apply Kd.R_drewN | apply Kd.R_drew)); exact HO238.out, zh HB.out⟩
   rw [if_pos c3] at H
   have c3b0 := decide_eq_true c3
   clear c3
   by_cases c4 : 0 ≤ x7_1
   rotate_left
   ·rw [if_neg c4] at H
    cases H
   rw [if_pos c4] at H
   have c4b0 := decide_eq_true c4
   clear c4
   by_cases c6 : (bt a0 x7_1) = a1
   rotate_left
   ·rw [if_neg c6] at H
    have c6b0 := beq_eq_false_iff_ne.mpr c6
    have c6b1 := bne_iff_ne.mpr c6
    have H' := Aside0.mk H
    clear H
    have p5 : 0 ≤ (x7_1 : Int) := zk
    have q5 : x7_1 < (a0.size : Int) := zk
    have hx5 := bt_at a0 x7_1
    replace p5 := eq_true p5
    replace q5 := eq_true q5
    go_wp2
    go_roundg k1
    case measure => have := HK1.out; omega
    case rel => exact ⟨(x5_1), (x6_1), (wrap64 (x7_1 + 1)), zE, zE, H', zO HK1, ⟨zr HO_5.out⟩, ⟨zh HB.out⟩⟩
   rw [if_pos c6] at H
   have c6b0 := beq_iff_eq.mpr c6
   have c6b1 := bne_eq_false_iff_eq.mpr c6
   clear c6
   by_cases c7 : 0 ≤ x6_1
   rotate_left
   ·rw [if_neg c7] at H
    cases H
   rw [if_pos c7] at H
   have c7b0 := eq_true c7
   have c7b1 := decide_eq_true c7
   clear c7
   by_cases c8 : x6_1 ≤ x7_1
   rotate_left
   ·rw [if_neg c8] at H
    cases H
   rw [if_pos c8] at H
   have c8b0 := eq_true c8
   have c8b1 := decide_eq_true c8
   clear c8
   by_cases c9 : x7_1 ≤ (a0.size : Int)
   rotate_left
   ·rw [if_neg c9] at H
    cases H
   rw [if_pos c9] at H
   have c9b0 := eq_true c9
   have c9b1 := decide_eq_true c9
   clear c9
   by_cases c10 : x5_1.length < 8796093022208
   rotate_left
   ·rw [if_neg c10] at H
    cases H
   rw [if_pos c10] at H
   have LMc10 := Aside0.mk c10
   clear c10
   obtain ⟨y233, hy233⟩ : ∃ y_ : List ByteArray, y_ = (x5_1 ++ [a0.extract (x6_1 : Int).toNat (x7_1 : Int).toNat]) := ⟨_, rfl⟩
   rw [← hy233] at H
   have Ny233 := Aside0.mk hy233
   clear hy233
   have H' := Aside0.mk H
   clear H
   have p5 : 0 ≤ (x7_1 : Int) := zk
   have q5 : x7_1 < (a0.size : Int) := zk
   have hx5 := bt_at a0 x7_1
   replace p5 := eq_true p5
   replace q5 := eq_true q5
   go_wp2_with (first | ((with_reducible refine gate_builtin (b := .append) (xs := #[.tmp 19, .tmp 24]) rfl ?_); at_builtin; refine Kd.R_append Kd.string (w0 := w) w.heap.size rfl (.tmp 19) (.tmp 24) 47 9 (.string ⟨#[]⟩) 16 rfl Tryd.underlying47 info9 rfl (by decide) (by omega) u5 x5_1 (a0.extract (x6_1 : Int).toNat (x7_1 : Int).toNat) [.string (a0.extract (x6_1 : Int).toNat (x7_1 : Int).toNat)] (fun _ => True) (fun _ => False) rfl rfl ?aP (fun _ hk => hk.elim) ?aF ?aO ?aB ?aS ?aL ?_; (case aP => exact rfl); (case aB => exact (zh HB.out)); (case aF => exact (fun _ _ => trivial)); (case aO => exact (zr HO_5.out)); (case aS => exact (below_size (zh HB.out))); (case aL => have := LMc10.out; omega); intro v234 w11 ho hb hg hat; rw [← Ny233.out] at ho; have HO235 := Aside0.mk (ho); replace HB := Aside0.mk (hb); clear HO_5 ho hb hg hat))
   go_roundg k1
   case measure => have := HK1.out; omega
   case rel => exact ⟨(y233), (wrap64 (x7_1 + 1)), (wrap64 (x7_1 + 1)), zE, zE, H', zO HK1, ⟨zr HO235.out⟩, ⟨zh HB.out⟩⟩
mutual
def spec_l1Read.j0 : Nat → ByteArray → Bool → Option (Int)
 | 0, _, _ => none
 | k + 1, x0, x18 => if x18 = true then (some (-1)) else (spec_l1Read.l0 k x0 0 0)
def spec_l1Read.l0 : Nat → ByteArray → Int → Int → Option (Int)
 | 0, _, _, _ => none
 | k + 1, x0, x3, x4 => if x4 < (x0.size : Int) then (if 0 ≤ x4 then (if (bt x0 x4) < 48 then (some (-1)) else (if (bt x0 x4) > 57 then (some (-1)) else (spec_l1Read.l0 k x0 (wrap64 ((wrap64 (10 * x3)) + (((bt x0 x4) - 48) % 256))) (wrap64 (x4 + 1))))) else (none)) else (some x3)
end
def spec_l1Read.f (k : Nat) (a0 : ByteArray) : Option (Int) := (spec_l1In.f (a0.size : Int) 1 6).bind fun t239 => (if t239 = true then (if 0 < (a0.size : Int) then (if (bt a0 0) = 48 then (spec_l1Read.j0 k a0 (decide ((a0.size : Int) > 1))) else (spec_l1Read.j0 k a0 false)) else (none)) else (spec_l1Read.j0 k a0 true))
theorem spec_l1Read.mono_l : ∀ k, (∀ y0 y1, LeO (spec_l1Read.j0 k y0 y1) (spec_l1Read.j0 (k + 1) y0 y1)) ∧ (∀ y0 y1 y2, LeO (spec_l1Read.l0 k y0 y1 y2) (spec_l1Read.l0 (k + 1) y0 y1 y2))
 | 0 => ⟨fun _ _ r h => by simp [spec_l1Read.j0] at h, fun _ _ _ r h => by simp [spec_l1Read.l0] at h⟩
 | k + 1 => by
  obtain ⟨ih0, ih1⟩ := spec_l1Read.mono_l k
  refine ⟨?_, ?_⟩
  ·intro y0 y1
   unfold spec_l1Read.j0
   repeat' first
   | (with_reducible exact ih0 _ _)
   | (with_reducible exact ih1 _ _ _)
   | (with_reducible exact LeO.refl _)
   | (with_reducible exact LeO.none _)
   | (with_reducible refine LeO.ite ?_ ?_)
   | (with_reducible refine LeO.bind ?_ (fun _ => ?_))
   | exact ih0 _ _
   | exact ih1 _ _ _
   | exact LeO.none _
   | refine LeO.ite ?_ ?_
   | refine LeO.bind ?_ (fun _ => ?_)
  ·intro y0 y1 y2
   unfold spec_l1Read.l0
   repeat' first
   | (with_reducible exact ih0 _ _)
   | (with_reducible exact ih1 _ _ _)
   | (with_reducible exact LeO.refl _)
   | (with_reducible exact LeO.none _)
   | (with_reducible refine LeO.ite ?_ ?_)
   | (with_reducible refine LeO.bind ?_ (fun _ => ?_))
   | exact ih0 _ _
   | exact ih1 _ _ _
   | exact LeO.none _
   | refine LeO.ite ?_ ?_
   | refine LeO.bind ?_ (fun _ => ?_)
theorem spec_l1Read.mono : ∀ a0 k, LeO (spec_l1Read.f k a0) (spec_l1Read.f (k + 1) a0) := by
 intro a0 k
 obtain ⟨ih0, ih1⟩ := spec_l1Read.mono_l k
 unfold spec_l1Read.f
 repeat' first
   | (with_reducible exact ih0 _ _)
   | (with_reducible exact ih1 _ _ _)
   | (with_reducible exact LeO.refl _)
   | (with_reducible exact LeO.none _)
   | (with_reducible refine LeO.ite ?_ ?_)
   | (with_reducible refine LeO.bind ?_ (fun _ => ?_))
   | exact ih0 _ _
   | exact ih1 _ _ _
   | exact LeO.none _
   | refine LeO.ite ?_ ?_
   | refine LeO.bind ?_ (fun _ => ?_)
set_option maxHeartbeats 8000000 in
set_option maxRecDepth 100000 in
theorem spec_l1Read.calls (k : Nat) (a0 : ByteArray) (r : Int) (w : World) (h : spec_l1Read.f k a0 = some r) :
  Calls Tryd.prog 41 #[.string a0] w fun e w' => e = .returned (.int .i64 r) ∧ Drawn0 w w' := by
 have H : ((spec_l1In.f (a0.size : Int) 1 6).bind fun t239 => (if t239 = true then (if 0 < (a0.size : Int) then (if (bt a0 0) = 48 then (spec_l1Read.j0 k a0 (decide ((a0.size : Int) > 1))) else (spec_l1Read.j0 k a0 false)) else (none)) else (spec_l1Read.j0 k a0 true))) = some r := h
 clear h
 have HC2 := Aside0.mk H
 clear H
 go_enter Tryd.func41, Tryd.ntmps41
 go_upto_region 1 with (fail)
 go_cut [18] (fun v18 wc => ∃ (kq : Nat) (x18_1 : Bool), v18 = .bool x18_1 ∧ Aside0 (spec_l1Read.j0 kq a0 x18_1 = some r) ∧ Aside0 (kq ≤ k) ∧ Drawn0 w wc)
 case first =>
  have H := HC2.out
  clear HC2
  replace H := Option.bind_eq_some_iff.mp H
  obtain ⟨t239, A30, H⟩ := H
  have A3 := Aside0.mk A30
  clear A30
  by_cases c4 : t239 = true
  ·subst c4
   rw [if_pos rfl] at H
   by_cases c5 : 0 < (a0.size : Int)
   ·rw [if_pos c5] at H
    have c5b0 := decide_eq_true c5
    have c5b1 : decide (0 < a0.size) = true := decide_eq_true (by omega)
    clear c5
    (first | rw [c5b0] | (simp only [i64_w, i32_w]; rw [c5b0]) | skip)
    by_cases c7 : (bt a0 0) = 48
    ·rw [if_pos c7] at H
     have c7b0 := beq_iff_eq.mpr c7
     have c7b1 := bne_eq_false_iff_eq.mpr c7
     clear c7
     have H' := Aside0.mk H
     clear H
     go_wp2_with (first | ((with_reducible refine gate_callee (f := 47) rfl ?_); refine zl 7 Tryd.func47 #[.int .i64 (a0.size : Int), .int .i64 1, .int .i64 6] ?_; (with_reducible refine (spec_l1In.calls (a0.size : Int) 1 6 true _ A3.out).mono ?_); rintro e w' ⟨rfl, ⟨nd, rfl⟩⟩; refine ⟨_, rfl, ?_⟩; have p6 : 0 ≤ (0 : Int) := (by omega); have q6 : 0 < a0.size := (by have : (0 : Int) < (a0.size : Int) := zk; omega); have hx6 : ∀ h : 0 < a0.size, ((a0[0]'h).toNat : Int) = bt a0 0 := bt_at a0 0; clear p6; have qi6 : (0 < (a0.size : Int)) = True := eq_true (zk); replace q6 := eq_true q6))
     go_meet
     case rel => exact ⟨_, (decide ((a0.size : Int) > 1)), zE, H', ⟨by first | omega | exact Nat.le_refl _⟩, zD⟩
    ·rw [if_neg c7] at H
     have c7b0 := beq_eq_false_iff_ne.mpr c7
     have c7b1 := bne_iff_ne.mpr c7
     have H' := Aside0.mk H
     clear H
     go_wp2_with (first | ((with_reducible refine gate_callee (f := 47) rfl ?_); refine zl 7 Tryd.func47 #[.int .i64 (a0.size : Int), .int .i64 1, .int .i64 6] ?_; (with_reducible refine (spec_l1In.calls (a0.size : Int) 1 6 true _ A3.out).mono ?_); rintro e w' ⟨rfl, ⟨nd, rfl⟩⟩; refine ⟨_, rfl, ?_⟩; have p6 : 0 ≤ (0 : Int) := (by omega); have q6 : 0 < a0.size := (by have : (0 : Int) < (a0.size : Int) := zk; omega); have hx6 : ∀ h : 0 < a0.size, ((a0[0]'h).toNat : Int) = bt a0 0 := bt_at a0 0; clear p6; have qi6 : (0 < (a0.size : Int)) = True := eq_true (zk); replace q6 := eq_true q6))
     go_meet
     case rel => exact ⟨_, (false), zE, H', ⟨by first | omega | exact Nat.le_refl _⟩, zD⟩
   ·rw [if_neg c5] at H
    cases H
  ·replace c4 := Bool.eq_false_iff.mpr c4
   subst c4
   rw [if_neg zF] at H
   have H' := Aside0.mk H
   clear H
   go_wp2_with (first | ((with_reducible refine gate_callee (f := 47) rfl ?_); refine zl 7 Tryd.func47 #[.int .i64 (a0.size : Int), .int .i64 1, .int .i64 6] ?_; (with_reducible refine (spec_l1In.calls (a0.size : Int) 1 6 false _ A3.out).mono ?_); rintro e w' ⟨rfl, ⟨nd, rfl⟩⟩; refine ⟨_, rfl, ?_⟩))
   go_meet
   case rel => exact ⟨_, (true), zE, H', ⟨by first | omega | exact Nat.le_refl _⟩, zD⟩
 case rest =>
  clear HC2
  try clear p2
  try clear c4
  try clear c5
  try clear c5b0
  try clear c5b1
  try clear p6
  try clear q6
  try clear hx6
  try clear qi6
  try clear c7
  try clear c7b0
  try clear c7b1
  try clear p6
  try clear q6
  obtain ⟨kq, x18_1, rfl, HA, HJ1, ⟨mc1, rfl⟩⟩ := hcut
  cases kq with
  | zero => exact absurd HA.out (by simp [spec_l1Read.j0])
  | succ kj1 =>
   have H := HA.out
   clear HA
   simp only [spec_l1Read.j0] at H
   by_cases c8 : x18_1 = true
   ·subst c8
    rw [if_pos rfl] at H
    obtain rfl := Option.some.inj H
    go_wp2
    go_ret
    exact za1
   replace c8 := Bool.eq_false_iff.mpr c8
   subst c8
   rw [if_neg zF] at H
   have H' := Aside0.mk H
   clear H
   go_wp2
   go_loopg [3, 4] kj1 (fun kq v3 v4 w' => ∃ (x3_2 : Int) (x4_2 : Int), v3 = .int .i64 x3_2 ∧ v4 = .int .i64 x4_2 ∧ Aside0 (spec_l1Read.l0 kq a0 x3_2 x4_2 = some r) ∧ Aside0 (kq ≤ kj1) ∧ Drawn0 w w')
   case atStart => exact ⟨(0), (0), zE, zE, H', ⟨Nat.le_refl _⟩, zD⟩
   case round =>
    clear H'
    try clear c1
    try clear p2
    try clear c4
    try clear c5
    try clear c5b0
    try clear c5b1
    try clear p6
    try clear q6
    try clear hx6
    try clear qi6
    try clear c7
    try clear c7b0
    try clear c7b1
    try clear c8
    try clear p2
    try clear p6
    try clear q6
    obtain ⟨x3_2, x4_2, rfl, rfl, HA, HK2, ⟨m2, rfl⟩⟩ := hrel
    cases gk with
    | zero => exact absurd HA.out (by simp [spec_l1Read.l0])
    | succ k2 =>
     have H := HA.out
     clear HA
     simp only [spec_l1Read.l0] at H
     by_cases c9 : x4_2 < (a0.size : Int)
     rotate_left
     ·rw [if_neg c9] at H
      have c9b0 := decide_eq_false c9
      clear c9
      obtain rfl := Option.some.inj H
      go_wp2
      go_ret
      exact za1
     rw [if_pos c9] at H
     have c9b0 := decide_eq_true c9
     clear c9
     by_cases c10 : 0 ≤ x4_2
     rotate_left
     ·rw [if_neg c10] at H
      cases H
     rw [if_pos c10] at H
     have c10b0 := decide_eq_true c10
     clear c10
     by_cases c12 : (bt a0 x4_2) < 48
     ·rw [if_pos c12] at H
      have c12b0 := decide_eq_true c12
      clear c12
      obtain rfl := Option.some.inj H
      have p11 : 0 ≤ (x4_2 : Int) := zk
      have q11 : x4_2 < (a0.size : Int) := zk
      have hx11 := bt_at a0 x4_2
      replace p11 := eq_true p11
      replace q11 := eq_true q11
      go_wp2
      go_ret
      exact za1
     rw [if_neg c12] at H
     have c12b0 := decide_eq_false c12
     clear c12
     by_cases c14 : (bt a0 x4_2) > 57
     ·rw [if_pos c14] at H
      have c14b0 := decide_eq_true c14
      clear c14
      obtain rfl := Option.some.inj H
      have p11 : 0 ≤ (x4_2 : Int) := zk
      have q11 : x4_2 < (a0.size : Int) := zk
      have hx11 := bt_at a0 x4_2
      replace p11 := eq_true p11
      replace q11 := eq_true q11
      have p13 : 0 ≤ (x4_2 : Int) := zk
      have q13 : x4_2 < (a0.size : Int) := zk
      have hx13 := bt_at a0 x4_2
      replace p13 := eq_true p13
      replace q13 := eq_true q13
      go_wp2
      go_ret
      exact za1
     rw [if_neg c14] at H
     have c14b0 := decide_eq_false c14
     clear c14
     have H' := Aside0.mk H
     clear H
     have p11 : 0 ≤ (x4_2 : Int) := zk
     have q11 : x4_2 < (a0.size : Int) := zk
     have hx11 := bt_at a0 x4_2
     replace p11 := eq_true p11
     replace q11 := eq_true q11
     have p13 : 0 ≤ (x4_2 : Int) := zk
     have q13 : x4_2 < (a0.size : Int) := zk
     have hx13 := bt_at a0 x4_2
     replace p13 := eq_true p13
     replace q13 := eq_true q13
     have p15 : 0 ≤ (x4_2 : Int) := zk
     have q15 : x4_2 < (a0.size : Int) := zk
     have hx15 := bt_at a0 x4_2
     replace p15 := eq_true p15
     replace q15 := eq_true q15
     go_wp2
     go_roundg k2
     case measure => have := HJ1.out; have := HK2.out; omega
     case rel => exact ⟨(wrap64 ((wrap64 (10 * x3_2)) + (((bt a0 x4_2) - 48) % 256))), (wrap64 (x4_2 + 1)), zE, zE, H', zO2 HJ1 HK2, zD⟩
def spec_pzClue.f (a0 : Int) (a1_0 : Int) (a1_1 : Int) (a1_2 : Int) : Option (Bool) := if a1_0 = 0 then ((spec_voAll.f a0).bind fun t105 => ((spec_l1In.f a1_1 0 t105).bind fun t106 => (if t106 = true then ((spec_l1In.f a1_2 0 1).bind fun t107 => (some t107)) else (some false)))) else (if a1_0 = 1 then ((spec_l1In.f a1_1 1 15).bind fun t108 => (if t108 = true then (some (a1_2 == 0)) else (some false))) else (if a1_0 = 2 then ((spec_l1In.f a1_1 0 (wrap64 (a0 - 1))).bind fun t109 => (if t109 = true then ((spec_l1In.f a1_2 0 1).bind fun t110 => (some t110)) else (some false))) else (if a1_0 = 3 then ((spec_l1In.f a1_1 0 (wrap64 (a0 - 1))).bind fun t111 => (if t111 = true then ((spec_l1In.f a1_2 0 8).bind fun t112 => (some t112)) else (some false))) else (if a1_0 = 4 then ((spec_l1In.f a1_1 0 1).bind fun t113 => (if t113 = true then (some (a1_2 == 0)) else (some false))) else (if a1_0 = 5 then ((spec_l1In.f a1_1 0 1).bind fun t114 => (if t114 = true then (some (a1_2 == 0)) else (some false))) else (some false))))))
set_option maxHeartbeats 8000000 in
set_option maxRecDepth 100000 in
theorem spec_pzClue.calls (a0 : Int) (a1_0 : Int) (a1_1 : Int) (a1_2 : Int) (r : Bool) (w : World) (h : spec_pzClue.f a0 a1_0 a1_1 a1_2 = some r) :
  Calls Tryd.prog 30 #[.int .i64 a0, .agg #[.int .i64 a1_0, .int .i64 a1_1, .int .i64 a1_2]] w fun e w' => e = .returned (.bool r) ∧ Below w.heap.size w w' := by
 have H := h
 clear h
 unfold spec_pzClue.f at H
 have A := Aside0.mk True.intro
 have B := Aside0.mk True.intro
 have C := Aside0.mk True.intro
 have HB := Aside0.mk (Below.refl w.heap.size w)
 have hu72 := Tryd.underlying54
 by_cases c3 : a1_0 = 0
 ·rw [if_pos c3] at H
  have c3b0 := beq_iff_eq.mpr c3
  have c3b1 := bne_eq_false_iff_eq.mpr c3
  clear c3
  replace H := Option.bind_eq_some_iff.mp H
  obtain ⟨t105, A40, H⟩ := H
  have A4 := Aside0.mk A40
  clear A40
  replace H := Option.bind_eq_some_iff.mp H
  obtain ⟨t106, A50, H⟩ := H
  have A5 := Aside0.mk A50
  clear A50
  by_cases c6 : t106 = true
  rotate_left
  ·replace c6 := Bool.eq_false_iff.mpr c6
   subst c6
   rw [if_neg zF] at H
   obtain rfl := Option.some.inj H
   go_enter Tryd.func30, Tryd.ntmps30
   go_wp2_with (first | ((with_reducible refine gate_dst (N := 3) rfl ?_); refine box_event ?hg (N := 3) ?hd (cs := #[.int .i64 a1_0, .int .i64 a1_1, .int .i64 a1_2]) (t := 54) ?hr ?_; (case hd => rfl); (case hg => rfl); (case hr => first | (go_simp; done) | (go_simp; rfl)); intro gb104 hg w10 hbox hb; have GW104 := zG hg HB; replace HB := zH hb HB; have BK104 := Aside0.mk hbox; have GE104 := GW104; clear hb hbox hg; obtain ⟨hcz11_0, hcz11_1, hcz11_2, hfz11_0, hfz11_1, hfz11_2⟩ := zC3 BK104) | (go_at_call 48; (with_reducible refine (spec_voAll.calls a0 t105 _ A4.out).mono ?_); rintro e w' ⟨rfl, ⟨nd, rfl⟩⟩; (try first | exact ⟨rfl, _, zd⟩ | exact ⟨rfl, _, ze⟩)) | (go_at_call 47; (with_reducible refine (spec_l1In.calls a1_1 0 t105 false _ A5.out).mono ?_); rintro e w' ⟨rfl, ⟨nd, rfl⟩⟩; (try first | exact ⟨rfl, _, zd⟩ | exact ⟨rfl, _, ze⟩)))
   repeat (go_quiet (first | (go_at_call 48; (with_reducible refine (spec_voAll.calls a0 t105 _ A4.out).mono ?_); rintro e w' ⟨rfl, ⟨nd, rfl⟩⟩; (try first | exact ⟨rfl, _, zd⟩ | exact ⟨rfl, _, ze⟩)) | (go_at_call 47; (with_reducible refine (spec_l1In.calls a1_1 0 t105 false _ A5.out).mono ?_); rintro e w' ⟨rfl, ⟨nd, rfl⟩⟩; (try first | exact ⟨rfl, _, zd⟩ | exact ⟨rfl, _, ze⟩))); try go_wp2_with (first | (go_at_call 48; (with_reducible refine (spec_voAll.calls a0 t105 _ A4.out).mono ?_); rintro e w' ⟨rfl, ⟨nd, rfl⟩⟩; (try first | exact ⟨rfl, _, zd⟩ | exact ⟨rfl, _, ze⟩)) | (go_at_call 47; (with_reducible refine (spec_l1In.calls a1_1 0 t105 false _ A5.out).mono ?_); rintro e w' ⟨rfl, ⟨nd, rfl⟩⟩; (try first | exact ⟨rfl, _, zd⟩ | exact ⟨rfl, _, ze⟩))))
   go_ret
   exact ⟨by first | rfl | (simp [*, errW_none, errW_some] <;> rfl), by repeat (first | (with_reducible first | exact HB.out | apply below_alloc | apply pw_below_drewN | apply below_drew1 | refine below_set ?_ GE104.out) | exact HB.out)⟩
  subst c6
  rw [if_pos rfl] at H
  replace H := Option.bind_eq_some_iff.mp H
  obtain ⟨t107, A70, H⟩ := H
  have A7 := Aside0.mk A70
  clear A70
  obtain rfl := Option.some.inj H
  go_enter Tryd.func30, Tryd.ntmps30
  go_wp2_with (first | ((with_reducible refine gate_dst (N := 3) rfl ?_); refine box_event ?hg (N := 3) ?hd (cs := #[.int .i64 a1_0, .int .i64 a1_1, .int .i64 a1_2]) (t := 54) ?hr ?_; (case hd => rfl); (case hg => rfl); (case hr => first | (go_simp; done) | (go_simp; rfl)); intro gb104 hg w8 hbox hb; have GW104 := zG hg HB; replace HB := zH hb HB; have BK104 := Aside0.mk hbox; have GE104 := GW104; clear hb hbox hg; obtain ⟨hcz9_0, hcz9_1, hcz9_2, hfz9_0, hfz9_1, hfz9_2⟩ := zC3 BK104) | (go_at_call 48; (with_reducible refine (spec_voAll.calls a0 t105 _ A4.out).mono ?_); rintro e w' ⟨rfl, ⟨nd, rfl⟩⟩; (try first | exact ⟨rfl, _, zd⟩ | exact ⟨rfl, _, ze⟩)) | (go_at_call 47; (with_reducible refine (spec_l1In.calls a1_1 0 t105 true _ A5.out).mono ?_); rintro e w' ⟨rfl, ⟨nd, rfl⟩⟩; (try first | exact ⟨rfl, _, zd⟩ | exact ⟨rfl, _, ze⟩)) | (go_at_call 47; (with_reducible refine (spec_l1In.calls a1_2 0 1 t107 _ A7.out).mono ?_); rintro e w' ⟨rfl, ⟨nd, rfl⟩⟩; (try first | exact ⟨rfl, _, zd⟩ | exact ⟨rfl, _, ze⟩)))
  repeat (go_quiet (first | (go_at_call 48; (with_reducible refine (spec_voAll.calls a0 t105 _ A4.out).mono ?_); rintro e w' ⟨rfl, ⟨nd, rfl⟩⟩; (try first | exact ⟨rfl, _, zd⟩ | exact ⟨rfl, _, ze⟩)) | (go_at_call 47; (with_reducible refine (spec_l1In.calls a1_1 0 t105 true _ A5.out).mono ?_); rintro e w' ⟨rfl, ⟨nd, rfl⟩⟩; (try first | exact ⟨rfl, _, zd⟩ | exact ⟨rfl, _, ze⟩)) | (go_at_call 47; (with_reducible refine (spec_l1In.calls a1_2 0 1 t107 _ A7.out).mono ?_); rintro e w' ⟨rfl, ⟨nd, rfl⟩⟩; (try first | exact ⟨rfl, _, zd⟩ | exact ⟨rfl, _, ze⟩))); try go_wp2_with (first | (go_at_call 48; (with_reducible refine (spec_voAll.calls a0 t105 _ A4.out).mono ?_); rintro e w' ⟨rfl, ⟨nd, rfl⟩⟩; (try first | exact ⟨rfl, _, zd⟩ | exact ⟨rfl, _, ze⟩)) | (go_at_call 47; (with_reducible refine (spec_l1In.calls a1_1 0 t105 true _ A5.out).mono ?_); rintro e w' ⟨rfl, ⟨nd, rfl⟩⟩; (try first | exact ⟨rfl, _, zd⟩ | exact ⟨rfl, _, ze⟩)) | (go_at_call 47; (with_reducible refine (spec_l1In.calls a1_2 0 1 t107 _ A7.out).mono ?_); rintro e w' ⟨rfl, ⟨nd, rfl⟩⟩; (try first | exact ⟨rfl, _, zd⟩ | exact ⟨rfl, _, ze⟩))))
  go_ret
  exact ⟨by first | rfl | (simp [*, errW_none, errW_some] <;> rfl), by repeat (first | (with_reducible first | exact HB.out | apply below_alloc | apply pw_below_drewN | apply below_drew1 | refine below_set ?_ GE104.out) | exact HB.out)⟩
 rw [if_neg c3] at H
 rcases (show a1_0 = 1 ∨ a1_0 = 2 ∨ a1_0 = 3 ∨ a1_0 = 4 ∨ a1_0 = 5 ∨ (¬ a1_0 = 1 ∧ ¬ a1_0 = 2 ∧ ¬ a1_0 = 3 ∧ ¬ a1_0 = 4 ∧ ¬ a1_0 = 5) by omega) with k | k | k | k | k | ⟨k1, k2, k3, k4, k5⟩
 all_goals try subst k
 all_goals try rw [if_neg k1, if_neg k2, if_neg k3, if_neg k4, if_neg k5] at H
 all_goals try simp only [Int.reduceEq, if_true, if_false] at H
 all_goals try (have b0 : (a1_0 == 0) = false := beq_eq_false_iff_ne.2 c3; have b1 : (a1_0 == 1) = false := beq_eq_false_iff_ne.2 k1; have b2 : (a1_0 == 2) = false := beq_eq_false_iff_ne.2 k2; have b3 : (a1_0 == 3) = false := beq_eq_false_iff_ne.2 k3; have b4 : (a1_0 == 4) = false := beq_eq_false_iff_ne.2 k4; have b5 : (a1_0 == 5) = false := beq_eq_false_iff_ne.2 k5)
 all_goals try (replace H := Option.bind_eq_some_iff.mp H; obtain ⟨b, hb, H⟩ := H; replace B := Aside0.mk hb; clear hb; cases (b : Bool))
 all_goals try rw [if_neg Bool.false_ne_true] at H
 all_goals try rw [if_pos rfl] at H
 all_goals try (replace H := Option.bind_eq_some_iff.mp H; obtain ⟨c, hc, H⟩ := H; replace C := Aside0.mk hc; clear hc)
 all_goals obtain rfl := Option.some.inj H
 all_goals clear H
 all_goals go_enter Tryd.func30, Tryd.ntmps30
 all_goals go_wp2_with (first | (go_at_call 48; with_reducible refine (spec_voAll.calls _ _ _ A.out).mono ?_; rintro e w' ⟨rfl, nd, rfl⟩) | (go_at_call 47; with_reducible refine (spec_l1In.calls _ _ _ _ _ B.out).mono ?_; rintro e w' ⟨rfl, nd, rfl⟩) | (go_at_call 47; with_reducible refine (spec_l1In.calls _ _ _ _ _ C.out).mono ?_; rintro e w' ⟨rfl, nd, rfl⟩))
 all_goals go_ret
 all_goals exact ⟨by first | rfl | (simp [*] <;> rfl), by repeat (first | (with_reducible first | exact HB.out | apply below_alloc | apply pw_below_drewN | apply below_drew1) | exact HB.out)⟩
mutual
def spec_pzGood.j0 : Nat → Bool → Int → List (S54) → Option (Bool)
 | 0, _, _, _ => none
 | k + 1, x14, x116000, x116001 => if x14 = true then (some false) else (spec_pzGood.l0 k x116001 (x116001.length : Int) 0 x116000 x116001)
def spec_pzGood.l0 : Nat → List (S54) → Int → Int → Int → List (S54) → Option (Bool)
 | 0, _, _, _, _, _ => none
 | k + 1, x16, x17, x18, x116000, x116001 => if x18 < x17 then (if 0 ≤ x18 then (if x18 < (x16.length : Int) then ((spec_pzClue.f x116000 ((rd_T54 x16 x18).f0) ((rd_T54 x16 x18).f1) ((rd_T54 x16 x18).f2)).bind fun t119 => (if t119 = true then (spec_pzGood.l0 k x16 x17 (wrap64 (x18 + 1)) x116000 x116001) else (some false))) else (none)) else (none)) else (some true)
end
def spec_pzGood.f (k : Nat) (a0_0 : Int) (l0_1 : List (S54)) : Option (Bool) := (spec_pzMembers.f a0_0).bind fun t116 => (if t116 = true then (spec_pzGood.j0 k (decide ((l0_1.length : Int) > 8)) a0_0 l0_1) else (spec_pzGood.j0 k true a0_0 l0_1))
set_option maxHeartbeats 8000000 in
set_option maxRecDepth 100000 in
theorem spec_pzGood.calls (k : Nat) (a0_0 : Int) (A0_1 : Option Addr) (c0_1 : Nat) (l0_1 : List (S54)) (r : Bool) (w : World) (hr0_1 : Kd.C k54 w A0_1 l0_1.length l0_1) (hc0_1 : l0_1.length ≤ c0_1) (h : spec_pzGood.f k a0_0 l0_1 = some r) :
  Calls Tryd.prog 15 #[.agg #[.int .i64 a0_0, .slice A0_1 l0_1.length c0_1]] w fun e w' => e = .returned (.bool r) ∧ Below w.heap.size w w' := by
 have hu30 := Tryd.underlying30
 have hu54 := Tryd.underlying54
 have HR0_1 := Aside0.mk hr0_1
 have HC0_1 := Aside0.mk hc0_1
 clear hr0_1 hc0_1
 have HB := Aside0.mk (Below.refl w.heap.size w)
 have H : ((spec_pzMembers.f a0_0).bind fun t116 => (if t116 = true then (spec_pzGood.j0 k (decide ((l0_1.length : Int) > 8)) a0_0 l0_1) else (spec_pzGood.j0 k true a0_0 l0_1))) = some r := h
 clear h
 have HC2 := Aside0.mk H
 clear H
 go_enter Tryd.func15, Tryd.ntmps15
 go_upto_region 1 with (first | ((with_reducible refine gate_dst (N := 1) rfl ?_); (try (refine gate_guard (by rfl) ?_; dsimp only)); refine zq 1 #[.int .i64 a0_0, .slice A0_1 l0_1.length c0_1] 30 ?_; intro gb115 hg w3 hbox hb; have n2_ := Aside0.mk ((by rw [hg]; exact (below_size (zh HB.out)) : w.heap.size ≤ gb115)); replace HB := Aside0.mk (below_step (zh HB.out) hb); have BK115 := Aside0.mk hbox; have GW115 := n2_; have GE115 := n2_; clear n2_ hb hbox hg))
 (try simp only [Act.put, List.setIfInBounds_toArray, List.set_cons_zero, List.set_cons_succ])
 go_cut [14] (fun v14 wc => ∃ (kq : Nat) (x14_1 : Bool), v14 = .bool x14_1 ∧ Aside0 (spec_pzGood.j0 kq x14_1 a0_0 l0_1 = some r) ∧ Aside0 (kq ≤ k) ∧ Aside0 (wc.heap[gb115]? = some (.cells #[.int .i64 a0_0, (.slice A0_1 l0_1.length c0_1)] 30 (0, 0))) ∧ Aside0 (Below w.heap.size w wc))
 case first =>
  have H := HC2.out
  clear HC2
  replace H := Option.bind_eq_some_iff.mp H
  obtain ⟨t116, A40, H⟩ := H
  have A4 := Aside0.mk A40
  clear A40
  by_cases c5 : t116 = true
  ·subst c5
   rw [if_pos rfl] at H
   have H' := Aside0.mk H
   clear H
   obtain ⟨hcz6_0, hcz6_1, hfz6_0, hfz6_1⟩ := zC2 BK115
   go_wp2_with (first | ((with_reducible refine gate_callee (f := 29) rfl ?_); refine zl 7 Tryd.func29 #[.int .i64 a0_0] ?_; (with_reducible refine (spec_pzMembers.calls a0_0 true _ A4.out).mono ?_); rintro e w' ⟨rfl, ⟨nd, rfl⟩⟩; refine ⟨_, rfl, ?_⟩))
   go_meet
   case rel => exact ⟨_, (decide ((l0_1.length : Int) > 8)), zE, H', ⟨by first | omega | exact Nat.le_refl _⟩, ⟨zb BK115.out⟩, ⟨zh HB.out⟩⟩
  ·replace c5 := Bool.eq_false_iff.mpr c5
   subst c5
   rw [if_neg zF] at H
   have H' := Aside0.mk H
   clear H
   obtain ⟨hcz7_0, hcz7_1, hfz7_0, hfz7_1⟩ := zC2 BK115
   go_wp2_with (first | ((with_reducible refine gate_callee (f := 29) rfl ?_); refine zl 7 Tryd.func29 #[.int .i64 a0_0] ?_; (with_reducible refine (spec_pzMembers.calls a0_0 false _ A4.out).mono ?_); rintro e w' ⟨rfl, ⟨nd, rfl⟩⟩; refine ⟨_, rfl, ?_⟩))
   go_meet
   case rel => exact ⟨_, (true), zE, H', ⟨by first | omega | exact Nat.le_refl _⟩, ⟨zb BK115.out⟩, ⟨zh HB.out⟩⟩
 case rest =>
  clear HC2
  try clear c1
  try clear c2
  try clear p2
  try clear c5
  try clear hcz6_0
  try clear hcz6_1
  try clear hcz7_0
  try clear hcz7_1
  try clear hfz6_0
  try clear hfz6_1
  try clear hfz7_0
  try clear hfz7_1
  obtain ⟨kq, x14_1, rfl, HA, HJ1, BK115, HB⟩ := hcut
  cases kq with
  | zero => exact absurd HA.out (by simp [spec_pzGood.j0])
  | succ kj1 =>
   have H := HA.out
   clear HA
   simp only [spec_pzGood.j0] at H
   by_cases c8 : x14_1 = true
   ·subst c8
    rw [if_pos rfl] at H
    obtain rfl := Option.some.inj H
    go_wp2
    go_ret
    exact ⟨by first | rfl | (simp [*, errW_none, errW_some] <;> rfl), zh HB.out⟩
   replace c8 := Bool.eq_false_iff.mpr c8
   subst c8
   rw [if_neg zF] at H
   have H' := Aside0.mk H
   clear H
   obtain ⟨hcz9_0, hcz9_1, hfz9_0, hfz9_1⟩ := zC2 BK115
   go_wp2
   go_loopg [18] kj1 (fun kq v18 w' => ∃ (x18_2 : Int), v18 = .int .i64 x18_2 ∧ Aside0 (spec_pzGood.l0 kq l0_1 (l0_1.length : Int) x18_2 a0_0 l0_1 = some r) ∧ Aside0 (kq ≤ kj1) ∧ Aside0 (w'.heap[gb115]? = some (.cells #[.int .i64 a0_0, (.slice A0_1 l0_1.length c0_1)] 30 (0, 0))) ∧ Aside0 (Below w.heap.size w w'))
   case atStart => exact ⟨(0), zE, H', ⟨Nat.le_refl _⟩, ⟨zb BK115.out⟩, ⟨zh HB.out⟩⟩
   case round =>
    clear H'
    try clear c1
    try clear c2
    try clear p2
    try clear c5
    try clear c8
    try clear hcz6_0
    try clear hcz6_1
    try clear hcz7_0
    try clear hcz7_1
    try clear hcz9_0
    try clear hcz9_1
    try clear hfz6_0
    try clear hfz6_1
    try clear hfz7_0
    try clear hfz7_1
    try clear hfz9_0
    try clear hfz9_1
    try clear p2
    obtain ⟨x18_2, rfl, HA, HK2, BK115, HB⟩ := hrel
    cases gk with
    | zero => exact absurd HA.out (by simp [spec_pzGood.l0])
    | succ k2 =>
     have H := HA.out
     clear HA
     simp only [spec_pzGood.l0] at H
     by_cases c10 : x18_2 < (l0_1.length : Int)
     rotate_left
     ·rw [if_neg c10] at H
      have c10b0 := decide_eq_false c10
      clear c10
      obtain rfl := Option.some.inj H
      go_wp2
      go_ret
      exact ⟨by first | rfl | (simp [*, errW_none, errW_some] <;> rfl), zh HB.out⟩
     rw [if_pos c10] at H
     have c10b0 := decide_eq_true c10
     clear c10
     by_cases c11 : 0 ≤ x18_2
     rotate_left
     ·rw [if_neg c11] at H
      cases H
     rw [if_pos c11] at H
     have c11b0 := decide_eq_true c11
     clear c11
     by_cases c12 : x18_2 < (l0_1.length : Int)
     rotate_left
     ·rw [if_neg c12] at H
      cases H
     rw [if_pos c12] at H
     have c12b0 := decide_eq_true c12
     clear c12
     replace H := Option.bind_eq_some_iff.mp H
     obtain ⟨t119, A130, H⟩ := H
     have A13 := Aside0.mk A130
     clear A130
     by_cases c14 : t119 = true
     rotate_left
     ·replace c14 := Bool.eq_false_iff.mpr c14
      subst c14
      rw [if_neg zF] at H
      obtain rfl := Option.some.inj H
      obtain ⟨⟨ad117, e117, hx117_0, hx117_1, hx117_2⟩, p117, q117⟩ := zW (at_T54 HR0_1.out x18_2)
      cases e117
      replace hx117_0 := zx HB.out hx117_0
      replace hx117_1 := zx HB.out hx117_1
      replace hx117_2 := zx HB.out hx117_2
      go_wp2_with (first | ((with_reducible refine gate_dst (N := 4) rfl ?_); (try (refine gate_guard (by rfl) ?_; dsimp only)); refine zq 4 #[.int .i64 0, .int .i64 0, .int .i64 0] 54 ?_; intro gb118 hg w20 hbox hb; have BK118 := Aside0.mk hbox; have GW118 := zG hg HB; have GE118 := zG hg HB; have NB115_118 := zNa hg BK115; have NB118_115 := zNb hg BK115; replace BK115 := zK BK115 hb; replace HB := zH hb HB; clear hb hbox hg; have hnb21 := NB118_115.out; have hnc21 := NB115_118.out; obtain ⟨hcz22_0, hcz22_1, hcz22_2, hfz22_0, hfz22_1, hfz22_2⟩ := zC3 BK118; obtain ⟨hcz23_0, hcz23_1, hfz23_0, hfz23_1⟩ := zC2 BK115) | ((with_reducible refine gate_callee (f := 30) rfl ?_); refine zl 25 Tryd.func30 #[.int .i64 a0_0, .agg #[.int .i64 ((rd_T54 l0_1 x18_2).f0), .int .i64 ((rd_T54 l0_1 x18_2).f1), .int .i64 ((rd_T54 l0_1 x18_2).f2)]] ?_; (with_reducible refine (spec_pzClue.calls a0_0 ((rd_T54 l0_1 x18_2).f0) ((rd_T54 l0_1 x18_2).f1) ((rd_T54 l0_1 x18_2).f2) false _ A13.out).mono ?_); rintro e w24 ⟨rfl, hb⟩; refine ⟨_, rfl, ?_⟩; replace BK115 := Aside0.mk (blk_below (g := gb115) (o := .cells #[.int .i64 a0_0, .slice (some ad117) l0_1.length c0_1] 30 (0, 0)) (zf3 BK115.out NB115_118.out NB115_118.out NB115_118.out) hb); replace BK118 := Aside0.mk (blk_below (g := gb118) (o := .cells #[.int .i64 ((rd_T54 l0_1 x18_2).f0), .int .i64 ((rd_T54 l0_1 x18_2).f1), .int .i64 ((rd_T54 l0_1 x18_2).f2)] 54 (0, 0)) (by (with_reducible repeat (first | refine blk_drewN ?_ _ | refine blk_drew ?_ | refine blk_alloc ?_ _)); refine blk_put (cs := #[.int .i64 ((rd_T54 l0_1 x18_2).f0), .int .i64 ((rd_T54 l0_1 x18_2).f1), .int .i64 0]) ?_ 2 _ rfl; (with_reducible repeat (first | refine blk_drewN ?_ _ | refine blk_drew ?_ | refine blk_alloc ?_ _)); refine blk_put (cs := #[.int .i64 ((rd_T54 l0_1 x18_2).f0), .int .i64 0, .int .i64 0]) ?_ 1 _ rfl; (with_reducible repeat (first | refine blk_drewN ?_ _ | refine blk_drew ?_ | refine blk_alloc ?_ _)); refine blk_put (cs := #[.int .i64 0, .int .i64 0, .int .i64 0]) ?_ 0 _ rfl; (with_reducible repeat (first | refine blk_drewN ?_ _ | refine blk_drew ?_ | refine blk_alloc ?_ _)); exact BK118.out) hb); replace HB := zH hb HB; clear hb))
      go_ret
      exact ⟨by first | rfl | (simp [*, errW_none, errW_some] <;> rfl), zh HB.out⟩
     subst c14
     rw [if_pos rfl] at H
     have H' := Aside0.mk H
     clear H
     obtain ⟨⟨ad117, e117, hx117_0, hx117_1, hx117_2⟩, p117, q117⟩ := zW (at_T54 HR0_1.out x18_2)
     cases e117
     replace hx117_0 := zx HB.out hx117_0
     replace hx117_1 := zx HB.out hx117_1
     replace hx117_2 := zx HB.out hx117_2
     go_wp2_with (first | ((with_reducible refine gate_dst (N := 4) rfl ?_); (try (refine gate_guard (by rfl) ?_; dsimp only)); refine zq 4 #[.int .i64 0, .int .i64 0, .int .i64 0] 54 ?_; intro gb118 hg w15 hbox hb; have BK118 := Aside0.mk hbox; have GW118 := zG hg HB; have GE118 := zG hg HB; have NB115_118 := zNa hg BK115; have NB118_115 := zNb hg BK115; replace BK115 := zK BK115 hb; replace HB := zH hb HB; clear hb hbox hg; have hnb16 := NB118_115.out; have hnc16 := NB115_118.out; obtain ⟨hcz17_0, hcz17_1, hcz17_2, hfz17_0, hfz17_1, hfz17_2⟩ := zC3 BK118; obtain ⟨hcz18_0, hcz18_1, hfz18_0, hfz18_1⟩ := zC2 BK115) | ((with_reducible refine gate_callee (f := 30) rfl ?_); refine zl 25 Tryd.func30 #[.int .i64 a0_0, .agg #[.int .i64 ((rd_T54 l0_1 x18_2).f0), .int .i64 ((rd_T54 l0_1 x18_2).f1), .int .i64 ((rd_T54 l0_1 x18_2).f2)]] ?_; (with_reducible refine (spec_pzClue.calls a0_0 ((rd_T54 l0_1 x18_2).f0) ((rd_T54 l0_1 x18_2).f1) ((rd_T54 l0_1 x18_2).f2) true _ A13.out).mono ?_); rintro e w19 ⟨rfl, hb⟩; refine ⟨_, rfl, ?_⟩; replace BK115 := Aside0.mk (blk_below (g := gb115) (o := .cells #[.int .i64 a0_0, .slice (some ad117) l0_1.length c0_1] 30 (0, 0)) (zf3 BK115.out NB115_118.out NB115_118.out NB115_118.out) hb); replace BK118 := Aside0.mk (blk_below (g := gb118) (o := .cells #[.int .i64 ((rd_T54 l0_1 x18_2).f0), .int .i64 ((rd_T54 l0_1 x18_2).f1), .int .i64 ((rd_T54 l0_1 x18_2).f2)] 54 (0, 0)) (by (with_reducible repeat (first | refine blk_drewN ?_ _ | refine blk_drew ?_ | refine blk_alloc ?_ _)); refine blk_put (cs := #[.int .i64 ((rd_T54 l0_1 x18_2).f0), .int .i64 ((rd_T54 l0_1 x18_2).f1), .int .i64 0]) ?_ 2 _ rfl; (with_reducible repeat (first | refine blk_drewN ?_ _ | refine blk_drew ?_ | refine blk_alloc ?_ _)); refine blk_put (cs := #[.int .i64 ((rd_T54 l0_1 x18_2).f0), .int .i64 0, .int .i64 0]) ?_ 1 _ rfl; (with_reducible repeat (first | refine blk_drewN ?_ _ | refine blk_drew ?_ | refine blk_alloc ?_ _)); refine blk_put (cs := #[.int .i64 0, .int .i64 0, .int .i64 0]) ?_ 0 _ rfl; (with_reducible repeat (first | refine blk_drewN ?_ _ | refine blk_drew ?_ | refine blk_alloc ?_ _)); exact BK118.out) hb); replace HB := zH hb HB; clear hb))
     go_roundg k2
     case measure => have := HJ1.out; have := HK2.out; omega
     case rel => exact ⟨(wrap64 (x18_2 + 1)), zE, H', zO2 HJ1 HK2, ⟨zb BK115.out⟩, ⟨zh HB.out⟩⟩
def spec_l1Num.f : Nat → Int → Option (ByteArray)
 | 0, _ => none
 | k + 1, a0 => if a0 < 10 then (some (strOfNums (([(wrap64 (48 + a0)) % 256] : List Int)))) else ((spec_l1Num.f k (wrap64 (Int.tdiv a0 10))).bind fun t123 => ((some (([(wrap64 (48 + (Int.tmod a0 10))) % 256] : List Int) : List Int)).bind fun y124 => (if t123.size + (strOfNums y124).size ≤ 9223372036854775807 then (some (t123 ++ (strOfNums y124))) else (none))))
theorem spec_l1Num.mono_l : ∀ k, (∀ y0, LeO (spec_l1Num.f k y0) (spec_l1Num.f (k + 1) y0))
 | 0 => fun _ r h => by simp [spec_l1Num.f] at h
 | k + 1 => by
  have ih0 := spec_l1Num.mono_l k
  ·intro y0
   unfold spec_l1Num.f
   repeat' first
   | (with_reducible exact ih0 _)
   | (with_reducible exact LeO.refl _)
   | (with_reducible exact LeO.none _)
   | (with_reducible refine LeO.ite ?_ ?_)
   | (with_reducible refine LeO.bind ?_ (fun _ => ?_))
   | exact ih0 _
   | exact LeO.none _
   | refine LeO.ite ?_ ?_
   | refine LeO.bind ?_ (fun _ => ?_)
theorem spec_l1Num.mono : ∀ a0 k, LeO (spec_l1Num.f k a0) (spec_l1Num.f (k + 1) a0) := by
 intro a0 k
 have ih0 := spec_l1Num.mono_l k
 exact ih0 a0
def spec_l1Num.T3 : Bool × List (List Nat × List Nat) := (true, [([], []), ([0], [0]), ([1], [1]), ([], []), ([3], [3]), ([4], [4]), ([5], [5]), ([6], [6]), ([7], [7]), ([2, 8], [2, 8]), ([9, 2, 0, 1, 2, 3, 4, 5, 6, 7, 8, 9], [9])])
def spec_l1Num.B3 : List Nat := [0, 1, 3, 0, 8, 24, 56, 120, 248, 511, 1023]
theorem spec_l1Num.tab3 : rtab .any (opsOf Tryd.f31 3) = spec_l1Num.T3 := by kernel_rfl
theorem spec_l1Num.bits3 : waitsOk spec_l1Num.T3.2 spec_l1Num.B3 = true := by kernel_rfl
set_option maxHeartbeats 8000000 in
set_option maxRecDepth 100000 in
theorem spec_l1Num.calls (k : Nat) : ∀ (a0 : Int) (r : ByteArray) (w : World) (h : spec_l1Num.f k a0 = some r),
  Calls Tryd.prog 31 #[.int .i64 a0] w fun e w' => e = .returned (.string r) ∧ Below w.heap.size w w' := by
 induction k using Nat.strongRecOn with
 | _ k ih =>
 intro a0 r w h
 cases k with
 | zero => exact absurd h (by simp [spec_l1Num.f])
 | succ k =>
 simp only [spec_l1Num.f] at h
 have HB := Aside0.mk (Below.refl w.heap.size w)
 have H : (if a0 < 10 then (some (strOfNums (([(wrap64 (48 + a0)) % 256] : List Int)))) else ((spec_l1Num.f k (wrap64 (Int.tdiv a0 10))).bind fun t123 => ((some (([(wrap64 (48 + (Int.tmod a0 10))) % 256] : List Int) : List Int)).bind fun y124 => (if t123.size + (strOfNums y124).size ≤ 9223372036854775807 then (some (t123 ++ (strOfNums y124))) else (none))))) = some r := h
 clear h
 by_cases c2 : a0 < 10
 ·rw [if_pos c2] at H
  have c2b0 := decide_eq_true c2
  clear c2
  obtain ⟨y120, hy120⟩ : ∃ y_ : List Int, y_ = (([(wrap64 (48 + a0)) % 256] : List Int)) := ⟨_, rfl⟩
  rw [← hy120] at H
  have Ny120 := Aside0.mk hy120
  clear hy120
  obtain rfl := Option.some.inj H
  go_enter Tryd.func31, Tryd.ntmps31
  go_wp2_with (first | ((with_reducible refine gate_dst (N := 8) rfl ?_); refine Kd.R_lit (Kd.int .u8) _ 5 ?hg (N := 8) ?hd (xs := ([(wrap64 (48 + a0)) % 256] : List Int)) (inner := [.int .u8 ((wrap64 (48 + a0)) % 256)]) (ok := fun _ => True) (okp := fun _ => True) ?hr ?hp (fun _ hk => hk) trivial (Below.refl _ _) (Nat.le_refl _) (by simp) ?_; (case hd => rfl); (case hg => rfl); (case hr => first | (go_simp; done) | (go_simp; rfl)); (case hp => exact (Reps.one (show Kd.M (Kd.int .u8) _ _ _ ((wrap64 (48 + a0)) % 256) [.int .u8 ((wrap64 (48 + a0)) % 256)] from rfl) (Reps.none _ _))); intro v121 w3 ho4 hb hg_ hnew_; clear hg_ hnew_; (first | rw [← Ny120.out] at ho4 | (simp only [Int.reduceToNat] at ho4; rw [← Ny120.out] at ho4)); have HO122 := Aside0.mk (Kd.R_lower ho4 (below_size (zh HB.out))); replace HB := zH hb HB; clear hb ho4; have hcv5 := own_string (P := Tryd.prog) Tryd.underlying75 Tryd.underlying5 Tryd.underlying9 (Kd.own_of_R HO122.out)))
  go_ret
  exact ⟨by first | rfl | (simp [*, errW_none, errW_some] <;> rfl), zh HB.out⟩
 rw [if_neg c2] at H
 have c2b0 := decide_eq_false c2
 clear c2
 replace H := Option.bind_eq_some_iff.mp H
 obtain ⟨t123, A60, H⟩ := H
 have A6 := Aside0.mk A60
 clear A60
 replace H := zY H
 obtain ⟨y124, Ny124, H⟩ := H
 by_cases c7 : t123.size + (strOfNums y124).size ≤ 9223372036854775807
 rotate_left
 ·rw [if_neg c7] at H
  cases H
 rw [if_pos c7] at H
 have c7b0 := eq_true c7
 have c7b1 := decide_eq_true c7
 try have c7b2 : (9223372036854775807 < t123.size + (strOfNums y124).size) = False := eq_false (Nat.not_lt.2 c7)
 obtain rfl := Option.some.inj H
 go_enter Tryd.func31, Tryd.ntmps31
 try go_wp2
 have n0_ := Aside0.mk (below_drew1 HB.out)
 clear HB
 have HB := n0_
 clear n0_
 refine start_ (n := 11) (S := fun w' => True) (ds := []) (tb 11 0) (by kernel_rfl) rfl rfl trivial (fun hHeld => ?_); refine with_tabW spec_l1Num.tab3 spec_l1Num.bits3 (fun HT_ HW_ => ?_)
 generalize w.drew = w8 at HB hHeld ⊢
 refine zu (i := 0) (N := some 10) (tb 11 1) rfl rfl HT_ ?_
 refine zu (i := 1) (N := some 11) (tb 11 3) rfl rfl HT_ ?_
 refine zu (i := 3) (N := some 13) (tb 11 11) rfl rfl HT_ ?_
 refine zu (i := 4) (N := some 14) (tb 11 27) rfl rfl HT_ ?_
 refine zu (i := 5) (N := some 15) (tb 11 59) rfl rfl HT_ ?_
 refine zu (i := 6) (N := some 16) (tb 11 123) rfl rfl HT_ ?_
 refine join_ (σ := Value) 2 (tb 11 511) (fun s_ => [(12, .string t123), (17, s_), (18, .string (strOfNums y124))]) (fun s_ w' => (Kd.R (Kd.int .u8) 5 w' w.heap.size (fun _ => True) s_ y124) ∧ (Below w.heap.size w w')) ?_ ?_
 rotate_left
 ·intro hCont
  refine two_ (i := 2) (j := 7) (Ni := some 12) (Nj := some 17) (tb 11 127) (tb 11 251) rfl rfl rfl rfl (two_of HT_.out (by kernel_rfl)) (by decide) (by decide) (fun K hK => ?_) (fun K hK => ?_)
  ·skip
   refine goes_ Tryd.func31 (by kernel_rfl) rfl #[.int .i64 (wrap64 (Int.tdiv a0 10))] (by rfl) rfl rfl (by (try simp only [List.map_toArray, List.map_cons, List.map_nil]); first | done | rfl | (simp only [List.length_drop, List.length_take]; rfl)) ?_
   with_reducible refine (ih k (by omega) (wrap64 (Int.tdiv a0 10)) t123 _ A6.out).mono ?_
   rintro e w9 ⟨rfl, hb⟩
   refine ⟨_, rfl, ?_⟩
   have n0_ := Aside0.mk (below_step (zh HB.out) hb)
   clear HB
   have HB := n0_
   clear n0_
   (try clear hb)
   (try clear hb2)
   (try clear hk)
   (try clear hi)
   refine hK.out _ _ trivial (fun hHeld => ?_)
   clear hK K
   refine zn1 ?_
   refine one_ (i := 7) (N := some 17) (tb 11 255) rfl rfl (one_of HT_.out (by kernel_rfl)) (by decide) (fun K hK => ?_)
   refine Kd.R_lit_step (Kd.int .u8) _ 5 ?hg (N := 17) ?hd (xs := ([(wrap64 (48 + (Int.tmod a0 10))) % 256] : List Int)) (inner := [.int .u8 ((wrap64 (48 + (Int.tmod a0 10))) % 256)]) (ok := fun _ => True) (okp := fun _ => True) ?hr ?hp (fun _ hk => hk) trivial (Below.refl _ _) (Nat.le_refl _) (by simp) ?_; (case hd => rfl); (case hg => rfl); (case hr => first | (go_simp; done) | (go_simp; rfl)); (case hp => exact (Reps.one (show Kd.M (Kd.int .u8) _ _ _ ((wrap64 (48 + (Int.tmod a0 10))) % 256) [.int .u8 ((wrap64 (48 + (Int.tmod a0 10))) % 256)] from rfl) (Reps.none _ _)))
   intro v125 w10 ho11 hb hg_ hnew_
   clear hg_ hnew_
   (first | rw [← Ny124.out] at ho11 | (simp only [Int.reduceToNat] at ho11; rw [← Ny124.out] at ho11))
   have n0_ := Aside0.mk (Kd.R_lower ho11 (below_size (zh HB.out)))
   have n1_ := Aside0.mk (below_step (zh HB.out) hb)
   clear HB
   have HO126 := n0_
   have HB := n1_
   clear n0_ n1_ hb ho11
   refine hK.out _ _ trivial (fun hHeld => ?_)
   clear hK K
   refine zn1 ?_
   refine one_ (i := 8) (N := some 18) (tb 11 511) rfl rfl (one_of HT_.out (by kernel_rfl)) (by decide) (fun K hK => ?_)
   have hcv12 := own_string (P := Tryd.prog) Tryd.underlying75 Tryd.underlying5 Tryd.underlying9 (Kd.own_of_R HO126.out)
   refine value_ (w1 := ?_) (v := ?_) (by rfl) rfl ?_ ?_
   rotate_left 2
   ·go_simp
    constructor
    ·rfl
    ·rfl
   clear hcv12
   refine hK.out _ _ trivial (fun hHeld => ?_)
   clear hK K
   refine zn1 ?_
   exact norm_ (by simp only [putAll, Act.put, List.setIfInBounds_toArray, List.set_cons_zero, List.set_cons_succ]) (hCont (v125) _ ⟨(zr HO126.out), (zh HB.out)⟩)
  ·skip
   refine Kd.R_lit_step (Kd.int .u8) _ 5 ?hg (N := 17) ?hd (xs := ([(wrap64 (48 + (Int.tmod a0 10))) % 256] : List Int)) (inner := [.int .u8 ((wrap64 (48 + (Int.tmod a0 10))) % 256)]) (ok := fun _ => True) (okp := fun _ => True) ?hr ?hp (fun _ hk => hk) trivial (Below.refl _ _) (Nat.le_refl _) (by simp) ?_; (case hd => rfl); (case hg => rfl); (case hr => first | (go_simp; done) | (go_simp; rfl)); (case hp => exact (Reps.one (show Kd.M (Kd.int .u8) _ _ _ ((wrap64 (48 + (Int.tmod a0 10))) % 256) [.int .u8 ((wrap64 (48 + (Int.tmod a0 10))) % 256)] from rfl) (Reps.none _ _)))
   intro v125 w9 ho10 hb hg_ hnew_
   clear hg_ hnew_
   (first | rw [← Ny124.out] at ho10 | (simp only [Int.reduceToNat] at ho10; rw [← Ny124.out] at ho10))
   have n0_ := Aside0.mk (Kd.R_lower ho10 (below_size (zh HB.out)))
   have n1_ := Aside0.mk (below_step (zh HB.out) hb)
   clear HB
   have HO126 := n0_
   have HB := n1_
   clear n0_ n1_ hb ho10
   refine hK.out _ _ trivial (fun hHeld => ?_)
   clear hK K
   refine zn1 ?_
   refine two_ (i := 2) (j := 8) (Ni := some 12) (Nj := some 18) (tb 11 255) (tb 11 507) rfl rfl rfl rfl (two_of HT_.out (by kernel_rfl)) (by decide) (by decide) (fun K hK => ?_) (fun K hK => ?_)
   ·skip
    refine goes_ Tryd.func31 (by kernel_rfl) rfl #[.int .i64 (wrap64 (Int.tdiv a0 10))] (by rfl) rfl rfl (by (try simp only [List.map_toArray, List.map_cons, List.map_nil]); first | done | rfl | (simp only [List.length_drop, List.length_take]; rfl)) ?_
    with_reducible refine (ih k (by omega) (wrap64 (Int.tdiv a0 10)) t123 _ A6.out).mono ?_
    rintro e w11 ⟨rfl, hb⟩
    refine ⟨_, rfl, ?_⟩
    have n0_ := Aside0.mk (Kd.R_below (zr HO126.out) hb)
    have n1_ := Aside0.mk (below_step (zh HB.out) hb)
    clear HO126 HB
    have HO126 := n0_
    have HB := n1_
    clear n0_ n1_
    (try clear hb)
    (try clear hb2)
    (try clear hk)
    (try clear hi)
    refine hK.out _ _ trivial (fun hHeld => ?_)
    clear hK K
    refine zn1 ?_
    refine one_ (i := 8) (N := some 18) (tb 11 511) rfl rfl (one_of HT_.out (by kernel_rfl)) (by decide) (fun K hK => ?_)
    have hcv12 := own_string (P := Tryd.prog) Tryd.underlying75 Tryd.underlying5 Tryd.underlying9 (Kd.own_of_R HO126.out)
    refine value_ (w1 := ?_) (v := ?_) (by rfl) rfl ?_ ?_
    rotate_left 2
    ·go_simp
     constructor
     ·rfl
     ·rfl
    clear hcv12
    refine hK.out _ _ trivial (fun hHeld => ?_)
    clear hK K
    refine zn1 ?_
    exact norm_ (by simp only [putAll, Act.put, List.setIfInBounds_toArray, List.set_cons_zero, List.set_cons_succ]) (hCont (v125) _ ⟨(zr HO126.out), (zh HB.out)⟩)
   ·skip
    have hcv11 := own_string (P := Tryd.prog) Tryd.underlying75 Tryd.underlying5 Tryd.underlying9 (Kd.own_of_R HO126.out)
    refine value_ (w1 := ?_) (v := ?_) (by rfl) rfl ?_ ?_
    rotate_left 2
    ·go_simp
     constructor
     ·rfl
     ·rfl
    clear hcv11
    refine hK.out _ _ trivial (fun hHeld => ?_)
    clear hK K
    refine zn1 ?_
    refine one_ (i := 2) (N := some 12) (tb 11 511) rfl rfl (one_of HT_.out (by kernel_rfl)) (by decide) (fun K hK => ?_)
    refine goes_ Tryd.func31 (by kernel_rfl) rfl #[.int .i64 (wrap64 (Int.tdiv a0 10))] (by rfl) rfl rfl (by (try simp only [List.map_toArray, List.map_cons, List.map_nil]); first | done | rfl | (simp only [List.length_drop, List.length_take]; rfl)) ?_
    with_reducible refine (ih k (by omega) (wrap64 (Int.tdiv a0 10)) t123 _ A6.out).mono ?_
    rintro e w12 ⟨rfl, hb⟩
    refine ⟨_, rfl, ?_⟩
    have n0_ := Aside0.mk (Kd.R_below (zr HO126.out) hb)
    have n1_ := Aside0.mk (below_step (zh HB.out) hb)
    clear HO126 HB
    have HO126 := n0_
    have HB := n1_
    clear n0_ n1_
    (try clear hb)
    (try clear hb2)
    (try clear hk)
    (try clear hi)
    refine hK.out _ _ trivial (fun hHeld => ?_)
    clear hK K
    refine zn1 ?_
    exact norm_ (by simp only [putAll, Act.put, List.setIfInBounds_toArray, List.set_cons_zero, List.set_cons_succ]) (hCont (v125) _ ⟨(zr HO126.out), (zh HB.out)⟩)
 rintro v125 w13 ⟨h0_, h1_⟩
 have n0_ : Aside0 (Kd.R (Kd.int .u8) 5 w13 w.heap.size (fun _ => True) v125 y124) := ⟨h0_⟩
 have n1_ : Aside0 (Below w.heap.size w w13) := ⟨h1_⟩
 clear HB h0_ h1_
 have HO126 := n0_
 have HB := n1_
 clear n0_ n1_
 have hHeld := trivial
 refine norm_ (a' := ?_) ?_ ?_
 rotate_left
 ·simp only [putAll, Act.put, List.setIfInBounds_toArray, List.set_cons_zero, List.set_cons_succ]
  rfl
 refine zu (i := 9) (N := some 19) (tb 11 1023) rfl rfl HT_ ?_
 refine zu (i := 10) (N := some 2) (tb 11 2047) rfl rfl HT_ ?_
 refine done_ (done_of HT_.out (by kernel_rfl)) ?_
 try go_wp2
 go_ret
 exact ⟨by first | rfl | (simp [*, errW_none, errW_some] <;> rfl), zh HB.out⟩
def spec_pzText.l0 : Nat → ByteArray → List (S54) → Int → Int → Option (ByteArray)
 | 0, _, _, _, _ => none
 | k + 1, x3, x11, x12, x13 => if x13 < x12 then (if 0 ≤ x13 then (if x13 < (x11.length : Int) then (if x13 > 0 then (if x3.size + 1 ≤ 9223372036854775807 then ((spec_l1Num.f k ((rd_T54 x11 x13).f0)).bind fun t131 => (if t131.size + 1 ≤ 9223372036854775807 then ((spec_l1Num.f k ((rd_T54 x11 x13).f1)).bind fun t132 => (if (t131 ++ (⟨#[46]⟩ : ByteArray)).size + t132.size ≤ 9223372036854775807 then (if ((t131 ++ (⟨#[46]⟩ : ByteArray)) ++ t132).size + 1 ≤ 9223372036854775807 then ((spec_l1Num.f k ((rd_T54 x11 x13).f2)).bind fun t133 => (if (((t131 ++ (⟨#[46]⟩ : ByteArray)) ++ t132) ++ (⟨#[46]⟩ : ByteArray)).size + t133.size ≤ 9223372036854775807 then (if (x3 ++ (⟨#[44]⟩ : ByteArray)).size + ((((t131 ++ (⟨#[46]⟩ : ByteArray)) ++ t132) ++ (⟨#[46]⟩ : ByteArray)) ++ t133).size ≤ 9223372036854775807 then (spec_pzText.l0 k ((x3 ++ (⟨#[44]⟩ : ByteArray)) ++ ((((t131 ++ (⟨#[46]⟩ : ByteArray)) ++ t132) ++ (⟨#[46]⟩ : ByteArray)) ++ t133)) x11 x12 (wrap64 (x13 + 1))) else (none)) else (none))) else (none)) else (none))) else (none))) else (none)) else ((spec_l1Num.f k ((rd_T54 x11 x13).f0)).bind fun t134 => (if t134.size + 1 ≤ 9223372036854775807 then ((spec_l1Num.f k ((rd_T54 x11 x13).f1)).bind fun t135 => (if (t134 ++ (⟨#[46]⟩ : ByteArray)).size + t135.size ≤ 9223372036854775807 then (if ((t134 ++ (⟨#[46]⟩ : ByteArray)) ++ t135).size + 1 ≤ 9223372036854775807 then ((spec_l1Num.f k ((rd_T54 x11 x13).f2)).bind fun t136 => (if (((t134 ++ (⟨#[46]⟩ : ByteArray)) ++ t135) ++ (⟨#[46]⟩ : ByteArray)).size + t136.size ≤ 9223372036854775807 then (if x3.size + ((((t134 ++ (⟨#[46]⟩ : ByteArray)) ++ t135) ++ (⟨#[46]⟩ : ByteArray)) ++ t136).size ≤ 9223372036854775807 then (spec_pzText.l0 k (x3 ++ ((((t134 ++ (⟨#[46]⟩ : ByteArray)) ++ t135) ++ (⟨#[46]⟩ : ByteArray)) ++ t136)) x11 x12 (wrap64 (x13 + 1))) else (none)) else (none))) else (none)) else (none))) else (none)))) else (none)) else (none)) else (some x3)
def spec_pzText.f (k : Nat) (a0_0 : Int) (l0_1 : List (S54)) : Option (ByteArray) := (spec_l1Num.f k a0_0).bind fun t128 => (if t128.size + 1 ≤ 9223372036854775807 then (spec_pzText.l0 k (t128 ++ (⟨#[58]⟩ : ByteArray)) l0_1 (l0_1.length : Int) 0) else (none))
def spec_pzText.T7 : Bool × List (List Nat × List Nat) := (true, [([], []), ([], []), ([1], [1]), ([2], [2]), ([3], [3]), ([], []), ([5], [5]), ([6, 3], [6]), ([4, 7], [4, 7]), ([8], [8]), ([], []), ([10], [10]), ([11, 7], [11]), ([9, 12], [9, 12]), ([0, 13], [0, 13]), ([14, 12, 0, 1, 2, 3, 4, 5, 6, 7, 8, 9, 10, 11, 12, 13, 14], [0, 14])])
def spec_pzText.B7 : List Nat := [0, 0, 2, 6, 14, 0, 32, 110, 254, 510, 0, 1024, 3310, 8190, 16383, 32767]
theorem spec_pzText.tab7 : rtab .any (opsOf Tryd.f16 7) = spec_pzText.T7 := by kernel_rfl
theorem spec_pzText.bits7 : waitsOk spec_pzText.T7.2 spec_pzText.B7 = true := by kernel_rfl
set_option maxHeartbeats 8000000 in
set_option maxRecDepth 100000 in
theorem spec_pzText.calls (k : Nat) (a0_0 : Int) (A0_1 : Option Addr) (c0_1 : Nat) (l0_1 : List (S54)) (r : ByteArray) (w : World) (hr0_1 : Kd.C k54 w A0_1 l0_1.length l0_1) (hc0_1 : l0_1.length ≤ c0_1) (h : spec_pzText.f k a0_0 l0_1 = some r) :
  Calls Tryd.prog 16 #[.agg #[.int .i64 a0_0, .slice A0_1 l0_1.length c0_1]] w fun e w' => e = .returned (.string r) ∧ Below w.heap.size w w' := by
 have hu30 := Tryd.underlying30
 have hu54 := Tryd.underlying54
 have HR0_1 := Aside0.mk hr0_1
 have HC0_1 := Aside0.mk hc0_1
 clear hr0_1 hc0_1
 have HB := Aside0.mk (Below.refl w.heap.size w)
 have H : ((spec_l1Num.f k a0_0).bind fun t128 => (if t128.size + 1 ≤ 9223372036854775807 then (spec_pzText.l0 k (t128 ++ (⟨#[58]⟩ : ByteArray)) l0_1 (l0_1.length : Int) 0) else (none))) = some r := h
 clear h
 replace H := Option.bind_eq_some_iff.mp H
 obtain ⟨t128, A20, H⟩ := H
 have A2 := Aside0.mk A20
 clear A20
 by_cases c3 : t128.size + 1 ≤ 9223372036854775807
 rotate_left
 ·rw [if_neg c3] at H
  cases H
 rw [if_pos c3] at H
 have c3b0 := eq_true c3
 have c3b1 := decide_eq_true c3
 try have c3b2 : (9223372036854775807 < t128.size + 1) = False := eq_false (Nat.not_lt.2 c3)
 have H' := Aside0.mk H
 clear H
 go_enter Tryd.func16, Tryd.ntmps16
 go_wp2_with (first | ((with_reducible refine gate_dst (N := 1) rfl ?_); refine zq 1 #[.int .i64 a0_0, .slice A0_1 l0_1.length c0_1] 30 ?_; intro gb127 hg w4 hbox hb; have GW127 := zG hg HB; replace HB := zH hb HB; have BK127 := Aside0.mk hbox; have GE127 := GW127; clear hb hbox hg; obtain ⟨hcz5_0, hcz5_1, hfz5_0, hfz5_1⟩ := zC2 BK127) | ((with_reducible refine gate_callee (f := 31) rfl ?_); refine zl 8 Tryd.func31 #[.int .i64 a0_0] ?_; (with_reducible refine (spec_l1Num.calls k a0_0 t128 _ A2.out).mono ?_); rintro e w6 ⟨rfl, hb⟩; refine ⟨_, rfl, ?_⟩; replace BK127 := zK BK127 hb; replace HB := zH hb HB; clear hb; obtain ⟨hcz7_0, hcz7_1, hfz7_0, hfz7_1⟩ := zC2 BK127))
 go_loopg [3, 13] k (fun kq v3 v13 w' => ∃ (x3_1 : ByteArray) (x13_1 : Int), v3 = .string x3_1 ∧ v13 = .int .i64 x13_1 ∧ Aside0 (spec_pzText.l0 kq x3_1 l0_1 (l0_1.length : Int) x13_1 = some r) ∧ Aside0 (kq ≤ k) ∧ Aside0 (w'.heap[gb127]? = some (.cells #[.int .i64 a0_0, (.slice A0_1 l0_1.length c0_1)] 30 (0, 0))) ∧ Aside0 (Below w.heap.size w w'))
 case atStart => exact ⟨(t128 ++ (⟨#[58]⟩ : ByteArray)), (0), zE, zE, H', ⟨Nat.le_refl _⟩, ⟨zb BK127.out⟩, ⟨zh HB.out⟩⟩
 case round =>
  clear H'
  try clear c1
  try clear p2
  try clear c3
  try clear c3b0
  try clear c3b1
  try clear c3b2
  try clear hcz5_0
  try clear hcz5_1
  try clear hcz7_0
  try clear hcz7_1
  try clear hfz5_0
  try clear hfz5_1
  try clear hfz7_0
  try clear hfz7_1
  obtain ⟨x3_1, x13_1, rfl, rfl, HA, HK1, BK127, HB⟩ := hrel
  cases gk with
  | zero => exact absurd HA.out (by simp [spec_pzText.l0])
  | succ k1 =>
   have H := HA.out
   clear HA
   simp only [spec_pzText.l0] at H
   by_cases c8 : x13_1 < (l0_1.length : Int)
   rotate_left
   ·rw [if_neg c8] at H
    have c8b0 := decide_eq_false c8
    clear c8
    obtain rfl := Option.some.inj H
    go_wp2
    go_ret
    exact ⟨by first | rfl | (simp [*, errW_none, errW_some] <;> rfl), zh HB.out⟩
   rw [if_pos c8] at H
   have c8b0 := decide_eq_true c8
   clear c8
   by_cases c9 : 0 ≤ x13_1
   rotate_left
   ·rw [if_neg c9] at H
    cases H
   rw [if_pos c9] at H
   have c9b0 := decide_eq_true c9
   clear c9
   by_cases c10 : x13_1 < (l0_1.length : Int)
   rotate_left
   ·rw [if_neg c10] at H
    cases H
   rw [if_pos c10] at H
   have c10b0 := decide_eq_true c10
   clear c10
   by_cases c11 : x13_1 > 0
   rotate_left
   ·rw [if_neg c11] at H
    have c11b0 := decide_eq_false c11
    clear c11
    replace H := Option.bind_eq_some_iff.mp H
    obtain ⟨t134, A290, H⟩ := H
    have A29 := Aside0.mk A290
    clear A290
    by_cases c30 : t134.size + 1 ≤ 9223372036854775807
    rotate_left
    ·rw [if_neg c30] at H
     cases H
    rw [if_pos c30] at H
    have c30b0 := eq_true c30
    have c30b1 := decide_eq_true c30
    try have c30b2 : (9223372036854775807 < t134.size + 1) = False := eq_false (Nat.not_lt.2 c30)
    replace H := Option.bind_eq_some_iff.mp H
    obtain ⟨t135, A310, H⟩ := H
    have A31 := Aside0.mk A310
    clear A310
    by_cases c32 : (t134 ++ (⟨#[46]⟩ : ByteArray)).size + t135.size ≤ 9223372036854775807
    rotate_left
    ·rw [if_neg c32] at H
     cases H
    rw [if_pos c32] at H
    have c32b0 := eq_true c32
    have c32b1 := decide_eq_true c32
    try have c32b2 : (9223372036854775807 < (t134 ++ (⟨#[46]⟩ : ByteArray)).size + t135.size) = False := eq_false (Nat.not_lt.2 c32)
    try have c32b3 : (9223372036854775807 < t134.size + 1 + t135.size) = False := eq_false (Nat.not_lt.2 (by have h_ := c32; simp only [ByteArray.size_append] at h_; exact h_))
    by_cases c33 : ((t134 ++ (⟨#[46]⟩ : ByteArray)) ++ t135).size + 1 ≤ 9223372036854775807
    rotate_left
    ·rw [if_neg c33] at H
     cases H
    rw [if_pos c33] at H
    have c33b0 := eq_true c33
    have c33b1 := decide_eq_true c33
    try have c33b2 : (9223372036854775807 < ((t134 ++ (⟨#[46]⟩ : ByteArray)) ++ t135).size + 1) = False := eq_false (Nat.not_lt.2 c33)
    try have c33b3 : (9223372036854775807 < t134.size + 1 + t135.size + 1) = False := eq_false (Nat.not_lt.2 (by have h_ := c33; simp only [ByteArray.size_append] at h_; exact h_))
    replace H := Option.bind_eq_some_iff.mp H
    obtain ⟨t136, A340, H⟩ := H
    have A34 := Aside0.mk A340
    clear A340
    by_cases c35 : (((t134 ++ (⟨#[46]⟩ : ByteArray)) ++ t135) ++ (⟨#[46]⟩ : ByteArray)).size + t136.size ≤ 9223372036854775807
    rotate_left
    ·rw [if_neg c35] at H
     cases H
    rw [if_pos c35] at H
    have c35b0 := eq_true c35
    have c35b1 := decide_eq_true c35
    try have c35b2 : (9223372036854775807 < (((t134 ++ (⟨#[46]⟩ : ByteArray)) ++ t135) ++ (⟨#[46]⟩ : ByteArray)).size + t136.size) = False := eq_false (Nat.not_lt.2 c35)
    try have c35b3 : (9223372036854775807 < t134.size + 1 + t135.size + 1 + t136.size) = False := eq_false (Nat.not_lt.2 (by have h_ := c35; simp only [ByteArray.size_append] at h_; exact h_))
    by_cases c36 : x3_1.size + ((((t134 ++ (⟨#[46]⟩ : ByteArray)) ++ t135) ++ (⟨#[46]⟩ : ByteArray)) ++ t136).size ≤ 9223372036854775807
    rotate_left
    ·rw [if_neg c36] at H
     cases H
    rw [if_pos c36] at H
    have c36b0 := eq_true c36
    have c36b1 := decide_eq_true c36
    try have c36b2 : (9223372036854775807 < x3_1.size + ((((t134 ++ (⟨#[46]⟩ : ByteArray)) ++ t135) ++ (⟨#[46]⟩ : ByteArray)) ++ t136).size) = False := eq_false (Nat.not_lt.2 c36)
    try have c36b3 : (9223372036854775807 < x3_1.size + (t134.size + 1 + t135.size + 1 + t136.size)) = False := eq_false (Nat.not_lt.2 (by have h_ := c36; simp only [ByteArray.size_append] at h_; exact h_))
    have H' := Aside0.mk H
    clear H
    obtain ⟨⟨ad129, e129, hx129_0, hx129_1, hx129_2⟩, p129, q129⟩ := zW (at_T54 HR0_1.out x13_1)
    cases e129
    replace hx129_0 := zx HB.out hx129_0
    replace hx129_1 := zx HB.out hx129_1
    replace hx129_2 := zx HB.out hx129_2
    try go_wp2_with (first | ((with_reducible refine gate_dst (N := 5) rfl ?_); refine zq 5 #[.int .i64 0, .int .i64 0, .int .i64 0] 54 ?_; intro gb130 hg w37 hbox hb; have BK130 := Aside0.mk hbox; have GW130 := zG hg HB; have GE130 := zG hg HB; have NB127_130 := zNa hg BK127; have NB130_127 := zNb hg BK127; replace BK127 := zK BK127 hb; replace HB := zH hb HB; clear hb hbox hg; have hnb38 := NB130_127.out; have hnc38 := NB127_130.out; obtain ⟨hcz39_0, hcz39_1, hcz39_2, hfz39_0, hfz39_1, hfz39_2⟩ := zC3 BK130))
    have n0_ : Aside0 ((((w37.setCell ⟨gb130, 0, none⟩ (.int .i64 ((rd_T54 l0_1 x13_1).f0))).setCell ⟨gb130, 1, none⟩ (.int .i64 ((rd_T54 l0_1 x13_1).f1))).setCell ⟨gb130, 2, none⟩ (.int .i64 ((rd_T54 l0_1 x13_1).f2))).heap[gb127]? = some (.cells #[.int .i64 a0_0, .slice (some ad129) l0_1.length c0_1] 30 (0, 0))) := ⟨zf3 BK127.out NB127_130.out NB127_130.out NB127_130.out⟩
    have n1_ : Aside0 ((((w37.setCell ⟨gb130, 0, none⟩ (.int .i64 ((rd_T54 l0_1 x13_1).f0))).setCell ⟨gb130, 1, none⟩ (.int .i64 ((rd_T54 l0_1 x13_1).f1))).setCell ⟨gb130, 2, none⟩ (.int .i64 ((rd_T54 l0_1 x13_1).f2))).heap[gb130]? = some (.cells #[.int .i64 ((rd_T54 l0_1 x13_1).f0), .int .i64 ((rd_T54 l0_1 x13_1).f1), .int .i64 ((rd_T54 l0_1 x13_1).f2)] 54 (0, 0))) := ⟨by (with_reducible repeat (first | refine blk_drewN ?_ _ | refine blk_drew ?_ | refine blk_alloc ?_ _)); refine blk_put (cs := #[.int .i64 ((rd_T54 l0_1 x13_1).f0), .int .i64 ((rd_T54 l0_1 x13_1).f1), .int .i64 0]) ?_ 2 _ rfl; (with_reducible repeat (first | refine blk_drewN ?_ _ | refine blk_drew ?_ | refine blk_alloc ?_ _)); refine blk_put (cs := #[.int .i64 ((rd_T54 l0_1 x13_1).f0), .int .i64 0, .int .i64 0]) ?_ 1 _ rfl; (with_reducible repeat (first | refine blk_drewN ?_ _ | refine blk_drew ?_ | refine blk_alloc ?_ _)); refine blk_put (cs := #[.int .i64 0, .int .i64 0, .int .i64 0]) ?_ 0 _ rfl; (with_reducible repeat (first | refine blk_drewN ?_ _ | refine blk_drew ?_ | refine blk_alloc ?_ _)); exact BK130.out⟩
    have n2_ : Aside0 (Below w.heap.size w (((w37.setCell ⟨gb130, 0, none⟩ (.int .i64 ((rd_T54 l0_1 x13_1).f0))).setCell ⟨gb130, 1, none⟩ (.int .i64 ((rd_T54 l0_1 x13_1).f1))).setCell ⟨gb130, 2, none⟩ (.int .i64 ((rd_T54 l0_1 x13_1).f2)))) := ⟨zh HB.out⟩
    (try clear BK127)
    (try clear BK130)
    (try clear HB)
    generalize (((w37.setCell ⟨gb130, 0, none⟩ (.int .i64 ((rd_T54 l0_1 x13_1).f0))).setCell ⟨gb130, 1, none⟩ (.int .i64 ((rd_T54 l0_1 x13_1).f1))).setCell ⟨gb130, 2, none⟩ (.int .i64 ((rd_T54 l0_1 x13_1).f2))) = w40 at n0_ n1_ n2_ ⊢
    have BK127 := n0_
    have BK130 := n1_
    have HB := n2_
    clear n0_ n1_ n2_
    have n0_ := Aside0.mk (blk_drew BK127.out)
    have n1_ := Aside0.mk (blk_drew BK130.out)
    have n2_ := Aside0.mk (below_drew1 HB.out)
    clear BK127 BK130 HB
    have BK127 := n0_
    have BK130 := n1_
    have HB := n2_
    clear n0_ n1_ n2_
    refine start_ (n := 16) (S := fun w' => w'.cell? ⟨gb130, 0, none⟩ = some (.int .i64 ((rd_T54 l0_1 x13_1).f0)) ∧ w'.cell? ⟨gb130, 1, none⟩ = some (.int .i64 ((rd_T54 l0_1 x13_1).f1)) ∧ w'.cell? ⟨gb130, 2, none⟩ = some (.int .i64 ((rd_T54 l0_1 x13_1).f2))) (ds := []) (tb 16 0) (by kernel_rfl) rfl rfl ⟨(blk_cell BK130.out 0).trans rfl, (blk_cell BK130.out 1).trans rfl, (blk_cell BK130.out 2).trans rfl⟩ (fun hHeld => ?_); refine with_tabW spec_pzText.tab7 spec_pzText.bits7 (fun HT_ HW_ => ?_)
    generalize w40.drew = w41 at BK127 BK130 HB hHeld ⊢
    refine zu (i := 0) (N := some 22) (tb 16 1) rfl rfl HT_ ?_
    refine zu (i := 1) (N := some 23) (tb 16 3) rfl rfl HT_ ?_
    refine zu (i := 5) (N := some 27) (tb 16 35) rfl rfl HT_ ?_
    refine zu (i := 10) (N := some 32) (tb 16 1059) rfl rfl HT_ ?_
    refine zt (i := 2) (N := some 24) (tb 16 1063) rfl rfl (take_ofW HT_.out HW_.out (by kernel_rfl)) hHeld ?_
    refine zt (i := 6) (N := some 28) (tb 16 1127) rfl rfl (take_ofW HT_.out HW_.out (by kernel_rfl)) hHeld ?_
    refine zt (i := 11) (N := some 33) (tb 16 3175) rfl rfl (take_ofW HT_.out HW_.out (by kernel_rfl)) hHeld ?_
    refine one_ (i := 3) (N := some 25) (tb 16 3183) rfl rfl (one_of HT_.out (by kernel_rfl)) (by decide) (fun K hK => ?_)
    refine goes_ Tryd.func31 (by kernel_rfl) rfl #[.int .i64 ((rd_T54 l0_1 x13_1).f0)] (by rfl) rfl rfl (by (try simp only [List.map_toArray, List.map_cons, List.map_nil]); first | done | rfl | (simp only [List.length_drop, List.length_take]; rfl)) ?_
    with_reducible refine (spec_l1Num.calls k1 ((rd_T54 l0_1 x13_1).f0) t134 _ A29.out).mono ?_
    rintro e w42 ⟨rfl, hb⟩
    refine ⟨_, rfl, ?_⟩
    have n0_ := Aside0.mk (blk_below (g := gb127) (o := .cells #[.int .i64 a0_0, .slice (some ad129) l0_1.length c0_1] 30 (0, 0)) (zb BK127.out) hb)
    have n1_ := Aside0.mk (blk_below (g := gb130) (o := .cells #[.int .i64 ((rd_T54 l0_1 x13_1).f0), .int .i64 ((rd_T54 l0_1 x13_1).f1), .int .i64 ((rd_T54 l0_1 x13_1).f2)] 54 (0, 0)) (zb BK130.out) hb)
    have n2_ := Aside0.mk (below_step (zh HB.out) hb)
    clear BK127 BK130 HB
    have BK127 := n0_
    have BK130 := n1_
    have HB := n2_
    clear n0_ n1_ n2_
    (try clear hb)
    (try clear hb2)
    (try clear hk)
    (try clear hi)
    refine hK.out _ _ ⟨(blk_cell BK130.out 0).trans rfl, (blk_cell BK130.out 1).trans rfl, (blk_cell BK130.out 2).trans rfl⟩ (fun hHeld => ?_)
    clear hK K
    refine zn1 ?_
    refine zu (i := 4) (N := some 26) (tb 16 3199) rfl rfl HT_ ?_
    refine one_ (i := 7) (N := some 29) (tb 16 3327) rfl rfl (one_of HT_.out (by kernel_rfl)) (by decide) (fun K hK => ?_)
    refine goes_ Tryd.func31 (by kernel_rfl) rfl #[.int .i64 ((rd_T54 l0_1 x13_1).f1)] (by rfl) rfl rfl (by (try simp only [List.map_toArray, List.map_cons, List.map_nil]); first | done | rfl | (simp only [List.length_drop, List.length_take]; rfl)) ?_
    with_reducible refine (spec_l1Num.calls k1 ((rd_T54 l0_1 x13_1).f1) t135 _ A31.out).mono ?_
    rintro e w43 ⟨rfl, hb⟩
    refine ⟨_, rfl, ?_⟩
    have n0_ := Aside0.mk (blk_below (g := gb127) (o := .cells #[.int .i64 a0_0, .slice (some ad129) l0_1.length c0_1] 30 (0, 0)) (zb BK127.out) hb)
    have n1_ := Aside0.mk (blk_below (g := gb130) (o := .cells #[.int .i64 ((rd_T54 l0_1 x13_1).f0), .int .i64 ((rd_T54 l0_1 x13_1).f1), .int .i64 ((rd_T54 l0_1 x13_1).f2)] 54 (0, 0)) (zb BK130.out) hb)
    have n2_ := Aside0.mk (below_step (zh HB.out) hb)
    clear BK127 BK130 HB
    have BK127 := n0_
    have BK130 := n1_
    have HB := n2_
    clear n0_ n1_ n2_
    (try clear hb)
    (try clear hb2)
    (try clear hk)
    (try clear hi)
    refine hK.out _ _ ⟨(blk_cell BK130.out 0).trans rfl, (blk_cell BK130.out 1).trans rfl, (blk_cell BK130.out 2).trans rfl⟩ (fun hHeld => ?_)
    clear hK K
    refine zn1 ?_
    refine zu (i := 8) (N := some 30) (tb 16 3583) rfl rfl HT_ ?_
    refine zu (i := 9) (N := some 31) (tb 16 4095) rfl rfl HT_ ?_
    refine one_ (i := 12) (N := some 34) (tb 16 8191) rfl rfl (one_of HT_.out (by kernel_rfl)) (by decide) (fun K hK => ?_)
    refine goes_ Tryd.func31 (by kernel_rfl) rfl #[.int .i64 ((rd_T54 l0_1 x13_1).f2)] (by rfl) rfl rfl (by (try simp only [List.map_toArray, List.map_cons, List.map_nil]); first | done | rfl | (simp only [List.length_drop, List.length_take]; rfl)) ?_
    with_reducible refine (spec_l1Num.calls k1 ((rd_T54 l0_1 x13_1).f2) t136 _ A34.out).mono ?_
    rintro e w44 ⟨rfl, hb⟩
    refine ⟨_, rfl, ?_⟩
    have n0_ := Aside0.mk (blk_below (g := gb127) (o := .cells #[.int .i64 a0_0, .slice (some ad129) l0_1.length c0_1] 30 (0, 0)) (zb BK127.out) hb)
    have n1_ := Aside0.mk (blk_below (g := gb130) (o := .cells #[.int .i64 ((rd_T54 l0_1 x13_1).f0), .int .i64 ((rd_T54 l0_1 x13_1).f1), .int .i64 ((rd_T54 l0_1 x13_1).f2)] 54 (0, 0)) (zb BK130.out) hb)
    have n2_ := Aside0.mk (below_step (zh HB.out) hb)
    clear BK127 BK130 HB
    have BK127 := n0_
    have BK130 := n1_
    have HB := n2_
    clear n0_ n1_ n2_
    (try clear hb)
    (try clear hb2)
    (try clear hk)
    (try clear hi)
    refine hK.out _ _ ⟨(blk_cell BK130.out 0).trans rfl, (blk_cell BK130.out 1).trans rfl, (blk_cell BK130.out 2).trans rfl⟩ (fun hHeld => ?_)
    clear hK K
    refine zn1 ?_
    refine zu (i := 13) (N := some 35) (tb 16 16383) rfl rfl HT_ ?_
    refine zu (i := 14) (N := some 36) (tb 16 32767) rfl rfl HT_ ?_
    refine zu (i := 15) (N := some 3) (tb 16 65535) rfl rfl HT_ ?_
    refine done_ (done_of HT_.out (by kernel_rfl)) ?_
    try go_wp2
    go_roundg k1
    case measure => have := HK1.out; omega
    case rel => exact ⟨(x3_1 ++ ((((t134 ++ (⟨#[46]⟩ : ByteArray)) ++ t135) ++ (⟨#[46]⟩ : ByteArray)) ++ t136)), (wrap64 (x13_1 + 1)), zE, zE, H', zO HK1, ⟨zb BK127.out⟩, ⟨zh HB.out⟩⟩
   rw [if_pos c11] at H
   have c11b0 := decide_eq_true c11
   clear c11
   by_cases c12 : x3_1.size + 1 ≤ 9223372036854775807
   rotate_left
   ·rw [if_neg c12] at H
    cases H
   rw [if_pos c12] at H
   have c12b0 := eq_true c12
   have c12b1 := decide_eq_true c12
   try have c12b2 : (9223372036854775807 < x3_1.size + 1) = False := eq_false (Nat.not_lt.2 c12)
   replace H := Option.bind_eq_some_iff.mp H
   obtain ⟨t131, A130, H⟩ := H
   have A13 := Aside0.mk A130
   clear A130
   by_cases c14 : t131.size + 1 ≤ 9223372036854775807
   rotate_left
   ·rw [if_neg c14] at H
    cases H
   rw [if_pos c14] at H
   have c14b0 := eq_true c14
   have c14b1 := decide_eq_true c14
   try have c14b2 : (9223372036854775807 < t131.size + 1) = False := eq_false (Nat.not_lt.2 c14)
   replace H := Option.bind_eq_some_iff.mp H
   obtain ⟨t132, A150, H⟩ := H
   have A15 := Aside0.mk A150
   clear A150
   by_cases c16 : (t131 ++ (⟨#[46]⟩ : ByteArray)).size + t132.size ≤ 9223372036854775807
   rotate_left
   ·rw [if_neg c16] at H
    cases H
   rw [if_pos c16] at H
   have c16b0 := eq_true c16
   have c16b1 := decide_eq_true c16
   try have c16b2 : (9223372036854775807 < (t131 ++ (⟨#[46]⟩ : ByteArray)).size + t132.size) = False := eq_false (Nat.not_lt.2 c16)
   try have c16b3 : (9223372036854775807 < t131.size + 1 + t132.size) = False := eq_false (Nat.not_lt.2 (by have h_ := c16; simp only [ByteArray.size_append] at h_; exact h_))
   by_cases c17 : ((t131 ++ (⟨#[46]⟩ : ByteArray)) ++ t132).size + 1 ≤ 9223372036854775807
   rotate_left
   ·rw [if_neg c17] at H
    cases H
   rw [if_pos c17] at H
   have c17b0 := eq_true c17
   have c17b1 := decide_eq_true c17
   try have c17b2 : (9223372036854775807 < ((t131 ++ (⟨#[46]⟩ : ByteArray)) ++ t132).size + 1) = False := eq_false (Nat.not_lt.2 c17)
   try have c17b3 : (9223372036854775807 < t131.size + 1 + t132.size + 1) = False := eq_false (Nat.not_lt.2 (by have h_ := c17; simp only [ByteArray.size_append] at h_; exact h_))
   replace H := Option.bind_eq_some_iff.mp H
   obtain ⟨t133, A180, H⟩ := H
   have A18 := Aside0.mk A180
   clear A180
   by_cases c19 : (((t131 ++ (⟨#[46]⟩ : ByteArray)) ++ t132) ++ (⟨#[46]⟩ : ByteArray)).size + t133.size ≤ 9223372036854775807
   rotate_left
   ·rw [if_neg c19] at H
    cases H
   rw [if_pos c19] at H
   have c19b0 := eq_true c19
   have c19b1 := decide_eq_true c19
   try have c19b2 : (9223372036854775807 < (((t131 ++ (⟨#[46]⟩ : ByteArray)) ++ t132) ++ (⟨#[46]⟩ : ByteArray)).size + t133.size) = False := eq_false (Nat.not_lt.2 c19)
   try have c19b3 : (9223372036854775807 < t131.size + 1 + t132.size + 1 + t133.size) = False := eq_false (Nat.not_lt.2 (by have h_ := c19; simp only [ByteArray.size_append] at h_; exact h_))
   by_cases c20 : (x3_1 ++ (⟨#[44]⟩ : ByteArray)).size + ((((t131 ++ (⟨#[46]⟩ : ByteArray)) ++ t132) ++ (⟨#[46]⟩ : ByteArray)) ++ t133).size ≤ 9223372036854775807
   rotate_left
   ·rw [if_neg c20] at H
    cases H
   rw [if_pos c20] at H
   have c20b0 := eq_true c20
   have c20b1 := decide_eq_true c20
   try have c20b2 : (9223372036854775807 < (x3_1 ++ (⟨#[44]⟩ : ByteArray)).size + ((((t131 ++ (⟨#[46]⟩ : ByteArray)) ++ t132) ++ (⟨#[46]⟩ : ByteArray)) ++ t133).size) = False := eq_false (Nat.not_lt.2 c20)
   try have c20b3 : (9223372036854775807 < x3_1.size + 1 + (t131.size + 1 + t132.size + 1 + t133.size)) = False := eq_false (Nat.not_lt.2 (by have h_ := c20; simp only [ByteArray.size_append] at h_; exact h_))
   have H' := Aside0.mk H
   clear H
   obtain ⟨⟨ad129, e129, hx129_0, hx129_1, hx129_2⟩, p129, q129⟩ := zW (at_T54 HR0_1.out x13_1)
   cases e129
   replace hx129_0 := zx HB.out hx129_0
   replace hx129_1 := zx HB.out hx129_1
   replace hx129_2 := zx HB.out hx129_2
   try go_wp2_with (first | ((with_reducible refine gate_dst (N := 5) rfl ?_); refine zq 5 #[.int .i64 0, .int .i64 0, .int .i64 0] 54 ?_; intro gb130 hg w21 hbox hb; have BK130 := Aside0.mk hbox; have GW130 := zG hg HB; have GE130 := zG hg HB; have NB127_130 := zNa hg BK127; have NB130_127 := zNb hg BK127; replace BK127 := zK BK127 hb; replace HB := zH hb HB; clear hb hbox hg; have hnb22 := NB130_127.out; have hnc22 := NB127_130.out; obtain ⟨hcz23_0, hcz23_1, hcz23_2, hfz23_0, hfz23_1, hfz23_2⟩ := zC3 BK130))
   have n0_ : Aside0 ((((w21.setCell ⟨gb130, 0, none⟩ (.int .i64 ((rd_T54 l0_1 x13_1).f0))).setCell ⟨gb130, 1, none⟩ (.int .i64 ((rd_T54 l0_1 x13_1).f1))).setCell ⟨gb130, 2, none⟩ (.int .i64 ((rd_T54 l0_1 x13_1).f2))).heap[gb127]? = some (.cells #[.int .i64 a0_0, .slice (some ad129) l0_1.length c0_1] 30 (0, 0))) := ⟨zf3 BK127.out NB127_130.out NB127_130.out NB127_130.out⟩
   have n1_ : Aside0 ((((w21.setCell ⟨gb130, 0, none⟩ (.int .i64 ((rd_T54 l0_1 x13_1).f0))).setCell ⟨gb130, 1, none⟩ (.int .i64 ((rd_T54 l0_1 x13_1).f1))).setCell ⟨gb130, 2, none⟩ (.int .i64 ((rd_T54 l0_1 x13_1).f2))).heap[gb130]? = some (.cells #[.int .i64 ((rd_T54 l0_1 x13_1).f0), .int .i64 ((rd_T54 l0_1 x13_1).f1), .int .i64 ((rd_T54 l0_1 x13_1).f2)] 54 (0, 0))) := ⟨by (with_reducible repeat (first | refine blk_drewN ?_ _ | refine blk_drew ?_ | refine blk_alloc ?_ _)); refine blk_put (cs := #[.int .i64 ((rd_T54 l0_1 x13_1).f0), .int .i64 ((rd_T54 l0_1 x13_1).f1), .int .i64 0]) ?_ 2 _ rfl; (with_reducible repeat (first | refine blk_drewN ?_ _ | refine blk_drew ?_ | refine blk_alloc ?_ _)); refine blk_put (cs := #[.int .i64 ((rd_T54 l0_1 x13_1).f0), .int .i64 0, .int .i64 0]) ?_ 1 _ rfl; (with_reducible repeat (first | refine blk_drewN ?_ _ | refine blk_drew ?_ | refine blk_alloc ?_ _)); refine blk_put (cs := #[.int .i64 0, .int .i64 0, .int .i64 0]) ?_ 0 _ rfl; (with_reducible repeat (first | refine blk_drewN ?_ _ | refine blk_drew ?_ | refine blk_alloc ?_ _)); exact BK130.out⟩
   have n2_ : Aside0 (Below w.heap.size w (((w21.setCell ⟨gb130, 0, none⟩ (.int .i64 ((rd_T54 l0_1 x13_1).f0))).setCell ⟨gb130, 1, none⟩ (.int .i64 ((rd_T54 l0_1 x13_1).f1))).setCell ⟨gb130, 2, none⟩ (.int .i64 ((rd_T54 l0_1 x13_1).f2)))) := ⟨zh HB.out⟩
   (try clear BK127)
   (try clear BK130)
   (try clear HB)
   generalize (((w21.setCell ⟨gb130, 0, none⟩ (.int .i64 ((rd_T54 l0_1 x13_1).f0))).setCell ⟨gb130, 1, none⟩ (.int .i64 ((rd_T54 l0_1 x13_1).f1))).setCell ⟨gb130, 2, none⟩ (.int .i64 ((rd_T54 l0_1 x13_1).f2))) = w24 at n0_ n1_ n2_ ⊢
   have BK127 := n0_
   have BK130 := n1_
   have HB := n2_
   clear n0_ n1_ n2_
   have n0_ := Aside0.mk (blk_drew BK127.out)
   have n1_ := Aside0.mk (blk_drew BK130.out)
   have n2_ := Aside0.mk (below_drew1 HB.out)
   clear BK127 BK130 HB
   have BK127 := n0_
   have BK130 := n1_
   have HB := n2_
   clear n0_ n1_ n2_
   refine start_ (n := 16) (S := fun w' => w'.cell? ⟨gb130, 0, none⟩ = some (.int .i64 ((rd_T54 l0_1 x13_1).f0)) ∧ w'.cell? ⟨gb130, 1, none⟩ = some (.int .i64 ((rd_T54 l0_1 x13_1).f1)) ∧ w'.cell? ⟨gb130, 2, none⟩ = some (.int .i64 ((rd_T54 l0_1 x13_1).f2))) (ds := []) (tb 16 0) (by kernel_rfl) rfl rfl ⟨(blk_cell BK130.out 0).trans rfl, (blk_cell BK130.out 1).trans rfl, (blk_cell BK130.out 2).trans rfl⟩ (fun hHeld => ?_); refine with_tabW spec_pzText.tab7 spec_pzText.bits7 (fun HT_ HW_ => ?_)
   generalize w24.drew = w25 at BK127 BK130 HB hHeld ⊢
   refine zu (i := 0) (N := some 22) (tb 16 1) rfl rfl HT_ ?_
   refine zu (i := 1) (N := some 23) (tb 16 3) rfl rfl HT_ ?_
   refine zu (i := 5) (N := some 27) (tb 16 35) rfl rfl HT_ ?_
   refine zu (i := 10) (N := some 32) (tb 16 1059) rfl rfl HT_ ?_
   refine zt (i := 2) (N := some 24) (tb 16 1063) rfl rfl (take_ofW HT_.out HW_.out (by kernel_rfl)) hHeld ?_
   refine zt (i := 6) (N := some 28) (tb 16 1127) rfl rfl (take_ofW HT_.out HW_.out (by kernel_rfl)) hHeld ?_
   refine zt (i := 11) (N := some 33) (tb 16 3175) rfl rfl (take_ofW HT_.out HW_.out (by kernel_rfl)) hHeld ?_
   refine one_ (i := 3) (N := some 25) (tb 16 3183) rfl rfl (one_of HT_.out (by kernel_rfl)) (by decide) (fun K hK => ?_)
   refine goes_ Tryd.func31 (by kernel_rfl) rfl #[.int .i64 ((rd_T54 l0_1 x13_1).f0)] (by rfl) rfl rfl (by (try simp only [List.map_toArray, List.map_cons, List.map_nil]); first | done | rfl | (simp only [List.length_drop, List.length_take]; rfl)) ?_
   with_reducible refine (spec_l1Num.calls k1 ((rd_T54 l0_1 x13_1).f0) t131 _ A13.out).mono ?_
   rintro e w26 ⟨rfl, hb⟩
   refine ⟨_, rfl, ?_⟩
   have n0_ := Aside0.mk (blk_below (g := gb127) (o := .cells #[.int .i64 a0_0, .slice (some ad129) l0_1.length c0_1] 30 (0, 0)) (zb BK127.out) hb)
   have n1_ := Aside0.mk (blk_below (g := gb130) (o := .cells #[.int .i64 ((rd_T54 l0_1 x13_1).f0), .int .i64 ((rd_T54 l0_1 x13_1).f1), .int .i64 ((rd_T54 l0_1 x13_1).f2)] 54 (0, 0)) (zb BK130.out) hb)
   have n2_ := Aside0.mk (below_step (zh HB.out) hb)
   clear BK127 BK130 HB
   have BK127 := n0_
   have BK130 := n1_
   have HB := n2_
   clear n0_ n1_ n2_
   (try clear hb)
   (try clear hb2)
   (try clear hk)
   (try clear hi)
   refine hK.out _ _ ⟨(blk_cell BK130.out 0).trans rfl, (blk_cell BK130.out 1).trans rfl, (blk_cell BK130.out 2).trans rfl⟩ (fun hHeld => ?_)
   clear hK K
   refine zn1 ?_
   refine zu (i := 4) (N := some 26) (tb 16 3199) rfl rfl HT_ ?_
   refine one_ (i := 7) (N := some 29) (tb 16 3327) rfl rfl (one_of HT_.out (by kernel_rfl)) (by decide) (fun K hK => ?_)
   refine goes_ Tryd.func31 (by kernel_rfl) rfl #[.int .i64 ((rd_T54 l0_1 x13_1).f1)] (by rfl) rfl rfl (by (try simp only [List.map_toArray, List.map_cons, List.map_nil]); first | done | rfl | (simp only [List.length_drop, List.length_take]; rfl)) ?_
   with_reducible refine (spec_l1Num.calls k1 ((rd_T54 l0_1 x13_1).f1) t132 _ A15.out).mono ?_
   rintro e w27 ⟨rfl, hb⟩
   refine ⟨_, rfl, ?_⟩
   have n0_ := Aside0.mk (blk_below (g := gb127) (o := .cells #[.int .i64 a0_0, .slice (some ad129) l0_1.length c0_1] 30 (0, 0)) (zb BK127.out) hb)
   have n1_ := Aside0.mk (blk_below (g := gb130) (o := .cells #[.int .i64 ((rd_T54 l0_1 x13_1).f0), .int .i64 ((rd_T54 l0_1 x13_1).f1), .int .i64 ((rd_T54 l0_1 x13_1).f2)] 54 (0, 0)) (zb BK130.out) hb)
   have n2_ := Aside0.mk (below_step (zh HB.out) hb)
   clear BK127 BK130 HB
   have BK127 := n0_
   have BK130 := n1_
   have HB := n2_
   clear n0_ n1_ n2_
   (try clear hb)
   (try clear hb2)
   (try clear hk)
   (try clear hi)
   refine hK.out _ _ ⟨(blk_cell BK130.out 0).trans rfl, (blk_cell BK130.out 1).trans rfl, (blk_cell BK130.out 2).trans rfl⟩ (fun hHeld => ?_)
   clear hK K
   refine zn1 ?_
   refine zu (i := 8) (N := some 30) (tb 16 3583) rfl rfl HT_ ?_
   refine zu (i := 9) (N := some 31) (tb 16 4095) rfl rfl HT_ ?_
   refine one_ (i := 12) (N := some 34) (tb 16 8191) rfl rfl (one_of HT_.out (by kernel_rfl)) (by decide) (fun K hK => ?_)
   refine goes_ Tryd.func31 (by kernel_rfl) rfl #[.int .i64 ((rd_T54 l0_1 x13_1).f2)] (by rfl) rfl rfl (by (try simp only [List.map_toArray, List.map_cons, List.map_nil]); first | done | rfl | (simp only [List.length_drop, List.length_take]; rfl)) ?_
   with_reducible refine (spec_l1Num.calls k1 ((rd_T54 l0_1 x13_1).f2) t133 _ A18.out).mono ?_
   rintro e w28 ⟨rfl, hb⟩
   refine ⟨_, rfl, ?_⟩
   have n0_ := Aside0.mk (blk_below (g := gb127) (o := .cells #[.int .i64 a0_0, .slice (some ad129) l0_1.length c0_1] 30 (0, 0)) (zb BK127.out) hb)
   have n1_ := Aside0.mk (blk_below (g := gb130) (o := .cells #[.int .i64 ((rd_T54 l0_1 x13_1).f0), .int .i64 ((rd_T54 l0_1 x13_1).f1), .int .i64 ((rd_T54 l0_1 x13_1).f2)] 54 (0, 0)) (zb BK130.out) hb)
   have n2_ := Aside0.mk (below_step (zh HB.out) hb)
   clear BK127 BK130 HB
   have BK127 := n0_
   have BK130 := n1_
   have HB := n2_
   clear n0_ n1_ n2_
   (try clear hb)
   (try clear hb2)
   (try clear hk)
   (try clear hi)
   refine hK.out _ _ ⟨(blk_cell BK130.out 0).trans rfl, (blk_cell BK130.out 1).trans rfl, (blk_cell BK130.out 2).trans rfl⟩ (fun hHeld => ?_)
   clear hK K
   refine zn1 ?_
   refine zu (i := 13) (N := some 35) (tb 16 16383) rfl rfl HT_ ?_
   refine zu (i := 14) (N := some 36) (tb 16 32767) rfl rfl HT_ ?_
   refine zu (i := 15) (N := some 3) (tb 16 65535) rfl rfl HT_ ?_
   refine done_ (done_of HT_.out (by kernel_rfl)) ?_
   try go_wp2
   go_roundg k1
   case measure => have := HK1.out; omega
   case rel => exact ⟨((x3_1 ++ (⟨#[44]⟩ : ByteArray)) ++ ((((t131 ++ (⟨#[46]⟩ : ByteArray)) ++ t132) ++ (⟨#[46]⟩ : ByteArray)) ++ t133)), (wrap64 (x13_1 + 1)), zE, zE, H', zO HK1, ⟨zb BK127.out⟩, ⟨zh HB.out⟩⟩
def spec_pzParse.l0 : Nat → ByteArray → List ByteArray → Int → Int → Int → List (S54) → Option (Int × (List (S54)) × Bool)
 | 0, _, _, _, _, _, _ => none
 | k + 1, x0, x32, x33, x34, x247000, x247001 => if x34 < x33 then (if 0 ≤ x34 then (if x34 < (x32.length : Int) then ((spec_l1Split.f k (rdOf ByteArray.empty x32 x34) 46).bind fun t255 => (if (t255.length : Int) = 3 then (if 0 < (t255.length : Int) then ((spec_l1Read.f k (rdOf ByteArray.empty t255 0)).bind fun t259 => (if 1 < (t255.length : Int) then ((spec_l1Read.f k (rdOf ByteArray.empty t255 1)).bind fun t261 => (if 2 < (t255.length : Int) then ((spec_l1Read.f k (rdOf ByteArray.empty t255 2)).bind fun t263 => (if x247001.length < 5864062014805 then (spec_pzParse.l0 k x0 x32 x33 (wrap64 (x34 + 1)) x247000 (x247001 ++ [(⟨t259, t261, t263⟩ : S54)])) else (none))) else (none))) else (none))) else (none)) else (some (0, ([] : List (S54)), false)))) else (none)) else (none)) else ((spec_pzGood.f k x247000 x247001).bind fun t252 => (if t252 = true then ((spec_pzText.f k x247000 x247001).bind fun t253 => (some (x247000, x247001, (t253.toList == x0.toList)))) else (some (x247000, x247001, false))))
def spec_pzParse.f (k : Nat) (a0 : ByteArray) : Option (Int × (List (S54)) × Bool) := if (a0.size : Int) > 100 then (some (0, ([] : List (S54)), false)) else ((spec_l1Split.f k a0 58).bind fun t241 => (if (t241.length : Int) = 2 then (if 0 < (t241.length : Int) then ((spec_l1Read.f k (rdOf ByteArray.empty t241 0)).bind fun t245 => (if 1 < (t241.length : Int) then (if ((rdOf ByteArray.empty t241 1).size : Int) > 0 then ((spec_l1Split.f k (rdOf ByteArray.empty t241 1) 44).bind fun t249 => (spec_pzParse.l0 k a0 t249 (t249.length : Int) 0 t245 ([] : List (S54)))) else ((spec_pzGood.f k t245 ([] : List (S54))).bind fun t267 => (if t267 = true then ((spec_pzText.f k t245 ([] : List (S54))).bind fun t268 => (some (t245, ([] : List (S54)), (t268.toList == a0.toList)))) else (some (t245, ([] : List (S54)), false))))) else (none))) else (none)) else (some (0, ([] : List (S54)), false))))
def spec_pzParse.T14 : Bool × List (List Nat × List Nat) := (true, [([], []), ([0], [0]), ([], []), ([2], [2]), ([3], [3]), ([4], [4]), ([], []), ([6], [6]), ([7], [7]), ([8, 5], [8]), ([], []), ([10], [10]), ([11], [11]), ([12, 9], [12]), ([5, 9, 13], [5, 9, 13]), ([14], [14]), ([1, 15, 13], [1, 15]), ([0, 1, 2, 3, 4, 5, 6, 7, 8, 9, 10, 11, 12, 13, 14, 15, 16], []), ([17, 16, 16, 0, 1, 2, 3, 4, 5, 6, 7, 8, 9, 10, 11, 12, 13, 14, 15, 16], [16, 17])])
def spec_pzParse.B14 : List Nat := [0, 1, 0, 4, 12, 28, 0, 64, 192, 508, 0, 1024, 3072, 8188, 16380, 32764, 65535, 131071, 262143]
theorem spec_pzParse.tab14 : rtab .any (opsOf Tryd.f21 14) = spec_pzParse.T14 := by kernel_rfl
theorem spec_pzParse.bits14 : waitsOk spec_pzParse.T14.2 spec_pzParse.B14 = true := by kernel_rfl
def spec_pzParse.T16 : Bool × List (List Nat × List Nat) := (true, [([], []), ([], []), ([1], [1]), ([2, 2], [2]), ([3], [3]), ([4, 3, 3], [3, 4]), ([3], [3]), ([5, 6, 3], [3, 5, 6]), ([3, 7], [3, 7]), ([0, 5, 0], [0]), ([8, 9, 0, 1, 2, 3, 4, 5, 6, 7, 8, 9], [8])])
def spec_pzParse.B16 : List Nat := [0, 0, 2, 6, 14, 30, 14, 126, 254, 63, 1023]
theorem spec_pzParse.tab16 : rtab .any (opsOf Tryd.f21 16) = spec_pzParse.T16 := by kernel_rfl
theorem spec_pzParse.bits16 : waitsOk spec_pzParse.T16.2 spec_pzParse.B16 = true := by kernel_rfl
set_option maxHeartbeats 8000000 in
set_option maxRecDepth 100000 in
theorem spec_pzParse.calls (k : Nat) (a0 : ByteArray) (r1 : Int) (r2 : List (S54)) (r3 : Bool) (w : World) (h : spec_pzParse.f k a0 = some (r1, r2, r3)) :
  Calls Tryd.prog 21 #[.string a0] w fun e w' => ∃ v1_ : Value, e = .returned (.tuple #[.agg #[.int .i64 r1, v1_], .bool r3]) ∧ Kd.R k54 54 w' w.heap.size (fun _ => True) v1_ r2 ∧ Below w.heap.size w w' := by
 have hu30 := Tryd.underlying30
 have hu54 := Tryd.underlying54
 have HB := Aside0.mk (Below.refl w.heap.size w)
 have H : (if (a0.size : Int) > 100 then (some (0, ([] : List (S54)), false)) else ((spec_l1Split.f k a0 58).bind fun t241 => (if (t241.length : Int) = 2 then (if 0 < (t241.length : Int) then ((spec_l1Read.f k (rdOf ByteArray.empty t241 0)).bind fun t245 => (if 1 < (t241.length : Int) then (if ((rdOf ByteArray.empty t241 1).size : Int) > 0 then ((spec_l1Split.f k (rdOf ByteArray.empty t241 1) 44).bind fun t249 => (spec_pzParse.l0 k a0 t249 (t249.length : Int) 0 t245 ([] : List (S54)))) else ((spec_pzGood.f k t245 ([] : List (S54))).bind fun t267 => (if t267 = true then ((spec_pzText.f k t245 ([] : List (S54))).bind fun t268 => (some (t245, ([] : List (S54)), (t268.toList == a0.toList)))) else (some (t245, ([] : List (S54)), false))))) else (none))) else (none)) else (some (0, ([] : List (S54)), false))))) = some (r1, r2, r3) := h
 clear h
 by_cases c2 : (a0.size : Int) > 100
 ·rw [if_pos c2] at H
  have c2b0 := decide_eq_true c2
  have c2b1 : decide (100 < a0.size) = true := decide_eq_true (by omega)
  clear c2
  simp only [Option.some.injEq, Prod.mk.injEq] at H
  obtain ⟨rfl, rfl, rfl⟩ := H
  go_enter Tryd.func21, Tryd.ntmps21
  go_wp2_with (first | ((with_reducible refine gate_dst (N := 2) rfl ?_); refine zq 2 #[.int .i64 0, .slice none 0 0] 30 ?_; intro gb240 hg w3 hbox hb; have GW240 := zG hg HB; replace HB := zH hb HB; have BK240 := Aside0.mk hbox; have GE240 := GW240; clear hb hbox hg; obtain ⟨hcz4_0, hcz4_1, hfz4_0, hfz4_1⟩ := zC2 BK240))
  refine bodyPost_ret (results_ct rfl _ _ gb240 30 #[.int .i64 0, .slice none 0 0] (0, 0) _ rfl (by (with_reducible repeat (first | refine blk_drewN ?_ _ | refine blk_drew ?_ | refine blk_alloc ?_ _)); refine blk_put (cs := #[.int .i64 0, .slice none 0 0]) ?_ 1 _ rfl; (with_reducible repeat (first | refine blk_drewN ?_ _ | refine blk_drew ?_ | refine blk_alloc ?_ _)); refine blk_put (cs := #[.int .i64 0, .slice none 0 0]) ?_ 0 _ rfl; (with_reducible repeat (first | refine blk_drewN ?_ _ | refine blk_drew ?_ | refine blk_alloc ?_ _)); exact BK240.out) Tryd.underlying30 rfl (by kernel_rfl)) rfl ?_
  exact ⟨_, by first | rfl | (simp [*, errW_none, errW_some] <;> rfl), by first | exact Kd.R_nil _ _ _ _ _ | exact Kd.N_nil _ _ _ _ _ | exact Kd.V_nil _ _ _ _ _ | exact Kd.Q_nil _ _ _ _ _ | exact Kd.S_nil _ _ _ _ _, zh HB.out⟩
 rw [if_neg c2] at H
 have c2b0 := decide_eq_false c2
 have c2b1 : decide (100 < a0.size) = false := decide_eq_false (by omega)
 clear c2
 replace H := Option.bind_eq_some_iff.mp H
 obtain ⟨t241, A50, H⟩ := H
 replace H : (if (t241.length : Int) = 2 then (if 0 < (t241.length : Int) then ((spec_l1Read.f k (rdOf ByteArray.empty t241 0)).bind fun t245 => (if 1 < (t241.length : Int) then (if ((rdOf ByteArray.empty t241 1).size : Int) > 0 then ((spec_l1Split.f k (rdOf ByteArray.empty t241 1) 44).bind fun t249 => (spec_pzParse.l0 k a0 t249 (t249.length : Int) 0 t245 ([] : List (S54)))) else ((spec_pzGood.f k t245 ([] : List (S54))).bind fun t267 => (if t267 = true then ((spec_pzText.f k t245 ([] : List (S54))).bind fun t268 => (some (t245, ([] : List (S54)), (t268.toList == a0.toList)))) else (some (t245, ([] : List (S54)), false))))) else (none))) else (none)) else (some (0, ([] : List (S54)), false))) = some (r1, r2, r3) := H
 have A5 := Aside0.mk A50
 clear A50
 by_cases c6 : (t241.length : Int) = 2
 rotate_left
 ·rw [if_neg c6] at H
  have c6b0 := beq_eq_false_iff_ne.mpr c6
  have c6b1 := bne_iff_ne.mpr c6
  simp only [Option.some.injEq, Prod.mk.injEq] at H
  obtain ⟨rfl, rfl, rfl⟩ := H
  go_enter Tryd.func21, Tryd.ntmps21
  go_wp2_with (first | ((with_reducible refine gate_dst (N := 2) rfl ?_); refine zq 2 #[.int .i64 0, .slice none 0 0] 30 ?_; intro gb240 hg w82 hbox hb; have GW240 := zG hg HB; replace HB := zH hb HB; have BK240 := Aside0.mk hbox; have GE240 := GW240; clear hb hbox hg) | ((with_reducible refine gate_callee (f := 40) rfl ?_); refine zl 14 Tryd.func40 #[.string a0, .int .u8 58] ?_; (with_reducible refine (spec_l1Split.calls k a0 58 t241 _ A5.out).mono ?_); rintro e w83 ⟨v242, rfl, ho0, hb⟩; refine ⟨_, rfl, ?_⟩; have HO243 := Aside0.mk (Kd.R_lower ho0 (below_size (zh HB.out))); replace BK240 := zK BK240 hb; replace HB := zH hb HB; clear hb; (try clear ho0); obtain ⟨Ao84, co84, eo84⟩ := Kd.R_slice HO243.out; subst eo84; obtain ⟨hcz85_0, hcz85_1, hfz85_0, hfz85_1⟩ := zC2 BK240))
  refine bodyPost_ret (results_ct rfl _ _ gb240 30 #[.int .i64 0, .slice none 0 0] (0, 0) _ rfl (by (with_reducible repeat (first | refine blk_drewN ?_ _ | refine blk_drew ?_ | refine blk_alloc ?_ _)); refine blk_put (cs := #[.int .i64 0, .slice none 0 0]) ?_ 1 _ rfl; (with_reducible repeat (first | refine blk_drewN ?_ _ | refine blk_drew ?_ | refine blk_alloc ?_ _)); refine blk_put (cs := #[.int .i64 0, .slice none 0 0]) ?_ 0 _ rfl; (with_reducible repeat (first | refine blk_drewN ?_ _ | refine blk_drew ?_ | refine blk_alloc ?_ _)); exact BK240.out) Tryd.underlying30 rfl (by kernel_rfl)) rfl ?_
  exact ⟨_, by first | rfl | (simp [*, errW_none, errW_some] <;> rfl), by first | exact Kd.R_nil _ _ _ _ _ | exact Kd.N_nil _ _ _ _ _ | exact Kd.V_nil _ _ _ _ _ | exact Kd.Q_nil _ _ _ _ _ | exact Kd.S_nil _ _ _ _ _, zh HB.out⟩
 rw [if_pos c6] at H
 have c6b0 := beq_iff_eq.mpr c6
 have c6b1 := bne_eq_false_iff_eq.mpr c6
 clear c6
 by_cases c7 : 0 < (t241.length : Int)
 rotate_left
 ·rw [if_neg c7] at H
  cases H
 rw [if_pos c7] at H
 have c7b0 := decide_eq_true c7
 have c7b1 : decide (0 < t241.length) = true := decide_eq_true (by omega)
 clear c7
 replace H := Option.bind_eq_some_iff.mp H
 obtain ⟨t245, A80, H⟩ := H
 replace H : (if 1 < (t241.length : Int) then (if ((rdOf ByteArray.empty t241 1).size : Int) > 0 then ((spec_l1Split.f k (rdOf ByteArray.empty t241 1) 44).bind fun t249 => (spec_pzParse.l0 k a0 t249 (t249.length : Int) 0 t245 ([] : List (S54)))) else ((spec_pzGood.f k t245 ([] : List (S54))).bind fun t267 => (if t267 = true then ((spec_pzText.f k t245 ([] : List (S54))).bind fun t268 => (some (t245, ([] : List (S54)), (t268.toList == a0.toList)))) else (some (t245, ([] : List (S54)), false))))) else (none)) = some (r1, r2, r3) := H
 have A8 := Aside0.mk A80
 clear A80
 by_cases c9 : 1 < (t241.length : Int)
 rotate_left
 ·rw [if_neg c9] at H
  cases H
 rw [if_pos c9] at H
 have c9b0 := decide_eq_true c9
 have c9b1 : decide (1 < t241.length) = true := decide_eq_true (by omega)
 clear c9
 by_cases c10 : ((rdOf ByteArray.empty t241 1).size : Int) > 0
 rotate_left
 ·rw [if_neg c10] at H
  have c10b0 := decide_eq_false c10
  have c10b1 : decide (0 < (rdOf ByteArray.empty t241 1).size) = false := decide_eq_false (by omega)
  clear c10
  replace H := Option.bind_eq_some_iff.mp H
  obtain ⟨t267, A560, H⟩ := H
  replace H : (if t267 = true then ((spec_pzText.f k t245 ([] : List (S54))).bind fun t268 => (some (t245, ([] : List (S54)), (t268.toList == a0.toList)))) else (some (t245, ([] : List (S54)), false))) = some (r1, r2, r3) := H
  have A56 := Aside0.mk A560
  clear A560
  by_cases c57 : t267 = true
  rotate_left
  ·replace c57 := Bool.eq_false_iff.mpr c57
   subst c57
   rw [if_neg zF] at H
   simp only [Option.some.injEq, Prod.mk.injEq] at H
   obtain ⟨rfl, rfl, rfl⟩ := H
   go_enter Tryd.func21, Tryd.ntmps21
   try go_wp2_with (first | ((with_reducible refine gate_dst (N := 2) rfl ?_); refine zq 2 #[.int .i64 0, .slice none 0 0] 30 ?_; intro gb240 hg w71 hbox hb; have GW240 := zG hg HB; replace HB := zH hb HB; have BK240 := Aside0.mk hbox; have GE240 := GW240; clear hb hbox hg) | ((with_reducible refine gate_callee (f := 40) rfl ?_); refine zl 14 Tryd.func40 #[.string a0, .int .u8 58] ?_; (with_reducible refine (spec_l1Split.calls k a0 58 t241 _ A5.out).mono ?_); rintro e w72 ⟨v242, rfl, ho0, hb⟩; refine ⟨_, rfl, ?_⟩; have HO243 := Aside0.mk (Kd.R_lower ho0 (below_size (zh HB.out))); replace BK240 := zK BK240 hb; replace HB := zH hb HB; clear hb; (try clear ho0); obtain ⟨Ao73, co73, eo73⟩ := Kd.R_slice HO243.out; subst eo73; have p244 : 0 ≤ (0 : Int) := (by omega); have q244 : 0 < (t241.length : Int) := zk; obtain ⟨ad244, e244, hx244_0⟩ := Kd.at_string (Kd.R_reads' HO243.out).2.2 0 p244 q244; cases e244; have qi244 : (0 < t241.length) = True := eq_true (by omega); (try rw [show ((0 : Int)).toNat = 0 from rfl] at hx244_0); (try rw [Addr.add_zero'] at hx244_0); replace p244 := eq_true p244; replace q244 := eq_true q244) | ((with_reducible refine gate_callee (f := 41) rfl ?_); refine zl 22 Tryd.func41 #[.string (rdOf ByteArray.empty t241 0)] ?_; (with_reducible refine (spec_l1Read.calls k (rdOf ByteArray.empty t241 0) t245 _ A8.out).mono ?_); rintro e w' ⟨rfl, ⟨nd, rfl⟩⟩; refine ⟨_, rfl, ?_⟩; (try (rw [drewN_self w72]; generalize hq_ : World.drewN w72 _ = w72; have n0_ : Aside0 (Kd.R Kd.string 9 w72 w.heap.size (fun _ => True) (.slice (some ad244) t241.length co73) t241) := ⟨by rw [← hq_]; exact (zr HO243.out)⟩; have n1_ : Aside0 (w72.heap[gb240]? = some (.cells #[.int .i64 0, .slice none 0 0] 30 (0, 0))) := ⟨by rw [← hq_]; exact (zb BK240.out)⟩; have n2_ : Aside0 (Below w.heap.size w w72) := ⟨by rw [← hq_]; exact (zh HB.out)⟩; clear HO243 BK240 HB hq_; have HO243 := n0_; have BK240 := n1_; have HB := n2_; clear n0_ n1_ n2_))) | ((with_reducible refine gate_dst (N := 5) rfl ?_); refine zq 5 #[.int .i64 0, .slice none 0 0] 30 ?_; intro gb246 hg w74 hbox hb; have BK246 := Aside0.mk hbox; have GW246 := zG hg HB; have GE246 := zG hg HB; have NB240_246 := zNa hg BK240; have NB246_240 := zNb hg BK240; replace HO243 := Aside0.mk (Kd.R_below (zr HO243.out) hb); replace BK240 := zK BK240 hb; replace HB := zH hb HB; clear hb hbox hg; have hnb75 := NB246_240.out; have hnc75 := NB240_246.out; obtain ⟨hcz76_0, hcz76_1, hfz76_0, hfz76_1⟩ := zC2 BK246; have p247 : 0 ≤ (1 : Int) := (by omega); have q247 : 1 < (t241.length : Int) := zk; obtain ⟨ad247, e247, hx247_0⟩ := Kd.at_string (Kd.R_reads' HO243.out).2.2 1 p247 q247; obtain rfl : ad244 = ad247 := (by injection e247); (try simp only [show (1 : Int).toNat = 1 from rfl, Nat.reduceMul, Nat.reduceEqDiff, Go.Addr.add, ↓reduceIte] at hx247_0); have qi247 : (1 < t241.length) = True := eq_true (by omega); (try rw [show ((1 : Int)).toNat = 1 from rfl] at hx247_0); have hn247_0 : ad244.block ≠ gb246 := Kd.own_blk (Kd.R_ne HO243.out BK246.out (by decide)); have hn247_1 : ad244.block ≠ gb246 := Kd.own_blk (Kd.R_ne HO243.out BK246.out (by decide)); replace hx247_0 := (cell_far (p := ⟨gb246, 0, none⟩) (by first | (rw [add_block]; exact hn247_0) | (show (Addr.add _ _).block ≠ _; rw [add_block]; exact hn247_0) | exact hn247_0) (.int .i64 t245)).trans hx247_0; replace hx247_0 := (cell_far (p := ⟨gb246, 1, none⟩) (by first | (rw [add_block]; exact hn247_1) | (show (Addr.add _ _).block ≠ _; rw [add_block]; exact hn247_1) | exact hn247_1) (.slice none 0 0)).trans hx247_0; clear hn247_0 hn247_1; replace p247 := eq_true p247; replace q247 := eq_true q247))
   have n0_ : Aside0 (Kd.R Kd.string 9 ((w74.setCell ⟨gb246, 0, none⟩ (.int .i64 t245)).setCell ⟨gb246, 1, none⟩ (.slice none 0 0)) w.heap.size (fun _ => True) (.slice (some ad244) t241.length co73) t241) := ⟨by (with_reducible repeat (first | apply Kd.R_alloc | apply Kd.R_drewN | apply Kd.R_drew)); exact Kd.R_mono (Kd.R_far (p := ⟨gb246, 1, none⟩) (Kd.R_far (p := ⟨gb246, 0, none⟩) (Kd.R_types HO243.out BK246.out (by decide)) (fun _ hk => hk.2) (.int .i64 t245)) (fun _ hk => hk.2) (.slice none 0 0)) (fun _ hk => trivial)⟩
   have n1_ : Aside0 (((w74.setCell ⟨gb246, 0, none⟩ (.int .i64 t245)).setCell ⟨gb246, 1, none⟩ (.slice none 0 0)).heap[gb240]? = some (.cells #[.int .i64 0, .slice none 0 0] 30 (0, 0))) := ⟨zf2 BK240.out NB240_246.out NB240_246.out⟩
   have n2_ : Aside0 (((w74.setCell ⟨gb246, 0, none⟩ (.int .i64 t245)).setCell ⟨gb246, 1, none⟩ (.slice none 0 0)).heap[gb246]? = some (.cells #[.int .i64 t245, .slice none 0 0] 30 (0, 0))) := ⟨by (with_reducible repeat (first | refine blk_drewN ?_ _ | refine blk_drew ?_ | refine blk_alloc ?_ _)); refine blk_put (cs := #[.int .i64 t245, .slice none 0 0]) ?_ 1 _ rfl; (with_reducible repeat (first | refine blk_drewN ?_ _ | refine blk_drew ?_ | refine blk_alloc ?_ _)); refine blk_put (cs := #[.int .i64 0, .slice none 0 0]) ?_ 0 _ rfl; (with_reducible repeat (first | refine blk_drewN ?_ _ | refine blk_drew ?_ | refine blk_alloc ?_ _)); exact BK246.out⟩
   have n3_ : Aside0 (Below w.heap.size w ((w74.setCell ⟨gb246, 0, none⟩ (.int .i64 t245)).setCell ⟨gb246, 1, none⟩ (.slice none 0 0))) := ⟨zh HB.out⟩
   (try clear HO243)
   (try clear BK240)
   (try clear BK246)
   (try clear HB)
   generalize ((w74.setCell ⟨gb246, 0, none⟩ (.int .i64 t245)).setCell ⟨gb246, 1, none⟩ (.slice none 0 0)) = w77 at n0_ n1_ n2_ n3_ ⊢
   have HO243 := n0_
   have BK240 := n1_
   have BK246 := n2_
   have HB := n3_
   clear n0_ n1_ n2_ n3_
   have n0_ := Aside0.mk (Kd.R_drew HO243.out)
   have n1_ := Aside0.mk (blk_drew BK240.out)
   have n2_ := Aside0.mk (blk_drew BK246.out)
   have n3_ := Aside0.mk (below_drew1 HB.out)
   clear HO243 BK240 BK246 HB
   have HO243 := n0_
   have BK240 := n1_
   have BK246 := n2_
   have HB := n3_
   clear n0_ n1_ n2_ n3_
   refine start_ (n := 11) (S := fun w' => w'.cell? ⟨gb246, 0, none⟩ = some (.int .i64 t245) ∧ w'.cell? ⟨gb246, 1, none⟩ = some (.slice none 0 0)) (ds := []) (tb 11 0) (by kernel_rfl) rfl rfl ⟨(blk_cell BK246.out 0).trans rfl, (blk_cell BK246.out 1).trans rfl⟩ (fun hHeld => ?_); refine with_tabW spec_pzParse.tab16 spec_pzParse.bits16 (fun HT_ HW_ => ?_)
   generalize w77.drew = w78 at HO243 BK240 BK246 HB hHeld ⊢
   refine zt (i := 0) (N := some 63) (tb 11 1) rfl rfl (take_ofW HT_.out HW_.out (by kernel_rfl)) hHeld ?_
   refine zt (i := 1) (N := some 64) (tb 11 3) rfl rfl (take_ofW HT_.out HW_.out (by kernel_rfl)) hHeld ?_
   refine one_ (i := 2) (N := some 65) (tb 11 7) rfl rfl (one_of HT_.out (by kernel_rfl)) (by decide) (fun K hK => ?_)
   refine goes_ Tryd.func15 (by kernel_rfl) rfl #[.agg #[.int .i64 t245, .slice none 0 0]] (by rfl) rfl rfl (by (try simp only [List.map_toArray, List.map_cons, List.map_nil]); first | done | rfl | (simp only [List.length_drop, List.length_take]; rfl)) ?_
   refine (spec_pzGood.calls k t245 _ _ ([] : List (S54)) false _ ?side1 ?side2 A56.out).mono ?_
   (case side1 => exact Kd.C_nil _ _)
   (case side2 => exact Nat.le_refl _)
   rintro e w79 ⟨rfl, hb⟩
   refine ⟨_, rfl, ?_⟩
   have n0_ := Aside0.mk (Kd.R_below (zr HO243.out) hb)
   have n1_ := Aside0.mk (blk_below (g := gb240) (o := .cells #[.int .i64 0, .slice none 0 0] 30 (0, 0)) (zb BK240.out) hb)
   have n2_ := Aside0.mk (blk_below (g := gb246) (o := .cells #[.int .i64 t245, .slice none 0 0] 30 (0, 0)) (zb BK246.out) hb)
   have n3_ := Aside0.mk (below_step (zh HB.out) hb)
   clear HO243 BK240 BK246 HB
   have HO243 := n0_
   have BK240 := n1_
   have BK246 := n2_
   have HB := n3_
   clear n0_ n1_ n2_ n3_
   (try clear hb)
   (try clear hb2)
   (try clear hk)
   (try clear hi)
   refine hK.out _ _ ⟨(blk_cell BK246.out 0).trans rfl, (blk_cell BK246.out 1).trans rfl⟩ (fun hHeld => ?_)
   clear hK K
   refine zn1 ?_
   refine zu (i := 3) (N := some 66) (tb 11 15) rfl rfl HT_ ?_
   refine zv (i := 4) (N := some 67) (tb 11 31) rfl rfl HT_ ?_
   refine zv (i := 5) (N := some 68) (tb 11 63) rfl rfl HT_ ?_
   refine zv (i := 6) (N := some 69) (tb 11 127) rfl rfl HT_ ?_
   refine zv (i := 7) (N := some 70) (tb 11 255) rfl rfl HT_ ?_
   refine zu (i := 8) (N := some 71) (tb 11 511) rfl rfl HT_ ?_
   refine one_ (i := 9) (N := none) (tb 11 1023) rfl rfl (one_of HT_.out (by kernel_rfl)) (by decide) (fun K hK => ?_)
   have hs80 : w79.cell? ⟨gb240, 0, none⟩ = some (.int .i64 0) := (blk_cell BK240.out 0).trans rfl
   have hfs80 := blk_frozen BK240.out 0
   have hns80_1 := NB246_240.out
   have hms80_1 := NB240_246.out
   have hs81 : w79.cell? ⟨gb240, 1, none⟩ = some (.slice none 0 0) := (blk_cell BK240.out 1).trans rfl
   have hfs81 := blk_frozen BK240.out 1
   have hns81_1 := NB246_240.out
   have hms81_1 := NB240_246.out
   refine skip_ (w1 := ?_) (by rfl) rfl ?_ ?_
   rotate_left
   ·go_simp
    rfl
   refine hK.out _ _ ⟨((cell_far (p := ⟨gb240, _, none⟩) NB246_240.out _).trans (((cell_far (p := ⟨gb240, _, none⟩) NB246_240.out _).trans (hHeld.1)))), ((cell_far (p := ⟨gb240, _, none⟩) NB246_240.out _).trans (((cell_far (p := ⟨gb240, _, none⟩) NB246_240.out _).trans (hHeld.2))))⟩ (fun hHeld => ?_)
   clear hK K
   refine zu (i := 10) (N := some 3) (tb 11 2047) rfl rfl HT_ ?_
   refine done_ (done_of HT_.out (by kernel_rfl)) ?_
   try go_wp2
   refine bodyPost_ret (results_ct rfl _ _ gb240 30 #[.int .i64 t245, .slice none 0 0] (0, 0) _ rfl (by (with_reducible repeat (first | refine blk_drewN ?_ _ | refine blk_drew ?_ | refine blk_alloc ?_ _)); refine blk_put (cs := #[.int .i64 t245, .slice none 0 0]) ?_ 1 _ rfl; (with_reducible repeat (first | refine blk_drewN ?_ _ | refine blk_drew ?_ | refine blk_alloc ?_ _)); refine blk_put (cs := #[.int .i64 0, .slice none 0 0]) ?_ 0 _ rfl; (with_reducible repeat (first | refine blk_drewN ?_ _ | refine blk_drew ?_ | refine blk_alloc ?_ _)); exact BK240.out) Tryd.underlying30 rfl (by kernel_rfl)) rfl ?_
   exact ⟨_, by first | rfl | (simp [*, errW_none, errW_some] <;> rfl), by first | exact Kd.R_nil _ _ _ _ _ | exact Kd.N_nil _ _ _ _ _ | exact Kd.V_nil _ _ _ _ _ | exact Kd.Q_nil _ _ _ _ _ | exact Kd.S_nil _ _ _ _ _, zh HB.out⟩
  subst c57
  rw [if_pos rfl] at H
  replace H := Option.bind_eq_some_iff.mp H
  obtain ⟨t268, A580, H⟩ := H
  replace H : (some (t245, ([] : List (S54)), (t268.toList == a0.toList))) = some (r1, r2, r3) := H
  have A58 := Aside0.mk A580
  clear A580
  simp only [Option.some.injEq, Prod.mk.injEq] at H
  obtain ⟨rfl, rfl, rfl⟩ := H
  go_enter Tryd.func21, Tryd.ntmps21
  try go_wp2_with (first | ((with_reducible refine gate_dst (N := 2) rfl ?_); refine zq 2 #[.int .i64 0, .slice none 0 0] 30 ?_; intro gb240 hg w59 hbox hb; have GW240 := zG hg HB; replace HB := zH hb HB; have BK240 := Aside0.mk hbox; have GE240 := GW240; clear hb hbox hg) | ((with_reducible refine gate_callee (f := 40) rfl ?_); refine zl 14 Tryd.func40 #[.string a0, .int .u8 58] ?_; (with_reducible refine (spec_l1Split.calls k a0 58 t241 _ A5.out).mono ?_); rintro e w60 ⟨v242, rfl, ho0, hb⟩; refine ⟨_, rfl, ?_⟩; have HO243 := Aside0.mk (Kd.R_lower ho0 (below_size (zh HB.out))); replace BK240 := zK BK240 hb; replace HB := zH hb HB; clear hb; (try clear ho0); obtain ⟨Ao61, co61, eo61⟩ := Kd.R_slice HO243.out; subst eo61; have p244 : 0 ≤ (0 : Int) := (by omega); have q244 : 0 < (t241.length : Int) := zk; obtain ⟨ad244, e244, hx244_0⟩ := Kd.at_string (Kd.R_reads' HO243.out).2.2 0 p244 q244; cases e244; have qi244 : (0 < t241.length) = True := eq_true (by omega); (try rw [show ((0 : Int)).toNat = 0 from rfl] at hx244_0); (try rw [Addr.add_zero'] at hx244_0); replace p244 := eq_true p244; replace q244 := eq_true q244) | ((with_reducible refine gate_callee (f := 41) rfl ?_); refine zl 22 Tryd.func41 #[.string (rdOf ByteArray.empty t241 0)] ?_; (with_reducible refine (spec_l1Read.calls k (rdOf ByteArray.empty t241 0) t245 _ A8.out).mono ?_); rintro e w' ⟨rfl, ⟨nd, rfl⟩⟩; refine ⟨_, rfl, ?_⟩; (try (rw [drewN_self w60]; generalize hq_ : World.drewN w60 _ = w60; have n0_ : Aside0 (Kd.R Kd.string 9 w60 w.heap.size (fun _ => True) (.slice (some ad244) t241.length co61) t241) := ⟨by rw [← hq_]; exact (zr HO243.out)⟩; have n1_ : Aside0 (w60.heap[gb240]? = some (.cells #[.int .i64 0, .slice none 0 0] 30 (0, 0))) := ⟨by rw [← hq_]; exact (zb BK240.out)⟩; have n2_ : Aside0 (Below w.heap.size w w60) := ⟨by rw [← hq_]; exact (zh HB.out)⟩; clear HO243 BK240 HB hq_; have HO243 := n0_; have BK240 := n1_; have HB := n2_; clear n0_ n1_ n2_))) | ((with_reducible refine gate_dst (N := 5) rfl ?_); refine zq 5 #[.int .i64 0, .slice none 0 0] 30 ?_; intro gb246 hg w62 hbox hb; have BK246 := Aside0.mk hbox; have GW246 := zG hg HB; have GE246 := zG hg HB; have NB240_246 := zNa hg BK240; have NB246_240 := zNb hg BK240; replace HO243 := Aside0.mk (Kd.R_below (zr HO243.out) hb); replace BK240 := zK BK240 hb; replace HB := zH hb HB; clear hb hbox hg; have hnb63 := NB246_240.out; have hnc63 := NB240_246.out; obtain ⟨hcz64_0, hcz64_1, hfz64_0, hfz64_1⟩ := zC2 BK246; have p247 : 0 ≤ (1 : Int) := (by omega); have q247 : 1 < (t241.length : Int) := zk; obtain ⟨ad247, e247, hx247_0⟩ := Kd.at_string (Kd.R_reads' HO243.out).2.2 1 p247 q247; obtain rfl : ad244 = ad247 := (by injection e247); (try simp only [show (1 : Int).toNat = 1 from rfl, Nat.reduceMul, Nat.reduceEqDiff, Go.Addr.add, ↓reduceIte] at hx247_0); have qi247 : (1 < t241.length) = True := eq_true (by omega); (try rw [show ((1 : Int)).toNat = 1 from rfl] at hx247_0); have hn247_0 : ad244.block ≠ gb246 := Kd.own_blk (Kd.R_ne HO243.out BK246.out (by decide)); have hn247_1 : ad244.block ≠ gb246 := Kd.own_blk (Kd.R_ne HO243.out BK246.out (by decide)); replace hx247_0 := (cell_far (p := ⟨gb246, 0, none⟩) (by first | (rw [add_block]; exact hn247_0) | (show (Addr.add _ _).block ≠ _; rw [add_block]; exact hn247_0) | exact hn247_0) (.int .i64 t245)).trans hx247_0; replace hx247_0 := (cell_far (p := ⟨gb246, 1, none⟩) (by first | (rw [add_block]; exact hn247_1) | (show (Addr.add _ _).block ≠ _; rw [add_block]; exact hn247_1) | exact hn247_1) (.slice none 0 0)).trans hx247_0; clear hn247_0 hn247_1; replace p247 := eq_true p247; replace q247 := eq_true q247))
  have n0_ : Aside0 (Kd.R Kd.string 9 ((w62.setCell ⟨gb246, 0, none⟩ (.int .i64 t245)).setCell ⟨gb246, 1, none⟩ (.slice none 0 0)) w.heap.size (fun _ => True) (.slice (some ad244) t241.length co61) t241) := ⟨by (with_reducible repeat (first | apply Kd.R_alloc | apply Kd.R_drewN | apply Kd.R_drew)); exact Kd.R_mono (Kd.R_far (p := ⟨gb246, 1, none⟩) (Kd.R_far (p := ⟨gb246, 0, none⟩) (Kd.R_types HO243.out BK246.out (by decide)) (fun _ hk => hk.2) (.int .i64 t245)) (fun _ hk => hk.2) (.slice none 0 0)) (fun _ hk => trivial)⟩
  have n1_ : Aside0 (((w62.setCell ⟨gb246, 0, none⟩ (.int .i64 t245)).setCell ⟨gb246, 1, none⟩ (.slice none 0 0)).heap[gb240]? = some (.cells #[.int .i64 0, .slice none 0 0] 30 (0, 0))) := ⟨zf2 BK240.out NB240_246.out NB240_246.out⟩
  have n2_ : Aside0 (((w62.setCell ⟨gb246, 0, none⟩ (.int .i64 t245)).setCell ⟨gb246, 1, none⟩ (.slice none 0 0)).heap[gb246]? = some (.cells #[.int .i64 t245, .slice none 0 0] 30 (0, 0))) := ⟨by (with_reducible repeat (first | refine blk_drewN ?_ _ | refine blk_drew ?_ | refine blk_alloc ?_ _)); refine blk_put (cs := #[.int .i64 t245, .slice none 0 0]) ?_ 1 _ rfl; (with_reducible repeat (first | refine blk_drewN ?_ _ | refine blk_drew ?_ | refine blk_alloc ?_ _)); refine blk_put (cs := #[.int .i64 0, .slice none 0 0]) ?_ 0 _ rfl; (with_reducible repeat (first | refine blk_drewN ?_ _ | refine blk_drew ?_ | refine blk_alloc ?_ _)); exact BK246.out⟩
  have n3_ : Aside0 (Below w.heap.size w ((w62.setCell ⟨gb246, 0, none⟩ (.int .i64 t245)).setCell ⟨gb246, 1, none⟩ (.slice none 0 0))) := ⟨zh HB.out⟩
  (try clear HO243)
  (try clear BK240)
  (try clear BK246)
  (try clear HB)
  generalize ((w62.setCell ⟨gb246, 0, none⟩ (.int .i64 t245)).setCell ⟨gb246, 1, none⟩ (.slice none 0 0)) = w65 at n0_ n1_ n2_ n3_ ⊢
  have HO243 := n0_
  have BK240 := n1_
  have BK246 := n2_
  have HB := n3_
  clear n0_ n1_ n2_ n3_
  have n0_ := Aside0.mk (Kd.R_drew HO243.out)
  have n1_ := Aside0.mk (blk_drew BK240.out)
  have n2_ := Aside0.mk (blk_drew BK246.out)
  have n3_ := Aside0.mk (below_drew1 HB.out)
  clear HO243 BK240 BK246 HB
  have HO243 := n0_
  have BK240 := n1_
  have BK246 := n2_
  have HB := n3_
  clear n0_ n1_ n2_ n3_
  refine start_ (n := 11) (S := fun w' => w'.cell? ⟨gb246, 0, none⟩ = some (.int .i64 t245) ∧ w'.cell? ⟨gb246, 1, none⟩ = some (.slice none 0 0)) (ds := []) (tb 11 0) (by kernel_rfl) rfl rfl ⟨(blk_cell BK246.out 0).trans rfl, (blk_cell BK246.out 1).trans rfl⟩ (fun hHeld => ?_); refine with_tabW spec_pzParse.tab16 spec_pzParse.bits16 (fun HT_ HW_ => ?_)
  generalize w65.drew = w66 at HO243 BK240 BK246 HB hHeld ⊢
  refine zt (i := 0) (N := some 63) (tb 11 1) rfl rfl (take_ofW HT_.out HW_.out (by kernel_rfl)) hHeld ?_
  refine zt (i := 1) (N := some 64) (tb 11 3) rfl rfl (take_ofW HT_.out HW_.out (by kernel_rfl)) hHeld ?_
  refine one_ (i := 2) (N := some 65) (tb 11 7) rfl rfl (one_of HT_.out (by kernel_rfl)) (by decide) (fun K hK => ?_)
  refine goes_ Tryd.func15 (by kernel_rfl) rfl #[.agg #[.int .i64 t245, .slice none 0 0]] (by rfl) rfl rfl (by (try simp only [List.map_toArray, List.map_cons, List.map_nil]); first | done | rfl | (simp only [List.length_drop, List.length_take]; rfl)) ?_
  refine (spec_pzGood.calls k t245 _ _ ([] : List (S54)) true _ ?side1 ?side2 A56.out).mono ?_
  (case side1 => exact Kd.C_nil _ _)
  (case side2 => exact Nat.le_refl _)
  rintro e w67 ⟨rfl, hb⟩
  refine ⟨_, rfl, ?_⟩
  have n0_ := Aside0.mk (Kd.R_below (zr HO243.out) hb)
  have n1_ := Aside0.mk (blk_below (g := gb240) (o := .cells #[.int .i64 0, .slice none 0 0] 30 (0, 0)) (zb BK240.out) hb)
  have n2_ := Aside0.mk (blk_below (g := gb246) (o := .cells #[.int .i64 t245, .slice none 0 0] 30 (0, 0)) (zb BK246.out) hb)
  have n3_ := Aside0.mk (below_step (zh HB.out) hb)
  clear HO243 BK240 BK246 HB
  have HO243 := n0_
  have BK240 := n1_
  have BK246 := n2_
  have HB := n3_
  clear n0_ n1_ n2_ n3_
  (try clear hb)
  (try clear hb2)
  (try clear hk)
  (try clear hi)
  refine hK.out _ _ ⟨(blk_cell BK246.out 0).trans rfl, (blk_cell BK246.out 1).trans rfl⟩ (fun hHeld => ?_)
  clear hK K
  refine zn1 ?_
  refine zu (i := 3) (N := some 66) (tb 11 15) rfl rfl HT_ ?_
  refine zu (i := 6) (N := some 69) (tb 11 79) rfl rfl HT_ ?_
  refine zt (i := 4) (N := some 67) (tb 11 95) rfl rfl (take_ofW HT_.out HW_.out (by kernel_rfl)) hHeld ?_
  refine one_ (i := 5) (N := some 68) (tb 11 127) rfl rfl (one_of HT_.out (by kernel_rfl)) (by decide) (fun K hK => ?_)
  refine goes_ Tryd.func16 (by kernel_rfl) rfl #[.agg #[.int .i64 t245, .slice none 0 0]] (by rfl) rfl rfl (by (try simp only [List.map_toArray, List.map_cons, List.map_nil]); first | done | rfl | (simp only [List.length_drop, List.length_take]; rfl)) ?_
  refine (spec_pzText.calls k t245 _ _ ([] : List (S54)) t268 _ ?side1 ?side2 A58.out).mono ?_
  (case side1 => exact Kd.C_nil _ _)
  (case side2 => exact Nat.le_refl _)
  rintro e w68 ⟨rfl, hb⟩
  refine ⟨_, rfl, ?_⟩
  have n0_ := Aside0.mk (Kd.R_below (zr HO243.out) hb)
  have n1_ := Aside0.mk (blk_below (g := gb240) (o := .cells #[.int .i64 0, .slice none 0 0] 30 (0, 0)) (zb BK240.out) hb)
  have n2_ := Aside0.mk (blk_below (g := gb246) (o := .cells #[.int .i64 t245, .slice none 0 0] 30 (0, 0)) (zb BK246.out) hb)
  have n3_ := Aside0.mk (below_step (zh HB.out) hb)
  clear HO243 BK240 BK246 HB
  have HO243 := n0_
  have BK240 := n1_
  have BK246 := n2_
  have HB := n3_
  clear n0_ n1_ n2_ n3_
  (try clear hb)
  (try clear hb2)
  (try clear hk)
  (try clear hi)
  refine hK.out _ _ ⟨(blk_cell BK246.out 0).trans rfl, (blk_cell BK246.out 1).trans rfl⟩ (fun hHeld => ?_)
  clear hK K
  refine zn1 ?_
  refine zu (i := 7) (N := some 70) (tb 11 255) rfl rfl HT_ ?_
  refine zu (i := 8) (N := some 71) (tb 11 511) rfl rfl HT_ ?_
  refine one_ (i := 9) (N := none) (tb 11 1023) rfl rfl (one_of HT_.out (by kernel_rfl)) (by decide) (fun K hK => ?_)
  have hs69 : w68.cell? ⟨gb240, 0, none⟩ = some (.int .i64 0) := (blk_cell BK240.out 0).trans rfl
  have hfs69 := blk_frozen BK240.out 0
  have hns69_1 := NB246_240.out
  have hms69_1 := NB240_246.out
  have hs70 : w68.cell? ⟨gb240, 1, none⟩ = some (.slice none 0 0) := (blk_cell BK240.out 1).trans rfl
  have hfs70 := blk_frozen BK240.out 1
  have hns70_1 := NB246_240.out
  have hms70_1 := NB240_246.out
  refine skip_ (w1 := ?_) (by rfl) rfl ?_ ?_
  rotate_left
  ·go_simp
   rfl
  refine hK.out _ _ ⟨((cell_far (p := ⟨gb240, _, none⟩) NB246_240.out _).trans (((cell_far (p := ⟨gb240, _, none⟩) NB246_240.out _).trans (hHeld.1)))), ((cell_far (p := ⟨gb240, _, none⟩) NB246_240.out _).trans (((cell_far (p := ⟨gb240, _, none⟩) NB246_240.out _).trans (hHeld.2))))⟩ (fun hHeld => ?_)
  clear hK K
  refine zu (i := 10) (N := some 3) (tb 11 2047) rfl rfl HT_ ?_
  refine done_ (done_of HT_.out (by kernel_rfl)) ?_
  try go_wp2
  refine bodyPost_ret (results_ct rfl _ _ gb240 30 #[.int .i64 t245, .slice none 0 0] (0, 0) _ rfl (by (with_reducible repeat (first | refine blk_drewN ?_ _ | refine blk_drew ?_ | refine blk_alloc ?_ _)); refine blk_put (cs := #[.int .i64 t245, .slice none 0 0]) ?_ 1 _ rfl; (with_reducible repeat (first | refine blk_drewN ?_ _ | refine blk_drew ?_ | refine blk_alloc ?_ _)); refine blk_put (cs := #[.int .i64 0, .slice none 0 0]) ?_ 0 _ rfl; (with_reducible repeat (first | refine blk_drewN ?_ _ | refine blk_drew ?_ | refine blk_alloc ?_ _)); exact BK240.out) Tryd.underlying30 rfl (by kernel_rfl)) rfl ?_
  exact ⟨_, by first | rfl | (simp [*, errW_none, errW_some] <;> rfl), by first | exact Kd.R_nil _ _ _ _ _ | exact Kd.N_nil _ _ _ _ _ | exact Kd.V_nil _ _ _ _ _ | exact Kd.Q_nil _ _ _ _ _ | exact Kd.S_nil _ _ _ _ _, zh HB.out⟩
 rw [if_pos c10] at H
 have c10b0 := decide_eq_true c10
 have c10b1 : decide (0 < (rdOf ByteArray.empty t241 1).size) = true := decide_eq_true (by omega)
 clear c10
 replace H := Option.bind_eq_some_iff.mp H
 obtain ⟨t249, A110, H⟩ := H
 replace H : (spec_pzParse.l0 k a0 t249 (t249.length : Int) 0 t245 ([] : List (S54))) = some (r1, r2, r3) := H
 have A11 := Aside0.mk A110
 clear A110
 have H' := Aside0.mk H
 clear H
 go_enter Tryd.func21, Tryd.ntmps21
 go_wp2_with (first | ((with_reducible refine gate_dst (N := 2) rfl ?_); refine zq 2 #[.int .i64 0, .slice none 0 0] 30 ?_; intro gb240 hg w12 hbox hb; have GW240 := zG hg HB; replace HB := zH hb HB; have BK240 := Aside0.mk hbox; have GE240 := GW240; clear hb hbox hg) | ((with_reducible refine gate_callee (f := 40) rfl ?_); refine zl 14 Tryd.func40 #[.string a0, .int .u8 58] ?_; (with_reducible refine (spec_l1Split.calls k a0 58 t241 _ A5.out).mono ?_); rintro e w13 ⟨v242, rfl, ho0, hb⟩; refine ⟨_, rfl, ?_⟩; have HO243 := Aside0.mk (Kd.R_lower ho0 (below_size (zh HB.out))); replace BK240 := zK BK240 hb; replace HB := zH hb HB; clear hb; (try clear ho0); obtain ⟨Ao14, co14, eo14⟩ := Kd.R_slice HO243.out; subst eo14; have p244 : 0 ≤ (0 : Int) := (by omega); have q244 : 0 < (t241.length : Int) := zk; obtain ⟨ad244, e244, hx244_0⟩ := Kd.at_string (Kd.R_reads' HO243.out).2.2 0 p244 q244; cases e244; have qi244 : (0 < t241.length) = True := eq_true (by omega); (try rw [show ((0 : Int)).toNat = 0 from rfl] at hx244_0); (try rw [Addr.add_zero'] at hx244_0); replace p244 := eq_true p244; replace q244 := eq_true q244) | ((with_reducible refine gate_callee (f := 41) rfl ?_); refine zl 22 Tryd.func41 #[.string (rdOf ByteArray.empty t241 0)] ?_; (with_reducible refine (spec_l1Read.calls k (rdOf ByteArray.empty t241 0) t245 _ A8.out).mono ?_); rintro e w' ⟨rfl, ⟨nd, rfl⟩⟩; refine ⟨_, rfl, ?_⟩; (try (rw [drewN_self w13]; generalize hq_ : World.drewN w13 _ = w13; have n0_ : Aside0 (Kd.R Kd.string 9 w13 w.heap.size (fun _ => True) (.slice (some ad244) t241.length co14) t241) := ⟨by rw [← hq_]; exact (zr HO243.out)⟩; have n1_ : Aside0 (w13.heap[gb240]? = some (.cells #[.int .i64 0, .slice none 0 0] 30 (0, 0))) := ⟨by rw [← hq_]; exact (zb BK240.out)⟩; have n2_ : Aside0 (Below w.heap.size w w13) := ⟨by rw [← hq_]; exact (zh HB.out)⟩; clear HO243 BK240 HB hq_; have HO243 := n0_; have BK240 := n1_; have HB := n2_; clear n0_ n1_ n2_))) | ((with_reducible refine gate_dst (N := 5) rfl ?_); refine zq 5 #[.int .i64 0, .slice none 0 0] 30 ?_; intro gb246 hg w15 hbox hb; have BK246 := Aside0.mk hbox; have GW246 := zG hg HB; have GE246 := zG hg HB; have NB240_246 := zNa hg BK240; have NB246_240 := zNb hg BK240; replace HO243 := Aside0.mk (Kd.R_below (zr HO243.out) hb); replace BK240 := zK BK240 hb; replace HB := zH hb HB; clear hb hbox hg; have hnb16 := NB246_240.out; have hnc16 := NB240_246.out; obtain ⟨hcz17_0, hcz17_1, hfz17_0, hfz17_1⟩ := zC2 BK246; have p247 : 0 ≤ (1 : Int) := (by omega); have q247 : 1 < (t241.length : Int) := zk; obtain ⟨ad247, e247, hx247_0⟩ := Kd.at_string (Kd.R_reads' HO243.out).2.2 1 p247 q247; obtain rfl : ad244 = ad247 := (by injection e247); (try simp only [show (1 : Int).toNat = 1 from rfl, Nat.reduceMul, Nat.reduceEqDiff, Go.Addr.add, ↓reduceIte] at hx247_0); have qi247 : (1 < t241.length) = True := eq_true (by omega); (try rw [show ((1 : Int)).toNat = 1 from rfl] at hx247_0); have hn247_0 : ad244.block ≠ gb246 := Kd.own_blk (Kd.R_ne HO243.out BK246.out (by decide)); have hn247_1 : ad244.block ≠ gb246 := Kd.own_blk (Kd.R_ne HO243.out BK246.out (by decide)); replace hx247_0 := (cell_far (p := ⟨gb246, 0, none⟩) (by first | (rw [add_block]; exact hn247_0) | (show (Addr.add _ _).block ≠ _; rw [add_block]; exact hn247_0) | exact hn247_0) (.int .i64 t245)).trans hx247_0; replace hx247_0 := (cell_far (p := ⟨gb246, 1, none⟩) (by first | (rw [add_block]; exact hn247_1) | (show (Addr.add _ _).block ≠ _; rw [add_block]; exact hn247_1) | exact hn247_1) (.slice none 0 0)).trans hx247_0; clear hn247_0 hn247_1; replace p247 := eq_true p247; replace q247 := eq_true q247; have p248 : 0 ≤ (1 : Int) := (by omega); have q248 : 1 < (t241.length : Int) := zk; obtain ⟨ad248, e248, hx248_0⟩ := Kd.at_string (Kd.R_reads' HO243.out).2.2 1 p248 q248; obtain rfl : ad244 = ad248 := (by injection e248); (try simp only [show (1 : Int).toNat = 1 from rfl, Nat.reduceMul, Nat.reduceEqDiff, Go.Addr.add, ↓reduceIte] at hx248_0); have qi248 : (1 < t241.length) = True := eq_true (by omega); (try rw [show ((1 : Int)).toNat = 1 from rfl] at hx248_0); have hn248_0 : ad244.block ≠ gb246 := Kd.own_blk (Kd.R_ne HO243.out BK246.out (by decide)); have hn248_1 : ad244.block ≠ gb246 := Kd.own_blk (Kd.R_ne HO243.out BK246.out (by decide)); replace hx248_0 := (cell_far (p := ⟨gb246, 0, none⟩) (by first | (rw [add_block]; exact hn248_0) | (show (Addr.add _ _).block ≠ _; rw [add_block]; exact hn248_0) | exact hn248_0) (.int .i64 t245)).trans hx248_0; replace hx248_0 := (cell_far (p := ⟨gb246, 1, none⟩) (by first | (rw [add_block]; exact hn248_1) | (show (Addr.add _ _).block ≠ _; rw [add_block]; exact hn248_1) | exact hn248_1) (.slice none 0 0)).trans hx248_0; clear hn248_0 hn248_1; replace p248 := eq_true p248; replace q248 := eq_true q248) | ((with_reducible refine gate_callee (f := 40) rfl ?_); refine zl 32 Tryd.func40 #[.string (rdOf ByteArray.empty t241 1), .int .u8 44] ?_; (with_reducible refine (spec_l1Split.calls k (rdOf ByteArray.empty t241 1) 44 t249 _ A11.out).mono ?_); rintro e w18 ⟨v250, rfl, ho0, hb⟩; refine ⟨_, rfl, ?_⟩; have HO251 := Aside0.mk (Kd.R_lower (Kd.R_new' ho0 (Kd.R_lt (by (with_reducible repeat (first | apply Kd.R_alloc | apply Kd.R_drewN | apply Kd.R_drew)); exact (Kd.R_mono (Kd.R_far (p := ⟨gb246, 1, none⟩) (Kd.R_far (p := ⟨gb246, 0, none⟩) (Kd.R_types HO243.out BK246.out (by decide)) (fun _ hk => hk.2) (.int .i64 t245)) (fun _ hk => hk.2) (.slice none 0 0)) (fun _ h_ => h_.1))))) (below_size (zh HB.out))); replace HO243 := Aside0.mk (Kd.R_elder' (by (with_reducible repeat (first | apply Kd.R_alloc | apply Kd.R_drewN | apply Kd.R_drew)); exact (Kd.R_mono (Kd.R_far (p := ⟨gb246, 1, none⟩) (Kd.R_far (p := ⟨gb246, 0, none⟩) (Kd.R_types HO243.out BK246.out (by decide)) (fun _ hk => hk.2) (.int .i64 t245)) (fun _ hk => hk.2) (.slice none 0 0)) (fun _ h_ => h_.1))) (Kd.R_base ho0) hb); replace BK240 := Aside0.mk (blk_below (g := gb240) (o := .cells #[.int .i64 0, .slice none 0 0] 30 (0, 0)) (zf2 BK240.out NB240_246.out NB240_246.out) hb); replace BK246 := Aside0.mk (blk_below (g := gb246) (o := .cells #[.int .i64 t245, .slice none 0 0] 30 (0, 0)) (by (with_reducible repeat (first | refine blk_drewN ?_ _ | refine blk_drew ?_ | refine blk_alloc ?_ _)); refine blk_put (cs := #[.int .i64 t245, .slice none 0 0]) ?_ 1 _ rfl; (with_reducible repeat (first | refine blk_drewN ?_ _ | refine blk_drew ?_ | refine blk_alloc ?_ _)); refine blk_put (cs := #[.int .i64 0, .slice none 0 0]) ?_ 0 _ rfl; (with_reducible repeat (first | refine blk_drewN ?_ _ | refine blk_drew ?_ | refine blk_alloc ?_ _)); exact BK246.out) hb); replace HB := zH hb HB; clear hb; (try clear ho0); obtain ⟨Ao19, co19, eo19⟩ := Kd.R_slice HO251.out; subst eo19))
 go_loopg [34] k (fun kq v34 w' => ∃ (x34_1 : Int) (x241000_1 : Int) (x247001_1 : List (S54)) (u247001 : Value), v34 = .int .i64 x34_1 ∧ Aside0 (spec_pzParse.l0 kq a0 t249 (t249.length : Int) x34_1 t245 x247001_1 = some (r1, r2, r3)) ∧ Aside0 (kq ≤ k) ∧ Aside0 (Kd.R Kd.string 9 w' w.heap.size (fun _ => True) (.slice Ao19 t249.length co19) t249) ∧ Aside0 (Kd.R k54 54 w' w.heap.size (fun _ => True) u247001 x247001_1) ∧ Aside0 (w'.heap[gb240]? = some (.cells #[.int .i64 x241000_1, (.slice none 0 0)] 30 (0, 0))) ∧ Aside0 (w'.heap[gb246]? = some (.cells #[.int .i64 t245, u247001] 30 (0, 0))) ∧ Aside0 (Below w.heap.size w w'))
 case atStart => exact ⟨(0), (0), (([] : List (S54))), (.slice none 0 0), zE, H', ⟨Nat.le_refl _⟩, ⟨zr (Kd.R_mono HO251.out (fun _ hk => trivial))⟩, ⟨by first | exact Kd.R_nil _ _ _ _ _ | exact Kd.N_nil _ _ _ _ _ | exact Kd.V_nil _ _ _ _ _ | exact Kd.Q_nil _ _ _ _ _ | exact Kd.S_nil _ _ _ _ _⟩, ⟨zb BK240.out⟩, ⟨zb BK246.out⟩, ⟨zh HB.out⟩⟩
 case round =>
  clear H'
  try clear c1
  try clear c2
  try clear c2b0
  try clear c2b1
  try clear p2
  try clear q2
  try clear hx2
  try clear qi2
  try clear c4
  try clear c6
  try clear c6b0
  try clear c6b1
  try clear c7
  try clear c7b0
  try clear c7b1
  try clear c9
  try clear c9b0
  try clear c9b1
  try clear c10
  try clear c10b0
  try clear c10b1
  try clear c16
  try clear hcz17_0
  try clear hcz17_1
  try clear hcz4_0
  try clear hcz4_1
  try clear hfz17_0
  try clear hfz17_1
  try clear hfz4_0
  try clear hfz4_1
  try clear hx244_0
  try clear hx247_0
  try clear hx248_0
  try clear p244
  try clear p247
  try clear p248
  try clear q244
  try clear q247
  try clear q248
  obtain ⟨x34_1, x241000_1, x247001_1, u247001, rfl, HA, HK1, HO_32, HO_247001, BK240, BK246, HB⟩ := hrel
  cases gk with
  | zero => exact absurd HA.out (by simp [spec_pzParse.l0])
  | succ k1 =>
   have H := HA.out
   clear HA
   simp only [spec_pzParse.l0] at H
   by_cases c20 : x34_1 < (t249.length : Int)
   rotate_left
   ·rw [if_neg c20] at H
    have c20b0 := decide_eq_false c20
    clear c20
    replace H := Option.bind_eq_some_iff.mp H
    obtain ⟨t252, A420, H⟩ := H
    replace H : (if t252 = true then ((spec_pzText.f k1 t245 x247001_1).bind fun t253 => (some (t245, x247001_1, (t253.toList == a0.toList)))) else (some (t245, x247001_1, false))) = some (r1, r2, r3) := H
    have A42 := Aside0.mk A420
    clear A420
    by_cases c43 : t252 = true
    rotate_left
    ·replace c43 := Bool.eq_false_iff.mpr c43
     subst c43
     rw [if_neg zF] at H
     simp only [Option.some.injEq, Prod.mk.injEq] at H
     obtain ⟨rfl, rfl, rfl⟩ := H
     try go_wp2
     have n0_ := Aside0.mk (Kd.R_drew HO_32.out)
     have n1_ := Aside0.mk (Kd.R_drew HO_247001.out)
     have n2_ := Aside0.mk (blk_drew BK240.out)
     have n3_ := Aside0.mk (blk_drew BK246.out)
     have n4_ := Aside0.mk (below_drew1 HB.out)
     clear HO_32 HO_247001 BK240 BK246 HB
     have HO_32 := n0_
     have HO_247001 := n1_
     have BK240 := n2_
     have BK246 := n3_
     have HB := n4_
     clear n0_ n1_ n2_ n3_ n4_
     obtain ⟨Ao52, co52, eo52⟩ := Kd.R_slice HO_247001.out
     (first | subst eo52 | (injection eo52 with f1_ f2_ f3_; have f4_ := f1_.symm; have f5_ := f3_.symm; clear f1_ f2_ f3_; subst f4_; subst f5_))
     refine start_ (n := 11) (S := fun w' => w'.cell? ⟨gb246, 0, none⟩ = some (.int .i64 t245) ∧ w'.cell? ⟨gb246, 1, none⟩ = some (.slice Ao52 x247001_1.length co52)) (ds := []) (tb 11 0) (by kernel_rfl) rfl rfl ⟨(blk_cell BK246.out 0).trans rfl, (blk_cell BK246.out 1).trans rfl⟩ (fun hHeld => ?_); refine with_tabW spec_pzParse.tab16 spec_pzParse.bits16 (fun HT_ HW_ => ?_)
     generalize wr.drew = w51 at HO_32 HO_247001 BK240 BK246 HB hHeld ⊢
     refine zt (i := 0) (N := some 63) (tb 11 1) rfl rfl (take_ofW HT_.out HW_.out (by kernel_rfl)) hHeld ?_
     refine zt (i := 1) (N := some 64) (tb 11 3) rfl rfl (take_ofW HT_.out HW_.out (by kernel_rfl)) hHeld ?_
     refine one_ (i := 2) (N := some 65) (tb 11 7) rfl rfl (one_of HT_.out (by kernel_rfl)) (by decide) (fun K hK => ?_)
     refine goes_ Tryd.func15 (by kernel_rfl) rfl #[.agg #[.int .i64 t245, .slice Ao52 x247001_1.length co52]] (by rfl) rfl rfl (by (try simp only [List.map_toArray, List.map_cons, List.map_nil]); first | done | rfl | (simp only [List.length_drop, List.length_take]; rfl)) ?_
     with_reducible refine (spec_pzGood.calls k1 t245 _ _ x247001_1 false _ ?side1 ?side2 A42.out).mono ?_
     (case side1 => repeat (first | exact (Kd.R_reads' HO_247001.out).2.2 | (with_reducible refine Kd.C_alloc ?_ _) | (with_reducible refine Kd.C_drewN ?_ _) | (with_reducible refine Kd.C_drew ?_)))
     (case side2 => exact (Kd.R_reads' HO_247001.out).2.1)
     rintro e w53 ⟨rfl, hb⟩
     refine ⟨_, rfl, ?_⟩
     have n0_ := Aside0.mk (Kd.R_below (zr HO_32.out) hb)
     have n1_ := Aside0.mk (Kd.R_below (zr HO_247001.out) hb)
     have n2_ := Aside0.mk (blk_below (g := gb240) (o := .cells #[.int .i64 x241000_1, .slice none 0 0] 30 (0, 0)) (zb BK240.out) hb)
     have n3_ := Aside0.mk (blk_below (g := gb246) (o := .cells #[.int .i64 t245, .slice Ao52 x247001_1.length co52] 30 (0, 0)) (zb BK246.out) hb)
     have n4_ := Aside0.mk (below_step (zh HB.out) hb)
     clear HO_32 HO_247001 BK240 BK246 HB
     have HO_32 := n0_
     have HO_247001 := n1_
     have BK240 := n2_
     have BK246 := n3_
     have HB := n4_
     clear n0_ n1_ n2_ n3_ n4_
     (try clear hb)
     (try clear hb2)
     (try clear hk)
     (try clear hi)
     refine hK.out _ _ ⟨(blk_cell BK246.out 0).trans rfl, (blk_cell BK246.out 1).trans rfl⟩ (fun hHeld => ?_)
     clear hK K
     refine zn1 ?_
     refine zu (i := 3) (N := some 66) (tb 11 15) rfl rfl HT_ ?_
     refine zv (i := 4) (N := some 67) (tb 11 31) rfl rfl HT_ ?_
     refine zv (i := 5) (N := some 68) (tb 11 63) rfl rfl HT_ ?_
     refine zv (i := 6) (N := some 69) (tb 11 127) rfl rfl HT_ ?_
     refine zv (i := 7) (N := some 70) (tb 11 255) rfl rfl HT_ ?_
     refine zu (i := 8) (N := some 71) (tb 11 511) rfl rfl HT_ ?_
     refine one_ (i := 9) (N := none) (tb 11 1023) rfl rfl (one_of HT_.out (by kernel_rfl)) (by decide) (fun K hK => ?_)
     have hs54 : w53.cell? ⟨gb240, 0, none⟩ = some (.int .i64 x241000_1) := (blk_cell BK240.out 0).trans rfl
     have hfs54 := blk_frozen BK240.out 0
     have hns54_1 := NB246_240.out
     have hms54_1 := NB240_246.out
     have hs55 : w53.cell? ⟨gb240, 1, none⟩ = some (.slice none 0 0) := (blk_cell BK240.out 1).trans rfl
     have hfs55 := blk_frozen BK240.out 1
     have hns55_1 := NB246_240.out
     have hms55_1 := NB240_246.out
     refine skip_ (w1 := ?_) (by rfl) rfl ?_ ?_
     rotate_left
     ·go_simp
      rfl
     refine hK.out _ _ ⟨((cell_far (p := ⟨gb240, _, none⟩) NB246_240.out _).trans (((cell_far (p := ⟨gb240, _, none⟩) NB246_240.out _).trans (hHeld.1)))), ((cell_far (p := ⟨gb240, _, none⟩) NB246_240.out _).trans (((cell_far (p := ⟨gb240, _, none⟩) NB246_240.out _).trans (hHeld.2))))⟩ (fun hHeld => ?_)
     clear hK K
     refine zu (i := 10) (N := some 3) (tb 11 2047) rfl rfl HT_ ?_
     refine done_ (done_of HT_.out (by kernel_rfl)) ?_
     try go_wp2
     refine bodyPost_ret (results_ct rfl _ _ gb240 30 #[.int .i64 t245, .slice Ao52 x247001_1.length co52] (0, 0) _ rfl (by (with_reducible repeat (first | refine blk_drewN ?_ _ | refine blk_drew ?_ | refine blk_alloc ?_ _)); refine blk_put (cs := #[.int .i64 t245, .slice none 0 0]) ?_ 1 _ rfl; (with_reducible repeat (first | refine blk_drewN ?_ _ | refine blk_drew ?_ | refine blk_alloc ?_ _)); refine blk_put (cs := #[.int .i64 x241000_1, .slice none 0 0]) ?_ 0 _ rfl; (with_reducible repeat (first | refine blk_drewN ?_ _ | refine blk_drew ?_ | refine blk_alloc ?_ _)); exact BK240.out) Tryd.underlying30 rfl (by kernel_rfl)) rfl ?_
     exact ⟨_, by first | rfl | (simp [*, errW_none, errW_some] <;> rfl), by (with_reducible repeat (first | apply Kd.R_alloc | apply Kd.R_drewN | apply Kd.R_drew)); exact Kd.R_mono (Kd.R_far (p := ⟨gb240, 1, none⟩) (Kd.R_far (p := ⟨gb240, 0, none⟩) (Kd.R_types HO_247001.out BK240.out (by decide)) (fun _ hk => hk.2) (.int .i64 t245)) (fun _ hk => hk.2) (.slice Ao52 x247001_1.length co52)) (fun _ hk => trivial), zh HB.out⟩
    subst c43
    rw [if_pos rfl] at H
    replace H := Option.bind_eq_some_iff.mp H
    obtain ⟨t253, A440, H⟩ := H
    replace H : (some (t245, x247001_1, (t253.toList == a0.toList))) = some (r1, r2, r3) := H
    have A44 := Aside0.mk A440
    clear A440
    simp only [Option.some.injEq, Prod.mk.injEq] at H
    obtain ⟨rfl, rfl, rfl⟩ := H
    try go_wp2
    have n0_ := Aside0.mk (Kd.R_drew HO_32.out)
    have n1_ := Aside0.mk (Kd.R_drew HO_247001.out)
    have n2_ := Aside0.mk (blk_drew BK240.out)
    have n3_ := Aside0.mk (blk_drew BK246.out)
    have n4_ := Aside0.mk (below_drew1 HB.out)
    clear HO_32 HO_247001 BK240 BK246 HB
    have HO_32 := n0_
    have HO_247001 := n1_
    have BK240 := n2_
    have BK246 := n3_
    have HB := n4_
    clear n0_ n1_ n2_ n3_ n4_
    obtain ⟨Ao46, co46, eo46⟩ := Kd.R_slice HO_247001.out
    (first | subst eo46 | (injection eo46 with f1_ f2_ f3_; have f4_ := f1_.symm; have f5_ := f3_.symm; clear f1_ f2_ f3_; subst f4_; subst f5_))
    refine start_ (n := 11) (S := fun w' => w'.cell? ⟨gb246, 0, none⟩ = some (.int .i64 t245) ∧ w'.cell? ⟨gb246, 1, none⟩ = some (.slice Ao46 x247001_1.length co46)) (ds := []) (tb 11 0) (by kernel_rfl) rfl rfl ⟨(blk_cell BK246.out 0).trans rfl, (blk_cell BK246.out 1).trans rfl⟩ (fun hHeld => ?_); refine with_tabW spec_pzParse.tab16 spec_pzParse.bits16 (fun HT_ HW_ => ?_)
    generalize wr.drew = w45 at HO_32 HO_247001 BK240 BK246 HB hHeld ⊢
    refine zt (i := 0) (N := some 63) (tb 11 1) rfl rfl (take_ofW HT_.out HW_.out (by kernel_rfl)) hHeld ?_
    refine zt (i := 1) (N := some 64) (tb 11 3) rfl rfl (take_ofW HT_.out HW_.out (by kernel_rfl)) hHeld ?_
    refine one_ (i := 2) (N := some 65) (tb 11 7) rfl rfl (one_of HT_.out (by kernel_rfl)) (by decide) (fun K hK => ?_)
    refine goes_ Tryd.func15 (by kernel_rfl) rfl #[.agg #[.int .i64 t245, .slice Ao46 x247001_1.length co46]] (by rfl) rfl rfl (by (try simp only [List.map_toArray, List.map_cons, List.map_nil]); first | done | rfl | (simp only [List.length_drop, List.length_take]; rfl)) ?_
    with_reducible refine (spec_pzGood.calls k1 t245 _ _ x247001_1 true _ ?side1 ?side2 A42.out).mono ?_
    (case side1 => repeat (first | exact (Kd.R_reads' HO_247001.out).2.2 | (with_reducible refine Kd.C_alloc ?_ _) | (with_reducible refine Kd.C_drewN ?_ _) | (with_reducible refine Kd.C_drew ?_)))
    (case side2 => exact (Kd.R_reads' HO_247001.out).2.1)
    rintro e w47 ⟨rfl, hb⟩
    refine ⟨_, rfl, ?_⟩
    have n0_ := Aside0.mk (Kd.R_below (zr HO_32.out) hb)
    have n1_ := Aside0.mk (Kd.R_below (zr HO_247001.out) hb)
    have n2_ := Aside0.mk (blk_below (g := gb240) (o := .cells #[.int .i64 x241000_1, .slice none 0 0] 30 (0, 0)) (zb BK240.out) hb)
    have n3_ := Aside0.mk (blk_below (g := gb246) (o := .cells #[.int .i64 t245, .slice Ao46 x247001_1.length co46] 30 (0, 0)) (zb BK246.out) hb)
    have n4_ := Aside0.mk (below_step (zh HB.out) hb)
    clear HO_32 HO_247001 BK240 BK246 HB
    have HO_32 := n0_
    have HO_247001 := n1_
    have BK240 := n2_
    have BK246 := n3_
    have HB := n4_
    clear n0_ n1_ n2_ n3_ n4_
    (try clear hb)
    (try clear hb2)
    (try clear hk)
    (try clear hi)
    refine hK.out _ _ ⟨(blk_cell BK246.out 0).trans rfl, (blk_cell BK246.out 1).trans rfl⟩ (fun hHeld => ?_)
    clear hK K
    refine zn1 ?_
    refine zu (i := 3) (N := some 66) (tb 11 15) rfl rfl HT_ ?_
    refine zu (i := 6) (N := some 69) (tb 11 79) rfl rfl HT_ ?_
    refine zt (i := 4) (N := some 67) (tb 11 95) rfl rfl (take_ofW HT_.out HW_.out (by kernel_rfl)) hHeld ?_
    refine one_ (i := 5) (N := some 68) (tb 11 127) rfl rfl (one_of HT_.out (by kernel_rfl)) (by decide) (fun K hK => ?_)
    refine goes_ Tryd.func16 (by kernel_rfl) rfl #[.agg #[.int .i64 t245, .slice Ao46 x247001_1.length co46]] (by rfl) rfl rfl (by (try simp only [List.map_toArray, List.map_cons, List.map_nil]); first | done | rfl | (simp only [List.length_drop, List.length_take]; rfl)) ?_
    with_reducible refine (spec_pzText.calls k1 t245 _ _ x247001_1 t253 _ ?side1 ?side2 A44.out).mono ?_
    (case side1 => repeat (first | exact (Kd.R_reads' HO_247001.out).2.2 | (with_reducible refine Kd.C_alloc ?_ _) | (with_reducible refine Kd.C_drewN ?_ _) | (with_reducible refine Kd.C_drew ?_)))
    (case side2 => exact (Kd.R_reads' HO_247001.out).2.1)
    rintro e w48 ⟨rfl, hb⟩
    refine ⟨_, rfl, ?_⟩
    have n0_ := Aside0.mk (Kd.R_below (zr HO_32.out) hb)
    have n1_ := Aside0.mk (Kd.R_below (zr HO_247001.out) hb)
    have n2_ := Aside0.mk (blk_below (g := gb240) (o := .cells #[.int .i64 x241000_1, .slice none 0 0] 30 (0, 0)) (zb BK240.out) hb)
    have n3_ := Aside0.mk (blk_below (g := gb246) (o := .cells #[.int .i64 t245, .slice Ao46 x247001_1.length co46] 30 (0, 0)) (zb BK246.out) hb)
    have n4_ := Aside0.mk (below_step (zh HB.out) hb)
    clear HO_32 HO_247001 BK240 BK246 HB
    have HO_32 := n0_
    have HO_247001 := n1_
    have BK240 := n2_
    have BK246 := n3_
    have HB := n4_
    clear n0_ n1_ n2_ n3_ n4_
    (try clear hb)
    (try clear hb2)
    (try clear hk)
    (try clear hi)
    refine hK.out _ _ ⟨(blk_cell BK246.out 0).trans rfl, (blk_cell BK246.out 1).trans rfl⟩ (fun hHeld => ?_)
    clear hK K
    refine zn1 ?_
    refine zu (i := 7) (N := some 70) (tb 11 255) rfl rfl HT_ ?_
    refine zu (i := 8) (N := some 71) (tb 11 511) rfl rfl HT_ ?_
    refine one_ (i := 9) (N := none) (tb 11 1023) rfl rfl (one_of HT_.out (by kernel_rfl)) (by decide) (fun K hK => ?_)
    have hs49 : w48.cell? ⟨gb240, 0, none⟩ = some (.int .i64 x241000_1) := (blk_cell BK240.out 0).trans rfl
    have hfs49 := blk_frozen BK240.out 0
    have hns49_1 := NB246_240.out
    have hms49_1 := NB240_246.out
    have hs50 : w48.cell? ⟨gb240, 1, none⟩ = some (.slice none 0 0) := (blk_cell BK240.out 1).trans rfl
    have hfs50 := blk_frozen BK240.out 1
    have hns50_1 := NB246_240.out
    have hms50_1 := NB240_246.out
    refine skip_ (w1 := ?_) (by rfl) rfl ?_ ?_
    rotate_left
    ·go_simp
     rfl
    refine hK.out _ _ ⟨((cell_far (p := ⟨gb240, _, none⟩) NB246_240.out _).trans (((cell_far (p := ⟨gb240, _, none⟩) NB246_240.out _).trans (hHeld.1)))), ((cell_far (p := ⟨gb240, _, none⟩) NB246_240.out _).trans (((cell_far (p := ⟨gb240, _, none⟩) NB246_240.out _).trans (hHeld.2))))⟩ (fun hHeld => ?_)
    clear hK K
    refine zu (i := 10) (N := some 3) (tb 11 2047) rfl rfl HT_ ?_
    refine done_ (done_of HT_.out (by kernel_rfl)) ?_
    try go_wp2
    refine bodyPost_ret (results_ct rfl _ _ gb240 30 #[.int .i64 t245, .slice Ao46 x247001_1.length co46] (0, 0) _ rfl (by (with_reducible repeat (first | refine blk_drewN ?_ _ | refine blk_drew ?_ | refine blk_alloc ?_ _)); refine blk_put (cs := #[.int .i64 t245, .slice none 0 0]) ?_ 1 _ rfl; (with_reducible repeat (first | refine blk_drewN ?_ _ | refine blk_drew ?_ | refine blk_alloc ?_ _)); refine blk_put (cs := #[.int .i64 x241000_1, .slice none 0 0]) ?_ 0 _ rfl; (with_reducible repeat (first | refine blk_drewN ?_ _ | refine blk_drew ?_ | refine blk_alloc ?_ _)); exact BK240.out) Tryd.underlying30 rfl (by kernel_rfl)) rfl ?_
    exact ⟨_, by first | rfl | (simp [*, errW_none, errW_some] <;> rfl), by (with_reducible repeat (first | apply Kd.R_alloc | apply Kd.R_drewN | apply Kd.R_drew)); exact Kd.R_mono (Kd.R_far (p := ⟨gb240, 1, none⟩) (Kd.R_far (p := ⟨gb240, 0, none⟩) (Kd.R_types HO_247001.out BK240.out (by decide)) (fun _ hk => hk.2) (.int .i64 t245)) (fun _ hk => hk.2) (.slice Ao46 x247001_1.length co46)) (fun _ hk => trivial), zh HB.out⟩
   rw [if_pos c20] at H
   have c20b0 := decide_eq_true c20
   clear c20
   by_cases c21 : 0 ≤ x34_1
   rotate_left
   ·rw [if_neg c21] at H
    cases H
   rw [if_pos c21] at H
   have c21b0 := decide_eq_true c21
   clear c21
   by_cases c22 : x34_1 < (t249.length : Int)
   rotate_left
   ·rw [if_neg c22] at H
    cases H
   rw [if_pos c22] at H
   have c22b0 := decide_eq_true c22
   clear c22
   replace H := Option.bind_eq_some_iff.mp H
   obtain ⟨t255, A230, H⟩ := H
   replace H : (if (t255.length : Int) = 3 then (if 0 < (t255.length : Int) then ((spec_l1Read.f k1 (rdOf ByteArray.empty t255 0)).bind fun t259 => (if 1 < (t255.length : Int) then ((spec_l1Read.f k1 (rdOf ByteArray.empty t255 1)).bind fun t261 => (if 2 < (t255.length : Int) then ((spec_l1Read.f k1 (rdOf ByteArray.empty t255 2)).bind fun t263 => (if x247001_1.length < 5864062014805 then (spec_pzParse.l0 k1 a0 t249 (t249.length : Int) (wrap64 (x34_1 + 1)) t245 (x247001_1 ++ [(⟨t259, t261, t263⟩ : S54)])) else (none))) else (none))) else (none))) else (none)) else (some (0, ([] : List (S54)), false))) = some (r1, r2, r3) := H
   have A23 := Aside0.mk A230
   clear A230
   by_cases c24 : (t255.length : Int) = 3
   rotate_left
   ·rw [if_neg c24] at H
    have c24b0 := beq_eq_false_iff_ne.mpr c24
    have c24b1 := bne_iff_ne.mpr c24
    simp only [Option.some.injEq, Prod.mk.injEq] at H
    obtain ⟨rfl, rfl, rfl⟩ := H
    obtain ⟨⟨ad254, e254, hx254_0⟩, p254, q254⟩ := zW (Kd.at_string (Kd.R_reads' HO_32.out).2.2 x34_1)
    cases e254
    go_wp2_with (first | ((with_reducible refine gate_callee (f := 40) rfl ?_); refine zl 39 Tryd.func40 #[.string (rdOf ByteArray.empty t249 x34_1), .int .u8 46] ?_; (with_reducible refine (spec_l1Split.calls k1 (rdOf ByteArray.empty t249 x34_1) 46 t255 _ A23.out).mono ?_); rintro e w38 ⟨v256, rfl, ho0, hb⟩; refine ⟨_, rfl, ?_⟩; have HO257 := Aside0.mk (Kd.R_lower (Kd.R_new' ho0 (Kd.R_lt (zr HO_32.out))) (below_size (zh HB.out))); replace HO_32 := Aside0.mk (Kd.R_elder' (zr HO_32.out) (Kd.R_base ho0) hb); replace HO_247001 := Aside0.mk (Kd.R_below (zr HO_247001.out) hb); replace BK240 := zK BK240 hb; replace BK246 := zK BK246 hb; replace HB := zH hb HB; clear hb; (try clear ho0); obtain ⟨Ao39, co39, eo39⟩ := Kd.R_slice HO257.out; subst eo39; have hnb40 := NB240_246.out; have hnc40 := NB246_240.out; obtain ⟨hcz41_0, hcz41_1, hfz41_0, hfz41_1⟩ := zC2 BK240))
    refine bodyPost_ret (results_ct rfl _ _ gb240 30 #[.int .i64 0, .slice none 0 0] (0, 0) _ rfl (by (with_reducible repeat (first | refine blk_drewN ?_ _ | refine blk_drew ?_ | refine blk_alloc ?_ _)); refine blk_put (cs := #[.int .i64 0, .slice none 0 0]) ?_ 1 _ rfl; (with_reducible repeat (first | refine blk_drewN ?_ _ | refine blk_drew ?_ | refine blk_alloc ?_ _)); refine blk_put (cs := #[.int .i64 x241000_1, .slice none 0 0]) ?_ 0 _ rfl; (with_reducible repeat (first | refine blk_drewN ?_ _ | refine blk_drew ?_ | refine blk_alloc ?_ _)); exact BK240.out) Tryd.underlying30 rfl (by kernel_rfl)) rfl ?_
    exact ⟨_, by first | rfl | (simp [*, errW_none, errW_some] <;> rfl), by first | exact Kd.R_nil _ _ _ _ _ | exact Kd.N_nil _ _ _ _ _ | exact Kd.V_nil _ _ _ _ _ | exact Kd.Q_nil _ _ _ _ _ | exact Kd.S_nil _ _ _ _ _, zh HB.out⟩
   rw [if_pos c24] at H
   have c24b0 := beq_iff_eq.mpr c24
   have c24b1 := bne_eq_false_iff_eq.mpr c24
   clear c24
   by_cases c25 : 0 < (t255.length : Int)
   rotate_left
   ·rw [if_neg c25] at H
    cases H
   rw [if_pos c25] at H
   have c25b0 := decide_eq_true c25
   have c25b1 : decide (0 < t255.length) = true := decide_eq_true (by omega)
   clear c25
   replace H := Option.bind_eq_some_iff.mp H
   obtain ⟨t259, A260, H⟩ := H
   replace H : (if 1 < (t255.length : Int) then ((spec_l1Read.f k1 (rdOf ByteArray.empty t255 1)).bind fun t261 => (if 2 < (t255.length : Int) then ((spec_l1Read.f k1 (rdOf ByteArray.empty t255 2)).bind fun t263 => (if x247001_1.length < 5864062014805 then (spec_pzParse.l0 k1 a0 t249 (t249.length : Int) (wrap64 (x34_1 + 1)) t245 (x247001_1 ++ [(⟨t259, t261, t263⟩ : S54)])) else (none))) else (none))) else (none)) = some (r1, r2, r3) := H
   have A26 := Aside0.mk A260
   clear A260
   by_cases c27 : 1 < (t255.length : Int)
   rotate_left
   ·rw [if_neg c27] at H
    cases H
   rw [if_pos c27] at H
   have c27b0 := decide_eq_true c27
   have c27b1 : decide (1 < t255.length) = true := decide_eq_true (by omega)
   clear c27
   replace H := Option.bind_eq_some_iff.mp H
   obtain ⟨t261, A280, H⟩ := H
   replace H : (if 2 < (t255.length : Int) then ((spec_l1Read.f k1 (rdOf ByteArray.empty t255 2)).bind fun t263 => (if x247001_1.length < 5864062014805 then (spec_pzParse.l0 k1 a0 t249 (t249.length : Int) (wrap64 (x34_1 + 1)) t245 (x247001_1 ++ [(⟨t259, t261, t263⟩ : S54)])) else (none))) else (none)) = some (r1, r2, r3) := H
   have A28 := Aside0.mk A280
   clear A280
   by_cases c29 : 2 < (t255.length : Int)
   rotate_left
   ·rw [if_neg c29] at H
    cases H
   rw [if_pos c29] at H
   have c29b0 := decide_eq_true c29
   have c29b1 : decide (2 < t255.length) = true := decide_eq_true (by omega)
   clear c29
   replace H := Option.bind_eq_some_iff.mp H
   obtain ⟨t263, A300, H⟩ := H
   replace H : (if x247001_1.length < 5864062014805 then (spec_pzParse.l0 k1 a0 t249 (t249.length : Int) (wrap64 (x34_1 + 1)) t245 (x247001_1 ++ [(⟨t259, t261, t263⟩ : S54)])) else (none)) = some (r1, r2, r3) := H
   have A30 := Aside0.mk A300
   clear A300
   by_cases c31 : x247001_1.length < 5864062014805
   rotate_left
   ·rw [if_neg c31] at H
    cases H
   rw [if_pos c31] at H
   have LMc31 := Aside0.mk c31
   clear c31
   obtain ⟨y264, hy264⟩ : ∃ y_ : List (S54), y_ = (x247001_1 ++ [(⟨t259, t261, t263⟩ : S54)]) := ⟨_, rfl⟩
   rw [← hy264] at H
   have Ny264 := Aside0.mk hy264
   clear hy264
   have H' := Aside0.mk H
   clear H
   obtain ⟨⟨ad254, e254, hx254_0⟩, p254, q254⟩ := zW (Kd.at_string (Kd.R_reads' HO_32.out).2.2 x34_1)
   cases e254
   try go_wp2_with (first | ((with_reducible refine gate_callee (f := 40) rfl ?_); refine zl 39 Tryd.func40 #[.string (rdOf ByteArray.empty t249 x34_1), .int .u8 46] ?_; (with_reducible refine (spec_l1Split.calls k1 (rdOf ByteArray.empty t249 x34_1) 46 t255 _ A23.out).mono ?_); rintro e w32 ⟨v256, rfl, ho0, hb⟩; refine ⟨_, rfl, ?_⟩; have HO257 := Aside0.mk (Kd.R_lower (Kd.R_new' ho0 (Kd.R_lt (zr HO_32.out))) (below_size (zh HB.out))); replace HO_32 := Aside0.mk (Kd.R_elder' (zr HO_32.out) (Kd.R_base ho0) hb); replace HO_247001 := Aside0.mk (Kd.R_below (zr HO_247001.out) hb); replace BK240 := zK BK240 hb; replace BK246 := zK BK246 hb; replace HB := zH hb HB; clear hb; (try clear ho0); obtain ⟨Ao33, co33, eo33⟩ := Kd.R_slice HO257.out; subst eo33))
   have n0_ := Aside0.mk (Kd.R_drew HO_32.out)
   have n1_ := Aside0.mk (Kd.R_drew HO_247001.out)
   have n2_ := Aside0.mk (Kd.R_drew HO257.out)
   have n3_ := Aside0.mk (blk_drew BK240.out)
   have n4_ := Aside0.mk (blk_drew BK246.out)
   have n5_ := Aside0.mk (below_drew1 HB.out)
   clear HO_32 HO_247001 HO257 BK240 BK246 HB
   have HO_32 := n0_
   have HO_247001 := n1_
   have HO257 := n2_
   have BK240 := n3_
   have BK246 := n4_
   have HB := n5_
   clear n0_ n1_ n2_ n3_ n4_ n5_
   have p258 : 0 ≤ (0 : Int) := (by omega)
   have q258 : 0 < (t255.length : Int) := zk
   obtain ⟨ad258, e258, hx258_0⟩ := Kd.at_string (Kd.R_reads' HO257.out).2.2 0 p258 q258
   cases e258
   have qi258 : (0 < t255.length) = True := eq_true (by omega)
   (try rw [show ((0 : Int)).toNat = 0 from rfl] at hx258_0)
   (try rw [Addr.add_zero'] at hx258_0)
   replace p258 := eq_true p258
   replace q258 := eq_true q258
   have p260 : 0 ≤ (1 : Int) := (by omega)
   have q260 : 1 < (t255.length : Int) := zk
   obtain ⟨ad260, e260, hx260_0⟩ := Kd.at_string (Kd.R_reads' HO257.out).2.2 1 p260 q260
   obtain rfl : ad258 = ad260 := (by injection e260)
   (try simp only [show (1 : Int).toNat = 1 from rfl, Nat.reduceMul, Nat.reduceEqDiff, Go.Addr.add, ↓reduceIte] at hx260_0)
   have qi260 : (1 < t255.length) = True := eq_true (by omega)
   (try rw [show ((1 : Int)).toNat = 1 from rfl] at hx260_0)
   replace p260 := eq_true p260
   replace q260 := eq_true q260
   have p262 : 0 ≤ (2 : Int) := (by omega)
   have q262 : 2 < (t255.length : Int) := zk
   obtain ⟨ad262, e262, hx262_0⟩ := Kd.at_string (Kd.R_reads' HO257.out).2.2 2 p262 q262
   obtain rfl : ad258 = ad262 := (by injection e262)
   (try simp only [show (2 : Int).toNat = 2 from rfl, Nat.reduceMul, Nat.reduceEqDiff, Go.Addr.add, ↓reduceIte] at hx262_0)
   have qi262 : (2 < t255.length) = True := eq_true (by omega)
   (try rw [show ((2 : Int)).toNat = 2 from rfl] at hx262_0)
   replace p262 := eq_true p262
   replace q262 := eq_true q262
   refine start_ (n := 19) (S := fun w' => w'.cell? ⟨gb246, 0, none⟩ = some (.int .i64 t245) ∧ w'.cell? ⟨gb246, 1, none⟩ = some (u247001) ∧ w'.cell? ad258 = some (.string (rdOf ByteArray.empty t255 0)) ∧ w'.cell? ⟨ad258.block, ad258.off + 1, none⟩ = some (.string (rdOf ByteArray.empty t255 1)) ∧ w'.cell? ⟨ad258.block, ad258.off + 2, none⟩ = some (.string (rdOf ByteArray.empty t255 2))) (ds := [16, 18]) (tb 19 0) (by kernel_rfl) rfl rfl ⟨(blk_cell BK246.out 0).trans rfl, (blk_cell BK246.out 1).trans rfl, hx258_0, hx260_0, hx262_0⟩ (fun hHeld => ?_); refine with_tabW spec_pzParse.tab14 spec_pzParse.bits14 (fun HT_ HW_ => ?_)
   generalize w32.drew = w34 at HO_32 HO_247001 HO257 BK240 BK246 HB hx258_0 hx260_0 hx262_0 hHeld ⊢
   refine zu (i := 0) (N := some 44) (tb 19 1) rfl rfl HT_ ?_
   refine zu (i := 2) (N := some 46) (tb 19 5) rfl rfl HT_ ?_
   refine zu (i := 3) (N := some 47) (tb 19 13) rfl rfl HT_ ?_
   refine zu (i := 6) (N := some 50) (tb 19 77) rfl rfl HT_ ?_
   refine zu (i := 7) (N := some 51) (tb 19 205) rfl rfl HT_ ?_
   refine zu (i := 10) (N := some 54) (tb 19 1229) rfl rfl HT_ ?_
   refine zu (i := 11) (N := some 55) (tb 19 3277) rfl rfl HT_ ?_
   refine zt (i := 1) (N := some 45) (tb 19 3279) rfl rfl (take_ofW HT_.out HW_.out (by kernel_rfl)) hHeld ?_
   refine zt (i := 4) (N := some 48) (tb 19 3295) rfl rfl (take_ofW HT_.out HW_.out (by kernel_rfl)) hHeld ?_
   refine zt (i := 8) (N := some 52) (tb 19 3551) rfl rfl (take_ofW HT_.out HW_.out (by kernel_rfl)) hHeld ?_
   refine zt (i := 12) (N := some 56) (tb 19 7647) rfl rfl (take_ofW HT_.out HW_.out (by kernel_rfl)) hHeld ?_
   refine one_ (i := 5) (N := some 49) (tb 19 7679) rfl rfl (one_of HT_.out (by kernel_rfl)) (by decide) (fun K hK => ?_)
   refine goes_ Tryd.func41 (by kernel_rfl) rfl #[.string (rdOf ByteArray.empty t255 0)] (by rfl) rfl rfl (by (try simp only [List.map_toArray, List.map_cons, List.map_nil]); first | done | rfl | (simp only [List.length_drop, List.length_take]; rfl)) ?_
   with_reducible refine (spec_l1Read.calls k1 (rdOf ByteArray.empty t255 0) t259 _ A26.out).mono ?_
   rintro e w' ⟨rfl, ⟨nd, rfl⟩⟩
   refine ⟨_, rfl, ?_⟩
   refine hK.out _ _ ⟨(blk_cell BK246.out 0).trans rfl, (blk_cell BK246.out 1).trans rfl, hHeld.2.2.1, hHeld.2.2.2.1, hHeld.2.2.2.2⟩ (fun hHeld => ?_)
   clear hK K
   refine zn1 ?_
   refine one_ (i := 9) (N := some 53) (tb 19 8191) rfl rfl (one_of HT_.out (by kernel_rfl)) (by decide) (fun K hK => ?_)
   refine goes_ Tryd.func41 (by kernel_rfl) rfl #[.string (rdOf ByteArray.empty t255 1)] (by rfl) rfl rfl (by (try simp only [List.map_toArray, List.map_cons, List.map_nil]); first | done | rfl | (simp only [List.length_drop, List.length_take]; rfl)) ?_
   with_reducible refine (spec_l1Read.calls k1 (rdOf ByteArray.empty t255 1) t261 _ A28.out).mono ?_
   rintro e w' ⟨rfl, ⟨nd, rfl⟩⟩
   refine ⟨_, rfl, ?_⟩
   refine hK.out _ _ ⟨(blk_cell BK246.out 0).trans rfl, (blk_cell BK246.out 1).trans rfl, hHeld.2.2.1, hHeld.2.2.2.1, hHeld.2.2.2.2⟩ (fun hHeld => ?_)
   clear hK K
   refine zn1 ?_
   refine one_ (i := 13) (N := some 57) (tb 19 16383) rfl rfl (one_of HT_.out (by kernel_rfl)) (by decide) (fun K hK => ?_)
   refine goes_ Tryd.func41 (by kernel_rfl) rfl #[.string (rdOf ByteArray.empty t255 2)] (by rfl) rfl rfl (by (try simp only [List.map_toArray, List.map_cons, List.map_nil]); first | done | rfl | (simp only [List.length_drop, List.length_take]; rfl)) ?_
   with_reducible refine (spec_l1Read.calls k1 (rdOf ByteArray.empty t255 2) t263 _ A30.out).mono ?_
   rintro e w' ⟨rfl, ⟨nd, rfl⟩⟩
   refine ⟨_, rfl, ?_⟩
   refine hK.out _ _ ⟨(blk_cell BK246.out 0).trans rfl, (blk_cell BK246.out 1).trans rfl, hHeld.2.2.1, hHeld.2.2.2.1, hHeld.2.2.2.2⟩ (fun hHeld => ?_)
   clear hK K
   refine zn1 ?_
   refine zu (i := 14) (N := some 58) (tb 19 32767) rfl rfl HT_ ?_
   refine one_ (i := 15) (N := some 59) (tb 19 65535) rfl rfl (one_of HT_.out (by kernel_rfl)) (by decide) (fun K hK => ?_)
   refine value_ (w1 := ?_) (v := ?_) (by rfl) rfl ?_ ?_
   rotate_left 2
   ·go_simp
    constructor
    ·rfl
    ·rfl
   refine hK.out _ _ ⟨(blk_cell (blk_alloc BK246.out _) 0).trans rfl, (blk_cell (blk_alloc BK246.out _) 1).trans rfl, (World.cell?_alloc_lt _ _ _ (World.block_lt_of_cell? _ _ (hHeld.2.2.1))).trans (hHeld.2.2.1), (World.cell?_alloc_lt _ _ _ (World.block_lt_of_cell? _ _ (hHeld.2.2.2.1))).trans (hHeld.2.2.2.1), (World.cell?_alloc_lt _ _ _ (World.block_lt_of_cell? _ _ (hHeld.2.2.2.2))).trans (hHeld.2.2.2.2)⟩ (fun hHeld => ?_)
   clear hK K
   refine zn1 ?_
   refine last_ (i := 16) (N := some 60) (tb 19 131071) rfl rfl (one_of HT_.out (by kernel_rfl)) (by decide) (fun K hK => ?_)
   refine Kd.R_append_step k54 (w0 := w) w.heap.size (by rfl) (.tmp 45) (.tmp 59) 28 54 (.agg #[(.int .i64 0), (.int .i64 0), (.int .i64 0)]) 24 rfl Tryd.underlying28 info54 rfl (by decide) (by omega) u247001 x247001_1 (⟨t259, t261, t263⟩ : S54) [.int .i64 t259, .int .i64 t261, .int .i64 t263] (fun _ => True) (fun _ => False) rfl rfl ?aP (fun _ hk => hk.elim) ?aF ?aO ?aB ?aS ?aL ?_
   (case aP => exact k54_mkM _ _ _ (⟨t259, t261, t263⟩ : S54))
   (case aB => exact (zh HB.out))
   (case aF => exact (fun _ _ => trivial))
   (case aO => exact (zr HO_247001.out))
   (case aS => exact (below_size (zh HB.out)))
   (case aL => have := LMc31.out; omega)
   intro v265 w35 ho hb hg hat
   rw [← Ny264.out] at ho
   have n0_ := Aside0.mk (Kd.R_over' (zr HO_32.out) (Kd.R_typed (zr HO_247001.out)) (by decide) hg)
   have n1_ := Aside0.mk (blk_grown (g := gb240) (o := .cells #[.int .i64 x241000_1, .slice none 0 0] 30 (0, 0)) (zb BK240.out) hg (Kd.R_ne HO_247001.out BK240.out (by decide)))
   have n2_ := Aside0.mk (blk_grown (g := gb246) (o := .cells #[.int .i64 t245, u247001] 30 (0, 0)) (zb BK246.out) hg (Kd.R_ne HO_247001.out BK246.out (by decide)))
   have n3_ := Aside0.mk (Kd.R_over' (zr HO257.out) (Kd.R_typed (zr HO_247001.out)) (by decide) hg)
   have n4_ := Aside0.mk (hb)
   have n5_ := Aside0.mk (ho)
   clear HO_32 BK240 BK246 HO257 HB HO_247001
   have HO_32 := n0_
   have BK240 := n1_
   have BK246 := n2_
   have HO257 := n3_
   have HB := n4_
   have HO266 := n5_
   clear n0_ n1_ n2_ n3_ n4_ n5_ ho hb hg hat
   obtain ⟨Ao36, co36, eo36⟩ := Kd.R_slice HO266.out
   (first | subst eo36 | (injection eo36 with f1_ f2_ f3_; have f4_ := f1_.symm; have f5_ := f3_.symm; clear f1_ f2_ f3_; subst f4_; subst f5_))
   refine hK.out _ _ ?_
   clear hK K
   refine zn1 ?_
   refine zu (i := 17) (N := some 61) (tb 19 262143) rfl rfl HT_ ?_
   refine last_ (i := 18) (N := none) (tb 19 524287) rfl rfl (one_of HT_.out (by kernel_rfl)) (by decide) (fun K hK => ?_)
   have hs37 : w35.cell? ⟨gb246, 1, none⟩ = some (u247001) := (blk_cell BK246.out 1).trans rfl
   have hfs37 := blk_frozen BK246.out 1
   have hns37_0 := NB240_246.out
   have hms37_0 := NB246_240.out
   refine skip_ (w1 := ?_) (by rfl) rfl ?_ ?_
   rotate_left
   ·go_simp
    rfl
   refine hK.out _ _ ?_
   clear hK K
   refine done_ (done_of HT_.out (by kernel_rfl)) ?_
   try go_wp2
   go_roundg k1
   case measure => have := HK1.out; omega
   case rel => exact ⟨(wrap64 (x34_1 + 1)), (x241000_1), (y264), (.slice Ao36 y264.length co36), zE, H', zO HK1, ⟨by (with_reducible repeat (first | apply Kd.R_alloc | apply Kd.R_drewN | apply Kd.R_drew)); exact Kd.R_mono (Kd.R_far (p := ⟨gb246, 1, none⟩) (Kd.R_types HO_32.out BK246.out (by decide)) (fun _ hk => hk.2) (.slice Ao36 y264.length co36)) (fun _ hk => trivial)⟩, ⟨by (with_reducible repeat (first | apply Kd.R_alloc | apply Kd.R_drewN | apply Kd.R_drew)); exact Kd.R_mono (Kd.R_far (p := ⟨gb246, 1, none⟩) (Kd.R_types HO266.out BK246.out (by decide)) (fun _ hk => hk.2) (.slice Ao36 y264.length co36)) (fun _ hk => trivial)⟩, ⟨zf1 BK240.out NB240_246.out⟩, ⟨by (with_reducible repeat (first | refine blk_drewN ?_ _ | refine blk_drew ?_ | refine blk_alloc ?_ _)); refine blk_put (cs := #[.int .i64 t245, u247001]) ?_ 1 _ rfl; (with_reducible repeat (first | refine blk_drewN ?_ _ | refine blk_drew ?_ | refine blk_alloc ?_ _)); exact BK246.out⟩, ⟨zh HB.out⟩⟩
def spec_ParsePuzzle.f (k : Nat) (a0 : ByteArray) : Option (Int × (List (S54)) × Bool) := (spec_pzParse.f k a0).bind fun bt270 => (if bt270.2.2 = true then (some (bt270.1, bt270.2.1, true)) else (some (0, ([] : List (S54)), false)))
set_option maxHeartbeats 8000000 in
set_option maxRecDepth 100000 in
theorem spec_ParsePuzzle.calls (k : Nat) (a0 : ByteArray) (r1 : Int) (r2 : List (S54)) (r3 : Bool) (w : World) (h : spec_ParsePuzzle.f k a0 = some (r1, r2, r3)) :
  Calls Tryd.prog 10 #[.string a0] w fun e w' => ∃ v1_ : Value, e = .returned (.tuple #[.agg #[.int .i64 r1, v1_], .bool r3]) ∧ Kd.R k54 54 w' w.heap.size (fun _ => True) v1_ r2 ∧ Below w.heap.size w w' := by
 have hu30 := Tryd.underlying30
 have HB := Aside0.mk (Below.refl w.heap.size w)
 have H : ((spec_pzParse.f k a0).bind fun bt270 => (if bt270.2.2 = true then (some (bt270.1, bt270.2.1, true)) else (some (0, ([] : List (S54)), false)))) = some (r1, r2, r3) := h
 clear h
 replace H := Option.bind_eq_some_iff.mp H
 obtain ⟨⟨t270, t271, t274⟩, A20, H⟩ := H
 replace H : (if t274 = true then (some (t270, t271, true)) else (some (0, ([] : List (S54)), false))) = some (r1, r2, r3) := H
 have A2 := Aside0.mk A20
 clear A20
 by_cases c3 : t274 = true
 rotate_left
 ·replace c3 := Bool.eq_false_iff.mpr c3
  subst c3
  rw [if_neg zF] at H
  simp only [Option.some.injEq, Prod.mk.injEq] at H
  obtain ⟨rfl, rfl, rfl⟩ := H
  go_enter Tryd.func10, Tryd.ntmps10
  go_wp2_with (first | ((with_reducible refine gate_dst (N := 2) rfl ?_); refine zq 2 #[.int .i64 0, .slice none 0 0] 30 ?_; intro gb269 hg w11 hbox hb; have GW269 := zG hg HB; replace HB := zH hb HB; have BK269 := Aside0.mk hbox; have GE269 := GW269; clear hb hbox hg) | ((with_reducible refine gate_callee (f := 21) rfl ?_); refine zl 8 Tryd.func21 #[.string a0] ?_; (with_reducible refine (spec_pzParse.calls k a0 t270 t271 false _ A2.out).mono ?_); rintro e w12 ⟨v272, rfl, ho0, hb⟩; refine ⟨_, rfl, ?_⟩; have HO273 := Aside0.mk (Kd.R_lower ho0 (below_size (zh HB.out))); replace BK269 := zK BK269 hb; replace HB := zH hb HB; clear hb; (try clear ho0)) | ((with_reducible refine gate_dst (N := 4) rfl ?_); refine zq 4 #[.int .i64 0, .slice none 0 0] 30 ?_; intro gb275 hg w13 hbox hb; have BK275 := Aside0.mk hbox; have GW275 := zG hg HB; have GE275 := zG hg HB; have NB269_275 := zNa hg BK269; have NB275_269 := zNb hg BK269; replace HO273 := Aside0.mk (Kd.R_below (zr HO273.out) hb); replace BK269 := zK BK269 hb; replace HB := zH hb HB; clear hb hbox hg; have hnb14 := NB275_269.out; have hnc14 := NB269_275.out; obtain ⟨hcz15_0, hcz15_1, hfz15_0, hfz15_1⟩ := zC2 BK275; obtain ⟨Ao16, co16, eo16⟩ := Kd.R_slice HO273.out; subst eo16; obtain ⟨hcz17_0, hcz17_1, hfz17_0, hfz17_1⟩ := zC2 BK269))
  refine bodyPost_ret (results_ct rfl _ _ gb269 30 #[.int .i64 0, .slice none 0 0] (0, 0) _ rfl (by (with_reducible repeat (first | refine blk_drewN ?_ _ | refine blk_drew ?_ | refine blk_alloc ?_ _)); refine blk_put (cs := #[.int .i64 0, .slice none 0 0]) ?_ 1 _ rfl; (with_reducible repeat (first | refine blk_drewN ?_ _ | refine blk_drew ?_ | refine blk_alloc ?_ _)); refine blk_put (cs := #[.int .i64 0, .slice none 0 0]) ?_ 0 _ rfl; (with_reducible repeat (first | refine blk_drewN ?_ _ | refine blk_drew ?_ | refine blk_alloc ?_ _)); refine blk_far ?_ NB269_275.out _; (with_reducible repeat (first | refine blk_drewN ?_ _ | refine blk_drew ?_ | refine blk_alloc ?_ _)); refine blk_far ?_ NB269_275.out _; (with_reducible repeat (first | refine blk_drewN ?_ _ | refine blk_drew ?_ | refine blk_alloc ?_ _)); exact BK269.out) Tryd.underlying30 rfl (by kernel_rfl)) rfl ?_
  exact ⟨_, by first | rfl | (simp [*, errW_none, errW_some] <;> rfl), by first | exact Kd.R_nil _ _ _ _ _ | exact Kd.N_nil _ _ _ _ _ | exact Kd.V_nil _ _ _ _ _ | exact Kd.Q_nil _ _ _ _ _ | exact Kd.S_nil _ _ _ _ _, zh HB.out⟩
 subst c3
 rw [if_pos rfl] at H
 simp only [Option.some.injEq, Prod.mk.injEq] at H
 obtain ⟨rfl, rfl, rfl⟩ := H
 go_enter Tryd.func10, Tryd.ntmps10
 go_wp2_with (first | ((with_reducible refine gate_dst (N := 2) rfl ?_); refine zq 2 #[.int .i64 0, .slice none 0 0] 30 ?_; intro gb269 hg w4 hbox hb; have GW269 := zG hg HB; replace HB := zH hb HB; have BK269 := Aside0.mk hbox; have GE269 := GW269; clear hb hbox hg) | ((with_reducible refine gate_callee (f := 21) rfl ?_); refine zl 8 Tryd.func21 #[.string a0] ?_; (with_reducible refine (spec_pzParse.calls k a0 t270 t271 true _ A2.out).mono ?_); rintro e w5 ⟨v272, rfl, ho0, hb⟩; refine ⟨_, rfl, ?_⟩; have HO273 := Aside0.mk (Kd.R_lower ho0 (below_size (zh HB.out))); replace BK269 := zK BK269 hb; replace HB := zH hb HB; clear hb; (try clear ho0)) | ((with_reducible refine gate_dst (N := 4) rfl ?_); refine zq 4 #[.int .i64 0, .slice none 0 0] 30 ?_; intro gb275 hg w6 hbox hb; have BK275 := Aside0.mk hbox; have GW275 := zG hg HB; have GE275 := zG hg HB; have NB269_275 := zNa hg BK269; have NB275_269 := zNb hg BK269; replace HO273 := Aside0.mk (Kd.R_below (zr HO273.out) hb); replace BK269 := zK BK269 hb; replace HB := zH hb HB; clear hb hbox hg; have hnb7 := NB275_269.out; have hnc7 := NB269_275.out; obtain ⟨hcz8_0, hcz8_1, hfz8_0, hfz8_1⟩ := zC2 BK275; obtain ⟨Ao9, co9, eo9⟩ := Kd.R_slice HO273.out; subst eo9; obtain ⟨hcz10_0, hcz10_1, hfz10_0, hfz10_1⟩ := zC2 BK269))
 refine bodyPost_ret (results_ct rfl _ _ gb269 30 #[.int .i64 t270, .slice Ao9 t271.length co9] (0, 0) _ rfl (by (with_reducible repeat (first | refine blk_drewN ?_ _ | refine blk_drew ?_ | refine blk_alloc ?_ _)); refine blk_put (cs := #[.int .i64 t270, .slice none 0 0]) ?_ 1 _ rfl; (with_reducible repeat (first | refine blk_drewN ?_ _ | refine blk_drew ?_ | refine blk_alloc ?_ _)); refine blk_put (cs := #[.int .i64 0, .slice none 0 0]) ?_ 0 _ rfl; (with_reducible repeat (first | refine blk_drewN ?_ _ | refine blk_drew ?_ | refine blk_alloc ?_ _)); refine blk_far ?_ NB269_275.out _; (with_reducible repeat (first | refine blk_drewN ?_ _ | refine blk_drew ?_ | refine blk_alloc ?_ _)); refine blk_far ?_ NB269_275.out _; (with_reducible repeat (first | refine blk_drewN ?_ _ | refine blk_drew ?_ | refine blk_alloc ?_ _)); exact BK269.out) Tryd.underlying30 rfl (by kernel_rfl)) rfl ?_
 exact ⟨_, by first | rfl | (simp [*, errW_none, errW_some] <;> rfl), by (with_reducible repeat (first | apply Kd.R_alloc | apply Kd.R_drewN | apply Kd.R_drew)); exact Kd.R_mono (Kd.R_far (p := ⟨gb269, 1, none⟩) (Kd.R_far (p := ⟨gb269, 0, none⟩) (Kd.R_far (p := ⟨gb275, 1, none⟩) (Kd.R_far (p := ⟨gb275, 0, none⟩) (Kd.R_types (Kd.R_types HO273.out BK275.out (by decide)) BK269.out (by decide)) (fun _ hk => hk.1.2) (.int .i64 t270)) (fun _ hk => hk.1.2) (.slice Ao9 t271.length co9)) (fun _ hk => hk.2) (.int .i64 t270)) (fun _ hk => hk.2) (.slice Ao9 t271.length co9)) (fun _ hk => trivial), zh HB.out⟩
def laws_markClueS.l0 : Nat → List (S54) → Int → Int → Option (Int × (List (S54)))
 | 0, _, _, _ => none
 | k + 1, x0, x1, x5 => if x5 < (x0.length : Int) then (if 0 ≤ x5 then ((some (x0.set (x5 : Int).toNat (⟨x1, (rd_T54 x0 x5).f1, (rd_T54 x0 x5).f2⟩ : S54) : List (S54))).bind fun y325 => ((some (y325.set (x5 : Int).toNat (⟨(rd_T54 y325 x5).f0, wrap64 (x1 + 1), (rd_T54 y325 x5).f2⟩ : S54) : List (S54))).bind fun y326 => (laws_markClueS.l0 k (y326.set (x5 : Int).toNat (⟨(rd_T54 y326 x5).f0, (rd_T54 y326 x5).f1, wrap64 ((wrap64 (x1 + 1)) + 1)⟩ : S54)) (wrap64 ((wrap64 ((wrap64 (x1 + 1)) + 1)) + 1)) (wrap64 (x5 + 1))))) else (none)) else (some (x1, x0))
def laws_markClueS.f (k : Nat) (l0 : List (S54)) (a1 : Int) : Option (Int × (List (S54))) := laws_markClueS.l0 k l0 a1 0
set_option maxHeartbeats 8000000 in
set_option maxRecDepth 100000 in
theorem laws_markClueS.calls (k : Nat) (P0_ : Nat → Prop) (u9000_ : Value) (l0 : List (S54)) (a1 : Int) (r1 : Int) (r2 : List (S54)) (w0 w : World) (hB : Below w0.heap.size w0 w) (ho0 : Kd.R k54 54 w w0.heap.size P0_ u9000_ l0) (h : laws_markClueS.f k l0 a1 = some (r1, r2)) :
  Calls Tryd.prog 27 #[u9000_, .int .i64 a1] w fun e w' => e = .returned (.int .i64 r1) ∧ Kd.R k54 54 w' w0.heap.size (fun k_ => (P0_ k_ ∨ w.heap.size ≤ k_)) u9000_ r2 ∧ Below w0.heap.size w0 w' ∧ Kept w w' (fun k_ => P0_ k_) := by
 have HO0 := Aside0.mk (show Kd.R k54 54 w w0.heap.size (fun k_ => (P0_ k_ ∨ w.heap.size ≤ k_)) u9000_ l0 from Kd.R_mono ho0 (fun k_ hk => (.inl hk)))
 have HK := Aside0.mk (Kept.refl w (fun k_ => P0_ k_))
 have HW0 := Aside0.mk hB.size
 have HB := Aside0.mk hB
 clear hB
 have H : (laws_markClueS.l0 k l0 a1 0) = some (r1, r2) := h
 clear h
 have H' := Aside0.mk H
 clear H
 go_enter Tryd.func27, Tryd.ntmps27
 go_wp2
 go_loopg [1, 5] k (fun kq v1 v5 w' => ∃ (x0_1 : List (S54)) (x1_1 : Int) (x5_1 : Int), v1 = .int .i64 x1_1 ∧ v5 = .int .i64 x5_1 ∧ Aside0 (laws_markClueS.l0 kq x0_1 x1_1 x5_1 = some (r1, r2)) ∧ Aside0 (kq ≤ k) ∧ Aside0 (Kd.R k54 54 w' w0.heap.size (fun k_ => (P0_ k_ ∨ w.heap.size ≤ k_)) u9000_ x0_1) ∧ Aside0 (Kept w w' (fun k_ => P0_ k_)) ∧ Aside0 (Below w0.heap.size w0 w'))
 case atStart => exact ⟨(l0), (a1), (0), zE, zE, H', ⟨Nat.le_refl _⟩, ⟨zr HO0.out⟩, ⟨by repeat (first | (with_reducible first | exact HK.out | apply Kept.alloc | apply Kept.drewN | apply Kept.drew) | exact HK.out)⟩, ⟨zh HB.out⟩⟩
 case round =>
  clear H'
  try clear c2
  try clear p2
  obtain ⟨x0_1, x1_1, x5_1, rfl, rfl, HA, HK1, HO_0, HK, HB⟩ := hrel
  cases gk with
  | zero => exact absurd HA.out (by simp [laws_markClueS.l0])
  | succ k1 =>
   have H := HA.out
   clear HA
   simp only [laws_markClueS.l0] at H
   by_cases c3 : x5_1 < (x0_1.length : Int)
   rotate_left
   ·rw [if_neg c3] at H
    have c3b0 := decide_eq_false c3
    clear c3
    simp only [Option.some.injEq, Prod.mk.injEq] at H
    obtain ⟨rfl, rfl⟩ := H
    obtain ⟨Ao15, co15, eo15⟩ := Kd.R_slice HO_0.out
    subst eo15
    go_wp2
    go_ret
    exact ⟨by first | rfl | (simp [*, errW_none, errW_some] <;> rfl), by (with_reducible repeat (first | apply Kd.R_alloc | apply Kd.R_drewN | apply Kd.R_drew)); exact HO_0.out, by repeat (first | (with_reducible first | exact HB.out | apply below_alloc | apply pw_below_drewN | apply below_drew1) | exact HB.out), by repeat (first | (with_reducible first | exact HK.out | apply Kept.alloc | apply Kept.drewN | apply Kept.drew) | exact HK.out)⟩
   rw [if_pos c3] at H
   have c3b0 := decide_eq_true c3
   clear c3
   by_cases c4 : 0 ≤ x5_1
   rotate_left
   ·rw [if_neg c4] at H
    cases H
   rw [if_pos c4] at H
   have c4b0 := decide_eq_true c4
   clear c4
   replace H := zY H
   obtain ⟨y325, Ny325, H⟩ := H
   replace H := zY H
   obtain ⟨y326, Ny326, H⟩ := H
   obtain ⟨y327, hy327⟩ : ∃ y_ : List (S54), y_ = (y326.set (x5_1 : Int).toNat (⟨(rd_T54 y326 x5_1).f0, (rd_T54 y326 x5_1).f1, wrap64 ((wrap64 (x1_1 + 1)) + 1)⟩ : S54)) := ⟨_, rfl⟩
   rw [← hy327] at H
   have Ny327 := Aside0.mk hy327
   clear hy327
   have H' := Aside0.mk H
   clear H
   obtain ⟨Ao8, co8, eo8⟩ := Kd.R_slice HO_0.out
   subst eo8
   have p5 : 0 ≤ (x5_1 : Int) := zk
   have q5 : (x5_1 : Int) < ((x0_1.length : Int) : Int) := zk
   obtain ⟨go5, co5, eo5, gb5, gl5, cl5, HG5⟩ := Kd.R_form HO_0.out (by omega)
   (first | cases eo5 | (injection eo5 with ea_ en_ ec_; (first | subst ea_ | (injection ea_ with ea_; subst ea_)); subst ec_; clear en_))
   have GB5 := Aside0.mk gb5
   have GG5 := Aside0.mk HG5
   clear gb5 gl5 HG5
   have HMgo5 := Aside0.mk (show (P0_ go5 ∨ w.heap.size ≤ go5) from (HO_0.out.1 _ rfl))
   obtain ⟨ce5, hcl5, hM5, hcc5, hfr5⟩ := Kd.R_elem HO_0.out z54 (x5_1 : Int) p5 q5
   obtain rfl := k54_openM hM5
   have hx5_0 : wr.cell? ⟨go5, (x5_1 : Int).toNat * 3, none⟩ = some (.int .i64 ((rd_T54 x0_1 x5_1).f0)) := hcc5 0 _ rfl
   have hx5_1 : wr.cell? ⟨go5, (x5_1 : Int).toNat * 3 + 1, none⟩ = some (.int .i64 ((rd_T54 x0_1 x5_1).f1)) := hcc5 1 _ rfl
   have hx5_2 : wr.cell? ⟨go5, (x5_1 : Int).toNat * 3 + 2, none⟩ = some (.int .i64 ((rd_T54 x0_1 x5_1).f2)) := hcc5 2 _ rfl
   have hf5_0 : wr.frozen? ⟨go5, (x5_1 : Int).toNat * 3, none⟩ = false := hfr5 0
   have hf5_1 : wr.frozen? ⟨go5, (x5_1 : Int).toNat * 3 + 1, none⟩ = false := hfr5 1
   have hf5_2 : wr.frozen? ⟨go5, (x5_1 : Int).toNat * 3 + 2, none⟩ = false := hfr5 2
   (try clear hM5); clear hcl5 hcc5 hfr5
   replace p5 := eq_true p5
   replace q5 := eq_true q5
   have HX9 := Aside0.mk (show Kd.R k54 54 wr w0.heap.size (fun k_ => (P0_ k_ ∨ w.heap.size ≤ k_)) (.slice (some ⟨go5, 0, none⟩) x0_1.length co8) x0_1 from (zr HO_0.out))
   obtain ⟨ce9, hcl9, hM9, hcc9, hfr9⟩ := Kd.R_elem HX9.out z54 (x5_1 : Int) (zk) (by have h_ : (x5_1 : Int) < ((x0_1.length : Int) : Int) := zk; first | exact h_ | (have e_ := (Kd.R_reads' HO_0.out).1; omega) | simpa using h_)
   obtain rfl := k54_openM hM9
   have HP9 := Kd.R_seg HX9.out (x5_1 : Int) (zk) (by have h_ : (x5_1 : Int) < ((x0_1.length : Int) : Int) := zk; first | exact h_ | (have e_ := (Kd.R_reads' HO_0.out).1; omega) | simpa using h_) (seg := [.int .i64 x1_1]) (j := 0) hcl9 hcc9 (show 1 ≤ 3 from by decide) (x' := (⟨x1_1, (rd_T54 x0_1 x5_1).f1, (rd_T54 x0_1 x5_1).f2⟩ : S54)) (k54_mkM _ _ _ (⟨x1_1, (rd_T54 x0_1 x5_1).f1, (rd_T54 x0_1 x5_1).f2⟩ : S54) ) (fun _ hk => hk)
   have hx9_0 := hcc9 0 _ rfl
   (try simp only [show (k54).sz = 3 from rfl, Nat.mul_one, Nat.add_zero] at hx9_0)
   have hf9_0 := hfr9 0
   (try simp only [show (k54).sz = 3 from rfl, Nat.mul_one, Nat.add_zero] at hf9_0)
   (try clear hM9); clear hcl9 hcc9 hfr9
   go_wp2_with (first | ((with_reducible refine gate_store (t := 3) (p := 16) rfl ?_); refine store_event (t := 3) (p := 16) (v := ?vo_w10) (w1 := (wr.setCell ⟨go5, (x5_1 : Int).toNat * 3, none⟩ (.int .i64 x1_1))) ?hg ?ho ?hn ?hr ?_; (case ho => rfl); (case hg => rfl); (case hn => rfl); (case hr => first | (go_simp; done) | (go_simp; rfl)); intro w10 hw; have hg : wr.grownBy w10 (some go5) := (by rw [hw]; exact HP9.2); have hp_ : Kd.R k54 54 w10 w0.heap.size (fun k_ => (P0_ k_ ∨ w.heap.size ≤ k_)) (.slice (some ⟨go5, 0, none⟩) x0_1.length co8) y325 := (by rw [hw, Ny325.out]; exact HP9.1); clear HP9; replace HB := Aside0.mk ((by rw [hw]; exact below_set (HB.out) GB5.out : Below w0.heap.size w0 w10)); replace HK := Aside0.mk (Kept.of_grown (S := (fun k_ => P0_ k_)) hg (by repeat (first | (with_reducible first | exact HK.out | apply Kept.alloc | apply Kept.drewN | apply Kept.drew) | exact HK.out)) (fun k_ e_ => (HO_0.out.1 k_ e_))); replace HO_0 := Aside0.mk (hp_); clear hg hw hp_; have p6 : 0 ≤ (x5_1 : Int) := zk; have q6 : (x5_1 : Int) < ((x0_1.length : Int) : Int) := zk; obtain ⟨ce6, hcl6, hM6, hcc6, hfr6⟩ := Kd.R_elem HO_0.out z54 (x5_1 : Int) p6 q6; obtain rfl := k54_openM hM6; have hx6_0 : w10.cell? ⟨go5, (x5_1 : Int).toNat * 3, none⟩ = some (.int .i64 ((rd_T54 y325 x5_1).f0)) := hcc6 0 _ rfl; have hx6_1 : w10.cell? ⟨go5, (x5_1 : Int).toNat * 3 + 1, none⟩ = some (.int .i64 ((rd_T54 y325 x5_1).f1)) := hcc6 1 _ rfl; have hx6_2 : w10.cell? ⟨go5, (x5_1 : Int).toNat * 3 + 2, none⟩ = some (.int .i64 ((rd_T54 y325 x5_1).f2)) := hcc6 2 _ rfl; have hf6_0 : w10.frozen? ⟨go5, (x5_1 : Int).toNat * 3, none⟩ = false := hfr6 0; have hf6_1 : w10.frozen? ⟨go5, (x5_1 : Int).toNat * 3 + 1, none⟩ = false := hfr6 1; have hf6_2 : w10.frozen? ⟨go5, (x5_1 : Int).toNat * 3 + 2, none⟩ = false := hfr6 2; (try clear hM6); clear hcl6 hcc6 hfr6; replace p6 := eq_true p6; replace q6 := eq_true q6; have HX11 := Aside0.mk (show Kd.R k54 54 w10 w0.heap.size (fun k_ => (P0_ k_ ∨ w.heap.size ≤ k_)) (.slice (some ⟨go5, 0, none⟩) x0_1.length co8) y325 from (zr HO_0.out)); obtain ⟨ce11, hcl11, hM11, hcc11, hfr11⟩ := Kd.R_elem HX11.out z54 (x5_1 : Int) (zk) (by have h_ : (x5_1 : Int) < ((x0_1.length : Int) : Int) := zk; first | exact h_ | (have e_ := (Kd.R_reads' HO_0.out).1; omega) | simpa using h_); obtain rfl := k54_openM hM11; have HP11 := Kd.R_seg HX11.out (x5_1 : Int) (zk) (by have h_ : (x5_1 : Int) < ((x0_1.length : Int) : Int) := zk; first | exact h_ | (have e_ := (Kd.R_reads' HO_0.out).1; omega) | simpa using h_) (seg := [.int .i64 (wrap64 (x1_1 + 1))]) (j := 1) hcl11 hcc11 (show 2 ≤ 3 from by decide) (x' := (⟨(rd_T54 y325 x5_1).f0, wrap64 (x1_1 + 1), (rd_T54 y325 x5_1).f2⟩ : S54)) (k54_mkM _ _ _ (⟨(rd_T54 y325 x5_1).f0, wrap64 (x1_1 + 1), (rd_T54 y325 x5_1).f2⟩ : S54) ) (fun _ hk => hk); have hx11_1 := hcc11 1 _ rfl; (try simp only [show (k54).sz = 3 from rfl, Nat.mul_one, Nat.add_zero] at hx11_1); have hf11_1 := hfr11 1; (try simp only [show (k54).sz = 3 from rfl, Nat.mul_one, Nat.add_zero] at hf11_1); (try clear hM11); clear hcl11 hcc11 hfr11) | ((with_reducible refine gate_store (t := 3) (p := 23) rfl ?_); refine store_event (t := 3) (p := 23) (v := ?vo_w12) (w1 := (w10.setCell ⟨go5, (x5_1 : Int).toNat * 3 + 1, none⟩ (.int .i64 (wrap64 (x1_1 + 1))))) ?hg ?ho ?hn ?hr ?_; (case ho => rfl); (case hg => rfl); (case hn => rfl); (case hr => first | (go_simp; done) | (go_simp; rfl)); intro w12 hw; have hg : w10.grownBy w12 (some go5) := (by rw [hw]; exact HP11.2); have hp_ : Kd.R k54 54 w12 w0.heap.size (fun k_ => (P0_ k_ ∨ w.heap.size ≤ k_)) (.slice (some ⟨go5, 0, none⟩) x0_1.length co8) y326 := (by rw [hw, Ny326.out]; exact HP11.1); clear HP11; replace HB := Aside0.mk ((by rw [hw]; exact below_set (HB.out) GB5.out : Below w0.heap.size w0 w12)); replace HK := Aside0.mk (Kept.of_grown (S := (fun k_ => P0_ k_)) hg (by repeat (first | (with_reducible first | exact HK.out | apply Kept.alloc | apply Kept.drewN | apply Kept.drew) | exact HK.out)) (fun k_ e_ => (HO_0.out.1 k_ e_))); replace HO_0 := Aside0.mk (hp_); clear hg hw hp_; have p7 : 0 ≤ (x5_1 : Int) := zk; have q7 : (x5_1 : Int) < ((x0_1.length : Int) : Int) := zk; obtain ⟨ce7, hcl7, hM7, hcc7, hfr7⟩ := Kd.R_elem HO_0.out z54 (x5_1 : Int) p7 q7; obtain rfl := k54_openM hM7; have hx7_0 : w12.cell? ⟨go5, (x5_1 : Int).toNat * 3, none⟩ = some (.int .i64 ((rd_T54 y326 x5_1).f0)) := hcc7 0 _ rfl; have hx7_1 : w12.cell? ⟨go5, (x5_1 : Int).toNat * 3 + 1, none⟩ = some (.int .i64 ((rd_T54 y326 x5_1).f1)) := hcc7 1 _ rfl; have hx7_2 : w12.cell? ⟨go5, (x5_1 : Int).toNat * 3 + 2, none⟩ = some (.int .i64 ((rd_T54 y326 x5_1).f2)) := hcc7 2 _ rfl; have hf7_0 : w12.frozen? ⟨go5, (x5_1 : Int).toNat * 3, none⟩ = false := hfr7 0; have hf7_1 : w12.frozen? ⟨go5, (x5_1 : Int).toNat * 3 + 1, none⟩ = false := hfr7 1; have hf7_2 : w12.frozen? ⟨go5, (x5_1 : Int).toNat * 3 + 2, none⟩ = false := hfr7 2; (try clear hM7); clear hcl7 hcc7 hfr7; replace p7 := eq_true p7; replace q7 := eq_true q7; have HX13 := Aside0.mk (show Kd.R k54 54 w12 w0.heap.size (fun k_ => (P0_ k_ ∨ w.heap.size ≤ k_)) (.slice (some ⟨go5, 0, none⟩) x0_1.length co8) y326 from (zr HO_0.out)); obtain ⟨ce13, hcl13, hM13, hcc13, hfr13⟩ := Kd.R_elem HX13.out z54 (x5_1 : Int) (zk) (by have h_ : (x5_1 : Int) < ((x0_1.length : Int) : Int) := zk; first | exact h_ | (have e_ := (Kd.R_reads' HO_0.out).1; omega) | simpa using h_); obtain rfl := k54_openM hM13; have HP13 := Kd.R_seg HX13.out (x5_1 : Int) (zk) (by have h_ : (x5_1 : Int) < ((x0_1.length : Int) : Int) := zk; first | exact h_ | (have e_ := (Kd.R_reads' HO_0.out).1; omega) | simpa using h_) (seg := [.int .i64 (wrap64 ((wrap64 (x1_1 + 1)) + 1))]) (j := 2) hcl13 hcc13 (show 3 ≤ 3 from by decide) (x' := (⟨(rd_T54 y326 x5_1).f0, (rd_T54 y326 x5_1).f1, wrap64 ((wrap64 (x1_1 + 1)) + 1)⟩ : S54)) (k54_mkM _ _ _ (⟨(rd_T54 y326 x5_1).f0, (rd_T54 y326 x5_1).f1, wrap64 ((wrap64 (x1_1 + 1)) + 1)⟩ : S54) ) (fun _ hk => hk); have hx13_2 := hcc13 2 _ rfl; (try simp only [show (k54).sz = 3 from rfl, Nat.mul_one, Nat.add_zero] at hx13_2); have hf13_2 := hfr13 2; (try simp only [show (k54).sz = 3 from rfl, Nat.mul_one, Nat.add_zero] at hf13_2); (try clear hM13); clear hcl13 hcc13 hfr13) | ((with_reducible refine gate_store (t := 3) (p := 30) rfl ?_); refine store_event (t := 3) (p := 30) (v := ?vo_w14) (w1 := (w12.setCell ⟨go5, (x5_1 : Int).toNat * 3 + 2, none⟩ (.int .i64 (wrap64 ((wrap64 (x1_1 + 1)) + 1))))) ?hg ?ho ?hn ?hr ?_; (case ho => rfl); (case hg => rfl); (case hn => rfl); (case hr => first | (go_simp; done) | (go_simp; rfl)); intro w14 hw; have hg : w12.grownBy w14 (some go5) := (by rw [hw]; exact HP13.2); have hp_ : Kd.R k54 54 w14 w0.heap.size (fun k_ => (P0_ k_ ∨ w.heap.size ≤ k_)) (.slice (some ⟨go5, 0, none⟩) x0_1.length co8) y327 := (by rw [hw, Ny327.out]; exact HP13.1); clear HP13; replace HB := Aside0.mk ((by rw [hw]; exact below_set (HB.out) GB5.out : Below w0.heap.size w0 w14)); replace HK := Aside0.mk (Kept.of_grown (S := (fun k_ => P0_ k_)) hg (by repeat (first | (with_reducible first | exact HK.out | apply Kept.alloc | apply Kept.drewN | apply Kept.drew) | exact HK.out)) (fun k_ e_ => (HO_0.out.1 k_ e_))); replace HO_0 := Aside0.mk (hp_); clear hg hw hp_))
   go_roundg k1
   case measure => have := HK1.out; omega
   case rel => exact ⟨(y327), (wrap64 ((wrap64 ((wrap64 (x1_1 + 1)) + 1)) + 1)), (wrap64 (x5_1 + 1)), zE, zE, H', zO HK1, ⟨zr HO_0.out⟩, ⟨by repeat (first | (with_reducible first | exact HK.out | apply Kept.alloc | apply Kept.drewN | apply Kept.drew) | exact HK.out)⟩, ⟨zh HB.out⟩⟩
def laws_markPuzzle.f (k : Nat) (a0_0 : Int) (l0_1 : List (S54)) (a1 : Int) : Option (Int × (List (S54))) := (laws_markClueS.f k l0_1 a1).bind fun bt329 => (some (bt329.1, bt329.2))
set_option maxHeartbeats 8000000 in
set_option maxRecDepth 100000 in
theorem laws_markPuzzle.calls (k : Nat) (a0_0 : Int) (P0_1_ : Nat → Prop) (u9000_ : Value) (l0_1 : List (S54)) (a1 : Int) (r1 : Int) (r2 : List (S54)) (w0 w : World) (hB : Below w0.heap.size w0 w) (ho0_1 : Kd.R k54 54 w w0.heap.size P0_1_ u9000_ l0_1) (h : laws_markPuzzle.f k a0_0 l0_1 a1 = some (r1, r2)) :
  Calls Tryd.prog 12 #[.agg #[.int .i64 a0_0, u9000_], .int .i64 a1] w fun e w' => e = .returned (.int .i64 r1) ∧ Kd.R k54 54 w' w0.heap.size (fun k_ => (P0_1_ k_ ∨ w.heap.size ≤ k_)) u9000_ r2 ∧ Below w0.heap.size w0 w' ∧ Kept w w' (fun k_ => P0_1_ k_) := by
 have hu30 := Tryd.underlying30
 have HO0_1 := Aside0.mk (show Kd.R k54 54 w w0.heap.size (fun k_ => (P0_1_ k_ ∨ w.heap.size ≤ k_)) u9000_ l0_1 from Kd.R_mono ho0_1 (fun k_ hk => (.inl hk)))
 have HK := Aside0.mk (Kept.refl w (fun k_ => P0_1_ k_))
 have HW0 := Aside0.mk hB.size
 have HB := Aside0.mk hB
 clear hB
 have H : ((laws_markClueS.f k l0_1 a1).bind fun bt329 => (some (bt329.1, bt329.2))) = some (r1, r2) := h
 clear h
 replace H := Option.bind_eq_some_iff.mp H
 obtain ⟨⟨t329, t330⟩, A30, H⟩ := H
 replace H : (some (t329, t330)) = some (r1, r2) := H
 have A3 := Aside0.mk A30
 clear A30
 simp only [Option.some.injEq, Prod.mk.injEq] at H
 obtain ⟨rfl, rfl⟩ := H
 obtain ⟨Ao4, co4, eo4⟩ := Kd.R_slice HO0_1.out
 subst eo4
 go_enter Tryd.func12, Tryd.ntmps12
 go_wp2_with (first | ((with_reducible refine gate_dst (N := 2) rfl ?_); refine zq 2 #[.int .i64 a0_0, .slice Ao4 l0_1.length co4] 30 ?_; intro gb328 hg w5 hbox hb; have BK328 := Aside0.mk hbox; have GW328 := Aside0.mk ((by rw [hg]; exact (by first | exact HK.out.1 | exact (show Kept w _ (fun k_ => P0_1_ k_) from by repeat (first | (with_reducible first | exact HK.out | apply Kept.alloc | apply Kept.drewN | apply Kept.drew) | exact HK.out)).1) : w.heap.size ≤ gb328)); have GE328 := Aside0.mk ((by rw [hg]; exact (below_size (zh HB.out)) : w0.heap.size ≤ gb328)); replace HO0_1 := Aside0.mk (Kd.R_below (zr HO0_1.out) hb); replace HK := Aside0.mk (Kept.below (S := (fun k_ => P0_1_ k_)) (by repeat (first | (with_reducible first | exact HK.out | apply Kept.alloc | apply Kept.drewN | apply Kept.drew) | exact HK.out)) hb); replace HB := zH hb HB; clear hb hbox hg; obtain ⟨hcz6_0, hcz6_1, hfz6_0, hfz6_1⟩ := zC2 BK328) | ((with_reducible refine gate_callee (f := 27) rfl ?_); refine zl 8 Tryd.func27 #[.slice Ao4 l0_1.length co4, .int .i64 a1] ?_; (with_reducible refine (laws_markClueS.calls k (fun k_ => some k_ = (.slice Ao4 l0_1.length co4 : Value).ownBlock) (.slice Ao4 l0_1.length co4) l0_1 a1 t329 t330 w0 _ ?side1 ?side2 A3.out).mono ?_); (case side1 => repeat (first | (with_reducible first | exact HB.out | apply below_alloc | apply pw_below_drewN | apply below_drew1 | refine below_set ?_ GE328.out) | exact HB.out)); (case side2 => exact Kd.R_tight rfl HO0_1.out); rintro e w7 ⟨rfl, hy0, hb, hkp⟩; refine ⟨_, rfl, ?_⟩; replace BK328 := Aside0.mk (blk_kept (zb BK328.out) hkp (fun hs_ => (fun e_ => (Kd.R_ne HO0_1.out BK328.out (by decide)) e_) hs_)); replace HK := Aside0.mk (Kept.then_ (S := (fun k_ => P0_1_ k_)) (by repeat (first | (with_reducible first | exact HK.out | apply Kept.alloc | apply Kept.drewN | apply Kept.drew | refine Kept.setCell ?_ (.inr GW328.out) _) | exact HK.out)) hkp (fun k_ hs_ => (fun e_ => (HO0_1.out.1 k_ e_.symm)) hs_)); replace HO0_1 := Aside0.mk (Kd.R_reok rfl hy0 (fun k_ e_ => HO0_1.out.1 k_ e_)); replace HB := Aside0.mk (hb); clear hb; (try clear hkp); (try clear hy0)))
 go_ret
 exact ⟨by first | rfl | (simp [*, errW_none, errW_some] <;> rfl), by (with_reducible repeat (first | apply Kd.R_alloc | apply Kd.R_drewN | apply Kd.R_drew)); exact HO0_1.out, by repeat (first | (with_reducible first | exact HB.out | apply below_alloc | apply pw_below_drewN | apply below_drew1 | refine below_set ?_ GE328.out) | exact HB.out), by repeat (first | (with_reducible first | exact HK.out | apply Kept.alloc | apply Kept.drewN | apply Kept.drew | refine Kept.setCell ?_ (.inr GW328.out) _) | exact HK.out)⟩
def laws_heldClueS.l0 : Nat → List (S54) → Int → Int → Option (Int)
 | 0, _, _, _ => none
 | k + 1, x0, x1, x5 => if x5 < (x0.length : Int) then (if 0 ≤ x5 then (if ((rd_T54 x0 x5).f0) = x1 then (if ((rd_T54 x0 x5).f1) = (wrap64 (x1 + 1)) then (if ((rd_T54 x0 x5).f2) = (wrap64 ((wrap64 (x1 + 1)) + 1)) then (laws_heldClueS.l0 k x0 (wrap64 ((wrap64 ((wrap64 (x1 + 1)) + 1)) + 1)) (wrap64 (x5 + 1))) else (some (-1))) else (some (-1))) else (some (-1))) else (none)) else (some x1)
def laws_heldClueS.f (k : Nat) (l0 : List (S54)) (a1 : Int) : Option (Int) := laws_heldClueS.l0 k l0 a1 0
set_option maxHeartbeats 8000000 in
set_option maxRecDepth 100000 in
theorem laws_heldClueS.calls (k : Nat) (A0 : Option Addr) (c0 : Nat) (l0 : List (S54)) (a1 : Int) (r : Int) (w : World) (hr0 : Kd.C k54 w A0 l0.length l0) (hc0 : l0.length ≤ c0) (h : laws_heldClueS.f k l0 a1 = some r) :
  Calls Tryd.prog 28 #[.slice A0 l0.length c0, .int .i64 a1] w fun e w' => e = .returned (.int .i64 r) ∧ Drawn0 w w' := by
 have HR0 := Aside0.mk hr0
 have HC0 := Aside0.mk hc0
 clear hr0 hc0
 have H : (laws_heldClueS.l0 k l0 a1 0) = some r := h
 clear h
 have H' := Aside0.mk H
 clear H
 go_enter Tryd.func28, Tryd.ntmps28
 go_wp2
 go_loopg [1, 5] k (fun kq v1 v5 w' => ∃ (x1_1 : Int) (x5_1 : Int), v1 = .int .i64 x1_1 ∧ v5 = .int .i64 x5_1 ∧ Aside0 (laws_heldClueS.l0 kq l0 x1_1 x5_1 = some r) ∧ Aside0 (kq ≤ k) ∧ Drawn0 w w')
 case atStart => exact ⟨(a1), (0), zE, zE, H', ⟨Nat.le_refl _⟩, zD⟩
 case round =>
  clear H'
  try clear c2
  try clear p2
  obtain ⟨x1_1, x5_1, rfl, rfl, HA, HK1, ⟨m1, rfl⟩⟩ := hrel
  cases gk with
  | zero => exact absurd HA.out (by simp [laws_heldClueS.l0])
  | succ k1 =>
   have H := HA.out
   clear HA
   simp only [laws_heldClueS.l0] at H
   by_cases c3 : x5_1 < (l0.length : Int)
   rotate_left
   ·rw [if_neg c3] at H
    have c3b0 := decide_eq_false c3
    clear c3
    obtain rfl := Option.some.inj H
    go_wp2
    go_ret
    exact za1
   rw [if_pos c3] at H
   have c3b0 := decide_eq_true c3
   clear c3
   by_cases c4 : 0 ≤ x5_1
   rotate_left
   ·rw [if_neg c4] at H
    cases H
   rw [if_pos c4] at H
   have c4b0 := decide_eq_true c4
   clear c4
   by_cases c5 : ((rd_T54 l0 x5_1).f0) = x1_1
   rotate_left
   ·rw [if_neg c5] at H
    have c5b0 := beq_eq_false_iff_ne.mpr c5
    have c5b1 := bne_iff_ne.mpr c5
    obtain rfl := Option.some.inj H
    obtain ⟨⟨ad331, e331, hx331_0, hx331_1, hx331_2⟩, p331, q331⟩ := zW (at_T54 HR0.out x5_1)
    cases e331
    go_wp2
    go_ret
    exact za1
   rw [if_pos c5] at H
   have c5b0 := beq_iff_eq.mpr c5
   have c5b1 := bne_eq_false_iff_eq.mpr c5
   clear c5
   by_cases c6 : ((rd_T54 l0 x5_1).f1) = (wrap64 (x1_1 + 1))
   rotate_left
   ·rw [if_neg c6] at H
    have c6b0 := beq_eq_false_iff_ne.mpr c6
    have c6b1 := bne_iff_ne.mpr c6
    obtain rfl := Option.some.inj H
    obtain ⟨⟨ad331, e331, hx331_0, hx331_1, hx331_2⟩, p331, q331⟩ := zW (at_T54 HR0.out x5_1)
    cases e331
    obtain ⟨⟨ad332, e332, hx332_0, hx332_1, hx332_2⟩, p332, q332⟩ := zW (at_T54 HR0.out x5_1)
    obtain rfl : ad331 = ad332 := (by injection e332)
    go_wp2
    go_ret
    exact za1
   rw [if_pos c6] at H
   have c6b0 := beq_iff_eq.mpr c6
   have c6b1 := bne_eq_false_iff_eq.mpr c6
   clear c6
   by_cases c7 : ((rd_T54 l0 x5_1).f2) = (wrap64 ((wrap64 (x1_1 + 1)) + 1))
   rotate_left
   ·rw [if_neg c7] at H
    have c7b0 := beq_eq_false_iff_ne.mpr c7
    have c7b1 := bne_iff_ne.mpr c7
    obtain rfl := Option.some.inj H
    obtain ⟨⟨ad331, e331, hx331_0, hx331_1, hx331_2⟩, p331, q331⟩ := zW (at_T54 HR0.out x5_1)
    cases e331
    obtain ⟨⟨ad332, e332, hx332_0, hx332_1, hx332_2⟩, p332, q332⟩ := zW (at_T54 HR0.out x5_1)
    obtain rfl : ad331 = ad332 := (by injection e332)
    obtain ⟨⟨ad333, e333, hx333_0, hx333_1, hx333_2⟩, p333, q333⟩ := zW (at_T54 HR0.out x5_1)
    obtain rfl : ad331 = ad333 := (by injection e333)
    go_wp2
    go_ret
    exact za1
   rw [if_pos c7] at H
   have c7b0 := beq_iff_eq.mpr c7
   have c7b1 := bne_eq_false_iff_eq.mpr c7
   clear c7
   have H' := Aside0.mk H
   clear H
   obtain ⟨⟨ad331, e331, hx331_0, hx331_1, hx331_2⟩, p331, q331⟩ := zW (at_T54 HR0.out x5_1)
   cases e331
   obtain ⟨⟨ad332, e332, hx332_0, hx332_1, hx332_2⟩, p332, q332⟩ := zW (at_T54 HR0.out x5_1)
   obtain rfl : ad331 = ad332 := (by injection e332)
   obtain ⟨⟨ad333, e333, hx333_0, hx333_1, hx333_2⟩, p333, q333⟩ := zW (at_T54 HR0.out x5_1)
   obtain rfl : ad331 = ad333 := (by injection e333)
   go_wp2
   go_roundg k1
   case measure => have := HK1.out; omega
   case rel => exact ⟨(wrap64 ((wrap64 ((wrap64 (x1_1 + 1)) + 1)) + 1)), (wrap64 (x5_1 + 1)), zE, zE, H', zO HK1, zD⟩
def laws_heldPuzzle.f (k : Nat) (a0_0 : Int) (l0_1 : List (S54)) (a1 : Int) : Option (Int) := (laws_heldClueS.f k l0_1 a1).bind fun t335 => (if t335 < 0 then (some (-1)) else (some t335))
set_option maxHeartbeats 8000000 in
set_option maxRecDepth 100000 in
theorem laws_heldPuzzle.calls (k : Nat) (a0_0 : Int) (A0_1 : Option Addr) (c0_1 : Nat) (l0_1 : List (S54)) (a1 : Int) (r : Int) (w : World) (hr0_1 : Kd.C k54 w A0_1 l0_1.length l0_1) (hc0_1 : l0_1.length ≤ c0_1) (h : laws_heldPuzzle.f k a0_0 l0_1 a1 = some r) :
  Calls Tryd.prog 13 #[.agg #[.int .i64 a0_0, .slice A0_1 l0_1.length c0_1], .int .i64 a1] w fun e w' => e = .returned (.int .i64 r) ∧ Below w.heap.size w w' := by
 have hu30 := Tryd.underlying30
 have HR0_1 := Aside0.mk hr0_1
 have HC0_1 := Aside0.mk hc0_1
 clear hr0_1 hc0_1
 have HB := Aside0.mk (Below.refl w.heap.size w)
 have H : ((laws_heldClueS.f k l0_1 a1).bind fun t335 => (if t335 < 0 then (some (-1)) else (some t335))) = some r := h
 clear h
 replace H := Option.bind_eq_some_iff.mp H
 obtain ⟨t335, A30, H⟩ := H
 have A3 := Aside0.mk A30
 clear A30
 by_cases c4 : t335 < 0
 ·rw [if_pos c4] at H
  have c4b0 := decide_eq_true c4
  clear c4
  obtain rfl := Option.some.inj H
  go_enter Tryd.func13, Tryd.ntmps13
  go_wp2_with (first | ((with_reducible refine gate_dst (N := 2) rfl ?_); refine zq 2 #[.int .i64 a0_0, .slice A0_1 l0_1.length c0_1] 30 ?_; intro gb334 hg w5 hbox hb; have GW334 := zG hg HB; replace HB := zH hb HB; have BK334 := Aside0.mk hbox; have GE334 := GW334; clear hb hbox hg; obtain ⟨hcz6_0, hcz6_1, hfz6_0, hfz6_1⟩ := zC2 BK334) | ((with_reducible refine gate_callee (f := 28) rfl ?_); refine zl 8 Tryd.func28 #[.slice A0_1 l0_1.length c0_1, .int .i64 a1] ?_; (with_reducible refine (laws_heldClueS.calls k _ _ l0_1 a1 t335 _ ?side1 ?side2 A3.out).mono ?_); (case side1 => exact zQ (Kd.C_below HR0_1.out HB.out)); (case side2 => exact HC0_1.out); rintro e w' ⟨rfl, ⟨nd, rfl⟩⟩; refine ⟨_, rfl, ?_⟩))
  go_ret
  exact ⟨by first | rfl | (simp [*, errW_none, errW_some] <;> rfl), zh HB.out⟩
 rw [if_neg c4] at H
 have c4b0 := decide_eq_false c4
 clear c4
 obtain rfl := Option.some.inj H
 go_enter Tryd.func13, Tryd.ntmps13
 go_wp2_with (first | ((with_reducible refine gate_dst (N := 2) rfl ?_); refine zq 2 #[.int .i64 a0_0, .slice A0_1 l0_1.length c0_1] 30 ?_; intro gb334 hg w7 hbox hb; have GW334 := zG hg HB; replace HB := zH hb HB; have BK334 := Aside0.mk hbox; have GE334 := GW334; clear hb hbox hg; obtain ⟨hcz8_0, hcz8_1, hfz8_0, hfz8_1⟩ := zC2 BK334) | ((with_reducible refine gate_callee (f := 28) rfl ?_); refine zl 8 Tryd.func28 #[.slice A0_1 l0_1.length c0_1, .int .i64 a1] ?_; (with_reducible refine (laws_heldClueS.calls k _ _ l0_1 a1 t335 _ ?side1 ?side2 A3.out).mono ?_); (case side1 => exact zQ (Kd.C_below HR0_1.out HB.out)); (case side2 => exact HC0_1.out); rintro e w' ⟨rfl, ⟨nd, rfl⟩⟩; refine ⟨_, rfl, ?_⟩))
 go_ret
 exact ⟨by first | rfl | (simp [*, errW_none, errW_some] <;> rfl), zh HB.out⟩
def laws_eqClue.f (a0_0 : Int) (a0_1 : Int) (a0_2 : Int) (a1_0 : Int) (a1_1 : Int) (a1_2 : Int) : Option (Bool) := if a0_0 = a1_0 then (if a0_1 = a1_1 then (if a0_2 = a1_2 then (some true) else (some false)) else (some false)) else (some false)
set_option maxHeartbeats 8000000 in
set_option maxRecDepth 100000 in
theorem laws_eqClue.calls (a0_0 : Int) (a0_1 : Int) (a0_2 : Int) (a1_0 : Int) (a1_1 : Int) (a1_2 : Int) (r : Bool) (w : World) (h : laws_eqClue.f a0_0 a0_1 a0_2 a1_0 a1_1 a1_2 = some r) :
  Calls Tryd.prog 39 #[.agg #[.int .i64 a0_0, .int .i64 a0_1, .int .i64 a0_2], .agg #[.int .i64 a1_0, .int .i64 a1_1, .int .i64 a1_2]] w fun e w' => e = .returned (.bool r) ∧ Below w.heap.size w w' := by
 have hu54 := Tryd.underlying54
 have HB := Aside0.mk (Below.refl w.heap.size w)
 have H : (if a0_0 = a1_0 then (if a0_1 = a1_1 then (if a0_2 = a1_2 then (some true) else (some false)) else (some false)) else (some false)) = some r := h
 clear h
 by_cases c3 : a0_0 = a1_0
 rotate_left
 ·rw [if_neg c3] at H
  have c3b0 := beq_eq_false_iff_ne.mpr c3
  have c3b1 := bne_iff_ne.mpr c3
  obtain rfl := Option.some.inj H
  go_enter Tryd.func39, Tryd.ntmps39
  go_wp2_with (first | ((with_reducible refine gate_dst (N := 2) rfl ?_); refine zq 2 #[.int .i64 a0_0, .int .i64 a0_1, .int .i64 a0_2] 54 ?_; intro gb205 hg w21 hbox hb; have GW205 := zG hg HB; replace HB := zH hb HB; have BK205 := Aside0.mk hbox; have GE205 := GW205; clear hb hbox hg) | ((with_reducible refine gate_dst (N := 3) rfl ?_); refine zq 3 #[.int .i64 a1_0, .int .i64 a1_1, .int .i64 a1_2] 54 ?_; intro gb206 hg w22 hbox hb; have BK206 := Aside0.mk hbox; have GW206 := zG hg HB; have GE206 := zG hg HB; have NB205_206 := zNa hg BK205; have NB206_205 := zNb hg BK205; replace BK205 := zK BK205 hb; replace HB := zH hb HB; clear hb hbox hg; have hnb23 := NB205_206.out; have hnc23 := NB206_205.out; obtain ⟨hcz24_0, hcz24_1, hcz24_2, hfz24_0, hfz24_1, hfz24_2⟩ := zC3 BK205; obtain ⟨hcz25_0, hcz25_1, hcz25_2, hfz25_0, hfz25_1, hfz25_2⟩ := zC3 BK206))
  go_ret
  exact ⟨by first | rfl | (simp [*, errW_none, errW_some] <;> rfl), zh HB.out⟩
 rw [if_pos c3] at H
 have c3b0 := beq_iff_eq.mpr c3
 have c3b1 := bne_eq_false_iff_eq.mpr c3
 clear c3
 by_cases c4 : a0_1 = a1_1
 rotate_left
 ·rw [if_neg c4] at H
  have c4b0 := beq_eq_false_iff_ne.mpr c4
  have c4b1 := bne_iff_ne.mpr c4
  obtain rfl := Option.some.inj H
  go_enter Tryd.func39, Tryd.ntmps39
  go_wp2_with (first | ((with_reducible refine gate_dst (N := 2) rfl ?_); refine zq 2 #[.int .i64 a0_0, .int .i64 a0_1, .int .i64 a0_2] 54 ?_; intro gb205 hg w16 hbox hb; have GW205 := zG hg HB; replace HB := zH hb HB; have BK205 := Aside0.mk hbox; have GE205 := GW205; clear hb hbox hg) | ((with_reducible refine gate_dst (N := 3) rfl ?_); refine zq 3 #[.int .i64 a1_0, .int .i64 a1_1, .int .i64 a1_2] 54 ?_; intro gb206 hg w17 hbox hb; have BK206 := Aside0.mk hbox; have GW206 := zG hg HB; have GE206 := zG hg HB; have NB205_206 := zNa hg BK205; have NB206_205 := zNb hg BK205; replace BK205 := zK BK205 hb; replace HB := zH hb HB; clear hb hbox hg; have hnb18 := NB205_206.out; have hnc18 := NB206_205.out; obtain ⟨hcz19_0, hcz19_1, hcz19_2, hfz19_0, hfz19_1, hfz19_2⟩ := zC3 BK205; obtain ⟨hcz20_0, hcz20_1, hcz20_2, hfz20_0, hfz20_1, hfz20_2⟩ := zC3 BK206))
  go_ret
  exact ⟨by first | rfl | (simp [*, errW_none, errW_some] <;> rfl), zh HB.out⟩
 rw [if_pos c4] at H
 have c4b0 := beq_iff_eq.mpr c4
 have c4b1 := bne_eq_false_iff_eq.mpr c4
 clear c4
 by_cases c5 : a0_2 = a1_2
 ·rw [if_pos c5] at H
  have c5b0 := beq_iff_eq.mpr c5
  have c5b1 := bne_eq_false_iff_eq.mpr c5
  clear c5
  obtain rfl := Option.some.inj H
  go_enter Tryd.func39, Tryd.ntmps39
  go_wp2_with (first | ((with_reducible refine gate_dst (N := 2) rfl ?_); refine zq 2 #[.int .i64 a0_0, .int .i64 a0_1, .int .i64 a0_2] 54 ?_; intro gb205 hg w6 hbox hb; have GW205 := zG hg HB; replace HB := zH hb HB; have BK205 := Aside0.mk hbox; have GE205 := GW205; clear hb hbox hg) | ((with_reducible refine gate_dst (N := 3) rfl ?_); refine zq 3 #[.int .i64 a1_0, .int .i64 a1_1, .int .i64 a1_2] 54 ?_; intro gb206 hg w7 hbox hb; have BK206 := Aside0.mk hbox; have GW206 := zG hg HB; have GE206 := zG hg HB; have NB205_206 := zNa hg BK205; have NB206_205 := zNb hg BK205; replace BK205 := zK BK205 hb; replace HB := zH hb HB; clear hb hbox hg; have hnb8 := NB205_206.out; have hnc8 := NB206_205.out; obtain ⟨hcz9_0, hcz9_1, hcz9_2, hfz9_0, hfz9_1, hfz9_2⟩ := zC3 BK205; obtain ⟨hcz10_0, hcz10_1, hcz10_2, hfz10_0, hfz10_1, hfz10_2⟩ := zC3 BK206))
  go_ret
  exact ⟨by first | rfl | (simp [*, errW_none, errW_some] <;> rfl), zh HB.out⟩
 rw [if_neg c5] at H
 have c5b0 := beq_eq_false_iff_ne.mpr c5
 have c5b1 := bne_iff_ne.mpr c5
 obtain rfl := Option.some.inj H
 go_enter Tryd.func39, Tryd.ntmps39
 go_wp2_with (first | ((with_reducible refine gate_dst (N := 2) rfl ?_); refine zq 2 #[.int .i64 a0_0, .int .i64 a0_1, .int .i64 a0_2] 54 ?_; intro gb205 hg w11 hbox hb; have GW205 := zG hg HB; replace HB := zH hb HB; have BK205 := Aside0.mk hbox; have GE205 := GW205; clear hb hbox hg) | ((with_reducible refine gate_dst (N := 3) rfl ?_); refine zq 3 #[.int .i64 a1_0, .int .i64 a1_1, .int .i64 a1_2] 54 ?_; intro gb206 hg w12 hbox hb; have BK206 := Aside0.mk hbox; have GW206 := zG hg HB; have GE206 := zG hg HB; have NB205_206 := zNa hg BK205; have NB206_205 := zNb hg BK205; replace BK205 := zK BK205 hb; replace HB := zH hb HB; clear hb hbox hg; have hnb13 := NB205_206.out; have hnc13 := NB206_205.out; obtain ⟨hcz14_0, hcz14_1, hcz14_2, hfz14_0, hfz14_1, hfz14_2⟩ := zC3 BK205; obtain ⟨hcz15_0, hcz15_1, hcz15_2, hfz15_0, hfz15_1, hfz15_2⟩ := zC3 BK206))
 go_ret
 exact ⟨by first | rfl | (simp [*, errW_none, errW_some] <;> rfl), zh HB.out⟩
def laws_eqClueS.l0 : Nat → List (S54) → List (S54) → Int → Option (Bool)
 | 0, _, _, _ => none
 | k + 1, x0, x1, x5 => if x5 < (x0.length : Int) then (if 0 ≤ x5 then (if x5 < (x1.length : Int) then ((laws_eqClue.f ((rd_T54 x0 x5).f0) ((rd_T54 x0 x5).f1) ((rd_T54 x0 x5).f2) ((rd_T54 x1 x5).f0) ((rd_T54 x1 x5).f1) ((rd_T54 x1 x5).f2)).bind fun t209 => (if t209 = true then (laws_eqClueS.l0 k x0 x1 (wrap64 (x5 + 1))) else (some false))) else (none)) else (none)) else (some true)
def laws_eqClueS.f (k : Nat) (l0 : List (S54)) (l1 : List (S54)) : Option (Bool) := if (l0.length : Int) = (l1.length : Int) then (laws_eqClueS.l0 k l0 l1 0) else (some false)
def laws_eqClueS.T6 : Bool × List (List Nat × List Nat) := (true, [([], []), ([], []), ([0, 1], [0, 1]), ([2], [2]), ([], []), ([], []), ([4, 5], [4, 5]), ([6], [6]), ([3, 7], [3, 7]), ([8], [8])])
def laws_eqClueS.B6 : List Nat := [0, 0, 3, 7, 0, 0, 48, 112, 255, 511]
theorem laws_eqClueS.tab6 : rtab .any (opsOf Tryd.f20 6) = laws_eqClueS.T6 := by kernel_rfl
theorem laws_eqClueS.bits6 : waitsOk laws_eqClueS.T6.2 laws_eqClueS.B6 = true := by kernel_rfl
set_option maxHeartbeats 8000000 in
set_option maxRecDepth 100000 in
theorem laws_eqClueS.calls (k : Nat) (A0 : Option Addr) (c0 : Nat) (l0 : List (S54)) (A1 : Option Addr) (c1 : Nat) (l1 : List (S54)) (r : Bool) (w : World) (hr0 : Kd.C k54 w A0 l0.length l0) (hc0 : l0.length ≤ c0) (hr1 : Kd.C k54 w A1 l1.length l1) (hc1 : l1.length ≤ c1) (h : laws_eqClueS.f k l0 l1 = some r) :
  Calls Tryd.prog 20 #[.slice A0 l0.length c0, .slice A1 l1.length c1] w fun e w' => e = .returned (.bool r) ∧ Below w.heap.size w w' := by
 have hu54 := Tryd.underlying54
 have HR0 := Aside0.mk hr0
 have HC0 := Aside0.mk hc0
 clear hr0 hc0
 have HR1 := Aside0.mk hr1
 have HC1 := Aside0.mk hc1
 clear hr1 hc1
 have HB := Aside0.mk (Below.refl w.heap.size w)
 have H : (if (l0.length : Int) = (l1.length : Int) then (laws_eqClueS.l0 k l0 l1 0) else (some false)) = some r := h
 clear h
 by_cases c3 : (l0.length : Int) = (l1.length : Int)
 rotate_left
 ·rw [if_neg c3] at H
  have c3b0 := beq_eq_false_iff_ne.mpr c3
  have c3b1 := bne_iff_ne.mpr c3
  have c3b2 : (l0.length == l1.length) = false := by first | simpa using c3 | (simp at c3 ⊢; omega)
  obtain rfl := Option.some.inj H
  go_enter Tryd.func20, Tryd.ntmps20
  go_wp2
  go_ret
  exact ⟨by first | rfl | (simp [*, errW_none, errW_some] <;> rfl), zh HB.out⟩
 rw [if_pos c3] at H
 have c3b0 := beq_iff_eq.mpr c3
 have c3b1 := bne_eq_false_iff_eq.mpr c3
 have c3b2 : (l0.length == l1.length) = true := by first | simpa using c3 | (simp at c3 ⊢; omega)
 clear c3
 have H' := Aside0.mk H
 clear H
 go_enter Tryd.func20, Tryd.ntmps20
 go_wp2
 go_loopg [5] k (fun kq v5 w' => ∃ (x5_1 : Int), v5 = .int .i64 x5_1 ∧ Aside0 (laws_eqClueS.l0 kq l0 l1 x5_1 = some r) ∧ Aside0 (kq ≤ k) ∧ Aside0 (Below w.heap.size w w'))
 case atStart => exact ⟨(0), zE, H', ⟨Nat.le_refl _⟩, ⟨zh HB.out⟩⟩
 case round =>
  clear H'
  try clear c1
  try clear c2
  try clear p2
  try clear c3
  try clear c3b0
  try clear c3b1
  try clear c3b2
  obtain ⟨x5_1, rfl, HA, HK1, HB⟩ := hrel
  cases gk with
  | zero => exact absurd HA.out (by simp [laws_eqClueS.l0])
  | succ k1 =>
   have H := HA.out
   clear HA
   simp only [laws_eqClueS.l0] at H
   by_cases c4 : x5_1 < (l0.length : Int)
   rotate_left
   ·rw [if_neg c4] at H
    have c4b0 := decide_eq_false c4
    clear c4
    obtain rfl := Option.some.inj H
    go_wp2
    go_ret
    exact ⟨by first | rfl | (simp [*, errW_none, errW_some] <;> rfl), zh HB.out⟩
   rw [if_pos c4] at H
   have c4b0 := decide_eq_true c4
   clear c4
   by_cases c5 : 0 ≤ x5_1
   rotate_left
   ·rw [if_neg c5] at H
    cases H
   rw [if_pos c5] at H
   have c5b0 := decide_eq_true c5
   clear c5
   by_cases c6 : x5_1 < (l1.length : Int)
   rotate_left
   ·rw [if_neg c6] at H
    cases H
   rw [if_pos c6] at H
   have c6b0 := decide_eq_true c6
   clear c6
   replace H := Option.bind_eq_some_iff.mp H
   obtain ⟨t209, A70, H⟩ := H
   have A7 := Aside0.mk A70
   clear A70
   by_cases c8 : t209 = true
   rotate_left
   ·replace c8 := Bool.eq_false_iff.mpr c8
    subst c8
    rw [if_neg zF] at H
    obtain rfl := Option.some.inj H
    try go_wp2
    have n0_ := Aside0.mk (below_drew1 HB.out)
    clear HB
    have HB := n0_
    clear n0_
    obtain ⟨⟨ad207, e207, hx207_0, hx207_1, hx207_2⟩, p207, q207⟩ := zW (at_T54 HR0.out x5_1)
    have hw207_2 := hx207_2
    have hw207_1 := hx207_1
    have hw207_0 := hx207_0
    cases e207
    replace hx207_0 := zx HB.out hx207_0
    replace hx207_1 := zx HB.out hx207_1
    replace hx207_2 := zx HB.out hx207_2
    obtain ⟨⟨ad208, e208, hx208_0, hx208_1, hx208_2⟩, p208, q208⟩ := zW (at_T54 HR1.out x5_1)
    have hw208_2 := hx208_2
    have hw208_1 := hx208_1
    have hw208_0 := hx208_0
    cases e208
    replace hx208_0 := zx HB.out hx208_0
    replace hx208_1 := zx HB.out hx208_1
    replace hx208_2 := zx HB.out hx208_2
    refine start_ (n := 10) (S := fun w' => w'.cell? (ad207.add ((x5_1).toNat * 3)) = some (.int .i64 ((rd_T54 l0 x5_1).f0)) ∧ w'.cell? ⟨(ad207.add ((x5_1).toNat * 3)).block, (ad207.add ((x5_1).toNat * 3)).off + 1, none⟩ = some (.int .i64 ((rd_T54 l0 x5_1).f1)) ∧ w'.cell? ⟨(ad207.add ((x5_1).toNat * 3)).block, (ad207.add ((x5_1).toNat * 3)).off + 2, none⟩ = some (.int .i64 ((rd_T54 l0 x5_1).f2)) ∧ w'.cell? (ad208.add ((x5_1).toNat * 3)) = some (.int .i64 ((rd_T54 l1 x5_1).f0)) ∧ w'.cell? ⟨(ad208.add ((x5_1).toNat * 3)).block, (ad208.add ((x5_1).toNat * 3)).off + 1, none⟩ = some (.int .i64 ((rd_T54 l1 x5_1).f1)) ∧ w'.cell? ⟨(ad208.add ((x5_1).toNat * 3)).block, (ad208.add ((x5_1).toNat * 3)).off + 2, none⟩ = some (.int .i64 ((rd_T54 l1 x5_1).f2))) (ds := []) (tb 10 0) (by kernel_rfl) rfl rfl ⟨((HB.out.cell (World.block_lt_of_cell? w _ hw207_0)).trans hw207_0), ((HB.out.cell (World.block_lt_of_cell? w _ hw207_1)).trans hw207_1), ((HB.out.cell (World.block_lt_of_cell? w _ hw207_2)).trans hw207_2), ((HB.out.cell (World.block_lt_of_cell? w _ hw208_0)).trans hw208_0), ((HB.out.cell (World.block_lt_of_cell? w _ hw208_1)).trans hw208_1), ((HB.out.cell (World.block_lt_of_cell? w _ hw208_2)).trans hw208_2)⟩ (fun hHeld => ?_); refine with_tabW laws_eqClueS.tab6 laws_eqClueS.bits6 (fun HT_ HW_ => ?_)
    generalize wr.drew = w11 at HB hx207_0 hx207_1 hx207_2 hx208_0 hx208_1 hx208_2 hHeld ⊢
    refine zu (i := 0) (N := some 17) (tb 10 1) rfl rfl HT_ ?_
    refine zu (i := 1) (N := some 18) (tb 10 3) rfl rfl HT_ ?_
    refine zu (i := 2) (N := some 19) (tb 10 7) rfl rfl HT_ ?_
    refine zu (i := 4) (N := some 21) (tb 10 23) rfl rfl HT_ ?_
    refine zu (i := 5) (N := some 22) (tb 10 55) rfl rfl HT_ ?_
    refine zu (i := 6) (N := some 23) (tb 10 119) rfl rfl HT_ ?_
    refine zt (i := 3) (N := some 20) (tb 10 127) rfl rfl (take_ofW HT_.out HW_.out (by kernel_rfl)) hHeld ?_
    refine zt (i := 7) (N := some 24) (tb 10 255) rfl rfl (take_ofW HT_.out HW_.out (by kernel_rfl)) hHeld ?_
    refine one_ (i := 8) (N := some 25) (tb 10 511) rfl rfl (one_of HT_.out (by kernel_rfl)) (by decide) (fun K hK => ?_)
    refine goes_ Tryd.func39 (by kernel_rfl) rfl #[.agg #[.int .i64 ((rd_T54 l0 x5_1).f0), .int .i64 ((rd_T54 l0 x5_1).f1), .int .i64 ((rd_T54 l0 x5_1).f2)], .agg #[.int .i64 ((rd_T54 l1 x5_1).f0), .int .i64 ((rd_T54 l1 x5_1).f1), .int .i64 ((rd_T54 l1 x5_1).f2)]] (by rfl) rfl rfl (by (try simp only [List.map_toArray, List.map_cons, List.map_nil]); first | done | rfl | (simp only [List.length_drop, List.length_take]; rfl)) ?_
    with_reducible refine (laws_eqClue.calls ((rd_T54 l0 x5_1).f0) ((rd_T54 l0 x5_1).f1) ((rd_T54 l0 x5_1).f2) ((rd_T54 l1 x5_1).f0) ((rd_T54 l1 x5_1).f1) ((rd_T54 l1 x5_1).f2) false _ A7.out).mono ?_
    rintro e w12 ⟨rfl, hb⟩
    refine ⟨_, rfl, ?_⟩
    have n0_ := Aside0.mk (below_step (zh HB.out) hb)
    clear HB
    have HB := n0_
    clear n0_
    (try clear hb)
    (try clear hb2)
    (try clear hk)
    (try clear hi)
    refine hK.out _ _ ⟨((HB.out.cell (World.block_lt_of_cell? w _ hw207_0)).trans hw207_0), ((HB.out.cell (World.block_lt_of_cell? w _ hw207_1)).trans hw207_1), ((HB.out.cell (World.block_lt_of_cell? w _ hw207_2)).trans hw207_2), ((HB.out.cell (World.block_lt_of_cell? w _ hw208_0)).trans hw208_0), ((HB.out.cell (World.block_lt_of_cell? w _ hw208_1)).trans hw208_1), ((HB.out.cell (World.block_lt_of_cell? w _ hw208_2)).trans hw208_2)⟩ (fun hHeld => ?_)
    clear hK K
    refine zn1 ?_
    refine zu (i := 9) (N := some 26) (tb 10 1023) rfl rfl HT_ ?_
    refine done_ (done_of HT_.out (by kernel_rfl)) ?_
    try go_wp2
    go_ret
    exact ⟨by first | rfl | (simp [*, errW_none, errW_some] <;> rfl), zh HB.out⟩
   subst c8
   rw [if_pos rfl] at H
   have H' := Aside0.mk H
   clear H
   try go_wp2
   have n0_ := Aside0.mk (below_drew1 HB.out)
   clear HB
   have HB := n0_
   clear n0_
   obtain ⟨⟨ad207, e207, hx207_0, hx207_1, hx207_2⟩, p207, q207⟩ := zW (at_T54 HR0.out x5_1)
   have hw207_2 := hx207_2
   have hw207_1 := hx207_1
   have hw207_0 := hx207_0
   cases e207
   replace hx207_0 := zx HB.out hx207_0
   replace hx207_1 := zx HB.out hx207_1
   replace hx207_2 := zx HB.out hx207_2
   obtain ⟨⟨ad208, e208, hx208_0, hx208_1, hx208_2⟩, p208, q208⟩ := zW (at_T54 HR1.out x5_1)
   have hw208_2 := hx208_2
   have hw208_1 := hx208_1
   have hw208_0 := hx208_0
   cases e208
   replace hx208_0 := zx HB.out hx208_0
   replace hx208_1 := zx HB.out hx208_1
   replace hx208_2 := zx HB.out hx208_2
   refine start_ (n := 10) (S := fun w' => w'.cell? (ad207.add ((x5_1).toNat * 3)) = some (.int .i64 ((rd_T54 l0 x5_1).f0)) ∧ w'.cell? ⟨(ad207.add ((x5_1).toNat * 3)).block, (ad207.add ((x5_1).toNat * 3)).off + 1, none⟩ = some (.int .i64 ((rd_T54 l0 x5_1).f1)) ∧ w'.cell? ⟨(ad207.add ((x5_1).toNat * 3)).block, (ad207.add ((x5_1).toNat * 3)).off + 2, none⟩ = some (.int .i64 ((rd_T54 l0 x5_1).f2)) ∧ w'.cell? (ad208.add ((x5_1).toNat * 3)) = some (.int .i64 ((rd_T54 l1 x5_1).f0)) ∧ w'.cell? ⟨(ad208.add ((x5_1).toNat * 3)).block, (ad208.add ((x5_1).toNat * 3)).off + 1, none⟩ = some (.int .i64 ((rd_T54 l1 x5_1).f1)) ∧ w'.cell? ⟨(ad208.add ((x5_1).toNat * 3)).block, (ad208.add ((x5_1).toNat * 3)).off + 2, none⟩ = some (.int .i64 ((rd_T54 l1 x5_1).f2))) (ds := []) (tb 10 0) (by kernel_rfl) rfl rfl ⟨((HB.out.cell (World.block_lt_of_cell? w _ hw207_0)).trans hw207_0), ((HB.out.cell (World.block_lt_of_cell? w _ hw207_1)).trans hw207_1), ((HB.out.cell (World.block_lt_of_cell? w _ hw207_2)).trans hw207_2), ((HB.out.cell (World.block_lt_of_cell? w _ hw208_0)).trans hw208_0), ((HB.out.cell (World.block_lt_of_cell? w _ hw208_1)).trans hw208_1), ((HB.out.cell (World.block_lt_of_cell? w _ hw208_2)).trans hw208_2)⟩ (fun hHeld => ?_); refine with_tabW laws_eqClueS.tab6 laws_eqClueS.bits6 (fun HT_ HW_ => ?_)
   generalize wr.drew = w9 at HB hx207_0 hx207_1 hx207_2 hx208_0 hx208_1 hx208_2 hHeld ⊢
   refine zu (i := 0) (N := some 17) (tb 10 1) rfl rfl HT_ ?_
   refine zu (i := 1) (N := some 18) (tb 10 3) rfl rfl HT_ ?_
   refine zu (i := 2) (N := some 19) (tb 10 7) rfl rfl HT_ ?_
   refine zu (i := 4) (N := some 21) (tb 10 23) rfl rfl HT_ ?_
   refine zu (i := 5) (N := some 22) (tb 10 55) rfl rfl HT_ ?_
   refine zu (i := 6) (N := some 23) (tb 10 119) rfl rfl HT_ ?_
   refine zt (i := 3) (N := some 20) (tb 10 127) rfl rfl (take_ofW HT_.out HW_.out (by kernel_rfl)) hHeld ?_
   refine zt (i := 7) (N := some 24) (tb 10 255) rfl rfl (take_ofW HT_.out HW_.out (by kernel_rfl)) hHeld ?_
   refine one_ (i := 8) (N := some 25) (tb 10 511) rfl rfl (one_of HT_.out (by kernel_rfl)) (by decide) (fun K hK => ?_)
   refine goes_ Tryd.func39 (by kernel_rfl) rfl #[.agg #[.int .i64 ((rd_T54 l0 x5_1).f0), .int .i64 ((rd_T54 l0 x5_1).f1), .int .i64 ((rd_T54 l0 x5_1).f2)], .agg #[.int .i64 ((rd_T54 l1 x5_1).f0), .int .i64 ((rd_T54 l1 x5_1).f1), .int .i64 ((rd_T54 l1 x5_1).f2)]] (by rfl) rfl rfl (by (try simp only [List.map_toArray, List.map_cons, List.map_nil]); first | done | rfl | (simp only [List.length_drop, List.length_take]; rfl)) ?_
   with_reducible refine (laws_eqClue.calls ((rd_T54 l0 x5_1).f0) ((rd_T54 l0 x5_1).f1) ((rd_T54 l0 x5_1).f2) ((rd_T54 l1 x5_1).f0) ((rd_T54 l1 x5_1).f1) ((rd_T54 l1 x5_1).f2) true _ A7.out).mono ?_
   rintro e w10 ⟨rfl, hb⟩
   refine ⟨_, rfl, ?_⟩
   have n0_ := Aside0.mk (below_step (zh HB.out) hb)
   clear HB
   have HB := n0_
   clear n0_
   (try clear hb)
   (try clear hb2)
   (try clear hk)
   (try clear hi)
   refine hK.out _ _ ⟨((HB.out.cell (World.block_lt_of_cell? w _ hw207_0)).trans hw207_0), ((HB.out.cell (World.block_lt_of_cell? w _ hw207_1)).trans hw207_1), ((HB.out.cell (World.block_lt_of_cell? w _ hw207_2)).trans hw207_2), ((HB.out.cell (World.block_lt_of_cell? w _ hw208_0)).trans hw208_0), ((HB.out.cell (World.block_lt_of_cell? w _ hw208_1)).trans hw208_1), ((HB.out.cell (World.block_lt_of_cell? w _ hw208_2)).trans hw208_2)⟩ (fun hHeld => ?_)
   clear hK K
   refine zn1 ?_
   refine zu (i := 9) (N := some 26) (tb 10 1023) rfl rfl HT_ ?_
   refine done_ (done_of HT_.out (by kernel_rfl)) ?_
   try go_wp2
   go_roundg k1
   case measure => have := HK1.out; omega
   case rel => exact ⟨(wrap64 (x5_1 + 1)), zE, H', zO HK1, ⟨zh HB.out⟩⟩
def laws_eqPuzzle.f (k : Nat) (a0_0 : Int) (l0_1 : List (S54)) (a1_0 : Int) (l1_1 : List (S54)) : Option (Bool) := if a0_0 = a1_0 then ((laws_eqClueS.f k l0_1 l1_1).bind fun t212 => (if t212 = true then (some true) else (some false))) else (some false)
set_option maxHeartbeats 8000000 in
set_option maxRecDepth 100000 in
theorem laws_eqPuzzle.calls (k : Nat) (a0_0 : Int) (A0_1 : Option Addr) (c0_1 : Nat) (l0_1 : List (S54)) (a1_0 : Int) (A1_1 : Option Addr) (c1_1 : Nat) (l1_1 : List (S54)) (r : Bool) (w : World) (hr0_1 : Kd.C k54 w A0_1 l0_1.length l0_1) (hc0_1 : l0_1.length ≤ c0_1) (hr1_1 : Kd.C k54 w A1_1 l1_1.length l1_1) (hc1_1 : l1_1.length ≤ c1_1) (h : laws_eqPuzzle.f k a0_0 l0_1 a1_0 l1_1 = some r) :
  Calls Tryd.prog 9 #[.agg #[.int .i64 a0_0, .slice A0_1 l0_1.length c0_1], .agg #[.int .i64 a1_0, .slice A1_1 l1_1.length c1_1]] w fun e w' => e = .returned (.bool r) ∧ Below w.heap.size w w' := by
 have hu30 := Tryd.underlying30
 have HR0_1 := Aside0.mk hr0_1
 have HC0_1 := Aside0.mk hc0_1
 clear hr0_1 hc0_1
 have HR1_1 := Aside0.mk hr1_1
 have HC1_1 := Aside0.mk hc1_1
 clear hr1_1 hc1_1
 have HB := Aside0.mk (Below.refl w.heap.size w)
 have H : (if a0_0 = a1_0 then ((laws_eqClueS.f k l0_1 l1_1).bind fun t212 => (if t212 = true then (some true) else (some false))) else (some false)) = some r := h
 clear h
 by_cases c3 : a0_0 = a1_0
 rotate_left
 ·rw [if_neg c3] at H
  have c3b0 := beq_eq_false_iff_ne.mpr c3
  have c3b1 := bne_iff_ne.mpr c3
  obtain rfl := Option.some.inj H
  go_enter Tryd.func9, Tryd.ntmps9
  go_wp2_with (first | ((with_reducible refine gate_dst (N := 2) rfl ?_); refine zq 2 #[.int .i64 a0_0, .slice A0_1 l0_1.length c0_1] 30 ?_; intro gb210 hg w18 hbox hb; have GW210 := zG hg HB; replace HB := zH hb HB; have BK210 := Aside0.mk hbox; have GE210 := GW210; clear hb hbox hg) | ((with_reducible refine gate_dst (N := 3) rfl ?_); refine zq 3 #[.int .i64 a1_0, .slice A1_1 l1_1.length c1_1] 30 ?_; intro gb211 hg w19 hbox hb; have BK211 := Aside0.mk hbox; have GW211 := zG hg HB; have GE211 := zG hg HB; have NB210_211 := zNa hg BK210; have NB211_210 := zNb hg BK210; replace BK210 := zK BK210 hb; replace HB := zH hb HB; clear hb hbox hg; have hnb20 := NB210_211.out; have hnc20 := NB211_210.out; obtain ⟨hcz21_0, hcz21_1, hfz21_0, hfz21_1⟩ := zC2 BK210; obtain ⟨hcz22_0, hcz22_1, hfz22_0, hfz22_1⟩ := zC2 BK211))
  go_ret
  exact ⟨by first | rfl | (simp [*, errW_none, errW_some] <;> rfl), zh HB.out⟩
 rw [if_pos c3] at H
 have c3b0 := beq_iff_eq.mpr c3
 have c3b1 := bne_eq_false_iff_eq.mpr c3
 clear c3
 replace H := Option.bind_eq_some_iff.mp H
 obtain ⟨t212, A40, H⟩ := H
 have A4 := Aside0.mk A40
 clear A40
 by_cases c5 : t212 = true
 ·subst c5
  rw [if_pos rfl] at H
  obtain rfl := Option.some.inj H
  go_enter Tryd.func9, Tryd.ntmps9
  go_wp2_with (first | ((with_reducible refine gate_dst (N := 2) rfl ?_); refine zq 2 #[.int .i64 a0_0, .slice A0_1 l0_1.length c0_1] 30 ?_; intro gb210 hg w6 hbox hb; have GW210 := zG hg HB; replace HB := zH hb HB; have BK210 := Aside0.mk hbox; have GE210 := GW210; clear hb hbox hg) | ((with_reducible refine gate_dst (N := 3) rfl ?_); refine zq 3 #[.int .i64 a1_0, .slice A1_1 l1_1.length c1_1] 30 ?_; intro gb211 hg w7 hbox hb; have BK211 := Aside0.mk hbox; have GW211 := zG hg HB; have GE211 := zG hg HB; have NB210_211 := zNa hg BK210; have NB211_210 := zNb hg BK210; replace BK210 := zK BK210 hb; replace HB := zH hb HB; clear hb hbox hg; have hnb8 := NB210_211.out; have hnc8 := NB211_210.out; obtain ⟨hcz9_0, hcz9_1, hfz9_0, hfz9_1⟩ := zC2 BK210; obtain ⟨hcz10_0, hcz10_1, hfz10_0, hfz10_1⟩ := zC2 BK211) | ((with_reducible refine gate_callee (f := 20) rfl ?_); refine zl 14 Tryd.func20 #[.slice A0_1 l0_1.length c0_1, .slice A1_1 l1_1.length c1_1] ?_; (with_reducible refine (laws_eqClueS.calls k _ _ l0_1 _ _ l1_1 true _ ?side1 ?side2 ?side3 ?side4 A4.out).mono ?_); (case side1 => exact zQ (Kd.C_below HR0_1.out HB.out)); (case side2 => exact HC0_1.out); (case side3 => exact zQ (Kd.C_below HR1_1.out HB.out)); (case side4 => exact HC1_1.out); rintro e w11 ⟨rfl, hb⟩; refine ⟨_, rfl, ?_⟩; replace BK210 := zK BK210 hb; replace BK211 := zK BK211 hb; replace HB := zH hb HB; clear hb))
  go_ret
  exact ⟨by first | rfl | (simp [*, errW_none, errW_some] <;> rfl), zh HB.out⟩
 replace c5 := Bool.eq_false_iff.mpr c5
 subst c5
 rw [if_neg zF] at H
 obtain rfl := Option.some.inj H
 go_enter Tryd.func9, Tryd.ntmps9
 go_wp2_with (first | ((with_reducible refine gate_dst (N := 2) rfl ?_); refine zq 2 #[.int .i64 a0_0, .slice A0_1 l0_1.length c0_1] 30 ?_; intro gb210 hg w12 hbox hb; have GW210 := zG hg HB; replace HB := zH hb HB; have BK210 := Aside0.mk hbox; have GE210 := GW210; clear hb hbox hg) | ((with_reducible refine gate_dst (N := 3) rfl ?_); refine zq 3 #[.int .i64 a1_0, .slice A1_1 l1_1.length c1_1] 30 ?_; intro gb211 hg w13 hbox hb; have BK211 := Aside0.mk hbox; have GW211 := zG hg HB; have GE211 := zG hg HB; have NB210_211 := zNa hg BK210; have NB211_210 := zNb hg BK210; replace BK210 := zK BK210 hb; replace HB := zH hb HB; clear hb hbox hg; have hnb14 := NB210_211.out; have hnc14 := NB211_210.out; obtain ⟨hcz15_0, hcz15_1, hfz15_0, hfz15_1⟩ := zC2 BK210; obtain ⟨hcz16_0, hcz16_1, hfz16_0, hfz16_1⟩ := zC2 BK211) | ((with_reducible refine gate_callee (f := 20) rfl ?_); refine zl 14 Tryd.func20 #[.slice A0_1 l0_1.length c0_1, .slice A1_1 l1_1.length c1_1] ?_; (with_reducible refine (laws_eqClueS.calls k _ _ l0_1 _ _ l1_1 false _ ?side1 ?side2 ?side3 ?side4 A4.out).mono ?_); (case side1 => exact zQ (Kd.C_below HR0_1.out HB.out)); (case side2 => exact HC0_1.out); (case side3 => exact zQ (Kd.C_below HR1_1.out HB.out)); (case side4 => exact HC1_1.out); rintro e w17 ⟨rfl, hb⟩; refine ⟨_, rfl, ?_⟩; replace BK210 := zK BK210 hb; replace BK211 := zK BK211 hb; replace HB := zH hb HB; clear hb))
 go_ret
 exact ⟨by first | rfl | (simp [*, errW_none, errW_some] <;> rfl), zh HB.out⟩
end Go.Proofs.YtdoojmkndmpgdaaDoor.Q
end
section
namespace Go.Proofs.YtdoojmkndmpgdaaDoor.Q
open Go.RowKit Go.Proofs.YtdoojmkndmpgdaaDoorW.PrintWords Go.Proofs.YtdoojmkndmpgdaaDoorW.PrintLast Go.Proofs.YtdoojmkndmpgdaaDoorW.PrintMore
set_option linter.unusedVariables false
set_option linter.unusedSimpArgs false
def idxO {α : Type} (p : α → Option Bool) : List α → Nat → Option Int
  | [], _ => some (-1)
  | x :: xs, k => (p x).bind fun b => if b = true then some (k : Int) else idxO p xs (k + 1)
def anyO {α : Type} (p : α → Option Bool) : List α → Option Bool
  | [] => some false
  | x :: xs => (p x).bind fun b => if b = true then some true else anyO p xs
theorem anyO_idxO {α : Type} (p : α → Option Bool) (xs : List α) : ∀ (k : Nat) (r : Bool), anyO p xs = some r → ∃ i, idxO p xs k = some i ∧ r = decide (0 ≤ i) := by
  induction xs with
  | nil => intro k r h; simp only [anyO, Option.some.injEq] at h; exact ⟨-1, rfl, by subst h; rfl⟩
  | cons x xs ih =>
    intro k r h
    simp only [anyO] at h
    obtain ⟨b, hb, h⟩ := Option.bind_eq_some_iff.mp h
    cases b with
    | true => rw [if_pos rfl] at h; exact ⟨k, by simp [idxO, hb], by simp only [Option.some.injEq] at h; subst h; simp⟩
    | false =>
      rw [if_neg (by simp)] at h
      obtain ⟨i, hi, hr⟩ := ih (k + 1) r h
      exact ⟨i, by simp [idxO, hb, hi], hr⟩
theorem idxO_step {α : Type} {p : α → Option Bool} {xs : List α} {k : Nat} {r : Int} {x : α} (h : idxO p (xs.drop k) k = some r) (hx : xs[k]? = some x) :
    ∃ b, p x = some b ∧ (b = true → r = k) ∧ (b = false → idxO p (xs.drop (k + 1)) (k + 1) = some r) := by
  rw [show xs.drop k = x :: xs.drop (k + 1) from by
    obtain ⟨hk, rfl⟩ := List.getElem?_eq_some_iff.1 hx; exact List.drop_eq_getElem_cons hk] at h
  simp only [idxO] at h
  obtain ⟨b, hb, h⟩ := Option.bind_eq_some_iff.mp h
  refine ⟨b, hb, ?_, ?_⟩
  · rintro rfl; rw [if_pos rfl] at h; exact (Option.some.inj h).symm
  · rintro rfl; rw [if_neg (by simp)] at h; exact h
def PredK {α : Type} (P : Program) (g : Nat) (lb : Array Value) (d : Kd α) (mkv : List Value → Value) (w : World) (p : α → Option Bool) : Prop :=
  ∀ (W : World) (x : α) (c : List Value) (b : Bool), Below w.heap.size w W → d.K w x c → p x = some b → Calls P g (#[mkv c] ++ lb) W fun e w' => e = .returned (.bool b) ∧ Below w.heap.size w w'
theorem anyO_some {α : Type} {p : α → Option Bool} {q : α → Bool} {xs : List α} (h : ∀ x ∈ xs, p x = some (q x)) : anyO p xs = some (xs.any q) := by
  induction xs with
  | nil => rfl
  | cons x xs ih =>
    simp only [anyO, h x (List.mem_cons_self ..), Option.bind_some]
    rw [ih (fun y hy => h y (List.mem_cons_of_mem _ hy))]
    rw [List.any_cons]
    cases q x <;> rfl
theorem ret_i {a b : Int} (h : a = b) : Ending.returned (.int .i64 a) = .returned (.int .i64 b) := by rw [h]
theorem ret_b {a b : Bool} (h : a = b) : Ending.returned (.bool a) = .returned (.bool b) := by rw [h]
end Go.Proofs.YtdoojmkndmpgdaaDoor.Q
end
section
namespace Go.Proofs.YtdoojmkndmpgdaaDoor.Q
open Go.RowKit Go.Proofs.YtdoojmkndmpgdaaDoorW.PrintWords Go.Proofs.YtdoojmkndmpgdaaDoorW.PrintLast Go.Proofs.YtdoojmkndmpgdaaDoorW.PrintMore
attribute [local go_sem] max2_int min2_int max_two min_two max_three min_three max_four min_four
set_option linter.unusedVariables false
set_option linter.unusedSimpArgs false
def impl_within.f (a0 : Int) (a1 : Int) (a2 : Int) : Option (Bool) := if a0 ≥ a1 then (some (decide (a0 ≤ a2))) else (some false)
set_option maxHeartbeats 8000000 in
set_option maxRecDepth 100000 in
theorem impl_within.calls (a0 : Int) (a1 : Int) (a2 : Int) (r : Bool) (w : World) (h : impl_within.f a0 a1 a2 = some r) :
  Calls Tryd.prog 44 #[.int .i64 a0, .int .i64 a1, .int .i64 a2] w fun e w' => e = .returned (.bool r) ∧ Drawn0 w w' := by
 have H : (if a0 ≥ a1 then (some (decide (a0 ≤ a2))) else (some false)) = some r := h
 clear h
 by_cases c4 : a0 ≥ a1
 ·rw [if_pos c4] at H
  have c4b0 := decide_eq_true c4
  clear c4
  obtain rfl := Option.some.inj H
  go_enter Tryd.func44, Tryd.ntmps44
  go_wp2
  go_ret
  exact za1
 rw [if_neg c4] at H
 have c4b0 := decide_eq_false c4
 clear c4
 obtain rfl := Option.some.inj H
 go_enter Tryd.func44, Tryd.ntmps44
 go_wp2
 go_ret
 exact za1
def impl_isHidden.f (a0 : Int) : Option (Bool) := (impl_within.f a0 1 4).bind fun t157 => (some t157)
set_option maxHeartbeats 8000000 in
set_option maxRecDepth 100000 in
theorem impl_isHidden.calls (a0 : Int) (r : Bool) (w : World) (h : impl_isHidden.f a0 = some r) :
  Calls Tryd.prog 33 #[.int .i64 a0] w fun e w' => e = .returned (.bool r) ∧ Drawn0 w w' := by
 have H : ((impl_within.f a0 1 4).bind fun t157 => (some t157)) = some r := h
 clear h
 replace H := Option.bind_eq_some_iff.mp H
 obtain ⟨t157, A20, H⟩ := H
 have A2 := Aside0.mk A20
 clear A20
 obtain rfl := Option.some.inj H
 go_enter Tryd.func33, Tryd.ntmps33
 go_wp2_with (first | ((with_reducible refine gate_callee (f := 44) rfl ?_); refine zl 4 Tryd.func44 #[.int .i64 a0, .int .i64 1, .int .i64 4] ?_; (with_reducible refine (impl_within.calls a0 1 4 t157 _ A2.out).mono ?_); rintro e w' ⟨rfl, ⟨nd, rfl⟩⟩; refine ⟨_, rfl, ?_⟩))
 go_ret
 exact za1
def impl_IsClue.f (a0 : Int) (a1_0 : Int) (a1_1 : Int) (a1_2 : Int) : Option (Bool) := (impl_isHidden.f a0).bind fun t159 => (if t159 = true then (if a1_0 = 0 then (if 0 ≤ a0 then ((impl_within.f a1_1 0 (wrap64 ((shl .i64 1 a0) - 1))).bind fun t160 => (if t160 = true then ((impl_within.f a1_2 0 1).bind fun t161 => (some t161)) else (some false))) else (none)) else (if a1_0 = 1 then ((impl_within.f a1_1 1 15).bind fun t162 => (if t162 = true then (some (a1_2 == 0)) else (some false))) else (if a1_0 = 2 then ((impl_within.f a1_1 0 (wrap64 (a0 - 1))).bind fun t163 => (if t163 = true then ((impl_within.f a1_2 0 1).bind fun t164 => (some t164)) else (some false))) else (if a1_0 = 3 then ((impl_within.f a1_1 0 (wrap64 (a0 - 1))).bind fun t165 => (if t165 = true then ((impl_within.f a1_2 0 8).bind fun t166 => (some t166)) else (some false))) else (if a1_0 = 4 then ((impl_within.f a1_1 0 1).bind fun t167 => (if t167 = true then (some (a1_2 == 0)) else (some false))) else (if a1_0 = 5 then ((impl_within.f a1_1 0 1).bind fun t168 => (if t168 = true then (some (a1_2 == 0)) else (some false))) else (some false))))))) else (some false))
set_option maxHeartbeats 8000000 in
set_option maxRecDepth 100000 in
theorem impl_IsClue.calls (a0 : Int) (a1_0 : Int) (a1_1 : Int) (a1_2 : Int) (r : Bool) (w : World) (h : impl_IsClue.f a0 a1_0 a1_1 a1_2 = some r) :
  Calls Tryd.prog 36 #[.int .i64 a0, .agg #[.int .i64 a1_0, .int .i64 a1_1, .int .i64 a1_2]] w fun e w' => e = .returned (.bool r) ∧ Below w.heap.size w w' := by
 unfold impl_IsClue.f at h
 replace h := Option.bind_eq_some_iff.mp h
 obtain ⟨t, ht, H⟩ := h
 have A3 := Aside0.mk ht
 have B := Aside0.mk True.intro
 have C := Aside0.mk True.intro
 have HB := Aside0.mk (Below.refl w.heap.size w)
 clear ht
 have hu72 := Tryd.underlying54
 rcases t with _ | _
 ·obtain rfl := Option.some.inj H
  go_enter Tryd.func36, Tryd.ntmps36
  go_wp2_with (go_at_call 33; refine (impl_isHidden.calls _ _ _ A3.out).mono ?_; rintro e w' ⟨rfl, nd, rfl⟩)
  go_ret
  exact ⟨rfl, pw_below_drewN ((Below.refl _ w).alloc (Nat.le_refl _) _) _⟩
 rw [if_pos rfl] at H
 by_cases c5 : a1_0 = 0
 ·rw [if_pos c5] at H
  have c5b0 := beq_iff_eq.mpr c5
  have c5b1 := bne_eq_false_iff_eq.mpr c5
  clear c5
  by_cases c6 : 0 ≤ a0
  rotate_left
  ·rw [if_neg c6] at H
   cases H
  rw [if_pos c6] at H
  have c6b0 := eq_true c6
  have c6b1 := decide_eq_true c6
  clear c6
  obtain ⟨ji7, hji7⟩ : ∃ j_ : Int, (shl .i64 1 a0) = j_ := ⟨_, rfl⟩
  first | rw [hji7] at H | simp only [hji7] at H
  (try rw [hji7] at A3)
  obtain ⟨hji7_, hji7z, hji7u, hji7v, hji7y, hji7x⟩ := zJ1 hji7
  replace H := Option.bind_eq_some_iff.mp H
  obtain ⟨t202, A80, H⟩ := H
  have A8 := Aside0.mk A80
  clear A80
  by_cases c9 : t202 = true
  rotate_left
  ·replace c9 := Bool.eq_false_iff.mpr c9
   subst c9
   rw [if_neg zF] at H
   obtain rfl := Option.some.inj H
   go_enter Tryd.func36, Tryd.ntmps36
   go_wp2_with (first | ((with_reducible refine gate_dst (N := 3) rfl ?_); refine box_event ?hg (N := 3) ?hd (cs := #[.int .i64 a1_0, .int .i64 a1_1, .int .i64 a1_2]) (t := 54) ?hr ?_; (case hd => rfl); (case hg => rfl); (case hr => first | (go_simp; done) | (go_simp; rfl)); intro gb200 hg w13 hbox hb; have GW200 := zG hg HB; replace HB := zH hb HB; have BK200 := Aside0.mk hbox; have GE200 := GW200; clear hb hbox hg) | (go_at_call 33; (with_reducible refine (impl_isHidden.calls a0 true _ A3.out).mono ?_); rintro e w' ⟨rfl, ⟨nd, rfl⟩⟩; (try first | exact ⟨rfl, _, zd⟩ | exact ⟨rfl, _, ze⟩); obtain ⟨hcz14_0, hcz14_1, hcz14_2, hfz14_0, hfz14_1, hfz14_2⟩ := zC3 BK200) | (go_at_call 44; (with_reducible refine (impl_within.calls a1_1 0 (wrap64 ((ji7) - 1)) false _ A8.out).mono ?_); rintro e w' ⟨rfl, ⟨nd, rfl⟩⟩; (try first | exact ⟨rfl, _, zd⟩ | exact ⟨rfl, _, ze⟩)))
   repeat (go_quiet (first | (go_at_call 33; (with_reducible refine (impl_isHidden.calls a0 true _ A3.out).mono ?_); rintro e w' ⟨rfl, ⟨nd, rfl⟩⟩; (try first | exact ⟨rfl, _, zd⟩ | exact ⟨rfl, _, ze⟩); have hcz14_0 : w13.cell? ⟨gb200, 0, none⟩ = some (.int .i64 a1_0) := (blk_cell BK200.out 0).trans rfl; have hcz14_1 : w13.cell? ⟨gb200, 1, none⟩ = some (.int .i64 a1_1) := (blk_cell BK200.out 1).trans rfl; have hcz14_2 : w13.cell? ⟨gb200, 2, none⟩ = some (.int .i64 a1_2) := (blk_cell BK200.out 2).trans rfl; have hfz14_0 := blk_frozen BK200.out 0; have hfz14_1 := blk_frozen BK200.out 1; have hfz14_2 := blk_frozen BK200.out 2) | (go_at_call 44; (with_reducible refine (impl_within.calls a1_1 0 (wrap64 ((ji7) - 1)) false _ A8.out).mono ?_); rintro e w' ⟨rfl, ⟨nd, rfl⟩⟩; (try first | exact ⟨rfl, _, zd⟩ | exact ⟨rfl, _, ze⟩))); try go_wp2_with (first | (go_at_call 33; (with_reducible refine (impl_isHidden.calls a0 true _ A3.out).mono ?_); rintro e w' ⟨rfl, ⟨nd, rfl⟩⟩; (try first | exact ⟨rfl, _, zd⟩ | exact ⟨rfl, _, ze⟩); obtain ⟨hcz14_0, hcz14_1, hcz14_2, hfz14_0, hfz14_1, hfz14_2⟩ := zC3 BK200) | (go_at_call 44; (with_reducible refine (impl_within.calls a1_1 0 (wrap64 ((ji7) - 1)) false _ A8.out).mono ?_); rintro e w' ⟨rfl, ⟨nd, rfl⟩⟩; (try first | exact ⟨rfl, _, zd⟩ | exact ⟨rfl, _, ze⟩))))
   go_ret
   exact ⟨by first | rfl | (simp [errW_none, errW_some] <;> rfl) | (simp only [← hji7]; first | rfl | (simp [errW_none, errW_some] <;> rfl)) | (simp [*, errW_none, errW_some] <;> rfl), by repeat (first | (with_reducible first | exact HB.out | apply below_alloc | apply pw_below_drewN | apply below_drew1 | refine below_set ?_ GE200.out) | exact HB.out)⟩
  subst c9
  rw [if_pos rfl] at H
  replace H := Option.bind_eq_some_iff.mp H
  obtain ⟨t203, A100, H⟩ := H
  have A10 := Aside0.mk A100
  clear A100
  obtain rfl := Option.some.inj H
  go_enter Tryd.func36, Tryd.ntmps36
  go_wp2_with (first | ((with_reducible refine gate_dst (N := 3) rfl ?_); refine box_event ?hg (N := 3) ?hd (cs := #[.int .i64 a1_0, .int .i64 a1_1, .int .i64 a1_2]) (t := 54) ?hr ?_; (case hd => rfl); (case hg => rfl); (case hr => first | (go_simp; done) | (go_simp; rfl)); intro gb200 hg w11 hbox hb; have GW200 := zG hg HB; replace HB := zH hb HB; have BK200 := Aside0.mk hbox; have GE200 := GW200; clear hb hbox hg) | (go_at_call 33; (with_reducible refine (impl_isHidden.calls a0 true _ A3.out).mono ?_); rintro e w' ⟨rfl, ⟨nd, rfl⟩⟩; (try first | exact ⟨rfl, _, zd⟩ | exact ⟨rfl, _, ze⟩); obtain ⟨hcz12_0, hcz12_1, hcz12_2, hfz12_0, hfz12_1, hfz12_2⟩ := zC3 BK200) | (go_at_call 44; (with_reducible refine (impl_within.calls a1_1 0 (wrap64 ((ji7) - 1)) true _ A8.out).mono ?_); rintro e w' ⟨rfl, ⟨nd, rfl⟩⟩; (try first | exact ⟨rfl, _, zd⟩ | exact ⟨rfl, _, ze⟩)) | (go_at_call 44; (with_reducible refine (impl_within.calls a1_2 0 1 t203 _ A10.out).mono ?_); rintro e w' ⟨rfl, ⟨nd, rfl⟩⟩; (try first | exact ⟨rfl, _, zd⟩ | exact ⟨rfl, _, ze⟩)))
  repeat (go_quiet (first | (go_at_call 33; (with_reducible refine (impl_isHidden.calls a0 true _ A3.out).mono ?_); rintro e w' ⟨rfl, ⟨nd, rfl⟩⟩; (try first | exact ⟨rfl, _, zd⟩ | exact ⟨rfl, _, ze⟩); have hcz12_0 : w11.cell? ⟨gb200, 0, none⟩ = some (.int .i64 a1_0) := (blk_cell BK200.out 0).trans rfl; have hcz12_1 : w11.cell? ⟨gb200, 1, none⟩ = some (.int .i64 a1_1) := (blk_cell BK200.out 1).trans rfl; have hcz12_2 : w11.cell? ⟨gb200, 2, none⟩ = some (.int .i64 a1_2) := (blk_cell BK200.out 2).trans rfl; have hfz12_0 := blk_frozen BK200.out 0; have hfz12_1 := blk_frozen BK200.out 1; have hfz12_2 := blk_frozen BK200.out 2) | (go_at_call 44; (with_reducible refine (impl_within.calls a1_1 0 (wrap64 ((ji7) - 1)) true _ A8.out).mono ?_); rintro e w' ⟨rfl, ⟨nd, rfl⟩⟩; (try first | exact ⟨rfl, _, zd⟩ | exact ⟨rfl, _, ze⟩)) | (go_at_call 44; (with_reducible refine (impl_within.calls a1_2 0 1 t203 _ A10.out).mono ?_); rintro e w' ⟨rfl, ⟨nd, rfl⟩⟩; (try first | exact ⟨rfl, _, zd⟩ | exact ⟨rfl, _, ze⟩))); try go_wp2_with (first | (go_at_call 33; (with_reducible refine (impl_isHidden.calls a0 true _ A3.out).mono ?_); rintro e w' ⟨rfl, ⟨nd, rfl⟩⟩; (try first | exact ⟨rfl, _, zd⟩ | exact ⟨rfl, _, ze⟩); obtain ⟨hcz12_0, hcz12_1, hcz12_2, hfz12_0, hfz12_1, hfz12_2⟩ := zC3 BK200) | (go_at_call 44; (with_reducible refine (impl_within.calls a1_1 0 (wrap64 ((ji7) - 1)) true _ A8.out).mono ?_); rintro e w' ⟨rfl, ⟨nd, rfl⟩⟩; (try first | exact ⟨rfl, _, zd⟩ | exact ⟨rfl, _, ze⟩)) | (go_at_call 44; (with_reducible refine (impl_within.calls a1_2 0 1 t203 _ A10.out).mono ?_); rintro e w' ⟨rfl, ⟨nd, rfl⟩⟩; (try first | exact ⟨rfl, _, zd⟩ | exact ⟨rfl, _, ze⟩))))
  go_ret
  exact ⟨by first | rfl | (simp [errW_none, errW_some] <;> rfl) | (simp only [← hji7]; first | rfl | (simp [errW_none, errW_some] <;> rfl)) | (simp [*, errW_none, errW_some] <;> rfl), by repeat (first | (with_reducible first | exact HB.out | apply below_alloc | apply pw_below_drewN | apply below_drew1 | refine below_set ?_ GE200.out) | exact HB.out)⟩
 rw [if_neg c5] at H
 rcases (show a1_0 = 1 ∨ a1_0 = 2 ∨ a1_0 = 3 ∨ a1_0 = 4 ∨ a1_0 = 5 ∨ (¬ a1_0 = 1 ∧ ¬ a1_0 = 2 ∧ ¬ a1_0 = 3 ∧ ¬ a1_0 = 4 ∧ ¬ a1_0 = 5) by omega) with k | k | k | k | k | ⟨k1, k2, k3, k4, k5⟩
 all_goals try subst k
 all_goals try rw [if_neg k1, if_neg k2, if_neg k3, if_neg k4, if_neg k5] at H
 all_goals try simp only [Int.reduceEq, if_true, if_false] at H
 all_goals try (have b0 : (a1_0 == 0) = false := beq_eq_false_iff_ne.2 c5; have b1 : (a1_0 == 1) = false := beq_eq_false_iff_ne.2 k1; have b2 : (a1_0 == 2) = false := beq_eq_false_iff_ne.2 k2; have b3 : (a1_0 == 3) = false := beq_eq_false_iff_ne.2 k3; have b4 : (a1_0 == 4) = false := beq_eq_false_iff_ne.2 k4; have b5 : (a1_0 == 5) = false := beq_eq_false_iff_ne.2 k5)
 all_goals try (replace H := Option.bind_eq_some_iff.mp H; obtain ⟨b, hb, H⟩ := H; replace B := Aside0.mk hb; clear hb; rcases b with _ | _)
 all_goals try rw [if_neg Bool.false_ne_true] at H
 all_goals try rw [if_pos rfl] at H
 all_goals try (replace H := Option.bind_eq_some_iff.mp H; obtain ⟨c, hc, H⟩ := H; replace C := Aside0.mk hc; clear hc)
 all_goals obtain rfl := Option.some.inj H
 all_goals clear H
 all_goals go_enter Tryd.func36, Tryd.ntmps36
 all_goals go_wp2_with (first | (go_at_call 33; refine (impl_isHidden.calls _ _ _ A3.out).mono ?_; rintro e w' ⟨rfl, nd, rfl⟩) | (go_at_call 44; with_reducible refine (impl_within.calls _ _ _ _ _ B.out).mono ?_; rintro e w' ⟨rfl, nd, rfl⟩) | (go_at_call 44; with_reducible refine (impl_within.calls _ _ _ _ _ C.out).mono ?_; rintro e w' ⟨rfl, nd, rfl⟩))
 all_goals go_ret
 all_goals exact ⟨by first | rfl | (simp [*] <;> rfl), by repeat (first | (with_reducible first | exact HB.out | apply below_alloc | apply pw_below_drewN | apply below_drew1) | exact HB.out)⟩
end Go.Proofs.YtdoojmkndmpgdaaDoor.Q
end
section
namespace Go.Proofs.YtdoojmkndmpgdaaDoor.Q
open Go.RowKit Go.Proofs.YtdoojmkndmpgdaaDoorW.PrintWords Go.Proofs.YtdoojmkndmpgdaaDoorW.PrintLast Go.Proofs.YtdoojmkndmpgdaaDoorW.PrintMore
set_option linter.unusedVariables false
set_option linter.unusedSimpArgs false
set_option maxHeartbeats 2000000 in
theorem indexFunc_clue (p : S54 → Option Bool) (g : Nat) (lb : Array Value) (eg : ∀ args w, (callFunc g args).run Tryd.prog w = .ok (.enter g args) w)
    (A0 : Option Addr) (c0 : Nat) (l0 : List S54) (r : Int) (w : World) (hr0 : Kd.C k54 w A0 l0.length l0) (hc0 : l0.length ≤ c0)
    (hp : PredK Tryd.prog g lb k54 (fun c => .agg c.toArray) w p) (h : idxO p l0 0 = some r) :
    Calls Tryd.prog 49 #[.slice A0 l0.length c0, .func (.func g) #[] lb] w fun e w' => e = .returned (.int .i64 r) ∧ Below w.heap.size w w' := by
  have hlen := hr0.2.1
  have HR0 := Aside0.mk hr0
  clear hr0
  have HP := Aside0.mk hp
  clear hp
  have H0 := Aside0.mk h
  clear h
  go_enter Tryd.func49, Tryd.ntmps49
  go_wp2
  go_loopg [5, 8] l0.length (fun gg _ s8 wr => ∃ kk : Nat, kk ≤ l0.length ∧ l0.length - kk ≤ gg ∧ s8 = .int .i64 kk ∧ Aside0 (Below w.heap.size w wr) ∧ Aside0 (idxO p (l0.drop kk) kk = some r))
  case atStart => exact ⟨0, Nat.zero_le _, by omega, rfl, ⟨Below.refl _ w⟩, H0⟩
  case round =>
    obtain ⟨kk, hkk, hg, rfl, BW, A⟩ := hrel
    by_cases hlt : kk < l0.length
    · have hltz : (kk : Int) < (l0.length : Int) := by omega
      obtain ⟨ad, e, x0, x1, x2⟩ := at_T54 HR0.out (kk : Int) (by omega) hltz
      subst e
      replace x0 := (BW.out.cell (World.block_lt_of_cell? w _ x0)).trans x0
      replace x1 := (BW.out.cell (World.block_lt_of_cell? w _ x1)).trans x1
      replace x2 := (BW.out.cell (World.block_lt_of_cell? w _ x2)).trans x2
      rw [Int.toNat_natCast] at x0 x1 x2
      obtain ⟨b, hb, h1, h2⟩ := idxO_step A.out (show l0[kk]? = some (rd_T54 l0 (kk : Int)) by unfold rd_T54; rw [Int.toNat_natCast, List.getD_eq_getElem?_getD, List.getElem?_eq_getElem hlt]; rfl)
      have hcall := HP.out wr _ _ b BW.out (k54_mk w _) hb
      generalize rd_T54 l0 (kk : Int) = y at x0 x1 x2 hcall hb
      have B := Aside0.mk hb
      clear hb
      cases b with
      | true =>
        have E := Aside0.mk (h1 rfl)
        clear h1 h2
        go_wp2_with (go_at_fn g; refine hcall.mono ?_; rintro e w' ⟨rfl, hb'⟩)
        go_ret
        exact ⟨ret_i E.out.symm, hb'⟩
      | false =>
        have E := Aside0.mk (h2 rfl)
        clear h1 h2
        go_wp2_with (go_at_fn g; refine hcall.mono ?_; rintro e w' ⟨rfl, hb'⟩)
        go_roundg (l0.length - (kk + 1))
        case measure => omega
        case rel => exact ⟨kk + 1, by omega, by omega, by go_num, ⟨hb'⟩, E⟩
    · have hltz : ¬ (kk : Int) < (l0.length : Int) := by omega
      have : kk = l0.length := by omega
      subst this
      go_wp2
      go_ret
      refine ⟨?_, BW.out⟩
      have h3 := A.out
      rw [List.drop_length] at h3
      have h4 : (-1 : Int) = r := by simpa [idxO] using h3
      exact ret_i h4
set_option maxHeartbeats 1000000 in
theorem containsFunc_clue (p : S54 → Option Bool) (g : Nat) (lb : Array Value) (eg : ∀ args w, (callFunc g args).run Tryd.prog w = .ok (.enter g args) w)
    (A0 : Option Addr) (c0 : Nat) (l0 : List S54) (r : Bool) (w : World) (hr0 : Kd.C k54 w A0 l0.length l0) (hc0 : l0.length ≤ c0)
    (hp : PredK Tryd.prog g lb k54 (fun c => .agg c.toArray) w p) (h : anyO p l0 = some r) :
    Calls Tryd.prog 34 #[.slice A0 l0.length c0, .func (.func g) #[] lb] w fun e w' => e = .returned (.bool r) ∧ Below w.heap.size w w' := by
  obtain ⟨i, hi, rfl⟩ := anyO_idxO p l0 0 r h
  have hcon := indexFunc_clue p g lb eg A0 c0 l0 i w hr0 hc0 hp hi
  clear hr0 hp h hi
  go_enter Tryd.func34, Tryd.ntmps34
  go_wp2_with (go_at_call 49; refine hcon.mono ?_; rintro e w' ⟨rfl, hb'⟩)
  go_ret
  exact ⟨rfl, hb'⟩
def impl_IsPuzzle_1.f (m : Int) (x : S54) : Option Bool := (impl_IsClue.f m x.f0 x.f1 x.f2).bind fun b => some (!b)
set_option maxHeartbeats 1000000 in
theorem impl_IsPuzzle_1.pred (m : Int) (v : Value) (b1 : Nat) (w : World) (h1 : w.cell? ⟨b1, 0, none⟩ = some (.int .i64 m)) :
    PredK Tryd.prog 35 #[.pointer (some ⟨b1, 0, none⟩)] k54 (fun c => .agg c.toArray) w (impl_IsPuzzle_1.f m) := by
  intro W x c b hb hK hp
  obtain rfl := k54_open hK
  show Calls Tryd.prog 35 #[.agg #[.int .i64 x.f0, .int .i64 x.f1, .int .i64 x.f2], .pointer (some ⟨b1, 0, none⟩)] W _
  have q1 := (hb.cell (World.block_lt_of_cell? w _ h1)).trans h1
  have q2 := Nat.lt_of_lt_of_le (World.block_lt_of_cell? w _ h1) hb.size
  obtain ⟨t, ht, hr⟩ := Option.bind_eq_some_iff.mp hp
  have hr' : (!t) = b := Option.some.inj hr
  have hB := Aside0.mk hb
  have hT := Aside0.mk ht
  have hE := Aside0.mk hr'
  have q3 : W.heap.size ≠ b1 := by have : b1 < W.heap.size := q2; omega
  have q4 : b1 ≠ W.heap.size := fun h => q3 h.symm
  clear h1 hb hK hp hr hr' ht
  go_enter Tryd.func35, Tryd.ntmps35
  go_wp2_with (go_at_call 36; refine (impl_IsClue.calls _ _ _ _ _ _ hT.out).mono ?_; rintro e w' ⟨rfl, hb'⟩)
  go_ret
  exact ⟨ret_b hE.out, hB.out.trans (((Below.refl W.heap.size W).alloc (Nat.le_refl _) _).trans (hb'.mono (by simp)) |>.mono hB.out.size)⟩
def impl_IsPuzzle.f (a0_0 : Int) (l0_1 : List S54) : Option Bool :=
  (impl_isHidden.f a0_0).bind fun t => if t = true then (if (l0_1.length : Int) ≤ 8 then (anyO (impl_IsPuzzle_1.f a0_0) l0_1).bind fun b => some (!b) else some false) else some false
set_option maxHeartbeats 2000000 in
theorem impl_IsPuzzle.calls (a0_0 : Int) (A0_1 : Option Addr) (c0_1 : Nat) (l0_1 : List S54) (r : Bool) (w : World) (hr0_1 : Kd.C k54 w A0_1 l0_1.length l0_1) (hc0_1 : l0_1.length ≤ c0_1) (h : impl_IsPuzzle.f a0_0 l0_1 = some r) :
    Calls Tryd.prog 18 #[.agg #[.int .i64 a0_0, .slice A0_1 l0_1.length c0_1]] w fun e w' => e = .returned (.bool r) ∧ Below w.heap.size w w' := by
  have eg : ∀ args w, (callFunc 35 args).run Tryd.prog w = .ok (.enter 35 args) w := enters_of Tryd.func35 (by kernel_rfl) rfl
  obtain ⟨t, ht, h⟩ := Option.bind_eq_some_iff.mp h
  have hT := Aside0.mk ht
  have HR := Aside0.mk hr0_1
  clear ht hr0_1
  cases t with
  | false =>
    rw [if_neg (by simp)] at h
    obtain rfl := Option.some.inj h
    go_enter Tryd.func18, Tryd.ntmps18
    go_wp2_with (go_at_call 33; refine (impl_isHidden.calls _ _ _ hT.out).mono ?_; rintro e w' ⟨rfl, nd, rfl⟩)
    go_ret
    exact ⟨rfl, pw_below_drewN ((Below.refl _ w).alloc (Nat.le_refl _) _) _⟩
  | true =>
    rw [if_pos rfl] at h
    by_cases hl : l0_1.length ≤ 8
    · rw [if_pos (by omega)] at h
      obtain ⟨b, hb, h⟩ := Option.bind_eq_some_iff.mp h
      obtain rfl := Option.some.inj h
      have hBB := Aside0.mk hb
      clear hb h
      have hl2 : (l0_1.length : Int) ≤ 8 := by omega
      go_enter Tryd.func18, Tryd.ntmps18
      go_wp2_with (go_at_call 33; refine (impl_isHidden.calls _ _ _ hT.out).mono ?_; rintro e w' ⟨rfl, nd, rfl⟩)
      refine (containsFunc_clue (impl_IsPuzzle_1.f a0_0) 35 #[.pointer (some ⟨w.heap.size, 0, none⟩)] eg A0_1 c0_1 l0_1 b _ ?_ hc0_1 ?_ hBB.out).mono ?_
      · exact Kd.C_below HR.out (pw_below_drewN ((Below.refl _ w).alloc (Nat.le_refl _) _) _)
      · exact impl_IsPuzzle_1.pred a0_0 undef _ _ (by go_simp)
      · rintro e w' ⟨rfl, hb⟩
        go_wp2
        go_ret
        exact ⟨rfl, (pw_below_drewN ((Below.refl _ w).alloc (Nat.le_refl _) _) nd).trans (hb.mono (by simp))⟩
    · rw [if_neg (by omega)] at h
      obtain rfl := Option.some.inj h
      have hl2 : ¬ (l0_1.length : Int) ≤ 8 := by omega
      go_enter Tryd.func18, Tryd.ntmps18
      go_wp2_with (go_at_call 33; refine (impl_isHidden.calls _ _ _ hT.out).mono ?_; rintro e w' ⟨rfl, nd, rfl⟩)
      go_ret
      exact ⟨rfl, pw_below_drewN ((Below.refl _ w).alloc (Nat.le_refl _) _) _⟩
def inB (n lo hi : Int) : Bool := decide (lo ≤ n) && decide (n ≤ hi)
theorem bind_ite_false {b : Bool} {x : Option Bool} {y : Bool} (h : b = true → x = some y) : (if b = true then x else some false) = some (b && y) := by
  cases b
  · rfl
  · simpa using h rfl
theorem shl_one (n : Int) (h : 0 ≤ n ∧ n ≤ 16) : shl .i64 1 n = 2 ^ n.toNat := by
  obtain ⟨m, rfl⟩ := Int.eq_ofNat_of_zero_le h.1
  have hm : m ≤ 16 := by omega
  have : ∀ m : Nat, m ≤ 16 → shl .i64 1 (m : Int) = 2 ^ (m : Int).toNat := by decide
  exact this m hm
theorem pow_le16 (n : Int) (h : 0 ≤ n ∧ n ≤ 16) : 1 ≤ (2 : Int) ^ n.toNat ∧ (2 : Int) ^ n.toNat ≤ 65536 := by
  obtain ⟨m, rfl⟩ := Int.eq_ofNat_of_zero_le h.1
  have hm : m ≤ 16 := by omega
  have : ∀ m : Nat, m ≤ 16 → 1 ≤ (2 : Int) ^ (m : Int).toNat ∧ (2 : Int) ^ (m : Int).toNat ≤ 65536 := by decide
  exact this m hm
theorem wrap64_id {x : Int} (h : -9223372036854775808 ≤ x ∧ x ≤ 9223372036854775807) : wrap64 x = x := by unfold wrap64; omega
theorem all_bits (n : Int) (h : 0 ≤ n ∧ n ≤ 16) : wrap64 (shl .i64 1 n - 1) = 2 ^ n.toNat - 1 := by
  rw [shl_one n h]
  have := pow_le16 n h
  exact wrap64_id (by omega)
theorem within_eq (n lo hi : Int) : impl_within.f n lo hi = some (inB n lo hi) := by
  unfold impl_within.f inB
  split <;> simp_all <;> omega
theorem l1In_eq (n lo hi : Int) : spec_l1In.f n lo hi = some (inB n lo hi) := by
  unfold spec_l1In.f inB
  split <;> simp_all <;> omega
theorem voAll_eq (n : Int) (h : 0 ≤ n ∧ n ≤ 16) : spec_voAll.f n = some (2 ^ n.toNat - 1) := by
  unfold spec_voAll.f
  rw [if_pos h.1, all_bits n h]
theorem isHidden_eq (n : Int) : impl_isHidden.f n = some (inB n 1 4) := by unfold impl_isHidden.f; rw [within_eq]; rfl
theorem pzMembers_eq (n : Int) : spec_pzMembers.f n = some (inB n 1 4) := by unfold spec_pzMembers.f; rw [l1In_eq]; rfl
theorem inB_iff {n lo hi : Int} : inB n lo hi = true ↔ lo ≤ n ∧ n ≤ hi := by unfold inB; simp
def clueOk (n k a b : Int) : Bool :=
  if k = 0 then inB a 0 (2 ^ n.toNat - 1) && inB b 0 1 else if k = 1 then inB a 1 15 && (b == 0) else if k = 2 then inB a 0 (n - 1) && inB b 0 1
  else if k = 3 then inB a 0 (n - 1) && inB b 0 8 else if k = 4 then inB a 0 1 && (b == 0) else if k = 5 then inB a 0 1 && (b == 0) else false
theorem pzClue_eq (n k a b : Int) (h : 1 ≤ n ∧ n ≤ 4) : spec_pzClue.f n k a b = some (clueOk n k a b) := by
  unfold spec_pzClue.f clueOk
  simp only [l1In_eq, voAll_eq n (by omega), Option.bind_some, wrap64_id (show -9223372036854775808 ≤ n - 1 ∧ n - 1 ≤ 9223372036854775807 by omega)]
  repeat' split
  all_goals simp_all
theorem IsClue_eq (n k a b : Int) : impl_IsClue.f n k a b = some (inB n 1 4 && clueOk n k a b) := by
  unfold impl_IsClue.f
  rw [isHidden_eq, Option.bind_some]
  refine bind_ite_false fun h => ?_
  have hn := inB_iff.1 h
  unfold clueOk
  simp only [within_eq, if_pos (show 0 ≤ n by omega), Option.bind_some, all_bits n (by omega), wrap64_id (show -9223372036854775808 ≤ n - 1 ∧ n - 1 ≤ 9223372036854775807 by omega)]
  repeat' split
  all_goals simp_all
theorem ev_pos {α : Type} {c : Prop} [Decidable c] {f g : Nat → Option α} {r : α} (h : c) (k : Ev f r) : Ev (fun n => if c then f n else g n) r := by
  simp only [if_pos h]; exact k
theorem ev_neg {α : Type} {c : Prop} [Decidable c] {f g : Nat → Option α} {r : α} (h : ¬ c) (k : Ev g r) : Ev (fun n => if c then f n else g n) r := by
  simp only [if_neg h]; exact k
theorem ev_succ {α : Type} {g : Nat → Option α} {r : α} (k : Ev (fun n => g (n + 1)) r) : Ev g r := Ev.step (fun _ => rfl) k
theorem ev_eqv {α : Type} {f : Nat → Option α} {r q : α} (h : Ev f r) (e : r = q) : Ev f q := e ▸ h
theorem ev_bool {α : Type} {c : Bool} {f g : Nat → Option α} {r : α} (h1 : c = true → Ev f r) (h2 : c = false → Ev g r) : Ev (fun n => if c = true then f n else g n) r := by
  cases c
  · simpa using h2 rfl
  · simpa using h1 rfl
theorem ev_uniq {α : Type} {f : Nat → Option α} {r q : α} (h : Ev f r) (h' : Ev f q) : r = q := by
  obtain ⟨K, h⟩ := h
  obtain ⟨K', h'⟩ := h'
  have := h (max K K') (by omega)
  rw [h' (max K K') (by omega)] at this
  exact (Option.some.inj this).symm
theorem wrap_succ {i : Nat} {n : Nat} (h : i < n) (hn : n ≤ 1152921504606846976) : wrap64 ((i : Int) + 1) = ((i + 1 : Nat) : Int) := by
  unfold wrap64; omega
end Go.Proofs.YtdoojmkndmpgdaaDoor.Q
end

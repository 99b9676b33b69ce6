/- Part 2 of the proof of FnChambersNeededOfAll: what it leans on (no condition). -/
import Derived.Test.YtodchjdgpnpdcaaGreatKFnChambersNeededOfAll1
import Derived.Test.YtodchjdgpnpdcaaGreatProg
import Derived.Lib.LazyBuf
import Derived.Deep.RegionLaw
import Derived.Lib.SliceRun
import Derived.Laws.CopyOwn
import Derived.Laws.Tables
import Derived.Shelf.GgClosure.Gives
section
namespace Go.Proofs.YtodchjdgpnpdcaaGreat.Q
open Go.RowKit Go.Proofs.YtodchjdgpnpdcaaGreatW.PrintWords Go.Proofs.YtodchjdgpnpdcaaGreatW.PrintLast Go.Proofs.YtodchjdgpnpdcaaGreatW.PrintMore
attribute [local go_sem] Xm Um Pp Qp ql yl Gm Mm
set_option linter.unusedVariables false
set_option linter.unusedSimpArgs false
set_option maxHeartbeats 8000000
set_option maxRecDepth 100000
theorem zB0 {α β : Type _} {x : Option α} {f : α → Option β} {b : β} (h : x.bind f = some b) : ∃ a, x = some a ∧ f a = some b := Option.bind_eq_some_iff.mp h
theorem zL0 {p : Prop} (h : p := by first | rfl | (simp [*, Ce, De] <;> rfl)) : p := h
def GN : Option Int → Value
 | none => .nilIface
 | some c => .iface 0 (.int .i64 c)
theorem Ce : GN none = .nilIface := rfl
theorem De (c : Int) : GN (some c) = .iface 0 (.int .i64 c) := rfl
theorem info3 : (Tryz.prog.info? 3).map (fun i => (i.zero, i.size, i.bytes)) = some (some (.int .i64 0), 1, 8) := by kernel_rfl
theorem SH : (Tryz.prog.info? 4).map (fun i => (i.zero, i.size, i.bytes)) = some (some (.bool false), 1, 1) := by kernel_rfl
theorem Oj : (Tryz.prog.info? 24).map (fun i => (i.zero, i.size, i.bytes)) = some (some (.agg #[(.int .i64 0), (.slice none 0 0)]), 2, 32) := by kernel_rfl
theorem Tj : (Tryz.prog.info? 35).map (fun i => (i.zero, i.size, i.bytes)) = some (some (.slice none 0 0), 1, 24) := by kernel_rfl
theorem Vy : (Tryz.prog.info? 40).map (fun i => (i.zero, i.size, i.bytes)) = some (some (.agg #[(.int .i64 0), (.slice none 0 0)]), 2, 32) := by kernel_rfl
theorem TB : (Tryz.prog.info? 62).map (fun i => (i.zero, i.size, i.bytes)) = some (some (.agg #[(.int .i64 0), (.slice none 0 0)]), 2, 32) := by kernel_rfl
def Bd (xs : List (List Int)) (i : Int) : (List Int) := xs.getD i.toNat ([] : List Int)
theorem qi {w : World} {A : Option Addr} {n : Nat} {xs : List (List Int)} (h : Kd.C (Kd.slice 3 (Kd.int .i64)) w A n xs) (i : Int) (h0 : 0 ≤ i) (h1 : i < n) : ∃ ad A0 c0, A = some ad ∧ w.cell? (ad.add i.toNat) = some (.slice A0 (Bd xs i).length c0) ∧ (Bd xs i).length ≤ c0 ∧ (Kd.int .i64).C w A0 (Bd xs i).length (Bd xs i) := by
 obtain ⟨ad, c, e, _, hK, hc0⟩ := Kd.C_get h ([] : List Int) i h0 h1;have hc : ∀ j u, c[j]? = some u → w.cell? (ad.add (i.toNat * 1 + j)) = some u := hc0;obtain ⟨A0, c0, rfl, l0, g0⟩ := hK;exact ⟨ad, A0, c0, e, by have hq := hc 0 _ rfl; rwa [Nat.mul_one, Nat.add_zero] at hq, l0, g0⟩
structure S62 where
 f0 : Int
 f1 : (List Bool)
def z62 : S62 := ⟨(0 : Int), ([] : List Bool)⟩
def k62 : Kd S62 := Kd.iso (Kd.pair (Kd.int .i64) (Kd.slice 4 Kd.bool)) (fun x : S62 => (x.f0, x.f1))
theorem Nt {w : World} {x : S62} {cs : List Value} (h : k62.K w x cs) : ∃ A1 c1, cs = [.int .i64 x.f0, .slice A1 x.f1.length c1] ∧ x.f1.length ≤ c1 ∧ Kd.bool.C w A1 x.f1.length x.f1 := by
 obtain ⟨_, _, rfl, rfl, ⟨A1, c1, rfl, l1, g1⟩⟩ := h;exact ⟨A1, c1, rfl, l1, g1⟩
theorem BB {w : World} {base : Nat} {ok : Nat → Prop} {x : S62} {cs : List Value} (h : k62.M w base ok x cs) : ∃ v1, cs = [.int .i64 x.f0, v1] ∧ Kd.bool.R 4 w base ok v1 x.f1 := by
 obtain ⟨_, _, rfl, rfl, ⟨v1, rfl, g1⟩⟩ := h;exact ⟨v1, rfl, g1⟩
theorem TK (w : World) (x : S62) {A1 : Option Addr} {c1 : Nat} (l1 : x.f1.length ≤ c1) (g1 : Kd.bool.C w A1 x.f1.length x.f1) : k62.K w x [.int .i64 x.f0, .slice A1 x.f1.length c1] := ⟨[.int .i64 x.f0], [.slice A1 x.f1.length c1], rfl, rfl, ⟨A1, c1, rfl, l1, g1⟩⟩
theorem qI (w : World) (base : Nat) (ok : Nat → Prop) (x : S62) {v1 : Value} (g1 : Kd.bool.R 4 w base ok v1 x.f1) : k62.M w base ok x [.int .i64 x.f0, v1] := ⟨[.int .i64 x.f0], [v1], rfl, rfl, ⟨v1, rfl, g1⟩⟩
theorem Iu {W : World} {ok : Nat → Prop} {x : S62} {cs : List Value} (h : Kd.FK k62 W ok x cs) : ∃ A1 c1, cs = [.int .i64 x.f0, .slice A1 x.f1.length c1] ∧ x.f1.length ≤ c1 ∧ Kd.F Kd.bool W ok A1 x.f1.length x.f1 := by
 obtain ⟨A1, c1, rfl, l1, _⟩ := Nt (Kd.FK_now h);exact ⟨A1, c1, rfl, l1, (fun W' hW => by obtain ⟨A1_, c1_, he, l1_, g1_⟩ := Nt (h W' hW); injection (Option.some.inj (show some (Value.slice A1 x.f1.length c1) = some (Value.slice A1_ x.f1.length c1_) from congrArg (fun l => l[1]?) he)) with ha_ _ _; rw [ha_]; exact g1_)⟩
theorem yI (W : World) (ok : Nat → Prop) (x : S62) {A1 : Option Addr} {c1 : Nat} (l1 : x.f1.length ≤ c1) (g1 : Kd.F Kd.bool W ok A1 x.f1.length x.f1) : Kd.FK k62 W ok x [.int .i64 x.f0, .slice A1 x.f1.length c1] := fun W2 hW => TK W2 x l1 (g1 W2 hW)
def Oe (xs : List S62) (i : Int) : S62 := xs.getD i.toNat z62
theorem CB {w : World} {A : Option Addr} {n : Nat} {xs : List S62} (h : Kd.C k62 w A n xs) (i : Int) (h0 : 0 ≤ i) (h1 : i < n) : ∃ ad A1 c1, A = some ad ∧ w.cell? (ad.add (i.toNat * 2)) = some (.int .i64 (Oe xs i).f0) ∧ w.cell? ⟨(ad.add (i.toNat * 2)).block, (ad.add (i.toNat * 2)).off + 1, none⟩ = some (.slice A1 (Oe xs i).f1.length c1) ∧ (Oe xs i).f1.length ≤ c1 ∧ Kd.bool.C w A1 (Oe xs i).f1.length (Oe xs i).f1 := by
 obtain ⟨ad, c, e, _, hK, hc0⟩ := Kd.C_get h z62 i h0 h1;have hc : ∀ j u, c[j]? = some u → w.cell? (ad.add (i.toNat * 2 + j)) = some u := hc0;obtain ⟨A1, c1, rfl, l1, g1⟩ := Nt hK;exact ⟨ad, A1, c1, e, hc 0 _ rfl, by rw [← Vh _ _ 1 (by omega)]; exact hc 1 _ rfl, l1, g1⟩
structure S24 where
 f0 : Int
 f1 : (List (List Int))
def z24 : S24 := ⟨(0 : Int), ([] : List (List Int))⟩
def k24 : Kd S24 := Kd.iso (Kd.pair (Kd.int .i64) (Kd.slice 35 (Kd.slice 3 (Kd.int .i64)))) (fun x : S24 => (x.f0, x.f1))
theorem Mt {w : World} {x : S24} {cs : List Value} (h : k24.K w x cs) : ∃ A1 c1, cs = [.int .i64 x.f0, .slice A1 x.f1.length c1] ∧ x.f1.length ≤ c1 ∧ (Kd.slice 3 (Kd.int .i64)).C w A1 x.f1.length x.f1 := by
 obtain ⟨_, _, rfl, rfl, ⟨A1, c1, rfl, l1, g1⟩⟩ := h;exact ⟨A1, c1, rfl, l1, g1⟩
theorem EB {w : World} {base : Nat} {ok : Nat → Prop} {x : S24} {cs : List Value} (h : k24.M w base ok x cs) : ∃ v1, cs = [.int .i64 x.f0, v1] ∧ (Kd.slice 3 (Kd.int .i64)).R 35 w base ok v1 x.f1 := by
 obtain ⟨_, _, rfl, rfl, ⟨v1, rfl, g1⟩⟩ := h;exact ⟨v1, rfl, g1⟩
theorem BK (w : World) (x : S24) {A1 : Option Addr} {c1 : Nat} (l1 : x.f1.length ≤ c1) (g1 : (Kd.slice 3 (Kd.int .i64)).C w A1 x.f1.length x.f1) : k24.K w x [.int .i64 x.f0, .slice A1 x.f1.length c1] := ⟨[.int .i64 x.f0], [.slice A1 x.f1.length c1], rfl, rfl, ⟨A1, c1, rfl, l1, g1⟩⟩
theorem FB (w : World) (base : Nat) (ok : Nat → Prop) (x : S24) {v1 : Value} (g1 : (Kd.slice 3 (Kd.int .i64)).R 35 w base ok v1 x.f1) : k24.M w base ok x [.int .i64 x.f0, v1] := ⟨[.int .i64 x.f0], [v1], rfl, rfl, ⟨v1, rfl, g1⟩⟩
theorem Yl {W : World} {ok : Nat → Prop} {x : S24} {cs : List Value} (h : Kd.FK k24 W ok x cs) : ∃ A1 c1, cs = [.int .i64 x.f0, .slice A1 x.f1.length c1] ∧ x.f1.length ≤ c1 ∧ Kd.F (Kd.slice 3 (Kd.int .i64)) W ok A1 x.f1.length x.f1 := by
 obtain ⟨A1, c1, rfl, l1, _⟩ := Mt (Kd.FK_now h);exact ⟨A1, c1, rfl, l1, (fun W' hW => by obtain ⟨A1_, c1_, he, l1_, g1_⟩ := Mt (h W' hW); injection (Option.some.inj (show some (Value.slice A1 x.f1.length c1) = some (Value.slice A1_ x.f1.length c1_) from congrArg (fun l => l[1]?) he)) with ha_ _ _; rw [ha_]; exact g1_)⟩
theorem YI (W : World) (ok : Nat → Prop) (x : S24) {A1 : Option Addr} {c1 : Nat} (l1 : x.f1.length ≤ c1) (g1 : Kd.F (Kd.slice 3 (Kd.int .i64)) W ok A1 x.f1.length x.f1) : Kd.FK k24 W ok x [.int .i64 x.f0, .slice A1 x.f1.length c1] := fun W2 hW => BK W2 x l1 (g1 W2 hW)
def Pf (xs : List S24) (i : Int) : S24 := xs.getD i.toNat z24
theorem CK {w : World} {A : Option Addr} {n : Nat} {xs : List S24} (h : Kd.C k24 w A n xs) (i : Int) (h0 : 0 ≤ i) (h1 : i < n) : ∃ ad A1 c1, A = some ad ∧ w.cell? (ad.add (i.toNat * 2)) = some (.int .i64 (Pf xs i).f0) ∧ w.cell? ⟨(ad.add (i.toNat * 2)).block, (ad.add (i.toNat * 2)).off + 1, none⟩ = some (.slice A1 (Pf xs i).f1.length c1) ∧ (Pf xs i).f1.length ≤ c1 ∧ (Kd.slice 3 (Kd.int .i64)).C w A1 (Pf xs i).f1.length (Pf xs i).f1 := by
 obtain ⟨ad, c, e, _, hK, hc0⟩ := Kd.C_get h z24 i h0 h1;have hc : ∀ j u, c[j]? = some u → w.cell? (ad.add (i.toNat * 2 + j)) = some u := hc0;obtain ⟨A1, c1, rfl, l1, g1⟩ := Mt hK;exact ⟨ad, A1, c1, e, hc 0 _ rfl, by rw [← Vh _ _ 1 (by omega)]; exact hc 1 _ rfl, l1, g1⟩
structure S40 where
 f0 : Int
 f1 : (List Int)
def z40 : S40 := ⟨(0 : Int), ([] : List Int)⟩
def k40 : Kd S40 := Kd.iso (Kd.pair (Kd.int .i64) (Kd.slice 3 (Kd.int .i64))) (fun x : S40 => (x.f0, x.f1))
theorem CE {w : World} {x : S40} {cs : List Value} (h : k40.K w x cs) : ∃ A1 c1, cs = [.int .i64 x.f0, .slice A1 x.f1.length c1] ∧ x.f1.length ≤ c1 ∧ (Kd.int .i64).C w A1 x.f1.length x.f1 := by
 obtain ⟨_, _, rfl, rfl, ⟨A1, c1, rfl, l1, g1⟩⟩ := h;exact ⟨A1, c1, rfl, l1, g1⟩
theorem IB {w : World} {base : Nat} {ok : Nat → Prop} {x : S40} {cs : List Value} (h : k40.M w base ok x cs) : ∃ v1, cs = [.int .i64 x.f0, v1] ∧ (Kd.int .i64).R 3 w base ok v1 x.f1 := by
 obtain ⟨_, _, rfl, rfl, ⟨v1, rfl, g1⟩⟩ := h;exact ⟨v1, rfl, g1⟩
theorem LB (w : World) (base : Nat) (ok : Nat → Prop) (x : S40) {v1 : Value} (g1 : (Kd.int .i64).R 3 w base ok v1 x.f1) : k40.M w base ok x [.int .i64 x.f0, v1] := ⟨[.int .i64 x.f0], [v1], rfl, rfl, ⟨v1, rfl, g1⟩⟩
def yc (xs : List S40) (i : Int) : S40 := xs.getD i.toNat z40
theorem Jo {w : World} {A : Option Addr} {n : Nat} {xs : List S40} (h : Kd.C k40 w A n xs) (i : Int) (h0 : 0 ≤ i) (h1 : i < n) : ∃ ad A1 c1, A = some ad ∧ w.cell? (ad.add (i.toNat * 2)) = some (.int .i64 (yc xs i).f0) ∧ w.cell? ⟨(ad.add (i.toNat * 2)).block, (ad.add (i.toNat * 2)).off + 1, none⟩ = some (.slice A1 (yc xs i).f1.length c1) ∧ (yc xs i).f1.length ≤ c1 ∧ (Kd.int .i64).C w A1 (yc xs i).f1.length (yc xs i).f1 := by
 obtain ⟨ad, c, e, _, hK, hc0⟩ := Kd.C_get h z40 i h0 h1;have hc : ∀ j u, c[j]? = some u → w.cell? (ad.add (i.toNat * 2 + j)) = some u := hc0;obtain ⟨A1, c1, rfl, l1, g1⟩ := CE hK;exact ⟨ad, A1, c1, e, hc 0 _ rfl, by rw [← Vh _ _ 1 (by omega)]; exact hc 1 _ rfl, l1, g1⟩
structure NN where
 f0 : Int
 f1 : Int
 f2 : Int
structure S45 where
 f0 : Int
 f1 : (List NN)
def z45 : S45 := ⟨(0 : Int), ([] : List NN)⟩
theorem zd {w : World} {a b : Nat} : (w.drewN a).drewN b = w.drewN (a + b) := World.drewN_drewN _ _ _
theorem ze {w : World} {a b c : Nat} : (w.drewN (a + b)).drewN c = w.drewN (a + (b + c)) := Eq.trans (World.drewN_drewN _ _ _) (congrArg (World.drewN _) (Nat.add_assoc _ _ _))
theorem zb {P Q : Prop} (h : P) (f : P → Q := by intro h_; (with_reducible repeat (first | refine Ca ?_ _ | refine Ra ?_ | refine Qa ?_ _)); exact h_) : Q := f h
theorem zr {P Q : Prop} (h : P) (f : P → Q := by intro h_; (with_reducible repeat (first | apply Kd.R_alloc | apply Kd.R_drewN | apply Kd.R_drew)); exact h_) : Q := f h
theorem zh {P Q : Prop} (h : P) (f : P → Q := by intro h_; repeat (first | (with_reducible first | exact h_ | apply Yf | apply Mf | apply Ud | refine Re ?_ (qa.out (by with_reducible assumption))) | exact h_)) : Q := f h
def tb (n m : Nat) : Array Bool := ((List.range n).map fun i => m >>> i % 2 == 1).toArray
theorem zu {P : Program} {md : Region.Mode} {ops : Array Oper} {Q : Exit → Act → World → Prop} {S : World → Prop} {ds : List Nat} {T : _} {i : Nat} {N : Option Tmp} {oi : Oper} {v : Value} {fuel : Nat} {l : Array Bool} {a : Act} {w : World} (l' : Array Bool) (hi : ops[i]? = some oi) (hN : oi.dst = N) (HT : qa (ym md ops = T)) {a' : Act}
 (h : Yc P md ops Q S ds fuel l' a' w) (hc : UM T l.toList l'.toList i = true := by kernel_rfl) (hQ : ∀ c a w, Q (.panic c) (a.put oi.dst v) w → Q (.panic c) a w := by exact fun _ _ _ h => h) (hy : Yields P ops oi v a := by refine Or.inl ⟨by rfl, ?_⟩; intro w'; go_simp; with_reducible rfl)
 (ha : a.put N v = a' := by simp only [Act.put, List.setIfInBounds_toArray, List.set_cons_zero, List.set_cons_succ, Ff, Jh]; rfl) : Yc P md ops Q S ds (fuel + 1) l a w := Yt l' hi hN (CG HT.out hc) hQ hy ha h
theorem zv {P : Program} {md : Region.Mode} {ops : Array Oper} {Q : Exit → Act → World → Prop} {S : World → Prop} {ds : List Nat} {T : _} {i : Nat} {N : Option Tmp} {oi : Oper} {fuel : Nat} {l : Array Bool} {a : Act} {w : World} (l' : Array Bool) (hi : ops[i]? = some oi) (hN : oi.dst = N) (HT : qa (ym md ops = T)) {a' : Act}
 (h : Yc P md ops Q S ds fuel l' a' w) (hc : UM T l.toList l'.toList i = true := by kernel_rfl) (hQ : ∀ c a w, Q (.panic c) (a.put oi.dst undef) w → Q (.panic c) a w := by exact fun _ _ _ h => h) (hy : Yields P ops oi undef a := by exact Or.inr ⟨by rfl, rfl⟩)
 (ha : a.put N undef = a' := by simp only [Act.put, List.setIfInBounds_toArray, List.set_cons_zero, List.set_cons_succ, Ff, Jh]; rfl) : Yc P md ops Q S ds (fuel + 1) l a w := Yt l' hi hN (CG HT.out hc) hQ hy ha h
theorem zk {p : Prop} [Decidable p] (h : decide p = true := by first | (with_reducible assumption) | assumption) : p := of_decide_eq_true h
theorem zc {P Q : Prop} (h : P) (f : P → Q := by intro h_; iterate 9 (try (first | exact h_ | (with_reducible refine Kd.C_alloc ?_ _) | (with_reducible refine Kd.C_drewN ?_ _) | (with_reducible refine Kd.C_drew ?_)))) : Q := f h
theorem zx {w W : World} {a : Addr} {v : Value} (hb : Below w.heap.size w W) (h : w.cell? a = some v) : W.cell? a = some v := (hb.cell (World.block_lt_of_cell? w _ h)).trans h
theorem zl {P : Program} {ops : Array Oper} {Q : Exit → Act → World → Prop} {rest : List Oper} {oi : Oper} {a : Act} {w : World} (N : Tmp) {f : FuncId} {fn : Func} {os_ : Array Operand} {ts : Array TypeId} (hf : P.funcs[f]? = some fn) (args : Array Value) (h : Calls P f args w fun e w' => ∃ v, e = .returned v ∧ wpList P ops Q rest (a.put (some N) v) w') (hd : oi.dst = some N := by rfl) (hg : oi.guard = none := by rfl) (hname : (fn.name == "runtime.NumGoroutine") = false := by kernel_rfl) (hb : fn.body.isSome = true := by rfl)
 (hop : oi.op = .call { callee := .value (.func f), args := os_, argTypes := ts } := by rfl) (hargs : os_.map a.eval = args := by (try simp only [List.map_toArray, List.map_cons, List.map_nil]); first | done | rfl | (simp only [List.length_drop, List.length_take]; rfl)) : wpList P ops Q (oi :: rest) a w := YB (some N) hd hg hf hname hb args hop hargs h
theorem zt {P : Program} {md : Region.Mode} {ops : Array Oper} {Q : Exit → Act → World → Prop} {S : World → Prop} {ds : List Nat} {i : Nat} {N : Option Tmp} {oi : Oper} {v : Value} {fuel : Nat} {l : Array Bool} {a : Act} {w : World} (l' : Array Bool) (hi : ops[i]? = some oi) (hN : oi.dst = N) (hc : takeB md ops ds l l' i = true) (hS : S w) {a' : Act} (h : Yc P md ops Q S ds fuel l' a' w)
 (hQ : ∀ c a w, Q (.panic c) (a.put oi.dst v) w → Q (.panic c) a w := by exact fun _ _ _ h => h) (hy : YieldsIf P ops S oi v a := by refine Or.inl ⟨by rfl, ?_⟩; intro w' hs_; (try simp only [and_imp] at hs_); (repeat (cases hs_; rename_i hs_)); go_simp; with_reducible rfl) (ha : a.put N v = a' := by simp only [Act.put, List.setIfInBounds_toArray, List.set_cons_zero, List.set_cons_succ, Ff, Jh]; rfl) : Yc P md ops Q S ds (fuel + 1) l a w := take_ l' hi hN hc hQ hy hS ha h
theorem zq {P : Program} {ops : Array Oper} {Q : Exit → Act → World → Prop} {rest : List Oper} {o : Oper} {a : Act} {W : World} (N : Tmp) (cs : Array Value) (t : TypeId) (h : ∀ g, g = W.heap.size → ∀ w1, w1.heap[g]? = some (.cells cs t (0, 0)) → Below W.heap.size W w1 → wpList P ops Q rest (a.put o.dst (.pointer (some ⟨g, 0, none⟩))) w1) (hgd : o.guard = none := by rfl) (hd : o.dst = some N := by rfl)
 (hrun : (execOp a.eval o).run P W = .ok (.value (.pointer (some ⟨W.heap.size, 0, none⟩))) (W.alloc (.cells cs t (0, 0))) := by first | (go_simp; done) | (go_simp; rfl)) : wpList P ops Q (o :: rest) a W := Bg hgd hd hrun h
theorem za1 {P : Prop} {w w' : World} (h1 : P := by first | rfl | (simp; done) | (simp [*]; done)) (h2 : Jd w w' := by repeat (first | exact Jd.refl _ | apply Jd.step)) : P ∧ Jd w w' := ⟨h1, h2⟩
theorem zp1 {P : Program} {md : Region.Mode} {ops : Array Oper} {Q : Exit → Act → World → Prop} {S : World → Prop} {ds : List Nat} {i : Nat} {N : Option Tmp} {oi : Oper} {v : Value} {fuel : Nat} {l : Array Bool} {a : Act} {w : World} (l' : Array Bool) (hi : ops[i]? = some oi) (hN : oi.dst = N) (hc : JK md ops l l' i = true) {a' : Act} (h : Yc P md ops Q S ds fuel l' a' w)
 (hQ : ∀ c a w, Q (.panic c) (a.put oi.dst v) w → Q (.panic c) a w := by exact fun _ _ _ h => h) (hy : Yields P ops oi v a := by refine Or.inl ⟨by rfl, ?_⟩; intro w'; go_simp; with_reducible rfl) (ha : a.put N v = a' := by simp only [Act.put, List.setIfInBounds_toArray, List.set_cons_zero, List.set_cons_succ, Ff, Jh]; rfl) : Yc P md ops Q S ds (fuel + 1) l a w := Yt l' hi hN hc hQ hy ha h
theorem zn1 {P : Program} {md : Region.Mode} {ops : Array Oper} {Q : Exit → Act → World → Prop} {S : World → Prop} {ds : List Nat} {fuel : Nat} {l : Array Bool} {a a' : Act} {w : World} (h : Yc P md ops Q S ds fuel l a' w) (ha : a = a' := by show Act.put _ (some _) _ = _; simp only [Act.put, List.setIfInBounds_toArray, List.set_cons_zero, List.set_cons_succ, Ff, Jh]; rfl) : Yc P md ops Q S ds fuel l a w := Co ha h
theorem zf1 {P Q N : Prop} (h : P) (n : N) (f : P → N → Q := by intro h_ n_; (with_reducible repeat (first | refine Ca ?_ _ | refine Ra ?_ | refine Qa ?_ _)); refine Nh ?_ n_ _; (with_reducible repeat (first | refine Ca ?_ _ | refine Ra ?_ | refine Qa ?_ _)); exact h_) : Q := f h n
theorem zf2 {P Q N M : Prop} (h : P) (n : N) (m : M) (f : P → N → M → Q := by intro h_ n_ m_; (with_reducible repeat (first | refine Ca ?_ _ | refine Ra ?_ | refine Qa ?_ _)); refine Nh ?_ n_ _; (with_reducible repeat (first | refine Ca ?_ _ | refine Ra ?_ | refine Qa ?_ _)); refine Nh ?_ m_ _; (with_reducible repeat (first | refine Ca ?_ _ | refine Ra ?_ | refine Qa ?_ _)); exact h_) : Q := f h n m
theorem zf3 {P Q N M K : Prop} (h : P) (n : N) (m : M) (k : K) (f : P → N → M → K → Q := by intro h_ n_ m_ k_; (with_reducible repeat (first | refine Ca ?_ _ | refine Ra ?_ | refine Qa ?_ _)); refine Nh ?_ n_ _; (with_reducible repeat (first | refine Ca ?_ _ | refine Ra ?_ | refine Qa ?_ _)); refine Nh ?_ m_ _; (with_reducible repeat (first | refine Ca ?_ _ | refine Ra ?_ | refine Qa ?_ _)); refine Nh ?_ k_ _; (with_reducible repeat (first | refine Ca ?_ _ | refine Ra ?_ | refine Qa ?_ _)); exact h_) : Q := f h n m k
theorem zF : ¬ (false = true) := by decide
theorem zE {p : Prop} (h : p := by first | rfl | (simp; done) | (simp [*]; done)) : p := h
theorem zO {p q : Prop} (h : qa q) (f : q → p := by intro h_; omega) : qa p := ⟨f h.out⟩
theorem zO2 {p q r : Prop} (h : qa q) (h2 : qa r) (f : q → r → p := by intro h_ h2_; omega) : qa p := ⟨f h.out h2.out⟩
theorem zD {w w' : World} (h : Jd w w' := by repeat (first | exact Jd.refl _ | apply Jd.step)) : Jd w w' := h
theorem zS {P Q : Prop} (h : P) (f : P → Q := by intro h_; (with_reducible repeat (first | apply Kd.S_alloc | apply Kd.S_drewN | apply Kd.S_drew)); exact h_) : Q := f h
theorem zY {α β : Type _} {E : α} {f : α → Option β} {r : Option β} (h : (some E).bind f = r) : ∃ y, qa (y = E) ∧ f y = r := ⟨E, ⟨rfl⟩, h⟩
theorem zW {p q R : Prop} (f : p → q → R) [Decidable p] [Decidable q] (hp : decide p = true := by first | (with_reducible assumption) | assumption) (hq : decide q = true := by first | (with_reducible assumption) | assumption) : R ∧ (p = True) ∧ (q = True) := ⟨f (of_decide_eq_true hp) (of_decide_eq_true hq), eq_true (of_decide_eq_true hp), eq_true (of_decide_eq_true hq)⟩
theorem zG {g : Nat} {w0 w1 W : World} (hg : g = W.heap.size) (h : qa (Below w0.heap.size w0 w1)) (f : Below w0.heap.size w0 w1 → Below w0.heap.size w0 W := by intro h_; repeat (first | (with_reducible first | exact h_ | apply Yf | apply Mf | apply Ud | refine Re ?_ (qa.out (by with_reducible assumption))) | exact h_)) : qa (w0.heap.size ≤ g) := ⟨by rw [hg]; exact Ua (f h.out)⟩
theorem zH {w0 w1 W W2 : World} (hb : Below W.heap.size W W2) (h : qa (Below w0.heap.size w0 w1)) (f : Below w0.heap.size w0 w1 → Below w0.heap.size w0 W := by intro h_; repeat (first | (with_reducible first | exact h_ | apply Yf | apply Mf | apply Ud | refine Re ?_ (qa.out (by with_reducible assumption))) | exact h_)) : qa (Below w0.heap.size w0 W2) := ⟨Rc (f h.out) hb⟩
theorem zK {w1 W W2 : World} {g : Nat} {o : Obj} (h : qa (w1.heap[g]? = some o)) (hb : Below W.heap.size W W2) (f : w1.heap[g]? = some o → W.heap[g]? = some o := by intro h_; (with_reducible repeat (first | refine Ca ?_ _ | refine Ra ?_ | refine Qa ?_ _)); exact h_) : qa (W2.heap[g]? = some o) := ⟨Na (f h.out) hb⟩
theorem zNa {w1 W : World} {g n : Nat} {o : Obj} (hg : n = W.heap.size) (h : qa (w1.heap[g]? = some o)) (f : w1.heap[g]? = some o → W.heap[g]? = some o := by intro h_; (with_reducible repeat (first | refine Ca ?_ _ | refine Ra ?_ | refine Qa ?_ _)); exact h_) : qa (g ≠ n) := ⟨by rw [hg]; exact Nat.ne_of_lt (Lf (f h.out))⟩
theorem zNb {w1 W : World} {g n : Nat} {o : Obj} (hg : n = W.heap.size) (h : qa (w1.heap[g]? = some o)) (f : w1.heap[g]? = some o → W.heap[g]? = some o := by intro h_; (with_reducible repeat (first | refine Ca ?_ _ | refine Ra ?_ | refine Qa ?_ _)); exact h_) : qa (n ≠ g) := ⟨by rw [hg]; exact Nat.ne_of_gt (Lf (f h.out))⟩
theorem zC1 {w : World} {g : Nat} {t : TypeId} {a : Value} (h : qa (w.heap[g]? = some (.cells #[a] t (0, 0)))) : w.cell? ⟨g, 0, none⟩ = some a ∧ w.frozen? ⟨g, 0, none⟩ = false := ⟨(Ya h.out 0).trans rfl, Ea h.out 0⟩
theorem zC2 {w : World} {g : Nat} {t : TypeId} {a b : Value} (h : qa (w.heap[g]? = some (.cells #[a, b] t (0, 0)))) : w.cell? ⟨g, 0, none⟩ = some a ∧ w.cell? ⟨g, 1, none⟩ = some b ∧ w.frozen? ⟨g, 0, none⟩ = false ∧ w.frozen? ⟨g, 1, none⟩ = false := ⟨(Ya h.out 0).trans rfl, (Ya h.out 1).trans rfl, Ea h.out 0, Ea h.out 1⟩
theorem zC3 {w : World} {g : Nat} {t : TypeId} {a b c : Value} (h : qa (w.heap[g]? = some (.cells #[a, b, c] t (0, 0)))) : w.cell? ⟨g, 0, none⟩ = some a ∧ w.cell? ⟨g, 1, none⟩ = some b ∧ w.cell? ⟨g, 2, none⟩ = some c ∧ w.frozen? ⟨g, 0, none⟩ = false ∧ w.frozen? ⟨g, 1, none⟩ = false ∧ w.frozen? ⟨g, 2, none⟩ = false := ⟨(Ya h.out 0).trans rfl, (Ya h.out 1).trans rfl, (Ya h.out 2).trans rfl, Ea h.out 0, Ea h.out 1, Ea h.out 2⟩
theorem zQ {α : Type} {d : Kd α} {w W : World} {A : Option Addr} {n : Nat} {xs : List α} (h : d.C w A n xs) (f : d.C w A n xs → d.C W A n xs := by intro h_; repeat (first | exact h_ | (with_reducible refine Kd.C_alloc ?_ _) | (with_reducible refine Kd.C_drewN ?_ _) | (with_reducible refine Kd.C_drew ?_))) : d.C W A n xs := f h
theorem zI {x y j : Int} (h : shr .i64 x y = j) : x / 2 ^ min y.toNat 64 = j ∧ (y ≤ 64 → x / 2 ^ y.toNat = j) := ⟨h, RB h⟩
theorem zJ {x y j : Int} (h : shl .i64 x y = j) : IntKind.i64.wrap (x * 2 ^ min y.toNat 64) = j ∧ (y ≤ 64 → IntKind.i64.wrap (x * 2 ^ y.toNat) = j) ∧ wrap64 (x * 2 ^ min y.toNat 64) = j ∧ (y ≤ 64 → wrap64 (x * 2 ^ y.toNat) = j) := ⟨h, Pm h, (Ff _).symm.trans h, fun h_ => (Ff _).symm.trans (Pm h h_)⟩
theorem zJ1 {y j : Int} (h : shl .i64 1 y = j) : IntKind.i64.wrap (1 * 2 ^ min y.toNat 64) = j ∧ (y ≤ 64 → IntKind.i64.wrap (1 * 2 ^ y.toNat) = j) ∧ IntKind.i64.wrap (2 ^ min y.toNat 64) = j ∧ (y ≤ 64 → IntKind.i64.wrap (2 ^ y.toNat) = j) ∧ wrap64 (1 * 2 ^ min y.toNat 64) = j ∧ (y ≤ 64 → wrap64 (1 * 2 ^ y.toNat) = j) := ⟨(zJ h).1, (zJ h).2.1, by have h_ := (zJ h).1; rw [Int.one_mul] at h_; exact h_, fun hl => by have h_ := (zJ h).2.1 hl; rw [Int.one_mul] at h_; exact h_, (zJ h).2.2.1, (zJ h).2.2.2⟩
theorem Rw (n : Int) : 0 ≤ IntKind.u64.wrap n := by unfold IntKind.wrap; simp [IntKind.signed]; exact Int.emod_nonneg _ (by decide)
def Sg.f (l0 : List S40) : Option (List S40) := if l0.length < 4398046511104 then some l0 else none
theorem JI.calls (A : Option Addr) (ad : Addr) (eA : A = some ad) (c0 n : Nat) (l0 : List (List Value)) (hn : l0.length = n) (w : World) (hr0 : Kd.C (Kd.raw 2) w A n l0) (hc0 : l0.length ≤ c0) (hl : l0.length < 4398046511104) :
 Calls Tryz.prog 40 #[.slice A n c0] w fun e w' => ∃ v0_ : Value, e = .returned (v0_) ∧ Kd.R (Kd.raw 2) 40 w' w.heap.size (fun _ => True) v0_ l0 ∧ Below w.heap.size w w' := by
 subst hn eA;have he : ∀ w, (binOp .eql 25 (.slice (some ad) l0.length c0) (.slice none 0 0)).run Tryz.prog w = .ok (.bool (some ad).isNone) w := fun w => run_eql_slice_nil w 25 40 (some ad) _ _ Tryz.underlying25;have HL := qa.mk hl;have HR := qa.mk hr0;clear hl hr0;go_enter Tryz.func40, Tryz.ntmps40;go_wp2_with (first | ((with_reducible refine Ma (N := 5) rfl ?_); refine Kd.R_lit (Kd.raw 2) (w0 := w) w.heap.size 40 ?hg (N := 5) ?hd (xs := ([] : List (List Value))) (inner := []) (ok := fun _ => True) (okp := fun _ => True) ?hr ?hp (fun _ hk => hk) trivial (Below.refl _ _) (Nat.le_refl _) (by simp) ?_; (case hd => rfl); (case hg => rfl); (case hr => first | (go_simp; done) | (go_simp; rfl)); (case hp => exact (qg.none _ _)); intro v5 w2 ho hb hg_ hnew_; clear hg_ hnew_; have HO := qa.mk ho; have HB := qa.mk hb; clear ho hb) | ((with_reducible refine Uc (b := .append) (xs := #[.tmp 5, .tmp 6]) rfl ?_); refine Kd.R_append_rows (Kd.raw 2) (Rr := (Kd.raw 2).K w2) (w0 := w) w.heap.size rfl (.tmp 5) (.tmp 6) 25 40 (.agg #[(.int .i64 0), (.slice none 0 0)]) 32 rfl Tryz.underlying25 Vy rfl (by decide) (by omega) v5 [] l0 (some ad) l0.length c0 (fun _ => True) (fun _ => False) rfl rfl ?aO ?aR ?aK (fun _ hk => hk.elim) (fun _ _ => trivial) HB.out HB.out.size ?aL ?_; (case aO => exact HO.out); (case aR => exact Kd.C_below HR.out HB.out); (case aK => exact fun x cs hx => hx); (case aL => have := HL.out; simp; omega); intro v7 w3 ho2 hb2 hg2 hat2; clear hg2 hat2; have HO2 := qa.mk ho2; have HB2 := qa.mk hb2; clear ho2 hb2));refine bodyPost_ret (v := v7) (by simp [results, Tryz.results40, go_sem]) rfl ?_;exact ⟨_, rfl, by simpa using HO2.out, HB2.out⟩
def Tg.f (l0 : List S40) (a1 a2 : Int) : Option (List S40) := if 0 ≤ a1 ∧ a1 < (l0.length : Int) ∧ a2 = a1 + 1 then some (l0.eraseIdx a1.toNat) else none
theorem Ku {P : Program} {ops : Array Oper} {o : Oper} {a : Act} {w : World} {K : Act → World → Prop} {Q : Exit → Act → World → Prop} {E : Prop}
 (hg : o.guard = none) (s x : Operand) (t : TypeId) (hop : o.op = Op.call { callee := Callee.builtin Builtin.append, args := #[s, x], argTypes := #[t, t] })
 (e : TypeId) (i : TypeInfo) (size : Nat) (h1 : P.underlying t = some (.slice e)) (h2 : P.info? e = some i) (h4 : i.size = size)
 (b n cap : Nat) (cur : Array Value) (hb : w.heap[b]? = some (.cells cur e (0, 0))) (hs : a.eval s = .slice (some ⟨b, 0, none⟩) n cap)
 (ad : Addr) (m c : Nat) (news : List Value) (hx : a.eval x = .slice (some ad) m c) (hn : news.length = m * size) (hc : ∀ j u, news[j]? = some u → w.cell? (ad.add j) = some u) (h1c : ∀ u ∈ news, u.oneCell' = true)
 (hroom : n + m ≤ cap) (hfit : n * size + news.length ≤ cur.size)
 (hK : K (a.put o.dst (.slice (some ⟨b, 0, none⟩) (n + m) cap)) (w.setRow b (cur.toList.take (n * size) ++ news ++ cur.toList.drop (n * size + news.length)).toArray)) :
 if Region.wanted o (yielded ops a.tmps) = true then Oper.wp P o a w K Q else E := by
 have hw : Region.wanted o (yielded ops a.tmps) = true := by simp [Region.wanted, hg]
 rw [if_pos hw];subst h4;have hrun := run_append_room (P := P) w t o.type e i h1 h2 b n cap cur hb ad m c news hn hc h1c hroom hfit;unfold Oper.wp;simp [execOp, hop, resolve, invoke, builtin, hs, hx, hrun, Result.andThen];rw [List.append_assoc] at hK;exact hK
theorem Pt {P : Program} (w : World) (t e ty : TypeId) (z : Value) (zs : List Value) (ht : P.underlying t = some (.slice e)) (hv : ∀ w, (zeroValue e).run P w = .ok z w) (hz : (Builtin.zeroCells z.cells 1).toList = zs) (h1 : ∀ u ∈ zs, u.oneCell' = true) (b o c : Nat) (cur : Array Value) (hb : w.heap[b]? = some (.cells cur e (0, 0))) (hfit : o + zs.length ≤ cur.size) :
 (Builtin.clear_ #[t] ty #[.slice (some ⟨b, o, none⟩) 1 c]).run P w = .ok (.tuple #[]) (w.setRow b (cur.toList.take o ++ zs ++ cur.toList.drop (o + zs.length)).toArray) := by
 have hst := run_storeCells_at (P := P) b o e zs 0 cur w hb (by simpa using hfit) h1;simp only [Nat.add_zero] at hst;simp [Builtin.clear_, run_underlying ht, hv, hz, hst]
theorem DK (w : World) : (zeroValue 40).run Tryz.prog w = .ok (.agg #[(.int .i64 0), (.slice none 0 0)]) w := by kernel_rfl
theorem BM.calls (g n c i : Nat) (cur : Array Value) (w : World) (hg : w.heap[g]? = some (.cells cur 40 (0, 0))) (hi : i < n) (hnc : n ≤ c) (hm : c ≤ 9223372036854775807) (hs : cur.size = c * 2) (h1 : ∀ u ∈ cur.toList.take (n * 2), u.oneCell' = true) :
 Calls Tryz.prog 39 #[.slice (some ⟨g, 0, none⟩) n c, .int .i64 i, .int .i64 (i + 1 : Nat)] w fun e w' => e = .returned (.slice (some ⟨g, 0, none⟩) (n - 1) c) ∧
  ∃ q cur', w' = (w.drewN q).setRow g cur' ∧ cur'.size = c * 2 ∧ cur'.toList.take ((n - 1) * 2) = (cur.toList.take (n * 2)).take (i * 2) ++ (cur.toList.take (n * 2)).drop ((i + 1) * 2) := by
 obtain ⟨news, hnews⟩ : ∃ news, news = (cur.toList.take (n * 2)).drop ((i + 1) * 2) := ⟨_, rfl⟩;have hlen : news.length = (n - (i + 1)) * 2 := by rw [hnews]; simp; omega
 obtain ⟨A, hA, hsrc⟩ : ∃ A : Addr, (if c = i + 1 then some (⟨g, 0, none⟩ : Addr) else some ⟨g, (i + 1) * 2, none⟩) = some A ∧ qa (∀ t u, news[t]? = some u → w.drew.cell? (A.add t) = some u) := by
  by_cases h : c = i + 1
  ·refine ⟨⟨g, 0, none⟩, by simp [h], ⟨fun t u hu => ?_⟩⟩;have h0 : news.length = 0 := by rw [hlen]; omega
   rw [List.length_eq_zero_iff.1 h0] at hu;simp at hu
  ·refine ⟨⟨g, (i + 1) * 2, none⟩, by simp [h], ⟨fun t u hu => ?_⟩⟩;rw [Addr.add_lit];rw [hnews, List.getElem?_drop, List.getElem?_take] at hu;split at hu
   ·exact (cell_of_row w g ((i + 1) * 2 + t) cur 40 (0, 0) hg).trans (by simpa using hu)
   ·cases hu
 have s1 : qa (news.length = (n - (i + 1)) * 2) := ⟨hlen⟩;have s2 : qa (∀ u ∈ news, u.oneCell' = true) := ⟨fun u hu => h1 u (by rw [hnews] at hu; exact List.mem_of_mem_drop hu)⟩;have s3 : qa (w.drew.heap[g]? = some (.cells cur 40 (0, 0))) := ⟨hg⟩;obtain ⟨row1, hrow1⟩ : ∃ row1, row1 = (cur.toList.take (i * 2) ++ news ++ cur.toList.drop (i * 2 + news.length)).toArray := ⟨_, rfl⟩;have hr1s : row1.size = c * 2 := by rw [hrow1]; simp [hs, hlen]; omega
 obtain ⟨W1, hW1⟩ : ∃ W1, W1 = w.drew.setRow g row1 := ⟨_, rfl⟩;have hg1 : W1.heap[g]? = some (.cells row1 40 (0, 0)) := by rw [hW1]; exact setRow_heap _ _ _ _ _ _ s3.out
 have hcl : ∀ ty cc, (Builtin.clear_ #[25] ty #[.slice (some ⟨g, (i + (n - (i + 1))) * 2, none⟩) (n - (i + (n - (i + 1)))) cc]).run Tryz.prog W1 = .ok (.tuple #[]) (W1.setRow g (row1.toList.take ((n - 1) * 2) ++ ([.int .i64 0, .slice none 0 0] : List Value) ++ row1.toList.drop ((n - 1) * 2 + 2)).toArray) := by
  intro ty cc;rw [show i + (n - (i + 1)) = n - 1 by omega, show n - (n - 1) = 1 by omega];exact Pt W1 _ 40 ty _ [.int .i64 0, .slice none 0 0] Tryz.underlying25 DK (by kernel_rfl) (by intro u hu; simp at hu; rcases hu with rfl | rfl <;> rfl) g _ _ _ hg1 (by rw [hr1s]; simp; omega)
 have hW : qa (W1 = w.drew.setRow g row1) := ⟨hW1⟩;have hR : qa (row1 = (cur.toList.take (i * 2) ++ news ++ cur.toList.drop (i * 2 + news.length)).toArray) := ⟨hrow1⟩;have hN : qa (news = (cur.toList.take (n * 2)).drop ((i + 1) * 2)) := ⟨hnews⟩;have HF : qa (i * 2 + news.length ≤ cur.size) := ⟨by rw [hlen, hs]; omega⟩;have HS := qa.mk hr1s;have hic : i ≤ c := by omega
 have hjc : i + 1 ≤ c := by omega
 have hjn : i + 1 ≤ n := by omega
 have hne : ¬ (i = i + 1) := by omega
 have hb0 : (0 : Int) ≤ (i : Int) + 1 := by omega
 have hb1 : (i : Int) + 1 ≤ (n : Int) := by omega
 obtain ⟨info, hinfo, hsz⟩ : ∃ x, Tryz.prog.info? 40 = some x ∧ x.size = 2 := by
  have := Vy;cases h : Tryz.prog.info? 40 with
  | none => rw [h] at this; cases this
  | some x => rw [h] at this; injection this with this; injection this with _ this; injection this with this _; exact ⟨x, rfl, this⟩
 clear hW1 hrow1 hnews hlen hg1 hr1s hg h1 hs;go_enter Tryz.func39, Tryz.ntmps39;go_wp2_with fail;go_region_law (refine Ku rfl (.tmp 22) (.tmp 25) 25 rfl 40 info 2 Tryz.underlying25 hinfo hsz g i c cur s3.out (by simp [Act.eval, Act.put]) A (n - (i + 1)) (c - (i + 1)) news (by simp [Act.eval, Act.put]) s1.out hsrc.out s2.out (by omega) HF.out ?_; rw [← hR.out, ← hW.out])
 go_wp2;go_ret;refine ⟨by rw [show i + (n - (i + 1)) = n - 1 by omega]; rfl, 1, (row1.toList.take ((n - 1) * 2) ++ ([.int .i64 0, .slice none 0 0] : List Value) ++ row1.toList.drop ((n - 1) * 2 + 2)).toArray, ?_, ?_, ?_⟩
 ·rw [hW.out, setRow_setRow, List.append_assoc];rfl
 ·have := HS.out;simp [this]; omega
 ·have hr : row1.size = c * 2 := HS.out;rw [List.toList_toArray, List.append_assoc, List.take_append_of_le_length (by simp [hr]; omega), List.take_take, Nat.min_self, hR.out, List.toList_toArray, ← hN.out];have hl : news.length = (n - (i + 1)) * 2 := s1.out;rw [List.take_append_of_le_length (by have := HF.out; simp [hl]; omega), List.take_take, List.take_of_length_le (by simp [hl]; omega), show min (i * 2) (n * 2) = i * 2 by omega]
theorem Lu {α : Type} {R : α → List Value → Prop} {size : Nat} {ps : List α} {cs : List Value} (h : qg R size ps cs) (hs : 0 < size) (h1 : ∀ p c, R p c → ∀ u ∈ c, u.oneCell' = true) : ∀ u ∈ cs, u.oneCell' = true := by
 intro u hu;obtain ⟨q, hq, rfl⟩ := List.mem_iff_getElem.1 hu;have hq' := hq;rw [h.1] at hq';have hj : q / size < ps.length := Nat.div_lt_of_lt_mul (by rw [Nat.mul_comm]; exact hq');have hc := h.2 (q / size) _ (List.getElem?_eq_getElem hj);refine h1 _ _ hc _ ?_;refine List.mem_iff_getElem?.2 ⟨q % size, ?_⟩;rw [List.getElem?_take_of_lt (Nat.mod_lt _ hs), List.getElem?_drop, Nat.mul_comm, Nat.div_add_mod, List.getElem?_eq_getElem hq]
theorem VI (base : Nat) (ok : Nat → Prop) (v : Value) (l : List (List Value)) (i : Nat) (w : World) (h : Kd.R (Kd.raw 2) 40 w base ok v l) (hi : i < l.length) :
 Calls Tryz.prog 39 #[v, .int .i64 i, .int .i64 (i + 1 : Nat)] w fun e w' => ∃ v', e = .returned v' ∧ Kd.R (Kd.raw 2) 40 w' base ok v' (l.eraseIdx i) ∧ ∀ w0, Below base w0 w → Below base w0 w' := by
 obtain ⟨h0, inner, ho, hr⟩ := h;rcases ho.2 with ⟨_, hn⟩ | ⟨g, cap, cur, rfl, hb, hg, hn, hm, hs, ht⟩
 ·omega
 have hm' : cap ≤ 9223372036854775807 := hm;have hs' : cur.size = cap * 2 := hs;have ht' : cur.toList.take (l.length * 2) = inner := ht;have hone := Lu hr (by decide) (fun p c hp u hu => hp.2.2 u hu);refine (BM.calls g l.length cap i cur w hg hi hn hm' hs' (by rw [ht']; exact hone)).mono ?_;rintro e w' ⟨rfl, q, cur', rfl, hs2, ht2⟩;rw [ht'] at ht2;have hmove : ∀ k, (ok k ∧ some k ≠ (Value.slice (some ⟨g, 0, none⟩) l.length cap).ownBlock) → ((w.drewN q).setRow g cur').heap[k]? = w.heap[k]? := by
  intro k hk;rw [setRow_other _ _ _ _ (fun e => hk.2 (by rw [e]; rfl))];rfl
 refine ⟨_, rfl, ⟨fun k hk => h0 k hk, inner.take (i * 2) ++ inner.drop ((i + 1) * 2), ?_, ?_⟩, fun w0 hB => below_setRow (Mf hB q) hb cur'⟩
 ·rw [List.length_eraseIdx_of_lt hi];refine ⟨?_, .inr ⟨g, cap, cur', rfl, hb, setRow_heap _ _ _ _ _ _ hg, by omega, hm, hs2, ht2⟩⟩;have : inner.length = l.length * 2 := hr.1;have e3 : (Kd.raw 2).sz = 2 := rfl;rw [List.length_append, List.length_take, List.length_drop, this, e3];omega
 ·rw [List.eraseIdx_eq_take_drop_succ];exact Kd.reps_append ((Kd.reps_take hr (by omega)).imp_ fun p c hp => (Kd.raw 2).M_move hmove hp) ((Kd.reps_drop hr).imp_ fun p c hp => (Kd.raw 2).M_move hmove hp)
section
variable {P : Program} {ops : Array Oper} {Q : Exit → Act → World → Prop}
theorem EK {oi : Oper} {N : Option Tmp} {a : Act} {w : World} {K : Act → World → Prop} {g : Nat} {fa lb : Array Value} {c : Operand} {os : Array Operand} {ts : Array TypeId} (eg : ∀ args w, (callFunc g args).run P w = .ok (.enter g args) w) (hc : a.eval c = .func (.func g) fa lb) (args : Array Value)
 (hw : Region.wanted oi (yielded ops a.tmps) = true) (hN : oi.dst = N) (hop : oi.op = .call { callee := .value c, args := os, argTypes := ts }) (hargs : os.map a.eval = args)
 (h : Calls P g (fa ++ args ++ lb) w fun e w' => ∃ v, e = .returned v ∧ K (a.put N v) w') : if Region.wanted oi (yielded ops a.tmps) = true then Oper.wp P oi a w K Q else K (a.put N undef) w := by
 refine call_ g (fa ++ args ++ lb) hw hN ?_ h;have he := eg (fa ++ args ++ lb) w;have he2 := he;rw [Array.append_assoc] at he2;unfold execOp;simp [hop, resolve, Deferred.ofValue, invoke, hc, hargs, he, he2]
theorem Rp {rest : List Oper} {oi : Oper} {a : Act} {w : World} (N : Option Tmp) (hd : oi.dst = N) (hg : oi.guard = none) {g : Nat} {fa lb : Array Value} {c : Operand} {os : Array Operand} {ts : Array TypeId} (eg : ∀ args w, (callFunc g args).run P w = .ok (.enter g args) w) (hc : a.eval c = .func (.func g) fa lb) (args : Array Value)
 (hop : oi.op = .call { callee := .value c, args := os, argTypes := ts }) (hargs : os.map a.eval = args)
 (h : Calls P g (fa ++ args ++ lb) w fun e w' => ∃ v, e = .returned v ∧ wpList P ops Q rest (a.put N v) w') : wpList P ops Q (oi :: rest) a w := by
 refine wpList_plain hg fun K hK => ?_;have he := eg (fa ++ args ++ lb) w;have he2 := he;rw [Array.append_assoc] at he2;have hrun : (execOp a.eval oi).run P w = .ok (.enter g (fa ++ args ++ lb)) w := by
  unfold execOp;simp [hop, resolve, Deferred.ofValue, invoke, hc, hargs, he, he2]
 unfold Oper.wp;rw [hrun, Oper.upon_enter];refine h.mono fun e w'' hh => ?_;obtain ⟨v, rfl, hk⟩ := hh;subst hd;exact hK _ _ hk
end
@[reducible] def Qt (P : Program) (g : Nat) (fa lb : Array Value) (w : World) (p : Int → Option Bool) : Prop :=
 ∀ (W : World) (x : Int) (b : Bool), Below w.heap.size w W → p x = some b → Calls P g (fa ++ #[.int .i64 x] ++ lb) W fun e w' => e = .returned (.bool b) ∧ Below W.heap.size W w'
@[reducible] def OG (P : Program) (g : Nat) (fa lb : Array Value) (w : World) (p : Int → Int → Int → Int → Option Bool) : Prop :=
 ∀ (W : World) (x y z u : Int) (b : Bool), Below w.heap.size w W → p x y z u = some b → Calls P g (fa ++ #[.int .i64 x, .int .i64 y, .int .i64 z, .int .i64 u] ++ lb) W fun e w' => e = .returned (.bool b) ∧ Below W.heap.size W w'
section
def Tc.l0 : Nat → Int → List Int → Int → Option (List Int)
 | 0, _, _, _ => none
 | k + 1, x0, x3, x4 => if 0 ≤ x4 then (if (shr .i64 x0 x4) > 0 then (if (Go.bits .and .i64 (shr .i64 x0 x4) 1) = 1 then (if x3.length < 17592186044416 then (Tc.l0 k x0 (x3 ++ [x4]) (wrap64 (x4 + 1))) else (none)) else (Tc.l0 k x0 x3 (wrap64 (x4 + 1)))) else (some x3)) else (none)
def Tc.f (k : Nat) (a0 : Int) : Option (List Int) := Tc.l0 k a0 (([] : List Int)) 0
theorem Tc.mono_l : ∀ k, (∀ y0 y1 y2, LeO (Tc.l0 k y0 y1 y2) (Tc.l0 (k + 1) y0 y1 y2))
 | 0 => fun _ _ _ r h => by simp [Tc.l0] at h
 | k + 1 => by
  have ih0 := Tc.mono_l k
  ·intro y0 y1 y2;unfold Tc.l0;repeat' first
   | (with_reducible exact ih0 _ _ _)
   | (with_reducible exact LeO.refl _)
   | (with_reducible exact LeO.none _)
   | (with_reducible refine LeO.ite ?_ ?_)
   | (with_reducible refine LeO.bind ?_ (fun _ => ?_))
   | exact ih0 _ _ _
   | exact LeO.none _
   | refine LeO.ite ?_ ?_
   | refine LeO.bind ?_ (fun _ => ?_)
theorem Tc.mono : ∀ a0 k, LeO (Tc.f k a0) (Tc.f (k + 1) a0) := by
 intro a0 k;have ih0 := Tc.mono_l k;unfold Tc.f;repeat' first
  | (with_reducible exact ih0 _ _ _)
  | (with_reducible exact LeO.refl _)
  | (with_reducible exact LeO.none _)
  | (with_reducible refine LeO.ite ?_ ?_)
  | (with_reducible refine LeO.bind ?_ (fun _ => ?_))
  | exact ih0 _ _ _
  | exact LeO.none _
  | refine LeO.ite ?_ ?_
  | refine LeO.bind ?_ (fun _ => ?_)
theorem Tc.calls (k : Nat) (a0 : Int) (r : List Int) (w : World) (h : Tc.f k a0 = some r) :
 Calls Tryz.prog 161 #[.int .i64 a0] w fun e w' => ∃ v0_ : Value, e = .returned (v0_) ∧ Kd.R (Kd.int .i64) 3 w' w.heap.size (fun _ => True) v0_ r ∧ Below w.heap.size w w' := by
 have HB := qa.mk (Below.refl w.heap.size w);have H : (Tc.l0 k a0 (([] : List Int)) 0) = some r := h;clear h;obtain ⟨y149, hy149⟩ : ∃ y_ : List Int, y_ = (([] : List Int)) := ⟨_, rfl⟩;rw [← hy149] at H;have Ny149 := qa.mk hy149;clear hy149;have H' := qa.mk H;clear H;go_enter Tryz.func161, Tryz.ntmps161;go_wp2_with (first | ((with_reducible refine Ma (N := 5) rfl ?_); refine Kd.R_lit (Kd.int .i64) _ 3 ?hg (N := 5) ?hd (xs := ([] : List Int)) (inner := []) (ok := fun _ => True) (okp := fun _ => True) ?hr ?hp (fun _ hk => hk) trivial (Below.refl _ _) (Nat.le_refl _) (by simp) ?_; (case hd => rfl); (case hg => rfl); (case hr => first | (go_simp; done) | (go_simp; rfl)); (case hp => exact (qg.none _ _)); intro v150 w2 ho3 hb hg_ hnew_; clear hg_ hnew_; (first | rw [← Ny149.out] at ho3 | (simp only [Int.reduceToNat] at ho3; rw [← Ny149.out] at ho3)); have HO151 := qa.mk (Kd.R_lower ho3 (Ua (zh HB.out))); replace HB := zH hb HB; clear hb ho3));go_loopg [3, 4] k (fun kq v3 v4 w' => ∃ (x3_1 : List Int) (x4_1 : Int), v4 = .int .i64 x4_1 ∧ qa (Tc.l0 kq a0 x3_1 x4_1 = some r) ∧ qa (kq ≤ k) ∧ qa (Kd.R (Kd.int .i64) 3 w' w.heap.size (fun _ => True) v3 x3_1) ∧ qa (Below w.heap.size w w'));case atStart => exact ⟨(y149), (0), zE, H', ⟨Nat.le_refl _⟩, ⟨zr HO151.out⟩, ⟨zh HB.out⟩⟩
 case round =>
  clear H';try clear c1
  try clear p2
  obtain ⟨x3_1, x4_1, rfl, HA, HK1, HO_3, HB⟩ := hrel;cases gk with
  | zero => exact absurd HA.out (by simp [Tc.l0])
  | succ k1 =>
   have H := HA.out;clear HA;simp only [Tc.l0] at H;by_cases c4 : 0 ≤ x4_1
   rotate_left
   ·rw [if_neg c4] at H;cases H
   rw [if_pos c4] at H;have c4b0 := eq_true c4;have c4b1 := decide_eq_true c4;clear c4;obtain ⟨ji5, hji5⟩ : ∃ j_ : Int, (shr .i64 a0 x4_1) = j_ := ⟨_, rfl⟩;rw [hji5] at H;obtain ⟨hji5_, hji5z⟩ := zI hji5;by_cases c6 : (ji5) > 0
   rotate_left
   ·rw [if_neg c6] at H;have c6b0 := decide_eq_false c6;clear c6;obtain rfl := Option.some.inj H;go_wp2;go_ret;exact ⟨_, by first | rfl | (simp [Ce, De] <;> rfl) | (simp only [← hji5]; first | rfl | (simp [Ce, De] <;> rfl)) | (simp [*, Ce, De] <;> rfl), by (with_reducible repeat (first | apply Kd.R_alloc | apply Kd.R_drewN | apply Kd.R_drew)); exact HO_3.out, zh HB.out⟩
   rw [if_pos c6] at H;have c6b0 := decide_eq_true c6;clear c6;have c7b0 := eq_true (zk : 0 ≤ x4_1);by_cases c8 : (Go.bits .and .i64 (ji5) 1) = 1
   rotate_left
   ·rw [if_neg c8] at H;have c8b0 := beq_eq_false_iff_ne.mpr c8;have c8b1 := bne_iff_ne.mpr c8;have H' := qa.mk H;clear H;go_wp2;go_roundg k1;case measure => have := HK1.out; omega
    case rel => exact ⟨(x3_1), (wrap64 (x4_1 + 1)), zE, H', zO HK1, ⟨zr HO_3.out⟩, ⟨zh HB.out⟩⟩
   rw [if_pos c8] at H;have c8b0 := beq_iff_eq.mpr c8;have c8b1 := bne_eq_false_iff_eq.mpr c8;clear c8;by_cases c9 : x3_1.length < 17592186044416
   rotate_left
   ·rw [if_neg c9] at H;cases H
   rw [if_pos c9] at H;have LMc9 := qa.mk c9;clear c9;obtain ⟨y152, hy152⟩ : ∃ y_ : List Int, y_ = (x3_1 ++ [x4_1]) := ⟨_, rfl⟩;rw [← hy152] at H;have Ny152 := qa.mk hy152;clear hy152;have H' := qa.mk H;clear H;go_wp2_with (first | ((with_reducible refine Uc (b := .append) (xs := #[.tmp 17, .tmp 19]) rfl ?_); at_builtin; refine Kd.R_append (Kd.int .i64) (w0 := w) w.heap.size rfl (.tmp 17) (.tmp 19) 35 3 (.int .i64 0) 8 rfl Tryz.underlying35 info3 rfl (by decide) (by omega) u3 x3_1 x4_1 [.int .i64 x4_1] (fun _ => True) (fun _ => False) rfl rfl ?aP (fun _ hk => hk.elim) ?aF ?aO ?aB ?aS ?aL ?_; (case aP => exact rfl); (case aB => exact (zh HB.out)); (case aF => exact (fun _ _ => trivial)); (case aO => exact (zr HO_3.out)); (case aS => exact (Ua (zh HB.out))); (case aL => have := LMc9.out; omega); intro v153 w10 ho hb hg hat; rw [← Ny152.out] at ho; have HO154 := qa.mk (ho); replace HB := qa.mk (hb); clear HO_3 ho hb hg hat));go_roundg k1;case measure => have := HK1.out; omega
   case rel => exact ⟨(y152), (wrap64 (x4_1 + 1)), zE, H', zO HK1, ⟨zr HO154.out⟩, ⟨zh HB.out⟩⟩
def yg.f (a0 : Int) (a1 : Int) : Option (Bool) := if 0 ≤ a1 then (some ((Go.bits .and .i64 (shr .i64 a0 a1) 1) == 1)) else (none)
theorem yg.calls (a0 : Int) (a1 : Int) (r : Bool) (w : World) (h : yg.f a0 a1 = some r) :
 Calls Tryz.prog 111 #[.int .i64 a0, .int .i64 a1] w fun e w' => e = .returned (.bool r) ∧ Jd w w' := by
 have H : (if 0 ≤ a1 then (some ((Go.bits .and .i64 (shr .i64 a0 a1) 1) == 1)) else (none)) = some r := h;clear h;by_cases c3 : 0 ≤ a1
 rotate_left
 ·rw [if_neg c3] at H;cases H
 rw [if_pos c3] at H;have c3b0 := eq_true c3;have c3b1 := decide_eq_true c3;clear c3;obtain ⟨ji4, hji4⟩ : ∃ j_ : Int, (shr .i64 a0 a1) = j_ := ⟨_, rfl⟩;rw [hji4] at H;obtain ⟨hji4_, hji4z⟩ := zI hji4;obtain rfl := Option.some.inj H;go_enter Tryz.func111, Tryz.ntmps111;go_wp2;go_ret;exact ⟨by first | rfl | (simp; done) | (simp only [← hji4] <;> (first | rfl | simp)) | (simp [*]; done), by repeat (first | exact Jd.refl _ | apply Jd.step)⟩
def Ha.l0 : Nat → Int → Int → Int → Int → List Bool → Option (Bool)
 | 0, _, _, _, _, _ => none
 | k + 1, x1, x13, x14, x244000, x244001 => if x14 < x13 then ((yg.f x1 x14).bind fun t245 => (if t245 = true then (if 0 ≤ x14 then (if 0 ≤ (Go.bits .andNot .i64 x1 (shl .i64 1 x14)) then (if (Go.bits .andNot .i64 x1 (shl .i64 1 x14)) < (x244001.length : Int) then (if yf false x244001 (Go.bits .andNot .i64 x1 (shl .i64 1 x14)) = true then (some false) else (Ha.l0 k x1 x13 (wrap64 (x14 + 1)) x244000 x244001)) else (none)) else (none)) else (none)) else (Ha.l0 k x1 x13 (wrap64 (x14 + 1)) x244000 x244001))) else (some true)
def Ha.f (k : Nat) (a0_0 : Int) (l0_1 : List Bool) (a1 : Int) : Option (Bool) := if 0 ≤ a1 then (if a1 < (l0_1.length : Int) then (if yf false l0_1 a1 = true then (Ha.l0 k a1 a0_0 0 a0_0 l0_1) else (some false)) else (none)) else (none)
theorem Ha.mono_l : ∀ k, (∀ y0 y1 y2 y3 y4, LeO (Ha.l0 k y0 y1 y2 y3 y4) (Ha.l0 (k + 1) y0 y1 y2 y3 y4))
 | 0 => fun _ _ _ _ _ r h => by simp [Ha.l0] at h
 | k + 1 => by
  have ih0 := Ha.mono_l k
  ·intro y0 y1 y2 y3 y4;unfold Ha.l0;repeat' first
   | (with_reducible exact ih0 _ _ _ _ _)
   | (with_reducible exact LeO.refl _)
   | (with_reducible exact LeO.none _)
   | (with_reducible refine LeO.ite ?_ ?_)
   | (with_reducible refine LeO.bind ?_ (fun _ => ?_))
   | exact ih0 _ _ _ _ _
   | exact LeO.none _
   | refine LeO.ite ?_ ?_
   | refine LeO.bind ?_ (fun _ => ?_)
theorem Ha.mono : ∀ a0 a1 a2 k, LeO (Ha.f k a0 a1 a2) (Ha.f (k + 1) a0 a1 a2) := by
 intro a0 a1 a2 k;have ih0 := Ha.mono_l k;unfold Ha.f;repeat' first
  | (with_reducible exact ih0 _ _ _ _ _)
  | (with_reducible exact LeO.refl _)
  | (with_reducible exact LeO.none _)
  | (with_reducible refine LeO.ite ?_ ?_)
  | (with_reducible refine LeO.bind ?_ (fun _ => ?_))
  | exact ih0 _ _ _ _ _
  | exact LeO.none _
  | refine LeO.ite ?_ ?_
  | refine LeO.bind ?_ (fun _ => ?_)
theorem Ha.calls (k : Nat) (a0_0 : Int) (A0_1 : Option Addr) (c0_1 : Nat) (l0_1 : List Bool) (a1 : Int) (r : Bool) (w : World) (hr0_1 : Kd.C Kd.bool w A0_1 l0_1.length l0_1) (hc0_1 : l0_1.length ≤ c0_1) (h : Ha.f k a0_0 l0_1 a1 = some r) :
 Calls Tryz.prog 135 #[.agg #[.int .i64 a0_0, .slice A0_1 l0_1.length c0_1], .int .i64 a1] w fun e w' => e = .returned (.bool r) ∧ Below w.heap.size w w' := by
 have hu62 := Tryz.underlying62;have HR0_1 := qa.mk hr0_1;have HC0_1 := qa.mk hc0_1;clear hr0_1 hc0_1;have HB := qa.mk (Below.refl w.heap.size w);have H : (if 0 ≤ a1 then (if a1 < (l0_1.length : Int) then (if yf false l0_1 a1 = true then (Ha.l0 k a1 a0_0 0 a0_0 l0_1) else (some false)) else (none)) else (none)) = some r := h;clear h;by_cases c3 : 0 ≤ a1
 rotate_left
 ·rw [if_neg c3] at H;cases H
 rw [if_pos c3] at H;have c3b0 := decide_eq_true c3;clear c3;by_cases c4 : a1 < (l0_1.length : Int)
 rotate_left
 ·rw [if_neg c4] at H;cases H
 rw [if_pos c4] at H;have c4b0 := decide_eq_true c4;clear c4;obtain ⟨bq5, hbq5⟩ : ∃ b_ : Bool, b_ = (yf false l0_1 a1) := ⟨_, rfl⟩;rw [← hbq5] at H;have Nbq5 := qa.mk hbq5;clear hbq5;by_cases c6 : bq5 = true
 rotate_left
 ·replace c6 := Bool.eq_false_iff.mpr c6;subst c6;rw [if_neg zF] at H;obtain rfl := Option.some.inj H;go_enter Tryz.func135, Tryz.ntmps135;go_wp2_with (first | ((with_reducible refine Ma (N := 2) rfl ?_); refine zq 2 #[.int .i64 a0_0, .slice A0_1 l0_1.length c0_1] 62 ?_; intro gb243 hg w20 hbox hb; have GW243 := zG hg HB; replace HB := zH hb HB; have BK243 := qa.mk hbox; have GE243 := GW243; clear hb hbox hg; obtain ⟨hcz21_0, hcz21_1, hfz21_0, hfz21_1⟩ := zC2 BK243; have p244 : 0 ≤ (a1 : Int) := zk; have q244 : a1 < (l0_1.length : Int) := zk; obtain ⟨ad244, e244, hx244_0⟩ := Kd.at_bool HR0_1.out a1 p244 q244; (try rw [← Nbq5.out] at hx244_0); cases e244; replace hx244_0 := zx HB.out hx244_0; replace p244 := eq_true p244; replace q244 := eq_true q244));repeat (go_quiet (first | ((with_reducible refine Ma (N := 2) rfl ?_); refine zq 2 #[.int .i64 a0_0, .slice A0_1 l0_1.length c0_1] 62 ?_; intro gb243 hg w20 hbox hb; have n2_ := qa.mk ((by rw [hg]; exact (Ua (zh HB.out)) : w.heap.size ≤ gb243)); replace HB := qa.mk (Rc (zh HB.out) hb); have BK243 := qa.mk hbox; have GW243 := n2_; have GE243 := n2_; clear n2_ hb hbox hg; have hcz21_0 : w20.cell? ⟨gb243, 0, none⟩ = some (.int .i64 a0_0) := (Ya BK243.out 0).trans rfl; have hcz21_1 : w20.cell? ⟨gb243, 1, none⟩ = some (.slice A0_1 l0_1.length c0_1) := (Ya BK243.out 1).trans rfl; have hfz21_0 := Ea BK243.out 0; have hfz21_1 := Ea BK243.out 1; have p244 : 0 ≤ (a1 : Int) := zk; have q244 : a1 < (l0_1.length : Int) := zk; obtain ⟨ad244, e244, hx244_0⟩ := Kd.at_bool HR0_1.out a1 p244 q244; (try rw [← Nbq5.out] at hx244_0); cases e244; replace hx244_0 := zx HB.out hx244_0; replace p244 := eq_true p244; replace q244 := eq_true q244)); try go_wp2_with (first | ((with_reducible refine Ma (N := 2) rfl ?_); refine zq 2 #[.int .i64 a0_0, .slice A0_1 l0_1.length c0_1] 62 ?_; intro gb243 hg w20 hbox hb; have GW243 := zG hg HB; replace HB := zH hb HB; have BK243 := qa.mk hbox; have GE243 := GW243; clear hb hbox hg; obtain ⟨hcz21_0, hcz21_1, hfz21_0, hfz21_1⟩ := zC2 BK243; have p244 : 0 ≤ (a1 : Int) := zk; have q244 : a1 < (l0_1.length : Int) := zk; obtain ⟨ad244, e244, hx244_0⟩ := Kd.at_bool HR0_1.out a1 p244 q244; (try rw [← Nbq5.out] at hx244_0); cases e244; replace hx244_0 := zx HB.out hx244_0; replace p244 := eq_true p244; replace q244 := eq_true q244)))
  go_ret;exact ⟨zL0, zh HB.out⟩
 subst c6;rw [if_pos rfl] at H;have H' := qa.mk H;clear H;go_enter Tryz.func135, Tryz.ntmps135;go_wp2_with (first | ((with_reducible refine Ma (N := 2) rfl ?_); refine zq 2 #[.int .i64 a0_0, .slice A0_1 l0_1.length c0_1] 62 ?_; intro gb243 hg w7 hbox hb; have GW243 := zG hg HB; replace HB := zH hb HB; have BK243 := qa.mk hbox; have GE243 := GW243; clear hb hbox hg; obtain ⟨hcz8_0, hcz8_1, hfz8_0, hfz8_1⟩ := zC2 BK243; have p244 : 0 ≤ (a1 : Int) := zk; have q244 : a1 < (l0_1.length : Int) := zk; obtain ⟨ad244, e244, hx244_0⟩ := Kd.at_bool HR0_1.out a1 p244 q244; (try rw [← Nbq5.out] at hx244_0); cases e244; replace hx244_0 := zx HB.out hx244_0; replace p244 := eq_true p244; replace q244 := eq_true q244));repeat (go_quiet (first | ((with_reducible refine Ma (N := 2) rfl ?_); refine zq 2 #[.int .i64 a0_0, .slice A0_1 l0_1.length c0_1] 62 ?_; intro gb243 hg w7 hbox hb; have n2_ := qa.mk ((by rw [hg]; exact (Ua (zh HB.out)) : w.heap.size ≤ gb243)); replace HB := qa.mk (Rc (zh HB.out) hb); have BK243 := qa.mk hbox; have GW243 := n2_; have GE243 := n2_; clear n2_ hb hbox hg; have hcz8_0 : w7.cell? ⟨gb243, 0, none⟩ = some (.int .i64 a0_0) := (Ya BK243.out 0).trans rfl; have hcz8_1 : w7.cell? ⟨gb243, 1, none⟩ = some (.slice A0_1 l0_1.length c0_1) := (Ya BK243.out 1).trans rfl; have hfz8_0 := Ea BK243.out 0; have hfz8_1 := Ea BK243.out 1; have p244 : 0 ≤ (a1 : Int) := zk; have q244 : a1 < (l0_1.length : Int) := zk; obtain ⟨ad244, e244, hx244_0⟩ := Kd.at_bool HR0_1.out a1 p244 q244; (try rw [← Nbq5.out] at hx244_0); cases e244; replace hx244_0 := zx HB.out hx244_0; replace p244 := eq_true p244; replace q244 := eq_true q244)); try go_wp2_with (first | ((with_reducible refine Ma (N := 2) rfl ?_); refine zq 2 #[.int .i64 a0_0, .slice A0_1 l0_1.length c0_1] 62 ?_; intro gb243 hg w7 hbox hb; have GW243 := zG hg HB; replace HB := zH hb HB; have BK243 := qa.mk hbox; have GE243 := GW243; clear hb hbox hg; obtain ⟨hcz8_0, hcz8_1, hfz8_0, hfz8_1⟩ := zC2 BK243; have p244 : 0 ≤ (a1 : Int) := zk; have q244 : a1 < (l0_1.length : Int) := zk; obtain ⟨ad244, e244, hx244_0⟩ := Kd.at_bool HR0_1.out a1 p244 q244; (try rw [← Nbq5.out] at hx244_0); cases e244; replace hx244_0 := zx HB.out hx244_0; replace p244 := eq_true p244; replace q244 := eq_true q244)))
 go_loopg [14] k (fun kq v14 w' => ∃ (x14_1 : Int), v14 = .int .i64 x14_1 ∧ qa (Ha.l0 kq a1 a0_0 x14_1 a0_0 l0_1 = some r) ∧ qa (kq ≤ k) ∧ qa (w'.heap[gb243]? = some (.cells #[.int .i64 a0_0, (.slice (some ad244) l0_1.length c0_1)] 62 (0, 0))) ∧ qa (Below w.heap.size w w'));case atStart => exact ⟨(0), zE, H', ⟨Nat.le_refl _⟩, ⟨zb BK243.out⟩, ⟨zh HB.out⟩⟩
 case round =>
  clear H';try clear c1
  try clear p2
  try clear q2
  try clear hx2
  try clear c3
  try clear c3b0
  try clear c4
  try clear c4b0
  try clear q5
  try clear c6
  try clear hcz8_0
  try clear hcz8_1
  try clear hfz8_0
  try clear hfz8_1
  try clear hx244_0
  try clear p244
  try clear q244
  obtain ⟨x14_1, rfl, HA, HK1, BK243, HB⟩ := hrel;cases gk with
  | zero => exact absurd HA.out (by simp [Ha.l0])
  | succ k1 =>
   have H := HA.out;clear HA;simp only [Ha.l0] at H;by_cases c9 : x14_1 < a0_0
   rotate_left
   ·rw [if_neg c9] at H;have c9b0 := decide_eq_false c9;clear c9;obtain rfl := Option.some.inj H;go_wp2;repeat (go_quiet (fail); try go_wp2)
    go_ret;exact ⟨zL0, zh HB.out⟩
   rw [if_pos c9] at H;have c9b0 := decide_eq_true c9;clear c9;replace H := zB0 H;obtain ⟨t245, A100, H⟩ := H;have A10 := qa.mk A100;clear A100;by_cases c11 : t245 = true
   rotate_left
   ·replace c11 := Bool.eq_false_iff.mpr c11;subst c11;rw [if_neg zF] at H;have H' := qa.mk H;clear H;go_wp2_with (first | (go_at_call 111; (with_reducible refine (yg.calls a1 x14_1 false _ A10.out).mono ?_); rintro e w' ⟨rfl, ⟨nd, rfl⟩⟩; (try first | exact ⟨rfl, _, zd⟩ | exact ⟨rfl, _, ze⟩)));repeat (go_quiet (first | (go_at_call 111; (with_reducible refine (yg.calls a1 x14_1 false _ A10.out).mono ?_); rintro e w' ⟨rfl, ⟨nd, rfl⟩⟩; (try first | exact ⟨rfl, _, zd⟩ | exact ⟨rfl, _, ze⟩))); try go_wp2_with (first | (go_at_call 111; (with_reducible refine (yg.calls a1 x14_1 false _ A10.out).mono ?_); rintro e w' ⟨rfl, ⟨nd, rfl⟩⟩; (try first | exact ⟨rfl, _, zd⟩ | exact ⟨rfl, _, ze⟩))))
    go_roundg k1;case measure => have := HK1.out; omega
    case rel => exact ⟨(wrap64 (x14_1 + 1)), zE, H', zO HK1, ⟨zb BK243.out⟩, ⟨zh HB.out⟩⟩
   subst c11;rw [if_pos rfl] at H;by_cases c12 : 0 ≤ x14_1
   rotate_left
   ·rw [if_neg c12] at H;cases H
   rw [if_pos c12] at H;have c12b0 := eq_true c12;have c12b1 := decide_eq_true c12;clear c12;obtain ⟨ji13, hji13⟩ : ∃ j_ : Int, (shl .i64 1 x14_1) = j_ := ⟨_, rfl⟩;rw [hji13] at H;(try rw [hji13] at A10)
   obtain ⟨hji13_, hji13z, hji13u, hji13v, hji13y, hji13x⟩ := zJ1 hji13;by_cases c14 : 0 ≤ (Go.bits .andNot .i64 a1 (ji13))
   rotate_left
   ·rw [if_neg c14] at H;cases H
   rw [if_pos c14] at H;have c14b0 := decide_eq_true c14;clear c14;by_cases c15 : (Go.bits .andNot .i64 a1 (ji13)) < (l0_1.length : Int)
   rotate_left
   ·rw [if_neg c15] at H;cases H
   rw [if_pos c15] at H;have c15b0 := decide_eq_true c15;clear c15;obtain ⟨bq16, hbq16⟩ : ∃ b_ : Bool, b_ = (yf false l0_1 (Go.bits .andNot .i64 a1 (ji13))) := ⟨_, rfl⟩;rw [← hbq16] at H;have Nbq16 := qa.mk hbq16;clear hbq16;by_cases c17 : bq16 = true
   ·subst c17;rw [if_pos rfl] at H;obtain rfl := Option.some.inj H;go_wp2_with (first | (go_at_call 111; (with_reducible refine (yg.calls a1 x14_1 true _ A10.out).mono ?_); rintro e w' ⟨rfl, ⟨nd, rfl⟩⟩; (try first | exact ⟨rfl, _, zd⟩ | exact ⟨rfl, _, ze⟩); obtain ⟨hcz18_0, hcz18_1, hfz18_0, hfz18_1⟩ := zC2 BK243; have p246 : 0 ≤ ((Go.bits .andNot .i64 a1 (ji13)) : Int) := zk; have q246 : (Go.bits .andNot .i64 a1 (ji13)) < (l0_1.length : Int) := zk; obtain ⟨ad246, e246, hx246_0⟩ := Kd.at_bool HR0_1.out (Go.bits .andNot .i64 a1 (ji13)) p246 q246; (try rw [← Nbq5.out] at hx246_0); (try rw [← Nbq16.out] at hx246_0); obtain rfl : ad244 = ad246 := (by injection e246); replace hx246_0 := zx HB.out hx246_0; replace p246 := eq_true p246; replace q246 := eq_true q246));repeat (go_quiet (first | (go_at_call 111; (with_reducible refine (yg.calls a1 x14_1 true _ A10.out).mono ?_); rintro e w' ⟨rfl, ⟨nd, rfl⟩⟩; (try first | exact ⟨rfl, _, zd⟩ | exact ⟨rfl, _, ze⟩); have hcz18_0 : wr.cell? ⟨gb243, 0, none⟩ = some (.int .i64 a0_0) := (Ya BK243.out 0).trans rfl; have hcz18_1 : wr.cell? ⟨gb243, 1, none⟩ = some (.slice (some ad244) l0_1.length c0_1) := (Ya BK243.out 1).trans rfl; have hfz18_0 := Ea BK243.out 0; have hfz18_1 := Ea BK243.out 1; have p246 : 0 ≤ ((Go.bits .andNot .i64 a1 (ji13)) : Int) := zk; have q246 : (Go.bits .andNot .i64 a1 (ji13)) < (l0_1.length : Int) := zk; obtain ⟨ad246, e246, hx246_0⟩ := Kd.at_bool HR0_1.out (Go.bits .andNot .i64 a1 (ji13)) p246 q246; (try rw [← Nbq5.out] at hx246_0); (try rw [← Nbq16.out] at hx246_0); obtain rfl : ad244 = ad246 := (by injection e246); replace hx246_0 := zx HB.out hx246_0; replace p246 := eq_true p246; replace q246 := eq_true q246)); try go_wp2_with (first | (go_at_call 111; (with_reducible refine (yg.calls a1 x14_1 true _ A10.out).mono ?_); rintro e w' ⟨rfl, ⟨nd, rfl⟩⟩; (try first | exact ⟨rfl, _, zd⟩ | exact ⟨rfl, _, ze⟩); obtain ⟨hcz18_0, hcz18_1, hfz18_0, hfz18_1⟩ := zC2 BK243; have p246 : 0 ≤ ((Go.bits .andNot .i64 a1 (ji13)) : Int) := zk; have q246 : (Go.bits .andNot .i64 a1 (ji13)) < (l0_1.length : Int) := zk; obtain ⟨ad246, e246, hx246_0⟩ := Kd.at_bool HR0_1.out (Go.bits .andNot .i64 a1 (ji13)) p246 q246; (try rw [← Nbq5.out] at hx246_0); (try rw [← Nbq16.out] at hx246_0); obtain rfl : ad244 = ad246 := (by injection e246); replace hx246_0 := zx HB.out hx246_0; replace p246 := eq_true p246; replace q246 := eq_true q246)))
    go_ret;exact ⟨by first | rfl | (simp [Ce, De] <;> rfl) | (simp only [← hji13]; first | rfl | (simp [Ce, De] <;> rfl)) | (simp [*, Ce, De] <;> rfl), zh HB.out⟩
   replace c17 := Bool.eq_false_iff.mpr c17;subst c17;rw [if_neg zF] at H;have H' := qa.mk H;clear H;go_wp2_with (first | (go_at_call 111; (with_reducible refine (yg.calls a1 x14_1 true _ A10.out).mono ?_); rintro e w' ⟨rfl, ⟨nd, rfl⟩⟩; (try first | exact ⟨rfl, _, zd⟩ | exact ⟨rfl, _, ze⟩); obtain ⟨hcz19_0, hcz19_1, hfz19_0, hfz19_1⟩ := zC2 BK243; have p246 : 0 ≤ ((Go.bits .andNot .i64 a1 (ji13)) : Int) := zk; have q246 : (Go.bits .andNot .i64 a1 (ji13)) < (l0_1.length : Int) := zk; obtain ⟨ad246, e246, hx246_0⟩ := Kd.at_bool HR0_1.out (Go.bits .andNot .i64 a1 (ji13)) p246 q246; (try rw [← Nbq5.out] at hx246_0); (try rw [← Nbq16.out] at hx246_0); obtain rfl : ad244 = ad246 := (by injection e246); replace hx246_0 := zx HB.out hx246_0; replace p246 := eq_true p246; replace q246 := eq_true q246));repeat (go_quiet (first | (go_at_call 111; (with_reducible refine (yg.calls a1 x14_1 true _ A10.out).mono ?_); rintro e w' ⟨rfl, ⟨nd, rfl⟩⟩; (try first | exact ⟨rfl, _, zd⟩ | exact ⟨rfl, _, ze⟩); have hcz19_0 : wr.cell? ⟨gb243, 0, none⟩ = some (.int .i64 a0_0) := (Ya BK243.out 0).trans rfl; have hcz19_1 : wr.cell? ⟨gb243, 1, none⟩ = some (.slice (some ad244) l0_1.length c0_1) := (Ya BK243.out 1).trans rfl; have hfz19_0 := Ea BK243.out 0; have hfz19_1 := Ea BK243.out 1; have p246 : 0 ≤ ((Go.bits .andNot .i64 a1 (ji13)) : Int) := zk; have q246 : (Go.bits .andNot .i64 a1 (ji13)) < (l0_1.length : Int) := zk; obtain ⟨ad246, e246, hx246_0⟩ := Kd.at_bool HR0_1.out (Go.bits .andNot .i64 a1 (ji13)) p246 q246; (try rw [← Nbq5.out] at hx246_0); (try rw [← Nbq16.out] at hx246_0); obtain rfl : ad244 = ad246 := (by injection e246); replace hx246_0 := zx HB.out hx246_0; replace p246 := eq_true p246; replace q246 := eq_true q246)); try go_wp2_with (first | (go_at_call 111; (with_reducible refine (yg.calls a1 x14_1 true _ A10.out).mono ?_); rintro e w' ⟨rfl, ⟨nd, rfl⟩⟩; (try first | exact ⟨rfl, _, zd⟩ | exact ⟨rfl, _, ze⟩); obtain ⟨hcz19_0, hcz19_1, hfz19_0, hfz19_1⟩ := zC2 BK243; have p246 : 0 ≤ ((Go.bits .andNot .i64 a1 (ji13)) : Int) := zk; have q246 : (Go.bits .andNot .i64 a1 (ji13)) < (l0_1.length : Int) := zk; obtain ⟨ad246, e246, hx246_0⟩ := Kd.at_bool HR0_1.out (Go.bits .andNot .i64 a1 (ji13)) p246 q246; (try rw [← Nbq5.out] at hx246_0); (try rw [← Nbq16.out] at hx246_0); obtain rfl : ad244 = ad246 := (by injection e246); replace hx246_0 := zx HB.out hx246_0; replace p246 := eq_true p246; replace q246 := eq_true q246)))
   go_roundg k1;case measure => have := HK1.out; omega
   case rel => exact ⟨(wrap64 (x14_1 + 1)), zE, H', zO HK1, ⟨zb BK243.out⟩, ⟨zh HB.out⟩⟩
def Xc.l0 : Nat → Int → List Bool → Int → Int → Option (Int)
 | 0, _, _, _, _ => none
 | k + 1, x3, x7, x8, x9 => if x9 < x8 then (if 0 ≤ x9 then (if x9 < (x7.length : Int) then (if yf false x7 x9 = true then (Xc.l0 k (Go.bits .or .i64 x3 (shl .i64 1 x9)) x7 x8 (wrap64 (x9 + 1))) else (Xc.l0 k x3 x7 x8 (wrap64 (x9 + 1)))) else (none)) else (none)) else (some x3)
def Xc.f (k : Nat) (a0_0 : Int) (l0_1 : List Bool) : Option (Int) := Xc.l0 k 0 l0_1 (l0_1.length : Int) 0
theorem Xc.calls (k : Nat) (a0_0 : Int) (A0_1 : Option Addr) (c0_1 : Nat) (l0_1 : List Bool) (r : Int) (w : World) (hr0_1 : Kd.C Kd.bool w A0_1 l0_1.length l0_1) (hc0_1 : l0_1.length ≤ c0_1) (h : Xc.f k a0_0 l0_1 = some r) :
 Calls Tryz.prog 58 #[.agg #[.int .i64 a0_0, .slice A0_1 l0_1.length c0_1]] w fun e w' => e = .returned (.int .i64 r) ∧ Below w.heap.size w w' := by
 have hu62 := Tryz.underlying62;have HR0_1 := qa.mk hr0_1;have HC0_1 := qa.mk hc0_1;clear hr0_1 hc0_1;have HB := qa.mk (Below.refl w.heap.size w);have H : (Xc.l0 k 0 l0_1 (l0_1.length : Int) 0) = some r := h;clear h;have H' := qa.mk H;clear H;go_enter Tryz.func58, Tryz.ntmps58;go_wp2_with (first | ((with_reducible refine Ma (N := 1) rfl ?_); refine zq 1 #[.int .i64 a0_0, .slice A0_1 l0_1.length c0_1] 62 ?_; intro gb241 hg w2 hbox hb; have GW241 := zG hg HB; replace HB := zH hb HB; have BK241 := qa.mk hbox; have GE241 := GW241; clear hb hbox hg; obtain ⟨hcz3_0, hcz3_1, hfz3_0, hfz3_1⟩ := zC2 BK241));go_loopg [3, 9] k (fun kq v3 v9 w' => ∃ (x3_1 : Int) (x9_1 : Int), v3 = .int .i64 x3_1 ∧ v9 = .int .i64 x9_1 ∧ qa (Xc.l0 kq x3_1 l0_1 (l0_1.length : Int) x9_1 = some r) ∧ qa (kq ≤ k) ∧ qa (w'.heap[gb241]? = some (.cells #[.int .i64 a0_0, (.slice A0_1 l0_1.length c0_1)] 62 (0, 0))) ∧ qa (Below w.heap.size w w'));case atStart => exact ⟨(0), (0), zE, zE, H', ⟨Nat.le_refl _⟩, ⟨zb BK241.out⟩, ⟨zh HB.out⟩⟩
 case round =>
  clear H';try clear p2
  try clear hcz3_0
  try clear hcz3_1
  try clear hfz3_0
  try clear hfz3_1
  obtain ⟨x3_1, x9_1, rfl, rfl, HA, HK1, BK241, HB⟩ := hrel;cases gk with
  | zero => exact absurd HA.out (by simp [Xc.l0])
  | succ k1 =>
   have H := HA.out;clear HA;simp only [Xc.l0] at H;by_cases c4 : x9_1 < (l0_1.length : Int)
   rotate_left
   ·rw [if_neg c4] at H;have c4b0 := decide_eq_false c4;clear c4;obtain rfl := Option.some.inj H;go_wp2;go_ret;exact ⟨zL0, zh HB.out⟩
   rw [if_pos c4] at H;have c4b0 := decide_eq_true c4;clear c4;by_cases c5 : 0 ≤ x9_1
   rotate_left
   ·rw [if_neg c5] at H;cases H
   rw [if_pos c5] at H;have c5b0 := decide_eq_true c5;clear c5;by_cases c6 : x9_1 < (l0_1.length : Int)
   rotate_left
   ·rw [if_neg c6] at H;cases H
   rw [if_pos c6] at H;have c6b0 := decide_eq_true c6;clear c6;obtain ⟨bq7, hbq7⟩ : ∃ b_ : Bool, b_ = (yf false l0_1 x9_1) := ⟨_, rfl⟩;rw [← hbq7] at H;have Nbq7 := qa.mk hbq7;clear hbq7;by_cases c8 : bq7 = true
   rotate_left
   ·replace c8 := Bool.eq_false_iff.mpr c8;subst c8;rw [if_neg zF] at H;have H' := qa.mk H;clear H;obtain ⟨⟨ad242, e242, hx242_0⟩, p242, q242⟩ := zW (Kd.at_bool HR0_1.out x9_1);(try rw [← Nbq7.out] at hx242_0)
    cases e242;replace hx242_0 := zx HB.out hx242_0;go_wp2;go_roundg k1;case measure => have := HK1.out; omega
    case rel => exact ⟨(x3_1), (wrap64 (x9_1 + 1)), zE, zE, H', zO HK1, ⟨zb BK241.out⟩, ⟨zh HB.out⟩⟩
   subst c8;rw [if_pos rfl] at H;have c9b0 := eq_true (zk : 0 ≤ x9_1);obtain ⟨ji10, hji10⟩ : ∃ j_ : Int, (shl .i64 1 x9_1) = j_ := ⟨_, rfl⟩;rw [hji10] at H;obtain ⟨hji10_, hji10z, hji10u, hji10v, hji10y, hji10x⟩ := zJ1 hji10;have H' := qa.mk H;clear H;obtain ⟨⟨ad242, e242, hx242_0⟩, p242, q242⟩ := zW (Kd.at_bool HR0_1.out x9_1);(try rw [← Nbq7.out] at hx242_0)
   cases e242;replace hx242_0 := zx HB.out hx242_0;go_wp2;go_roundg k1;case measure => have := HK1.out; omega
   case rel => exact ⟨(Go.bits .or .i64 x3_1 (ji10)), (wrap64 (x9_1 + 1)), (by first | rfl | (simp; done) | (simp only [← hji10] <;> (first | rfl | simp)) | (simp [*]; done)), zE, H', zO HK1, ⟨zb BK241.out⟩, ⟨zh HB.out⟩⟩
mutual
def Od.l0 : Nat → List Int → Int → Int → Int → Int → Option (List Int × Bool)
 | 0, _, _, _, _, _ => none
 | k + 1, x0, x2, x3, x4, x12 => if x12 < (x0.length : Int) then (if 0 ≤ x12 then ((Od.f k x0 (wrap64 (x12 + 1)) (wrap64 (x2 - 1)) (Go.bits .and .i64 x3 (rd x0 x12)) x4).bind fun bt291 => (if bt291.2 = true then ((some (([x12] : List Int) : List Int)).bind fun y295 => (if y295.length + bt291.1.length < 17592186044416 then (some ((y295 ++ bt291.1), true)) else (none))) else (Od.l0 k x0 x2 x3 x4 (wrap64 (x12 + 1))))) else (none)) else (some (([] : List Int), false))
def Od.f : Nat → List Int → Int → Int → Int → Int → Option (List Int × Bool)
 | 0, _, _, _, _, _ => none
 | k + 1, l0, a1, a2, a3, a4 => if a2 = 0 then (some (([] : List Int), (a3 == a4))) else (Od.l0 k l0 a2 a3 a4 a1)
end
theorem Od.calls (k : Nat) : ∀ (A0 : Option Addr) (c0 : Nat) (l0 : List Int) (a1 : Int) (a2 : Int) (a3 : Int) (a4 : Int) (r1 : List Int) (r2 : Bool) (w : World) (hr0 : Kd.C (Kd.int .i64) w A0 l0.length l0) (hc0 : l0.length ≤ c0) (h : Od.f k l0 a1 a2 a3 a4 = some (r1, r2)),
 Calls Tryz.prog 60 #[.slice A0 l0.length c0, .int .i64 a1, .int .i64 a2, .int .i64 a3, .int .i64 a4] w fun e w' => ∃ v0_ : Value, e = .returned (.tuple #[v0_, .bool r2]) ∧ Kd.R (Kd.int .i64) 3 w' w.heap.size (fun _ => True) v0_ r1 ∧ Below w.heap.size w w' := by
 induction k using Nat.strongRecOn with
 | _ k ih =>
 intro A0 c0 l0 a1 a2 a3 a4 r1 r2 w hr0 hc0 h;cases k with
 | zero => exact absurd h (by simp [Od.f])
 | succ k =>
 simp only [Od.f] at h;have HR0 := qa.mk hr0;have HC0 := qa.mk hc0;clear hr0 hc0;have HB := qa.mk (Below.refl w.heap.size w);have H : (if a2 = 0 then (some (([] : List Int), (a3 == a4))) else (Od.l0 k l0 a2 a3 a4 a1)) = some (r1, r2) := h;clear h;by_cases c6 : a2 = 0
 ·rw [if_pos c6] at H;have c6b0 := beq_iff_eq.mpr c6;have c6b1 := bne_eq_false_iff_eq.mpr c6;clear c6;simp only [Option.some.injEq, Prod.mk.injEq] at H;obtain ⟨rfl, rfl⟩ := H;go_enter Tryz.func60, Tryz.ntmps60;go_wp2;go_ret2
  exact ⟨_, zL0, by first | exact Kd.R_nil _ _ _ _ _ | exact Kd.N_nil _ _ _ _ _ | exact Kd.V_nil _ _ _ _ _ | exact Kd.Q_nil _ _ _ _ _ | exact Kd.S_nil _ _ _ _ _, zh HB.out⟩
 rw [if_neg c6] at H;have c6b0 := beq_eq_false_iff_ne.mpr c6;have c6b1 := bne_iff_ne.mpr c6;have H' := qa.mk H;clear H;go_enter Tryz.func60, Tryz.ntmps60;go_wp2;go_loopg [12] k (fun kq v12 w' => ∃ (x12_1 : Int), v12 = .int .i64 x12_1 ∧ qa (Od.l0 kq l0 a2 a3 a4 x12_1 = some (r1, r2)) ∧ qa (kq ≤ k) ∧ qa (Below w.heap.size w w'));case atStart => exact ⟨(a1), zE, H', ⟨Nat.le_refl _⟩, ⟨zh HB.out⟩⟩
 case round =>
  clear H';try clear p2
  try clear c6
  try clear c6b0
  try clear c6b1
  obtain ⟨x12_1, rfl, HA, HK1, HB⟩ := hrel;cases gk with
  | zero => exact absurd HA.out (by simp [Od.l0])
  | succ k1 =>
   have H := HA.out;clear HA;simp only [Od.l0] at H;by_cases c7 : x12_1 < (l0.length : Int)
   rotate_left
   ·rw [if_neg c7] at H;have c7b0 := decide_eq_false c7;clear c7;simp only [Option.some.injEq, Prod.mk.injEq] at H;obtain ⟨rfl, rfl⟩ := H;go_wp2;go_ret2
    exact ⟨_, zL0, by first | exact Kd.R_nil _ _ _ _ _ | exact Kd.N_nil _ _ _ _ _ | exact Kd.V_nil _ _ _ _ _ | exact Kd.Q_nil _ _ _ _ _ | exact Kd.S_nil _ _ _ _ _, zh HB.out⟩
   rw [if_pos c7] at H;have c7b0 := decide_eq_true c7;clear c7;by_cases c8 : 0 ≤ x12_1
   rotate_left
   ·rw [if_neg c8] at H;cases H
   rw [if_pos c8] at H;have c8b0 := decide_eq_true c8;clear c8;replace H := zB0 H;obtain ⟨⟨t291, t292⟩, A90, H⟩ := H;replace H : (if t292 = true then ((some (([x12_1] : List Int) : List Int)).bind fun y295 => (if y295.length + t291.length < 17592186044416 then (some ((y295 ++ t291), true)) else (none))) else (Od.l0 k1 l0 a2 a3 a4 (wrap64 (x12_1 + 1)))) = some (r1, r2) := H;have A9 := qa.mk A90;clear A90;by_cases c10 : t292 = true
   rotate_left
   ·replace c10 := Bool.eq_false_iff.mpr c10;subst c10;rw [if_neg zF] at H;have H' := qa.mk H;clear H;obtain ⟨⟨ad290, e290, hx290_0⟩, p290, q290⟩ := zW (Kd.at_int HR0.out x12_1);cases e290;replace hx290_0 := zx HB.out hx290_0;go_wp2_with (first | ((with_reducible refine Va (f := 60) rfl ?_); refine zl 40 Tryz.func60 #[.slice (some ad290) l0.length c0, .int .i64 (wrap64 (x12_1 + 1)), .int .i64 (wrap64 (a2 - 1)), .int .i64 (Go.bits .and .i64 a3 (rd l0 x12_1)), .int .i64 a4] ?_; (with_reducible refine (ih k1 (by have := HK1.out; omega) _ _ l0 (wrap64 (x12_1 + 1)) (wrap64 (a2 - 1)) (Go.bits .and .i64 a3 (rd l0 x12_1)) a4 t291 false _ ?side1 ?side2 A9.out).mono ?_); (case side1 => exact zQ (Kd.C_below HR0.out HB.out)); (case side2 => exact HC0.out); rintro e w17 ⟨v293, rfl, ho0, hb⟩; refine ⟨_, rfl, ?_⟩; have HO294 := qa.mk (Kd.R_lower ho0 (Ua (zh HB.out))); replace HB := zH hb HB; clear hb; (try clear ho0)));go_roundg k1;case measure => have := HK1.out; omega
    case rel => exact ⟨(wrap64 (x12_1 + 1)), zE, H', zO HK1, ⟨zh HB.out⟩⟩
   subst c10;rw [if_pos rfl] at H;replace H := zY H;obtain ⟨y295, Ny295, H⟩ := H;by_cases c11 : y295.length + t291.length < 17592186044416
   rotate_left
   ·rw [if_neg c11] at H;cases H
   rw [if_pos c11] at H;have LMc11 := qa.mk c11;clear c11;obtain ⟨y298, hy298⟩ : ∃ y_ : List Int, y_ = (y295 ++ t291) := ⟨_, rfl⟩;rw [← hy298] at H;have Ny298 := qa.mk hy298;clear hy298;simp only [Option.some.injEq, Prod.mk.injEq] at H;obtain ⟨rfl, rfl⟩ := H;obtain ⟨⟨ad290, e290, hx290_0⟩, p290, q290⟩ := zW (Kd.at_int HR0.out x12_1);cases e290;replace hx290_0 := zx HB.out hx290_0;go_wp2_with (first | ((with_reducible refine Va (f := 60) rfl ?_); refine zl 40 Tryz.func60 #[.slice (some ad290) l0.length c0, .int .i64 (wrap64 (x12_1 + 1)), .int .i64 (wrap64 (a2 - 1)), .int .i64 (Go.bits .and .i64 a3 (rd l0 x12_1)), .int .i64 a4] ?_; (with_reducible refine (ih k1 (by have := HK1.out; omega) _ _ l0 (wrap64 (x12_1 + 1)) (wrap64 (a2 - 1)) (Go.bits .and .i64 a3 (rd l0 x12_1)) a4 t291 true _ ?side1 ?side2 A9.out).mono ?_); (case side1 => exact zQ (Kd.C_below HR0.out HB.out)); (case side2 => exact HC0.out); rintro e w12 ⟨v293, rfl, ho0, hb⟩; refine ⟨_, rfl, ?_⟩; have HO294 := qa.mk (Kd.R_lower ho0 (Ua (zh HB.out))); replace HB := zH hb HB; clear hb; (try clear ho0)) | ((with_reducible refine Ma (N := 45) rfl ?_); refine Kd.R_lit (Kd.int .i64) _ 3 ?hg (N := 45) ?hd (xs := ([x12_1] : List Int)) (inner := [.int .i64 x12_1]) (ok := fun _ => True) (okp := fun _ => True) ?hr ?hp (fun _ hk => hk) trivial (Below.refl _ _) (Nat.le_refl _) (by simp) ?_; (case hd => rfl); (case hg => rfl); (case hr => first | (go_simp; done) | (go_simp; rfl)); (case hp => exact (qg.one (show Kd.M (Kd.int .i64) _ _ _ x12_1 [.int .i64 x12_1] from rfl) (qg.none _ _))); intro v296 w13 ho14 hb hg_ hnew_; clear hg_ hnew_; (first | rw [← Ny295.out] at ho14 | (simp only [Int.reduceToNat] at ho14; rw [← Ny295.out] at ho14)); have HO297 := qa.mk (Kd.R_lower (Kd.R_new' ho14 (Kd.R_lt (zr HO294.out))) (Ua (zh HB.out))); replace HO294 := qa.mk (Kd.R_elder' (zr HO294.out) (Kd.R_base ho14) hb); replace HB := zH hb HB; clear hb ho14; obtain ⟨Ao16, co16, eo16⟩ := Kd.R_slice HO294.out; subst eo16) | ((with_reducible refine Uc (b := .append) (xs := #[.tmp 45, .tmp 46]) rfl ?_); at_builtin; refine Kd.R_append_rows (Kd.int .i64) (w0 := w) w.heap.size rfl (.tmp 45) (.tmp 46) 35 3 (.int .i64 0) 8 rfl Tryz.underlying35 info3 rfl (by decide) (by omega) v296 y295 t291 _ _ _ (fun k_ => some k_ ≠ (.slice Ao16 t291.length co16 : Value).ownBlock) (fun _ => False) rfl rfl ?aO ?aR (fun _ _ h => h) (fun _ h => h.elim) ?aF ?aB ?aS ?aL ?_; (case aR => exact zQ ((Kd.R_reads' HO294.out).2.2)); (case aB => exact (zh HB.out)); (case aF => exact (fun k_ hk => Kd.fresh' (Kd.R_lt (zr HO294.out)) k_ hk)); (case aO => exact (zr (Kd.R_mono HO297.out (fun _ hk => hk.2)))); (case aS => exact (Ua (zh HB.out))); (case aL => have := LMc11.out; omega); intro v299 w15 ho hb hg hat; rw [← Ny298.out] at ho; have HO300 := qa.mk (ho); replace HO294 := qa.mk (Kd.R_after (ok := (fun _ => True)) (zr HO294.out) hg hat); replace HB := qa.mk (hb); clear HO297 ho hb hg hat));go_ret2
   exact ⟨_, zL0, by (with_reducible repeat (first | apply Kd.R_alloc | apply Kd.R_drewN | apply Kd.R_drew)); exact Kd.R_mono HO300.out (fun _ hk => trivial), zh HB.out⟩
def Ub.l0 : Nat → Int → Int → List Int → Int → Int → Option (Int)
 | 0, _, _, _, _, _ => none
 | k + 1, x1, x5, x9, x10, x11 => if x11 < x10 then (if 0 ≤ x11 then (if x11 < (x9.length : Int) then ((yg.f x1 x11).bind fun t303 => (if t303 = true then (Ub.l0 k x1 (wrap64 (x5 + (rd x9 x11))) x9 x10 (wrap64 (x11 + 1))) else (Ub.l0 k x1 x5 x9 x10 (wrap64 (x11 + 1))))) else (none)) else (none)) else (some x5)
def Ub.f (k : Nat) (a0_0 : Int) (l0_1 : List Int) (a1 : Int) : Option (Int) := Ub.l0 k a1 0 l0_1 (l0_1.length : Int) 0
theorem Ub.calls (k : Nat) (a0_0 : Int) (A0_1 : Option Addr) (c0_1 : Nat) (l0_1 : List Int) (a1 : Int) (r : Int) (w : World) (hr0_1 : Kd.C (Kd.int .i64) w A0_1 l0_1.length l0_1) (hc0_1 : l0_1.length ≤ c0_1) (h : Ub.f k a0_0 l0_1 a1 = some r) :
 Calls Tryz.prog 116 #[.agg #[.int .i64 a0_0, .slice A0_1 l0_1.length c0_1], .int .i64 a1] w fun e w' => e = .returned (.int .i64 r) ∧ Below w.heap.size w w' := by
 have hu40 := Tryz.underlying40;have HR0_1 := qa.mk hr0_1;have HC0_1 := qa.mk hc0_1;clear hr0_1 hc0_1;have HB := qa.mk (Below.refl w.heap.size w);have H : (Ub.l0 k a1 0 l0_1 (l0_1.length : Int) 0) = some r := h;clear h;have H' := qa.mk H;clear H;go_enter Tryz.func116, Tryz.ntmps116;go_wp2_with (first | ((with_reducible refine Ma (N := 2) rfl ?_); refine zq 2 #[.int .i64 a0_0, .slice A0_1 l0_1.length c0_1] 40 ?_; intro gb301 hg w3 hbox hb; have GW301 := zG hg HB; replace HB := zH hb HB; have BK301 := qa.mk hbox; have GE301 := GW301; clear hb hbox hg; obtain ⟨hcz4_0, hcz4_1, hfz4_0, hfz4_1⟩ := zC2 BK301));go_loopg [5, 11] k (fun kq v5 v11 w' => ∃ (x5_1 : Int) (x11_1 : Int), v5 = .int .i64 x5_1 ∧ v11 = .int .i64 x11_1 ∧ qa (Ub.l0 kq a1 x5_1 l0_1 (l0_1.length : Int) x11_1 = some r) ∧ qa (kq ≤ k) ∧ qa (w'.heap[gb301]? = some (.cells #[.int .i64 a0_0, (.slice A0_1 l0_1.length c0_1)] 40 (0, 0))) ∧ qa (Below w.heap.size w w'));case atStart => exact ⟨(0), (0), zE, zE, H', ⟨Nat.le_refl _⟩, ⟨zb BK301.out⟩, ⟨zh HB.out⟩⟩
 case round =>
  clear H';try clear c1
  try clear p2
  try clear hcz4_0
  try clear hcz4_1
  try clear hfz4_0
  try clear hfz4_1
  obtain ⟨x5_1, x11_1, rfl, rfl, HA, HK1, BK301, HB⟩ := hrel;cases gk with
  | zero => exact absurd HA.out (by simp [Ub.l0])
  | succ k1 =>
   have H := HA.out;clear HA;simp only [Ub.l0] at H;by_cases c5 : x11_1 < (l0_1.length : Int)
   rotate_left
   ·rw [if_neg c5] at H;have c5b0 := decide_eq_false c5;clear c5;obtain rfl := Option.some.inj H;go_wp2;go_ret;exact ⟨zL0, zh HB.out⟩
   rw [if_pos c5] at H;have c5b0 := decide_eq_true c5;clear c5;by_cases c6 : 0 ≤ x11_1
   rotate_left
   ·rw [if_neg c6] at H;cases H
   rw [if_pos c6] at H;have c6b0 := decide_eq_true c6;clear c6;by_cases c7 : x11_1 < (l0_1.length : Int)
   rotate_left
   ·rw [if_neg c7] at H;cases H
   rw [if_pos c7] at H;have c7b0 := decide_eq_true c7;clear c7;replace H := zB0 H;obtain ⟨t303, A80, H⟩ := H;have A8 := qa.mk A80;clear A80;by_cases c9 : t303 = true
   ·subst c9;rw [if_pos rfl] at H;have H' := qa.mk H;clear H;obtain ⟨⟨ad302, e302, hx302_0⟩, p302, q302⟩ := zW (Kd.at_int HR0_1.out x11_1);cases e302;replace hx302_0 := zx HB.out hx302_0;go_wp2_with (first | ((with_reducible refine Va (f := 111) rfl ?_); refine zl 18 Tryz.func111 #[.int .i64 a1, .int .i64 x11_1] ?_; (with_reducible refine (yg.calls a1 x11_1 true _ A8.out).mono ?_); rintro e w' ⟨rfl, ⟨nd, rfl⟩⟩; refine ⟨_, rfl, ?_⟩));go_roundg k1;case measure => have := HK1.out; omega
    case rel => exact ⟨(wrap64 (x5_1 + (rd l0_1 x11_1))), (wrap64 (x11_1 + 1)), zE, zE, H', zO HK1, ⟨zb BK301.out⟩, ⟨zh HB.out⟩⟩
   replace c9 := Bool.eq_false_iff.mpr c9;subst c9;rw [if_neg zF] at H;have H' := qa.mk H;clear H;obtain ⟨⟨ad302, e302, hx302_0⟩, p302, q302⟩ := zW (Kd.at_int HR0_1.out x11_1);cases e302;replace hx302_0 := zx HB.out hx302_0;go_wp2_with (first | ((with_reducible refine Va (f := 111) rfl ?_); refine zl 18 Tryz.func111 #[.int .i64 a1, .int .i64 x11_1] ?_; (with_reducible refine (yg.calls a1 x11_1 false _ A8.out).mono ?_); rintro e w' ⟨rfl, ⟨nd, rfl⟩⟩; refine ⟨_, rfl, ?_⟩));go_roundg k1;case measure => have := HK1.out; omega
   case rel => exact ⟨(x5_1), (wrap64 (x11_1 + 1)), zE, zE, H', zO HK1, ⟨zb BK301.out⟩, ⟨zh HB.out⟩⟩
def Pe.l0 : Nat → List Int → List Int → Int → Int → Option (Bool)
 | 0, _, _, _, _ => none
 | k + 1, x0, x1, x12, x13 => if x13 < x12 then (if 0 ≤ x13 then (if x13 < (x0.length : Int) then (if x13 < (x1.length : Int) then (if (rd x0 x13) = (rd x1 x13) then (Pe.l0 k x0 x1 x12 (wrap64 (x13 + 1))) else (some false)) else (none)) else (none)) else (none)) else (some true)
def Pe.f (k : Nat) (l0 : List Int) (l1 : List Int) : Option (Bool) := if (l0.length : Int) = (l1.length : Int) then (Pe.l0 k l0 l1 (l0.length : Int) 0) else (some false)
theorem Pe.calls (k : Nat) (A0 : Option Addr) (c0 : Nat) (l0 : List Int) (A1 : Option Addr) (c1 : Nat) (l1 : List Int) (r : Bool) (w : World) (hr0 : Kd.C (Kd.int .i64) w A0 l0.length l0) (hc0 : l0.length ≤ c0) (hr1 : Kd.C (Kd.int .i64) w A1 l1.length l1) (hc1 : l1.length ≤ c1) (h : Pe.f k l0 l1 = some r) :
 Calls Tryz.prog 71 #[.slice A0 l0.length c0, .slice A1 l1.length c1] w fun e w' => e = .returned (.bool r) ∧ Jd w w' := by
 have HR0 := qa.mk hr0;have HC0 := qa.mk hc0;clear hr0 hc0;have HR1 := qa.mk hr1;have HC1 := qa.mk hc1;clear hr1 hc1;have H : (if (l0.length : Int) = (l1.length : Int) then (Pe.l0 k l0 l1 (l0.length : Int) 0) else (some false)) = some r := h;clear h;by_cases c3 : (l0.length : Int) = (l1.length : Int)
 rotate_left
 ·rw [if_neg c3] at H;have c3b0 := beq_eq_false_iff_ne.mpr c3;have c3b1 := bne_iff_ne.mpr c3;have c3b2 : (l0.length == l1.length) = false := by first | simpa using c3 | (simp at c3 ⊢; omega)
  obtain rfl := Option.some.inj H;go_enter Tryz.func71, Tryz.ntmps71;go_wp2;repeat (go_quiet (fail); try go_wp2)
  go_ret;exact za1
 rw [if_pos c3] at H;have c3b0 := beq_iff_eq.mpr c3;have c3b1 := bne_eq_false_iff_eq.mpr c3;have c3b2 : (l0.length == l1.length) = true := by first | simpa using c3 | (simp at c3 ⊢; omega)
 clear c3;have H' := qa.mk H;clear H;go_enter Tryz.func71, Tryz.ntmps71;go_wp2;repeat (go_quiet (fail); try go_wp2)
 go_loopg [13] k (fun kq v13 w' => ∃ (x13_1 : Int), v13 = .int .i64 x13_1 ∧ qa (Pe.l0 kq l0 l1 (l0.length : Int) x13_1 = some r) ∧ qa (kq ≤ k) ∧ Jd w w');case atStart => exact ⟨(0), zE, H', ⟨Nat.le_refl _⟩, zD⟩
 case round =>
  clear H';try clear c1
  try clear p2
  try clear c3
  try clear c3b0
  try clear c3b1
  try clear c3b2
  obtain ⟨x13_1, rfl, HA, HK1, ⟨m1, rfl⟩⟩ := hrel;cases gk with
  | zero => exact absurd HA.out (by simp [Pe.l0])
  | succ k1 =>
   have H := HA.out;clear HA;simp only [Pe.l0] at H;by_cases c4 : x13_1 < (l0.length : Int)
   rotate_left
   ·rw [if_neg c4] at H;have c4b0 := decide_eq_false c4;clear c4;obtain rfl := Option.some.inj H;go_wp2;repeat (go_quiet (fail); try go_wp2)
    go_ret;exact za1
   rw [if_pos c4] at H;have c4b0 := decide_eq_true c4;clear c4;by_cases c5 : 0 ≤ x13_1
   rotate_left
   ·rw [if_neg c5] at H;cases H
   rw [if_pos c5] at H;have c5b0 := decide_eq_true c5;clear c5;by_cases c6 : x13_1 < (l0.length : Int)
   rotate_left
   ·rw [if_neg c6] at H;cases H
   rw [if_pos c6] at H;have c6b0 := decide_eq_true c6;clear c6;by_cases c7 : x13_1 < (l1.length : Int)
   rotate_left
   ·rw [if_neg c7] at H;cases H
   rw [if_pos c7] at H;have c7b0 := decide_eq_true c7;clear c7;by_cases c8 : (rd l0 x13_1) = (rd l1 x13_1)
   rotate_left
   ·rw [if_neg c8] at H;have c8b0 := beq_eq_false_iff_ne.mpr c8;have c8b1 := bne_iff_ne.mpr c8;obtain rfl := Option.some.inj H;obtain ⟨⟨ad512, e512, hx512_0⟩, p512, q512⟩ := zW (Kd.at_int HR0.out x13_1);cases e512;obtain ⟨⟨ad513, e513, hx513_0⟩, p513, q513⟩ := zW (Kd.at_int HR1.out x13_1);cases e513;go_wp2;repeat (go_quiet (fail); try go_wp2)
    go_ret;exact za1
   rw [if_pos c8] at H;have c8b0 := beq_iff_eq.mpr c8;have c8b1 := bne_eq_false_iff_eq.mpr c8;clear c8;have H' := qa.mk H;clear H;obtain ⟨⟨ad512, e512, hx512_0⟩, p512, q512⟩ := zW (Kd.at_int HR0.out x13_1);cases e512;obtain ⟨⟨ad513, e513, hx513_0⟩, p513, q513⟩ := zW (Kd.at_int HR1.out x13_1);cases e513;go_wp2;repeat (go_quiet (fail); try go_wp2)
   go_roundg k1;case measure => have := HK1.out; omega
   case rel => exact ⟨(wrap64 (x13_1 + 1)), zE, H', zO HK1, zD⟩
def qh.f (k : Nat) (a0_0 : Int) (l0_1 : List Int) (a1_0 : Int) (l1_1 : List Int) : Option (Bool) := if a0_0 = a1_0 then ((Pe.f k l0_1 l1_1).bind fun t516 => (some t516)) else (some false)
theorem qh.calls (k : Nat) (a0_0 : Int) (A0_1 : Option Addr) (c0_1 : Nat) (l0_1 : List Int) (a1_0 : Int) (A1_1 : Option Addr) (c1_1 : Nat) (l1_1 : List Int) (r : Bool) (w : World) (hr0_1 : Kd.C (Kd.int .i64) w A0_1 l0_1.length l0_1) (hc0_1 : l0_1.length ≤ c0_1) (hr1_1 : Kd.C (Kd.int .i64) w A1_1 l1_1.length l1_1) (hc1_1 : l1_1.length ≤ c1_1) (h : qh.f k a0_0 l0_1 a1_0 l1_1 = some r) :
 Calls Tryz.prog 31 #[.agg #[.int .i64 a0_0, .slice A0_1 l0_1.length c0_1], .agg #[.int .i64 a1_0, .slice A1_1 l1_1.length c1_1]] w fun e w' => e = .returned (.bool r) ∧ Below w.heap.size w w' := by
 have hu40 := Tryz.underlying40;have HR0_1 := qa.mk hr0_1;have HC0_1 := qa.mk hc0_1;clear hr0_1 hc0_1;have HR1_1 := qa.mk hr1_1;have HC1_1 := qa.mk hc1_1;clear hr1_1 hc1_1;have HB := qa.mk (Below.refl w.heap.size w);have H : (if a0_0 = a1_0 then ((Pe.f k l0_1 l1_1).bind fun t516 => (some t516)) else (some false)) = some r := h;clear h;by_cases c3 : a0_0 = a1_0
 rotate_left
 ·rw [if_neg c3] at H;have c3b0 := beq_eq_false_iff_ne.mpr c3;have c3b1 := bne_iff_ne.mpr c3;obtain rfl := Option.some.inj H;go_enter Tryz.func31, Tryz.ntmps31;go_wp2_with (first | ((with_reducible refine Ma (N := 2) rfl ?_); refine zq 2 #[.int .i64 a0_0, .slice A0_1 l0_1.length c0_1] 40 ?_; intro gb514 hg w10 hbox hb; have GW514 := zG hg HB; replace HB := zH hb HB; have BK514 := qa.mk hbox; have GE514 := GW514; clear hb hbox hg) | ((with_reducible refine Ma (N := 3) rfl ?_); refine zq 3 #[.int .i64 a1_0, .slice A1_1 l1_1.length c1_1] 40 ?_; intro gb515 hg w11 hbox hb; have BK515 := qa.mk hbox; have GW515 := zG hg HB; have GE515 := zG hg HB; have NB514_515 := zNa hg BK514; have NB515_514 := zNb hg BK514; replace BK514 := zK BK514 hb; replace HB := zH hb HB; clear hb hbox hg; have hnb12 := NB514_515.out; have hnc12 := NB515_514.out; obtain ⟨hcz13_0, hcz13_1, hfz13_0, hfz13_1⟩ := zC2 BK514; obtain ⟨hcz14_0, hcz14_1, hfz14_0, hfz14_1⟩ := zC2 BK515));go_ret;exact ⟨zL0, zh HB.out⟩
 rw [if_pos c3] at H;have c3b0 := beq_iff_eq.mpr c3;have c3b1 := bne_eq_false_iff_eq.mpr c3;clear c3;replace H := zB0 H;obtain ⟨t516, A40, H⟩ := H;have A4 := qa.mk A40;clear A40;obtain rfl := Option.some.inj H;go_enter Tryz.func31, Tryz.ntmps31;go_wp2_with (first | ((with_reducible refine Ma (N := 2) rfl ?_); refine zq 2 #[.int .i64 a0_0, .slice A0_1 l0_1.length c0_1] 40 ?_; intro gb514 hg w5 hbox hb; have GW514 := zG hg HB; replace HB := zH hb HB; have BK514 := qa.mk hbox; have GE514 := GW514; clear hb hbox hg) | ((with_reducible refine Ma (N := 3) rfl ?_); refine zq 3 #[.int .i64 a1_0, .slice A1_1 l1_1.length c1_1] 40 ?_; intro gb515 hg w6 hbox hb; have BK515 := qa.mk hbox; have GW515 := zG hg HB; have GE515 := zG hg HB; have NB514_515 := zNa hg BK514; have NB515_514 := zNb hg BK514; replace BK514 := zK BK514 hb; replace HB := zH hb HB; clear hb hbox hg; have hnb7 := NB514_515.out; have hnc7 := NB515_514.out; obtain ⟨hcz8_0, hcz8_1, hfz8_0, hfz8_1⟩ := zC2 BK514; obtain ⟨hcz9_0, hcz9_1, hfz9_0, hfz9_1⟩ := zC2 BK515) | (go_at_call 71; (with_reducible refine (Pe.calls k _ _ l0_1 _ _ l1_1 t516 _ ?side1 ?side2 ?side3 ?side4 A4.out).mono ?_); (case side1 => exact zQ (Kd.C_below HR0_1.out HB.out)); (case side2 => exact HC0_1.out); (case side3 => exact zQ (Kd.C_below HR1_1.out HB.out)); (case side4 => exact HC1_1.out); rintro e w' ⟨rfl, ⟨nd, rfl⟩⟩));go_ret;exact ⟨zL0, zh HB.out⟩
def La.l0 : Nat → List (S40) → List (S40) → Int → Int → Option (Bool)
 | 0, _, _, _, _ => none
 | k + 1, x0, x1, x12, x13 => if x13 < x12 then (if 0 ≤ x13 then (if x13 < (x0.length : Int) then (if x13 < (x1.length : Int) then ((qh.f k ((yc x0 x13).f0) ((yc x0 x13).f1) ((yc x1 x13).f0) ((yc x1 x13).f1)).bind fun t519 => (if t519 = true then (La.l0 k x0 x1 x12 (wrap64 (x13 + 1))) else (some false))) else (none)) else (none)) else (none)) else (some true)
def La.f (k : Nat) (l0 : List (S40)) (l1 : List (S40)) : Option (Bool) := if (l0.length : Int) = (l1.length : Int) then (La.l0 k l0 l1 (l0.length : Int) 0) else (some false)
def La.T6 : Bool × List (List Nat × List Nat) := (true, [([], []), ([], []), ([0, 1], [0, 1]), ([2], [2]), ([], []), ([], []), ([4, 5], [4, 5]), ([6], [6]), ([3, 7], [3, 7]), ([8], [8])])
def La.B6 : List Nat := [0, 0, 3, 7, 0, 0, 48, 112, 255, 511]
theorem La.tab6 : ym .any (opsOf Tryz.f9 6) = La.T6 := by kernel_rfl
theorem La.bits6 : Vj La.T6.2 La.B6 = true := by kernel_rfl
theorem La.calls (k : Nat) (A0 : Option Addr) (c0 : Nat) (l0 : List (S40)) (A1 : Option Addr) (c1 : Nat) (l1 : List (S40)) (r : Bool) (w : World) (hr0 : Kd.C k40 w A0 l0.length l0) (hc0 : l0.length ≤ c0) (hr1 : Kd.C k40 w A1 l1.length l1) (hc1 : l1.length ≤ c1) (h : La.f k l0 l1 = some r) :
 Calls Tryz.prog 9 #[.slice A0 l0.length c0, .slice A1 l1.length c1] w fun e w' => e = .returned (.bool r) ∧ Below w.heap.size w w' := by
 have hu40 := Tryz.underlying40;have HR0 := qa.mk hr0;have HC0 := qa.mk hc0;clear hr0 hc0;have HR1 := qa.mk hr1;have HC1 := qa.mk hc1;clear hr1 hc1;have HB := qa.mk (Below.refl w.heap.size w);have H : (if (l0.length : Int) = (l1.length : Int) then (La.l0 k l0 l1 (l0.length : Int) 0) else (some false)) = some r := h;clear h;by_cases c3 : (l0.length : Int) = (l1.length : Int)
 rotate_left
 ·rw [if_neg c3] at H;have c3b0 := beq_eq_false_iff_ne.mpr c3;have c3b1 := bne_iff_ne.mpr c3;have c3b2 : (l0.length == l1.length) = false := by first | simpa using c3 | (simp at c3 ⊢; omega)
  obtain rfl := Option.some.inj H;go_enter Tryz.func9, Tryz.ntmps9;go_wp2;go_ret;exact ⟨zL0, zh HB.out⟩
 rw [if_pos c3] at H;have c3b0 := beq_iff_eq.mpr c3;have c3b1 := bne_eq_false_iff_eq.mpr c3;have c3b2 : (l0.length == l1.length) = true := by first | simpa using c3 | (simp at c3 ⊢; omega)
 clear c3;have H' := qa.mk H;clear H;go_enter Tryz.func9, Tryz.ntmps9;go_wp2;go_loopg [13] k (fun kq v13 w' => ∃ (x13_1 : Int), v13 = .int .i64 x13_1 ∧ qa (La.l0 kq l0 l1 (l0.length : Int) x13_1 = some r) ∧ qa (kq ≤ k) ∧ qa (Below w.heap.size w w'));case atStart => exact ⟨(0), zE, H', ⟨Nat.le_refl _⟩, ⟨zh HB.out⟩⟩
 case round =>
  clear H';try clear c1
  try clear p2
  try clear c3
  try clear c3b0
  try clear c3b1
  try clear c3b2
  obtain ⟨x13_1, rfl, HA, HK1, HB⟩ := hrel;cases gk with
  | zero => exact absurd HA.out (by simp [La.l0])
  | succ k1 =>
   have H := HA.out;clear HA;simp only [La.l0] at H;by_cases c4 : x13_1 < (l0.length : Int)
   rotate_left
   ·rw [if_neg c4] at H;have c4b0 := decide_eq_false c4;clear c4;obtain rfl := Option.some.inj H;go_wp2;go_ret;exact ⟨zL0, zh HB.out⟩
   rw [if_pos c4] at H;have c4b0 := decide_eq_true c4;clear c4;by_cases c5 : 0 ≤ x13_1
   rotate_left
   ·rw [if_neg c5] at H;cases H
   rw [if_pos c5] at H;have c5b0 := decide_eq_true c5;clear c5;by_cases c6 : x13_1 < (l0.length : Int)
   rotate_left
   ·rw [if_neg c6] at H;cases H
   rw [if_pos c6] at H;have c6b0 := decide_eq_true c6;clear c6;by_cases c7 : x13_1 < (l1.length : Int)
   rotate_left
   ·rw [if_neg c7] at H;cases H
   rw [if_pos c7] at H;have c7b0 := decide_eq_true c7;clear c7;replace H := zB0 H;obtain ⟨t519, A80, H⟩ := H;have A8 := qa.mk A80;clear A80;by_cases c9 : t519 = true
   rotate_left
   ·replace c9 := Bool.eq_false_iff.mpr c9;subst c9;rw [if_neg zF] at H;obtain rfl := Option.some.inj H;try go_wp2
    have n0_ := qa.mk (Ud HB.out);clear HB;have HB := n0_;clear n0_;obtain ⟨⟨ad517, A517_1, c517_1, e517, hx517_0, hx517_1, hl517_1, hi517_1⟩, p517, q517⟩ := zW (Jo HR0.out x13_1);have hw517_1 := hx517_1;have hw517_0 := hx517_0;cases e517;replace hx517_0 := zx HB.out hx517_0;replace hx517_1 := zx HB.out hx517_1;have HR517_1 := qa.mk hi517_1;have HC517_1 := qa.mk hl517_1;clear hi517_1 hl517_1;obtain ⟨⟨ad518, A518_1, c518_1, e518, hx518_0, hx518_1, hl518_1, hi518_1⟩, p518, q518⟩ := zW (Jo HR1.out x13_1);have hw518_1 := hx518_1;have hw518_0 := hx518_0;cases e518;replace hx518_0 := zx HB.out hx518_0;replace hx518_1 := zx HB.out hx518_1;have HR518_1 := qa.mk hi518_1;have HC518_1 := qa.mk hl518_1;clear hi518_1 hl518_1;refine Kg (n := 10) (S := fun w' => w'.cell? (ad517.add ((x13_1).toNat * 2)) = some (.int .i64 ((yc l0 x13_1).f0)) ∧ w'.cell? ⟨(ad517.add ((x13_1).toNat * 2)).block, (ad517.add ((x13_1).toNat * 2)).off + 1, none⟩ = some (.slice A517_1 ((yc l0 x13_1).f1).length c517_1) ∧ w'.cell? (ad518.add ((x13_1).toNat * 2)) = some (.int .i64 ((yc l1 x13_1).f0)) ∧ w'.cell? ⟨(ad518.add ((x13_1).toNat * 2)).block, (ad518.add ((x13_1).toNat * 2)).off + 1, none⟩ = some (.slice A518_1 ((yc l1 x13_1).f1).length c518_1)) (ds := []) (tb 10 0) (by kernel_rfl) rfl rfl ⟨((HB.out.cell (World.block_lt_of_cell? w _ hw517_0)).trans hw517_0), ((HB.out.cell (World.block_lt_of_cell? w _ hw517_1)).trans hw517_1), ((HB.out.cell (World.block_lt_of_cell? w _ hw518_0)).trans hw518_0), ((HB.out.cell (World.block_lt_of_cell? w _ hw518_1)).trans hw518_1)⟩ (fun hHeld => ?_); refine Ug La.tab6 La.bits6 (fun HT_ HW_ => ?_);generalize wr.drew = w12 at HB HR517_1 HR518_1 hx517_0 hx517_1 hx518_0 hx518_1 hHeld ⊢;refine zu (i := 0) (N := some 16) (tb 10 1) rfl rfl HT_ ?_;refine zu (i := 1) (N := some 17) (tb 10 3) rfl rfl HT_ ?_;refine zu (i := 2) (N := some 18) (tb 10 7) rfl rfl HT_ ?_;refine zu (i := 4) (N := some 20) (tb 10 23) rfl rfl HT_ ?_;refine zu (i := 5) (N := some 21) (tb 10 55) rfl rfl HT_ ?_;refine zu (i := 6) (N := some 22) (tb 10 119) rfl rfl HT_ ?_;refine zt (i := 3) (N := some 19) (tb 10 127) rfl rfl (Wd HT_.out HW_.out (by kernel_rfl)) hHeld ?_;refine zt (i := 7) (N := some 23) (tb 10 255) rfl rfl (Wd HT_.out HW_.out (by kernel_rfl)) hHeld ?_;refine Uj (i := 8) (N := some 24) (tb 10 511) rfl rfl (Gh HT_.out (by kernel_rfl)) (by decide) (fun K hK => ?_);refine Di Tryz.func31 (by kernel_rfl) rfl #[.agg #[.int .i64 ((yc l0 x13_1).f0), .slice A517_1 ((yc l0 x13_1).f1).length c517_1], .agg #[.int .i64 ((yc l1 x13_1).f0), .slice A518_1 ((yc l1 x13_1).f1).length c518_1]] (by rfl) rfl rfl (by (try simp only [List.map_toArray, List.map_cons, List.map_nil]); first | done | rfl | (simp only [List.length_drop, List.length_take]; rfl)) ?_
    with_reducible refine (qh.calls k1 ((yc l0 x13_1).f0) _ _ ((yc l0 x13_1).f1) ((yc l1 x13_1).f0) _ _ ((yc l1 x13_1).f1) false _ ?side1 ?side2 ?side3 ?side4 A8.out).mono ?_
    (case side1 => repeat (first | exact (Kd.C_below HR517_1.out HB.out) | (with_reducible refine Kd.C_alloc ?_ _) | (with_reducible refine Kd.C_drewN ?_ _) | (with_reducible refine Kd.C_drew ?_)))
    (case side2 => exact HC517_1.out)
    (case side3 => repeat (first | exact (Kd.C_below HR518_1.out HB.out) | (with_reducible refine Kd.C_alloc ?_ _) | (with_reducible refine Kd.C_drewN ?_ _) | (with_reducible refine Kd.C_drew ?_)))
    (case side4 => exact HC518_1.out)
    rintro e w13 ⟨rfl, hb⟩;refine ⟨_, rfl, ?_⟩;have n0_ := qa.mk (Rc (zh HB.out) hb);clear HB;have HB := n0_;clear n0_;(try clear hb)
    (try clear hb2)
    (try clear hk)
    (try clear hi)
    refine hK.out _ _ ⟨((HB.out.cell (World.block_lt_of_cell? w _ hw517_0)).trans hw517_0), ((HB.out.cell (World.block_lt_of_cell? w _ hw517_1)).trans hw517_1), ((HB.out.cell (World.block_lt_of_cell? w _ hw518_0)).trans hw518_0), ((HB.out.cell (World.block_lt_of_cell? w _ hw518_1)).trans hw518_1)⟩ (fun hHeld => ?_);clear hK K;refine zn1 ?_;refine zu (i := 9) (N := some 25) (tb 10 1023) rfl rfl HT_ ?_;refine Bi (Lh HT_.out (by kernel_rfl)) ?_;try go_wp2
    go_ret;exact ⟨zL0, zh HB.out⟩
   subst c9;rw [if_pos rfl] at H;have H' := qa.mk H;clear H;try go_wp2
   have n0_ := qa.mk (Ud HB.out);clear HB;have HB := n0_;clear n0_;obtain ⟨⟨ad517, A517_1, c517_1, e517, hx517_0, hx517_1, hl517_1, hi517_1⟩, p517, q517⟩ := zW (Jo HR0.out x13_1);have hw517_1 := hx517_1;have hw517_0 := hx517_0;cases e517;replace hx517_0 := zx HB.out hx517_0;replace hx517_1 := zx HB.out hx517_1;have HR517_1 := qa.mk hi517_1;have HC517_1 := qa.mk hl517_1;clear hi517_1 hl517_1;obtain ⟨⟨ad518, A518_1, c518_1, e518, hx518_0, hx518_1, hl518_1, hi518_1⟩, p518, q518⟩ := zW (Jo HR1.out x13_1);have hw518_1 := hx518_1;have hw518_0 := hx518_0;cases e518;replace hx518_0 := zx HB.out hx518_0;replace hx518_1 := zx HB.out hx518_1;have HR518_1 := qa.mk hi518_1;have HC518_1 := qa.mk hl518_1;clear hi518_1 hl518_1;refine Kg (n := 10) (S := fun w' => w'.cell? (ad517.add ((x13_1).toNat * 2)) = some (.int .i64 ((yc l0 x13_1).f0)) ∧ w'.cell? ⟨(ad517.add ((x13_1).toNat * 2)).block, (ad517.add ((x13_1).toNat * 2)).off + 1, none⟩ = some (.slice A517_1 ((yc l0 x13_1).f1).length c517_1) ∧ w'.cell? (ad518.add ((x13_1).toNat * 2)) = some (.int .i64 ((yc l1 x13_1).f0)) ∧ w'.cell? ⟨(ad518.add ((x13_1).toNat * 2)).block, (ad518.add ((x13_1).toNat * 2)).off + 1, none⟩ = some (.slice A518_1 ((yc l1 x13_1).f1).length c518_1)) (ds := []) (tb 10 0) (by kernel_rfl) rfl rfl ⟨((HB.out.cell (World.block_lt_of_cell? w _ hw517_0)).trans hw517_0), ((HB.out.cell (World.block_lt_of_cell? w _ hw517_1)).trans hw517_1), ((HB.out.cell (World.block_lt_of_cell? w _ hw518_0)).trans hw518_0), ((HB.out.cell (World.block_lt_of_cell? w _ hw518_1)).trans hw518_1)⟩ (fun hHeld => ?_); refine Ug La.tab6 La.bits6 (fun HT_ HW_ => ?_);generalize wr.drew = w10 at HB HR517_1 HR518_1 hx517_0 hx517_1 hx518_0 hx518_1 hHeld ⊢;refine zu (i := 0) (N := some 16) (tb 10 1) rfl rfl HT_ ?_;refine zu (i := 1) (N := some 17) (tb 10 3) rfl rfl HT_ ?_;refine zu (i := 2) (N := some 18) (tb 10 7) rfl rfl HT_ ?_;refine zu (i := 4) (N := some 20) (tb 10 23) rfl rfl HT_ ?_;refine zu (i := 5) (N := some 21) (tb 10 55) rfl rfl HT_ ?_;refine zu (i := 6) (N := some 22) (tb 10 119) rfl rfl HT_ ?_;refine zt (i := 3) (N := some 19) (tb 10 127) rfl rfl (Wd HT_.out HW_.out (by kernel_rfl)) hHeld ?_;refine zt (i := 7) (N := some 23) (tb 10 255) rfl rfl (Wd HT_.out HW_.out (by kernel_rfl)) hHeld ?_;refine Uj (i := 8) (N := some 24) (tb 10 511) rfl rfl (Gh HT_.out (by kernel_rfl)) (by decide) (fun K hK => ?_);refine Di Tryz.func31 (by kernel_rfl) rfl #[.agg #[.int .i64 ((yc l0 x13_1).f0), .slice A517_1 ((yc l0 x13_1).f1).length c517_1], .agg #[.int .i64 ((yc l1 x13_1).f0), .slice A518_1 ((yc l1 x13_1).f1).length c518_1]] (by rfl) rfl rfl (by (try simp only [List.map_toArray, List.map_cons, List.map_nil]); first | done | rfl | (simp only [List.length_drop, List.length_take]; rfl)) ?_
   with_reducible refine (qh.calls k1 ((yc l0 x13_1).f0) _ _ ((yc l0 x13_1).f1) ((yc l1 x13_1).f0) _ _ ((yc l1 x13_1).f1) true _ ?side1 ?side2 ?side3 ?side4 A8.out).mono ?_
   (case side1 => repeat (first | exact (Kd.C_below HR517_1.out HB.out) | (with_reducible refine Kd.C_alloc ?_ _) | (with_reducible refine Kd.C_drewN ?_ _) | (with_reducible refine Kd.C_drew ?_)))
   (case side2 => exact HC517_1.out)
   (case side3 => repeat (first | exact (Kd.C_below HR518_1.out HB.out) | (with_reducible refine Kd.C_alloc ?_ _) | (with_reducible refine Kd.C_drewN ?_ _) | (with_reducible refine Kd.C_drew ?_)))
   (case side4 => exact HC518_1.out)
   rintro e w11 ⟨rfl, hb⟩;refine ⟨_, rfl, ?_⟩;have n0_ := qa.mk (Rc (zh HB.out) hb);clear HB;have HB := n0_;clear n0_;(try clear hb)
   (try clear hb2)
   (try clear hk)
   (try clear hi)
   refine hK.out _ _ ⟨((HB.out.cell (World.block_lt_of_cell? w _ hw517_0)).trans hw517_0), ((HB.out.cell (World.block_lt_of_cell? w _ hw517_1)).trans hw517_1), ((HB.out.cell (World.block_lt_of_cell? w _ hw518_0)).trans hw518_0), ((HB.out.cell (World.block_lt_of_cell? w _ hw518_1)).trans hw518_1)⟩ (fun hHeld => ?_);clear hK K;refine zn1 ?_;refine zu (i := 9) (N := some 25) (tb 10 1023) rfl rfl HT_ ?_;refine Bi (Lh HT_.out (by kernel_rfl)) ?_;try go_wp2
   go_roundg k1;case measure => have := HK1.out; omega
   case rel => exact ⟨(wrap64 (x13_1 + 1)), zE, H', zO HK1, ⟨zh HB.out⟩⟩
def Xf.l0 : Nat → Int → List Int → Int → Int → Option (Int)
 | 0, _, _, _, _ => none
 | k + 1, x3, x6, x7, x8 => if x8 < x7 then (if 0 ≤ x8 then (if x8 < (x6.length : Int) then (Xf.l0 k (wrap64 (x3 + (rd x6 x8))) x6 x7 (wrap64 (x8 + 1))) else (none)) else (none)) else (some x3)
def Xf.f (k : Nat) (l0 : List Int) : Option (Int) := Xf.l0 k 0 l0 (l0.length : Int) 0
theorem Xf.calls (k : Nat) (A0 : Option Addr) (c0 : Nat) (l0 : List Int) (r : Int) (w : World) (hr0 : Kd.C (Kd.int .i64) w A0 l0.length l0) (hc0 : l0.length ≤ c0) (h : Xf.f k l0 = some r) :
 Calls Tryz.prog 131 #[.slice A0 l0.length c0] w fun e w' => e = .returned (.int .i64 r) ∧ Jd w w' := by
 have HR0 := qa.mk hr0;have HC0 := qa.mk hc0;clear hr0 hc0;have H : (Xf.l0 k 0 l0 (l0.length : Int) 0) = some r := h;clear h;have H' := qa.mk H;clear H;go_enter Tryz.func131, Tryz.ntmps131;go_wp2;go_loopg [3, 8] k (fun kq v3 v8 w' => ∃ (x3_1 : Int) (x8_1 : Int), v3 = .int .i64 x3_1 ∧ v8 = .int .i64 x8_1 ∧ qa (Xf.l0 kq x3_1 l0 (l0.length : Int) x8_1 = some r) ∧ qa (kq ≤ k) ∧ Jd w w');case atStart => exact ⟨(0), (0), zE, zE, H', ⟨Nat.le_refl _⟩, zD⟩
 case round =>
  clear H';try clear c1
  obtain ⟨x3_1, x8_1, rfl, rfl, HA, HK1, ⟨m1, rfl⟩⟩ := hrel;cases gk with
  | zero => exact absurd HA.out (by simp [Xf.l0])
  | succ k1 =>
   have H := HA.out;clear HA;simp only [Xf.l0] at H;by_cases c2 : x8_1 < (l0.length : Int)
   rotate_left
   ·rw [if_neg c2] at H;have c2b0 := decide_eq_false c2;clear c2;obtain rfl := Option.some.inj H;go_wp2;go_ret;exact za1
   rw [if_pos c2] at H;have c2b0 := decide_eq_true c2;clear c2;by_cases c3 : 0 ≤ x8_1
   rotate_left
   ·rw [if_neg c3] at H;cases H
   rw [if_pos c3] at H;have c3b0 := decide_eq_true c3;clear c3;by_cases c4 : x8_1 < (l0.length : Int)
   rotate_left
   ·rw [if_neg c4] at H;cases H
   rw [if_pos c4] at H;have c4b0 := decide_eq_true c4;clear c4;have H' := qa.mk H;clear H;obtain ⟨⟨ad536, e536, hx536_0⟩, p536, q536⟩ := zW (Kd.at_int HR0.out x8_1);cases e536;go_wp2;go_roundg k1;case measure => have := HK1.out; omega
   case rel => exact ⟨(wrap64 (x3_1 + (rd l0 x8_1))), (wrap64 (x8_1 + 1)), zE, zE, H', zO HK1, zD⟩
def Xd.f (k : Nat) (a0 : Int) (a1_0 : Int) (l1_1 : List Int) : Option (Bool) := (Ub.f k a1_0 l1_1 a0).bind fun t549 => (some (decide (t549 ≥ a1_0)))
theorem Xd.calls (k : Nat) (a0 : Int) (a1_0 : Int) (A1_1 : Option Addr) (c1_1 : Nat) (l1_1 : List Int) (r : Bool) (w : World) (gb548 : Nat) (bk5480 : w.heap[gb548]? = some (.cells #[.int .i64 a1_0, .slice A1_1 l1_1.length c1_1] 40 (0, 0))) (hr1_1 : Kd.C (Kd.int .i64) w A1_1 l1_1.length l1_1) (hc1_1 : l1_1.length ≤ c1_1) (h : Xd.f k a0 a1_0 l1_1 = some r) :
 Calls Tryz.prog 132 #[.int .i64 a0, .pointer (some ⟨gb548, 0, none⟩)] w fun e w' => e = .returned (.bool r) ∧ Below w.heap.size w w' := by
 have BK548 := qa.mk bk5480;clear bk5480;have hu40 := Tryz.underlying40;have HR1_1 := qa.mk hr1_1;have HC1_1 := qa.mk hc1_1;clear hr1_1 hc1_1;have HB := qa.mk (Below.refl w.heap.size w);have H : ((Ub.f k a1_0 l1_1 a0).bind fun t549 => (some (decide (t549 ≥ a1_0)))) = some r := h;clear h;replace H := zB0 H;obtain ⟨t549, A30, H⟩ := H;have A3 := qa.mk A30;clear A30;obtain rfl := Option.some.inj H;go_enter Tryz.func132, Tryz.ntmps132;try go_wp2
 have n0_ := qa.mk (Ra BK548.out);have n1_ := qa.mk (Ud HB.out);clear BK548 HB;have BK548 := n0_;have HB := n1_;clear n0_ n1_;refine Kg (n := 7) (S := fun w' => w'.cell? ⟨gb548, 0, none⟩ = some (.int .i64 a1_0) ∧ w'.cell? ⟨gb548, 1, none⟩ = some (.slice A1_1 l1_1.length c1_1)) (ds := []) (tb 7 0) (by kernel_rfl) rfl rfl ⟨(Ya BK548.out 0).trans rfl, (Ya BK548.out 1).trans rfl⟩ (fun hHeld => ?_);generalize w.drew = w5 at BK548 HB hHeld ⊢;refine zp1 (i := 1) (N := some 5) (tb 7 2) rfl rfl (by kernel_rfl) ?_;refine zp1 (i := 3) (N := some 7) (tb 7 10) rfl rfl (by kernel_rfl) ?_;refine zt (i := 0) (N := some 4) (tb 7 11) rfl rfl (by kernel_rfl) hHeld ?_;refine zt (i := 4) (N := some 8) (tb 7 27) rfl rfl (by kernel_rfl) hHeld ?_;refine Uj (i := 2) (N := some 6) (tb 7 31) rfl rfl (by kernel_rfl) (by decide) (fun K hK => ?_);refine Di Tryz.func116 (by kernel_rfl) rfl #[.agg #[.int .i64 a1_0, .slice A1_1 l1_1.length c1_1], .int .i64 a0] (by rfl) rfl rfl (by (try simp only [List.map_toArray, List.map_cons, List.map_nil]); first | done | rfl | (simp only [List.length_drop, List.length_take]; rfl)) ?_
 with_reducible refine (Ub.calls k a1_0 _ _ l1_1 a0 t549 _ ?side1 ?side2 A3.out).mono ?_
 (case side1 => repeat (first | exact (Kd.C_below HR1_1.out HB.out) | (with_reducible refine Kd.C_alloc ?_ _) | (with_reducible refine Kd.C_drewN ?_ _) | (with_reducible refine Kd.C_drew ?_)))
 (case side2 => exact HC1_1.out)
 rintro e w6 ⟨rfl, hb⟩;refine ⟨_, rfl, ?_⟩;have n0_ := qa.mk (Na (g := gb548) (o := .cells #[.int .i64 a1_0, .slice A1_1 l1_1.length c1_1] 40 (0, 0)) (zb BK548.out) hb);have n1_ := qa.mk (Rc (zh HB.out) hb);clear BK548 HB;have BK548 := n0_;have HB := n1_;clear n0_ n1_;(try clear hb)
 (try clear hb2)
 (try clear hk)
 (try clear hi)
 refine hK.out _ _ ⟨(Ya BK548.out 0).trans rfl, (Ya BK548.out 1).trans rfl⟩ (fun hHeld => ?_);clear hK K;refine zn1 ?_;refine zp1 (i := 5) (N := some 9) (tb 7 63) rfl rfl (by kernel_rfl) ?_;refine zp1 (i := 6) (N := some 3) (tb 7 127) rfl rfl (by kernel_rfl) ?_;refine Bi (by kernel_rfl) ?_;try go_wp2
 go_ret;exact ⟨zL0, zh HB.out⟩
section
variable (a1 : Int → Option Bool)
def Vd.l0 : Nat → List Int → Int → Int → Option (List Int)
 | 0, _, _, _ => none
 | k + 1, x5, x8, x9 => if x9 < x8 then ((a1 x9).bind fun t587 => (if t587 = true then (if x5.length < 17592186044416 then (Vd.l0 k (x5 ++ [x9]) x8 (wrap64 (x9 + 1))) else (none)) else (Vd.l0 k x5 x8 (wrap64 (x9 + 1))))) else (some x5)
def Vd.f (k : Nat) (a0 : Int) (a1 : Int → Option Bool) : Option (List Int) := Vd.l0 a1 k (([] : List Int)) a0 0
theorem Vd.calls (k : Nat) (a0 : Int) (a1 : Int → Option Bool) (g_ : Nat) (fa_ lb_ : Array Value) (eg_ : ∀ args w, (callFunc g_ args).run Tryz.prog w = .ok (.enter g_ args) w) (r : List Int) (w : World) (hp0_ : Qt Tryz.prog g_ fa_ lb_ w a1) (h : Vd.f k a0 a1 = some r) :
 Calls Tryz.prog 37 #[.int .i64 a0, .func (.func g_) fa_ lb_] w fun e w' => ∃ v0_ : Value, e = .returned (v0_) ∧ Kd.R (Kd.int .i64) 3 w' w.heap.size (fun _ => True) v0_ r ∧ Below w.heap.size w w' := by
 have hp_ := qa.mk hp0_;clear hp0_;have HB := qa.mk (Below.refl w.heap.size w);have H : (Vd.l0 a1 k (([] : List Int)) a0 0) = some r := h;clear h;obtain ⟨y584, hy584⟩ : ∃ y_ : List Int, y_ = (([] : List Int)) := ⟨_, rfl⟩;rw [← hy584] at H;have Ny584 := qa.mk hy584;clear hy584;have H' := qa.mk H;clear H;go_enter Tryz.func37, Tryz.ntmps37;go_wp2_with (first | ((with_reducible refine Ma (N := 7) rfl ?_); refine Kd.R_lit (Kd.int .i64) _ 3 ?hg (N := 7) ?hd (xs := ([] : List Int)) (inner := []) (ok := fun _ => True) (okp := fun _ => True) ?hr ?hp (fun _ hk => hk) trivial (Below.refl _ _) (Nat.le_refl _) (by simp) ?_; (case hd => rfl); (case hg => rfl); (case hr => first | (go_simp; done) | (go_simp; rfl)); (case hp => exact (qg.none _ _)); intro v585 w3 ho4 hb hg_ hnew_; clear hg_ hnew_; (first | rw [← Ny584.out] at ho4 | (simp only [Int.reduceToNat] at ho4; rw [← Ny584.out] at ho4)); have HO586 := qa.mk (Kd.R_lower ho4 (Ua (zh HB.out))); replace HB := zH hb HB; clear hb ho4));go_loopg [5, 9] k (fun kq v5 v9 w' => ∃ (x5_1 : List Int) (x9_1 : Int), v9 = .int .i64 x9_1 ∧ qa (Vd.l0 a1 kq x5_1 a0 x9_1 = some r) ∧ qa (kq ≤ k) ∧ qa (Kd.R (Kd.int .i64) 3 w' w.heap.size (fun _ => True) v5 x5_1) ∧ qa (Below w.heap.size w w'));case atStart => exact ⟨(y584), (0), zE, H', ⟨Nat.le_refl _⟩, ⟨zr HO586.out⟩, ⟨zh HB.out⟩⟩
 case round =>
  clear H';try clear p2
  try clear c3
  obtain ⟨x5_1, x9_1, rfl, HA, HK1, HO_5, HB⟩ := hrel;cases gk with
  | zero => exact absurd HA.out (by simp [Vd.l0])
  | succ k1 =>
   have H := HA.out;clear HA;simp only [Vd.l0] at H;by_cases c5 : x9_1 < a0
   ·rw [if_pos c5] at H;have c5b0 := decide_eq_true c5;clear c5;replace H := zB0 H;obtain ⟨t587, A60, H⟩ := H;have A6 := qa.mk A60;clear A60;by_cases c7 : t587 = true
    ·subst c7;rw [if_pos rfl] at H;by_cases c8 : x5_1.length < 17592186044416
     ·rw [if_pos c8] at H;have LMc8 := qa.mk c8;clear c8;obtain ⟨y588, hy588⟩ : ∃ y_ : List Int, y_ = (x5_1 ++ [x9_1]) := ⟨_, rfl⟩;rw [← hy588] at H;have Ny588 := qa.mk hy588;clear hy588;have H' := qa.mk H;clear H;go_wp2_with (first | ((with_reducible refine Ma (N := 14) rfl ?_); refine Rp (some 14) rfl rfl eg_ (by rfl) #[.int .i64 x9_1] rfl (by (try simp only [List.map_toArray, List.map_cons, List.map_nil]); first | done | rfl | (simp only [List.length_drop, List.length_take]; rfl)) ?_; (with_reducible refine (hp_.out _ x9_1 true (zh HB.out) A6.out).mono ?_); rintro e w9 ⟨rfl, hb⟩; refine ⟨_, rfl, ?_⟩; replace HO_5 := qa.mk (Kd.R_below (zr HO_5.out) hb); replace HB := zH hb HB; clear hb) | ((with_reducible refine Uc (b := .append) (xs := #[.tmp 15, .tmp 17]) rfl ?_); at_builtin; refine Kd.R_append (Kd.int .i64) (w0 := w) w.heap.size rfl (.tmp 15) (.tmp 17) 35 3 (.int .i64 0) 8 rfl Tryz.underlying35 info3 rfl (by decide) (by omega) u5 x5_1 x9_1 [.int .i64 x9_1] (fun _ => True) (fun _ => False) rfl rfl ?aP (fun _ hk => hk.elim) ?aF ?aO ?aB ?aS ?aL ?_; (case aP => exact rfl); (case aB => exact (zh HB.out)); (case aF => exact (fun _ _ => trivial)); (case aO => exact (zr HO_5.out)); (case aS => exact (Ua (zh HB.out))); (case aL => have := LMc8.out; omega); intro v589 w10 ho hb hg hat; rw [← Ny588.out] at ho; have HO590 := qa.mk (ho); replace HB := qa.mk (hb); clear HO_5 ho hb hg hat));go_roundg k1;case measure => have := HK1.out; omega
      case rel => exact ⟨(y588), (wrap64 (x9_1 + 1)), zE, H', zO HK1, ⟨zr HO590.out⟩, ⟨zh HB.out⟩⟩
     ·rw [if_neg c8] at H;cases H
    ·replace c7 := Bool.eq_false_iff.mpr c7;subst c7;rw [if_neg zF] at H;have H' := qa.mk H;clear H;go_wp2_with (first | ((with_reducible refine Ma (N := 14) rfl ?_); refine Rp (some 14) rfl rfl eg_ (by rfl) #[.int .i64 x9_1] rfl (by (try simp only [List.map_toArray, List.map_cons, List.map_nil]); first | done | rfl | (simp only [List.length_drop, List.length_take]; rfl)) ?_; (with_reducible refine (hp_.out _ x9_1 false (zh HB.out) A6.out).mono ?_); rintro e w11 ⟨rfl, hb⟩; refine ⟨_, rfl, ?_⟩; replace HO_5 := qa.mk (Kd.R_below (zr HO_5.out) hb); replace HB := zH hb HB; clear hb));go_roundg k1;case measure => have := HK1.out; omega
     case rel => exact ⟨(x5_1), (wrap64 (x9_1 + 1)), zE, H', zO HK1, ⟨zr HO_5.out⟩, ⟨zh HB.out⟩⟩
   ·rw [if_neg c5] at H;have c5b0 := decide_eq_false c5;clear c5;obtain rfl := Option.some.inj H;go_wp2;go_ret;exact ⟨_, zL0, by (with_reducible repeat (first | apply Kd.R_alloc | apply Kd.R_drewN | apply Kd.R_drew)); exact HO_5.out, zh HB.out⟩
end
def Db.l0 : Nat → List Bool → List Bool → Int → Int → Option (Bool)
 | 0, _, _, _, _ => none
 | k + 1, x0, x1, x12, x13 => if x13 < x12 then (if 0 ≤ x13 then (if x13 < (x0.length : Int) then (if x13 < (x1.length : Int) then (if ((yf false x0 x13) != (yf false x1 x13)) = true then (some false) else (Db.l0 k x0 x1 x12 (wrap64 (x13 + 1)))) else (none)) else (none)) else (none)) else (some true)
def Db.f (k : Nat) (l0 : List Bool) (l1 : List Bool) : Option (Bool) := if (l0.length : Int) = (l1.length : Int) then (Db.l0 k l0 l1 (l0.length : Int) 0) else (some false)
theorem Db.calls (k : Nat) (A0 : Option Addr) (c0 : Nat) (l0 : List Bool) (A1 : Option Addr) (c1 : Nat) (l1 : List Bool) (r : Bool) (w : World) (hr0 : Kd.C Kd.bool w A0 l0.length l0) (hc0 : l0.length ≤ c0) (hr1 : Kd.C Kd.bool w A1 l1.length l1) (hc1 : l1.length ≤ c1) (h : Db.f k l0 l1 = some r) :
 Calls Tryz.prog 84 #[.slice A0 l0.length c0, .slice A1 l1.length c1] w fun e w' => e = .returned (.bool r) ∧ Jd w w' := by
 have HR0 := qa.mk hr0;have HC0 := qa.mk hc0;clear hr0 hc0;have HR1 := qa.mk hr1;have HC1 := qa.mk hc1;clear hr1 hc1;have H : (if (l0.length : Int) = (l1.length : Int) then (Db.l0 k l0 l1 (l0.length : Int) 0) else (some false)) = some r := h;clear h;by_cases c3 : (l0.length : Int) = (l1.length : Int)
 rotate_left
 ·rw [if_neg c3] at H;have c3b0 := beq_eq_false_iff_ne.mpr c3;have c3b1 := bne_iff_ne.mpr c3;have c3b2 : (l0.length == l1.length) = false := by first | simpa using c3 | (simp at c3 ⊢; omega)
  obtain rfl := Option.some.inj H;go_enter Tryz.func84, Tryz.ntmps84;go_wp2;repeat (go_quiet (fail); try go_wp2)
  go_ret;exact za1
 rw [if_pos c3] at H;have c3b0 := beq_iff_eq.mpr c3;have c3b1 := bne_eq_false_iff_eq.mpr c3;have c3b2 : (l0.length == l1.length) = true := by first | simpa using c3 | (simp at c3 ⊢; omega)
 clear c3;have H' := qa.mk H;clear H;go_enter Tryz.func84, Tryz.ntmps84;go_wp2;repeat (go_quiet (fail); try go_wp2)
 go_loopg [13] k (fun kq v13 w' => ∃ (x13_1 : Int), v13 = .int .i64 x13_1 ∧ qa (Db.l0 kq l0 l1 (l0.length : Int) x13_1 = some r) ∧ qa (kq ≤ k) ∧ Jd w w');case atStart => exact ⟨(0), zE, H', ⟨Nat.le_refl _⟩, zD⟩
 case round =>
  clear H';try clear c1
  try clear p2
  try clear c3
  try clear c3b0
  try clear c3b1
  try clear c3b2
  obtain ⟨x13_1, rfl, HA, HK1, ⟨m1, rfl⟩⟩ := hrel;cases gk with
  | zero => exact absurd HA.out (by simp [Db.l0])
  | succ k1 =>
   have H := HA.out;clear HA;simp only [Db.l0] at H;by_cases c4 : x13_1 < (l0.length : Int)
   rotate_left
   ·rw [if_neg c4] at H;have c4b0 := decide_eq_false c4;clear c4;obtain rfl := Option.some.inj H;go_wp2;repeat (go_quiet (fail); try go_wp2)
    go_ret;exact za1
   rw [if_pos c4] at H;have c4b0 := decide_eq_true c4;clear c4;by_cases c5 : 0 ≤ x13_1
   rotate_left
   ·rw [if_neg c5] at H;cases H
   rw [if_pos c5] at H;have c5b0 := decide_eq_true c5;clear c5;by_cases c6 : x13_1 < (l0.length : Int)
   rotate_left
   ·rw [if_neg c6] at H;cases H
   rw [if_pos c6] at H;have c6b0 := decide_eq_true c6;clear c6;by_cases c7 : x13_1 < (l1.length : Int)
   rotate_left
   ·rw [if_neg c7] at H;cases H
   rw [if_pos c7] at H;have c7b0 := decide_eq_true c7;clear c7;by_cases c8 : ((yf false l0 x13_1) != (yf false l1 x13_1)) = true
   ·rw [if_pos c8] at H;have c8b0 : ((yf false l0 x13_1) != (yf false l1 x13_1)) = true := c8;(try (have c8b1 : decide ((yf false l0 x13_1) = (yf false l1 x13_1)) = false := by simpa using c8))
    (try (have c8b2 : ((yf false l0 x13_1) == (yf false l1 x13_1)) = false := by simpa using c8))
    (try (have c8b3 : ¬ ((yf false l0 x13_1) = (yf false l1 x13_1)) := by simpa using c8))
    clear c8;obtain rfl := Option.some.inj H;obtain ⟨⟨ad591, e591, hx591_0⟩, p591, q591⟩ := zW (Kd.at_bool HR0.out x13_1);cases e591;obtain ⟨⟨ad592, e592, hx592_0⟩, p592, q592⟩ := zW (Kd.at_bool HR1.out x13_1);cases e592;go_wp2;repeat (go_quiet (fail); try go_wp2)
    go_ret;exact za1
   rw [if_neg c8] at H;have c8b0 : ((yf false l0 x13_1) != (yf false l1 x13_1)) = false := by simpa using c8
   (try (have c8b1 : decide ((yf false l0 x13_1) = (yf false l1 x13_1)) = true := by simpa using c8))
   (try (have c8b2 : ((yf false l0 x13_1) == (yf false l1 x13_1)) = true := by simpa using c8))
   clear c8;have H' := qa.mk H;clear H;obtain ⟨⟨ad591, e591, hx591_0⟩, p591, q591⟩ := zW (Kd.at_bool HR0.out x13_1);cases e591;obtain ⟨⟨ad592, e592, hx592_0⟩, p592, q592⟩ := zW (Kd.at_bool HR1.out x13_1);cases e592;go_wp2;repeat (go_quiet (fail); try go_wp2)
   go_roundg k1;case measure => have := HK1.out; omega
   case rel => exact ⟨(wrap64 (x13_1 + 1)), zE, H', zO HK1, zD⟩
def Cg.f (k : Nat) (a0_0 : Int) (l0_1 : List Bool) (a1_0 : Int) (l1_1 : List Bool) : Option (Bool) := (Db.f k l0_1 l1_1).bind fun t595 => (some t595)
theorem Cg.calls (k : Nat) (a0_0 : Int) (A0_1 : Option Addr) (c0_1 : Nat) (l0_1 : List Bool) (a1_0 : Int) (A1_1 : Option Addr) (c1_1 : Nat) (l1_1 : List Bool) (r : Bool) (w : World) (hr0_1 : Kd.C Kd.bool w A0_1 l0_1.length l0_1) (hc0_1 : l0_1.length ≤ c0_1) (hr1_1 : Kd.C Kd.bool w A1_1 l1_1.length l1_1) (hc1_1 : l1_1.length ≤ c1_1) (h : Cg.f k a0_0 l0_1 a1_0 l1_1 = some r) :
 Calls Tryz.prog 41 #[.agg #[.int .i64 a0_0, .slice A0_1 l0_1.length c0_1], .agg #[.int .i64 a1_0, .slice A1_1 l1_1.length c1_1]] w fun e w' => e = .returned (.bool r) ∧ Below w.heap.size w w' := by
 have hu62 := Tryz.underlying62;have HR0_1 := qa.mk hr0_1;have HC0_1 := qa.mk hc0_1;clear hr0_1 hc0_1;have HR1_1 := qa.mk hr1_1;have HC1_1 := qa.mk hc1_1;clear hr1_1 hc1_1;have HB := qa.mk (Below.refl w.heap.size w);have H : ((Db.f k l0_1 l1_1).bind fun t595 => (some t595)) = some r := h;clear h;replace H := zB0 H;obtain ⟨t595, A30, H⟩ := H;have A3 := qa.mk A30;clear A30;obtain rfl := Option.some.inj H;go_enter Tryz.func41, Tryz.ntmps41;go_wp2_with (first | ((with_reducible refine Ma (N := 2) rfl ?_); refine zq 2 #[.int .i64 a0_0, .slice A0_1 l0_1.length c0_1] 62 ?_; intro gb593 hg w4 hbox hb; have GW593 := zG hg HB; replace HB := zH hb HB; have BK593 := qa.mk hbox; have GE593 := GW593; clear hb hbox hg) | ((with_reducible refine Ma (N := 3) rfl ?_); refine zq 3 #[.int .i64 a1_0, .slice A1_1 l1_1.length c1_1] 62 ?_; intro gb594 hg w5 hbox hb; have BK594 := qa.mk hbox; have GW594 := zG hg HB; have GE594 := zG hg HB; have NB593_594 := zNa hg BK593; have NB594_593 := zNb hg BK593; replace BK593 := zK BK593 hb; replace HB := zH hb HB; clear hb hbox hg; have hnb6 := NB593_594.out; have hnc6 := NB594_593.out; obtain ⟨hcz7_0, hcz7_1, hfz7_0, hfz7_1⟩ := zC2 BK593; obtain ⟨hcz8_0, hcz8_1, hfz8_0, hfz8_1⟩ := zC2 BK594) | ((with_reducible refine Va (f := 84) rfl ?_); refine zl 9 Tryz.func84 #[.slice A0_1 l0_1.length c0_1, .slice A1_1 l1_1.length c1_1] ?_; (with_reducible refine (Db.calls k _ _ l0_1 _ _ l1_1 t595 _ ?side1 ?side2 ?side3 ?side4 A3.out).mono ?_); (case side1 => exact zQ (Kd.C_below HR0_1.out HB.out)); (case side2 => exact HC0_1.out); (case side3 => exact zQ (Kd.C_below HR1_1.out HB.out)); (case side4 => exact HC1_1.out); rintro e w' ⟨rfl, ⟨nd, rfl⟩⟩; refine ⟨_, rfl, ?_⟩));go_ret;exact ⟨zL0, zh HB.out⟩
def Rf.l0 : Nat → List (List Int) → List (List Int) → Int → Int → Option (Bool)
 | 0, _, _, _, _ => none
 | k + 1, x0, x1, x12, x13 => if x13 < x12 then (if 0 ≤ x13 then (if x13 < (x0.length : Int) then (if x13 < (x1.length : Int) then ((Pe.f k (Bd x0 x13) (Bd x1 x13)).bind fun t598 => (if t598 = true then (Rf.l0 k x0 x1 x12 (wrap64 (x13 + 1))) else (some false))) else (none)) else (none)) else (none)) else (some true)
def Rf.f (k : Nat) (l0 : List (List Int)) (l1 : List (List Int)) : Option (Bool) := if (l0.length : Int) = (l1.length : Int) then (Rf.l0 k l0 l1 (l0.length : Int) 0) else (some false)
theorem Rf.calls (k : Nat) (A0 : Option Addr) (c0 : Nat) (l0 : List (List Int)) (A1 : Option Addr) (c1 : Nat) (l1 : List (List Int)) (r : Bool) (w : World) (hr0 : Kd.C (Kd.slice 3 (Kd.int .i64)) w A0 l0.length l0) (hc0 : l0.length ≤ c0) (hr1 : Kd.C (Kd.slice 3 (Kd.int .i64)) w A1 l1.length l1) (hc1 : l1.length ≤ c1) (h : Rf.f k l0 l1 = some r) :
 Calls Tryz.prog 42 #[.slice A0 l0.length c0, .slice A1 l1.length c1] w fun e w' => e = .returned (.bool r) ∧ Jd w w' := by
 have HR0 := qa.mk hr0;have HC0 := qa.mk hc0;clear hr0 hc0;have HR1 := qa.mk hr1;have HC1 := qa.mk hc1;clear hr1 hc1;have H : (if (l0.length : Int) = (l1.length : Int) then (Rf.l0 k l0 l1 (l0.length : Int) 0) else (some false)) = some r := h;clear h;by_cases c3 : (l0.length : Int) = (l1.length : Int)
 rotate_left
 ·rw [if_neg c3] at H;have c3b0 := beq_eq_false_iff_ne.mpr c3;have c3b1 := bne_iff_ne.mpr c3;have c3b2 : (l0.length == l1.length) = false := by first | simpa using c3 | (simp at c3 ⊢; omega)
  obtain rfl := Option.some.inj H;go_enter Tryz.func42, Tryz.ntmps42;go_wp2;repeat (go_quiet (fail); try go_wp2)
  go_ret;exact za1
 rw [if_pos c3] at H;have c3b0 := beq_iff_eq.mpr c3;have c3b1 := bne_eq_false_iff_eq.mpr c3;have c3b2 : (l0.length == l1.length) = true := by first | simpa using c3 | (simp at c3 ⊢; omega)
 clear c3;have H' := qa.mk H;clear H;go_enter Tryz.func42, Tryz.ntmps42;go_wp2;repeat (go_quiet (fail); try go_wp2)
 go_loopg [13] k (fun kq v13 w' => ∃ (x13_1 : Int), v13 = .int .i64 x13_1 ∧ qa (Rf.l0 kq l0 l1 (l0.length : Int) x13_1 = some r) ∧ qa (kq ≤ k) ∧ Jd w w');case atStart => exact ⟨(0), zE, H', ⟨Nat.le_refl _⟩, zD⟩
 case round =>
  clear H';try clear c1
  try clear p2
  try clear c3
  try clear c3b0
  try clear c3b1
  try clear c3b2
  obtain ⟨x13_1, rfl, HA, HK1, ⟨m1, rfl⟩⟩ := hrel;cases gk with
  | zero => exact absurd HA.out (by simp [Rf.l0])
  | succ k1 =>
   have H := HA.out;clear HA;simp only [Rf.l0] at H;by_cases c4 : x13_1 < (l0.length : Int)
   rotate_left
   ·rw [if_neg c4] at H;have c4b0 := decide_eq_false c4;clear c4;obtain rfl := Option.some.inj H;go_wp2;repeat (go_quiet (fail); try go_wp2)
    go_ret;exact za1
   rw [if_pos c4] at H;have c4b0 := decide_eq_true c4;clear c4;by_cases c5 : 0 ≤ x13_1
   rotate_left
   ·rw [if_neg c5] at H;cases H
   rw [if_pos c5] at H;have c5b0 := decide_eq_true c5;clear c5;by_cases c6 : x13_1 < (l0.length : Int)
   rotate_left
   ·rw [if_neg c6] at H;cases H
   rw [if_pos c6] at H;have c6b0 := decide_eq_true c6;clear c6;by_cases c7 : x13_1 < (l1.length : Int)
   rotate_left
   ·rw [if_neg c7] at H;cases H
   rw [if_pos c7] at H;have c7b0 := decide_eq_true c7;clear c7;replace H := zB0 H;obtain ⟨t598, A80, H⟩ := H;have A8 := qa.mk A80;clear A80;by_cases c9 : t598 = true
   rotate_left
   ·replace c9 := Bool.eq_false_iff.mpr c9;subst c9;rw [if_neg zF] at H;obtain rfl := Option.some.inj H;obtain ⟨⟨ad596, A596_0, c596_0, e596, hx596_0, hl596_0, hi596_0⟩, p596, q596⟩ := zW (qi HR0.out x13_1);cases e596;have HR596_0 := qa.mk hi596_0;have HC596_0 := qa.mk hl596_0;clear hi596_0 hl596_0;obtain ⟨⟨ad597, A597_0, c597_0, e597, hx597_0, hl597_0, hi597_0⟩, p597, q597⟩ := zW (qi HR1.out x13_1);cases e597;have HR597_0 := qa.mk hi597_0;have HC597_0 := qa.mk hl597_0;clear hi597_0 hl597_0;go_wp2_with (first | (go_at_call 71; (with_reducible refine (Pe.calls k1 _ _ (Bd l0 x13_1) _ _ (Bd l1 x13_1) false _ ?side1 ?side2 ?side3 ?side4 A8.out).mono ?_); (case side1 => exact zQ HR596_0.out); (case side2 => exact HC596_0.out); (case side3 => exact zQ HR597_0.out); (case side4 => exact HC597_0.out); rintro e w' ⟨rfl, ⟨nd, rfl⟩⟩; (try first | exact ⟨rfl, _, zd⟩ | exact ⟨rfl, _, ze⟩)));repeat (go_quiet (first | (go_at_call 71; (with_reducible refine (Pe.calls k1 _ _ (Bd l0 x13_1) _ _ (Bd l1 x13_1) false _ ?side1 ?side2 ?side3 ?side4 A8.out).mono ?_); (case side1 => exact zQ HR596_0.out); (case side2 => exact HC596_0.out); (case side3 => exact zQ HR597_0.out); (case side4 => exact HC597_0.out); rintro e w' ⟨rfl, ⟨nd, rfl⟩⟩; (try first | exact ⟨rfl, _, zd⟩ | exact ⟨rfl, _, ze⟩))); try go_wp2_with (first | (go_at_call 71; (with_reducible refine (Pe.calls k1 _ _ (Bd l0 x13_1) _ _ (Bd l1 x13_1) false _ ?side1 ?side2 ?side3 ?side4 A8.out).mono ?_); (case side1 => exact zQ HR596_0.out); (case side2 => exact HC596_0.out); (case side3 => exact zQ HR597_0.out); (case side4 => exact HC597_0.out); rintro e w' ⟨rfl, ⟨nd, rfl⟩⟩; (try first | exact ⟨rfl, _, zd⟩ | exact ⟨rfl, _, ze⟩))))
    go_ret;exact za1
   subst c9;rw [if_pos rfl] at H;have H' := qa.mk H;clear H;obtain ⟨⟨ad596, A596_0, c596_0, e596, hx596_0, hl596_0, hi596_0⟩, p596, q596⟩ := zW (qi HR0.out x13_1);cases e596;have HR596_0 := qa.mk hi596_0;have HC596_0 := qa.mk hl596_0;clear hi596_0 hl596_0;obtain ⟨⟨ad597, A597_0, c597_0, e597, hx597_0, hl597_0, hi597_0⟩, p597, q597⟩ := zW (qi HR1.out x13_1);cases e597;have HR597_0 := qa.mk hi597_0;have HC597_0 := qa.mk hl597_0;clear hi597_0 hl597_0;go_wp2_with (first | (go_at_call 71; (with_reducible refine (Pe.calls k1 _ _ (Bd l0 x13_1) _ _ (Bd l1 x13_1) true _ ?side1 ?side2 ?side3 ?side4 A8.out).mono ?_); (case side1 => exact zQ HR596_0.out); (case side2 => exact HC596_0.out); (case side3 => exact zQ HR597_0.out); (case side4 => exact HC597_0.out); rintro e w' ⟨rfl, ⟨nd, rfl⟩⟩; (try first | exact ⟨rfl, _, zd⟩ | exact ⟨rfl, _, ze⟩)));repeat (go_quiet (first | (go_at_call 71; (with_reducible refine (Pe.calls k1 _ _ (Bd l0 x13_1) _ _ (Bd l1 x13_1) true _ ?side1 ?side2 ?side3 ?side4 A8.out).mono ?_); (case side1 => exact zQ HR596_0.out); (case side2 => exact HC596_0.out); (case side3 => exact zQ HR597_0.out); (case side4 => exact HC597_0.out); rintro e w' ⟨rfl, ⟨nd, rfl⟩⟩; (try first | exact ⟨rfl, _, zd⟩ | exact ⟨rfl, _, ze⟩))); try go_wp2_with (first | (go_at_call 71; (with_reducible refine (Pe.calls k1 _ _ (Bd l0 x13_1) _ _ (Bd l1 x13_1) true _ ?side1 ?side2 ?side3 ?side4 A8.out).mono ?_); (case side1 => exact zQ HR596_0.out); (case side2 => exact HC596_0.out); (case side3 => exact zQ HR597_0.out); (case side4 => exact HC597_0.out); rintro e w' ⟨rfl, ⟨nd, rfl⟩⟩; (try first | exact ⟨rfl, _, zd⟩ | exact ⟨rfl, _, ze⟩))))
   go_roundg k1;case measure => have := HK1.out; omega
   case rel => exact ⟨(wrap64 (x13_1 + 1)), zE, H', zO HK1, zD⟩
end
def Rt {α : Type} (p : α → Option Bool) : List α → Nat → Option Int
 | [], _ => some (-1)
 | x :: xs, k => (p x).bind fun b => if b = true then some (k : Int) else Rt p xs (k + 1)
def Ru {α : Type} (p : α → Option Bool) : List α → Option Bool
 | [] => some false
 | x :: xs => (p x).bind fun b => if b = true then some true else Ru p xs
theorem Qm {α : Type} (p : α → Option Bool) (xs : List α) : ∀ (k : Nat) (r : Bool), Ru p xs = some r → ∃ i, Rt p xs k = some i ∧ r = decide (0 ≤ i) := by
 induction xs with
 | nil => intro k r h; simp only [Ru, Option.some.injEq] at h; exact ⟨-1, rfl, by subst h; rfl⟩
 | cons x xs ih =>
  intro k r h;simp only [Ru] at h;obtain ⟨b, hb, h⟩ := zB0 h;cases b with
  | true => rw [if_pos rfl] at h; exact ⟨k, by simp [Rt, hb], by simp only [Option.some.injEq] at h; subst h; simp⟩
  | false =>
   rw [if_neg (by simp)] at h;obtain ⟨i, hi, hr⟩ := ih (k + 1) r h;exact ⟨i, by simp [Rt, hb, hi], hr⟩
theorem Rm {α : Type} {p : α → Option Bool} {xs : List α} {k : Nat} {r : Int} {x : α} (h : Rt p (xs.drop k) k = some r) (hx : xs[k]? = some x) :
 ∃ b, p x = some b ∧ (b = true → r = k) ∧ (b = false → Rt p (xs.drop (k + 1)) (k + 1) = some r) := by
 rw [show xs.drop k = x :: xs.drop (k + 1) from by
  obtain ⟨hk, rfl⟩ := List.getElem?_eq_some_iff.1 hx; exact List.drop_eq_getElem_cons hk] at h
 simp only [Rt] at h;obtain ⟨b, hb, h⟩ := zB0 h;refine ⟨b, hb, ?_, ?_⟩
 ·rintro rfl; rw [if_pos rfl] at h; exact (Option.some.inj h).symm
 ·rintro rfl; rw [if_neg (by simp)] at h; exact h
def Tw {α : Type} (P : Program) (g : Nat) (lb : Array Value) (d : Kd α) (mkv : List Value → Value) (w : World) (p : α → Option Bool) : Prop :=
 ∀ (W : World) (x : α) (c : List Value) (b : Bool), Below w.heap.size w W → d.K w x c → p x = some b → Calls P g (#[mkv c] ++ lb) W fun e w' => e = .returned (.bool b) ∧ Below w.heap.size w w'
theorem Tp {α : Type} {p : α → Option Bool} {q : α → Bool} {xs : List α} (h : ∀ x ∈ xs, p x = some (q x)) : Ru p xs = some (xs.any q) := by
 induction xs with
 | nil => rfl
 | cons x xs ih =>
  simp only [Ru, h x (List.mem_cons_self ..), Option.bind_some];rw [ih (fun y hy => h y (List.mem_cons_of_mem _ hy))];rw [List.any_cons];cases q x <;> rfl
theorem Ou {a b : Int} (h : a = b) : Ending.returned (.int .i64 a) = .returned (.int .i64 b) := by rw [h]
theorem Bw {a b : Bool} (h : a = b) : Ending.returned (.bool a) = .returned (.bool b) := by rw [h]
theorem Mr (p : List Int → Option Bool) (g : Nat) (lb : Array Value) (eg : ∀ args w, (callFunc g args).run Tryz.prog w = .ok (.enter g args) w)
 (A0 : Option Addr) (c0 : Nat) (l0 : List (List Int)) (r : Int) (w : World) (hr0 : Kd.C (Kd.slice 3 (Kd.int .i64)) w A0 l0.length l0) (hc0 : l0.length ≤ c0)
 (hp : Tw Tryz.prog g lb (Kd.slice 3 (Kd.int .i64)) (fun c => c.getD 0 undef) w p) (h : Rt p l0 0 = some r) :
 Calls Tryz.prog 167 #[.slice A0 l0.length c0, .func (.func g) #[] lb] w fun e w' => e = .returned (.int .i64 r) ∧ Below w.heap.size w w' := by
 have hlen := hr0.2.1;have HR0 := qa.mk hr0;clear hr0;have HP := qa.mk hp;clear hp;have H0 := qa.mk h;clear h;go_enter Tryz.func167, Tryz.ntmps167;go_wp2;go_loopg [5, 8] l0.length (fun gg _ s8 wr => ∃ kk : Nat, kk ≤ l0.length ∧ l0.length - kk ≤ gg ∧ s8 = .int .i64 kk ∧ qa (Below w.heap.size w wr) ∧ qa (Rt p (l0.drop kk) kk = some r));case atStart => exact ⟨0, Nat.zero_le _, by omega, rfl, ⟨Below.refl _ w⟩, H0⟩
 case round =>
  obtain ⟨kk, hkk, hg, rfl, BW, A⟩ := hrel;by_cases hlt : kk < l0.length
  ·have hltz : (kk : Int) < (l0.length : Int) := by omega
   obtain ⟨ad, c, e, _, hK, hcell⟩ := Kd.C_get HR0.out ([] : List Int) (kk : Int) (by omega) hltz;subst e;rw [Int.toNat_natCast] at hK hcell;have hKK := hK;obtain ⟨A1, c1, rfl, hl1, hk1⟩ := hKK;have l2 := (BW.out.cell (World.block_lt_of_cell? w _ (hcell 0 _ rfl))).trans (hcell 0 _ rfl);clear hcell;obtain ⟨b, hb, h1, h2⟩ := Rm A.out (show l0[kk]? = some (l0.getD kk []) by rw [List.getD_eq_getElem?_getD, List.getElem?_eq_getElem hlt]; rfl);have hcall := HP.out wr _ _ b BW.out hK hb;have l3 : wr.cell? (ad.add kk) = some (.slice A1 (l0.getD kk []).length c1) := by simpa [show (Kd.slice 3 (Kd.int .i64)).sz = 1 from rfl] using l2
   clear l2 hK hk1;generalize l0.getD kk [] = y at l3 hcall hb hl1;have B := qa.mk hb;clear hb;cases b with
   | true =>
    have E := h1 rfl;clear h1 h2;have E' := qa.mk E;clear E;go_wp2_with (go_at_fn g; refine hcall.mono ?_; rintro e w' ⟨rfl, hb'⟩);go_ret;exact ⟨Ou E'.out.symm, hb'⟩
   | false =>
    have E := qa.mk (h2 rfl);clear h1 h2;go_wp2_with (go_at_fn g; refine hcall.mono ?_; rintro e w' ⟨rfl, hb'⟩);go_roundg (l0.length - (kk + 1));case measure => omega
    case rel => exact ⟨kk + 1, by omega, by omega, by go_num, ⟨hb'⟩, E⟩
  ·have hltz : ¬ (kk : Int) < (l0.length : Int) := by omega
   have : kk = l0.length := by omega
   subst this;go_wp2;go_ret;refine ⟨?_, BW.out⟩;have h3 := A.out;rw [List.drop_length] at h3;have h4 : (-1 : Int) = r := by simpa [Rt] using h3
   exact Ou h4
theorem Nn (p : List Int → Option Bool) (g : Nat) (lb : Array Value) (eg : ∀ args w, (callFunc g args).run Tryz.prog w = .ok (.enter g args) w)
 (A0 : Option Addr) (c0 : Nat) (l0 : List (List Int)) (r : Bool) (w : World) (hr0 : Kd.C (Kd.slice 3 (Kd.int .i64)) w A0 l0.length l0) (hc0 : l0.length ≤ c0)
 (hp : Tw Tryz.prog g lb (Kd.slice 3 (Kd.int .i64)) (fun c => c.getD 0 undef) w p) (h : Ru p l0 = some r) :
 Calls Tryz.prog 149 #[.slice A0 l0.length c0, .func (.func g) #[] lb] w fun e w' => e = .returned (.bool r) ∧ Below w.heap.size w w' := by
 obtain ⟨i, hi, rfl⟩ := Qm p l0 0 r h;have hcon := Mr p g lb eg A0 c0 l0 i w hr0 hc0 hp hi;clear hr0 hp h hi;go_enter Tryz.func149, Tryz.ntmps149;go_wp2_with (go_at_call 167; refine hcon.mono ?_; rintro e w' ⟨rfl, hb'⟩);go_ret;exact ⟨rfl, hb'⟩
def Fe.f (a0 : Int) (a1 : Int) (a2 : Int) : Option (Bool) := if a0 ≥ a1 then (some (decide (a0 ≤ a2))) else (some false)
theorem Fe.calls (a0 : Int) (a1 : Int) (a2 : Int) (r : Bool) (w : World) (h : Fe.f a0 a1 a2 = some r) :
 Calls Tryz.prog 74 #[.int .i64 a0, .int .i64 a1, .int .i64 a2] w fun e w' => e = .returned (.bool r) ∧ Jd w w' := by
 have H : (if a0 ≥ a1 then (some (decide (a0 ≤ a2))) else (some false)) = some r := h;clear h;by_cases c4 : a0 ≥ a1
 ·rw [if_pos c4] at H;have c4b0 := decide_eq_true c4;clear c4;obtain rfl := Option.some.inj H;go_enter Tryz.func74, Tryz.ntmps74;go_wp2;go_ret;exact za1
 rw [if_neg c4] at H;have c4b0 := decide_eq_false c4;clear c4;obtain rfl := Option.some.inj H;go_enter Tryz.func74, Tryz.ntmps74;go_wp2;go_ret;exact za1
def cmp_isNaN_int.f (a0 : Int) : Option (Bool) := some (a0 != a0)
theorem cmp_isNaN_int.calls (a0 : Int) (r : Bool) (w : World) (h : cmp_isNaN_int.f a0 = some r) :
 Calls Tryz.prog 169 #[.int .i64 a0] w fun e w' => e = .returned (.bool r) ∧ Jd w w' := by
 have H : (some (a0 != a0)) = some r := h;clear h;obtain rfl := Option.some.inj H;go_enter Tryz.func169, Tryz.ntmps169;go_wp2;go_ret;exact za1
def cmp_Compare_int.f (a0 : Int) (a1 : Int) : Option (Int) := (cmp_isNaN_int.f a0).bind fun t105 => ((cmp_isNaN_int.f a1).bind fun t106 => (if t105 = true then (if t106 = true then (some 0) else (some (-1))) else (if t106 = true then (some 1) else (if a0 < a1 then (some (-1)) else (if a0 > a1 then (some 1) else (some 0))))))
theorem cmp_Compare_int.calls (a0 : Int) (a1 : Int) (r : Int) (w : World) (h : cmp_Compare_int.f a0 a1 = some r) :
 Calls Tryz.prog 152 #[.int .i64 a0, .int .i64 a1] w fun e w' => e = .returned (.int .i64 r) ∧ Jd w w' := by
 have H : ((cmp_isNaN_int.f a0).bind fun t105 => ((cmp_isNaN_int.f a1).bind fun t106 => (if t105 = true then (if t106 = true then (some 0) else (some (-1))) else (if t106 = true then (some 1) else (if a0 < a1 then (some (-1)) else (if a0 > a1 then (some 1) else (some 0))))))) = some r := h;clear h;replace H := zB0 H;obtain ⟨t105, A30, H⟩ := H;have A3 := qa.mk A30;clear A30;replace H := zB0 H;obtain ⟨t106, A40, H⟩ := H;have A4 := qa.mk A40;clear A40;by_cases c5 : t105 = true
 ·subst c5;rw [if_pos rfl] at H;by_cases c6 : t106 = true
  ·subst c6;rw [if_pos rfl] at H;obtain rfl := Option.some.inj H;go_enter Tryz.func152, Tryz.ntmps152;go_wp2_with (first | ((with_reducible refine Va (f := 169) rfl ?_); refine zl 8 Tryz.func169 #[.int .i64 a0] ?_; (with_reducible refine (cmp_isNaN_int.calls a0 true _ A3.out).mono ?_); rintro e w' ⟨rfl, ⟨nd, rfl⟩⟩; refine ⟨_, rfl, ?_⟩) | ((with_reducible refine Va (f := 169) rfl ?_); refine zl 10 Tryz.func169 #[.int .i64 a1] ?_; (with_reducible refine (cmp_isNaN_int.calls a1 true _ A4.out).mono ?_); rintro e w' ⟨rfl, ⟨nd, rfl⟩⟩; refine ⟨_, rfl, ?_⟩));go_ret;exact za1
  replace c6 := Bool.eq_false_iff.mpr c6;subst c6;rw [if_neg zF] at H;obtain rfl := Option.some.inj H;go_enter Tryz.func152, Tryz.ntmps152;go_wp2_with (first | ((with_reducible refine Va (f := 169) rfl ?_); refine zl 8 Tryz.func169 #[.int .i64 a0] ?_; (with_reducible refine (cmp_isNaN_int.calls a0 true _ A3.out).mono ?_); rintro e w' ⟨rfl, ⟨nd, rfl⟩⟩; refine ⟨_, rfl, ?_⟩) | ((with_reducible refine Va (f := 169) rfl ?_); refine zl 10 Tryz.func169 #[.int .i64 a1] ?_; (with_reducible refine (cmp_isNaN_int.calls a1 false _ A4.out).mono ?_); rintro e w' ⟨rfl, ⟨nd, rfl⟩⟩; refine ⟨_, rfl, ?_⟩));go_ret;exact za1
 replace c5 := Bool.eq_false_iff.mpr c5;subst c5;rw [if_neg zF] at H;by_cases c7 : t106 = true
 ·subst c7;rw [if_pos rfl] at H;obtain rfl := Option.some.inj H;go_enter Tryz.func152, Tryz.ntmps152;go_wp2_with (first | ((with_reducible refine Va (f := 169) rfl ?_); refine zl 8 Tryz.func169 #[.int .i64 a0] ?_; (with_reducible refine (cmp_isNaN_int.calls a0 false _ A3.out).mono ?_); rintro e w' ⟨rfl, ⟨nd, rfl⟩⟩; refine ⟨_, rfl, ?_⟩) | ((with_reducible refine Va (f := 169) rfl ?_); refine zl 10 Tryz.func169 #[.int .i64 a1] ?_; (with_reducible refine (cmp_isNaN_int.calls a1 true _ A4.out).mono ?_); rintro e w' ⟨rfl, ⟨nd, rfl⟩⟩; refine ⟨_, rfl, ?_⟩));go_ret;exact za1
 replace c7 := Bool.eq_false_iff.mpr c7;subst c7;rw [if_neg zF] at H;by_cases c8 : a0 < a1
 ·rw [if_pos c8] at H;have c8b0 := decide_eq_true c8;clear c8;obtain rfl := Option.some.inj H;go_enter Tryz.func152, Tryz.ntmps152;go_wp2_with (first | ((with_reducible refine Va (f := 169) rfl ?_); refine zl 8 Tryz.func169 #[.int .i64 a0] ?_; (with_reducible refine (cmp_isNaN_int.calls a0 false _ A3.out).mono ?_); rintro e w' ⟨rfl, ⟨nd, rfl⟩⟩; refine ⟨_, rfl, ?_⟩) | ((with_reducible refine Va (f := 169) rfl ?_); refine zl 10 Tryz.func169 #[.int .i64 a1] ?_; (with_reducible refine (cmp_isNaN_int.calls a1 false _ A4.out).mono ?_); rintro e w' ⟨rfl, ⟨nd, rfl⟩⟩; refine ⟨_, rfl, ?_⟩));go_ret;exact za1
 rw [if_neg c8] at H;have c8b0 := decide_eq_false c8;clear c8;by_cases c9 : a0 > a1
 ·rw [if_pos c9] at H;have c9b0 := decide_eq_true c9;clear c9;obtain rfl := Option.some.inj H;go_enter Tryz.func152, Tryz.ntmps152;go_wp2_with (first | ((with_reducible refine Va (f := 169) rfl ?_); refine zl 8 Tryz.func169 #[.int .i64 a0] ?_; (with_reducible refine (cmp_isNaN_int.calls a0 false _ A3.out).mono ?_); rintro e w' ⟨rfl, ⟨nd, rfl⟩⟩; refine ⟨_, rfl, ?_⟩) | ((with_reducible refine Va (f := 169) rfl ?_); refine zl 10 Tryz.func169 #[.int .i64 a1] ?_; (with_reducible refine (cmp_isNaN_int.calls a1 false _ A4.out).mono ?_); rintro e w' ⟨rfl, ⟨nd, rfl⟩⟩; refine ⟨_, rfl, ?_⟩));go_ret;exact za1
 rw [if_neg c9] at H;have c9b0 := decide_eq_false c9;clear c9;obtain rfl := Option.some.inj H;go_enter Tryz.func152, Tryz.ntmps152;go_wp2_with (first | ((with_reducible refine Va (f := 169) rfl ?_); refine zl 8 Tryz.func169 #[.int .i64 a0] ?_; (with_reducible refine (cmp_isNaN_int.calls a0 false _ A3.out).mono ?_); rintro e w' ⟨rfl, ⟨nd, rfl⟩⟩; refine ⟨_, rfl, ?_⟩) | ((with_reducible refine Va (f := 169) rfl ?_); refine zl 10 Tryz.func169 #[.int .i64 a1] ?_; (with_reducible refine (cmp_isNaN_int.calls a1 false _ A4.out).mono ?_); rintro e w' ⟨rfl, ⟨nd, rfl⟩⟩; refine ⟨_, rfl, ?_⟩));go_ret;exact za1
def Xb.l0 : Nat → List Int → List Int → List Int → Int → Int → Option (Int)
 | 0, _, _, _, _, _ => none
 | k + 1, x0, x1, x9, x10, x11 => if x11 < x10 then (if 0 ≤ x11 then (if x11 < (x9.length : Int) then (if x11 ≥ (x1.length : Int) then (some 1) else (if x11 < (x1.length : Int) then ((cmp_Compare_int.f (rd x9 x11) (rd x1 x11)).bind fun t109 => (if t109 = 0 then (Xb.l0 k x0 x1 x9 x10 (wrap64 (x11 + 1))) else (some t109))) else (none))) else (none)) else (none)) else (if (x0.length : Int) < (x1.length : Int) then (some (-1)) else (some 0))
def Xb.f (k : Nat) (l0 : List Int) (l1 : List Int) : Option (Int) := Xb.l0 k l0 l1 l0 (l0.length : Int) 0
theorem Xb.calls (k : Nat) (A0 : Option Addr) (c0 : Nat) (l0 : List Int) (A1 : Option Addr) (c1 : Nat) (l1 : List Int) (r : Int) (w : World) (hr0 : Kd.C (Kd.int .i64) w A0 l0.length l0) (hc0 : l0.length ≤ c0) (hr1 : Kd.C (Kd.int .i64) w A1 l1.length l1) (hc1 : l1.length ≤ c1) (h : Xb.f k l0 l1 = some r) :
 Calls Tryz.prog 104 #[.slice A0 l0.length c0, .slice A1 l1.length c1] w fun e w' => e = .returned (.int .i64 r) ∧ Jd w w' := by
 have HR0 := qa.mk hr0;have HC0 := qa.mk hc0;clear hr0 hc0;have HR1 := qa.mk hr1;have HC1 := qa.mk hc1;clear hr1 hc1;have H : (Xb.l0 k l0 l1 l0 (l0.length : Int) 0) = some r := h;clear h;have H' := qa.mk H;clear H;go_enter Tryz.func104, Tryz.ntmps104;go_wp2;go_loopg [11] k (fun kq v11 w' => ∃ (x11_1 : Int), v11 = .int .i64 x11_1 ∧ qa (Xb.l0 kq l0 l1 l0 (l0.length : Int) x11_1 = some r) ∧ qa (kq ≤ k) ∧ Jd w w');case atStart => exact ⟨(0), zE, H', ⟨Nat.le_refl _⟩, zD⟩
 case round =>
  clear H';try clear c1
  try clear p2
  obtain ⟨x11_1, rfl, HA, HK1, ⟨m1, rfl⟩⟩ := hrel;cases gk with
  | zero => exact absurd HA.out (by simp [Xb.l0])
  | succ k1 =>
   have H := HA.out;clear HA;simp only [Xb.l0] at H;by_cases c3 : x11_1 < (l0.length : Int)
   rotate_left
   ·rw [if_neg c3] at H;have c3b0 := decide_eq_false c3;clear c3;by_cases c10 : (l0.length : Int) < (l1.length : Int)
    ·rw [if_pos c10] at H;have c10b0 := decide_eq_true c10;have c10b1 : decide (l0.length < l1.length) = true := decide_eq_true (Int.ofNat_lt.mp c10);clear c10;obtain rfl := Option.some.inj H;go_wp2;go_ret;exact za1
    rw [if_neg c10] at H;have c10b0 := decide_eq_false c10;have c10b1 : decide (l0.length < l1.length) = false := decide_eq_false (fun h => c10 (Int.ofNat_lt.mpr h));clear c10;obtain rfl := Option.some.inj H;go_wp2;go_ret;exact za1
   rw [if_pos c3] at H;have c3b0 := decide_eq_true c3;clear c3;by_cases c4 : 0 ≤ x11_1
   rotate_left
   ·rw [if_neg c4] at H;cases H
   rw [if_pos c4] at H;have c4b0 := decide_eq_true c4;clear c4;by_cases c5 : x11_1 < (l0.length : Int)
   rotate_left
   ·rw [if_neg c5] at H;cases H
   rw [if_pos c5] at H;have c5b0 := decide_eq_true c5;clear c5;by_cases c6 : x11_1 ≥ (l1.length : Int)
   ·rw [if_pos c6] at H;have c6b0 := decide_eq_true c6;clear c6;obtain rfl := Option.some.inj H;obtain ⟨⟨ad107, e107, hx107_0⟩, p107, q107⟩ := zW (Kd.at_int HR0.out x11_1);cases e107;go_wp2;go_ret;exact za1
   rw [if_neg c6] at H;have c6b0 := decide_eq_false c6;clear c6;by_cases c7 : x11_1 < (l1.length : Int)
   rotate_left
   ·rw [if_neg c7] at H;cases H
   rw [if_pos c7] at H;have c7b0 := decide_eq_true c7;clear c7;replace H := zB0 H;obtain ⟨t109, A80, H⟩ := H;have A8 := qa.mk A80;clear A80;by_cases c9 : t109 = 0
   rotate_left
   ·rw [if_neg c9] at H;have c9b0 := beq_eq_false_iff_ne.mpr c9;have c9b1 := bne_iff_ne.mpr c9;obtain rfl := Option.some.inj H;obtain ⟨⟨ad107, e107, hx107_0⟩, p107, q107⟩ := zW (Kd.at_int HR0.out x11_1);cases e107;obtain ⟨⟨ad108, e108, hx108_0⟩, p108, q108⟩ := zW (Kd.at_int HR1.out x11_1);cases e108;go_wp2_with (first | ((with_reducible refine Va (f := 152) rfl ?_); refine zl 26 Tryz.func152 #[.int .i64 (rd l0 x11_1), .int .i64 (rd l1 x11_1)] ?_; (with_reducible refine (cmp_Compare_int.calls (rd l0 x11_1) (rd l1 x11_1) t109 _ A8.out).mono ?_); rintro e w' ⟨rfl, ⟨nd, rfl⟩⟩; refine ⟨_, rfl, ?_⟩));go_ret;exact za1
   rw [if_pos c9] at H;have c9b0 := beq_iff_eq.mpr c9;have c9b1 := bne_eq_false_iff_eq.mpr c9;clear c9;have H' := qa.mk H;clear H;obtain ⟨⟨ad107, e107, hx107_0⟩, p107, q107⟩ := zW (Kd.at_int HR0.out x11_1);cases e107;obtain ⟨⟨ad108, e108, hx108_0⟩, p108, q108⟩ := zW (Kd.at_int HR1.out x11_1);cases e108;go_wp2_with (first | ((with_reducible refine Va (f := 152) rfl ?_); refine zl 26 Tryz.func152 #[.int .i64 (rd l0 x11_1), .int .i64 (rd l1 x11_1)] ?_; (with_reducible refine (cmp_Compare_int.calls (rd l0 x11_1) (rd l1 x11_1) t109 _ A8.out).mono ?_); rintro e w' ⟨rfl, ⟨nd, rfl⟩⟩; refine ⟨_, rfl, ?_⟩));go_roundg k1;case measure => have := HK1.out; omega
   case rel => exact ⟨(wrap64 (x11_1 + 1)), zE, H', zO HK1, zD⟩
def Gd.l0 : Nat → Int → List Int → Int → Int → Option (Int)
 | 0, _, _, _, _ => none
 | k + 1, x3, x6, x7, x8 => if x8 < x7 then (if 0 ≤ x8 then (if x8 < (x6.length : Int) then (if 0 ≤ (rd x6 x8) then (Gd.l0 k (Go.bits .or .i64 x3 (shl .i64 1 (rd x6 x8))) x6 x7 (wrap64 (x8 + 1))) else (none)) else (none)) else (none)) else (some x3)
def Gd.f (k : Nat) (l0 : List Int) : Option (Int) := Gd.l0 k 0 l0 (l0.length : Int) 0
theorem Gd.calls (k : Nat) (A0 : Option Addr) (c0 : Nat) (l0 : List Int) (r : Int) (w : World) (hr0 : Kd.C (Kd.int .i64) w A0 l0.length l0) (hc0 : l0.length ≤ c0) (h : Gd.f k l0 = some r) :
 Calls Tryz.prog 105 #[.slice A0 l0.length c0] w fun e w' => e = .returned (.int .i64 r) ∧ Jd w w' := by
 have HR0 := qa.mk hr0;have HC0 := qa.mk hc0;clear hr0 hc0;have H : (Gd.l0 k 0 l0 (l0.length : Int) 0) = some r := h;clear h;have H' := qa.mk H;clear H;go_enter Tryz.func105, Tryz.ntmps105;go_wp2;go_loopg [3, 8] k (fun kq v3 v8 w' => ∃ (x3_1 : Int) (x8_1 : Int), v3 = .int .i64 x3_1 ∧ v8 = .int .i64 x8_1 ∧ qa (Gd.l0 kq x3_1 l0 (l0.length : Int) x8_1 = some r) ∧ qa (kq ≤ k) ∧ Jd w w');case atStart => exact ⟨(0), (0), zE, zE, H', ⟨Nat.le_refl _⟩, zD⟩
 case round =>
  clear H';try clear c1
  obtain ⟨x3_1, x8_1, rfl, rfl, HA, HK1, ⟨m1, rfl⟩⟩ := hrel;cases gk with
  | zero => exact absurd HA.out (by simp [Gd.l0])
  | succ k1 =>
   have H := HA.out;clear HA;simp only [Gd.l0] at H;by_cases c2 : x8_1 < (l0.length : Int)
   ·rw [if_pos c2] at H;have c2b0 := decide_eq_true c2;clear c2;by_cases c3 : 0 ≤ x8_1
    ·rw [if_pos c3] at H;have c3b0 := decide_eq_true c3;clear c3;by_cases c4 : x8_1 < (l0.length : Int)
     ·rw [if_pos c4] at H;have c4b0 := decide_eq_true c4;clear c4;by_cases c5 : 0 ≤ (rd l0 x8_1)
      ·rw [if_pos c5] at H;have c5b0 := eq_true c5;have c5b1 := decide_eq_true c5;clear c5;obtain ⟨ji6, hji6⟩ : ∃ j_ : Int, (shl .i64 1 (rd l0 x8_1)) = j_ := ⟨_, rfl⟩;rw [hji6] at H;obtain ⟨hji6_, hji6z, hji6u, hji6v, hji6y, hji6x⟩ := zJ1 hji6;have H' := qa.mk H;clear H;obtain ⟨⟨ad110, e110, hx110_0⟩, p110, q110⟩ := zW (Kd.at_int HR0.out x8_1);cases e110;go_wp2;go_roundg k1;case measure => have := HK1.out; omega
       case rel => exact ⟨(Go.bits .or .i64 x3_1 (ji6)), (wrap64 (x8_1 + 1)), (by first | rfl | (simp; done) | (simp only [← hji6] <;> (first | rfl | simp)) | (simp [*]; done)), zE, H', zO HK1, zD⟩
      ·rw [if_neg c5] at H;cases H
     ·rw [if_neg c4] at H;cases H
    ·rw [if_neg c3] at H;cases H
   ·rw [if_neg c2] at H;have c2b0 := decide_eq_false c2;clear c2;obtain rfl := Option.some.inj H;go_wp2;go_ret;exact za1
section
variable (a1 : Int → Option Bool)
def Ka.l0 : Nat → Int → Int → Int → List Bool → Option (Int × List Bool)
 | 0, _, _, _, _ => none
 | k + 1, x14, x15, x127000, x127001 => if x15 < x14 then ((a1 x15).bind fun t127 => (if 0 ≤ x15 then (if x15 < (x127001.length : Int) then (Ka.l0 k x14 (wrap64 (x15 + 1)) x127000 (x127001.set (x15 : Int).toNat t127)) else (none)) else (none))) else (some (x127000, x127001))
def Ka.f (k : Nat) (a0 : Int) (a1 : Int → Option Bool) : Option (Int × List Bool) := if 0 ≤ a0 then (if 0 ≤ (shl .i64 1 a0) then (if (shl .i64 1 a0 : Int).toNat ≤ 281474976710656 then ((some (List.replicate (shl .i64 1 a0 : Int).toNat false : List Bool)).bind fun y123 => (Ka.l0 a1 k (y123.length : Int) 0 a0 y123)) else (none)) else (none)) else (none)
theorem Ka.mono_l : ∀ k, (∀ y0 y1 y2 y3, LeO (Ka.l0 a1 k y0 y1 y2 y3) (Ka.l0 a1 (k + 1) y0 y1 y2 y3))
 | 0 => fun _ _ _ _ r h => by simp [Ka.l0] at h
 | k + 1 => by
  have ih0 := Ka.mono_l k
  ·intro y0 y1 y2 y3;unfold Ka.l0;repeat' first
   | (with_reducible exact ih0 _ _ _ _)
   | (with_reducible exact LeO.refl _)
   | (with_reducible exact LeO.none _)
   | (with_reducible refine LeO.ite ?_ ?_)
   | (with_reducible refine LeO.bind ?_ (fun _ => ?_))
   | exact ih0 _ _ _ _
   | exact LeO.none _
   | refine LeO.ite ?_ ?_
   | refine LeO.bind ?_ (fun _ => ?_)
theorem Ka.mono : ∀ a0 a1 k, LeO (Ka.f k a0 a1) (Ka.f (k + 1) a0 a1) := by
 intro a0 a1 k;have ih0 := Ka.mono_l a1 k;unfold Ka.f;repeat' first
  | (with_reducible exact ih0 _ _ _ _)
  | (with_reducible exact LeO.refl _)
  | (with_reducible exact LeO.none _)
  | (with_reducible refine LeO.ite ?_ ?_)
  | (with_reducible refine LeO.bind ?_ (fun _ => ?_))
  | exact ih0 _ _ _ _
  | exact LeO.none _
  | refine LeO.ite ?_ ?_
  | refine LeO.bind ?_ (fun _ => ?_)
def Ka.T5 : Bool × List (List Nat × List Nat) := (true, [([], []), ([0], [0]), ([], []), ([], []), ([], []), ([3, 4], [3, 4]), ([1, 2, 0, 1, 2, 3, 4, 5], [1, 2]), ([6, 5, 5, 0, 1, 2, 3, 4, 5], [5, 6])])
def Ka.B5 : List Nat := [0, 1, 0, 0, 0, 24, 63, 127]
theorem Ka.tab5 : ym .any (opsOf Tryz.f79 5) = Ka.T5 := by kernel_rfl
theorem Ka.bits5 : Vj Ka.T5.2 Ka.B5 = true := by kernel_rfl
theorem Ka.calls (k : Nat) (a0 : Int) (a1 : Int → Option Bool) (g_ : Nat) (fa_ lb_ : Array Value) (eg_ : ∀ args w, (callFunc g_ args).run Tryz.prog w = .ok (.enter g_ args) w) (r1 : Int) (r2 : List Bool) (w : World) (hp0_ : Qt Tryz.prog g_ fa_ lb_ w a1) (h : Ka.f k a0 a1 = some (r1, r2)) :
 Calls Tryz.prog 79 #[.int .i64 a0, .func (.func g_) fa_ lb_] w fun e w' => ∃ v1_ : Value, e = .returned (.agg #[.int .i64 r1, v1_]) ∧ Kd.R Kd.bool 4 w' w.heap.size (fun _ => True) v1_ r2 ∧ Below w.heap.size w w' := by
 have hp_ := qa.mk hp0_;clear hp0_;have hu62 := Tryz.underlying62;have HB := qa.mk (Below.refl w.heap.size w);have H : (if 0 ≤ a0 then (if 0 ≤ (shl .i64 1 a0) then (if (shl .i64 1 a0 : Int).toNat ≤ 281474976710656 then ((some (List.replicate (shl .i64 1 a0 : Int).toNat false : List Bool)).bind fun y123 => (Ka.l0 a1 k (y123.length : Int) 0 a0 y123)) else (none)) else (none)) else (none)) = some (r1, r2) := h;clear h;by_cases c3 : 0 ≤ a0
 ·rw [if_pos c3] at H;have c3b0 := eq_true c3;have c3b1 := decide_eq_true c3;clear c3;obtain ⟨ji4, hji4⟩ : ∃ j_ : Int, (shl .i64 1 a0) = j_ := ⟨_, rfl⟩;first | rw [hji4] at H | simp only [hji4] at H
  obtain ⟨hji4_, hji4z, hji4u, hji4v, hji4y, hji4x⟩ := zJ1 hji4;by_cases c5 : 0 ≤ (ji4)
  ·rw [if_pos c5] at H;have c5b0 := eq_true c5;have c5b1 := decide_eq_true c5;clear c5;by_cases c6 : (ji4 : Int).toNat ≤ 281474976710656
   ·rw [if_pos c6] at H;have c6b0 := eq_true c6;have c6b1 := decide_eq_true c6;clear c6;replace H := zY H;obtain ⟨y123, Ny123, H⟩ := H;have H' := qa.mk H;clear H;go_enter Tryz.func79, Tryz.ntmps79;go_wp2_with (first | ((with_reducible refine Ma (N := 4) rfl ?_); refine zq 4 #[.int .i64 0, .slice none 0 0] 62 ?_; intro gb122 hg w7 hbox hb; have GW122 := zG hg HB; replace HB := zH hb HB; have BK122 := qa.mk hbox; have GE122 := GW122; clear hb hbox hg) | ((with_reducible refine Ma (N := 10) rfl ?_); refine Kd.R_make Kd.bool _ 4 rfl (N := 10) rfl 60 _ _ rfl ji4 rfl rfl Tryz.underlying60 (.bool false) 1 SH rfl (by decide) (by omega) false (ok := fun _ => True) (okp := fun _ => True) rfl (fun _ hk => hk) trivial (zk) (Nat.le_trans (Nat.mul_le_mul_right _ (zk : ji4.toNat ≤ 281474976710656)) (by omega)) (Below.refl _ _) (Nat.le_refl _) ?_; intro v124 w8 ho9 hb hg_ hnew_; clear hg_ hnew_; (first | rw [← Ny123.out] at ho9 | (simp only [Int.reduceToNat] at ho9; rw [← Ny123.out] at ho9)); have HO125 := qa.mk (Kd.R_lower ho9 (Ua (zh HB.out))); replace BK122 := zK BK122 hb; replace HB := zH hb HB; clear hb ho9; obtain ⟨Ao10, co10, eo10⟩ := Kd.R_slice HO125.out; subst eo10) | ((with_reducible refine Ma (N := 5) rfl ?_); refine zq 5 #[.int .i64 0, .slice none 0 0] 62 ?_; intro gb126 hg w11 hbox hb; have BK126 := qa.mk hbox; have GW126 := zG hg HB; have GE126 := zG hg HB; have NB122_126 := zNa hg BK122; have NB126_122 := zNb hg BK122; replace HO125 := qa.mk (Kd.R_below (zr HO125.out) hb); replace BK122 := zK BK122 hb; replace HB := zH hb HB; clear hb hbox hg; have hnb12 := NB126_122.out; have hnc12 := NB122_126.out; obtain ⟨hcz13_0, hcz13_1, hfz13_0, hfz13_1⟩ := zC2 BK126));go_loopg [15] k (fun kq v15 w' => ∃ (x15_1 : Int) (x127001_1 : List Bool) (u127001 : Value), v15 = .int .i64 x15_1 ∧ qa (Ka.l0 a1 kq (y123.length : Int) x15_1 a0 x127001_1 = some (r1, r2)) ∧ qa (kq ≤ k) ∧ qa (Kd.R Kd.bool 4 w' w.heap.size (fun _ => True) u127001 x127001_1) ∧ qa (w'.heap[gb122]? = some (.cells #[.int .i64 0, (.slice none 0 0)] 62 (0, 0))) ∧ qa (w'.heap[gb126]? = some (.cells #[.int .i64 a0, u127001] 62 (0, 0))) ∧ qa (Below w.heap.size w w'));case atStart => exact ⟨(0), (y123), (.slice Ao10 y123.length co10), zE, H', ⟨Nat.le_refl _⟩, ⟨by (with_reducible repeat (first | apply Kd.R_alloc | apply Kd.R_drewN | apply Kd.R_drew)); exact Kd.R_mono (Kd.R_far (p := ⟨gb126, 1, none⟩) (Kd.R_far (p := ⟨gb126, 0, none⟩) (Kd.R_types HO125.out BK126.out (by decide)) (fun _ hk => hk.2) (.int .i64 a0)) (fun _ hk => hk.2) (.slice Ao10 y123.length co10)) (fun _ hk => trivial)⟩, ⟨zf2 BK122.out NB122_126.out NB122_126.out⟩, ⟨by (with_reducible repeat (first | refine Ca ?_ _ | refine Ra ?_ | refine Qa ?_ _)); refine Yb (cs := #[.int .i64 a0, .slice none 0 0]) ?_ 1 _ rfl; (with_reducible repeat (first | refine Ca ?_ _ | refine Ra ?_ | refine Qa ?_ _)); refine Yb (cs := #[.int .i64 0, .slice none 0 0]) ?_ 0 _ rfl; exact zb BK126.out⟩, ⟨zh HB.out⟩⟩
    case round =>
     clear H';try clear c1
     try clear p2
     try clear c3
     try clear c3b0
     try clear c3b1
     try clear c5
     try clear c5b0
     try clear c5b1
     try clear c6
     try clear c6b0
     try clear c6b1
     try clear p6
     try clear c7
     try clear c12
     try clear hcz13_0
     try clear hcz13_1
     try clear hfz13_0
     try clear hfz13_1
     obtain ⟨x15_1, x127001_1, u127001, rfl, HA, HK1, HO_127001, BK122, BK126, HB⟩ := hrel;cases gk with
     | zero => exact absurd HA.out (by simp [Ka.l0])
     | succ k1 =>
      have H := HA.out;clear HA;simp only [Ka.l0] at H;by_cases c14 : x15_1 < (y123.length : Int)
      ·rw [if_pos c14] at H;have c14b0 := decide_eq_true c14;clear c14;replace H := zB0 H;obtain ⟨t127, A150, H⟩ := H;replace H : (if 0 ≤ x15_1 then (if x15_1 < (x127001_1.length : Int) then (Ka.l0 a1 k1 (y123.length : Int) (wrap64 (x15_1 + 1)) a0 (x127001_1.set (x15_1 : Int).toNat t127)) else (none)) else (none)) = some (r1, r2) := H;have A15 := qa.mk A150;clear A150;by_cases c16 : 0 ≤ x15_1
       ·rw [if_pos c16] at H;have c16b0 := decide_eq_true c16;clear c16;by_cases c17 : x15_1 < (x127001_1.length : Int)
        ·rw [if_pos c17] at H;have c17b0 := decide_eq_true c17;clear c17;obtain ⟨y128, hy128⟩ : ∃ y_ : List Bool, y_ = (x127001_1.set (x15_1 : Int).toNat t127) := ⟨_, rfl⟩;rw [← hy128] at H;have Ny128 := qa.mk hy128;clear hy128;have H' := qa.mk H;clear H;try go_wp2
         have n0_ := qa.mk (Kd.R_drew HO_127001.out);have n1_ := qa.mk (Ra BK122.out);have n2_ := qa.mk (Ra BK126.out);have n3_ := qa.mk (Ud HB.out);clear HO_127001 BK122 BK126 HB;have HO_127001 := n0_;have BK122 := n1_;have BK126 := n2_;have HB := n3_;clear n0_ n1_ n2_ n3_;refine Kg (n := 8) (S := fun w' => w'.cell? ⟨gb126, 0, none⟩ = some (.int .i64 a0) ∧ w'.cell? ⟨gb126, 1, none⟩ = some (u127001)) (ds := [7]) (tb 8 0) (by kernel_rfl) rfl rfl ⟨(Ya BK126.out 0).trans rfl, (Ya BK126.out 1).trans rfl⟩ (fun hHeld => ?_); refine Ug Ka.tab5 Ka.bits5 (fun HT_ HW_ => ?_);generalize wr.drew = w19 at HO_127001 BK122 BK126 HB hHeld ⊢;refine zu (i := 0) (N := some 18) (tb 8 1) rfl rfl HT_ ?_;refine zu (i := 2) (N := some 20) (tb 8 5) rfl rfl HT_ ?_;refine zu (i := 3) (N := some 21) (tb 8 13) rfl rfl HT_ ?_;refine zu (i := 4) (N := some 22) (tb 8 29) rfl rfl HT_ ?_;refine zt (i := 1) (N := some 19) (tb 8 31) rfl rfl (Wd HT_.out HW_.out (by kernel_rfl)) hHeld ?_;refine Uj (i := 5) (N := some 23) (tb 8 63) rfl rfl (Gh HT_.out (by kernel_rfl)) (by decide) (fun K hK => ?_);refine EK eg_ (by rfl) #[.int .i64 x15_1] (by rfl) rfl rfl (by (try simp only [List.map_toArray, List.map_cons, List.map_nil]); first | done | rfl | (simp only [List.length_drop, List.length_take]; rfl)) ?_
         with_reducible refine (hp_.out _ x15_1 t127 (zh HB.out) A15.out).mono ?_
         rintro e w20 ⟨rfl, hb⟩;refine ⟨_, rfl, ?_⟩;have n0_ := qa.mk (Kd.R_below (zr HO_127001.out) hb);have n1_ := qa.mk (Na (g := gb122) (o := .cells #[.int .i64 0, .slice none 0 0] 62 (0, 0)) (zb BK122.out) hb);have n2_ := qa.mk (Na (g := gb126) (o := .cells #[.int .i64 a0, u127001] 62 (0, 0)) (zb BK126.out) hb);have n3_ := qa.mk (Rc (zh HB.out) hb);clear HO_127001 BK122 BK126 HB;have HO_127001 := n0_;have BK122 := n1_;have BK126 := n2_;have HB := n3_;clear n0_ n1_ n2_ n3_;(try clear hb)
         (try clear hb2)
         (try clear hk)
         (try clear hi)
         have p18 : 0 ≤ (x15_1 : Int) := zk;have q18 : (x15_1 : Int) < ((x127001_1.length : Int) : Int) := zk;obtain ⟨go18, co18, eo18, gb18, gl18, cl18, HG18⟩ := Kd.R_form HO_127001.out (by omega);(first | cases eo18 | (injection eo18 with ea_ en_ ec_; (first | subst ea_ | (injection ea_ with ea_; subst ea_)); subst ec_; clear en_))
         have GB18 := qa.mk gb18;have GG18 := qa.mk HG18;clear gb18 gl18 HG18;obtain ⟨hx18_0, hf18_0⟩ := Kd.R_celln false HO_127001.out (x15_1 : Int) p18 q18;replace p18 := eq_true p18;replace q18 := eq_true q18;have HP21 := Kd.R_putn HO_127001.out (x15_1 : Int) t127;rw [← Ny128.out] at HP21;have HQ21 := qa.mk HP21;clear HP21;refine hK.out _ _ ⟨(Ya BK126.out 0).trans rfl, (Ya BK126.out 1).trans rfl⟩ (fun hHeld => ?_);clear hK K;refine zn1 ?_;refine zu (i := 6) (N := some 24) (tb 8 127) rfl rfl HT_ ?_;refine Qz (i := 7) (N := none) (tb 8 255) rfl rfl (Gh HT_.out (by kernel_rfl)) (by decide) (fun K hK => ?_);refine Pw (w1 := ?_) (by rfl) rfl ?_ ?_;rotate_left
         ·go_simp
          rfl
         refine hK.out _ _ ?_;clear hK K;refine Bi (Lh HT_.out (by kernel_rfl)) ?_;try go_wp2
         go_roundg k1;case measure => have := HK1.out; omega
         case rel => exact ⟨(wrap64 (x15_1 + 1)), (y128), (.slice (some ⟨go18, 0, none⟩) x127001_1.length co18), zE, H', zO HK1, ⟨zr HQ21.out⟩, ⟨by (with_reducible repeat (first | refine Ca ?_ _ | refine Ra ?_ | refine Qa ?_ _)); refine Nh ?_ (by have h_ := Kd.R_ne HO_127001.out BK122.out (by decide); intro e_; exact h_ (by rw [e_]; rfl)) _; exact zb BK122.out⟩, ⟨by (with_reducible repeat (first | refine Ca ?_ _ | refine Ra ?_ | refine Qa ?_ _)); refine Nh ?_ (by have h_ := Kd.R_ne HO_127001.out BK126.out (by decide); intro e_; exact h_ (by rw [e_]; rfl)) _; exact zb BK126.out⟩, ⟨zh HB.out⟩⟩
        ·rw [if_neg c17] at H;cases H
       ·rw [if_neg c16] at H;cases H
      ·rw [if_neg c14] at H;have c14b0 := decide_eq_false c14;clear c14;simp only [Option.some.injEq, Prod.mk.injEq] at H;obtain ⟨rfl, rfl⟩ := H;have hnb22 := NB126_122.out;have hnc22 := NB122_126.out;obtain ⟨hcz23_0, hcz23_1, hfz23_0, hfz23_1⟩ := zC2 BK126;obtain ⟨hcz24_0, hcz24_1, hfz24_0, hfz24_1⟩ := zC2 BK122;obtain ⟨Ao25, co25, eo25⟩ := Kd.R_slice HO_127001.out;subst eo25;go_wp2;refine bodyPost_ret (results_cell_row rfl _ _ gb122 62 #[.int .i64 a0, .slice Ao25 x127001_1.length co25] (0, 0) _ rfl (by (with_reducible repeat (first | refine Ca ?_ _ | refine Ra ?_ | refine Qa ?_ _)); refine Yb (cs := #[.int .i64 a0, .slice none 0 0]) ?_ 1 _ rfl; (with_reducible repeat (first | refine Ca ?_ _ | refine Ra ?_ | refine Qa ?_ _)); refine Yb (cs := #[.int .i64 0, .slice none 0 0]) ?_ 0 _ rfl; exact zb BK122.out) Tryz.underlying62 rfl (by kernel_rfl)) rfl ?_;exact ⟨_, by first | rfl | (simp [Ce, De] <;> rfl) | (simp only [← hji4]; first | rfl | (simp [Ce, De] <;> rfl)) | (simp [*, Ce, De] <;> rfl), by (with_reducible repeat (first | apply Kd.R_alloc | apply Kd.R_drewN | apply Kd.R_drew)); exact Kd.R_mono (Kd.R_far (p := ⟨gb122, 1, none⟩) (Kd.R_far (p := ⟨gb122, 0, none⟩) (Kd.R_types HO_127001.out BK122.out (by decide)) (fun _ hk => hk.2) (.int .i64 a0)) (fun _ hk => hk.2) (.slice Ao25 x127001_1.length co25)) (fun _ hk => trivial), zh HB.out⟩
   ·rw [if_neg c6] at H;cases H
  ·rw [if_neg c5] at H;cases H
 ·rw [if_neg c3] at H;cases H
end
theorem Tt (p : Int → Option Bool) (g : Nat) (lb : Array Value) (eg : ∀ args w, (callFunc g args).run Tryz.prog w = .ok (.enter g args) w)
 (A0 : Option Addr) (c0 : Nat) (l0 : List Int) (r : Int) (w : World) (hr0 : Kd.C (Kd.int .i64) w A0 l0.length l0) (hc0 : l0.length ≤ c0)
 (hp : Tw Tryz.prog g lb (Kd.int .i64) (fun c => c.getD 0 undef) w p) (h : Rt p l0 0 = some r) :
 Calls Tryz.prog 153 #[.slice A0 l0.length c0, .func (.func g) #[] lb] w fun e w' => e = .returned (.int .i64 r) ∧ Below w.heap.size w w' := by
 have hlen := hr0.2.1;have HR0 := qa.mk hr0;clear hr0;have HP := qa.mk hp;clear hp;have H0 := qa.mk h;clear h;go_enter Tryz.func153, Tryz.ntmps153;go_wp2;go_loopg [5, 8] l0.length (fun gg _ s8 wr => ∃ kk : Nat, kk ≤ l0.length ∧ l0.length - kk ≤ gg ∧ s8 = .int .i64 kk ∧ qa (Below w.heap.size w wr) ∧ qa (Rt p (l0.drop kk) kk = some r));case atStart => exact ⟨0, Nat.zero_le _, by omega, rfl, ⟨Below.refl _ w⟩, H0⟩
 case round =>
  obtain ⟨kk, hkk, hg, rfl, BW, A⟩ := hrel;by_cases hlt : kk < l0.length
  ·have hltz : (kk : Int) < (l0.length : Int) := by omega
   obtain ⟨ad, c, e, _, hK, hcell⟩ := Kd.C_get HR0.out 0 (kk : Int) (by omega) hltz;subst e;have hK1 : c = [.int .i64 (l0.getD kk 0)] := hK;subst hK1;have l2 := (BW.out.cell (World.block_lt_of_cell? w _ (hcell 0 _ rfl))).trans (hcell 0 _ rfl);clear hcell;obtain ⟨b, hb, h1, h2⟩ := Rm A.out (show l0[kk]? = some (l0.getD kk 0) by rw [List.getD_eq_getElem?_getD, List.getElem?_eq_getElem hlt]; rfl);have hcall := HP.out wr _ _ b BW.out hK hb;have l3 : wr.cell? (ad.add kk) = some (.int .i64 (l0.getD kk 0)) := by simpa [show (Kd.int .i64).sz = 1 from rfl] using l2
   clear l2 hK;generalize l0.getD kk 0 = y at l3 hcall hb;have B := qa.mk hb;clear hb;cases b with
   | true =>
    have E := h1 rfl;clear h1 h2;have E' := qa.mk E;clear E;go_wp2_with (go_at_fn g; refine hcall.mono ?_; rintro e w' ⟨rfl, hb'⟩);go_ret;exact ⟨Ou E'.out.symm, hb'⟩
   | false =>
    have E := qa.mk (h2 rfl);clear h1 h2;go_wp2_with (go_at_fn g; refine hcall.mono ?_; rintro e w' ⟨rfl, hb'⟩);go_roundg (l0.length - (kk + 1));case measure => omega
    case rel => exact ⟨kk + 1, by omega, by omega, by go_num, ⟨hb'⟩, E⟩
  ·have hltz : ¬ (kk : Int) < (l0.length : Int) := by omega
   have : kk = l0.length := by omega
   subst this;go_wp2;go_ret;refine ⟨?_, BW.out⟩;have h3 := A.out;rw [List.drop_length] at h3;have h4 : (-1 : Int) = r := by simpa [Rt] using h3
   exact Ou h4
theorem Dk (p : Int → Option Bool) (g : Nat) (lb : Array Value) (eg : ∀ args w, (callFunc g args).run Tryz.prog w = .ok (.enter g args) w)
 (A0 : Option Addr) (c0 : Nat) (l0 : List Int) (r : Bool) (w : World) (hr0 : Kd.C (Kd.int .i64) w A0 l0.length l0) (hc0 : l0.length ≤ c0)
 (hp : Tw Tryz.prog g lb (Kd.int .i64) (fun c => c.getD 0 undef) w p) (h : Ru p l0 = some r) :
 Calls Tryz.prog 107 #[.slice A0 l0.length c0, .func (.func g) #[] lb] w fun e w' => e = .returned (.bool r) ∧ Below w.heap.size w w' := by
 obtain ⟨i, hi, rfl⟩ := Qm p l0 0 r h;have hcon := Tt p g lb eg A0 c0 l0 i w hr0 hc0 hp hi;clear hr0 hp h hi;go_enter Tryz.func107, Tryz.ntmps107;go_wp2_with (go_at_call 153; refine hcon.mono ?_; rintro e w' ⟨rfl, hb'⟩);go_ret;exact ⟨rfl, hb'⟩
def Xi.f (lo hi n : Int) : Option Bool := (Fe.f n lo hi).bind fun b => some (!b)
theorem Xi.pred (lo hi : Int) (b1 b2 : Nat) (w : World) (h1 : w.cell? ⟨b1, 0, none⟩ = some (.int .i64 lo)) (h2 : w.cell? ⟨b2, 0, none⟩ = some (.int .i64 hi)) :
 Tw Tryz.prog 162 #[.pointer (some ⟨b1, 0, none⟩), .pointer (some ⟨b2, 0, none⟩)] (Kd.int .i64) (fun c => c.getD 0 undef) w (Xi.f lo hi) := by
 intro W x c b hb hK hp;have hK1 : c = [.int .i64 x] := hK;subst hK1;show Calls Tryz.prog 162 #[.int .i64 x, .pointer (some ⟨b1, 0, none⟩), .pointer (some ⟨b2, 0, none⟩)] W _;have q1 := (hb.cell (World.block_lt_of_cell? w _ h1)).trans h1;have q2 := (hb.cell (World.block_lt_of_cell? w _ h2)).trans h2;obtain ⟨t, ht, hr⟩ := zB0 hp;have hr' : (!t) = b := Option.some.inj hr;have hB := qa.mk hb;have hT := qa.mk ht;have hE := qa.mk hr';clear h1 h2 hb hK hp hr hr' ht;go_enter Tryz.func162, Tryz.ntmps162;go_wp2_with (go_at_call 74; refine (Fe.calls _ _ _ _ _ hT.out).mono ?_; rintro e w' ⟨rfl, nd, rfl⟩);go_ret;exact ⟨Bw hE.out, Mf hB.out _⟩
def Fg.f (l0 : List Int) (a1 a2 : Int) : Option Bool := (Ru (Xi.f a1 a2) l0).bind fun b => some (!b)
theorem Fg.calls (A0 : Option Addr) (c0 : Nat) (l0 : List Int) (a1 a2 : Int) (r : Bool) (w : World) (hr0 : Kd.C (Kd.int .i64) w A0 l0.length l0) (hc0 : l0.length ≤ c0) (h : Fg.f l0 a1 a2 = some r) :
 Calls Tryz.prog 130 #[.slice A0 l0.length c0, .int .i64 a1, .int .i64 a2] w fun e w' => e = .returned (.bool r) ∧ Below w.heap.size w w' := by
 have eg : ∀ args w, (callFunc 162 args).run Tryz.prog w = .ok (.enter 162 args) w := enters_of Tryz.func162 (by kernel_rfl) rfl;obtain ⟨t, ht, hr⟩ := zB0 h;have hE := qa.mk (show (!t) = r from Option.some.inj hr);have hT := qa.mk ht;have HR := qa.mk hr0;clear h hr ht hr0;go_enter Tryz.func130, Tryz.ntmps130;go_wp2_with fail;refine (Dk (Xi.f a1 a2) 162 #[.pointer (some ⟨w.heap.size, 0, none⟩), .pointer (some ⟨w.heap.size + 1, 0, none⟩)] eg A0 c0 l0 t _ ?_ hc0 ?_ hT.out).mono ?_
 ·exact Kd.C_below HR.out (((Below.refl _ w).alloc (Nat.le_refl _) _).alloc (by simp) _)
 ·exact Xi.pred a1 a2 _ _ _ (by go_simp) (by go_simp)
 ·rintro e w' ⟨rfl, hb⟩;go_wp2;go_ret;exact ⟨Bw hE.out, (((Below.refl _ w).alloc (Nat.le_refl _) _).alloc (by simp) _).trans (hb.mono (by simp; omega))⟩
def Bc.l0 : Nat → List Int → Int → Int → Option (Bool)
 | 0, _, _, _ => none
 | k + 1, x0, x5, x6 => if x6 < x5 then (if x6 > 0 then (if 0 ≤ x6 then (if x6 < (x0.length : Int) then (if 0 ≤ (wrap64 (x6 - 1)) then (if (wrap64 (x6 - 1)) < (x0.length : Int) then (if (rd x0 x6) ≤ (rd x0 (wrap64 (x6 - 1))) then (some false) else (Bc.l0 k x0 x5 (wrap64 (x6 + 1)))) else (none)) else (none)) else (none)) else (none)) else (Bc.l0 k x0 x5 (wrap64 (x6 + 1)))) else (some true)
def Bc.f (k : Nat) (l0 : List Int) : Option (Bool) := Bc.l0 k l0 (l0.length : Int) 0
theorem Bc.calls (k : Nat) (A0 : Option Addr) (c0 : Nat) (l0 : List Int) (r : Bool) (w : World) (hr0 : Kd.C (Kd.int .i64) w A0 l0.length l0) (hc0 : l0.length ≤ c0) (h : Bc.f k l0 = some r) :
 Calls Tryz.prog 168 #[.slice A0 l0.length c0] w fun e w' => e = .returned (.bool r) ∧ Jd w w' := by
 have HR0 := qa.mk hr0;have HC0 := qa.mk hc0;clear hr0 hc0;have H : (Bc.l0 k l0 (l0.length : Int) 0) = some r := h;clear h;have H' := qa.mk H;clear H;go_enter Tryz.func168, Tryz.ntmps168;go_wp2;repeat (go_quiet (fail); try go_wp2)
 go_loopg [6] k (fun kq v6 w' => ∃ (x6_1 : Int), v6 = .int .i64 x6_1 ∧ qa (Bc.l0 kq l0 (l0.length : Int) x6_1 = some r) ∧ qa (kq ≤ k) ∧ Jd w w');case atStart => exact ⟨(0), zE, H', ⟨Nat.le_refl _⟩, zD⟩
 case round =>
  clear H';try clear c1
  obtain ⟨x6_1, rfl, HA, HK1, ⟨m1, rfl⟩⟩ := hrel;cases gk with
  | zero => exact absurd HA.out (by simp [Bc.l0])
  | succ k1 =>
   have H := HA.out;clear HA;simp only [Bc.l0] at H;by_cases c2 : x6_1 < (l0.length : Int)
   rotate_left
   ·rw [if_neg c2] at H;have c2b0 := decide_eq_false c2;clear c2;obtain rfl := Option.some.inj H;go_wp2;repeat (go_quiet (fail); try go_wp2)
    go_ret;exact za1
   rw [if_pos c2] at H;have c2b0 := decide_eq_true c2;clear c2;by_cases c3 : x6_1 > 0
   rotate_left
   ·rw [if_neg c3] at H;have c3b0 := decide_eq_false c3;clear c3;have H' := qa.mk H;clear H;go_wp2;repeat (go_quiet (fail); try go_wp2)
    go_roundg k1;case measure => have := HK1.out; omega
    case rel => exact ⟨(wrap64 (x6_1 + 1)), zE, H', zO HK1, zD⟩
   rw [if_pos c3] at H;have c3b0 := decide_eq_true c3;clear c3;by_cases c4 : 0 ≤ x6_1
   rotate_left
   ·rw [if_neg c4] at H;cases H
   rw [if_pos c4] at H;have c4b0 := decide_eq_true c4;clear c4;by_cases c5 : x6_1 < (l0.length : Int)
   rotate_left
   ·rw [if_neg c5] at H;cases H
   rw [if_pos c5] at H;have c5b0 := decide_eq_true c5;clear c5;obtain ⟨ji6, hji6⟩ : ∃ j_ : Int, (wrap64 (x6_1 - 1)) = j_ := ⟨_, rfl⟩;rw [hji6] at H;have hji6w := (Ff _).trans hji6;by_cases c7 : 0 ≤ (ji6)
   rotate_left
   ·rw [if_neg c7] at H;cases H
   rw [if_pos c7] at H;have c7b0 := decide_eq_true c7;clear c7;by_cases c8 : (ji6) < (l0.length : Int)
   rotate_left
   ·rw [if_neg c8] at H;cases H
   rw [if_pos c8] at H;have c8b0 := decide_eq_true c8;clear c8;by_cases c9 : (rd l0 x6_1) ≤ (rd l0 (ji6))
   ·rw [if_pos c9] at H;have c9b0 := decide_eq_true c9;clear c9;obtain rfl := Option.some.inj H;obtain ⟨⟨ad101, e101, hx101_0⟩, p101, q101⟩ := zW (Kd.at_int HR0.out x6_1);cases e101;obtain ⟨⟨ad102, e102, hx102_0⟩, p102, q102⟩ := zW (Kd.at_int HR0.out (ji6));obtain rfl : ad101 = ad102 := (by injection e102);go_wp2;repeat (go_quiet (fail); try go_wp2)
    go_ret;exact ⟨by first | rfl | (simp; done) | (simp only [← hji6] <;> (first | rfl | simp)) | (simp [*]; done), by repeat (first | exact Jd.refl _ | apply Jd.step)⟩
   rw [if_neg c9] at H;have c9b0 := decide_eq_false c9;clear c9;have H' := qa.mk H;clear H;obtain ⟨⟨ad101, e101, hx101_0⟩, p101, q101⟩ := zW (Kd.at_int HR0.out x6_1);cases e101;obtain ⟨⟨ad102, e102, hx102_0⟩, p102, q102⟩ := zW (Kd.at_int HR0.out (ji6));obtain rfl : ad101 = ad102 := (by injection e102);go_wp2;repeat (go_quiet (fail); try go_wp2)
   go_roundg k1;case measure => have := HK1.out; omega
   case rel => exact ⟨(wrap64 (x6_1 + 1)), zE, H', zO HK1, zD⟩
def Fb.l0 : Nat → List Int → Int → Int → Int → Option (Int)
 | 0, _, _, _, _ => none
 | k + 1, x0, x1, x7, x8 => if x8 < x7 then (if 0 ≤ x8 then (if x8 < (x0.length : Int) then (if x1 = (rd x0 x8) then (some x8) else (Fb.l0 k x0 x1 x7 (wrap64 (x8 + 1)))) else (none)) else (none)) else (some (-1))
def Fb.f (k : Nat) (l0 : List Int) (a1 : Int) : Option (Int) := Fb.l0 k l0 a1 (l0.length : Int) 0
theorem Fb.calls (k : Nat) (A0 : Option Addr) (c0 : Nat) (l0 : List Int) (a1 : Int) (r : Int) (w : World) (hr0 : Kd.C (Kd.int .i64) w A0 l0.length l0) (hc0 : l0.length ≤ c0) (h : Fb.f k l0 a1 = some r) :
 Calls Tryz.prog 160 #[.slice A0 l0.length c0, .int .i64 a1] w fun e w' => e = .returned (.int .i64 r) ∧ Jd w w' := by
 have HR0 := qa.mk hr0;have HC0 := qa.mk hc0;clear hr0 hc0;have H : (Fb.l0 k l0 a1 (l0.length : Int) 0) = some r := h;clear h;have H' := qa.mk H;clear H;go_enter Tryz.func160, Tryz.ntmps160;go_wp2;go_loopg [8] k (fun kq v8 w' => ∃ (x8_1 : Int), v8 = .int .i64 x8_1 ∧ qa (Fb.l0 kq l0 a1 (l0.length : Int) x8_1 = some r) ∧ qa (kq ≤ k) ∧ Jd w w');case atStart => exact ⟨(0), zE, H', ⟨Nat.le_refl _⟩, zD⟩
 case round =>
  clear H';try clear c1
  try clear p2
  obtain ⟨x8_1, rfl, HA, HK1, ⟨m1, rfl⟩⟩ := hrel;cases gk with
  | zero => exact absurd HA.out (by simp [Fb.l0])
  | succ k1 =>
   have H := HA.out;clear HA;simp only [Fb.l0] at H;by_cases c3 : x8_1 < (l0.length : Int)
   rotate_left
   ·rw [if_neg c3] at H;have c3b0 := decide_eq_false c3;clear c3;obtain rfl := Option.some.inj H;go_wp2;go_ret;exact za1
   rw [if_pos c3] at H;have c3b0 := decide_eq_true c3;clear c3;by_cases c4 : 0 ≤ x8_1
   rotate_left
   ·rw [if_neg c4] at H;cases H
   rw [if_pos c4] at H;have c4b0 := decide_eq_true c4;clear c4;by_cases c5 : x8_1 < (l0.length : Int)
   rotate_left
   ·rw [if_neg c5] at H;cases H
   rw [if_pos c5] at H;have c5b0 := decide_eq_true c5;clear c5;by_cases c6 : a1 = (rd l0 x8_1)
   ·rw [if_pos c6] at H;have c6b0 := beq_iff_eq.mpr c6;have c6b1 := bne_eq_false_iff_eq.mpr c6;clear c6;obtain rfl := Option.some.inj H;obtain ⟨⟨ad180, e180, hx180_0⟩, p180, q180⟩ := zW (Kd.at_int HR0.out x8_1);cases e180;go_wp2;go_ret;exact za1
   rw [if_neg c6] at H;have c6b0 := beq_eq_false_iff_ne.mpr c6;have c6b1 := bne_iff_ne.mpr c6;have H' := qa.mk H;clear H;obtain ⟨⟨ad180, e180, hx180_0⟩, p180, q180⟩ := zW (Kd.at_int HR0.out x8_1);cases e180;go_wp2;go_roundg k1;case measure => have := HK1.out; omega
   case rel => exact ⟨(wrap64 (x8_1 + 1)), zE, H', zO HK1, zD⟩
def Ve.f (k : Nat) (l0 : List Int) (a1 : Int) : Option (Bool) := (Fb.f k l0 a1).bind fun t181 => (some (decide (t181 ≥ 0)))
theorem Ve.calls (k : Nat) (A0 : Option Addr) (c0 : Nat) (l0 : List Int) (a1 : Int) (r : Bool) (w : World) (hr0 : Kd.C (Kd.int .i64) w A0 l0.length l0) (hc0 : l0.length ≤ c0) (h : Ve.f k l0 a1 = some r) :
 Calls Tryz.prog 127 #[.slice A0 l0.length c0, .int .i64 a1] w fun e w' => e = .returned (.bool r) ∧ Jd w w' := by
 have HR0 := qa.mk hr0;have HC0 := qa.mk hc0;clear hr0 hc0;have H : ((Fb.f k l0 a1).bind fun t181 => (some (decide (t181 ≥ 0)))) = some r := h;clear h;replace H := zB0 H;obtain ⟨t181, A30, H⟩ := H;have A3 := qa.mk A30;clear A30;obtain rfl := Option.some.inj H;go_enter Tryz.func127, Tryz.ntmps127;go_wp2_with (first | ((with_reducible refine Va (f := 160) rfl ?_); refine zl 7 Tryz.func160 #[.slice A0 l0.length c0, .int .i64 a1] ?_; (with_reducible refine (Fb.calls k _ _ l0 a1 t181 _ ?side1 ?side2 A3.out).mono ?_); (case side1 => exact zQ HR0.out); (case side2 => exact HC0.out); rintro e w' ⟨rfl, ⟨nd, rfl⟩⟩; refine ⟨_, rfl, ?_⟩));go_ret;exact za1
def Mj.f (k : Nat) (l0 : List Int) (a1 : Int) : Option (Bool) := (Fg.f l0 0 (wrap64 (a1 - 1))).bind fun t103 => (if t103 = true then ((Bc.f k l0).bind fun t104 => (some t104)) else (some false))
theorem Mj.calls (k : Nat) (A0 : Option Addr) (c0 : Nat) (l0 : List Int) (a1 : Int) (r : Bool) (w : World) (hr0 : Kd.C (Kd.int .i64) w A0 l0.length l0) (hc0 : l0.length ≤ c0) (h : Mj.f k l0 a1 = some r) :
 Calls Tryz.prog 151 #[.slice A0 l0.length c0, .int .i64 a1] w fun e w' => e = .returned (.bool r) ∧ Below w.heap.size w w' := by
 have HR0 := qa.mk hr0;have HC0 := qa.mk hc0;clear hr0 hc0;have HB := qa.mk (Below.refl w.heap.size w);have H : ((Fg.f l0 0 (wrap64 (a1 - 1))).bind fun t103 => (if t103 = true then ((Bc.f k l0).bind fun t104 => (some t104)) else (some false))) = some r := h;clear h;replace H := zB0 H;obtain ⟨t103, A30, H⟩ := H;have A3 := qa.mk A30;clear A30;by_cases c4 : t103 = true
 rotate_left
 ·replace c4 := Bool.eq_false_iff.mpr c4;subst c4;rw [if_neg zF] at H;obtain rfl := Option.some.inj H;go_enter Tryz.func151, Tryz.ntmps151;go_wp2_with (first | ((with_reducible refine Va (f := 130) rfl ?_); refine zl 8 Tryz.func130 #[.slice A0 l0.length c0, .int .i64 0, .int .i64 (wrap64 (a1 - 1))] ?_; (with_reducible refine (Fg.calls _ _ l0 0 (wrap64 (a1 - 1)) false _ ?side1 ?side2 A3.out).mono ?_); (case side1 => exact zQ HR0.out); (case side2 => exact HC0.out); rintro e w7 ⟨rfl, hb⟩; refine ⟨_, rfl, ?_⟩; replace HB := zH hb HB; clear hb));go_ret;exact ⟨zL0, zh HB.out⟩
 subst c4;rw [if_pos rfl] at H;replace H := zB0 H;obtain ⟨t104, A50, H⟩ := H;have A5 := qa.mk A50;clear A50;obtain rfl := Option.some.inj H;go_enter Tryz.func151, Tryz.ntmps151;go_wp2_with (first | ((with_reducible refine Va (f := 130) rfl ?_); refine zl 8 Tryz.func130 #[.slice A0 l0.length c0, .int .i64 0, .int .i64 (wrap64 (a1 - 1))] ?_; (with_reducible refine (Fg.calls _ _ l0 0 (wrap64 (a1 - 1)) true _ ?side1 ?side2 A3.out).mono ?_); (case side1 => exact zQ HR0.out); (case side2 => exact HC0.out); rintro e w6 ⟨rfl, hb⟩; refine ⟨_, rfl, ?_⟩; replace HB := zH hb HB; clear hb) | (go_at_call 168; (with_reducible refine (Bc.calls k _ _ l0 t104 _ ?side1 ?side2 A5.out).mono ?_); (case side1 => exact zQ (Kd.C_below HR0.out HB.out)); (case side2 => exact HC0.out); rintro e w' ⟨rfl, ⟨nd, rfl⟩⟩));go_ret;exact ⟨zL0, zh HB.out⟩
def Pg.f (k : Nat) (n : Int) (l : List Int) : Option Bool := if (l.length : Int) = 0 then some true else (Mj.f k l n).bind fun b => some (!b)
theorem Pg.pred (k : Nat) (n : Int) (b1 : Nat) (w : World) (h1 : w.cell? ⟨b1, 0, none⟩ = some (.int .i64 n)) :
 Tw Tryz.prog 150 #[.pointer (some ⟨b1, 0, none⟩)] (Kd.slice 3 (Kd.int .i64)) (fun c => c.getD 0 undef) w (Pg.f k n) := by
 intro W x c b hb hK hp;obtain ⟨A1, c1, rfl, hl1, hk1⟩ := hK;show Calls Tryz.prog 150 #[.slice A1 x.length c1, .pointer (some ⟨b1, 0, none⟩)] W _;have hk2 : Kd.C (Kd.int .i64) W A1 x.length x := Kd.C_below hk1 hb;have q1 := (hb.cell (World.block_lt_of_cell? w _ h1)).trans h1;have hB := qa.mk hb;have hC := qa.mk hk2;have hL := qa.mk hl1;unfold Pg.f at hp;clear h1 hb hk1 hk2 hl1;by_cases h0 : (x.length : Int) = 0
 ·rw [if_pos h0] at hp;have hr' := Option.some.inj hp;have hE := qa.mk hr';clear hp hr';have h0b : ((x.length : Int) == 0) = true := by simpa using h0
  go_enter Tryz.func150, Tryz.ntmps150;go_wp2;go_ret;exact ⟨Bw hE.out, hB.out⟩
 ·rw [if_neg h0] at hp;obtain ⟨t, ht, hr⟩ := zB0 hp;have hr' : (!t) = b := Option.some.inj hr;have hT := qa.mk ht;have hE := qa.mk hr';clear hp ht hr hr';have h0b : ((x.length : Int) == 0) = false := by simpa using h0
  go_enter Tryz.func150, Tryz.ntmps150;go_wp2_with (go_at_call 151; refine (Mj.calls _ _ _ _ _ _ _ hC.out hL.out hT.out).mono ?_; rintro e w' ⟨rfl, hb'⟩);go_ret;exact ⟨Bw hE.out, hB.out.trans (hb'.mono hB.out.size)⟩
def Rh.f (k : Nat) (l0 : List (List Int)) (a1 : Int) : Option Bool := (Ru (Pg.f k a1) l0).bind fun b => some (!b)
theorem Rh.calls (k : Nat) (A0 : Option Addr) (c0 : Nat) (l0 : List (List Int)) (a1 : Int) (r : Bool) (w : World) (hr0 : Kd.C (Kd.slice 3 (Kd.int .i64)) w A0 l0.length l0) (hc0 : l0.length ≤ c0) (h : Rh.f k l0 a1 = some r) :
 Calls Tryz.prog 103 #[.slice A0 l0.length c0, .int .i64 a1] w fun e w' => e = .returned (.bool r) ∧ Below w.heap.size w w' := by
 have eg : ∀ args w, (callFunc 150 args).run Tryz.prog w = .ok (.enter 150 args) w := enters_of Tryz.func150 (by kernel_rfl) rfl;obtain ⟨t, ht, hr⟩ := zB0 h;have hE := qa.mk (show (!t) = r from Option.some.inj hr);have hT := qa.mk ht;have HR := qa.mk hr0;clear h hr ht hr0;go_enter Tryz.func103, Tryz.ntmps103;go_wp2_with fail;refine (Nn (Pg.f k a1) 150 #[.pointer (some ⟨w.heap.size, 0, none⟩)] eg A0 c0 l0 t _ ?_ hc0 ?_ hT.out).mono ?_
 ·exact Kd.C_below HR.out ((Below.refl _ w).alloc (Nat.le_refl _) _)
 ·exact Pg.pred k a1 _ _ (by go_simp)
 ·rintro e w' ⟨rfl, hb⟩;go_wp2;go_ret;exact ⟨Bw hE.out, ((Below.refl _ w).alloc (Nat.le_refl _) _).trans (hb.mono (by simp))⟩
@[reducible] def SG (P : Program) (g : Nat) (lb : Array Value) (wb : World) (p : S40 → Option Bool) : Prop :=
 ∀ (W : World) (x : S40) (A : Option Addr) (c : Nat) (b : Bool), Below wb.heap.size wb W → x.f1.length ≤ c → Kd.C (Kd.int .i64) W A x.f1.length x.f1 → p x = some b → Calls P g (#[.agg #[.int .i64 x.f0, .slice A x.f1.length c]] ++ lb) W fun e w' => e = .returned (.bool b) ∧ Below W.heap.size W w'
theorem Su (p : S40 → Option Bool) (g : Nat) (lb : Array Value) (eg : ∀ args w, (callFunc g args).run Tryz.prog w = .ok (.enter g args) w) (wb : World)
 (A0 : Option Addr) (c0 : Nat) (l0 : List S40) (r : Int) (w : World) (hB : Below wb.heap.size wb w) (hr0 : Kd.C k40 w A0 l0.length l0) (hc0 : l0.length ≤ c0)
 (hp : SG Tryz.prog g lb wb p) (h : Rt p l0 0 = some r) :
 Calls Tryz.prog 129 #[.slice A0 l0.length c0, .func (.func g) #[] lb] w fun e w' => e = .returned (.int .i64 r) ∧ Below w.heap.size w w' := by
 have hlen := hr0.2.1;have HR0 := qa.mk hr0;have HWB := qa.mk hB;clear hr0 hB;have HP := qa.mk hp;clear hp;have H0 := qa.mk h;clear h;go_enter Tryz.func129, Tryz.ntmps129;go_wp2;go_loopg [5, 8] l0.length (fun gg _ s8 wr => ∃ kk : Nat, kk ≤ l0.length ∧ l0.length - kk ≤ gg ∧ s8 = .int .i64 kk ∧ qa (Below w.heap.size w wr) ∧ qa (Rt p (l0.drop kk) kk = some r));case atStart => exact ⟨0, Nat.zero_le _, by omega, rfl, ⟨Below.refl _ w⟩, H0⟩
 case round =>
  obtain ⟨kk, hkk, hg, rfl, BW, A⟩ := hrel;by_cases hlt : kk < l0.length
  ·have hltz : (kk : Int) < (l0.length : Int) := by omega
   obtain ⟨ad, A1, c1, e, x0, x1, l1, g1⟩ := Jo (Kd.C_below HR0.out BW.out) (kk : Int) (by omega) hltz;subst e;rw [Int.toNat_natCast] at x0 x1;obtain ⟨b, hb, h1, h2⟩ := Rm A.out (show l0[kk]? = some (yc l0 (kk : Int)) by unfold yc; rw [Int.toNat_natCast, List.getD_eq_getElem?_getD, List.getElem?_eq_getElem hlt]; rfl);have hcall := HP.out wr _ A1 c1 b (HWB.out.trans (BW.out.mono HWB.out.size)) l1 g1 hb;generalize yc l0 (kk : Int) = y at x0 x1 hcall hb l1 g1;clear g1 hb;cases b with
   | true =>
    have E := qa.mk (h1 rfl);clear h1 h2;go_wp2_with (go_at_fn g; refine hcall.mono ?_; rintro e w' ⟨rfl, hb'⟩);go_ret;exact ⟨Ou E.out.symm, BW.out.trans (hb'.mono BW.out.size)⟩
   | false =>
    have E := qa.mk (h2 rfl);clear h1 h2;go_wp2_with (go_at_fn g; refine hcall.mono ?_; rintro e w' ⟨rfl, hb'⟩);go_roundg (l0.length - (kk + 1));case measure => omega
    case rel => exact ⟨kk + 1, by omega, by omega, by go_num, ⟨BW.out.trans (hb'.mono BW.out.size)⟩, E⟩
  ·have hltz : ¬ (kk : Int) < (l0.length : Int) := by omega
   have : kk = l0.length := by omega
   subst this;go_wp2;go_ret;refine ⟨?_, BW.out⟩;have h3 := A.out;rw [List.drop_length] at h3;have h4 : (-1 : Int) = r := by simpa [Rt] using h3
   exact Ou h4
theorem Bp (p : S40 → Option Bool) (g : Nat) (lb : Array Value) (eg : ∀ args w, (callFunc g args).run Tryz.prog w = .ok (.enter g args) w) (wb : World)
 (A0 : Option Addr) (c0 : Nat) (l0 : List S40) (r : Bool) (w : World) (hB : Below wb.heap.size wb w) (hr0 : Kd.C k40 w A0 l0.length l0) (hc0 : l0.length ≤ c0)
 (hp : SG Tryz.prog g lb wb p) (h : Ru p l0 = some r) :
 Calls Tryz.prog 75 #[.slice A0 l0.length c0, .func (.func g) #[] lb] w fun e w' => e = .returned (.bool r) ∧ Below w.heap.size w w' := by
 obtain ⟨i, hi, rfl⟩ := Qm p l0 0 r h;have hcon := Su p g lb eg wb A0 c0 l0 i w hB hr0 hc0 hp hi;clear hr0 hp h hi hB;go_enter Tryz.func75, Tryz.ntmps75;go_wp2_with (go_at_call 129; refine hcon.mono ?_; rintro e w' ⟨rfl, hb'⟩);go_ret;exact ⟨rfl, hb'⟩
@[reducible] def WI (P : Program) (g : Nat) (lb : Array Value) (wb : World) (p : S62 → Option Bool) : Prop :=
 ∀ (W : World) (x : S62) (A : Option Addr) (c : Nat) (b : Bool), Below wb.heap.size wb W → x.f1.length ≤ c → Kd.C Kd.bool W A x.f1.length x.f1 → p x = some b → Calls P g (#[.agg #[.int .i64 x.f0, .slice A x.f1.length c]] ++ lb) W fun e w' => e = .returned (.bool b) ∧ Below W.heap.size W w'
theorem Dp (p : S62 → Option Bool) (g : Nat) (lb : Array Value) (eg : ∀ args w, (callFunc g args).run Tryz.prog w = .ok (.enter g args) w) (wb : World)
 (A0 : Option Addr) (c0 : Nat) (l0 : List S62) (r : Int) (w : World) (hB : Below wb.heap.size wb w) (hr0 : Kd.C k62 w A0 l0.length l0) (hc0 : l0.length ≤ c0)
 (hp : WI Tryz.prog g lb wb p) (h : Rt p l0 0 = some r) :
 Calls Tryz.prog 133 #[.slice A0 l0.length c0, .func (.func g) #[] lb] w fun e w' => e = .returned (.int .i64 r) ∧ Below w.heap.size w w' := by
 have hlen := hr0.2.1;have HR0 := qa.mk hr0;have HWB := qa.mk hB;clear hr0 hB;have HP := qa.mk hp;clear hp;have H0 := qa.mk h;clear h;go_enter Tryz.func133, Tryz.ntmps133;go_wp2;go_loopg [5, 8] l0.length (fun gg _ s8 wr => ∃ kk : Nat, kk ≤ l0.length ∧ l0.length - kk ≤ gg ∧ s8 = .int .i64 kk ∧ qa (Below w.heap.size w wr) ∧ qa (Rt p (l0.drop kk) kk = some r));case atStart => exact ⟨0, Nat.zero_le _, by omega, rfl, ⟨Below.refl _ w⟩, H0⟩
 case round =>
  obtain ⟨kk, hkk, hg, rfl, BW, A⟩ := hrel;by_cases hlt : kk < l0.length
  ·have hltz : (kk : Int) < (l0.length : Int) := by omega
   obtain ⟨ad, A1, c1, e, x0, x1, l1, g1⟩ := CB (Kd.C_below HR0.out BW.out) (kk : Int) (by omega) hltz;subst e;rw [Int.toNat_natCast] at x0 x1;obtain ⟨b, hb, h1, h2⟩ := Rm A.out (show l0[kk]? = some (Oe l0 (kk : Int)) by unfold Oe; rw [Int.toNat_natCast, List.getD_eq_getElem?_getD, List.getElem?_eq_getElem hlt]; rfl);have hcall := HP.out wr _ A1 c1 b (HWB.out.trans (BW.out.mono HWB.out.size)) l1 g1 hb;generalize Oe l0 (kk : Int) = y at x0 x1 hcall hb l1 g1;clear g1 hb;cases b with
   | true =>
    have E := qa.mk (h1 rfl);clear h1 h2;go_wp2_with (go_at_fn g; refine hcall.mono ?_; rintro e w' ⟨rfl, hb'⟩);go_ret;exact ⟨Ou E.out.symm, BW.out.trans (hb'.mono BW.out.size)⟩
   | false =>
    have E := qa.mk (h2 rfl);clear h1 h2;go_wp2_with (go_at_fn g; refine hcall.mono ?_; rintro e w' ⟨rfl, hb'⟩);go_roundg (l0.length - (kk + 1));case measure => omega
    case rel => exact ⟨kk + 1, by omega, by omega, by go_num, ⟨BW.out.trans (hb'.mono BW.out.size)⟩, E⟩
  ·have hltz : ¬ (kk : Int) < (l0.length : Int) := by omega
   have : kk = l0.length := by omega
   subst this;go_wp2;go_ret;refine ⟨?_, BW.out⟩;have h3 := A.out;rw [List.drop_length] at h3;have h4 : (-1 : Int) = r := by simpa [Rt] using h3
   exact Ou h4
theorem Tm (p : S62 → Option Bool) (g : Nat) (lb : Array Value) (eg : ∀ args w, (callFunc g args).run Tryz.prog w = .ok (.enter g args) w) (wb : World)
 (A0 : Option Addr) (c0 : Nat) (l0 : List S62) (r : Bool) (w : World) (hB : Below wb.heap.size wb w) (hr0 : Kd.C k62 w A0 l0.length l0) (hc0 : l0.length ≤ c0)
 (hp : WI Tryz.prog g lb wb p) (h : Ru p l0 = some r) :
 Calls Tryz.prog 81 #[.slice A0 l0.length c0, .func (.func g) #[] lb] w fun e w' => e = .returned (.bool r) ∧ Below w.heap.size w w' := by
 obtain ⟨i, hi, rfl⟩ := Qm p l0 0 r h;have hcon := Dp p g lb eg wb A0 c0 l0 i w hB hr0 hc0 hp hi;clear hr0 hp h hi hB;go_enter Tryz.func81, Tryz.ntmps81;go_wp2_with (go_at_call 133; refine hcon.mono ?_; rintro e w' ⟨rfl, hb'⟩);go_ret;exact ⟨rfl, hb'⟩
def Ke.f (a0 : Int) (l : List Bool) (a1 : Int) (a2 : Bool) : Option Bool := if 0 ≤ a1 then (if a1 < (l.length : Int) then some ((yf false l a1) == a2) else none) else none
theorem Ke.calls (a0 : Int) (A : Option Addr) (c : Nat) (l : List Bool) (a1 : Int) (a2 : Bool) (r : Bool) (w : World) (g1 : Nat) (h1 : w.heap[g1]? = some (.cells #[.int .i64 a1] 3 (0, 0))) (g2 : Nat) (h2 : w.heap[g2]? = some (.cells #[.bool a2] 4 (0, 0))) (hC : Kd.C Kd.bool w A l.length l) (hc : l.length ≤ c) (h : Ke.f a0 l a1 a2 = some r) :
 Calls Tryz.prog 82 #[.agg #[.int .i64 a0, .slice A l.length c], .pointer (some ⟨g1, 0, none⟩), .pointer (some ⟨g2, 0, none⟩)] w fun e w' => e = .returned (.bool r) ∧ Below w.heap.size w w' := by
 unfold Ke.f at h;by_cases c0 : 0 ≤ a1
 case neg => rw [if_neg c0] at h; cases h
 by_cases c1 : a1 < (l.length : Int)
 case neg => rw [if_pos c0, if_neg c1] at h; cases h
 rw [if_pos c0, if_pos c1] at h;have hE := qa.mk (Option.some.inj h);obtain ⟨ad, e, x0⟩ := Kd.at_bool (Kd.C_alloc hC (.cells #[.int .i64 a0, .slice A l.length c] 62 (0, 0))) a1 c0 c1;subst e;have q1 := Nat.ne_of_gt (Lf h1);have q2 := Nat.ne_of_gt (Lf h2);have q3 := q1.symm;have q4 := q2.symm;have hz := Ph w (.cells #[.int .i64 a0, .slice (some ad) l.length c] 62 (0, 0));have hz0 := (Ya hz 0).trans rfl;have hz1 := (Ya hz 1).trans rfl;have hy0 := (Ya (Qa h1 (.cells #[.int .i64 a0, .slice (some ad) l.length c] 62 (0, 0))) 0).trans rfl;have hx0 := (Ya (Qa h2 (.cells #[.int .i64 a0, .slice (some ad) l.length c] 62 (0, 0))) 0).trans rfl;generalize yf false l a1 = b at x0 hE;have u1 := Tryz.underlying62;have c0' := eq_true c0;have c1' := eq_true c1;clear h h1 h2 hC hz;go_enter Tryz.func82, Tryz.ntmps82;go_wp2;generalize hwr : w.alloc (.cells #[.int .i64 a0, .slice (some ad) l.length c] 62 (0, 0)) = wr at x0 hz0 hz1 hy0 hx0 ⊢;refine Kg (n := 8) (S := fun w' => w'.cell? ⟨w.heap.size, 1, none⟩ = some (.slice (some ad) l.length c) ∧ w'.cell? ⟨g1, 0, none⟩ = some (.int .i64 a1) ∧ w'.cell? ⟨g2, 0, none⟩ = some (.bool a2) ∧ w'.cell? (ad.add a1.toNat) = some (.bool b)) (ds := []) #[false, false, false, false, false, false, false, false] (by kernel_rfl) rfl rfl ⟨hz1, hy0, hx0, x0⟩ (fun hHeld => ?_);refine take_ (i := 0) (N := some 5) (v := ?_) (a' := ?_) #[true, false, false, false, false, false, false, false] rfl rfl (by kernel_rfl) (fun _ _ _ h => h) (Or.inl ⟨by rfl, ?_⟩) hHeld ?_ ?_;rotate_left
 ·rintro w' ⟨s0, s1, s2, s3⟩;go_simp
  with_reducible rfl
 rotate_left
 ·simp only [Act.put, List.setIfInBounds_toArray, List.set_cons_zero, List.set_cons_succ, Ff, Jh];rfl
 refine take_ (i := 1) (N := some 6) (v := ?_) (a' := ?_) #[true, true, false, false, false, false, false, false] rfl rfl (by kernel_rfl) (fun _ _ _ h => h) (Or.inl ⟨by rfl, ?_⟩) hHeld ?_ ?_;rotate_left
 ·rintro w' ⟨s0, s1, s2, s3⟩;go_simp
  with_reducible rfl
 rotate_left
 ·simp only [Act.put, List.setIfInBounds_toArray, List.set_cons_zero, List.set_cons_succ, Ff, Jh];rfl
 refine take_ (i := 2) (N := some 7) (v := ?_) (a' := ?_) #[true, true, true, false, false, false, false, false] rfl rfl (by kernel_rfl) (fun _ _ _ h => h) (Or.inl ⟨by rfl, ?_⟩) hHeld ?_ ?_;rotate_left
 ·rintro w' ⟨s0, s1, s2, s3⟩;go_simp
  with_reducible rfl
 rotate_left
 ·simp only [Act.put, List.setIfInBounds_toArray, List.set_cons_zero, List.set_cons_succ, Ff, Jh];rfl
 refine take_ (i := 3) (N := some 8) (v := ?_) (a' := ?_) #[true, true, true, true, false, false, false, false] rfl rfl (by kernel_rfl) (fun _ _ _ h => h) (Or.inl ⟨by rfl, ?_⟩) hHeld ?_ ?_;rotate_left
 ·rintro w' ⟨s0, s1, s2, s3⟩;go_simp
  with_reducible rfl
 rotate_left
 ·simp only [Act.put, List.setIfInBounds_toArray, List.set_cons_zero, List.set_cons_succ, Ff, Jh];rfl
 refine take_ (i := 4) (N := some 9) (v := ?_) (a' := ?_) #[true, true, true, true, true, false, false, false] rfl rfl (by kernel_rfl) (fun _ _ _ h => h) (Or.inl ⟨by rfl, ?_⟩) hHeld ?_ ?_;rotate_left
 ·rintro w' ⟨s0, s1, s2, s3⟩;go_simp
  with_reducible rfl
 rotate_left
 ·simp only [Act.put, List.setIfInBounds_toArray, List.set_cons_zero, List.set_cons_succ, Ff, Jh];rfl
 refine take_ (i := 5) (N := some 10) (v := ?_) (a' := ?_) #[true, true, true, true, true, true, false, false] rfl rfl (by kernel_rfl) (fun _ _ _ h => h) (Or.inl ⟨by rfl, ?_⟩) hHeld ?_ ?_;rotate_left
 ·rintro w' ⟨s0, s1, s2, s3⟩;go_simp
  with_reducible rfl
 rotate_left
 ·simp only [Act.put, List.setIfInBounds_toArray, List.set_cons_zero, List.set_cons_succ, Ff, Jh];rfl
 refine take_ (i := 6) (N := some 11) (v := ?_) (a' := ?_) #[true, true, true, true, true, true, true, false] rfl rfl (by kernel_rfl) (fun _ _ _ h => h) (Or.inl ⟨by rfl, ?_⟩) hHeld ?_ ?_;rotate_left
 ·rintro w' ⟨s0, s1, s2, s3⟩;go_simp
  with_reducible rfl
 rotate_left
 ·simp only [Act.put, List.setIfInBounds_toArray, List.set_cons_zero, List.set_cons_succ, Ff, Jh];rfl
 refine take_ (i := 7) (N := some 4) (v := ?_) (a' := ?_) #[true, true, true, true, true, true, true, true] rfl rfl (by kernel_rfl) (fun _ _ _ h => h) (Or.inl ⟨by rfl, ?_⟩) hHeld ?_ ?_;rotate_left
 ·rintro w' ⟨s0, s1, s2, s3⟩;go_simp
  with_reducible rfl
 rotate_left
 ·simp only [Act.put, List.setIfInBounds_toArray, List.set_cons_zero, List.set_cons_succ, Ff, Jh];rfl
 refine Bi (by kernel_rfl) ?_;have hbr : Below w.heap.size w wr := by rw [← hwr]; exact (Below.refl _ w).alloc (Nat.le_refl _) _
 go_wp2;go_ret;exact ⟨Bw hE.out, hbr.drew⟩
def Ui.f (l0 : List S62) (mask : Int) (win : Bool) : Option Bool := Ru (fun v => Ke.f v.f0 v.f1 mask win) l0
theorem Ml.pred (mask : Int) (win : Bool) (b1 b2 : Nat) (w : World) (h1 : w.heap[b1]? = some (.cells #[.int .i64 mask] 3 (0, 0))) (h2 : w.heap[b2]? = some (.cells #[.bool win] 4 (0, 0))) :
 WI Tryz.prog 82 #[.pointer (some ⟨b1, 0, none⟩), .pointer (some ⟨b2, 0, none⟩)] w (fun v => Ke.f v.f0 v.f1 mask win) :=
 fun W x A c b hb hl hC hp => Ke.calls x.f0 A c x.f1 mask win b W b1 (Na h1 hb) b2 (Na h2 hb) hC hl hp
theorem Ui.calls (A0 : Option Addr) (c0 : Nat) (l0 : List S62) (mask : Int) (win : Bool) (r : Bool) (w : World) (hr0 : Kd.C k62 w A0 l0.length l0) (hc0 : l0.length ≤ c0)
 (gb1 : Nat) (h1 : w.heap[gb1]? = some (.cells #[.int .i64 mask] 3 (0, 0))) (gb2 : Nat) (h2 : w.heap[gb2]? = some (.cells #[.bool win] 4 (0, 0))) (h : Ui.f l0 mask win = some r) :
 Calls Tryz.prog 81 #[.slice A0 l0.length c0, .func (.func 82) #[] #[.pointer (some ⟨gb1, 0, none⟩), .pointer (some ⟨gb2, 0, none⟩)]] w fun e w' => e = .returned (.bool r) ∧ Below w.heap.size w w' :=
 Tm _ 82 #[.pointer (some ⟨gb1, 0, none⟩), .pointer (some ⟨gb2, 0, none⟩)] (enters_of Tryz.func82 (by kernel_rfl) rfl) w A0 c0 l0 r w (Below.refl _ _) hr0 hc0 (Ml.pred mask win gb1 gb2 w h1 h2) h
def Nb.f (k : Nat) (a0_0 : Int) (l0_1 : List Int) : Option (Bool) := if (l0_1.length : Int) ≥ 1 then (if (l0_1.length : Int) ≤ 9 then ((Fg.f l0_1 0 1000).bind fun t538 => (if t538 = true then ((Xf.f k l0_1).bind fun t539 => ((Fe.f a0_0 1 t539).bind fun t540 => (some t540))) else (some false))) else (some false)) else (some false)
def Nb.T1 : Bool × List (List Nat × List Nat) := (true, [([], []), ([0], [0]), ([1], [1]), ([2], [2]), ([3], [3]), ([4], [4]), ([5, 4], [4, 5]), ([6, 4], [4, 6]), ([7, 4], [4, 7]), ([4, 8], [4, 8]), ([9, 4], [9]), ([10], [10]), ([11, 10], [10, 11]), ([12, 10, 10], [10, 12]), ([10, 13], [10, 13]), ([14, 13], [14]), ([15], [15]), ([16, 15], [15, 16]), ([15], [15]), ([18, 15], [15, 18]), ([19, 15, 15], [15, 19]), ([17, 20, 20, 15], [15, 17, 20]), ([15, 21], [15, 21]), ([22, 21, 0, 1, 2, 3, 4, 5, 6, 7, 8, 9, 10, 11, 12, 13, 14, 15, 16, 17, 18, 19, 20, 21, 22], [22])])
def Nb.B1 : List Nat := [0, 1, 3, 7, 15, 31, 63, 127, 255, 511, 1023, 2047, 4095, 8191, 16383, 32767, 65535, 131071, 65535, 327679, 851967, 2097151, 4194303, 8388607]
theorem Nb.tab1 : ym .any (opsOf Tryz.f77 1) = Nb.T1 := by kernel_rfl
theorem Nb.bits1 : Vj Nb.T1.2 Nb.B1 = true := by kernel_rfl
theorem Nb.calls (k : Nat) (a0_0 : Int) (A0_1 : Option Addr) (c0_1 : Nat) (l0_1 : List Int) (r : Bool) (w : World) (hr0_1 : Kd.C (Kd.int .i64) w A0_1 l0_1.length l0_1) (hc0_1 : l0_1.length ≤ c0_1) (h : Nb.f k a0_0 l0_1 = some r) :
 Calls Tryz.prog 77 #[.agg #[.int .i64 a0_0, .slice A0_1 l0_1.length c0_1]] w fun e w' => e = .returned (.bool r) ∧ Below w.heap.size w w' := by
 have hu40 := Tryz.underlying40;have HR0_1 := qa.mk hr0_1;have HC0_1 := qa.mk hc0_1;clear hr0_1 hc0_1;have HB := qa.mk (Below.refl w.heap.size w);have H : (if (l0_1.length : Int) ≥ 1 then (if (l0_1.length : Int) ≤ 9 then ((Fg.f l0_1 0 1000).bind fun t538 => (if t538 = true then ((Xf.f k l0_1).bind fun t539 => ((Fe.f a0_0 1 t539).bind fun t540 => (some t540))) else (some false))) else (some false)) else (some false)) = some r := h;clear h;by_cases c2 : (l0_1.length : Int) ≥ 1
 rotate_left
 ·rw [if_neg c2] at H;have c2b0 := decide_eq_false c2;have c2b1 : decide (1 ≤ l0_1.length) = false := decide_eq_false (by omega);clear c2;obtain rfl := Option.some.inj H;go_enter Tryz.func77, Tryz.ntmps77;try go_wp2_with (first | ((with_reducible refine Ma (N := 1) rfl ?_); (try (refine Qg (by rfl) ?_; dsimp only)); refine zq 1 #[.int .i64 a0_0, .slice A0_1 l0_1.length c0_1] 40 ?_; intro gb537 hg w16 hbox hb; have GW537 := zG hg HB; replace HB := zH hb HB; have BK537 := qa.mk hbox; have GE537 := GW537; clear hb hbox hg))
  have n0_ := qa.mk (Ra BK537.out);have n1_ := qa.mk (Ud HB.out);clear BK537 HB;have BK537 := n0_;have HB := n1_;clear n0_ n1_;refine Kg (n := 24) (S := fun w' => w'.cell? ⟨gb537, 0, none⟩ = some (.int .i64 a0_0) ∧ w'.cell? ⟨gb537, 1, none⟩ = some (.slice A0_1 l0_1.length c0_1)) (ds := []) (tb 24 0) (by kernel_rfl) rfl rfl ⟨(Ya BK537.out 0).trans rfl, (Ya BK537.out 1).trans rfl⟩ (fun hHeld => ?_); refine Ug Nb.tab1 Nb.bits1 (fun HT_ HW_ => ?_);generalize w16.drew = w17 at BK537 HB hHeld ⊢;refine zu (i := 0) (N := some 3) (tb 24 1) rfl rfl HT_ ?_;refine zt (i := 1) (N := some 4) (tb 24 3) rfl rfl (Wd HT_.out HW_.out (by kernel_rfl)) hHeld ?_;refine zu (i := 2) (N := some 5) (tb 24 7) rfl rfl HT_ ?_;refine zu (i := 3) (N := some 6) (tb 24 15) rfl rfl HT_ ?_;refine zu (i := 4) (N := some 7) (tb 24 31) rfl rfl HT_ ?_;refine zv (i := 5) (N := some 8) (tb 24 63) rfl rfl HT_ ?_;refine zv (i := 6) (N := some 9) (tb 24 127) rfl rfl HT_ ?_;refine zv (i := 7) (N := some 10) (tb 24 255) rfl rfl HT_ ?_;refine zv (i := 8) (N := some 11) (tb 24 511) rfl rfl HT_ ?_;refine zu (i := 9) (N := some 12) (tb 24 1023) rfl rfl HT_ ?_;refine zu (i := 10) (N := some 13) (tb 24 2047) rfl rfl HT_ ?_;refine zv (i := 11) (N := some 14) (tb 24 4095) rfl rfl HT_ ?_;refine zv (i := 12) (N := some 15) (tb 24 8191) rfl rfl HT_ ?_;refine zv (i := 13) (N := some 16) (tb 24 16383) rfl rfl HT_ ?_;refine zu (i := 14) (N := some 17) (tb 24 32767) rfl rfl HT_ ?_;refine zu (i := 15) (N := some 18) (tb 24 65535) rfl rfl HT_ ?_;refine zv (i := 16) (N := some 19) (tb 24 131071) rfl rfl HT_ ?_;refine zv (i := 17) (N := some 20) (tb 24 262143) rfl rfl HT_ ?_;refine zv (i := 18) (N := some 21) (tb 24 524287) rfl rfl HT_ ?_;refine zv (i := 19) (N := some 22) (tb 24 1048575) rfl rfl HT_ ?_;refine zv (i := 20) (N := some 23) (tb 24 2097151) rfl rfl HT_ ?_;refine zv (i := 21) (N := some 24) (tb 24 4194303) rfl rfl HT_ ?_;refine zu (i := 22) (N := some 25) (tb 24 8388607) rfl rfl HT_ ?_;refine zu (i := 23) (N := some 2) (tb 24 16777215) rfl rfl HT_ ?_;refine Bi (Lh HT_.out (by kernel_rfl)) ?_;try go_wp2
  go_ret;exact ⟨zL0, zh HB.out⟩
 rw [if_pos c2] at H;have c2b0 := decide_eq_true c2;have c2b1 : decide (1 ≤ l0_1.length) = true := decide_eq_true (by omega);clear c2;by_cases c3 : (l0_1.length : Int) ≤ 9
 rotate_left
 ·rw [if_neg c3] at H;have c3b0 := decide_eq_false c3;have c3b1 : decide (l0_1.length ≤ 9) = false := decide_eq_false (by omega);clear c3;obtain rfl := Option.some.inj H;go_enter Tryz.func77, Tryz.ntmps77;try go_wp2_with (first | ((with_reducible refine Ma (N := 1) rfl ?_); (try (refine Qg (by rfl) ?_; dsimp only)); refine zq 1 #[.int .i64 a0_0, .slice A0_1 l0_1.length c0_1] 40 ?_; intro gb537 hg w14 hbox hb; have GW537 := zG hg HB; replace HB := zH hb HB; have BK537 := qa.mk hbox; have GE537 := GW537; clear hb hbox hg))
  have n0_ := qa.mk (Ra BK537.out);have n1_ := qa.mk (Ud HB.out);clear BK537 HB;have BK537 := n0_;have HB := n1_;clear n0_ n1_;refine Kg (n := 24) (S := fun w' => w'.cell? ⟨gb537, 0, none⟩ = some (.int .i64 a0_0) ∧ w'.cell? ⟨gb537, 1, none⟩ = some (.slice A0_1 l0_1.length c0_1)) (ds := []) (tb 24 0) (by kernel_rfl) rfl rfl ⟨(Ya BK537.out 0).trans rfl, (Ya BK537.out 1).trans rfl⟩ (fun hHeld => ?_); refine Ug Nb.tab1 Nb.bits1 (fun HT_ HW_ => ?_);generalize w14.drew = w15 at BK537 HB hHeld ⊢;refine zu (i := 0) (N := some 3) (tb 24 1) rfl rfl HT_ ?_;refine zt (i := 1) (N := some 4) (tb 24 3) rfl rfl (Wd HT_.out HW_.out (by kernel_rfl)) hHeld ?_;refine zu (i := 2) (N := some 5) (tb 24 7) rfl rfl HT_ ?_;refine zu (i := 3) (N := some 6) (tb 24 15) rfl rfl HT_ ?_;refine zu (i := 4) (N := some 7) (tb 24 31) rfl rfl HT_ ?_;refine zu (i := 5) (N := some 8) (tb 24 63) rfl rfl HT_ ?_;refine zt (i := 6) (N := some 9) (tb 24 127) rfl rfl (Wd HT_.out HW_.out (by kernel_rfl)) hHeld ?_;refine zu (i := 7) (N := some 10) (tb 24 255) rfl rfl HT_ ?_;refine zu (i := 8) (N := some 11) (tb 24 511) rfl rfl HT_ ?_;refine zu (i := 9) (N := some 12) (tb 24 1023) rfl rfl HT_ ?_;refine zu (i := 10) (N := some 13) (tb 24 2047) rfl rfl HT_ ?_;refine zv (i := 11) (N := some 14) (tb 24 4095) rfl rfl HT_ ?_;refine zv (i := 12) (N := some 15) (tb 24 8191) rfl rfl HT_ ?_;refine zv (i := 13) (N := some 16) (tb 24 16383) rfl rfl HT_ ?_;refine zu (i := 14) (N := some 17) (tb 24 32767) rfl rfl HT_ ?_;refine zu (i := 15) (N := some 18) (tb 24 65535) rfl rfl HT_ ?_;refine zv (i := 16) (N := some 19) (tb 24 131071) rfl rfl HT_ ?_;refine zv (i := 17) (N := some 20) (tb 24 262143) rfl rfl HT_ ?_;refine zv (i := 18) (N := some 21) (tb 24 524287) rfl rfl HT_ ?_;refine zv (i := 19) (N := some 22) (tb 24 1048575) rfl rfl HT_ ?_;refine zv (i := 20) (N := some 23) (tb 24 2097151) rfl rfl HT_ ?_;refine zv (i := 21) (N := some 24) (tb 24 4194303) rfl rfl HT_ ?_;refine zu (i := 22) (N := some 25) (tb 24 8388607) rfl rfl HT_ ?_;refine zu (i := 23) (N := some 2) (tb 24 16777215) rfl rfl HT_ ?_;refine Bi (Lh HT_.out (by kernel_rfl)) ?_;try go_wp2
  go_ret;exact ⟨zL0, zh HB.out⟩
 rw [if_pos c3] at H;have c3b0 := decide_eq_true c3;have c3b1 : decide (l0_1.length ≤ 9) = true := decide_eq_true (by omega);clear c3;replace H := zB0 H;obtain ⟨t538, A40, H⟩ := H;have A4 := qa.mk A40;clear A40;by_cases c5 : t538 = true
 rotate_left
 ·replace c5 := Bool.eq_false_iff.mpr c5;subst c5;rw [if_neg zF] at H;obtain rfl := Option.some.inj H;go_enter Tryz.func77, Tryz.ntmps77;try go_wp2_with (first | ((with_reducible refine Ma (N := 1) rfl ?_); (try (refine Qg (by rfl) ?_; dsimp only)); refine zq 1 #[.int .i64 a0_0, .slice A0_1 l0_1.length c0_1] 40 ?_; intro gb537 hg w11 hbox hb; have GW537 := zG hg HB; replace HB := zH hb HB; have BK537 := qa.mk hbox; have GE537 := GW537; clear hb hbox hg))
  have n0_ := qa.mk (Ra BK537.out);have n1_ := qa.mk (Ud HB.out);clear BK537 HB;have BK537 := n0_;have HB := n1_;clear n0_ n1_;refine Kg (n := 24) (S := fun w' => w'.cell? ⟨gb537, 0, none⟩ = some (.int .i64 a0_0) ∧ w'.cell? ⟨gb537, 1, none⟩ = some (.slice A0_1 l0_1.length c0_1)) (ds := []) (tb 24 0) (by kernel_rfl) rfl rfl ⟨(Ya BK537.out 0).trans rfl, (Ya BK537.out 1).trans rfl⟩ (fun hHeld => ?_); refine Ug Nb.tab1 Nb.bits1 (fun HT_ HW_ => ?_);generalize w11.drew = w12 at BK537 HB hHeld ⊢;refine zu (i := 0) (N := some 3) (tb 24 1) rfl rfl HT_ ?_;refine zt (i := 1) (N := some 4) (tb 24 3) rfl rfl (Wd HT_.out HW_.out (by kernel_rfl)) hHeld ?_;refine zu (i := 2) (N := some 5) (tb 24 7) rfl rfl HT_ ?_;refine zu (i := 3) (N := some 6) (tb 24 15) rfl rfl HT_ ?_;refine zu (i := 4) (N := some 7) (tb 24 31) rfl rfl HT_ ?_;refine zu (i := 5) (N := some 8) (tb 24 63) rfl rfl HT_ ?_;refine zt (i := 6) (N := some 9) (tb 24 127) rfl rfl (Wd HT_.out HW_.out (by kernel_rfl)) hHeld ?_;refine zu (i := 7) (N := some 10) (tb 24 255) rfl rfl HT_ ?_;refine zu (i := 8) (N := some 11) (tb 24 511) rfl rfl HT_ ?_;refine zu (i := 9) (N := some 12) (tb 24 1023) rfl rfl HT_ ?_;refine zu (i := 10) (N := some 13) (tb 24 2047) rfl rfl HT_ ?_;refine zu (i := 11) (N := some 14) (tb 24 4095) rfl rfl HT_ ?_;refine zt (i := 12) (N := some 15) (tb 24 8191) rfl rfl (Wd HT_.out HW_.out (by kernel_rfl)) hHeld ?_;refine Uj (i := 13) (N := some 16) (tb 24 16383) rfl rfl (Gh HT_.out (by kernel_rfl)) (by decide) (fun K hK => ?_);refine Di Tryz.func130 (by kernel_rfl) rfl #[.slice A0_1 l0_1.length c0_1, .int .i64 0, .int .i64 1000] (by rfl) rfl rfl (by (try simp only [List.map_toArray, List.map_cons, List.map_nil]); first | done | rfl | (simp only [List.length_drop, List.length_take]; rfl)) ?_
  with_reducible refine (Fg.calls _ _ l0_1 0 1000 false _ ?side1 ?side2 A4.out).mono ?_
  (case side1 => repeat (first | exact (Kd.C_below HR0_1.out HB.out) | (with_reducible refine Kd.C_alloc ?_ _) | (with_reducible refine Kd.C_drewN ?_ _) | (with_reducible refine Kd.C_drew ?_)))
  (case side2 => exact HC0_1.out)
  rintro e w13 ⟨rfl, hb⟩;refine ⟨_, rfl, ?_⟩;have n0_ := qa.mk (Na (g := gb537) (o := .cells #[.int .i64 a0_0, .slice A0_1 l0_1.length c0_1] 40 (0, 0)) (zb BK537.out) hb);have n1_ := qa.mk (Rc (zh HB.out) hb);clear BK537 HB;have BK537 := n0_;have HB := n1_;clear n0_ n1_;(try clear hb)
  (try clear hb2)
  (try clear hk)
  (try clear hi)
  refine hK.out _ _ ⟨(Ya BK537.out 0).trans rfl, (Ya BK537.out 1).trans rfl⟩ (fun hHeld => ?_);clear hK K;refine zn1 ?_;refine zu (i := 14) (N := some 17) (tb 24 32767) rfl rfl HT_ ?_;refine zu (i := 15) (N := some 18) (tb 24 65535) rfl rfl HT_ ?_;refine zv (i := 16) (N := some 19) (tb 24 131071) rfl rfl HT_ ?_;refine zv (i := 17) (N := some 20) (tb 24 262143) rfl rfl HT_ ?_;refine zv (i := 18) (N := some 21) (tb 24 524287) rfl rfl HT_ ?_;refine zv (i := 19) (N := some 22) (tb 24 1048575) rfl rfl HT_ ?_;refine zv (i := 20) (N := some 23) (tb 24 2097151) rfl rfl HT_ ?_;refine zv (i := 21) (N := some 24) (tb 24 4194303) rfl rfl HT_ ?_;refine zu (i := 22) (N := some 25) (tb 24 8388607) rfl rfl HT_ ?_;refine zu (i := 23) (N := some 2) (tb 24 16777215) rfl rfl HT_ ?_;refine Bi (Lh HT_.out (by kernel_rfl)) ?_;try go_wp2
  go_ret;exact ⟨zL0, zh HB.out⟩
 subst c5;rw [if_pos rfl] at H;replace H := zB0 H;obtain ⟨t539, A60, H⟩ := H;have A6 := qa.mk A60;clear A60;replace H := zB0 H;obtain ⟨t540, A70, H⟩ := H;have A7 := qa.mk A70;clear A70;obtain rfl := Option.some.inj H;go_enter Tryz.func77, Tryz.ntmps77;try go_wp2_with (first | ((with_reducible refine Ma (N := 1) rfl ?_); (try (refine Qg (by rfl) ?_; dsimp only)); refine zq 1 #[.int .i64 a0_0, .slice A0_1 l0_1.length c0_1] 40 ?_; intro gb537 hg w8 hbox hb; have GW537 := zG hg HB; replace HB := zH hb HB; have BK537 := qa.mk hbox; have GE537 := GW537; clear hb hbox hg))
 have n0_ := qa.mk (Ra BK537.out);have n1_ := qa.mk (Ud HB.out);clear BK537 HB;have BK537 := n0_;have HB := n1_;clear n0_ n1_;refine Kg (n := 24) (S := fun w' => w'.cell? ⟨gb537, 0, none⟩ = some (.int .i64 a0_0) ∧ w'.cell? ⟨gb537, 1, none⟩ = some (.slice A0_1 l0_1.length c0_1)) (ds := []) (tb 24 0) (by kernel_rfl) rfl rfl ⟨(Ya BK537.out 0).trans rfl, (Ya BK537.out 1).trans rfl⟩ (fun hHeld => ?_); refine Ug Nb.tab1 Nb.bits1 (fun HT_ HW_ => ?_);generalize w8.drew = w9 at BK537 HB hHeld ⊢;refine zu (i := 0) (N := some 3) (tb 24 1) rfl rfl HT_ ?_;refine zt (i := 1) (N := some 4) (tb 24 3) rfl rfl (Wd HT_.out HW_.out (by kernel_rfl)) hHeld ?_;refine zu (i := 2) (N := some 5) (tb 24 7) rfl rfl HT_ ?_;refine zu (i := 3) (N := some 6) (tb 24 15) rfl rfl HT_ ?_;refine zu (i := 4) (N := some 7) (tb 24 31) rfl rfl HT_ ?_;refine zu (i := 5) (N := some 8) (tb 24 63) rfl rfl HT_ ?_;refine zt (i := 6) (N := some 9) (tb 24 127) rfl rfl (Wd HT_.out HW_.out (by kernel_rfl)) hHeld ?_;refine zu (i := 7) (N := some 10) (tb 24 255) rfl rfl HT_ ?_;refine zu (i := 8) (N := some 11) (tb 24 511) rfl rfl HT_ ?_;refine zu (i := 9) (N := some 12) (tb 24 1023) rfl rfl HT_ ?_;refine zu (i := 10) (N := some 13) (tb 24 2047) rfl rfl HT_ ?_;refine zu (i := 11) (N := some 14) (tb 24 4095) rfl rfl HT_ ?_;refine zt (i := 12) (N := some 15) (tb 24 8191) rfl rfl (Wd HT_.out HW_.out (by kernel_rfl)) hHeld ?_;refine Uj (i := 13) (N := some 16) (tb 24 16383) rfl rfl (Gh HT_.out (by kernel_rfl)) (by decide) (fun K hK => ?_);refine Di Tryz.func130 (by kernel_rfl) rfl #[.slice A0_1 l0_1.length c0_1, .int .i64 0, .int .i64 1000] (by rfl) rfl rfl (by (try simp only [List.map_toArray, List.map_cons, List.map_nil]); first | done | rfl | (simp only [List.length_drop, List.length_take]; rfl)) ?_
 with_reducible refine (Fg.calls _ _ l0_1 0 1000 true _ ?side1 ?side2 A4.out).mono ?_
 (case side1 => repeat (first | exact (Kd.C_below HR0_1.out HB.out) | (with_reducible refine Kd.C_alloc ?_ _) | (with_reducible refine Kd.C_drewN ?_ _) | (with_reducible refine Kd.C_drew ?_)))
 (case side2 => exact HC0_1.out)
 rintro e w10 ⟨rfl, hb⟩;refine ⟨_, rfl, ?_⟩;have n0_ := qa.mk (Na (g := gb537) (o := .cells #[.int .i64 a0_0, .slice A0_1 l0_1.length c0_1] 40 (0, 0)) (zb BK537.out) hb);have n1_ := qa.mk (Rc (zh HB.out) hb);clear BK537 HB;have BK537 := n0_;have HB := n1_;clear n0_ n1_;(try clear hb)
 (try clear hb2)
 (try clear hk)
 (try clear hi)
 refine hK.out _ _ ⟨(Ya BK537.out 0).trans rfl, (Ya BK537.out 1).trans rfl⟩ (fun hHeld => ?_);clear hK K;refine zn1 ?_;refine zu (i := 14) (N := some 17) (tb 24 32767) rfl rfl HT_ ?_;refine zu (i := 15) (N := some 18) (tb 24 65535) rfl rfl HT_ ?_;refine zu (i := 16) (N := some 19) (tb 24 131071) rfl rfl HT_ ?_;refine zu (i := 18) (N := some 21) (tb 24 393215) rfl rfl HT_ ?_;refine zt (i := 17) (N := some 20) (tb 24 524287) rfl rfl (Wd HT_.out HW_.out (by kernel_rfl)) hHeld ?_;refine zt (i := 19) (N := some 22) (tb 24 1048575) rfl rfl (Wd HT_.out HW_.out (by kernel_rfl)) hHeld ?_;refine Uj (i := 20) (N := some 23) (tb 24 2097151) rfl rfl (Gh HT_.out (by kernel_rfl)) (by decide) (fun K hK => ?_);refine Di Tryz.func131 (by kernel_rfl) rfl #[.slice A0_1 l0_1.length c0_1] (by rfl) rfl rfl (by (try simp only [List.map_toArray, List.map_cons, List.map_nil]); first | done | rfl | (simp only [List.length_drop, List.length_take]; rfl)) ?_
 with_reducible refine (Xf.calls k _ _ l0_1 t539 _ ?side1 ?side2 A6.out).mono ?_
 (case side1 => repeat (first | exact (Kd.C_below HR0_1.out HB.out) | (with_reducible refine Kd.C_alloc ?_ _) | (with_reducible refine Kd.C_drewN ?_ _) | (with_reducible refine Kd.C_drew ?_)))
 (case side2 => exact HC0_1.out)
 rintro e w' ⟨rfl, ⟨nd, rfl⟩⟩;refine ⟨_, rfl, ?_⟩;refine hK.out _ _ ⟨(Ya BK537.out 0).trans rfl, (Ya BK537.out 1).trans rfl⟩ (fun hHeld => ?_);clear hK K;refine zn1 ?_;refine Uj (i := 21) (N := some 24) (tb 24 4194303) rfl rfl (Gh HT_.out (by kernel_rfl)) (by decide) (fun K hK => ?_);refine Di Tryz.func74 (by kernel_rfl) rfl #[.int .i64 a0_0, .int .i64 1, .int .i64 t539] (by rfl) rfl rfl (by (try simp only [List.map_toArray, List.map_cons, List.map_nil]); first | done | rfl | (simp only [List.length_drop, List.length_take]; rfl)) ?_
 with_reducible refine (Fe.calls a0_0 1 t539 t540 _ A7.out).mono ?_
 rintro e w' ⟨rfl, ⟨nd, rfl⟩⟩;refine ⟨_, rfl, ?_⟩;refine hK.out _ _ ⟨(Ya BK537.out 0).trans rfl, (Ya BK537.out 1).trans rfl⟩ (fun hHeld => ?_);clear hK K;refine zn1 ?_;refine zu (i := 22) (N := some 25) (tb 24 8388607) rfl rfl HT_ ?_;refine zu (i := 23) (N := some 2) (tb 24 16777215) rfl rfl HT_ ?_;refine Bi (Lh HT_.out (by kernel_rfl)) ?_;try go_wp2
 go_ret;exact ⟨zL0, zh HB.out⟩
def Mc.f (k : Nat) (a0_0 : Int) (l0_1 : List Int) (l1 : List (S40)) : Option (Bool) := (Nb.f k a0_0 l0_1).bind fun t543 => (if t543 = true then (if 0 < (l1.length : Int) then (some ((l0_1.length : Int) != (((yc l1 0).f1).length : Int))) else (none)) else (some true))
def Mc.T1 : Bool × List (List Nat × List Nat) := (true, [([], []), ([0], [0]), ([1], [1]), ([2, 1], [2]), ([3], [3]), ([4, 3], [3, 4]), ([5, 3], [3, 5]), ([3], [3]), ([7, 3], [3, 7]), ([8, 3], [3, 8]), ([9, 3], [3, 9]), ([10, 3], [3, 10]), ([6, 11, 3], [3, 6, 11]), ([3, 12], [3, 12]), ([13, 3, 0, 1, 2, 3, 4, 5, 6, 7, 8, 9, 10, 11, 12, 13], [13])])
def Mc.B1 : List Nat := [0, 1, 3, 7, 15, 31, 63, 15, 143, 399, 911, 1935, 4095, 8191, 16383]
theorem Mc.tab1 : ym .any (opsOf Tryz.f76 1) = Mc.T1 := by kernel_rfl
theorem Mc.bits1 : Vj Mc.T1.2 Mc.B1 = true := by kernel_rfl
theorem Mc.calls (k : Nat) (a0_0 : Int) (A0_1 : Option Addr) (c0_1 : Nat) (l0_1 : List Int) (A1 : Option Addr) (c1 : Nat) (l1 : List (S40)) (r : Bool) (w : World) (gb541 : Nat) (bk5410 : w.heap[gb541]? = some (.cells #[.slice A1 l1.length c1] 25 (0, 0))) (hr0_1 : Kd.C (Kd.int .i64) w A0_1 l0_1.length l0_1) (hc0_1 : l0_1.length ≤ c0_1) (hr1 : Kd.C k40 w A1 l1.length l1) (hc1 : l1.length ≤ c1) (h : Mc.f k a0_0 l0_1 l1 = some r) :
 Calls Tryz.prog 76 #[.agg #[.int .i64 a0_0, .slice A0_1 l0_1.length c0_1], .pointer (some ⟨gb541, 0, none⟩)] w fun e w' => e = .returned (.bool r) ∧ Below w.heap.size w w' := by
 have BK541 := qa.mk bk5410;clear bk5410;have hu40 := Tryz.underlying40;have HR0_1 := qa.mk hr0_1;have HC0_1 := qa.mk hc0_1;clear hr0_1 hc0_1;have HR1 := qa.mk hr1;have HC1 := qa.mk hc1;clear hr1 hc1;have HB := qa.mk (Below.refl w.heap.size w);have H : ((Nb.f k a0_0 l0_1).bind fun t543 => (if t543 = true then (if 0 < (l1.length : Int) then (some ((l0_1.length : Int) != (((yc l1 0).f1).length : Int))) else (none)) else (some true))) = some r := h;clear h;replace H := zB0 H;obtain ⟨t543, A30, H⟩ := H;have A3 := qa.mk A30;clear A30;by_cases c4 : t543 = true
 rotate_left
 ·replace c4 := Bool.eq_false_iff.mpr c4;subst c4;rw [if_neg zF] at H;obtain rfl := Option.some.inj H;go_enter Tryz.func76, Tryz.ntmps76;try go_wp2_with (first | ((with_reducible refine Ma (N := 2) rfl ?_); (try (refine Qg (by rfl) ?_; dsimp only)); refine zq 2 #[.int .i64 a0_0, .slice A0_1 l0_1.length c0_1] 40 ?_; intro gb542 hg w11 hbox hb; have BK542 := qa.mk hbox; have GW542 := zG hg HB; have GE542 := zG hg HB; have NB541_542 := zNa hg BK541; have NB542_541 := zNb hg BK541; replace BK541 := zK BK541 hb; replace HB := zH hb HB; clear hb hbox hg))
  have n0_ := qa.mk (Ra BK541.out);have n1_ := qa.mk (Ra BK542.out);have n2_ := qa.mk (Ud HB.out);clear BK541 BK542 HB;have BK541 := n0_;have BK542 := n1_;have HB := n2_;clear n0_ n1_ n2_;refine Kg (n := 15) (S := fun w' => w'.cell? ⟨gb542, 0, none⟩ = some (.int .i64 a0_0) ∧ w'.cell? ⟨gb542, 1, none⟩ = some (.slice A0_1 l0_1.length c0_1)) (ds := []) (tb 15 0) (by kernel_rfl) rfl rfl ⟨(Ya BK542.out 0).trans rfl, (Ya BK542.out 1).trans rfl⟩ (fun hHeld => ?_); refine Ug Mc.tab1 Mc.bits1 (fun HT_ HW_ => ?_);generalize w11.drew = w12 at BK541 BK542 HB hHeld ⊢;refine zt (i := 0) (N := some 4) (tb 15 1) rfl rfl (Wd HT_.out HW_.out (by kernel_rfl)) hHeld ?_;refine Uj (i := 1) (N := some 5) (tb 15 3) rfl rfl (Gh HT_.out (by kernel_rfl)) (by decide) (fun K hK => ?_);refine Di Tryz.func77 (by kernel_rfl) rfl #[.agg #[.int .i64 a0_0, .slice A0_1 l0_1.length c0_1]] (by rfl) rfl rfl (by (try simp only [List.map_toArray, List.map_cons, List.map_nil]); first | done | rfl | (simp only [List.length_drop, List.length_take]; rfl)) ?_
  with_reducible refine (Nb.calls k a0_0 _ _ l0_1 false _ ?side1 ?side2 A3.out).mono ?_
  (case side1 => repeat (first | exact (Kd.C_below HR0_1.out HB.out) | (with_reducible refine Kd.C_alloc ?_ _) | (with_reducible refine Kd.C_drewN ?_ _) | (with_reducible refine Kd.C_drew ?_)))
  (case side2 => exact HC0_1.out)
  rintro e w13 ⟨rfl, hb⟩;refine ⟨_, rfl, ?_⟩;have n0_ := qa.mk (Na (g := gb541) (o := .cells #[.slice A1 l1.length c1] 25 (0, 0)) (zb BK541.out) hb);have n1_ := qa.mk (Na (g := gb542) (o := .cells #[.int .i64 a0_0, .slice A0_1 l0_1.length c0_1] 40 (0, 0)) (zb BK542.out) hb);have n2_ := qa.mk (Rc (zh HB.out) hb);clear BK541 BK542 HB;have BK541 := n0_;have BK542 := n1_;have HB := n2_;clear n0_ n1_ n2_;(try clear hb)
  (try clear hb2)
  (try clear hk)
  (try clear hi)
  refine hK.out _ _ ⟨(Ya BK542.out 0).trans rfl, (Ya BK542.out 1).trans rfl⟩ (fun hHeld => ?_);clear hK K;refine zn1 ?_;refine zu (i := 2) (N := some 6) (tb 15 7) rfl rfl HT_ ?_;refine zu (i := 3) (N := some 7) (tb 15 15) rfl rfl HT_ ?_;refine zv (i := 4) (N := some 8) (tb 15 31) rfl rfl HT_ ?_;refine zv (i := 5) (N := some 9) (tb 15 63) rfl rfl HT_ ?_;refine zv (i := 6) (N := some 10) (tb 15 127) rfl rfl HT_ ?_;refine zv (i := 7) (N := some 11) (tb 15 255) rfl rfl HT_ ?_;refine zv (i := 8) (N := some 12) (tb 15 511) rfl rfl HT_ ?_;refine zv (i := 9) (N := some 13) (tb 15 1023) rfl rfl HT_ ?_;refine zv (i := 10) (N := some 14) (tb 15 2047) rfl rfl HT_ ?_;refine zv (i := 11) (N := some 15) (tb 15 4095) rfl rfl HT_ ?_;refine zv (i := 12) (N := some 16) (tb 15 8191) rfl rfl HT_ ?_;refine zu (i := 13) (N := some 17) (tb 15 16383) rfl rfl HT_ ?_;refine zu (i := 14) (N := some 3) (tb 15 32767) rfl rfl HT_ ?_;refine Bi (Lh HT_.out (by kernel_rfl)) ?_;try go_wp2
  go_ret;exact ⟨zL0, zh HB.out⟩
 subst c4;rw [if_pos rfl] at H;by_cases c5 : 0 < (l1.length : Int)
 rotate_left
 ·rw [if_neg c5] at H;cases H
 rw [if_pos c5] at H;have c5b0 := decide_eq_true c5;have c5b1 : decide (0 < l1.length) = true := decide_eq_true (by omega);clear c5;obtain rfl := Option.some.inj H;go_enter Tryz.func76, Tryz.ntmps76;try go_wp2_with (first | ((with_reducible refine Ma (N := 2) rfl ?_); (try (refine Qg (by rfl) ?_; dsimp only)); refine zq 2 #[.int .i64 a0_0, .slice A0_1 l0_1.length c0_1] 40 ?_; intro gb542 hg w7 hbox hb; have BK542 := qa.mk hbox; have GW542 := zG hg HB; have GE542 := zG hg HB; have NB541_542 := zNa hg BK541; have NB542_541 := zNb hg BK541; replace BK541 := zK BK541 hb; replace HB := zH hb HB; clear hb hbox hg))
 have n0_ := qa.mk (Ra BK541.out);have n1_ := qa.mk (Ra BK542.out);have n2_ := qa.mk (Ud HB.out);clear BK541 BK542 HB;have BK541 := n0_;have BK542 := n1_;have HB := n2_;clear n0_ n1_ n2_;have p544 : 0 ≤ (0 : Int) := (by omega);have q544 : 0 < (l1.length : Int) := zk;obtain ⟨ad544, A544_1, c544_1, e544, hx544_0, hx544_1, hl544_1, hi544_1⟩ := Jo HR1.out 0 p544 q544;have hw544_1 := hx544_1;(try rw [show ((0 : Int)).toNat = 0 from rfl] at hw544_1)
 (try rw [show 0 * 2 = 0 from rfl] at hw544_1)
 (try rw [Addr.add_zero'] at hw544_1)
 have hw544_0 := hx544_0;(try rw [show ((0 : Int)).toNat = 0 from rfl] at hw544_0)
 (try rw [show 0 * 2 = 0 from rfl] at hw544_0)
 (try rw [Addr.add_zero'] at hw544_0)
 cases e544;have qi544 : (0 < l1.length) = True := eq_true (by omega);(try rw [show ((0 : Int)).toNat = 0 from rfl] at hx544_0)
 (try rw [show 0 * 2 = 0 from rfl] at hx544_0)
 (try rw [Addr.add_zero'] at hx544_0)
 (try rw [show ((0 : Int)).toNat = 0 from rfl] at hx544_1)
 (try rw [show 0 * 2 = 0 from rfl] at hx544_1)
 (try rw [Addr.add_zero'] at hx544_1)
 replace hx544_0 := zx HB.out hx544_0;replace hx544_1 := zx HB.out hx544_1;have HR544_1 := qa.mk hi544_1;have HC544_1 := qa.mk hl544_1;clear hi544_1 hl544_1;replace p544 := eq_true p544;replace q544 := eq_true q544;refine Kg (n := 15) (S := fun w' => w'.cell? ⟨gb542, 0, none⟩ = some (.int .i64 a0_0) ∧ w'.cell? ⟨gb542, 1, none⟩ = some (.slice A0_1 l0_1.length c0_1) ∧ w'.cell? ⟨gb541, 0, none⟩ = some (.slice (some ad544) l1.length c1) ∧ w'.cell? ad544 = some (.int .i64 ((yc l1 0).f0)) ∧ w'.cell? ⟨ad544.block, ad544.off + 1, none⟩ = some (.slice A544_1 ((yc l1 0).f1).length c544_1)) (ds := []) (tb 15 0) (by kernel_rfl) rfl rfl ⟨(Ya BK542.out 0).trans rfl, (Ya BK542.out 1).trans rfl, (Ya BK541.out 0).trans rfl, ((HB.out.cell (World.block_lt_of_cell? w _ hw544_0)).trans hw544_0), ((HB.out.cell (World.block_lt_of_cell? w _ hw544_1)).trans hw544_1)⟩ (fun hHeld => ?_); refine Ug Mc.tab1 Mc.bits1 (fun HT_ HW_ => ?_);generalize w7.drew = w8 at BK541 BK542 HB HR544_1 hx544_0 hx544_1 hHeld ⊢;refine zt (i := 0) (N := some 4) (tb 15 1) rfl rfl (Wd HT_.out HW_.out (by kernel_rfl)) hHeld ?_;refine Uj (i := 1) (N := some 5) (tb 15 3) rfl rfl (Gh HT_.out (by kernel_rfl)) (by decide) (fun K hK => ?_);refine Di Tryz.func77 (by kernel_rfl) rfl #[.agg #[.int .i64 a0_0, .slice A0_1 l0_1.length c0_1]] (by rfl) rfl rfl (by (try simp only [List.map_toArray, List.map_cons, List.map_nil]); first | done | rfl | (simp only [List.length_drop, List.length_take]; rfl)) ?_
 with_reducible refine (Nb.calls k a0_0 _ _ l0_1 true _ ?side1 ?side2 A3.out).mono ?_
 (case side1 => repeat (first | exact (Kd.C_below HR0_1.out HB.out) | (with_reducible refine Kd.C_alloc ?_ _) | (with_reducible refine Kd.C_drewN ?_ _) | (with_reducible refine Kd.C_drew ?_)))
 (case side2 => exact HC0_1.out)
 rintro e w9 ⟨rfl, hb⟩;refine ⟨_, rfl, ?_⟩;have n0_ := qa.mk (Na (g := gb541) (o := .cells #[.slice (some ad544) l1.length c1] 25 (0, 0)) (zb BK541.out) hb);have n1_ := qa.mk (Na (g := gb542) (o := .cells #[.int .i64 a0_0, .slice A0_1 l0_1.length c0_1] 40 (0, 0)) (zb BK542.out) hb);have n2_ := qa.mk (Rc (zh HB.out) hb);clear BK541 BK542 HB;have BK541 := n0_;have BK542 := n1_;have HB := n2_;clear n0_ n1_ n2_;(try clear hb)
 (try clear hb2)
 (try clear hk)
 (try clear hi)
 refine hK.out _ _ ⟨(Ya BK542.out 0).trans rfl, (Ya BK542.out 1).trans rfl, (Ya BK541.out 0).trans rfl, ((HB.out.cell (World.block_lt_of_cell? w _ hw544_0)).trans hw544_0), ((HB.out.cell (World.block_lt_of_cell? w _ hw544_1)).trans hw544_1)⟩ (fun hHeld => ?_);clear hK K;refine zn1 ?_;refine zu (i := 2) (N := some 6) (tb 15 7) rfl rfl HT_ ?_;refine zu (i := 3) (N := some 7) (tb 15 15) rfl rfl HT_ ?_;refine zu (i := 4) (N := some 8) (tb 15 31) rfl rfl HT_ ?_;refine zt (i := 5) (N := some 9) (tb 15 63) rfl rfl (Wd HT_.out HW_.out (by kernel_rfl)) hHeld ?_;refine zu (i := 6) (N := some 10) (tb 15 127) rfl rfl HT_ ?_;refine zt (i := 7) (N := some 11) (tb 15 255) rfl rfl (Wd HT_.out HW_.out (by kernel_rfl)) hHeld ?_;refine zu (i := 8) (N := some 12) (tb 15 511) rfl rfl HT_ ?_;refine zu (i := 9) (N := some 13) (tb 15 1023) rfl rfl HT_ ?_;refine zt (i := 10) (N := some 14) (tb 15 2047) rfl rfl (Wd HT_.out HW_.out (by kernel_rfl)) hHeld ?_;refine zu (i := 11) (N := some 15) (tb 15 4095) rfl rfl HT_ ?_;refine zu (i := 12) (N := some 16) (tb 15 8191) rfl rfl HT_ ?_;refine zu (i := 13) (N := some 17) (tb 15 16383) rfl rfl HT_ ?_;refine zu (i := 14) (N := some 3) (tb 15 32767) rfl rfl HT_ ?_;refine Bi (Lh HT_.out (by kernel_rfl)) ?_;try go_wp2
 go_ret;exact ⟨zL0, zh HB.out⟩
def Me.f (a0 : Int) (l1 : List (S62)) (a2 : Bool) : Option (Bool) := (Ui.f l1 a0 a2).bind fun t553 => (some (t553 == a2))
theorem Me.calls (a0 : Int) (A1 : Option Addr) (c1 : Nat) (l1 : List (S62)) (a2 : Bool) (r : Bool) (w : World) (gb550 : Nat) (bk5500 : w.heap[gb550]? = some (.cells #[.slice A1 l1.length c1] 59 (0, 0))) (gb551 : Nat) (bk5510 : w.heap[gb551]? = some (.cells #[.bool a2] 4 (0, 0))) (hr1 : Kd.C k62 w A1 l1.length l1) (hc1 : l1.length ≤ c1) (h : Me.f a0 l1 a2 = some r) :
 Calls Tryz.prog 80 #[.int .i64 a0, .pointer (some ⟨gb550, 0, none⟩), .pointer (some ⟨gb551, 0, none⟩)] w fun e w' => e = .returned (.bool r) ∧ Below w.heap.size w w' := by
 have BK550 := qa.mk bk5500;clear bk5500;have BK551 := qa.mk bk5510;clear bk5510;have HR1 := qa.mk hr1;have HC1 := qa.mk hc1;clear hr1 hc1;have HB := qa.mk (Below.refl w.heap.size w);have H : ((Ui.f l1 a0 a2).bind fun t553 => (some (t553 == a2))) = some r := h;clear h;replace H := zB0 H;obtain ⟨t553, A40, H⟩ := H;have A4 := qa.mk A40;clear A40;obtain rfl := Option.some.inj H;go_enter Tryz.func80, Tryz.ntmps80;try go_wp2_with (first | ((with_reducible refine Ma (N := 3) rfl ?_); refine zq 3 #[.int .i64 a0] 3 ?_; intro gb552 hg w7 hbox hb; have BK552 := qa.mk hbox; have GW552 := zG hg HB; have GE552 := zG hg HB; have NB550_552 := zNa hg BK550; have NB552_550 := zNb hg BK550; have NB551_552 := zNa hg BK551; have NB552_551 := zNb hg BK551; replace BK550 := zK BK550 hb; replace BK551 := zK BK551 hb; replace HB := zH hb HB; clear hb hbox hg))
 have n0_ := qa.mk (Ra BK550.out);have n1_ := qa.mk (Ra BK551.out);have n2_ := qa.mk (Ra BK552.out);have n3_ := qa.mk (Ud HB.out);clear BK550 BK551 BK552 HB;have BK550 := n0_;have BK551 := n1_;have BK552 := n2_;have HB := n3_;clear n0_ n1_ n2_ n3_;refine Kg (n := 6) (S := fun w' => w'.cell? ⟨gb550, 0, none⟩ = some (.slice A1 l1.length c1) ∧ w'.cell? ⟨gb551, 0, none⟩ = some (.bool a2)) (ds := []) (tb 6 0) (by kernel_rfl) rfl rfl ⟨(Ya BK550.out 0).trans rfl, (Ya BK551.out 0).trans rfl⟩ (fun hHeld => ?_);generalize w7.drew = w8 at BK550 BK551 BK552 HB hHeld ⊢;refine zp1 (i := 1) (N := some 6) (tb 6 2) rfl rfl (by kernel_rfl) ?_;refine zt (i := 0) (N := some 5) (tb 6 3) rfl rfl (by kernel_rfl) hHeld ?_;refine zt (i := 3) (N := some 8) (tb 6 11) rfl rfl (by kernel_rfl) hHeld ?_;refine Uj (i := 2) (N := some 7) (tb 6 15) rfl rfl (by kernel_rfl) (by decide) (fun K hK => ?_);refine Di Tryz.func81 (by kernel_rfl) rfl #[.slice A1 l1.length c1, .func (.func 82) #[] #[.pointer (some ⟨gb552, 0, none⟩), .pointer (some ⟨gb551, 0, none⟩)]] (by rfl) rfl rfl (by (try simp only [List.map_toArray, List.map_cons, List.map_nil]); first | done | rfl | (simp only [List.length_drop, List.length_take]; rfl)) ?_
 with_reducible refine (Ui.calls _ _ l1 a0 a2 t553 _ ?side1 ?side2 gb552 (by first | exact (Ya (zb BK552.out) 0).trans rfl | exact (Ya (Yb (zb BK552.out) 0 _ rfl) 0).trans rfl | exact zb BK552.out) gb551 (by first | exact (Ya (zb BK551.out) 0).trans rfl | exact (Ya (Yb (zb BK551.out) 0 _ rfl) 0).trans rfl | exact zb BK551.out) A4.out).mono ?_
 (case side1 => repeat (first | exact (Kd.C_below HR1.out HB.out) | (with_reducible refine Kd.C_alloc ?_ _) | (with_reducible refine Kd.C_drewN ?_ _) | (with_reducible refine Kd.C_drew ?_)))
 (case side2 => exact HC1.out)
 rintro e w9 ⟨rfl, hb⟩;refine ⟨_, rfl, ?_⟩;have n0_ := qa.mk (Na (g := gb550) (o := .cells #[.slice A1 l1.length c1] 59 (0, 0)) (zb BK550.out) hb);have n1_ := qa.mk (Na (g := gb551) (o := .cells #[.bool a2] 4 (0, 0)) (zb BK551.out) hb);have n2_ := qa.mk (Na (g := gb552) (o := .cells #[.int .i64 a0] 3 (0, 0)) (zb BK552.out) hb);have n3_ := qa.mk (Rc (zh HB.out) hb);clear BK550 BK551 BK552 HB;have BK550 := n0_;have BK551 := n1_;have BK552 := n2_;have HB := n3_;clear n0_ n1_ n2_ n3_;(try clear hb)
 (try clear hb2)
 (try clear hk)
 (try clear hi)
 refine hK.out _ _ ⟨(Ya BK550.out 0).trans rfl, (Ya BK551.out 0).trans rfl⟩ (fun hHeld => ?_);clear hK K;refine zn1 ?_;refine zp1 (i := 4) (N := some 9) (tb 6 31) rfl rfl (by kernel_rfl) ?_;refine zp1 (i := 5) (N := some 4) (tb 6 63) rfl rfl (by kernel_rfl) ?_;refine Bi (by kernel_rfl) ?_;try go_wp2
 go_ret;exact ⟨zL0, zh HB.out⟩
def Ei.f (k : Nat) (l0 : List S40) (l1 : List S40) : Option Bool := Ru (fun c => Mc.f k c.f0 c.f1 l1) l0
theorem Ei.calls (k : Nat) (A0 : Option Addr) (c0 : Nat) (l0 : List S40) (A1 : Option Addr) (c1 : Nat) (l1 : List S40) (r : Bool) (w : World) (hr0 : Kd.C k40 w A0 l0.length l0) (hc0 : l0.length ≤ c0) (hr1 : Kd.C k40 w A1 l1.length l1) (hc1 : l1.length ≤ c1)
 (gb1 : Nat) (h1 : w.heap[gb1]? = some (.cells #[.slice A1 l1.length c1] 25 (0, 0))) (h : Ei.f k l0 l1 = some r) :
 Calls Tryz.prog 75 #[.slice A0 l0.length c0, .func (.func 76) #[] #[.pointer (some ⟨gb1, 0, none⟩)]] w fun e w' => e = .returned (.bool r) ∧ Below w.heap.size w w' :=
 Bp _ 76 #[.pointer (some ⟨gb1, 0, none⟩)] (enters_of Tryz.func76 (by kernel_rfl) rfl) w A0 c0 l0 r w (Below.refl _ _) hr0 hc0
  (fun W x A c b hb hl hC hp => Mc.calls k x.f0 A c x.f1 A1 c1 l1 b W gb1 (Na h1 hb) hC hl (Kd.C_below hr1 hb) hc1 hp) h
mutual
def Sa.j0 : Nat → Bool → Int → List (List Int) → Option (Bool)
 | 0, _, _, _ => none
 | k + 1, x24, x112000, x112001 => if x24 = true then (some false) else (Sa.l0 k x112001 (x112001.length : Int) 0 x112000 x112001)
def Sa.l0 : Nat → List (List Int) → Int → Int → Int → List (List Int) → Option (Bool)
 | 0, _, _, _, _, _ => none
 | k + 1, x26, x27, x28, x112000, x112001 => if x28 < x27 then (if 0 ≤ x28 then (if x28 < (x26.length : Int) then (if x28 > 0 then (if 0 ≤ (wrap64 (x28 - 1)) then (if (wrap64 (x28 - 1)) < (x112001.length : Int) then ((Xb.f k (Bd x112001 (wrap64 (x28 - 1))) (Bd x26 x28)).bind fun t116 => (Sa.j2 k x28 (Bd x26 x28) x26 x27 x28 (decide (t116 ≥ 0)) x112000 x112001)) else (none)) else (none)) else (Sa.j2 k x28 (Bd x26 x28) x26 x27 x28 false x112000 x112001)) else (none)) else (none)) else (some true)
def Sa.j2 : Nat → Int → List Int → List (List Int) → Int → Int → Bool → Int → List (List Int) → Option (Bool)
 | 0, _, _, _, _, _, _, _, _ => none
 | k + 1, x3, x4, x26, x27, x28, x45, x112000, x112001 => if x45 = true then (some false) else (Sa.l1 k x3 x4 x26 x27 x28 x112001 (x112001.length : Int) 0 x112000 x112001)
def Sa.l1 : Nat → Int → List Int → List (List Int) → Int → Int → List (List Int) → Int → Int → Int → List (List Int) → Option (Bool)
 | 0, _, _, _, _, _, _, _, _, _, _ => none
 | k + 1, x3, x4, x26, x27, x28, x47, x48, x49, x112000, x112001 => if x49 < x48 then (if 0 ≤ x49 then (if x49 < (x47.length : Int) then (if x49 = x3 then (Sa.l1 k x3 x4 x26 x27 x28 x47 x48 (wrap64 (x49 + 1)) x112000 x112001) else ((Gd.f k x4).bind fun t118 => ((Gd.f k (Bd x47 x49)).bind fun t119 => (if (Go.bits .and .i64 t118 t119) = t119 then (some false) else (Sa.l1 k x3 x4 x26 x27 x28 x47 x48 (wrap64 (x49 + 1)) x112000 x112001))))) else (none)) else (none)) else (Sa.l0 k x26 x27 (wrap64 (x28 + 1)) x112000 x112001)
end
def Sa.f (k : Nat) (a0_0 : Int) (l0_1 : List (List Int)) : Option (Bool) := (Fe.f a0_0 1 9).bind fun t112 => (if t112 = true then (if (l0_1.length : Int) = 0 then (Sa.j0 k true a0_0 l0_1) else ((Rh.f k l0_1 a0_0).bind fun t113 => (Sa.j0 k (!t113) a0_0 l0_1))) else (Sa.j0 k true a0_0 l0_1))
theorem Sa.calls (k : Nat) (a0_0 : Int) (A0_1 : Option Addr) (c0_1 : Nat) (l0_1 : List (List Int)) (r : Bool) (w : World) (hr0_1 : Kd.C (Kd.slice 3 (Kd.int .i64)) w A0_1 l0_1.length l0_1) (hc0_1 : l0_1.length ≤ c0_1) (h : Sa.f k a0_0 l0_1 = some r) :
 Calls Tryz.prog 56 #[.agg #[.int .i64 a0_0, .slice A0_1 l0_1.length c0_1]] w fun e w' => e = .returned (.bool r) ∧ Below w.heap.size w w' := by
 have hu24 := Tryz.underlying24;have HR0_1 := qa.mk hr0_1;have HC0_1 := qa.mk hc0_1;clear hr0_1 hc0_1;have HB := qa.mk (Below.refl w.heap.size w);have H : ((Fe.f a0_0 1 9).bind fun t112 => (if t112 = true then (if (l0_1.length : Int) = 0 then (Sa.j0 k true a0_0 l0_1) else ((Rh.f k l0_1 a0_0).bind fun t113 => (Sa.j0 k (!t113) a0_0 l0_1))) else (Sa.j0 k true a0_0 l0_1))) = some r := h;clear h;have HC2 := qa.mk H;clear H;go_enter Tryz.func56, Tryz.ntmps56;go_upto_region 1 with (first | ((with_reducible refine Ma (N := 1) rfl ?_); (try (refine Qg (by rfl) ?_; dsimp only)); refine zq 1 #[.int .i64 a0_0, .slice A0_1 l0_1.length c0_1] 24 ?_; intro gb111 hg w3 hbox hb; have n2_ := qa.mk ((by rw [hg]; exact (Ua (zh HB.out)) : w.heap.size ≤ gb111)); replace HB := qa.mk (Rc (zh HB.out) hb); have BK111 := qa.mk hbox; have GW111 := n2_; have GE111 := n2_; clear n2_ hb hbox hg))
 (try simp only [Act.put, List.setIfInBounds_toArray, List.set_cons_zero, List.set_cons_succ])
 go_cut [24] (fun v24 wc => ∃ (kq : Nat) (x24_1 : Bool), v24 = .bool x24_1 ∧ qa (Sa.j0 kq x24_1 a0_0 l0_1 = some r) ∧ qa (kq ≤ k) ∧ qa (wc.heap[gb111]? = some (.cells #[.int .i64 a0_0, (.slice A0_1 l0_1.length c0_1)] 24 (0, 0))) ∧ qa (Below w.heap.size w wc));case first =>
  have H := HC2.out;clear HC2;replace H := zB0 H;obtain ⟨t112, A40, H⟩ := H;have A4 := qa.mk A40;clear A40;by_cases c5 : t112 = true
  ·subst c5;rw [if_pos rfl] at H;by_cases c6 : (l0_1.length : Int) = 0
   ·rw [if_pos c6] at H;have c6b0 := beq_iff_eq.mpr c6;have c6b1 := bne_eq_false_iff_eq.mpr c6;clear c6;(first | rw [c6b0] | (simp only [Ff, Jh]; rw [c6b0]) | skip)
    have H' := qa.mk H;clear H;obtain ⟨hcz7_0, hcz7_1, hfz7_0, hfz7_1⟩ := zC2 BK111;go_wp2_with (first | ((with_reducible refine Va (f := 74) rfl ?_); refine zl 9 Tryz.func74 #[.int .i64 a0_0, .int .i64 1, .int .i64 9] ?_; (with_reducible refine (Fe.calls a0_0 1 9 true _ A4.out).mono ?_); rintro e w' ⟨rfl, ⟨nd, rfl⟩⟩; refine ⟨_, rfl, ?_⟩));go_meet
    case rel => exact ⟨_, (true), zE, H', ⟨by first | omega | exact Nat.le_refl _⟩, ⟨zb BK111.out⟩, ⟨zh HB.out⟩⟩
   ·rw [if_neg c6] at H;have c6b0 := beq_eq_false_iff_ne.mpr c6;have c6b1 := bne_iff_ne.mpr c6;have c6b2 : ¬ (l0_1 = []) := fun h_ => c6 (by rw [h_]; rfl);(first | rw [c6b0] | (simp only [Ff, Jh]; rw [c6b0]) | skip)
    replace H := zB0 H;obtain ⟨t113, A80, H⟩ := H;have A8 := qa.mk A80;clear A80;have H' := qa.mk H;clear H;obtain ⟨hcz9_0, hcz9_1, hfz9_0, hfz9_1⟩ := zC2 BK111;go_wp2_with (first | ((with_reducible refine Va (f := 74) rfl ?_); refine zl 9 Tryz.func74 #[.int .i64 a0_0, .int .i64 1, .int .i64 9] ?_; (with_reducible refine (Fe.calls a0_0 1 9 true _ A4.out).mono ?_); rintro e w' ⟨rfl, ⟨nd, rfl⟩⟩; refine ⟨_, rfl, ?_⟩) | (go_at_call 103; (with_reducible refine (Rh.calls k _ _ l0_1 a0_0 t113 _ ?side1 ?side2 A8.out).mono ?_); (case side1 => exact zQ (Kd.C_below HR0_1.out (zh HB.out))); (case side2 => exact HC0_1.out); rintro e w10 ⟨rfl, hb⟩; replace BK111 := zK BK111 hb; replace HB := zH hb HB; clear hb));go_meet
    case rel => exact ⟨_, (!t113), zE, H', ⟨by first | omega | exact Nat.le_refl _⟩, ⟨zb BK111.out⟩, ⟨zh HB.out⟩⟩
  ·replace c5 := Bool.eq_false_iff.mpr c5;subst c5;rw [if_neg zF] at H;have H' := qa.mk H;clear H;obtain ⟨hcz11_0, hcz11_1, hfz11_0, hfz11_1⟩ := zC2 BK111;go_wp2_with (first | ((with_reducible refine Va (f := 74) rfl ?_); refine zl 9 Tryz.func74 #[.int .i64 a0_0, .int .i64 1, .int .i64 9] ?_; (with_reducible refine (Fe.calls a0_0 1 9 false _ A4.out).mono ?_); rintro e w' ⟨rfl, ⟨nd, rfl⟩⟩; refine ⟨_, rfl, ?_⟩));go_meet
   case rel => exact ⟨_, (true), zE, H', ⟨by first | omega | exact Nat.le_refl _⟩, ⟨zb BK111.out⟩, ⟨zh HB.out⟩⟩
 case rest =>
  clear HC2;try clear p2
  try clear c5
  try clear c6
  try clear c6b0
  try clear c6b1
  try clear c6b2
  try clear c7
  try clear hcz11_0
  try clear hcz11_1
  try clear hcz7_0
  try clear hcz7_1
  try clear hcz9_0
  try clear hcz9_1
  try clear hfz11_0
  try clear hfz11_1
  try clear hfz7_0
  try clear hfz7_1
  try clear hfz9_0
  try clear hfz9_1
  obtain ⟨kq, x24_1, rfl, HA, HJ1, BK111, HB⟩ := hcut;cases kq with
  | zero => exact absurd HA.out (by simp [Sa.j0])
  | succ kj1 =>
   have H := HA.out;clear HA;simp only [Sa.j0] at H;by_cases c12 : x24_1 = true
   ·subst c12;rw [if_pos rfl] at H;obtain rfl := Option.some.inj H;go_wp2;go_ret;exact ⟨zL0, zh HB.out⟩
   replace c12 := Bool.eq_false_iff.mpr c12;subst c12;rw [if_neg zF] at H;have H' := qa.mk H;clear H;obtain ⟨hcz13_0, hcz13_1, hfz13_0, hfz13_1⟩ := zC2 BK111;go_wp2;go_loopg [28] kj1 (fun kq v28 w' => ∃ (x28_2 : Int), v28 = .int .i64 x28_2 ∧ qa (Sa.l0 kq l0_1 (l0_1.length : Int) x28_2 a0_0 l0_1 = some r) ∧ qa (kq ≤ kj1) ∧ qa (w'.heap[gb111]? = some (.cells #[.int .i64 a0_0, (.slice A0_1 l0_1.length c0_1)] 24 (0, 0))) ∧ qa (Below w.heap.size w w'));case atStart => exact ⟨(0), zE, H', ⟨Nat.le_refl _⟩, ⟨zb BK111.out⟩, ⟨zh HB.out⟩⟩
   case round =>
    clear H';try clear c1
    try clear p2
    try clear c5
    try clear c6
    try clear c6b0
    try clear c6b1
    try clear c6b2
    try clear c7
    try clear c12
    try clear hcz11_0
    try clear hcz11_1
    try clear hcz13_0
    try clear hcz13_1
    try clear hcz7_0
    try clear hcz7_1
    try clear hcz9_0
    try clear hcz9_1
    try clear hfz11_0
    try clear hfz11_1
    try clear hfz13_0
    try clear hfz13_1
    try clear hfz7_0
    try clear hfz7_1
    try clear hfz9_0
    try clear hfz9_1
    try clear p2
    obtain ⟨x28_2, rfl, HA, HK2, BK111, HB⟩ := hrel;cases gk with
    | zero => exact absurd HA.out (by simp [Sa.l0])
    | succ k2 =>
     have H := HA.out;clear HA;simp only [Sa.l0] at H;by_cases c14 : x28_2 < (l0_1.length : Int)
     rotate_left
     ·rw [if_neg c14] at H;have c14b0 := decide_eq_false c14;clear c14;obtain rfl := Option.some.inj H;go_wp2;go_ret;exact ⟨zL0, zh HB.out⟩
     rw [if_pos c14] at H;have c14b0 := decide_eq_true c14;clear c14;by_cases c15 : 0 ≤ x28_2
     rotate_left
     ·rw [if_neg c15] at H;cases H
     rw [if_pos c15] at H;have c15b0 := decide_eq_true c15;clear c15;by_cases c16 : x28_2 < (l0_1.length : Int)
     rotate_left
     ·rw [if_neg c16] at H;cases H
     rw [if_pos c16] at H;have c16b0 := decide_eq_true c16;clear c16;have HC17 := qa.mk H;clear H;obtain ⟨⟨ad114, A114_0, c114_0, e114, hx114_0, hl114_0, hi114_0⟩, p114, q114⟩ := zW (qi HR0_1.out x28_2);cases e114;replace hx114_0 := zx HB.out hx114_0;have HR114_0 := qa.mk hi114_0;have HC114_0 := qa.mk hl114_0;clear hi114_0 hl114_0;go_upto_region 6 with (fail)
     go_cut [45] (fun v45 wc => ∃ (kq : Nat) (x45_16 : Bool), v45 = .bool x45_16 ∧ qa (Sa.j2 kq x28_2 (Bd l0_1 x28_2) l0_1 (l0_1.length : Int) x28_2 x45_16 a0_0 l0_1 = some r) ∧ qa (kq ≤ k2) ∧ qa (wc.heap[gb111]? = some (.cells #[.int .i64 a0_0, (.slice (some ad114) l0_1.length c0_1)] 24 (0, 0))) ∧ qa (Below w.heap.size w wc));case first =>
      have H := HC17.out;clear HC17;by_cases c18 : x28_2 > 0
      ·rw [if_pos c18] at H;have c18b0 := decide_eq_true c18;clear c18;(first | rw [c18b0] | (simp only [Ff, Jh]; rw [c18b0]) | skip)
       obtain ⟨ji19, hji19⟩ : ∃ j_ : Int, (wrap64 (x28_2 - 1)) = j_ := ⟨_, rfl⟩;first | rw [hji19] at H | simp only [hji19] at H
       have hji19w := (Ff _).trans hji19;by_cases c20 : 0 ≤ (ji19)
       ·rw [if_pos c20] at H;have c20b0 := decide_eq_true c20;clear c20;by_cases c21 : (ji19) < (l0_1.length : Int)
        ·rw [if_pos c21] at H;have c21b0 := decide_eq_true c21;clear c21;replace H := zB0 H;obtain ⟨t116, A220, H⟩ := H;have A22 := qa.mk A220;clear A220;have H' := qa.mk H;clear H;obtain ⟨hcz23_0, hcz23_1, hfz23_0, hfz23_1⟩ := zC2 BK111;obtain ⟨⟨ad115, A115_0, c115_0, e115, hx115_0, hl115_0, hi115_0⟩, p115, q115⟩ := zW (qi HR0_1.out (ji19));obtain rfl : ad114 = ad115 := (by injection e115);replace hx115_0 := zx HB.out hx115_0;have HR115_0 := qa.mk hi115_0;have HC115_0 := qa.mk hl115_0;clear hi115_0 hl115_0;go_wp2_with (first | (go_at_call 104; (with_reducible refine (Xb.calls k2 _ _ (Bd l0_1 (ji19)) _ _ (Bd l0_1 x28_2) t116 _ ?side1 ?side2 ?side3 ?side4 A22.out).mono ?_); (case side1 => exact zQ (Kd.C_below HR115_0.out HB.out)); (case side2 => exact HC115_0.out); (case side3 => exact zQ (Kd.C_below HR114_0.out HB.out)); (case side4 => exact HC114_0.out); rintro e w' ⟨rfl, ⟨nd, rfl⟩⟩));go_meet
         case rel => exact ⟨_, (decide (t116 ≥ 0)), zE, H', ⟨by have := HJ1.out; have := HK2.out; first | omega | exact Nat.le_refl _⟩, ⟨zb BK111.out⟩, ⟨zh HB.out⟩⟩
        ·rw [if_neg c21] at H;cases H
       ·rw [if_neg c20] at H;cases H
      ·rw [if_neg c18] at H;have c18b0 := decide_eq_false c18;clear c18;(first | rw [c18b0] | (simp only [Ff, Jh]; rw [c18b0]) | skip)
       have H' := qa.mk H;clear H;go_wp2;go_meet
       case rel => exact ⟨_, (false), zE, H', ⟨by have := HJ1.out; have := HK2.out; first | omega | exact Nat.le_refl _⟩, ⟨zb BK111.out⟩, ⟨zh HB.out⟩⟩
     case rest =>
      clear HC17;try clear c1
      try clear p1
      try clear q1
      try clear hx1
      try clear c2
      try clear p2
      try clear c5
      try clear c6
      try clear c6b0
      try clear c6b1
      try clear c6b2
      try clear p6
      try clear c7
      try clear c11
      try clear p11
      try clear q11
      try clear hx11
      try clear c12
      try clear c14
      try clear c14b0
      try clear c15
      try clear c15b0
      try clear c16
      try clear c16b0
      try clear c18
      try clear c18b0
      try clear c20
      try clear c20b0
      try clear c21
      try clear c21b0
      try clear hcz11_0
      try clear hcz11_1
      try clear hcz13_0
      try clear hcz13_1
      try clear hcz23_0
      try clear hcz23_1
      try clear hcz7_0
      try clear hcz7_1
      try clear hcz9_0
      try clear hcz9_1
      try clear hfz11_0
      try clear hfz11_1
      try clear hfz13_0
      try clear hfz13_1
      try clear hfz23_0
      try clear hfz23_1
      try clear hfz7_0
      try clear hfz7_1
      try clear hfz9_0
      try clear hfz9_1
      try clear hx114_0
      try clear hx115_0
      try clear p114
      try clear p115
      try clear p2
      try clear q114
      try clear q115
      obtain ⟨kq, x45_16, rfl, HA, HJ16, BK111, HB⟩ := hcut;cases kq with
      | zero => exact absurd HA.out (by simp [Sa.j2])
      | succ kj16 =>
       have H := HA.out;clear HA;simp only [Sa.j2] at H;by_cases c24 : x45_16 = true
       ·subst c24;rw [if_pos rfl] at H;obtain rfl := Option.some.inj H;go_wp2;go_ret;exact ⟨zL0, zh HB.out⟩
       replace c24 := Bool.eq_false_iff.mpr c24;subst c24;rw [if_neg zF] at H;have H' := qa.mk H;clear H;obtain ⟨hcz25_0, hcz25_1, hfz25_0, hfz25_1⟩ := zC2 BK111;go_wp2;go_loopg [49] kj16 (fun kq v49 w' => ∃ (x49_4 : Int), v49 = .int .i64 x49_4 ∧ qa (Sa.l1 kq x28_2 (Bd l0_1 x28_2) l0_1 (l0_1.length : Int) x28_2 l0_1 (l0_1.length : Int) x49_4 a0_0 l0_1 = some r) ∧ qa (kq ≤ kj16) ∧ qa (w'.heap[gb111]? = some (.cells #[.int .i64 a0_0, (.slice (some ad114) l0_1.length c0_1)] 24 (0, 0))) ∧ qa (Below w.heap.size w w'));case atStart => exact ⟨(0), zE, H', ⟨Nat.le_refl _⟩, ⟨zb BK111.out⟩, ⟨zh HB.out⟩⟩
       case round =>
        clear H';try clear c1
        try clear p1
        try clear q1
        try clear hx1
        try clear c2
        try clear p2
        try clear c5
        try clear c6
        try clear c6b0
        try clear c6b1
        try clear c6b2
        try clear p6
        try clear c7
        try clear c11
        try clear p11
        try clear q11
        try clear hx11
        try clear c12
        try clear c14
        try clear c14b0
        try clear c15
        try clear c15b0
        try clear c16
        try clear c16b0
        try clear c18
        try clear c18b0
        try clear c20
        try clear c20b0
        try clear c21
        try clear c21b0
        try clear c24
        try clear hcz11_0
        try clear hcz11_1
        try clear hcz13_0
        try clear hcz13_1
        try clear hcz23_0
        try clear hcz23_1
        try clear hcz25_0
        try clear hcz25_1
        try clear hcz7_0
        try clear hcz7_1
        try clear hcz9_0
        try clear hcz9_1
        try clear hfz11_0
        try clear hfz11_1
        try clear hfz13_0
        try clear hfz13_1
        try clear hfz23_0
        try clear hfz23_1
        try clear hfz25_0
        try clear hfz25_1
        try clear hfz7_0
        try clear hfz7_1
        try clear hfz9_0
        try clear hfz9_1
        try clear hx114_0
        try clear hx115_0
        try clear p1
        try clear p11
        try clear p114
        try clear p115
        try clear p2
        try clear p6
        try clear q1
        try clear q11
        try clear q114
        try clear q115
        obtain ⟨x49_4, rfl, HA, HK4, BK111, HB⟩ := hrel;cases gk with
        | zero => exact absurd HA.out (by simp [Sa.l1])
        | succ k4 =>
         have H := HA.out;clear HA;simp only [Sa.l1] at H;by_cases c26 : x49_4 < (l0_1.length : Int)
         rotate_left
         ·rw [if_neg c26] at H;have c26b0 := decide_eq_false c26;clear c26;have H' := qa.mk H;clear H;go_wp2;go_roundg k4;case measure => have := HJ1.out; have := HK2.out; have := HJ16.out; have := HK4.out; omega
          case rel => exact ⟨(wrap64 (x28_2 + 1)), zE, H', ⟨by have := HJ1.out; have := HK2.out; have := HJ16.out; have := HK4.out; omega⟩, ⟨zb BK111.out⟩, ⟨zh HB.out⟩⟩
         rw [if_pos c26] at H;have c26b0 := decide_eq_true c26;clear c26;by_cases c27 : 0 ≤ x49_4
         rotate_left
         ·rw [if_neg c27] at H;cases H
         rw [if_pos c27] at H;have c27b0 := decide_eq_true c27;clear c27;by_cases c28 : x49_4 < (l0_1.length : Int)
         rotate_left
         ·rw [if_neg c28] at H;cases H
         rw [if_pos c28] at H;have c28b0 := decide_eq_true c28;clear c28;by_cases c29 : x49_4 = x28_2
         ·rw [if_pos c29] at H;have c29b0 := beq_iff_eq.mpr c29;have c29b1 := bne_eq_false_iff_eq.mpr c29;clear c29;have H' := qa.mk H;clear H;obtain ⟨⟨ad117, A117_0, c117_0, e117, hx117_0, hl117_0, hi117_0⟩, p117, q117⟩ := zW (qi HR0_1.out x49_4);obtain rfl : ad114 = ad117 := (by injection e117);replace hx117_0 := zx HB.out hx117_0;have HR117_0 := qa.mk hi117_0;have HC117_0 := qa.mk hl117_0;clear hi117_0 hl117_0;go_wp2;go_roundg k4;case measure => have := HJ1.out; have := HK2.out; have := HJ16.out; have := HK4.out; omega
          case rel => exact ⟨(wrap64 (x49_4 + 1)), zE, H', ⟨by have := HJ1.out; have := HK2.out; have := HJ16.out; have := HK4.out; omega⟩, ⟨zb BK111.out⟩, ⟨zh HB.out⟩⟩
         rw [if_neg c29] at H;have c29b0 := beq_eq_false_iff_ne.mpr c29;have c29b1 := bne_iff_ne.mpr c29;replace H := zB0 H;obtain ⟨t118, A300, H⟩ := H;have A30 := qa.mk A300;clear A300;replace H := zB0 H;obtain ⟨t119, A310, H⟩ := H;have A31 := qa.mk A310;clear A310;by_cases c32 : (Go.bits .and .i64 t118 t119) = t119
         ·rw [if_pos c32] at H;have c32b0 := beq_iff_eq.mpr c32;have c32b1 := bne_eq_false_iff_eq.mpr c32;clear c32;obtain rfl := Option.some.inj H;obtain ⟨⟨ad117, A117_0, c117_0, e117, hx117_0, hl117_0, hi117_0⟩, p117, q117⟩ := zW (qi HR0_1.out x49_4);obtain rfl : ad114 = ad117 := (by injection e117);replace hx117_0 := zx HB.out hx117_0;have HR117_0 := qa.mk hi117_0;have HC117_0 := qa.mk hl117_0;clear hi117_0 hl117_0;go_wp2_with (first | (go_at_call 105; (with_reducible refine (Gd.calls k4 _ _ (Bd l0_1 x28_2) t118 _ ?side1 ?side2 A30.out).mono ?_); (case side1 => exact zQ (Kd.C_below HR114_0.out HB.out)); (case side2 => exact HC114_0.out); rintro e w' ⟨rfl, ⟨nd, rfl⟩⟩) | (go_at_call 105; (with_reducible refine (Gd.calls k4 _ _ (Bd l0_1 x49_4) t119 _ ?side1 ?side2 A31.out).mono ?_); (case side1 => exact zQ (Kd.C_below HR117_0.out (zh HB.out))); (case side2 => exact HC117_0.out); rintro e w' ⟨rfl, ⟨nd, rfl⟩⟩));go_ret;exact ⟨zL0, zh HB.out⟩
         rw [if_neg c32] at H;have c32b0 := beq_eq_false_iff_ne.mpr c32;have c32b1 := bne_iff_ne.mpr c32;have H' := qa.mk H;clear H;obtain ⟨⟨ad117, A117_0, c117_0, e117, hx117_0, hl117_0, hi117_0⟩, p117, q117⟩ := zW (qi HR0_1.out x49_4);obtain rfl : ad114 = ad117 := (by injection e117);replace hx117_0 := zx HB.out hx117_0;have HR117_0 := qa.mk hi117_0;have HC117_0 := qa.mk hl117_0;clear hi117_0 hl117_0;go_wp2_with (first | (go_at_call 105; (with_reducible refine (Gd.calls k4 _ _ (Bd l0_1 x28_2) t118 _ ?side1 ?side2 A30.out).mono ?_); (case side1 => exact zQ (Kd.C_below HR114_0.out HB.out)); (case side2 => exact HC114_0.out); rintro e w' ⟨rfl, ⟨nd, rfl⟩⟩) | (go_at_call 105; (with_reducible refine (Gd.calls k4 _ _ (Bd l0_1 x49_4) t119 _ ?side1 ?side2 A31.out).mono ?_); (case side1 => exact zQ (Kd.C_below HR117_0.out (zh HB.out))); (case side2 => exact HC117_0.out); rintro e w' ⟨rfl, ⟨nd, rfl⟩⟩));go_roundg k4;case measure => have := HJ1.out; have := HK2.out; have := HJ16.out; have := HK4.out; omega
         case rel => exact ⟨(wrap64 (x49_4 + 1)), zE, H', ⟨by have := HJ1.out; have := HK2.out; have := HJ16.out; have := HK4.out; omega⟩, ⟨zb BK111.out⟩, ⟨zh HB.out⟩⟩
def Sd.f (k : Nat) (a0_0 : Int) (l0_1 : List (List Int)) : Option (Bool) := (Sa.f k a0_0 l0_1).bind fun t121 => (if t121 = true then (some (decide (a0_0 ≤ 4))) else (some false))
theorem Sd.calls (k : Nat) (a0_0 : Int) (A0_1 : Option Addr) (c0_1 : Nat) (l0_1 : List (List Int)) (r : Bool) (w : World) (hr0_1 : Kd.C (Kd.slice 3 (Kd.int .i64)) w A0_1 l0_1.length l0_1) (hc0_1 : l0_1.length ≤ c0_1) (h : Sd.f k a0_0 l0_1 = some r) :
 Calls Tryz.prog 24 #[.agg #[.int .i64 a0_0, .slice A0_1 l0_1.length c0_1]] w fun e w' => e = .returned (.bool r) ∧ Below w.heap.size w w' := by
 have hu24 := Tryz.underlying24;have HR0_1 := qa.mk hr0_1;have HC0_1 := qa.mk hc0_1;clear hr0_1 hc0_1;have HB := qa.mk (Below.refl w.heap.size w);have H : ((Sa.f k a0_0 l0_1).bind fun t121 => (if t121 = true then (some (decide (a0_0 ≤ 4))) else (some false))) = some r := h;clear h;replace H := zB0 H;obtain ⟨t121, A20, H⟩ := H;have A2 := qa.mk A20;clear A20;by_cases c3 : t121 = true
 rotate_left
 ·replace c3 := Bool.eq_false_iff.mpr c3;subst c3;rw [if_neg zF] at H;obtain rfl := Option.some.inj H;go_enter Tryz.func24, Tryz.ntmps24;go_wp2_with (first | ((with_reducible refine Ma (N := 1) rfl ?_); refine zq 1 #[.int .i64 a0_0, .slice A0_1 l0_1.length c0_1] 24 ?_; intro gb120 hg w8 hbox hb; have GW120 := zG hg HB; replace HB := zH hb HB; have BK120 := qa.mk hbox; have GE120 := GW120; clear hb hbox hg; obtain ⟨hcz9_0, hcz9_1, hfz9_0, hfz9_1⟩ := zC2 BK120) | ((with_reducible refine Va (f := 56) rfl ?_); refine zl 4 Tryz.func56 #[.agg #[.int .i64 a0_0, .slice A0_1 l0_1.length c0_1]] ?_; (with_reducible refine (Sa.calls k a0_0 _ _ l0_1 false _ ?side1 ?side2 A2.out).mono ?_); (case side1 => exact zQ (Kd.C_below HR0_1.out HB.out)); (case side2 => exact HC0_1.out); rintro e w10 ⟨rfl, hb⟩; refine ⟨_, rfl, ?_⟩; replace BK120 := zK BK120 hb; replace HB := zH hb HB; clear hb));go_ret;exact ⟨zL0, zh HB.out⟩
 subst c3;rw [if_pos rfl] at H;obtain rfl := Option.some.inj H;go_enter Tryz.func24, Tryz.ntmps24;go_wp2_with (first | ((with_reducible refine Ma (N := 1) rfl ?_); refine zq 1 #[.int .i64 a0_0, .slice A0_1 l0_1.length c0_1] 24 ?_; intro gb120 hg w4 hbox hb; have GW120 := zG hg HB; replace HB := zH hb HB; have BK120 := qa.mk hbox; have GE120 := GW120; clear hb hbox hg; obtain ⟨hcz5_0, hcz5_1, hfz5_0, hfz5_1⟩ := zC2 BK120) | ((with_reducible refine Va (f := 56) rfl ?_); refine zl 4 Tryz.func56 #[.agg #[.int .i64 a0_0, .slice A0_1 l0_1.length c0_1]] ?_; (with_reducible refine (Sa.calls k a0_0 _ _ l0_1 true _ ?side1 ?side2 A2.out).mono ?_); (case side1 => exact zQ (Kd.C_below HR0_1.out HB.out)); (case side2 => exact HC0_1.out); rintro e w6 ⟨rfl, hb⟩; refine ⟨_, rfl, ?_⟩; replace BK120 := zK BK120 hb; replace HB := zH hb HB; clear hb; obtain ⟨hcz7_0, hcz7_1, hfz7_0, hfz7_1⟩ := zC2 BK120));go_ret;exact ⟨zL0, zh HB.out⟩
end Go.Proofs.YtodchjdgpnpdcaaGreat.Q
end

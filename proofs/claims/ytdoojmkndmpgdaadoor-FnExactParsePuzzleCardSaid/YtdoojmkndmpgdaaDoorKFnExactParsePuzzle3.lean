/- The row of the law FnExactParsePuzzle: for every input it returns true, and its arguments read afterwards as before. No condition: FnExactParsePuzzle_pure says that its pure form answers true at every input, and laws_FnExactParsePuzzle.calls that the machine comes to just that. -/
import Derived.Test.YtdoojmkndmpgdaaDoorKFnExactParsePuzzle2
import Derived.Test.YtdoojmkndmpgdaaDoorRows
import Derived.Laws.StructEq
import Derived.Shelf.Strconv.Itoa3
import Derived.Shelf.Strings.OnBuilder
import Derived.Shelf.Strconv.AtoiAll
import Derived.Lib.SlicesS
import Derived.Shelf.Strings.Split
import Derived.Shelf.Strings.Cut
import Derived.Shelf.Strings.Replace
import Derived.Lib.Join
import Derived.ProofKit
import Derived.OpenShut
import Derived.ShutString
import Derived.ChangeOld
import Derived.SizedLaws
import Derived.Deep.Slices
import Derived.Deep.Strs
import Derived.LaidSub
import Derived.Stop.LaidErr
import Derived.Shelf.Vars
import Derived.Handed
import Derived.Test.YtdoojmkndmpgdaaDoorCards
import Derived.Test.YtdoojmkndmpgdaaDoorTie
import Derived.Lay
import Derived.LaidLaws
import Derived.LaidHandle
import Derived.SevenTiedAt
section
namespace Go.Proofs.YtdoojmkndmpgdaaDoor.Q
open Go.RowKit Go.Proofs.YtdoojmkndmpgdaaDoorW.PrintWords Go.Proofs.YtdoojmkndmpgdaaDoorW.PrintLast Go.Proofs.YtdoojmkndmpgdaaDoorW.PrintMore
set_option linter.unusedVariables false
set_option linter.unusedSimpArgs false
theorem ev_range {R : Type} (n : Nat) (L : Nat → Nat → Option R) (v : Nat → R) (hend : Ev (fun k => L k n) (v n)) (hstep : ∀ i, i < n → Ev (fun k => L k (i + 1)) (v (i + 1)) → Ev (fun k => L k i) (v i)) :
    ∀ i, i ≤ n → Ev (fun k => L k i) (v i) := by
  have key : ∀ d i, i + d = n → Ev (fun k => L k i) (v i) := by
    intro d
    induction d with
    | zero => intro i hi; rw [show i = n by omega]; exact hend
    | succ d ih => intro i hi; exact hstep i (by omega) (ih (i + 1) (by omega))
  exact fun i hi => key (n - i) i (by omega)
theorem ev_rangeS {R σ : Type} (n : Nat) (L : Nat → Nat → σ → Option R) (v : Nat → σ → R) (I : Nat → σ → Prop) (hend : ∀ s, I n s → Ev (fun k => L k n s) (v n s))
    (hstep : ∀ i s, i < n → I i s → (∀ s', I (i + 1) s' → Ev (fun k => L k (i + 1) s') (v (i + 1) s')) → Ev (fun k => L k i s) (v i s)) :
    ∀ i s, i ≤ n → I i s → Ev (fun k => L k i s) (v i s) := by
  have key : ∀ d i s, i + d = n → I i s → Ev (fun k => L k i s) (v i s) := by
    intro d
    induction d with
    | zero =>
      intro i s hi h
      have e : i = n := by omega
      subst e
      exact hend s h
    | succ d ih => intro i s hi h; exact hstep i s (by omega) h (fun s' h' => ih (i + 1) s' (by omega) h')
  exact fun i s hi h => key (n - i) i s (by omega) h
theorem getD_get {α : Type} {xs : List α} {z : α} {i : Nat} (h : i < xs.length) : xs.getD i z = xs[i] := by
  simp [List.getD_eq_getElem?_getD, List.getElem?_eq_getElem h]
theorem all_drop {α : Type} (p : α → Bool) (l : List α) (i : Nat) (h : i < l.length) : (l.drop i).all p = (p l[i] && (l.drop (i + 1)).all p) := by
  rw [List.drop_eq_getElem_cons h, List.all_cons]
theorem drop_end {α : Type} (l : List α) : l.drop l.length = [] := by simp
theorem eq_drop {α : Type} [DecidableEq α] (a b : List α) (i : Nat) (h1 : i < a.length) (h2 : i < b.length) : decide (a.drop i = b.drop i) = (decide (a[i] = b[i]) && decide (a.drop (i + 1) = b.drop (i + 1))) := by
  rw [List.drop_eq_getElem_cons h1, List.drop_eq_getElem_cons h2]
  by_cases e : a[i] = b[i]
  · by_cases e2 : a.drop (i + 1) = b.drop (i + 1)
    · rw [decide_eq_true e, decide_eq_true e2, decide_eq_true (by rw [e, e2])]; rfl
    · rw [decide_eq_false e2, decide_eq_false (fun h => e2 (List.cons.inj h).2)]; simp
  · rw [decide_eq_false e, decide_eq_false (fun h => e (List.cons.inj h).1)]; rfl
def tab {α : Type} (g : Nat → α) (n : Nat) : List α := (List.range n).map g
theorem tab_len {α : Type} (g : Nat → α) (n : Nat) : (tab g n).length = n := by simp [tab]
theorem tab_get {α : Type} (g : Nat → α) (n i : Nat) (h : i < (tab g n).length) : (tab g n)[i] = g i := by simp [tab]
theorem tab_succ {α : Type} (g : Nat → α) (n : Nat) : tab g (n + 1) = tab g n ++ [g n] := by simp [tab, List.range_succ]
theorem set_tab {α : Type} (g : Nat → α) (l : List α) (i : Nat) (h : i < l.length) : (tab g i ++ l.drop i).set i (g i) = tab g (i + 1) ++ l.drop (i + 1) := by
  rw [List.set_append_right _ _ (by rw [tab_len]; omega), tab_len, Nat.sub_self, List.drop_eq_getElem_cons h, List.set_cons_zero, tab_succ, List.append_assoc]; rfl
theorem tab_drop_len {α : Type} (g : Nat → α) (l : List α) (i : Nat) (h : i ≤ l.length) : (tab g i ++ l.drop i).length = l.length := by
  rw [List.length_append, tab_len, List.length_drop]; omega
theorem any_not_all {α : Type} (l : List α) (p : α → Bool) : (!l.any fun x => !p x) = l.all p := by
  induction l with
  | nil => rfl
  | cons x l ih => rw [List.any_cons, List.all_cons, ← ih]; cases p x <;> simp
deriving instance DecidableEq for S54
theorem rdI_get {xs : List S54} {i : Nat} (h : i < xs.length) : rd_T54 xs (i : Int) = xs[i] := by unfold rd_T54; rw [Int.toNat_natCast]; exact getD_get h
theorem eqClue_eq (x y : S54) : laws_eqClue.f x.f0 x.f1 x.f2 y.f0 y.f1 y.f2 = some (decide (x = y)) := by
  unfold laws_eqClue.f
  obtain ⟨a, b, c⟩ := x
  obtain ⟨d, e, f⟩ := y
  simp only [S54.mk.injEq]
  repeat' split
  all_goals simp_all
theorem eqClueS_ev (a b : List S54) (ha : a.length ≤ 1152921504606) : Ev (fun k => laws_eqClueS.f k a b) (decide (a = b)) := by
  unfold laws_eqClueS.f
  by_cases hl : a.length = b.length
  · refine ev_pos (by omega) ?_
    refine ev_range a.length (fun k i => laws_eqClueS.l0 k a b (i : Int)) (fun i => decide (a.drop i = b.drop i)) ?_ ?_ 0 (Nat.zero_le _)
    · refine ev_succ ?_
      simp only [laws_eqClueS.l0]
      refine ev_neg (by omega) (ev_eqv (Ev.now _) ?_)
      rw [List.drop_of_length_le (by omega), List.drop_of_length_le (by omega)]; simp
    · intro i hi ih
      have h2 : i < b.length := by omega
      refine ev_succ ?_
      simp only [laws_eqClueS.l0]
      refine ev_pos (by omega) (ev_pos (by omega) (ev_pos (by omega) ?_))
      rw [rdI_get hi, rdI_get h2, eqClue_eq, wrap_succ hi (by omega), eq_drop a b i hi h2]
      refine ev_bool (fun h => ?_) (fun h => ?_)
      · rw [h]; exact ih
      · rw [h]; exact Ev.now _
  · refine ev_neg (by omega) (ev_eqv (Ev.now false) ?_)
    exact (decide_eq_false fun e => hl (by rw [e])).symm
theorem eqPuzzle_ev (m n : Int) (a b : List S54) (ha : a.length ≤ 1152921504606) : Ev (fun k => laws_eqPuzzle.f k m a n b) (decide (m = n ∧ a = b)) := by
  unfold laws_eqPuzzle.f
  by_cases hm : m = n
  · refine ev_pos hm (Ev.bind (eqClueS_ev a b ha) (ev_bool (fun h => ev_eqv (Ev.now _) ?_) (fun h => ev_eqv (Ev.now _) ?_)))
    · exact (decide_eq_true ⟨hm, of_decide_eq_true h⟩).symm
    · exact (decide_eq_false fun e => of_decide_eq_false h e.2).symm
  · exact ev_neg hm (ev_eqv (Ev.now _) (decide_eq_false fun e => hm e.1).symm)
def puzzleOk (m : Int) (l : List S54) : Bool := inB m 1 4 && (decide (l.length ≤ 8) && l.all fun x => clueOk m x.f0 x.f1 x.f2)
theorem pzGood_ev (m : Int) (l : List S54) : Ev (fun k => spec_pzGood.f k m l) (puzzleOk m l) := by
  unfold spec_pzGood.f puzzleOk
  simp only [pzMembers_eq, Option.bind_some]
  refine ev_bool (fun hb => ?_) (fun hb => ?_)
  · rw [hb]
    refine ev_succ ?_
    simp only [spec_pzGood.j0]
    by_cases hl : l.length ≤ 8
    · rw [decide_eq_true hl, decide_eq_false (show ¬ (l.length : Int) > 8 by omega)]
      refine ev_neg (by simp) ?_
      refine ev_range l.length (fun k i => spec_pzGood.l0 k l (l.length : Int) (i : Int) m l) (fun i => (l.drop i).all fun x => clueOk m x.f0 x.f1 x.f2) ?_ ?_ 0 (Nat.zero_le _)
      · refine ev_succ ?_
        simp only [spec_pzGood.l0]
        exact ev_neg (by omega) (ev_eqv (Ev.now _) (by rw [drop_end]; rfl))
      · intro i hi ih
        refine ev_succ ?_
        simp only [spec_pzGood.l0]
        refine ev_pos (by omega) (ev_pos (by omega) (ev_pos (by omega) ?_))
        rw [rdI_get hi, wrap_succ hi (by omega), pzClue_eq _ _ _ _ (inB_iff.1 hb), all_drop _ _ _ hi]
        exact ev_bool (fun h => by rw [h]; exact ih) (fun h => by rw [h]; exact Ev.now _)
    · rw [decide_eq_false hl, decide_eq_true (show (l.length : Int) > 8 by omega)]
      exact ev_pos (by simp) (Ev.now _)
  · rw [hb]
    refine ev_succ ?_
    simp only [spec_pzGood.j0]
    exact ev_pos (by simp) (Ev.now _)
theorem IsPuzzle_eq (m : Int) (l : List S54) : impl_IsPuzzle.f m l = some (puzzleOk m l) := by
  unfold impl_IsPuzzle.f puzzleOk
  rw [isHidden_eq, Option.bind_some]
  refine bind_ite_false fun hb => ?_
  by_cases hl : l.length ≤ 8
  · rw [if_pos (by omega), decide_eq_true hl]
    rw [anyO_some (q := fun x => !clueOk m x.f0 x.f1 x.f2) (fun x _ => by unfold impl_IsPuzzle_1.f; rw [IsClue_eq, hb]; rfl)]
    rw [Option.bind_some, any_not_all]; rfl
  · rw [if_neg (by omega), decide_eq_false hl]; rfl
def ly37_ren : Go.Shelf.Ren := ⟨fun | 171 => 37 | 243 => 50 | 246 => 61 | 283 => 76 | 284 => 77 | 285 => 78 | 286 => 79 | 129 => 88 | 317 => 87 | 318 => 89 | 319 => 90 | 320 => 91 | 337 => 94 | 338 => 95 | n => n, fun | 3 => 3 | 9 => 9 | 2 => 2 | 4 => 4 | 171 => 97 | 0 => 0 | 53 => 98 | 37 => 75 | 5 => 5 | 173 => 101 | 212 => 120 | 51 => 106 | 20 => 20 | 213 => 121 | 46 => 90 | 232 => 128 | 233 => 129 | n => n, fun | 17 => 5 | 18 => 6 | 19 => 7 | n => n⟩
theorem ly37 : Go.Proofs.Lays.n171 Tryd.prog ly37_ren := {
  mixed := by kernel_rfl
  f129 := Tryd.func88.trans (congrArg some (by kernel_rfl))
  f171 := Tryd.func37.trans (congrArg some (by kernel_rfl))
  f243 := Tryd.func50.trans (congrArg some (by kernel_rfl))
  f246 := Tryd.func61.trans (congrArg some (by kernel_rfl))
  f283 := Tryd.func76.trans (congrArg some (by kernel_rfl))
  f284 := Tryd.func77.trans (congrArg some (by kernel_rfl))
  f285 := Tryd.func78.trans (congrArg some (by kernel_rfl))
  f286 := Tryd.func79.trans (congrArg some (by kernel_rfl))
  f317 := Tryd.func87.trans (congrArg some (by kernel_rfl))
  f318 := Tryd.func89.trans (congrArg some (by kernel_rfl))
  f319 := Tryd.func90.trans (congrArg some (by kernel_rfl))
  f320 := Tryd.func91.trans (congrArg some (by kernel_rfl))
  f337 := Tryd.func94.trans (congrArg some (by kernel_rfl))
  f338 := Tryd.func95.trans (congrArg some (by kernel_rfl))
  t0 := Tryd.underlying0
  a0 := Tryd.isAgg0
  z0 := Tryd.sizeOf0
  v0 := Tryd.zeroValue0
  t2 := Tryd.underlying2
  a2 := Tryd.isAgg2
  z2 := Tryd.sizeOf2
  v2 := Tryd.zeroValue2
  t3 := Tryd.underlying3
  a3 := Tryd.isAgg3
  z3 := Tryd.sizeOf3
  v3 := Tryd.zeroValue3
  t4 := Tryd.underlying4
  a4 := Tryd.isAgg4
  z4 := Tryd.sizeOf4
  v4 := Tryd.zeroValue4
  t5 := Tryd.underlying5
  a5 := Tryd.isAgg5
  z5 := Tryd.sizeOf5
  v5 := Tryd.zeroValue5
  t9 := Tryd.underlying9
  a9 := Tryd.isAgg9
  z9 := Tryd.sizeOf9
  v9 := Tryd.zeroValue9
  t20 := Tryd.underlying20
  a20 := Tryd.isAgg20
  z20 := Tryd.sizeOf20
  v20 := Tryd.zeroValue20
  t37 := Tryd.underlying75
  a37 := Tryd.isAgg75
  z37 := Tryd.sizeOf75
  v37 := Tryd.zeroValue75
  t46 := Tryd.underlying90
  a46 := Tryd.isAgg90
  z46 := Tryd.sizeOf90
  v46 := Tryd.zeroValue90
  t51 := Tryd.underlying106
  a51 := Tryd.isAgg106
  z51 := Tryd.sizeOf106
  v51 := Tryd.zeroValue106
  t53 := Tryd.underlying98
  a53 := Tryd.isAgg98
  z53 := Tryd.sizeOf98
  v53 := Tryd.zeroValue98
  t171 := Tryd.underlying97
  a171 := Tryd.isAgg97
  z171 := Tryd.sizeOf97
  v171 := Tryd.zeroValue97
  t173 := Tryd.underlying101
  a173 := Tryd.isAgg101
  z173 := Tryd.sizeOf101
  v173 := Tryd.zeroValue101
  t212 := Tryd.underlying120
  a212 := Tryd.isAgg120
  z212 := Tryd.sizeOf120
  v212 := Tryd.zeroValue120
  t213 := Tryd.underlying121
  a213 := Tryd.isAgg121
  z213 := Tryd.sizeOf121
  t232 := Tryd.underlying128
  a232 := Tryd.isAgg128
  z232 := Tryd.sizeOf128
  v232 := Tryd.zeroValue128
  t233 := Tryd.underlying129
  a233 := Tryd.isAgg129
  z233 := Tryd.sizeOf129
  v233 := Tryd.zeroValue129
  g17 := by kernel_rfl
  g18 := by kernel_rfl
  g19 := by kernel_rfl }
def strconv_Itoa_37.f (a0 : Int) : Option ByteArray := if 0 ≤ a0 ∧ a0 < 100 then some ⟨(Lib.decDigits a0.toNat).toArray⟩ else none
theorem strconv_Itoa_37.calls (a0 : Int) (r : ByteArray) (w : World) (h : strconv_Itoa_37.f a0 = some r) : Calls Tryd.prog 37 #[.int .i64 a0] w fun e w' => e = .returned (.string r) ∧ Drawn0 w w' := by
  unfold strconv_Itoa_37.f at h
  split at h
  · rename_i hc
    cases h
    obtain ⟨n, rfl⟩ := Int.eq_ofNat_of_zero_le hc.1
    exact (Any.strconv_Itoa_small ly37 n (by omega) w).mono fun e w' h => ⟨h.1, h.2 ▸ Drawn0.refl _⟩
  · cases h
def ly38_ren : Go.Shelf.Ren := ⟨fun | 156 => 38 | 165 => 51 | 166 => 52 | 169 => 53 | 240 => 62 | 241 => 63 | 276 => 80 | 277 => 81 | n => n, fun | 31 => 47 | 9 => 9 | 3 => 3 | 4 => 4 | 0 => 0 | 20 => 20 | 72 => 79 | 76 => 69 | 70 => 77 | 37 => 75 | 75 => 68 | 127 => 88 | 164 => 103 | 5 => 5 | 80 => 81 | n => n, fun | n => n⟩
theorem ly38 : Go.Proofs.Lays.n156 Tryd.prog ly38_ren := {
  mixed := by kernel_rfl
  f156 := Tryd.func38.trans (congrArg some (by kernel_rfl))
  f165 := Tryd.func51.trans (congrArg some (by kernel_rfl))
  f166 := Tryd.func52.trans (congrArg some (by kernel_rfl))
  f169 := Tryd.func53.trans (congrArg some (by kernel_rfl))
  f240 := Tryd.func62.trans (congrArg some (by kernel_rfl))
  f241 := Tryd.func63.trans (congrArg some (by kernel_rfl))
  f276 := Tryd.func80.trans (congrArg some (by kernel_rfl))
  f277 := Tryd.func81.trans (congrArg some (by kernel_rfl))
  t0 := Tryd.underlying0
  a0 := Tryd.isAgg0
  z0 := Tryd.sizeOf0
  v0 := Tryd.zeroValue0
  t3 := Tryd.underlying3
  a3 := Tryd.isAgg3
  z3 := Tryd.sizeOf3
  v3 := Tryd.zeroValue3
  t4 := Tryd.underlying4
  a4 := Tryd.isAgg4
  z4 := Tryd.sizeOf4
  v4 := Tryd.zeroValue4
  t9 := Tryd.underlying9
  a9 := Tryd.isAgg9
  z9 := Tryd.sizeOf9
  v9 := Tryd.zeroValue9
  t20 := Tryd.underlying20
  a20 := Tryd.isAgg20
  z20 := Tryd.sizeOf20
  v20 := Tryd.zeroValue20
  t31 := Tryd.underlying47
  a31 := Tryd.isAgg47
  z31 := Tryd.sizeOf47
  v31 := Tryd.zeroValue47
  t37 := Tryd.underlying75
  a37 := Tryd.isAgg75
  z37 := Tryd.sizeOf75
  v37 := Tryd.zeroValue75
  t70 := Tryd.underlying77
  a70 := Tryd.isAgg77
  z70 := Tryd.sizeOf77
  v70 := Tryd.zeroValue77
  t72 := Tryd.underlying79
  a72 := Tryd.isAgg79
  z72 := Tryd.sizeOf79
  v72 := Tryd.zeroValue79
  t75 := Tryd.underlying68
  a75 := Tryd.isAgg68
  z75 := Tryd.sizeOf68
  v75 := Tryd.zeroValue68
  t76 := Tryd.underlying69
  a76 := Tryd.isAgg69
  z76 := Tryd.sizeOf69
  v76 := Tryd.zeroValue69
  t127 := Tryd.underlying88
  a127 := Tryd.isAgg88
  z127 := Tryd.sizeOf88
  v127 := Tryd.zeroValue88
  t164 := Tryd.underlying103
  a164 := Tryd.isAgg103
  z164 := Tryd.sizeOf103
  v164 := Tryd.zeroValue103 }
theorem join_extra : Builder.Extra Tryd.prog ly38_ren := {
  sizeBuilder := by kernel_rfl
  liesBuilder := by kernel_rfl
  t5 := Tryd.underlying5
  a5 := Tryd.isAgg5
  z5 := Tryd.sizeOf5
  v5 := Tryd.zeroValue5
  infoByte := by kernel_rfl
  cellsByte := by kernel_rfl
  sizeByte := by kernel_rfl
  neB5 := by decide }
def strings_Join.f (l0 : List ByteArray) (a1 : ByteArray) : Option ByteArray := if l0.length ≤ 140737488355328 ∧ (Lib.join (l0.map (·.data.toList)) a1.data.toList).length ≤ 140737488355328 then some ⟨(Lib.join (l0.map (·.data.toList)) a1.data.toList).toArray⟩ else none
theorem cell_spot {w : World} {a : Addr} {v : Value} (h : w.cell? a = some v) : a.spot = none ∧ a.block < w.heap.size := by
  refine ⟨?_, World.block_lt_of_cell? w _ h⟩
  cases hs : a.spot with
  | none => rfl
  | some x =>
    unfold World.cell? at h
    simp only [hs, Option.isSome_some, if_true] at h
    split at h <;> cases h
theorem strings_Join.calls (A0 : Option Addr) (c0 : Nat) (l0 : List ByteArray) (a1 : ByteArray) (r : ByteArray) (w : World) (hr0 : Kd.C Kd.string w A0 l0.length l0) (hc0 : l0.length ≤ c0) (h : strings_Join.f l0 a1 = some r) : Calls Tryd.prog 38 #[.slice A0 l0.length c0, .string a1] w fun e w' => e = .returned (.string r) ∧ Below w.heap.size w w' := by
  unfold strings_Join.f at h
  split at h
  · rename_i hc
    cases h
    cases hl : l0 with
    | nil => exact (Any.strings_Join_none ly38 join_extra A0 c0 a1 w).mono fun e w' h => ⟨h.1, h.2 ▸ Below.refl _ _⟩
    | cons x xs =>
      rw [← hl]
      have hR := Kd.reads_of_C (enc := Value.string) (d := ByteArray.empty) (h1 := fun _ => rfl) hr0
      obtain ⟨ad, rfl, hcell⟩ := hR.2.2 (by rw [hl]; simp)
      have h0 := hcell 0 (by rw [hl]; simp)
      have hsp := cell_spot h0
      obtain ⟨bk, o, sp⟩ := ad
      have hs : sp = none := hsp.1
      subst hs
      refine (Any.strings_Join ly38 join_extra bk o c0 l0 a1 w (fun j y hj => ?_) hsp.2 hc.1 hc0 hc.2)
      have hj' : j < l0.length := (List.getElem?_eq_some_iff.1 hj).1
      have := hcell j hj'
      rw [List.getD_eq_getElem?_getD, hj] at this
      rw [show (⟨bk, o + j, none⟩ : Addr) = (⟨bk, o, none⟩ : Addr).add j from (by unfold Addr.add; split <;> simp_all)]
      exact this
  · cases h
end Go.Proofs.YtdoojmkndmpgdaaDoor.Q
end
section
namespace Go.Proofs.YtdoojmkndmpgdaaDoor.Q
open Go.RowKit Go.Proofs.YtdoojmkndmpgdaaDoorW.PrintWords Go.Proofs.YtdoojmkndmpgdaaDoorW.PrintLast Go.Proofs.YtdoojmkndmpgdaaDoorW.PrintMore
attribute [local go_sem] max2_int min2_int max_two min_two max_three min_three max_four min_four
set_option linter.unusedVariables false
set_option linter.unusedSimpArgs false
def impl_puzzleText.l0 : Nat → List ByteArray → List (S54) → Int → Int → Int → List (S54) → Option (ByteArray)
 | 0, _, _, _, _, _, _ => none
 | k + 1, x3, x8, x9, x10, x189000, x189001 => if x10 < x9 then (if 0 ≤ x10 then (if x10 < (x8.length : Int) then ((strconv_Itoa_37.f ((rd_T54 x8 x10).f0)).bind fun t194 => (if t194.size + 1 ≤ 9223372036854775807 then ((strconv_Itoa_37.f ((rd_T54 x8 x10).f1)).bind fun t195 => (if (t194 ++ (⟨#[46]⟩ : ByteArray)).size + t195.size ≤ 9223372036854775807 then (if ((t194 ++ (⟨#[46]⟩ : ByteArray)) ++ t195).size + 1 ≤ 9223372036854775807 then ((strconv_Itoa_37.f ((rd_T54 x8 x10).f2)).bind fun t196 => (if (((t194 ++ (⟨#[46]⟩ : ByteArray)) ++ t195) ++ (⟨#[46]⟩ : ByteArray)).size + t196.size ≤ 9223372036854775807 then (if x3.length < 8796093022208 then (impl_puzzleText.l0 k (x3 ++ [(((t194 ++ (⟨#[46]⟩ : ByteArray)) ++ t195) ++ (⟨#[46]⟩ : ByteArray)) ++ t196]) x8 x9 (wrap64 (x10 + 1)) x189000 x189001) else (none)) else (none))) else (none)) else (none))) else (none))) else (none)) else (none)) else ((strconv_Itoa_37.f x189000).bind fun t200 => (if t200.size + 1 ≤ 9223372036854775807 then ((strings_Join.f x3 (⟨#[44]⟩ : ByteArray)).bind fun t201 => (if (t200 ++ (⟨#[58]⟩ : ByteArray)).size + t201.size ≤ 9223372036854775807 then (some ((t200 ++ (⟨#[58]⟩ : ByteArray)) ++ t201)) else (none))) else (none)))
def impl_puzzleText.f (k : Nat) (a0_0 : Int) (l0_1 : List (S54)) : Option (ByteArray) := impl_puzzleText.l0 k (([] : List ByteArray)) l0_1 (l0_1.length : Int) 0 a0_0 l0_1
def impl_puzzleText.T5 : Bool × List (List Nat × List Nat) := (true, [([], []), ([], []), ([1], [1]), ([2], [2]), ([3], [3]), ([], []), ([5], [5]), ([6, 3], [6]), ([4, 7], [4, 7]), ([8], [8]), ([], []), ([10], [10]), ([11, 7], [11]), ([9, 12], [9, 12]), ([13], [13]), ([0, 14, 12], [0, 14]), ([15, 15, 0, 1, 2, 3, 4, 5, 6, 7, 8, 9, 10, 11, 12, 13, 14, 15], [0, 15])])
def impl_puzzleText.B5 : List Nat := [0, 0, 2, 6, 14, 0, 32, 110, 254, 510, 0, 1024, 3310, 8190, 16382, 32767, 65535]
theorem impl_puzzleText.tab5 : rtab .any (opsOf Tryd.f19 5) = impl_puzzleText.T5 := by kernel_rfl
theorem impl_puzzleText.bits5 : waitsOk impl_puzzleText.T5.2 impl_puzzleText.B5 = true := by kernel_rfl
set_option maxHeartbeats 8000000 in
set_option maxRecDepth 100000 in
theorem impl_puzzleText.calls (k : Nat) (a0_0 : Int) (A0_1 : Option Addr) (c0_1 : Nat) (l0_1 : List (S54)) (r : ByteArray) (w : World) (hr0_1 : Kd.C k54 w A0_1 l0_1.length l0_1) (hc0_1 : l0_1.length ≤ c0_1) (h : impl_puzzleText.f k a0_0 l0_1 = some r) :
  Calls Tryd.prog 19 #[.agg #[.int .i64 a0_0, .slice A0_1 l0_1.length c0_1]] w fun e w' => e = .returned (.string r) ∧ Below w.heap.size w w' := by
 have hu30 := Tryd.underlying30
 have hu54 := Tryd.underlying54
 have HR0_1 := Aside0.mk hr0_1
 have HC0_1 := Aside0.mk hc0_1
 clear hr0_1 hc0_1
 have HB := Aside0.mk (Below.refl w.heap.size w)
 have H : (impl_puzzleText.l0 k (([] : List ByteArray)) l0_1 (l0_1.length : Int) 0 a0_0 l0_1) = some r := h
 clear h
 obtain ⟨y189, hy189⟩ : ∃ y_ : List ByteArray, y_ = (([] : List ByteArray)) := ⟨_, rfl⟩
 rw [← hy189] at H
 have Ny189 := Aside0.mk hy189
 clear hy189
 have H' := Aside0.mk H
 clear H
 go_enter Tryd.func19, Tryd.ntmps19
 go_wp2_with (first | ((with_reducible refine gate_dst (N := 1) rfl ?_); refine zq 1 #[.int .i64 a0_0, .slice A0_1 l0_1.length c0_1] 30 ?_; intro gb188 hg w2 hbox hb; have GW188 := zG hg HB; replace HB := zH hb HB; have BK188 := Aside0.mk hbox; have GE188 := GW188; clear hb hbox hg) | ((with_reducible refine gate_dst (N := 6) rfl ?_); refine Kd.R_lit Kd.string _ 9 ?hg (N := 6) ?hd (xs := ([] : List ByteArray)) (inner := []) (ok := fun _ => True) (okp := fun _ => True) ?hr ?hp (fun _ hk => hk) trivial (Below.refl _ _) (Nat.le_refl _) (by simp) ?_; (case hd => rfl); (case hg => rfl); (case hr => first | (go_simp; done) | (go_simp; rfl)); (case hp => exact (Reps.none _ _)); intro v190 w3 ho4 hb hg_ hnew_; clear hg_ hnew_; (first | rw [← Ny189.out] at ho4 | (simp only [Int.reduceToNat] at ho4; rw [← Ny189.out] at ho4)); have HO191 := Aside0.mk (Kd.R_lower ho4 (below_size (zh HB.out))); replace BK188 := zK BK188 hb; replace HB := zH hb HB; clear hb ho4; obtain ⟨hcz5_0, hcz5_1, hfz5_0, hfz5_1⟩ := zC2 BK188))
 go_loopg [3, 10] k (fun kq v3 v10 w' => ∃ (x3_1 : List ByteArray) (x10_1 : Int), v10 = .int .i64 x10_1 ∧ Aside0 (impl_puzzleText.l0 kq x3_1 l0_1 (l0_1.length : Int) x10_1 a0_0 l0_1 = some r) ∧ Aside0 (kq ≤ k) ∧ Aside0 (Kd.R Kd.string 9 w' w.heap.size (fun _ => True) v3 x3_1) ∧ Aside0 (w'.heap[gb188]? = some (.cells #[.int .i64 a0_0, (.slice A0_1 l0_1.length c0_1)] 30 (0, 0))) ∧ Aside0 (Below w.heap.size w w'))
 case atStart => exact ⟨(y189), (0), zE, H', ⟨Nat.le_refl _⟩, ⟨zr HO191.out⟩, ⟨zb BK188.out⟩, ⟨zh HB.out⟩⟩
 case round =>
  clear H'
  try clear c1
  try clear p2
  try clear hcz5_0
  try clear hcz5_1
  try clear hfz5_0
  try clear hfz5_1
  obtain ⟨x3_1, x10_1, rfl, HA, HK1, HO_3, BK188, HB⟩ := hrel
  cases gk with
  | zero => exact absurd HA.out (by simp [impl_puzzleText.l0])
  | succ k1 =>
   have H := HA.out
   clear HA
   simp only [impl_puzzleText.l0] at H
   by_cases c6 : x10_1 < (l0_1.length : Int)
   rotate_left
   ·rw [if_neg c6] at H
    have c6b0 := decide_eq_false c6
    clear c6
    replace H := Option.bind_eq_some_iff.mp H
    obtain ⟨t200, A230, H⟩ := H
    have A23 := Aside0.mk A230
    clear A230
    by_cases c24 : t200.size + 1 ≤ 9223372036854775807
    rotate_left
    ·rw [if_neg c24] at H
     cases H
    rw [if_pos c24] at H
    have c24b0 := eq_true c24
    have c24b1 := decide_eq_true c24
    try have c24b2 : (9223372036854775807 < t200.size + 1) = False := eq_false (Nat.not_lt.2 c24)
    replace H := Option.bind_eq_some_iff.mp H
    obtain ⟨t201, A250, H⟩ := H
    have A25 := Aside0.mk A250
    clear A250
    by_cases c26 : (t200 ++ (⟨#[58]⟩ : ByteArray)).size + t201.size ≤ 9223372036854775807
    rotate_left
    ·rw [if_neg c26] at H
     cases H
    rw [if_pos c26] at H
    have c26b0 := eq_true c26
    have c26b1 := decide_eq_true c26
    try have c26b2 : (9223372036854775807 < (t200 ++ (⟨#[58]⟩ : ByteArray)).size + t201.size) = False := eq_false (Nat.not_lt.2 c26)
    try have c26b3 : (9223372036854775807 < t200.size + 1 + t201.size) = False := eq_false (Nat.not_lt.2 (by have h_ := c26; simp only [ByteArray.size_append] at h_; exact h_))
    obtain rfl := Option.some.inj H
    obtain ⟨hcz27_0, hcz27_1, hfz27_0, hfz27_1⟩ := zC2 BK188
    go_wp2_with (first | ((with_reducible refine gate_callee (f := 37) rfl ?_); refine zl 33 Tryd.func37 #[.int .i64 a0_0] ?_; (with_reducible refine (strconv_Itoa_37.calls a0_0 t200 _ A23.out).mono ?_); rintro e w' ⟨rfl, ⟨nd, rfl⟩⟩; refine ⟨_, rfl, ?_⟩; obtain ⟨Ao28, co28, eo28⟩ := Kd.R_slice HO_3.out; subst eo28) | ((with_reducible refine gate_callee (f := 38) rfl ?_); refine zl 36 Tryd.func38 #[.slice Ao28 x3_1.length co28, .string (⟨#[44]⟩ : ByteArray)] ?_; (with_reducible refine (strings_Join.calls _ _ x3_1 (⟨#[44]⟩ : ByteArray) t201 _ ?side1 ?side2 A25.out).mono ?_); (case side1 => exact zQ ((Kd.R_reads' HO_3.out).2.2)); (case side2 => exact (Kd.R_reads' HO_3.out).2.1); rintro e w29 ⟨rfl, hb⟩; refine ⟨_, rfl, ?_⟩; replace HO_3 := Aside0.mk (Kd.R_below (zr HO_3.out) hb); replace BK188 := zK BK188 hb; replace HB := zH hb HB; clear hb))
    go_ret
    exact ⟨by first | rfl | (simp [*, errW_none, errW_some] <;> rfl), zh HB.out⟩
   rw [if_pos c6] at H
   have c6b0 := decide_eq_true c6
   clear c6
   by_cases c7 : 0 ≤ x10_1
   rotate_left
   ·rw [if_neg c7] at H
    cases H
   rw [if_pos c7] at H
   have c7b0 := decide_eq_true c7
   clear c7
   by_cases c8 : x10_1 < (l0_1.length : Int)
   rotate_left
   ·rw [if_neg c8] at H
    cases H
   rw [if_pos c8] at H
   have c8b0 := decide_eq_true c8
   clear c8
   replace H := Option.bind_eq_some_iff.mp H
   obtain ⟨t194, A90, H⟩ := H
   have A9 := Aside0.mk A90
   clear A90
   by_cases c10 : t194.size + 1 ≤ 9223372036854775807
   rotate_left
   ·rw [if_neg c10] at H
    cases H
   rw [if_pos c10] at H
   have c10b0 := eq_true c10
   have c10b1 := decide_eq_true c10
   try have c10b2 : (9223372036854775807 < t194.size + 1) = False := eq_false (Nat.not_lt.2 c10)
   replace H := Option.bind_eq_some_iff.mp H
   obtain ⟨t195, A110, H⟩ := H
   have A11 := Aside0.mk A110
   clear A110
   by_cases c12 : (t194 ++ (⟨#[46]⟩ : ByteArray)).size + t195.size ≤ 9223372036854775807
   rotate_left
   ·rw [if_neg c12] at H
    cases H
   rw [if_pos c12] at H
   have c12b0 := eq_true c12
   have c12b1 := decide_eq_true c12
   try have c12b2 : (9223372036854775807 < (t194 ++ (⟨#[46]⟩ : ByteArray)).size + t195.size) = False := eq_false (Nat.not_lt.2 c12)
   try have c12b3 : (9223372036854775807 < t194.size + 1 + t195.size) = False := eq_false (Nat.not_lt.2 (by have h_ := c12; simp only [ByteArray.size_append] at h_; exact h_))
   by_cases c13 : ((t194 ++ (⟨#[46]⟩ : ByteArray)) ++ t195).size + 1 ≤ 9223372036854775807
   rotate_left
   ·rw [if_neg c13] at H
    cases H
   rw [if_pos c13] at H
   have c13b0 := eq_true c13
   have c13b1 := decide_eq_true c13
   try have c13b2 : (9223372036854775807 < ((t194 ++ (⟨#[46]⟩ : ByteArray)) ++ t195).size + 1) = False := eq_false (Nat.not_lt.2 c13)
   try have c13b3 : (9223372036854775807 < t194.size + 1 + t195.size + 1) = False := eq_false (Nat.not_lt.2 (by have h_ := c13; simp only [ByteArray.size_append] at h_; exact h_))
   replace H := Option.bind_eq_some_iff.mp H
   obtain ⟨t196, A140, H⟩ := H
   have A14 := Aside0.mk A140
   clear A140
   by_cases c15 : (((t194 ++ (⟨#[46]⟩ : ByteArray)) ++ t195) ++ (⟨#[46]⟩ : ByteArray)).size + t196.size ≤ 9223372036854775807
   rotate_left
   ·rw [if_neg c15] at H
    cases H
   rw [if_pos c15] at H
   have c15b0 := eq_true c15
   have c15b1 := decide_eq_true c15
   try have c15b2 : (9223372036854775807 < (((t194 ++ (⟨#[46]⟩ : ByteArray)) ++ t195) ++ (⟨#[46]⟩ : ByteArray)).size + t196.size) = False := eq_false (Nat.not_lt.2 c15)
   try have c15b3 : (9223372036854775807 < t194.size + 1 + t195.size + 1 + t196.size) = False := eq_false (Nat.not_lt.2 (by have h_ := c15; simp only [ByteArray.size_append] at h_; exact h_))
   by_cases c16 : x3_1.length < 8796093022208
   rotate_left
   ·rw [if_neg c16] at H
    cases H
   rw [if_pos c16] at H
   have LMc16 := Aside0.mk c16
   clear c16
   obtain ⟨y197, hy197⟩ : ∃ y_ : List ByteArray, y_ = (x3_1 ++ [(((t194 ++ (⟨#[46]⟩ : ByteArray)) ++ t195) ++ (⟨#[46]⟩ : ByteArray)) ++ t196]) := ⟨_, rfl⟩
   rw [← hy197] at H
   have Ny197 := Aside0.mk hy197
   clear hy197
   have H' := Aside0.mk H
   clear H
   obtain ⟨⟨ad192, e192, hx192_0, hx192_1, hx192_2⟩, p192, q192⟩ := zW (at_T54 HR0_1.out x10_1)
   cases e192
   replace hx192_0 := zx HB.out hx192_0
   replace hx192_1 := zx HB.out hx192_1
   replace hx192_2 := zx HB.out hx192_2
   try go_wp2_with (first | ((with_reducible refine gate_dst (N := 5) rfl ?_); refine zq 5 #[.int .i64 0, .int .i64 0, .int .i64 0] 54 ?_; intro gb193 hg w17 hbox hb; have BK193 := Aside0.mk hbox; have GW193 := zG hg HB; have GE193 := zG hg HB; have NB188_193 := zNa hg BK188; have NB193_188 := zNb hg BK188; replace HO_3 := Aside0.mk (Kd.R_below (zr HO_3.out) hb); replace BK188 := zK BK188 hb; replace HB := zH hb HB; clear hb hbox hg; have hnb18 := NB193_188.out; have hnc18 := NB188_193.out; obtain ⟨hcz19_0, hcz19_1, hcz19_2, hfz19_0, hfz19_1, hfz19_2⟩ := zC3 BK193))
   have n0_ : Aside0 (Kd.R Kd.string 9 (((w17.setCell ⟨gb193, 0, none⟩ (.int .i64 ((rd_T54 l0_1 x10_1).f0))).setCell ⟨gb193, 1, none⟩ (.int .i64 ((rd_T54 l0_1 x10_1).f1))).setCell ⟨gb193, 2, none⟩ (.int .i64 ((rd_T54 l0_1 x10_1).f2))) w.heap.size (fun _ => True) u3 x3_1) := ⟨by (with_reducible repeat (first | apply Kd.R_alloc | apply Kd.R_drewN | apply Kd.R_drew)); exact Kd.R_mono (Kd.R_far (p := ⟨gb193, 2, none⟩) (Kd.R_far (p := ⟨gb193, 1, none⟩) (Kd.R_far (p := ⟨gb193, 0, none⟩) (Kd.R_types HO_3.out BK193.out (by decide)) (fun _ hk => hk.2) (.int .i64 ((rd_T54 l0_1 x10_1).f0))) (fun _ hk => hk.2) (.int .i64 ((rd_T54 l0_1 x10_1).f1))) (fun _ hk => hk.2) (.int .i64 ((rd_T54 l0_1 x10_1).f2))) (fun _ hk => trivial)⟩
   have n1_ : Aside0 ((((w17.setCell ⟨gb193, 0, none⟩ (.int .i64 ((rd_T54 l0_1 x10_1).f0))).setCell ⟨gb193, 1, none⟩ (.int .i64 ((rd_T54 l0_1 x10_1).f1))).setCell ⟨gb193, 2, none⟩ (.int .i64 ((rd_T54 l0_1 x10_1).f2))).heap[gb188]? = some (.cells #[.int .i64 a0_0, .slice (some ad192) l0_1.length c0_1] 30 (0, 0))) := ⟨zf3 BK188.out NB188_193.out NB188_193.out NB188_193.out⟩
   have n2_ : Aside0 ((((w17.setCell ⟨gb193, 0, none⟩ (.int .i64 ((rd_T54 l0_1 x10_1).f0))).setCell ⟨gb193, 1, none⟩ (.int .i64 ((rd_T54 l0_1 x10_1).f1))).setCell ⟨gb193, 2, none⟩ (.int .i64 ((rd_T54 l0_1 x10_1).f2))).heap[gb193]? = some (.cells #[.int .i64 ((rd_T54 l0_1 x10_1).f0), .int .i64 ((rd_T54 l0_1 x10_1).f1), .int .i64 ((rd_T54 l0_1 x10_1).f2)] 54 (0, 0))) := ⟨by (with_reducible repeat (first | refine blk_drewN ?_ _ | refine blk_drew ?_ | refine blk_alloc ?_ _)); refine blk_put (cs := #[.int .i64 ((rd_T54 l0_1 x10_1).f0), .int .i64 ((rd_T54 l0_1 x10_1).f1), .int .i64 0]) ?_ 2 _ rfl; (with_reducible repeat (first | refine blk_drewN ?_ _ | refine blk_drew ?_ | refine blk_alloc ?_ _)); refine blk_put (cs := #[.int .i64 ((rd_T54 l0_1 x10_1).f0), .int .i64 0, .int .i64 0]) ?_ 1 _ rfl; (with_reducible repeat (first | refine blk_drewN ?_ _ | refine blk_drew ?_ | refine blk_alloc ?_ _)); refine blk_put (cs := #[.int .i64 0, .int .i64 0, .int .i64 0]) ?_ 0 _ rfl; (with_reducible repeat (first | refine blk_drewN ?_ _ | refine blk_drew ?_ | refine blk_alloc ?_ _)); exact BK193.out⟩
   have n3_ : Aside0 (Below w.heap.size w (((w17.setCell ⟨gb193, 0, none⟩ (.int .i64 ((rd_T54 l0_1 x10_1).f0))).setCell ⟨gb193, 1, none⟩ (.int .i64 ((rd_T54 l0_1 x10_1).f1))).setCell ⟨gb193, 2, none⟩ (.int .i64 ((rd_T54 l0_1 x10_1).f2)))) := ⟨zh HB.out⟩
   (try clear HO_3)
   (try clear BK188)
   (try clear BK193)
   (try clear HB)
   generalize (((w17.setCell ⟨gb193, 0, none⟩ (.int .i64 ((rd_T54 l0_1 x10_1).f0))).setCell ⟨gb193, 1, none⟩ (.int .i64 ((rd_T54 l0_1 x10_1).f1))).setCell ⟨gb193, 2, none⟩ (.int .i64 ((rd_T54 l0_1 x10_1).f2))) = w20 at n0_ n1_ n2_ n3_ ⊢
   have HO_3 := n0_
   have BK188 := n1_
   have BK193 := n2_
   have HB := n3_
   clear n0_ n1_ n2_ n3_
   have n0_ := Aside0.mk (Kd.R_drew HO_3.out)
   have n1_ := Aside0.mk (blk_drew BK188.out)
   have n2_ := Aside0.mk (blk_drew BK193.out)
   have n3_ := Aside0.mk (below_drew1 HB.out)
   clear HO_3 BK188 BK193 HB
   have HO_3 := n0_
   have BK188 := n1_
   have BK193 := n2_
   have HB := n3_
   clear n0_ n1_ n2_ n3_
   refine start_ (n := 17) (S := fun w' => w'.cell? ⟨gb193, 0, none⟩ = some (.int .i64 ((rd_T54 l0_1 x10_1).f0)) ∧ w'.cell? ⟨gb193, 1, none⟩ = some (.int .i64 ((rd_T54 l0_1 x10_1).f1)) ∧ w'.cell? ⟨gb193, 2, none⟩ = some (.int .i64 ((rd_T54 l0_1 x10_1).f2))) (ds := []) (tb 17 0) (by kernel_rfl) rfl rfl ⟨(blk_cell BK193.out 0).trans rfl, (blk_cell BK193.out 1).trans rfl, (blk_cell BK193.out 2).trans rfl⟩ (fun hHeld => ?_); refine with_tabW impl_puzzleText.tab5 impl_puzzleText.bits5 (fun HT_ HW_ => ?_)
   generalize w20.drew = w21 at HO_3 BK188 BK193 HB hHeld ⊢
   refine zu (i := 0) (N := some 14) (tb 17 1) rfl rfl HT_ ?_
   refine zu (i := 1) (N := some 15) (tb 17 3) rfl rfl HT_ ?_
   refine zu (i := 5) (N := some 19) (tb 17 35) rfl rfl HT_ ?_
   refine zu (i := 10) (N := some 24) (tb 17 1059) rfl rfl HT_ ?_
   refine zt (i := 2) (N := some 16) (tb 17 1063) rfl rfl (take_ofW HT_.out HW_.out (by kernel_rfl)) hHeld ?_
   refine zt (i := 6) (N := some 20) (tb 17 1127) rfl rfl (take_ofW HT_.out HW_.out (by kernel_rfl)) hHeld ?_
   refine zt (i := 11) (N := some 25) (tb 17 3175) rfl rfl (take_ofW HT_.out HW_.out (by kernel_rfl)) hHeld ?_
   refine one_ (i := 3) (N := some 17) (tb 17 3183) rfl rfl (one_of HT_.out (by kernel_rfl)) (by decide) (fun K hK => ?_)
   refine goes_ Tryd.func37 (by kernel_rfl) rfl #[.int .i64 ((rd_T54 l0_1 x10_1).f0)] (by rfl) rfl rfl (by (try simp only [List.map_toArray, List.map_cons, List.map_nil]); first | done | rfl | (simp only [List.length_drop, List.length_take]; rfl)) ?_
   with_reducible refine (strconv_Itoa_37.calls ((rd_T54 l0_1 x10_1).f0) t194 _ A9.out).mono ?_
   rintro e w' ⟨rfl, ⟨nd, rfl⟩⟩
   refine ⟨_, rfl, ?_⟩
   refine hK.out _ _ ⟨(blk_cell BK193.out 0).trans rfl, (blk_cell BK193.out 1).trans rfl, (blk_cell BK193.out 2).trans rfl⟩ (fun hHeld => ?_)
   clear hK K
   refine zn1 ?_
   refine zu (i := 4) (N := some 18) (tb 17 3199) rfl rfl HT_ ?_
   refine one_ (i := 7) (N := some 21) (tb 17 3327) rfl rfl (one_of HT_.out (by kernel_rfl)) (by decide) (fun K hK => ?_)
   refine goes_ Tryd.func37 (by kernel_rfl) rfl #[.int .i64 ((rd_T54 l0_1 x10_1).f1)] (by rfl) rfl rfl (by (try simp only [List.map_toArray, List.map_cons, List.map_nil]); first | done | rfl | (simp only [List.length_drop, List.length_take]; rfl)) ?_
   with_reducible refine (strconv_Itoa_37.calls ((rd_T54 l0_1 x10_1).f1) t195 _ A11.out).mono ?_
   rintro e w' ⟨rfl, ⟨nd, rfl⟩⟩
   refine ⟨_, rfl, ?_⟩
   refine hK.out _ _ ⟨(blk_cell BK193.out 0).trans rfl, (blk_cell BK193.out 1).trans rfl, (blk_cell BK193.out 2).trans rfl⟩ (fun hHeld => ?_)
   clear hK K
   refine zn1 ?_
   refine zu (i := 8) (N := some 22) (tb 17 3583) rfl rfl HT_ ?_
   refine zu (i := 9) (N := some 23) (tb 17 4095) rfl rfl HT_ ?_
   refine one_ (i := 12) (N := some 26) (tb 17 8191) rfl rfl (one_of HT_.out (by kernel_rfl)) (by decide) (fun K hK => ?_)
   refine goes_ Tryd.func37 (by kernel_rfl) rfl #[.int .i64 ((rd_T54 l0_1 x10_1).f2)] (by rfl) rfl rfl (by (try simp only [List.map_toArray, List.map_cons, List.map_nil]); first | done | rfl | (simp only [List.length_drop, List.length_take]; rfl)) ?_
   with_reducible refine (strconv_Itoa_37.calls ((rd_T54 l0_1 x10_1).f2) t196 _ A14.out).mono ?_
   rintro e w' ⟨rfl, ⟨nd, rfl⟩⟩
   refine ⟨_, rfl, ?_⟩
   refine hK.out _ _ ⟨(blk_cell BK193.out 0).trans rfl, (blk_cell BK193.out 1).trans rfl, (blk_cell BK193.out 2).trans rfl⟩ (fun hHeld => ?_)
   clear hK K
   refine zn1 ?_
   refine zu (i := 13) (N := some 27) (tb 17 16383) rfl rfl HT_ ?_
   refine one_ (i := 14) (N := some 28) (tb 17 32767) rfl rfl (one_of HT_.out (by kernel_rfl)) (by decide) (fun K hK => ?_)
   refine value_ (w1 := ?_) (v := ?_) (by rfl) rfl ?_ ?_
   rotate_left 2
   ·go_simp
    constructor
    ·rfl
    ·rfl
   refine hK.out _ _ ⟨(blk_cell (blk_alloc BK193.out _) 0).trans rfl, (blk_cell (blk_alloc BK193.out _) 1).trans rfl, (blk_cell (blk_alloc BK193.out _) 2).trans rfl⟩ (fun hHeld => ?_)
   clear hK K
   refine zn1 ?_
   refine one_ (i := 15) (N := some 29) (tb 17 65535) rfl rfl (one_of HT_.out (by kernel_rfl)) (by decide) (fun K hK => ?_)
   refine Kd.R_append_step Kd.string (w0 := w) w.heap.size (by rfl) (.tmp 14) (.tmp 28) 47 9 (.string ⟨#[]⟩) 16 rfl Tryd.underlying47 info9 rfl (by decide) (by omega) u3 x3_1 ((((t194 ++ (⟨#[46]⟩ : ByteArray)) ++ t195) ++ (⟨#[46]⟩ : ByteArray)) ++ t196) [.string ((((t194 ++ (⟨#[46]⟩ : ByteArray)) ++ t195) ++ (⟨#[46]⟩ : ByteArray)) ++ t196)] (fun _ => True) (fun _ => False) rfl rfl ?aP (fun _ hk => hk.elim) ?aF ?aO ?aB ?aS ?aL ?_
   (case aP => exact rfl)
   (case aB => exact (zh HB.out))
   (case aF => exact (fun _ _ => trivial))
   (case aO => exact (zr HO_3.out))
   (case aS => exact (below_size (zh HB.out)))
   (case aL => have := LMc16.out; omega)
   intro v198 w22 ho hb hg hat
   rw [← Ny197.out] at ho
   have n0_ := Aside0.mk (blk_grown (g := gb188) (o := .cells #[.int .i64 a0_0, .slice (some ad192) l0_1.length c0_1] 30 (0, 0)) (zb BK188.out) hg (Kd.R_ne HO_3.out BK188.out (by decide)))
   have n1_ := Aside0.mk (blk_grown (g := gb193) (o := .cells #[.int .i64 ((rd_T54 l0_1 x10_1).f0), .int .i64 ((rd_T54 l0_1 x10_1).f1), .int .i64 ((rd_T54 l0_1 x10_1).f2)] 54 (0, 0)) (zb BK193.out) hg (Kd.R_ne HO_3.out BK193.out (by decide)))
   have n2_ := Aside0.mk (hb)
   have n3_ := Aside0.mk (ho)
   clear BK188 BK193 HB HO_3
   have BK188 := n0_
   have BK193 := n1_
   have HB := n2_
   have HO199 := n3_
   clear n0_ n1_ n2_ n3_ ho hb hg hat
   refine hK.out _ _ ⟨(blk_cell BK193.out 0).trans rfl, (blk_cell BK193.out 1).trans rfl, (blk_cell BK193.out 2).trans rfl⟩ (fun hHeld => ?_)
   clear hK K
   refine zn1 ?_
   refine zu (i := 16) (N := some 3) (tb 17 131071) rfl rfl HT_ ?_
   refine done_ (done_of HT_.out (by kernel_rfl)) ?_
   try go_wp2
   go_roundg k1
   case measure => have := HK1.out; omega
   case rel => exact ⟨(y197), (wrap64 (x10_1 + 1)), zE, H', zO HK1, ⟨zr HO199.out⟩, ⟨zb BK188.out⟩, ⟨zh HB.out⟩⟩
end Go.Proofs.YtdoojmkndmpgdaaDoor.Q
end
section
namespace Go.Proofs.YtdoojmkndmpgdaaDoor.Q
open Go.RowKit Go.Proofs.YtdoojmkndmpgdaaDoorW.PrintWords Go.Proofs.YtdoojmkndmpgdaaDoorW.PrintLast Go.Proofs.YtdoojmkndmpgdaaDoorW.PrintMore
set_option linter.unusedVariables false
set_option linter.unusedSimpArgs false
def digs (n : Nat) : List UInt8 := if n < 10 then [UInt8.ofNat (48 + n)] else [UInt8.ofNat (48 + n / 10), UInt8.ofNat (48 + n % 10)]
theorem decDigits_small (n : Nat) (h : n < 100) : Lib.decDigits n = digs n := by
  unfold Lib.decDigits digs
  by_cases h1 : n < 10
  · rw [dif_pos h1, if_pos h1]
  · rw [dif_neg h1, if_neg h1]
    unfold Lib.decDigits
    rw [dif_pos (by omega)]
    rfl
def numB (n : Nat) : ByteArray := ⟨(digs n).toArray⟩
theorem l1Num_K : ∀ n : Nat, n < 16 → spec_l1Num.f 3 (n : Int) = some (numB n) := by decide +kernel
theorem l1Num_ev (a : Int) (h : 0 ≤ a ∧ a < 16) : Ev (fun k => spec_l1Num.f k a) (numB a.toNat) := by
  obtain ⟨n, rfl⟩ := Int.eq_ofNat_of_zero_le h.1
  rw [Int.toNat_natCast]
  exact Ev.of (spec_l1Num.mono _) (l1Num_K n (by omega))
theorem Itoa_eq (a : Int) (h : 0 ≤ a ∧ a < 16) : strconv_Itoa_37.f a = some (numB a.toNat) := by
  unfold strconv_Itoa_37.f
  rw [if_pos ⟨h.1, by omega⟩, decDigits_small _ (by omega)]
  rfl
theorem app_list (a b : ByteArray) : (a ++ b).data.toList = a.data.toList ++ b.data.toList := by simp
theorem ba_ext {a b : ByteArray} (h : a.data.toList = b.data.toList) : a = b := by
  cases a; cases b
  congr 1
  exact Array.toList_inj.1 h
theorem app_size (a b : ByteArray) : (a ++ b).size = a.size + b.size := ByteArray.size_append
theorem mk_size (x : List UInt8) : (⟨x.toArray⟩ : ByteArray).size = x.length := rfl
theorem list_size (a : ByteArray) : a.data.toList.length = a.size := rfl
theorem one_size (x : UInt8) : (⟨#[x]⟩ : ByteArray).size = 1 := rfl
theorem numB_size (n : Nat) : (numB n).size ≤ 2 := by
  unfold numB digs
  split <;> simp [ByteArray.size]
def smallC (c : S54) : Prop := (0 ≤ c.f0 ∧ c.f0 < 16) ∧ (0 ≤ c.f1 ∧ c.f1 < 16) ∧ (0 ≤ c.f2 ∧ c.f2 < 16)
def clueT (c : S54) : ByteArray := (((numB c.f0.toNat ++ (⟨#[46]⟩ : ByteArray)) ++ numB c.f1.toNat) ++ (⟨#[46]⟩ : ByteArray)) ++ numB c.f2.toNat
theorem clueT_size (c : S54) : (clueT c).size ≤ 8 := by
  unfold clueT
  simp only [app_size, one_size]
  have := numB_size c.f0.toNat
  have := numB_size c.f1.toNat
  have := numB_size c.f2.toNat
  omega
theorem sClue_ev {R : Type} (c : S54) (h : smallC c) (g : Nat → ByteArray → Option R) (r : R) (hg : Ev (fun k => g k (clueT c)) r) :
    Ev (fun k => (spec_l1Num.f k c.f0).bind fun t => (if t.size + 1 ≤ 9223372036854775807 then ((spec_l1Num.f k c.f1).bind fun t2 => (if (t ++ (⟨#[46]⟩ : ByteArray)).size + t2.size ≤ 9223372036854775807 then (if ((t ++ (⟨#[46]⟩ : ByteArray)) ++ t2).size + 1 ≤ 9223372036854775807 then ((spec_l1Num.f k c.f2).bind fun t3 => (if (((t ++ (⟨#[46]⟩ : ByteArray)) ++ t2) ++ (⟨#[46]⟩ : ByteArray)).size + t3.size ≤ 9223372036854775807 then g k ((((t ++ (⟨#[46]⟩ : ByteArray)) ++ t2) ++ (⟨#[46]⟩ : ByteArray)) ++ t3) else (none))) else (none)) else (none))) else (none))) r := by
  have h0 := numB_size c.f0.toNat
  have h1 := numB_size c.f1.toNat
  have h2 := numB_size c.f2.toNat
  refine Ev.bind (l1Num_ev _ h.1) (ev_pos (by omega) (Ev.bind (l1Num_ev _ h.2.1) (ev_pos (by simp only [app_size, one_size]; omega) (ev_pos (by simp only [app_size, one_size]; omega) (Ev.bind (l1Num_ev _ h.2.2) (ev_pos (by simp only [app_size, one_size]; omega) hg))))))
def tailT : List S54 → ByteArray → ByteArray
  | [], out => out
  | c :: l, out => tailT l ((out ++ (⟨#[44]⟩ : ByteArray)) ++ clueT c)
theorem tailT_list : ∀ (l : List S54) (out : ByteArray), (tailT l out).data.toList = out.data.toList ++ Lib.joinTail [44] (l.map fun c => (clueT c).data.toList)
  | [], out => by simp [tailT, Lib.joinTail]
  | c :: l, out => by
    rw [tailT, tailT_list l, app_list, app_list]
    simp [Lib.joinTail]
def textB (m : Int) : List S54 → ByteArray
  | [] => numB m.toNat ++ (⟨#[58]⟩ : ByteArray)
  | c :: l => tailT l ((numB m.toNat ++ (⟨#[58]⟩ : ByteArray)) ++ clueT c)
theorem pzText_ev (m : Int) (l : List S54) (hm : 0 ≤ m ∧ m < 16) (hl : l.length ≤ 8) (hs : ∀ c ∈ l, smallC c) : Ev (fun k => spec_pzText.f k m l) (textB m l) := by
  unfold spec_pzText.f
  have hn := numB_size m.toNat
  refine Ev.bind (l1Num_ev m hm) (ev_pos (by omega) ?_)
  have key := ev_rangeS l.length (fun k i (out : ByteArray) => spec_pzText.l0 k out l (l.length : Int) (i : Int)) (fun i out => tailT (l.drop i) out) (fun i out => 0 < i ∧ out.size ≤ 9 * i + 3) ?_ ?_
  · have hnum : (numB m.toNat ++ (⟨#[58]⟩ : ByteArray)).size ≤ 3 := by rw [app_size, one_size]; omega
    cases l with
    | nil =>
      refine ev_succ ?_
      simp only [spec_pzText.l0]
      exact ev_neg (by simp) (Ev.now _)
    | cons c r =>
      refine ev_succ ?_
      simp only [spec_pzText.l0]
      refine ev_pos (by simp only [List.length_cons]; omega) (ev_pos (by omega) (ev_pos (by simp only [List.length_cons]; omega) (ev_neg (by omega) ?_)))
      rw [show rd_T54 (c :: r) 0 = c from rfl]
      have hc := clueT_size c
      refine sClue_ev c (hs c List.mem_cons_self) (fun k t => if (numB m.toNat ++ (⟨#[58]⟩ : ByteArray)).size + t.size ≤ 9223372036854775807 then spec_pzText.l0 k ((numB m.toNat ++ (⟨#[58]⟩ : ByteArray)) ++ t) (c :: r) ((c :: r).length : Int) (wrap64 (0 + 1)) else none) _ (ev_pos (by omega) ?_)
      rw [show wrap64 (0 + 1) = ((1 : Nat) : Int) by rw [wrap64_id (by omega)]; rfl]
      exact ev_eqv (key 1 ((numB m.toNat ++ (⟨#[58]⟩ : ByteArray)) ++ clueT c) (by simp) ⟨by decide, by rw [app_size]; omega⟩) rfl
  · intro out _
    refine ev_succ ?_
    simp only [spec_pzText.l0]
    exact ev_neg (by omega) (ev_eqv (Ev.now _) (by rw [List.drop_length]; rfl))
  · intro i out hi hI ih
    refine ev_succ ?_
    simp only [spec_pzText.l0]
    have hc := clueT_size l[i]
    refine ev_pos (by omega) (ev_pos (by omega) (ev_pos (by omega) (ev_pos (by omega) (ev_pos (by omega) ?_))))
    rw [rdI_get hi, wrap_succ hi (by omega), List.drop_eq_getElem_cons hi]
    refine sClue_ev l[i] (hs _ (List.getElem_mem hi)) (fun k t => if (out ++ (⟨#[44]⟩ : ByteArray)).size + t.size ≤ 9223372036854775807 then spec_pzText.l0 k ((out ++ (⟨#[44]⟩ : ByteArray)) ++ t) l (l.length : Int) ((i + 1 : Nat) : Int) else none) _ (ev_pos (by simp only [app_size, one_size]; omega) ?_)
    exact ih _ ⟨by omega, by simp only [app_size, one_size]; omega⟩
theorem puzzleText_ev (m : Int) (l : List S54) (hm : 0 ≤ m ∧ m < 16) (hl : l.length ≤ 8) (hs : ∀ c ∈ l, smallC c) : Ev (fun k => impl_puzzleText.f k m l) (textB m l) := by
  unfold impl_puzzleText.f
  refine ev_rangeS l.length (fun k i (xs : List ByteArray) => impl_puzzleText.l0 k xs l (l.length : Int) (i : Int) m l) (fun _ _ => textB m l) (fun i xs => xs = (l.take i).map clueT) ?_ ?_ 0 [] (Nat.zero_le _) rfl
  · intro xs hI
    rw [List.take_length] at hI
    subst hI
    refine ev_succ ?_
    simp only [impl_puzzleText.l0, Itoa_eq m hm, Option.bind_some]
    have hn := numB_size m.toNat
    have hlen : (Lib.join ((l.map clueT).map (·.data.toList)) [44]).length ≤ 100 := by
      cases l with
      | nil => simp [Lib.join, List.intercalate]
      | cons c r =>
        rw [List.map_cons, List.map_cons, Lib.join_cons, List.length_append, Lib.joinTail_length]
        have hb : ∀ q : List S54, Lib.lens ((q.map clueT).map (·.data.toList)) ≤ 8 * q.length := by
          intro q
          induction q with
          | nil => simp [Lib.lens]
          | cons x q ih =>
            have := clueT_size x
            have e := list_size (clueT x)
            simp only [Lib.lens, List.map_cons, List.sum_cons, List.length_cons] at ih ⊢
            omega
        have := hb r
        have := clueT_size c
        have e := list_size (clueT c)
        simp only [List.length_cons, List.length_map, List.length_nil] at hl this ⊢
        omega
    refine ev_neg (by omega) (ev_pos (by omega) ?_)
    unfold strings_Join.f
    rw [if_pos ⟨by rw [List.length_map]; omega, by show (Lib.join _ [44]).length ≤ _; omega⟩, Option.bind_some]
    refine ev_pos ?_ ?_
    · simp only [app_size, one_size]
      have hj := mk_size (Lib.join ((l.map clueT).map (·.data.toList)) [44])
      omega
    · refine ev_eqv (Ev.now _) (ba_ext ?_)
      rw [app_list]
      cases l with
      | nil => simp [textB, Lib.join, List.intercalate]
      | cons c r =>
        rw [List.map_cons, List.map_cons, Lib.join_cons, textB, tailT_list, List.map_map]
        simp only [app_list, List.append_assoc]
        rfl
  · intro i xs hi hI ih
    subst hI
    refine ev_succ ?_
    have hs' := hs _ (List.getElem_mem hi)
    have h0 := numB_size l[i].f0.toNat
    have h1 := numB_size l[i].f1.toNat
    have h2 := numB_size l[i].f2.toNat
    simp only [impl_puzzleText.l0, rdI_get hi, Itoa_eq _ hs'.1, Itoa_eq _ hs'.2.1, Itoa_eq _ hs'.2.2, Option.bind_some]
    refine ev_pos (by omega) (ev_pos (by omega) (ev_pos (by omega) (ev_pos (by omega) (ev_pos (by simp only [app_size, one_size]; omega) (ev_pos (by simp only [app_size, one_size]; omega) (ev_pos (by simp only [app_size, one_size]; omega) (ev_pos (by rw [List.length_map, List.length_take]; omega) ?_)))))))
    rw [wrap_succ hi (by omega)]
    exact ih _ (by rw [List.take_add_one, List.getElem?_eq_getElem hi, List.map_append]; rfl)
theorem clueOk_small {m k a b : Int} (hm : m ≤ 4) (h : clueOk m k a b = true) : (0 ≤ k ∧ k < 16) ∧ (0 ≤ a ∧ a < 16) ∧ (0 ≤ b ∧ b < 16) := by
  have h16 : (2 : Int) ^ m.toNat ≤ 16 := by
    have : (2 : Nat) ^ m.toNat ≤ 2 ^ 4 := Nat.pow_le_pow_right (by decide) (by omega)
    have e : (2 : Int) ^ m.toNat = ((2 ^ m.toNat : Nat) : Int) := by simp
    rw [e]
    omega
  unfold clueOk at h
  repeat' (split at h)
  all_goals first | (cases h; done) | (simp only [inB_iff, Bool.and_eq_true, beq_iff_eq] at h; omega)
theorem puzzle_small {m : Int} {l : List S54} (h : puzzleOk m l = true) : (1 ≤ m ∧ m ≤ 4) ∧ l.length ≤ 8 ∧ ∀ c ∈ l, smallC c := by
  unfold puzzleOk at h
  rw [Bool.and_eq_true, Bool.and_eq_true, inB_iff] at h
  refine ⟨h.1, of_decide_eq_true h.2.1, fun c hc => clueOk_small h.1.2 (List.all_eq_true.1 h.2.2 c hc)⟩
def ly43_ren : Go.Shelf.Ren := ⟨fun | 172 => 43 | 244 => 55 | 245 => 56 | 247 => 68 | 279 => 69 | 280 => 70 | 281 => 71 | 282 => 72 | 287 => 84 | 316 => 85 | 171 => 37 | 205 => 86 | 321 => 92 | 322 => 93 | 243 => 50 | 246 => 61 | 283 => 76 | 284 => 77 | 285 => 78 | 286 => 79 | 129 => 88 | 317 => 87 | 318 => 89 | 319 => 90 | 320 => 91 | 337 => 94 | 338 => 95 | n => n, fun | 9 => 9 | 3 => 3 | 75 => 68 | 76 => 69 | 4 => 4 | 5 => 5 | 167 => 91 | 37 => 75 | 0 => 0 | 85 => 92 | 2 => 2 | 168 => 94 | 53 => 98 | 175 => 109 | 46 => 90 | 210 => 113 | 127 => 88 | 145 => 126 | 143 => 124 | 21 => 21 | 171 => 97 | 173 => 101 | 212 => 120 | 51 => 106 | 20 => 20 | 213 => 121 | 232 => 128 | 233 => 129 | 80 => 81 | n => n, fun | 15 => 1 | 16 => 2 | 17 => 5 | 18 => 6 | 19 => 7 | n => n⟩
theorem ly43 : Go.Proofs.LaysC.n172 Tryd.prog ly43_ren := {
  mixed := by kernel_rfl
  f129 := Tryd.func88.trans (congrArg some (by kernel_rfl))
  f171 := Tryd.func37.trans (congrArg some (by kernel_rfl))
  f172 := Tryd.func43.trans (congrArg some (by kernel_rfl))
  f205 := Tryd.func86.trans (congrArg some (by kernel_rfl))
  f243 := Tryd.func50.trans (congrArg some (by kernel_rfl))
  f244 := Tryd.func55.trans (congrArg some (by kernel_rfl))
  f245 := Tryd.func56.trans (congrArg some (by kernel_rfl))
  f246 := Tryd.func61.trans (congrArg some (by kernel_rfl))
  f247 := Tryd.func68.trans (congrArg some (by kernel_rfl))
  f279 := Tryd.func69.trans (congrArg some (by kernel_rfl))
  f280 := Tryd.func70.trans (congrArg some (by kernel_rfl))
  f281 := Tryd.func71.trans (congrArg some (by kernel_rfl))
  f282 := Tryd.func72.trans (congrArg some (by kernel_rfl))
  f283 := Tryd.func76.trans (congrArg some (by kernel_rfl))
  f284 := Tryd.func77.trans (congrArg some (by kernel_rfl))
  f285 := Tryd.func78.trans (congrArg some (by kernel_rfl))
  f286 := Tryd.func79.trans (congrArg some (by kernel_rfl))
  f287 := Tryd.func84.trans (congrArg some (by kernel_rfl))
  f316 := Tryd.func85.trans (congrArg some (by kernel_rfl))
  f317 := Tryd.func87.trans (congrArg some (by kernel_rfl))
  f318 := Tryd.func89.trans (congrArg some (by kernel_rfl))
  f319 := Tryd.func90.trans (congrArg some (by kernel_rfl))
  f320 := Tryd.func91.trans (congrArg some (by kernel_rfl))
  f321 := Tryd.func92.trans (congrArg some (by kernel_rfl))
  f322 := Tryd.func93.trans (congrArg some (by kernel_rfl))
  f337 := Tryd.func94.trans (congrArg some (by kernel_rfl))
  f338 := Tryd.func95.trans (congrArg some (by kernel_rfl))
  t0 := Tryd.underlying0
  a0 := Tryd.isAgg0
  z0 := Tryd.sizeOf0
  v0 := Tryd.zeroValue0
  t2 := Tryd.underlying2
  a2 := Tryd.isAgg2
  z2 := Tryd.sizeOf2
  v2 := Tryd.zeroValue2
  t3 := Tryd.underlying3
  a3 := Tryd.isAgg3
  z3 := Tryd.sizeOf3
  v3 := Tryd.zeroValue3
  t4 := Tryd.underlying4
  a4 := Tryd.isAgg4
  z4 := Tryd.sizeOf4
  v4 := Tryd.zeroValue4
  t5 := Tryd.underlying5
  a5 := Tryd.isAgg5
  z5 := Tryd.sizeOf5
  v5 := Tryd.zeroValue5
  t9 := Tryd.underlying9
  a9 := Tryd.isAgg9
  z9 := Tryd.sizeOf9
  v9 := Tryd.zeroValue9
  t20 := Tryd.underlying20
  a20 := Tryd.isAgg20
  z20 := Tryd.sizeOf20
  v20 := Tryd.zeroValue20
  t21 := Tryd.underlying21
  a21 := Tryd.isAgg21
  z21 := Tryd.sizeOf21
  v21 := Tryd.zeroValue21
  t37 := Tryd.underlying75
  a37 := Tryd.isAgg75
  z37 := Tryd.sizeOf75
  v37 := Tryd.zeroValue75
  t46 := Tryd.underlying90
  a46 := Tryd.isAgg90
  z46 := Tryd.sizeOf90
  v46 := Tryd.zeroValue90
  t51 := Tryd.underlying106
  a51 := Tryd.isAgg106
  z51 := Tryd.sizeOf106
  v51 := Tryd.zeroValue106
  t53 := Tryd.underlying98
  a53 := Tryd.isAgg98
  z53 := Tryd.sizeOf98
  v53 := Tryd.zeroValue98
  t75 := Tryd.underlying68
  a75 := Tryd.isAgg68
  z75 := Tryd.sizeOf68
  v75 := Tryd.zeroValue68
  t76 := Tryd.underlying69
  a76 := Tryd.isAgg69
  z76 := Tryd.sizeOf69
  v76 := Tryd.zeroValue69
  t85 := Tryd.underlying92
  a85 := Tryd.isAgg92
  z85 := Tryd.sizeOf92
  v85 := Tryd.zeroValue92
  t127 := Tryd.underlying88
  a127 := Tryd.isAgg88
  z127 := Tryd.sizeOf88
  v127 := Tryd.zeroValue88
  t143 := Tryd.underlying124
  a143 := Tryd.isAgg124
  z143 := Tryd.sizeOf124
  v143 := Tryd.zeroValue124
  t145 := Tryd.underlying126
  a145 := Tryd.isAgg126
  z145 := Tryd.sizeOf126
  v145 := Tryd.zeroValue126
  t167 := Tryd.underlying91
  a167 := Tryd.isAgg91
  z167 := Tryd.sizeOf91
  v167 := Tryd.zeroValue91
  t168 := Tryd.underlying94
  a168 := Tryd.isAgg94
  z168 := Tryd.sizeOf94
  v168 := Tryd.zeroValue94
  t171 := Tryd.underlying97
  a171 := Tryd.isAgg97
  z171 := Tryd.sizeOf97
  v171 := Tryd.zeroValue97
  t173 := Tryd.underlying101
  a173 := Tryd.isAgg101
  z173 := Tryd.sizeOf101
  v173 := Tryd.zeroValue101
  t175 := Tryd.underlying109
  a175 := Tryd.isAgg109
  z175 := Tryd.sizeOf109
  v175 := Tryd.zeroValue109
  t210 := Tryd.underlying113
  a210 := Tryd.isAgg113
  z210 := Tryd.sizeOf113
  v210 := Tryd.zeroValue113
  t212 := Tryd.underlying120
  a212 := Tryd.isAgg120
  z212 := Tryd.sizeOf120
  v212 := Tryd.zeroValue120
  t213 := Tryd.underlying121
  a213 := Tryd.isAgg121
  z213 := Tryd.sizeOf121
  t232 := Tryd.underlying128
  a232 := Tryd.isAgg128
  z232 := Tryd.sizeOf128
  v232 := Tryd.zeroValue128
  t233 := Tryd.underlying129
  a233 := Tryd.isAgg129
  z233 := Tryd.sizeOf129
  v233 := Tryd.zeroValue129
  g15 := by kernel_rfl
  g16 := by kernel_rfl
  g17 := by kernel_rfl
  g18 := by kernel_rfl
  g19 := by kernel_rfl
  t80 := Tryd.underlying81
  a80 := Tryd.isAgg81
  z80 := Tryd.sizeOf81
  v80 := Tryd.zeroValue81
  i0 := by kernel_rfl
  i2 := by kernel_rfl
  i3 := by kernel_rfl
  i4 := by kernel_rfl
  i5 := by kernel_rfl
  i9 := by kernel_rfl
  i20 := by kernel_rfl
  i21 := by kernel_rfl
  i37 := by kernel_rfl
  i46 := by kernel_rfl
  i51 := by kernel_rfl
  i53 := by kernel_rfl
  i75 := by kernel_rfl
  i76 := by kernel_rfl
  i80 := by kernel_rfl
  i85 := by kernel_rfl
  i127 := by kernel_rfl
  i143 := by kernel_rfl
  i145 := by kernel_rfl
  i167 := by kernel_rfl
  i168 := by kernel_rfl
  i171 := by kernel_rfl
  i173 := by kernel_rfl
  i175 := by kernel_rfl
  i210 := by kernel_rfl
  i212 := by kernel_rfl
  i232 := by kernel_rfl
  i233 := by kernel_rfl
  m15 := by kernel_rfl
  m16 := by kernel_rfl
  m17 := by kernel_rfl
  m18 := by kernel_rfl
  m19 := by kernel_rfl
  c0 := by kernel_rfl
  c2 := by kernel_rfl
  c3 := by kernel_rfl
  c4 := by kernel_rfl
  c5 := by kernel_rfl
  c9 := by kernel_rfl
  c20 := by kernel_rfl
  c21 := by kernel_rfl
  c37 := by kernel_rfl
  c46 := by kernel_rfl
  c51 := by kernel_rfl
  c53 := by kernel_rfl
  c75 := by kernel_rfl
  c76 := by kernel_rfl
  c80 := by kernel_rfl
  c85 := by kernel_rfl
  c127 := by kernel_rfl
  c143 := by kernel_rfl
  c145 := by kernel_rfl
  c167 := by kernel_rfl
  c168 := by kernel_rfl
  c171 := by kernel_rfl
  c173 := by kernel_rfl
  c175 := by kernel_rfl
  c210 := by kernel_rfl
  c212 := by kernel_rfl
  c213 := by kernel_rfl
  c232 := by kernel_rfl
  c233 := by kernel_rfl }
def impl_readNumber.f (a0 : ByteArray) (a1 : Int) : Option (Int × Bool) := if a0.size ≤ 281474976710656 ∧ a1 < 100 then (match Lib.atoiAll a0.data.toList with
  | .ok v => if 0 ≤ v ∧ v ≤ a1 then (if Lib.decDigits v.toNat = a0.data.toList then some (v, true) else some (0, false)) else some (0, false)
  | _ => some (0, false)) else none
theorem bytesWorld_below0 {w w' : World} {t : ByteArray} (h : w' = w ∨ ∃ t, w' = Lib.bytesWorld w 5 t) : Below w.heap.size w w' := by
  rcases h with h | ⟨t, h⟩
  · rw [h]; exact Below.refl _ _
  · rw [h]; exact Lib.bytesWorld_below ..
set_option maxHeartbeats 4000000 in
set_option maxRecDepth 20000 in
theorem impl_readNumber.calls (a0 : ByteArray) (a1 : Int) (r1 : Int) (r2 : Bool) (w : World) (h : impl_readNumber.f a0 a1 = some (r1, r2)) (hV_ : VarsOk w) : Calls Tryd.prog 23 #[.string a0, .int .i64 a1] w fun e w' => e = .returned (.tuple #[.int .i64 r1, .bool r2]) ∧ Below w.heap.size w w' := by
  unfold impl_readNumber.f at h
  split at h
  case isFalse => cases h
  rename_i hc
  obtain ⟨hsz, hm⟩ := hc
  rcases hA : Lib.atoiAll a0.data.toList with v | _ | _
  · rw [hA] at h
    dsimp only at h
    have HA := Aside0.mk hA
    clear hA
    have HS := Aside0.mk hsz
    clear hsz
    by_cases c : 0 ≤ v ∧ v ≤ a1
    · rw [if_pos c] at h
      have hw : impl_within.f v 0 a1 = some true := by unfold impl_within.f; rw [if_pos c.1, decide_eq_true c.2]
      have HWn := Aside0.mk hw
      have hi : strconv_Itoa_37.f v = some ⟨(Lib.decDigits v.toNat).toArray⟩ := by unfold strconv_Itoa_37.f; rw [if_pos ⟨c.1, by omega⟩]
      have HI := Aside0.mk hi
      clear hw hi c hm
      by_cases d : Lib.decDigits v.toNat = a0.data.toList
      · rw [if_pos d] at h
        simp only [Option.some.injEq, Prod.mk.injEq] at h
        obtain ⟨h1, h2⟩ := h
        subst h1 h2
        have hb : (Lib.decDigits v.toNat == a0.toList) = true := by simpa using (Lib.bytes_beq_iff (⟨(Lib.decDigits v.toNat).toArray⟩ : ByteArray) a0).2 (ba_ext d)
        clear d
        go_enter Tryd.func23, Tryd.ntmps23
        go_wp2_with (first | (go_at_call 43; refine (Any.strconv_Atoi_ok ly43 a0 (Nat.le_trans HS.out (by decide)) v HA.out _).mono ?_; rintro e w1 ⟨rfl, hw1⟩; have HB := Aside0.mk (bytesWorld_below0 (t := a0) hw1); clear hw1) | (go_at_call 44; refine (impl_within.calls v 0 a1 true _ HWn.out).mono ?_; rintro e w2 ⟨rfl, ⟨nd, rfl⟩⟩) | (go_at_call 37; refine (strconv_Itoa_37.calls v _ _ HI.out).mono ?_; rintro e w3 ⟨rfl, ⟨nd3, rfl⟩⟩))
        go_ret2
        exact ⟨rfl, zh HB.out⟩
      · rw [if_neg d] at h
        cases h
        have hb : (Lib.decDigits v.toNat == a0.toList) = false := by simpa using (Lib.bytes_beq_false_iff (⟨(Lib.decDigits v.toNat).toArray⟩ : ByteArray) a0).2 (fun e => d (congrArg (fun b : ByteArray => b.data.toList) e))
        clear d
        go_enter Tryd.func23, Tryd.ntmps23
        go_wp2_with (first | (go_at_call 43; refine (Any.strconv_Atoi_ok ly43 a0 (Nat.le_trans HS.out (by decide)) v HA.out _).mono ?_; rintro e w1 ⟨rfl, hw1⟩; have HB := Aside0.mk (bytesWorld_below0 (t := a0) hw1); clear hw1) | (go_at_call 44; refine (impl_within.calls v 0 a1 true _ HWn.out).mono ?_; rintro e w2 ⟨rfl, ⟨nd, rfl⟩⟩) | (go_at_call 37; refine (strconv_Itoa_37.calls v _ _ HI.out).mono ?_; rintro e w3 ⟨rfl, ⟨nd3, rfl⟩⟩))
        go_ret2
        exact ⟨rfl, zh HB.out⟩
    · rw [if_neg c] at h
      cases h
      have hw : impl_within.f v 0 a1 = some false := by
        unfold impl_within.f
        by_cases h0 : v ≥ 0
        · rw [if_pos h0, decide_eq_false (fun h1 => c ⟨h0, h1⟩)]
        · rw [if_neg h0]
      have HWn := Aside0.mk hw
      clear hw c hm
      go_enter Tryd.func23, Tryd.ntmps23
      go_wp2_with (first | (go_at_call 43; refine (Any.strconv_Atoi_ok ly43 a0 (Nat.le_trans HS.out (by decide)) v HA.out _).mono ?_; rintro e w1 ⟨rfl, hw1⟩; have HB := Aside0.mk (bytesWorld_below0 (t := a0) hw1); clear hw1) | (go_at_call 44; refine (impl_within.calls v 0 a1 false _ HWn.out).mono ?_; rintro e w2 ⟨rfl, ⟨nd, rfl⟩⟩))
      go_ret2
      exact ⟨rfl, zh HB.out⟩
  · rw [hA] at h
    cases h
    have HA := Aside0.mk hA
    clear hA
    have HS := Aside0.mk hsz
    clear hsz hm
    obtain ⟨tp, p, hv⟩ := hV_.s
    have HV := Aside0.mk hv
    clear hv hV_
    go_enter Tryd.func23, Tryd.ntmps23
    go_wp2_with (go_at_call 43; refine (Any.strconv_Atoi_syntax ly43 a0 HS.out HA.out (.iface tp p) _ HV.out (.inr ⟨tp, p, rfl⟩)).mono ?_; rintro e w1 ⟨N, rfl, hn, hN, hb⟩; have HB := Aside0.mk hb; clear hn hN hb)
    go_ret2
    exact ⟨rfl, zh HB.out⟩
  · rw [hA] at h
    cases h
    have HA := Aside0.mk hA
    clear hA
    have HS := Aside0.mk hsz
    clear hsz hm
    obtain ⟨tp, p, hv⟩ := hV_.r
    have HV := Aside0.mk hv
    clear hv hV_
    go_enter Tryd.func23, Tryd.ntmps23
    go_wp2_with (go_at_call 43; refine (Any.strconv_Atoi_range ly43 a0 HS.out HA.out (.iface tp p) _ HV.out (.inr ⟨tp, p, rfl⟩)).mono ?_; rintro e w1 ⟨N, rfl, hn, hN, hb⟩; have HB := Aside0.mk hb; clear hn hN hb)
    go_ret2
    exact ⟨rfl, zh HB.out⟩
def ly24_ren : Go.Shelf.Ren := ⟨fun | 146 => 24 | 221 => 45 | 268 => 57 | 138 => 58 | 143 => 59 | 195 => 73 | 197 => 60 | 218 => 74 | 219 => 54 | 260 => 75 | 217 => 64 | 225 => 65 | 224 => 66 | 267 => 67 | 266 => 82 | 314 => 83 | n => n, fun | 9 => 9 | 31 => 47 | 3 => 3 | 4 => 4 | 0 => 0 | 105 => 85 | 21 => 21 | 5 => 5 | 46 => 90 | 119 => 115 | 139 => 118 | 138 => 117 | 146 => 107 | 51 => 106 | n => n, fun | 1 => 0 | 3 => 3 | 4 => 4 | n => n⟩
theorem ly24 : Go.Proofs.Lays.n146 Tryd.prog ly24_ren := {
  mixed := by kernel_rfl
  f138 := Tryd.func58.trans (congrArg some (by kernel_rfl))
  f143 := Tryd.func59.trans (congrArg some (by kernel_rfl))
  f146 := Tryd.func24.trans (congrArg some (by kernel_rfl))
  f195 := Tryd.func73.trans (congrArg some (by kernel_rfl))
  f197 := Tryd.func60.trans (congrArg some (by kernel_rfl))
  f217 := Tryd.func64.trans (congrArg some (by kernel_rfl))
  f218 := Tryd.func74.trans (congrArg some (by kernel_rfl))
  f219 := Tryd.func54.trans (congrArg some (by kernel_rfl))
  f221 := Tryd.func45.trans (congrArg some (by kernel_rfl))
  f224 := Tryd.func66.trans (congrArg some (by kernel_rfl))
  f225 := Tryd.func65.trans (congrArg some (by kernel_rfl))
  f260 := Tryd.func75.trans (congrArg some (by kernel_rfl))
  f266 := Tryd.func82.trans (congrArg some (by kernel_rfl))
  f267 := Tryd.func67.trans (congrArg some (by kernel_rfl))
  f268 := Tryd.func57.trans (congrArg some (by kernel_rfl))
  f314 := Tryd.func83.trans (congrArg some (by kernel_rfl))
  t0 := Tryd.underlying0
  a0 := Tryd.isAgg0
  z0 := Tryd.sizeOf0
  v0 := Tryd.zeroValue0
  t3 := Tryd.underlying3
  a3 := Tryd.isAgg3
  z3 := Tryd.sizeOf3
  v3 := Tryd.zeroValue3
  t4 := Tryd.underlying4
  a4 := Tryd.isAgg4
  z4 := Tryd.sizeOf4
  v4 := Tryd.zeroValue4
  t5 := Tryd.underlying5
  a5 := Tryd.isAgg5
  z5 := Tryd.sizeOf5
  v5 := Tryd.zeroValue5
  t9 := Tryd.underlying9
  a9 := Tryd.isAgg9
  z9 := Tryd.sizeOf9
  v9 := Tryd.zeroValue9
  t21 := Tryd.underlying21
  a21 := Tryd.isAgg21
  z21 := Tryd.sizeOf21
  v21 := Tryd.zeroValue21
  t31 := Tryd.underlying47
  a31 := Tryd.isAgg47
  z31 := Tryd.sizeOf47
  v31 := Tryd.zeroValue47
  t46 := Tryd.underlying90
  a46 := Tryd.isAgg90
  z46 := Tryd.sizeOf90
  v46 := Tryd.zeroValue90
  t51 := Tryd.underlying106
  a51 := Tryd.isAgg106
  z51 := Tryd.sizeOf106
  v51 := Tryd.zeroValue106
  t105 := Tryd.underlying85
  a105 := Tryd.isAgg85
  z105 := Tryd.sizeOf85
  v105 := Tryd.zeroValue85
  t119 := Tryd.underlying115
  a119 := Tryd.isAgg115
  z119 := Tryd.sizeOf115
  t138 := Tryd.underlying117
  a138 := Tryd.isAgg117
  z138 := Tryd.sizeOf117
  v138 := Tryd.zeroValue117
  t139 := Tryd.underlying118
  a139 := Tryd.isAgg118
  z139 := Tryd.sizeOf118
  v139 := Tryd.zeroValue118
  t146 := Tryd.underlying107
  a146 := Tryd.isAgg107
  z146 := Tryd.sizeOf107
  v146 := Tryd.zeroValue107
  g1 := by kernel_rfl
  g3 := by kernel_rfl
  g4 := by kernel_rfl }
theorem info_str : (Tryd.prog.info? 9).map (fun i => (i.zero, i.size, i.bytes)) = some (some (.string ByteArray.empty), 1, 16) := by kernel_rfl
def strings_Split.f (a0 : ByteArray) (a1 : ByteArray) : Option (List ByteArray) := if a0.size < 4294967281 ∧ 1 ≤ a1.size then some (Lib.splitB a1 0 (Lib.countB a0 a1) a0) else none
theorem strings_Split.calls (a0 : ByteArray) (a1 : ByteArray) (r : List ByteArray) (w : World) (h : strings_Split.f a0 a1 = some r) (hV_ : VarsOk w) : Calls Tryd.prog 24 #[.string a0, .string a1] w fun e w' => ∃ v0_ : Value, e = .returned (v0_) ∧ Kd.R Kd.string 9 w' w.heap.size (fun _ => True) v0_ r ∧ Below w.heap.size w w' := by
  unfold strings_Split.f at h
  split at h
  · rename_i hc
    cases h
    obtain ⟨m, hm⟩ := hV_.m
    have hlen := Lib.splitB_all a1 hc.2 0 _ a0 rfl
    have hle := Lib.countB_le a1 hc.2 a0.size a0 (Nat.le_refl _)
    refine (Any.strings_Split ly24 info_str a0 a1 m w hc.1 hm hc.2).mono fun e w' ⟨he, hw⟩ => ?_
    subst hw
    refine ⟨_, he, Kd.R_of_own (enc := Value.string) (h1 := fun _ => rfl) ?_ (fun _ _ => trivial), (Below.refl _ _).alloc (Nat.le_refl _) _⟩
    rw [hlen]
    have hc1 := hc.1
    refine ⟨by simp [hlen, encs], .inr ⟨w.heap.size, Lib.countB a0 a1 + 1, _, rfl, Nat.le_refl _, blk_new _ _, Nat.le_refl _, ?_, by simp [hlen], ?_⟩⟩
    · unfold maxLen; omega
    · simp [hlen, encs, List.take_of_length_le]
  · cases h
end Go.Proofs.YtdoojmkndmpgdaaDoor.Q
end
section
namespace Go.Proofs.YtdoojmkndmpgdaaDoor.Q
open Go.RowKit Go.Proofs.YtdoojmkndmpgdaaDoorW.PrintWords Go.Proofs.YtdoojmkndmpgdaaDoorW.PrintLast Go.Proofs.YtdoojmkndmpgdaaDoorW.PrintMore
attribute [local go_sem] max2_int min2_int max_two min_two max_three min_three max_four min_four
set_option linter.unusedVariables false
set_option linter.unusedSimpArgs false
def impl_readNumbers.l0 : Nat → Int → List Int → List ByteArray → Int → Int → Option (List Int × Bool)
 | 0, _, _, _, _, _ => none
 | k + 1, x1, x6, x13, x14, x15 => if x15 < x14 then (if 0 ≤ x15 then (if x15 < (x13.length : Int) then ((impl_readNumber.f (rdOf ByteArray.empty x13 x15) x1).bind fun bt296 => (if bt296.2 = true then (if x6.length < 17592186044416 then (impl_readNumbers.l0 k x1 (x6 ++ [bt296.1]) x13 x14 (wrap64 (x15 + 1))) else (none)) else (some (([] : List Int), false)))) else (none)) else (none)) else (some (x6, true))
def impl_readNumbers.f (k : Nat) (a0 : ByteArray) (a1 : Int) : Option (List Int × Bool) := (strings_Split.f a0 (⟨#[44]⟩ : ByteArray)).bind fun t292 => (impl_readNumbers.l0 k a1 (([] : List Int)) t292 (t292.length : Int) 0)
set_option maxHeartbeats 8000000 in
set_option maxRecDepth 100000 in
theorem impl_readNumbers.calls (k : Nat) (a0 : ByteArray) (a1 : Int) (r1 : List Int) (r2 : Bool) (w : World) (h : impl_readNumbers.f k a0 a1 = some (r1, r2)) (hV_ : VarsOk w) :
  Calls Tryd.prog 25 #[.string a0, .int .i64 a1] w fun e w' => ∃ v0_ : Value, e = .returned (.tuple #[v0_, .bool r2]) ∧ Kd.R (Kd.int .i64) 3 w' w.heap.size (fun _ => True) v0_ r1 ∧ Below w.heap.size w w' := by
 have HV := Aside0.mk hV_
 clear hV_
 have HB := Aside0.mk (Below.refl w.heap.size w)
 have H : ((strings_Split.f a0 (⟨#[44]⟩ : ByteArray)).bind fun t292 => (impl_readNumbers.l0 k a1 (([] : List Int)) t292 (t292.length : Int) 0)) = some (r1, r2) := h
 clear h
 obtain ⟨y289, hy289⟩ : ∃ y_ : List Int, y_ = (([] : List Int)) := ⟨_, rfl⟩
 rw [← hy289] at H
 have Ny289 := Aside0.mk hy289
 clear hy289
 replace H := Option.bind_eq_some_iff.mp H
 obtain ⟨t292, A30, H⟩ := H
 replace H : (impl_readNumbers.l0 k a1 y289 t292 (t292.length : Int) 0) = some (r1, r2) := H
 have A3 := Aside0.mk A30
 clear A30
 have H' := Aside0.mk H
 clear H
 go_enter Tryd.func25, Tryd.ntmps25
 go_wp2_with (first | ((with_reducible refine gate_dst (N := 11) rfl ?_); refine Kd.R_lit (Kd.int .i64) _ 3 ?hg (N := 11) ?hd (xs := ([] : List Int)) (inner := []) (ok := fun _ => True) (okp := fun _ => True) ?hr ?hp (fun _ hk => hk) trivial (Below.refl _ _) (Nat.le_refl _) (by simp) ?_; (case hd => rfl); (case hg => rfl); (case hr => first | (go_simp; done) | (go_simp; rfl)); (case hp => exact (Reps.none _ _)); intro v290 w4 ho5 hb hg_ hnew_; clear hg_ hnew_; (first | rw [← Ny289.out] at ho5 | (simp only [Int.reduceToNat] at ho5; rw [← Ny289.out] at ho5)); have HO291 := Aside0.mk (Kd.R_lower ho5 (below_size (zh HB.out))); replace HB := zH hb HB; clear hb ho5) | ((with_reducible refine gate_callee (f := 24) rfl ?_); refine zl 13 Tryd.func24 #[.string a0, .string (⟨#[44]⟩ : ByteArray)] ?_; (with_reducible refine (strings_Split.calls a0 (⟨#[44]⟩ : ByteArray) t292 _ A3.out ?sideV).mono ?_); (case sideV => exact HV.out.below (zh HB.out)); rintro e w6 ⟨v293, rfl, ho0, hb⟩; refine ⟨_, rfl, ?_⟩; have HO294 := Aside0.mk (Kd.R_lower ho0 (below_size (zh HB.out))); replace HO291 := Aside0.mk (Kd.R_below (zr HO291.out) hb); replace HB := zH hb HB; clear hb; (try clear ho0); obtain ⟨Ao7, co7, eo7⟩ := Kd.R_slice HO294.out; subst eo7))
 go_loopg [6, 15] k (fun kq v6 v15 w' => ∃ (x6_1 : List Int) (x15_1 : Int), v15 = .int .i64 x15_1 ∧ Aside0 (impl_readNumbers.l0 kq a1 x6_1 t292 (t292.length : Int) x15_1 = some (r1, r2)) ∧ Aside0 (kq ≤ k) ∧ Aside0 (Kd.R (Kd.int .i64) 3 w' w.heap.size (fun _ => True) v6 x6_1) ∧ Aside0 (Kd.R Kd.string 9 w' w.heap.size (fun _ => True) (.slice Ao7 t292.length co7) t292) ∧ Aside0 (Below w.heap.size w w'))
 case atStart => exact ⟨(y289), (0), zE, H', ⟨Nat.le_refl _⟩, ⟨zr HO291.out⟩, ⟨zr HO294.out⟩, ⟨zh HB.out⟩⟩
 case round =>
  clear H'
  try clear c2
  try clear p2
  obtain ⟨x6_1, x15_1, rfl, HA, HK1, HO_6, HO_13, HB⟩ := hrel
  cases gk with
  | zero => exact absurd HA.out (by simp [impl_readNumbers.l0])
  | succ k1 =>
   have H := HA.out
   clear HA
   simp only [impl_readNumbers.l0] at H
   by_cases c8 : x15_1 < (t292.length : Int)
   rotate_left
   ·rw [if_neg c8] at H
    have c8b0 := decide_eq_false c8
    clear c8
    simp only [Option.some.injEq, Prod.mk.injEq] at H
    obtain ⟨rfl, rfl⟩ := H
    go_wp2
    go_ret2
    exact ⟨_, by first | rfl | (simp [*, errW_none, errW_some] <;> rfl), by (with_reducible repeat (first | apply Kd.R_alloc | apply Kd.R_drewN | apply Kd.R_drew)); exact HO_6.out, zh HB.out⟩
   rw [if_pos c8] at H
   have c8b0 := decide_eq_true c8
   clear c8
   by_cases c9 : 0 ≤ x15_1
   rotate_left
   ·rw [if_neg c9] at H
    cases H
   rw [if_pos c9] at H
   have c9b0 := decide_eq_true c9
   clear c9
   by_cases c10 : x15_1 < (t292.length : Int)
   rotate_left
   ·rw [if_neg c10] at H
    cases H
   rw [if_pos c10] at H
   have c10b0 := decide_eq_true c10
   clear c10
   replace H := Option.bind_eq_some_iff.mp H
   obtain ⟨⟨t296, t297⟩, A110, H⟩ := H
   replace H : (if t297 = true then (if x6_1.length < 17592186044416 then (impl_readNumbers.l0 k1 a1 (x6_1 ++ [t296]) t292 (t292.length : Int) (wrap64 (x15_1 + 1))) else (none)) else (some (([] : List Int), false))) = some (r1, r2) := H
   have A11 := Aside0.mk A110
   clear A110
   by_cases c12 : t297 = true
   rotate_left
   ·replace c12 := Bool.eq_false_iff.mpr c12
    subst c12
    rw [if_neg zF] at H
    simp only [Option.some.injEq, Prod.mk.injEq] at H
    obtain ⟨rfl, rfl⟩ := H
    obtain ⟨⟨ad295, e295, hx295_0⟩, p295, q295⟩ := zW (Kd.at_string (Kd.R_reads' HO_13.out).2.2 x15_1)
    cases e295
    go_wp2_with (first | ((with_reducible refine gate_callee (f := 23) rfl ?_); refine zl 22 Tryd.func23 #[.string (rdOf ByteArray.empty t292 x15_1), .int .i64 a1] ?_; (with_reducible refine (impl_readNumber.calls (rdOf ByteArray.empty t292 x15_1) a1 t296 false _ A11.out ?sideV).mono ?_); (case sideV => exact HV.out.below (zh HB.out)); rintro e w16 ⟨rfl, hb⟩; refine ⟨_, rfl, ?_⟩; replace HO_6 := Aside0.mk (Kd.R_below (zr HO_6.out) hb); replace HO_13 := Aside0.mk (Kd.R_below (zr HO_13.out) hb); replace HB := zH hb HB; clear hb))
    go_ret2
    exact ⟨_, by first | rfl | (simp [*, errW_none, errW_some] <;> rfl), by first | exact Kd.R_nil _ _ _ _ _ | exact Kd.N_nil _ _ _ _ _ | exact Kd.V_nil _ _ _ _ _ | exact Kd.Q_nil _ _ _ _ _ | exact Kd.S_nil _ _ _ _ _, zh HB.out⟩
   subst c12
   rw [if_pos rfl] at H
   by_cases c13 : x6_1.length < 17592186044416
   rotate_left
   ·rw [if_neg c13] at H
    cases H
   rw [if_pos c13] at H
   have LMc13 := Aside0.mk c13
   clear c13
   obtain ⟨y298, hy298⟩ : ∃ y_ : List Int, y_ = (x6_1 ++ [t296]) := ⟨_, rfl⟩
   rw [← hy298] at H
   have Ny298 := Aside0.mk hy298
   clear hy298
   have H' := Aside0.mk H
   clear H
   obtain ⟨⟨ad295, e295, hx295_0⟩, p295, q295⟩ := zW (Kd.at_string (Kd.R_reads' HO_13.out).2.2 x15_1)
   cases e295
   go_wp2_with (first | ((with_reducible refine gate_callee (f := 23) rfl ?_); refine zl 22 Tryd.func23 #[.string (rdOf ByteArray.empty t292 x15_1), .int .i64 a1] ?_; (with_reducible refine (impl_readNumber.calls (rdOf ByteArray.empty t292 x15_1) a1 t296 true _ A11.out ?sideV).mono ?_); (case sideV => exact HV.out.below (zh HB.out)); rintro e w14 ⟨rfl, hb⟩; refine ⟨_, rfl, ?_⟩; replace HO_6 := Aside0.mk (Kd.R_below (zr HO_6.out) hb); replace HO_13 := Aside0.mk (Kd.R_below (zr HO_13.out) hb); replace HB := zH hb HB; clear hb) | ((with_reducible refine gate_builtin (b := .append) (xs := #[.tmp 27, .tmp 29]) rfl ?_); at_builtin; refine Kd.R_append (Kd.int .i64) (w0 := w) w.heap.size rfl (.tmp 27) (.tmp 29) 49 3 (.int .i64 0) 8 rfl Tryd.underlying49 info3 rfl (by decide) (by omega) u6 x6_1 t296 [.int .i64 t296] (fun _ => True) (fun _ => False) rfl rfl ?aP (fun _ hk => hk.elim) ?aF ?aO ?aB ?aS ?aL ?_; (case aP => exact rfl); (case aB => exact (zh HB.out)); (case aF => exact (fun _ _ => trivial)); (case aO => exact (zr HO_6.out)); (case aS => exact (below_size (zh HB.out))); (case aL => have := LMc13.out; omega); intro v299 w15 ho hb hg hat; rw [← Ny298.out] at ho; have HO300 := Aside0.mk (ho); replace HO_13 := Aside0.mk (Kd.R_over' (zr HO_13.out) (Kd.R_typed (zr HO_6.out)) (by decide) hg); replace HB := Aside0.mk (hb); clear HO_6 ho hb hg hat))
   go_roundg k1
   case measure => have := HK1.out; omega
   case rel => exact ⟨(y298), (wrap64 (x15_1 + 1)), zE, H', zO HK1, ⟨zr HO300.out⟩, ⟨zr HO_13.out⟩, ⟨zh HB.out⟩⟩
end Go.Proofs.YtdoojmkndmpgdaaDoor.Q
end
section
namespace Go.Proofs.YtdoojmkndmpgdaaDoor.Q
open Go.RowKit Go.Proofs.YtdoojmkndmpgdaaDoorW.PrintWords Go.Proofs.YtdoojmkndmpgdaaDoorW.PrintLast Go.Proofs.YtdoojmkndmpgdaaDoorW.PrintMore
set_option linter.unusedVariables false
set_option linter.unusedSimpArgs false
def ly22_ren : Go.Shelf.Ren := ⟨fun | 145 => 22 | 220 => 42 | 219 => 54 | 217 => 64 | 225 => 65 | 224 => 66 | 267 => 67 | 266 => 82 | 314 => 83 | n => n, fun | 9 => 9 | 4 => 4 | 59 => 43 | 3 => 3 | 5 => 5 | 46 => 90 | 146 => 107 | 51 => 106 | n => n, fun | 1 => 0 | n => n⟩
theorem ly22 : Go.Proofs.Lays.n145 Tryd.prog ly22_ren := {
  mixed := by kernel_rfl
  f145 := Tryd.func22.trans (congrArg some (by kernel_rfl))
  f217 := Tryd.func64.trans (congrArg some (by kernel_rfl))
  f219 := Tryd.func54.trans (congrArg some (by kernel_rfl))
  f220 := Tryd.func42.trans (congrArg some (by kernel_rfl))
  f224 := Tryd.func66.trans (congrArg some (by kernel_rfl))
  f225 := Tryd.func65.trans (congrArg some (by kernel_rfl))
  f266 := Tryd.func82.trans (congrArg some (by kernel_rfl))
  f267 := Tryd.func67.trans (congrArg some (by kernel_rfl))
  f314 := Tryd.func83.trans (congrArg some (by kernel_rfl))
  t3 := Tryd.underlying3
  a3 := Tryd.isAgg3
  z3 := Tryd.sizeOf3
  v3 := Tryd.zeroValue3
  t4 := Tryd.underlying4
  a4 := Tryd.isAgg4
  z4 := Tryd.sizeOf4
  v4 := Tryd.zeroValue4
  t5 := Tryd.underlying5
  a5 := Tryd.isAgg5
  z5 := Tryd.sizeOf5
  v5 := Tryd.zeroValue5
  t9 := Tryd.underlying9
  a9 := Tryd.isAgg9
  z9 := Tryd.sizeOf9
  v9 := Tryd.zeroValue9
  t46 := Tryd.underlying90
  a46 := Tryd.isAgg90
  z46 := Tryd.sizeOf90
  v46 := Tryd.zeroValue90
  t51 := Tryd.underlying106
  a51 := Tryd.isAgg106
  z51 := Tryd.sizeOf106
  v51 := Tryd.zeroValue106
  t59 := Tryd.underlying43
  a59 := Tryd.isAgg43
  z59 := Tryd.sizeOf43
  v59 := Tryd.zeroValue43
  t146 := Tryd.underlying107
  a146 := Tryd.isAgg107
  z146 := Tryd.sizeOf107
  v146 := Tryd.zeroValue107
  g1 := by kernel_rfl }
def strings_Cut.f (a0 : ByteArray) (a1 : ByteArray) : Option (ByteArray × ByteArray × Bool) := if a0.size < 4294967281 then some (⟨(Lib.cut a0.data.toList a1.data.toList).1.toArray⟩, ⟨(Lib.cut a0.data.toList a1.data.toList).2.1.toArray⟩, (Lib.cut a0.data.toList a1.data.toList).2.2) else none
theorem strings_Cut.calls (a0 : ByteArray) (a1 : ByteArray) (r1 : ByteArray) (r2 : ByteArray) (r3 : Bool) (w : World) (h : strings_Cut.f a0 a1 = some (r1, r2, r3)) (hV_ : VarsOk w) : Calls Tryd.prog 22 #[.string a0, .string a1] w fun e w' => e = .returned (.tuple #[.string r1, .string r2, .bool r3]) ∧ Drawn0 w w' := by
  unfold strings_Cut.f at h
  split at h
  · rename_i hc
    cases h
    obtain ⟨m, hm⟩ := hV_.m
    exact (Any.strings_Cut ly22 a0 a1 m w hc hm).mono fun e w' ⟨he, n, hw⟩ => ⟨he, ⟨n, hw⟩⟩
  · cases h
def ly26_ren : Go.Shelf.Ren := ⟨fun | 155 => 26 | 154 => 46 | 138 => 58 | 165 => 51 | 143 => 59 | 166 => 52 | 197 => 60 | 169 => 53 | 195 => 73 | 218 => 74 | 240 => 62 | 241 => 63 | 219 => 54 | 260 => 75 | 276 => 80 | 277 => 81 | 217 => 64 | 225 => 65 | 224 => 66 | 267 => 67 | 266 => 82 | 314 => 83 | n => n, fun | 9 => 9 | 3 => 3 | 4 => 4 | 72 => 79 | 0 => 0 | 76 => 69 | 105 => 85 | 21 => 21 | 5 => 5 | 70 => 77 | 20 => 20 | 37 => 75 | 75 => 68 | 127 => 88 | 164 => 103 | 46 => 90 | 119 => 115 | 139 => 118 | 138 => 117 | 146 => 107 | 51 => 106 | 80 => 81 | n => n, fun | 1 => 0 | 3 => 3 | 4 => 4 | n => n⟩
theorem ly26 : Go.Proofs.Lays.n155 Tryd.prog ly26_ren := {
  mixed := by kernel_rfl
  f138 := Tryd.func58.trans (congrArg some (by kernel_rfl))
  f143 := Tryd.func59.trans (congrArg some (by kernel_rfl))
  f154 := Tryd.func46.trans (congrArg some (by kernel_rfl))
  f155 := Tryd.func26.trans (congrArg some (by kernel_rfl))
  f165 := Tryd.func51.trans (congrArg some (by kernel_rfl))
  f166 := Tryd.func52.trans (congrArg some (by kernel_rfl))
  f169 := Tryd.func53.trans (congrArg some (by kernel_rfl))
  f195 := Tryd.func73.trans (congrArg some (by kernel_rfl))
  f197 := Tryd.func60.trans (congrArg some (by kernel_rfl))
  f217 := Tryd.func64.trans (congrArg some (by kernel_rfl))
  f218 := Tryd.func74.trans (congrArg some (by kernel_rfl))
  f219 := Tryd.func54.trans (congrArg some (by kernel_rfl))
  f224 := Tryd.func66.trans (congrArg some (by kernel_rfl))
  f225 := Tryd.func65.trans (congrArg some (by kernel_rfl))
  f240 := Tryd.func62.trans (congrArg some (by kernel_rfl))
  f241 := Tryd.func63.trans (congrArg some (by kernel_rfl))
  f260 := Tryd.func75.trans (congrArg some (by kernel_rfl))
  f266 := Tryd.func82.trans (congrArg some (by kernel_rfl))
  f267 := Tryd.func67.trans (congrArg some (by kernel_rfl))
  f276 := Tryd.func80.trans (congrArg some (by kernel_rfl))
  f277 := Tryd.func81.trans (congrArg some (by kernel_rfl))
  f314 := Tryd.func83.trans (congrArg some (by kernel_rfl))
  t0 := Tryd.underlying0
  a0 := Tryd.isAgg0
  z0 := Tryd.sizeOf0
  v0 := Tryd.zeroValue0
  t3 := Tryd.underlying3
  a3 := Tryd.isAgg3
  z3 := Tryd.sizeOf3
  v3 := Tryd.zeroValue3
  t4 := Tryd.underlying4
  a4 := Tryd.isAgg4
  z4 := Tryd.sizeOf4
  v4 := Tryd.zeroValue4
  t5 := Tryd.underlying5
  a5 := Tryd.isAgg5
  z5 := Tryd.sizeOf5
  v5 := Tryd.zeroValue5
  t9 := Tryd.underlying9
  a9 := Tryd.isAgg9
  z9 := Tryd.sizeOf9
  v9 := Tryd.zeroValue9
  t20 := Tryd.underlying20
  a20 := Tryd.isAgg20
  z20 := Tryd.sizeOf20
  v20 := Tryd.zeroValue20
  t21 := Tryd.underlying21
  a21 := Tryd.isAgg21
  z21 := Tryd.sizeOf21
  v21 := Tryd.zeroValue21
  t37 := Tryd.underlying75
  a37 := Tryd.isAgg75
  z37 := Tryd.sizeOf75
  v37 := Tryd.zeroValue75
  t46 := Tryd.underlying90
  a46 := Tryd.isAgg90
  z46 := Tryd.sizeOf90
  v46 := Tryd.zeroValue90
  t51 := Tryd.underlying106
  a51 := Tryd.isAgg106
  z51 := Tryd.sizeOf106
  v51 := Tryd.zeroValue106
  t70 := Tryd.underlying77
  a70 := Tryd.isAgg77
  z70 := Tryd.sizeOf77
  v70 := Tryd.zeroValue77
  t72 := Tryd.underlying79
  a72 := Tryd.isAgg79
  z72 := Tryd.sizeOf79
  v72 := Tryd.zeroValue79
  t75 := Tryd.underlying68
  a75 := Tryd.isAgg68
  z75 := Tryd.sizeOf68
  v75 := Tryd.zeroValue68
  t76 := Tryd.underlying69
  a76 := Tryd.isAgg69
  z76 := Tryd.sizeOf69
  v76 := Tryd.zeroValue69
  t105 := Tryd.underlying85
  a105 := Tryd.isAgg85
  z105 := Tryd.sizeOf85
  v105 := Tryd.zeroValue85
  t119 := Tryd.underlying115
  a119 := Tryd.isAgg115
  z119 := Tryd.sizeOf115
  t127 := Tryd.underlying88
  a127 := Tryd.isAgg88
  z127 := Tryd.sizeOf88
  v127 := Tryd.zeroValue88
  t138 := Tryd.underlying117
  a138 := Tryd.isAgg117
  z138 := Tryd.sizeOf117
  v138 := Tryd.zeroValue117
  t139 := Tryd.underlying118
  a139 := Tryd.isAgg118
  z139 := Tryd.sizeOf118
  v139 := Tryd.zeroValue118
  t146 := Tryd.underlying107
  a146 := Tryd.isAgg107
  z146 := Tryd.sizeOf107
  v146 := Tryd.zeroValue107
  t164 := Tryd.underlying103
  a164 := Tryd.isAgg103
  z164 := Tryd.sizeOf103
  v164 := Tryd.zeroValue103
  g1 := by kernel_rfl
  g3 := by kernel_rfl
  g4 := by kernel_rfl }
theorem repl_extra : Builder.Extra Tryd.prog ly26_ren := {
  sizeBuilder := by kernel_rfl
  liesBuilder := by kernel_rfl
  t5 := Tryd.underlying5
  a5 := Tryd.isAgg5
  z5 := Tryd.sizeOf5
  v5 := Tryd.zeroValue5
  infoByte := by kernel_rfl
  cellsByte := by kernel_rfl
  sizeByte := by kernel_rfl
  neB5 := by decide }
def strings_ReplaceAll.f (a0 : ByteArray) (a1 : ByteArray) (a2 : ByteArray) : Option ByteArray := if a0.size < 4294967281 ∧ 1 ≤ a1.size ∧ a0.size + Lib.countB a0 a1 * a2.size ≤ 140737488355328 then some ⟨(Lib.replaceAll a0.data.toList a1.data.toList a2.data.toList).toArray⟩ else none
theorem strings_ReplaceAll.calls (a0 : ByteArray) (a1 : ByteArray) (a2 : ByteArray) (r : ByteArray) (w : World) (h : strings_ReplaceAll.f a0 a1 a2 = some r) (hV_ : VarsOk w) : Calls Tryd.prog 26 #[.string a0, .string a1, .string a2] w fun e w' => e = .returned (.string r) ∧ Below w.heap.size w w' := by
  unfold strings_ReplaceAll.f at h
  split at h
  · rename_i hc
    cases h
    obtain ⟨m, hm⟩ := hV_.m
    exact Any.strings_ReplaceAll ly26 repl_extra a0 a1 a2 m w hc.1 hm hc.2.1 hc.2.2
  · cases h
end Go.Proofs.YtdoojmkndmpgdaaDoor.Q
end
section
namespace Go.Proofs.YtdoojmkndmpgdaaDoor.Q
open Go.RowKit Go.Proofs.YtdoojmkndmpgdaaDoorW.PrintWords Go.Proofs.YtdoojmkndmpgdaaDoorW.PrintLast Go.Proofs.YtdoojmkndmpgdaaDoorW.PrintMore
attribute [local go_sem] max2_int min2_int max_two min_two max_three min_three max_four min_four
set_option linter.unusedVariables false
set_option linter.unusedSimpArgs false
mutual
def impl_ParsePuzzle.j1 : Nat → ByteArray → Bool → Int → List (S54) → Option (Int × (List (S54)) × Bool)
 | 0, _, _, _, _ => none
 | k + 1, x0, x8, x308000, x308001 => if x8 = true then ((impl_IsPuzzle.f x308000 x308001).bind fun t323 => (if t323 = true then ((impl_puzzleText.f k x308000 x308001).bind fun t324 => (if t324.toList = x0.toList then (some (x308000, x308001, true)) else (some (0, ([] : List (S54)), false)))) else (some (0, ([] : List (S54)), false)))) else (some (0, ([] : List (S54)), false))
def impl_ParsePuzzle.l0 : Nat → ByteArray → ByteArray → Bool → List ByteArray → Int → Int → Int → List (S54) → Option (Int × (List (S54)) × Bool)
 | 0, _, _, _, _, _, _, _, _ => none
 | k + 1, x0, x5, x8, x28, x29, x30, x308000, x308001 => if x30 < x29 then (if 0 ≤ x30 then (if x30 < (x28.length : Int) then (if x5.toList = ([] : List UInt8) then (impl_ParsePuzzle.j1 k x0 x8 x308000 x308001) else ((strings_ReplaceAll.f (rdOf ByteArray.empty x28 x30) (⟨#[46]⟩ : ByteArray) (⟨#[44]⟩ : ByteArray)).bind fun t312 => ((impl_readNumbers.f k t312 99).bind fun bt313 => (if bt313.2 = true then (if (bt313.1.length : Int) = 3 then (if 0 < (bt313.1.length : Int) then (if 1 < (bt313.1.length : Int) then (if 2 < (bt313.1.length : Int) then (if x308001.length < 5864062014805 then (impl_ParsePuzzle.l0 k x0 x5 x8 x28 x29 (wrap64 (x30 + 1)) x308000 (x308001 ++ [(⟨rd bt313.1 0, rd bt313.1 1, rd bt313.1 2⟩ : S54)])) else (none)) else (none)) else (none)) else (none)) else (some (0, ([] : List (S54)), false))) else (some (0, ([] : List (S54)), false)))))) else (none)) else (none)) else (impl_ParsePuzzle.j1 k x0 x8 x308000 x308001)
end
def impl_ParsePuzzle.f (k : Nat) (a0 : ByteArray) : Option (Int × (List (S54)) × Bool) := (strings_Cut.f a0 (⟨#[58]⟩ : ByteArray)).bind fun bt302 => ((impl_readNumber.f bt302.1 4).bind fun bt305 => ((strings_Split.f bt302.2.1 (⟨#[44]⟩ : ByteArray)).bind fun t308 => (impl_ParsePuzzle.l0 k a0 bt302.2.1 bt305.2 t308 (t308.length : Int) 0 bt305.1 ([] : List (S54)))))
def impl_ParsePuzzle.T11 : Bool × List (List Nat × List Nat) := (true, [([], []), ([0], [0]), ([], []), ([2], [2]), ([3], [3]), ([], []), ([5], [5]), ([6], [6]), ([], []), ([8], [8]), ([9], [9]), ([4, 7, 10], [4, 7, 10]), ([11], [11]), ([1, 12], [1, 12]), ([0, 1, 2, 3, 4, 5, 6, 7, 8, 9, 10, 11, 12, 13], []), ([14, 13, 13, 0, 1, 2, 3, 4, 5, 6, 7, 8, 9, 10, 11, 12, 13], [13, 14])])
def impl_ParsePuzzle.B11 : List Nat := [0, 1, 0, 4, 12, 0, 32, 96, 0, 256, 768, 2044, 4092, 8191, 16383, 32767]
theorem impl_ParsePuzzle.tab11 : rtab .any (opsOf Tryd.f11 11) = impl_ParsePuzzle.T11 := by kernel_rfl
theorem impl_ParsePuzzle.bits11 : waitsOk impl_ParsePuzzle.T11.2 impl_ParsePuzzle.B11 = true := by kernel_rfl
set_option maxHeartbeats 8000000 in
set_option maxRecDepth 100000 in
theorem impl_ParsePuzzle.calls (k : Nat) (a0 : ByteArray) (r1 : Int) (r2 : List (S54)) (r3 : Bool) (w : World) (h : impl_ParsePuzzle.f k a0 = some (r1, r2, r3)) (hV_ : VarsOk w) :
  Calls Tryd.prog 11 #[.string a0] w fun e w' => ∃ v1_ : Value, e = .returned (.tuple #[.agg #[.int .i64 r1, v1_], .bool r3]) ∧ Kd.R k54 54 w' w.heap.size (fun _ => True) v1_ r2 ∧ Below w.heap.size w w' := by
 have HV := Aside0.mk hV_
 clear hV_
 have hu30 := Tryd.underlying30
 have hu54 := Tryd.underlying54
 have HB := Aside0.mk (Below.refl w.heap.size w)
 have H : ((strings_Cut.f a0 (⟨#[58]⟩ : ByteArray)).bind fun bt302 => ((impl_readNumber.f bt302.1 4).bind fun bt305 => ((strings_Split.f bt302.2.1 (⟨#[44]⟩ : ByteArray)).bind fun t308 => (impl_ParsePuzzle.l0 k a0 bt302.2.1 bt305.2 t308 (t308.length : Int) 0 bt305.1 ([] : List (S54)))))) = some (r1, r2, r3) := h
 clear h
 replace H := Option.bind_eq_some_iff.mp H
 obtain ⟨⟨t302, t303, t304⟩, A20, H⟩ := H
 replace H : ((impl_readNumber.f t302 4).bind fun bt305 => ((strings_Split.f t303 (⟨#[44]⟩ : ByteArray)).bind fun t308 => (impl_ParsePuzzle.l0 k a0 t303 bt305.2 t308 (t308.length : Int) 0 bt305.1 ([] : List (S54))))) = some (r1, r2, r3) := H
 have A2 := Aside0.mk A20
 clear A20
 replace H := Option.bind_eq_some_iff.mp H
 obtain ⟨⟨t305, t306⟩, A30, H⟩ := H
 replace H : ((strings_Split.f t303 (⟨#[44]⟩ : ByteArray)).bind fun t308 => (impl_ParsePuzzle.l0 k a0 t303 t306 t308 (t308.length : Int) 0 t305 ([] : List (S54)))) = some (r1, r2, r3) := H
 have A3 := Aside0.mk A30
 clear A30
 replace H := Option.bind_eq_some_iff.mp H
 obtain ⟨t308, A40, H⟩ := H
 replace H : (impl_ParsePuzzle.l0 k a0 t303 t306 t308 (t308.length : Int) 0 t305 ([] : List (S54))) = some (r1, r2, r3) := H
 have A4 := Aside0.mk A40
 clear A40
 have HC5 := Aside0.mk H
 clear H
 go_enter Tryd.func11, Tryd.ntmps11
 go_upto_block 0 with (first | ((with_reducible refine gate_dst (N := 2) rfl ?_); (try (refine gate_guard (by rfl) ?_; dsimp only)); refine zq 2 #[.int .i64 0, .slice none 0 0] 30 ?_; intro gb301 hg w6 hbox hb; have n2_ := Aside0.mk ((by rw [hg]; exact (below_size (zh HB.out)) : w.heap.size ≤ gb301)); replace HB := Aside0.mk (below_step (zh HB.out) hb); have BK301 := Aside0.mk hbox; have GW301 := n2_; have GE301 := n2_; clear n2_ hb hbox hg) | ((with_reducible refine gate_callee (f := 22) rfl ?_); refine zl 16 Tryd.func22 #[.string a0, .string (⟨#[58]⟩ : ByteArray)] ?_; (with_reducible refine (strings_Cut.calls a0 (⟨#[58]⟩ : ByteArray) t302 t303 t304 _ A2.out ?sideV).mono ?_); (case sideV => exact HV.out.below (zh HB.out)); rintro e w' ⟨rfl, ⟨nd, rfl⟩⟩; refine ⟨_, rfl, ?_⟩; (try (rw [drewN_self w6]; generalize hq_ : World.drewN w6 _ = w6; have n0_ : Aside0 (w6.heap[gb301]? = some (.cells #[.int .i64 0, .slice none 0 0] 30 (0, 0))) := ⟨by rw [← hq_]; exact (zb BK301.out)⟩; have n1_ : Aside0 (Below w.heap.size w w6) := ⟨by rw [← hq_]; exact (zh HB.out)⟩; clear BK301 HB hq_; have BK301 := n0_; have HB := n1_; clear n0_ n1_))) | ((with_reducible refine gate_callee (f := 23) rfl ?_); refine zl 22 Tryd.func23 #[.string t302, .int .i64 4] ?_; (with_reducible refine (impl_readNumber.calls t302 4 t305 t306 _ A3.out ?sideV).mono ?_); (case sideV => exact HV.out.below (zh HB.out)); rintro e w7 ⟨rfl, hb⟩; refine ⟨_, rfl, ?_⟩; have n0_ := Aside0.mk (blk_below (g := gb301) (o := .cells #[.int .i64 0, .slice none 0 0] 30 (0, 0)) (zb BK301.out) hb); have n1_ := Aside0.mk (below_step (zh HB.out) hb); clear BK301; clear HB; have BK301 := n0_; have HB := n1_; clear n0_ n1_; (try clear hb); (try clear hb2); (try clear hk); (try clear hi)) | ((with_reducible refine gate_dst (N := 9) rfl ?_); (try (refine gate_guard (by rfl) ?_; dsimp only)); refine zq 9 #[.int .i64 0, .slice none 0 0] 30 ?_; intro gb307 hg w8 hbox hb; have n0_ := Aside0.mk (blk_below (g := gb301) (o := .cells #[.int .i64 0, .slice none 0 0] 30 (0, 0)) (zb BK301.out) hb); have n1_ := Aside0.mk (below_step (zh HB.out) hb); have n2_ := Aside0.mk (hbox); have n3_ := Aside0.mk ((by rw [hg]; exact (below_size (zh HB.out)) : w.heap.size ≤ gb307)); have n4_ := Aside0.mk ((by rw [hg]; exact (below_size (zh HB.out)) : w.heap.size ≤ gb307)); have n5_ := Aside0.mk ((by rw [hg]; exact Nat.ne_of_lt (blk_lt (g := gb301) (o := .cells #[.int .i64 0, .slice none 0 0] 30 (0, 0)) (zb BK301.out)) : gb301 ≠ gb307)); have n6_ := Aside0.mk ((by rw [hg]; exact Nat.ne_of_gt (blk_lt (g := gb301) (o := .cells #[.int .i64 0, .slice none 0 0] 30 (0, 0)) (zb BK301.out)) : gb307 ≠ gb301)); clear BK301; clear HB; have BK301 := n0_; have HB := n1_; have BK307 := n2_; have GW307 := n3_; have GE307 := n4_; have NB301_307 := n5_; have NB307_301 := n6_; clear n0_ n1_ n2_ n3_ n4_ n5_ n6_; clear hb hbox hg; have hnb9 := NB307_301.out; have hnc9 := NB301_307.out; have hcz10_0 : w8.cell? ⟨gb307, 0, none⟩ = some (.int .i64 0) := (blk_cell BK307.out 0).trans rfl; have hcz10_1 : w8.cell? ⟨gb307, 1, none⟩ = some (.slice none 0 0) := (blk_cell BK307.out 1).trans rfl; have hfz10_0 := blk_frozen BK307.out 0; have hfz10_1 := blk_frozen BK307.out 1) | ((with_reducible refine gate_callee (f := 24) rfl ?_); refine zl 28 Tryd.func24 #[.string t303, .string (⟨#[44]⟩ : ByteArray)] ?_; (with_reducible refine (strings_Split.calls t303 (⟨#[44]⟩ : ByteArray) t308 _ A4.out ?sideV).mono ?_); (case sideV => exact HV.out.below (zh HB.out)); rintro e w11 ⟨v309, rfl, ho0, hb⟩; refine ⟨_, rfl, ?_⟩; have n0_ := Aside0.mk (Kd.R_lower ho0 (below_size (zh HB.out))); have n1_ := Aside0.mk (blk_below (g := gb301) (o := .cells #[.int .i64 0, .slice none 0 0] 30 (0, 0)) (zf2 BK301.out NB301_307.out NB301_307.out) hb); have n2_ := Aside0.mk (blk_below (g := gb307) (o := .cells #[.int .i64 t305, .slice none 0 0] 30 (0, 0)) (by (with_reducible repeat (first | refine blk_drewN ?_ _ | refine blk_drew ?_ | refine blk_alloc ?_ _)); refine blk_put (cs := #[.int .i64 t305, .slice none 0 0]) ?_ 1 _ rfl; (with_reducible repeat (first | refine blk_drewN ?_ _ | refine blk_drew ?_ | refine blk_alloc ?_ _)); refine blk_put (cs := #[.int .i64 0, .slice none 0 0]) ?_ 0 _ rfl; (with_reducible repeat (first | refine blk_drewN ?_ _ | refine blk_drew ?_ | refine blk_alloc ?_ _)); exact BK307.out) hb); have n3_ := Aside0.mk (below_step (zh HB.out) hb); clear BK301; clear BK307; clear HB; have HO310 := n0_; have BK301 := n1_; have BK307 := n2_; have HB := n3_; clear n0_ n1_ n2_ n3_; (try clear hb); (try clear hb2); (try clear hk); (try clear hi); (try clear ho0); obtain ⟨Ao12, co12, eo12⟩ := Kd.R_slice HO310.out; subst eo12))
 (try simp only [Act.put, List.setIfInBounds_toArray, List.set_cons_zero, List.set_cons_succ])
 go_cut [] (fun wc => ∃ (kq : Nat) (x302000_4 : Int) (x308001_4 : List (S54)) (u308001 : Value), Aside0 (impl_ParsePuzzle.j1 kq a0 t306 t305 x308001_4 = some (r1, r2, r3)) ∧ Aside0 (kq ≤ k) ∧ Aside0 (Kd.R k54 54 wc w.heap.size (fun _ => True) u308001 x308001_4) ∧ Aside0 (wc.heap[gb301]? = some (.cells #[.int .i64 x302000_4, (.slice none 0 0)] 30 (0, 0))) ∧ Aside0 (wc.heap[gb307]? = some (.cells #[.int .i64 t305, u308001] 30 (0, 0))) ∧ Aside0 (Below w.heap.size w wc))
 case first =>
  have H := HC5.out
  clear HC5
  have H' := Aside0.mk H
  clear H
  go_wp2
  go_loopg [30] k (fun kq v30 w' => ∃ (x30_1 : Int) (x302000_1 : Int) (x308001_1 : List (S54)) (u308001 : Value), v30 = .int .i64 x30_1 ∧ Aside0 (impl_ParsePuzzle.l0 kq a0 t303 t306 t308 (t308.length : Int) x30_1 t305 x308001_1 = some (r1, r2, r3)) ∧ Aside0 (kq ≤ k) ∧ Aside0 (Kd.R Kd.string 9 w' w.heap.size (fun _ => True) (.slice Ao12 t308.length co12) t308) ∧ Aside0 (Kd.R k54 54 w' w.heap.size (fun _ => True) u308001 x308001_1) ∧ Aside0 (w'.heap[gb301]? = some (.cells #[.int .i64 x302000_1, (.slice none 0 0)] 30 (0, 0))) ∧ Aside0 (w'.heap[gb307]? = some (.cells #[.int .i64 t305, u308001] 30 (0, 0))) ∧ Aside0 (Below w.heap.size w w'))
  case atStart => exact ⟨(0), (0), (([] : List (S54))), (.slice none 0 0), zE, H', ⟨Nat.le_refl _⟩, ⟨zr HO310.out⟩, ⟨by first | exact Kd.R_nil _ _ _ _ _ | exact Kd.N_nil _ _ _ _ _ | exact Kd.V_nil _ _ _ _ _ | exact Kd.Q_nil _ _ _ _ _ | exact Kd.S_nil _ _ _ _ _⟩, ⟨zb BK301.out⟩, ⟨zb BK307.out⟩, ⟨zh HB.out⟩⟩
  case round =>
   clear H'
   try clear c1
   try clear c2
   try clear p2
   try clear c9
   try clear c11
   try clear hcz10_0
   try clear hcz10_1
   try clear hfz10_0
   try clear hfz10_1
   obtain ⟨x30_1, x302000_1, x308001_1, u308001, rfl, HA, HK1, HO_28, HO_308001, BK301, BK307, HB⟩ := hrel
   cases gk with
   | zero => exact absurd HA.out (by simp [impl_ParsePuzzle.l0])
   | succ k1 =>
    have H := HA.out
    clear HA
    simp only [impl_ParsePuzzle.l0] at H
    by_cases c13 : x30_1 < (t308.length : Int)
    ·rw [if_pos c13] at H
     have c13b0 := decide_eq_true c13
     clear c13
     (first | rw [c13b0] | (simp only [i64_w, i32_w]; rw [c13b0]) | skip)
     by_cases c14 : 0 ≤ x30_1
     ·rw [if_pos c14] at H
      have c14b0 := decide_eq_true c14
      clear c14
      by_cases c15 : x30_1 < (t308.length : Int)
      ·rw [if_pos c15] at H
       have c15b0 := decide_eq_true c15
       clear c15
       by_cases c16 : t303.toList = ([] : List UInt8)
       ·rw [if_pos c16] at H
        have c16b0 := beq_iff_eq.mpr c16
        have c16b1 := bne_eq_false_iff_eq.mpr c16
        clear c16
        have H' := Aside0.mk H
        clear H
        obtain ⟨⟨ad311, e311, hx311_0⟩, p311, q311⟩ := zW (Kd.at_string (Kd.R_reads' HO_28.out).2.2 x30_1)
        cases e311
        go_wp2
        go_meet
        case rel => exact ⟨_, (x302000_1), (x308001_1), (u308001), H', ⟨by have := HK1.out; first | omega | exact Nat.le_refl _⟩, ⟨zr HO_308001.out⟩, ⟨zb BK301.out⟩, ⟨zb BK307.out⟩, ⟨zh HB.out⟩⟩
       ·rw [if_neg c16] at H
        have c16b0 := beq_eq_false_iff_ne.mpr c16
        have c16b1 := bne_iff_ne.mpr c16
        replace H := Option.bind_eq_some_iff.mp H
        obtain ⟨t312, A170, H⟩ := H
        replace H : ((impl_readNumbers.f k1 t312 99).bind fun bt313 => (if bt313.2 = true then (if (bt313.1.length : Int) = 3 then (if 0 < (bt313.1.length : Int) then (if 1 < (bt313.1.length : Int) then (if 2 < (bt313.1.length : Int) then (if x308001_1.length < 5864062014805 then (impl_ParsePuzzle.l0 k1 a0 t303 t306 t308 (t308.length : Int) (wrap64 (x30_1 + 1)) t305 (x308001_1 ++ [(⟨rd bt313.1 0, rd bt313.1 1, rd bt313.1 2⟩ : S54)])) else (none)) else (none)) else (none)) else (none)) else (some (0, ([] : List (S54)), false))) else (some (0, ([] : List (S54)), false)))) = some (r1, r2, r3) := H
        have A17 := Aside0.mk A170
        clear A170
        replace H := Option.bind_eq_some_iff.mp H
        obtain ⟨⟨t313, t314⟩, A180, H⟩ := H
        replace H : (if t314 = true then (if (t313.length : Int) = 3 then (if 0 < (t313.length : Int) then (if 1 < (t313.length : Int) then (if 2 < (t313.length : Int) then (if x308001_1.length < 5864062014805 then (impl_ParsePuzzle.l0 k1 a0 t303 t306 t308 (t308.length : Int) (wrap64 (x30_1 + 1)) t305 (x308001_1 ++ [(⟨rd t313 0, rd t313 1, rd t313 2⟩ : S54)])) else (none)) else (none)) else (none)) else (none)) else (some (0, ([] : List (S54)), false))) else (some (0, ([] : List (S54)), false))) = some (r1, r2, r3) := H
        have A18 := Aside0.mk A180
        clear A180
        by_cases c19 : t314 = true
        ·subst c19
         rw [if_pos rfl] at H
         by_cases c20 : (t313.length : Int) = 3
         ·rw [if_pos c20] at H
          have c20b0 := beq_iff_eq.mpr c20
          have c20b1 := bne_eq_false_iff_eq.mpr c20
          clear c20
          by_cases c21 : 0 < (t313.length : Int)
          ·rw [if_pos c21] at H
           have c21b0 := decide_eq_true c21
           have c21b1 : decide (0 < t313.length) = true := decide_eq_true (by omega)
           clear c21
           by_cases c22 : 1 < (t313.length : Int)
           ·rw [if_pos c22] at H
            have c22b0 := decide_eq_true c22
            have c22b1 : decide (1 < t313.length) = true := decide_eq_true (by omega)
            clear c22
            by_cases c23 : 2 < (t313.length : Int)
            ·rw [if_pos c23] at H
             have c23b0 := decide_eq_true c23
             have c23b1 : decide (2 < t313.length) = true := decide_eq_true (by omega)
             clear c23
             by_cases c24 : x308001_1.length < 5864062014805
             ·rw [if_pos c24] at H
              have LMc24 := Aside0.mk c24
              clear c24
              obtain ⟨y320, hy320⟩ : ∃ y_ : List (S54), y_ = (x308001_1 ++ [(⟨rd t313 0, rd t313 1, rd t313 2⟩ : S54)]) := ⟨_, rfl⟩
              rw [← hy320] at H
              have Ny320 := Aside0.mk hy320
              clear hy320
              have H' := Aside0.mk H
              clear H
              obtain ⟨⟨ad311, e311, hx311_0⟩, p311, q311⟩ := zW (Kd.at_string (Kd.R_reads' HO_28.out).2.2 x30_1)
              cases e311
              try go_wp2_with (first | ((with_reducible refine gate_callee (f := 26) rfl ?_); refine zl 38 Tryd.func26 #[.string (rdOf ByteArray.empty t308 x30_1), .string (⟨#[46]⟩ : ByteArray), .string (⟨#[44]⟩ : ByteArray)] ?_; (with_reducible refine (strings_ReplaceAll.calls (rdOf ByteArray.empty t308 x30_1) (⟨#[46]⟩ : ByteArray) (⟨#[44]⟩ : ByteArray) t312 _ A17.out ?sideV).mono ?_); (case sideV => exact HV.out.below (zh HB.out)); rintro e w25 ⟨rfl, hb⟩; refine ⟨_, rfl, ?_⟩; replace HO_28 := Aside0.mk (Kd.R_below (zr HO_28.out) hb); replace HO_308001 := Aside0.mk (Kd.R_below (zr HO_308001.out) hb); replace BK301 := zK BK301 hb; replace BK307 := zK BK307 hb; replace HB := zH hb HB; clear hb) | ((with_reducible refine gate_callee (f := 25) rfl ?_); refine zl 39 Tryd.func25 #[.string t312, .int .i64 99] ?_; (with_reducible refine (impl_readNumbers.calls k1 t312 99 t313 true _ A18.out ?sideV).mono ?_); (case sideV => exact HV.out.below (zh HB.out)); rintro e w26 ⟨v315, rfl, ho0, hb⟩; refine ⟨_, rfl, ?_⟩; have HO316 := Aside0.mk (Kd.R_lower ho0 (below_size (zh HB.out))); replace HO_28 := Aside0.mk (Kd.R_below (zr HO_28.out) hb); replace HO_308001 := Aside0.mk (Kd.R_below (zr HO_308001.out) hb); replace BK301 := zK BK301 hb; replace BK307 := zK BK307 hb; replace HB := zH hb HB; clear hb; (try clear ho0); obtain ⟨Ao27, co27, eo27⟩ := Kd.R_slice HO316.out; subst eo27))
              have n0_ := Aside0.mk (Kd.R_drew HO_28.out)
              have n1_ := Aside0.mk (Kd.R_drew HO_308001.out)
              have n2_ := Aside0.mk (Kd.R_drew HO316.out)
              have n3_ := Aside0.mk (blk_drew BK301.out)
              have n4_ := Aside0.mk (blk_drew BK307.out)
              have n5_ := Aside0.mk (below_drew1 HB.out)
              clear HO_28 HO_308001 HO316 BK301 BK307 HB
              have HO_28 := n0_
              have HO_308001 := n1_
              have HO316 := n2_
              have BK301 := n3_
              have BK307 := n4_
              have HB := n5_
              clear n0_ n1_ n2_ n3_ n4_ n5_
              have p317 : 0 ≤ (0 : Int) := (by omega)
              have q317 : 0 < (t313.length : Int) := zk
              obtain ⟨ad317, e317, hx317_0⟩ := Kd.at_int (Kd.R_reads' HO316.out).2.2 0 p317 q317
              cases e317
              have qi317 : (0 < t313.length) = True := eq_true (by omega)
              (try rw [show ((0 : Int)).toNat = 0 from rfl] at hx317_0)
              (try rw [Addr.add_zero'] at hx317_0)
              replace p317 := eq_true p317
              replace q317 := eq_true q317
              have p318 : 0 ≤ (1 : Int) := (by omega)
              have q318 : 1 < (t313.length : Int) := zk
              obtain ⟨ad318, e318, hx318_0⟩ := Kd.at_int (Kd.R_reads' HO316.out).2.2 1 p318 q318
              obtain rfl : ad317 = ad318 := (by injection e318)
              (try simp only [show (1 : Int).toNat = 1 from rfl, Nat.reduceMul, Nat.reduceEqDiff, Go.Addr.add, ↓reduceIte] at hx318_0)
              have qi318 : (1 < t313.length) = True := eq_true (by omega)
              (try rw [show ((1 : Int)).toNat = 1 from rfl] at hx318_0)
              replace p318 := eq_true p318
              replace q318 := eq_true q318
              have p319 : 0 ≤ (2 : Int) := (by omega)
              have q319 : 2 < (t313.length : Int) := zk
              obtain ⟨ad319, e319, hx319_0⟩ := Kd.at_int (Kd.R_reads' HO316.out).2.2 2 p319 q319
              obtain rfl : ad317 = ad319 := (by injection e319)
              (try simp only [show (2 : Int).toNat = 2 from rfl, Nat.reduceMul, Nat.reduceEqDiff, Go.Addr.add, ↓reduceIte] at hx319_0)
              have qi319 : (2 < t313.length) = True := eq_true (by omega)
              (try rw [show ((2 : Int)).toNat = 2 from rfl] at hx319_0)
              replace p319 := eq_true p319
              replace q319 := eq_true q319
              refine start_ (n := 16) (S := fun w' => w'.cell? ⟨gb307, 0, none⟩ = some (.int .i64 t305) ∧ w'.cell? ⟨gb307, 1, none⟩ = some (u308001) ∧ w'.cell? ad317 = some (.int .i64 (rd t313 0)) ∧ w'.cell? ⟨ad317.block, ad317.off + 1, none⟩ = some (.int .i64 (rd t313 1)) ∧ w'.cell? ⟨ad317.block, ad317.off + 2, none⟩ = some (.int .i64 (rd t313 2))) (ds := [13, 15]) (tb 16 0) (by kernel_rfl) rfl rfl ⟨(blk_cell BK307.out 0).trans rfl, (blk_cell BK307.out 1).trans rfl, hx317_0, hx318_0, hx319_0⟩ (fun hHeld => ?_); refine with_tabW impl_ParsePuzzle.tab11 impl_ParsePuzzle.bits11 (fun HT_ HW_ => ?_)
              generalize w26.drew = w28 at HO_28 HO_308001 HO316 BK301 BK307 HB hx317_0 hx318_0 hx319_0 hHeld ⊢
              refine zu (i := 0) (N := some 50) (tb 16 1) rfl rfl HT_ ?_
              refine zu (i := 2) (N := some 52) (tb 16 5) rfl rfl HT_ ?_
              refine zu (i := 3) (N := some 53) (tb 16 13) rfl rfl HT_ ?_
              refine zu (i := 5) (N := some 55) (tb 16 45) rfl rfl HT_ ?_
              refine zu (i := 6) (N := some 56) (tb 16 109) rfl rfl HT_ ?_
              refine zu (i := 8) (N := some 58) (tb 16 365) rfl rfl HT_ ?_
              refine zu (i := 9) (N := some 59) (tb 16 877) rfl rfl HT_ ?_
              refine zt (i := 1) (N := some 51) (tb 16 879) rfl rfl (take_ofW HT_.out HW_.out (by kernel_rfl)) hHeld ?_
              refine zt (i := 4) (N := some 54) (tb 16 895) rfl rfl (take_ofW HT_.out HW_.out (by kernel_rfl)) hHeld ?_
              refine zt (i := 7) (N := some 57) (tb 16 1023) rfl rfl (take_ofW HT_.out HW_.out (by kernel_rfl)) hHeld ?_
              refine zt (i := 10) (N := some 60) (tb 16 2047) rfl rfl (take_ofW HT_.out HW_.out (by kernel_rfl)) hHeld ?_
              refine zu (i := 11) (N := some 61) (tb 16 4095) rfl rfl HT_ ?_
              refine one_ (i := 12) (N := some 62) (tb 16 8191) rfl rfl (one_of HT_.out (by kernel_rfl)) (by decide) (fun K hK => ?_)
              refine value_ (w1 := ?_) (v := ?_) (by rfl) rfl ?_ ?_
              rotate_left 2
              ·go_simp
               constructor
               ·rfl
               ·rfl
              refine hK.out _ _ ⟨(blk_cell (blk_alloc BK307.out _) 0).trans rfl, (blk_cell (blk_alloc BK307.out _) 1).trans rfl, (World.cell?_alloc_lt _ _ _ (World.block_lt_of_cell? _ _ (hHeld.2.2.1))).trans (hHeld.2.2.1), (World.cell?_alloc_lt _ _ _ (World.block_lt_of_cell? _ _ (hHeld.2.2.2.1))).trans (hHeld.2.2.2.1), (World.cell?_alloc_lt _ _ _ (World.block_lt_of_cell? _ _ (hHeld.2.2.2.2))).trans (hHeld.2.2.2.2)⟩ (fun hHeld => ?_)
              clear hK K
              refine zn1 ?_
              refine last_ (i := 13) (N := some 63) (tb 16 16383) rfl rfl (one_of HT_.out (by kernel_rfl)) (by decide) (fun K hK => ?_)
              refine Kd.R_append_step k54 (w0 := w) w.heap.size (by rfl) (.tmp 51) (.tmp 62) 28 54 (.agg #[(.int .i64 0), (.int .i64 0), (.int .i64 0)]) 24 rfl Tryd.underlying28 info54 rfl (by decide) (by omega) u308001 x308001_1 (⟨rd t313 0, rd t313 1, rd t313 2⟩ : S54) [.int .i64 (rd t313 0), .int .i64 (rd t313 1), .int .i64 (rd t313 2)] (fun _ => True) (fun _ => False) rfl rfl ?aP (fun _ hk => hk.elim) ?aF ?aO ?aB ?aS ?aL ?_
              (case aP => exact k54_mkM _ _ _ (⟨rd t313 0, rd t313 1, rd t313 2⟩ : S54))
              (case aB => exact (zh HB.out))
              (case aF => exact (fun _ _ => trivial))
              (case aO => exact (zr HO_308001.out))
              (case aS => exact (below_size (zh HB.out)))
              (case aL => have := LMc24.out; omega)
              intro v321 w29 ho hb hg hat
              rw [← Ny320.out] at ho
              have n0_ := Aside0.mk (Kd.R_over' (zr HO_28.out) (Kd.R_typed (zr HO_308001.out)) (by decide) hg)
              have n1_ := Aside0.mk (blk_grown (g := gb301) (o := .cells #[.int .i64 x302000_1, .slice none 0 0] 30 (0, 0)) (zb BK301.out) hg (Kd.R_ne HO_308001.out BK301.out (by decide)))
              have n2_ := Aside0.mk (blk_grown (g := gb307) (o := .cells #[.int .i64 t305, u308001] 30 (0, 0)) (zb BK307.out) hg (Kd.R_ne HO_308001.out BK307.out (by decide)))
              have n3_ := Aside0.mk (Kd.R_over' (zr HO316.out) (Kd.R_typed (zr HO_308001.out)) (by decide) hg)
              have n4_ := Aside0.mk (hb)
              have n5_ := Aside0.mk (ho)
              clear HO_28 BK301 BK307 HO316 HB HO_308001
              have HO_28 := n0_
              have BK301 := n1_
              have BK307 := n2_
              have HO316 := n3_
              have HB := n4_
              have HO322 := n5_
              clear n0_ n1_ n2_ n3_ n4_ n5_ ho hb hg hat
              obtain ⟨Ao30, co30, eo30⟩ := Kd.R_slice HO322.out
              (first | subst eo30 | (injection eo30 with f1_ f2_ f3_; have f4_ := f1_.symm; have f5_ := f3_.symm; clear f1_ f2_ f3_; subst f4_; subst f5_))
              refine hK.out _ _ ?_
              clear hK K
              refine zn1 ?_
              refine zu (i := 14) (N := some 64) (tb 16 32767) rfl rfl HT_ ?_
              refine last_ (i := 15) (N := none) (tb 16 65535) rfl rfl (one_of HT_.out (by kernel_rfl)) (by decide) (fun K hK => ?_)
              have hs31 : w29.cell? ⟨gb307, 1, none⟩ = some (u308001) := (blk_cell BK307.out 1).trans rfl
              have hfs31 := blk_frozen BK307.out 1
              have hns31_0 := NB301_307.out
              have hms31_0 := NB307_301.out
              refine skip_ (w1 := ?_) (by rfl) rfl ?_ ?_
              rotate_left
              ·go_simp
               rfl
              refine hK.out _ _ ?_
              clear hK K
              refine done_ (done_of HT_.out (by kernel_rfl)) ?_
              try go_wp2
              go_roundg k1
              case measure => have := HK1.out; omega
              case rel => exact ⟨(wrap64 (x30_1 + 1)), (x302000_1), (y320), (.slice Ao30 y320.length co30), zE, H', zO HK1, ⟨by (with_reducible repeat (first | apply Kd.R_alloc | apply Kd.R_drewN | apply Kd.R_drew)); exact Kd.R_mono (Kd.R_far (p := ⟨gb307, 1, none⟩) (Kd.R_types HO_28.out BK307.out (by decide)) (fun _ hk => hk.2) (.slice Ao30 y320.length co30)) (fun _ hk => trivial)⟩, ⟨by (with_reducible repeat (first | apply Kd.R_alloc | apply Kd.R_drewN | apply Kd.R_drew)); exact Kd.R_mono (Kd.R_far (p := ⟨gb307, 1, none⟩) (Kd.R_types HO322.out BK307.out (by decide)) (fun _ hk => hk.2) (.slice Ao30 y320.length co30)) (fun _ hk => trivial)⟩, ⟨zf1 BK301.out NB301_307.out⟩, ⟨by (with_reducible repeat (first | refine blk_drewN ?_ _ | refine blk_drew ?_ | refine blk_alloc ?_ _)); refine blk_put (cs := #[.int .i64 t305, u308001]) ?_ 1 _ rfl; (with_reducible repeat (first | refine blk_drewN ?_ _ | refine blk_drew ?_ | refine blk_alloc ?_ _)); exact BK307.out⟩, ⟨zh HB.out⟩⟩
             ·rw [if_neg c24] at H
              cases H
            ·rw [if_neg c23] at H
             cases H
           ·rw [if_neg c22] at H
            cases H
          ·rw [if_neg c21] at H
           cases H
         ·rw [if_neg c20] at H
          have c20b0 := beq_eq_false_iff_ne.mpr c20
          have c20b1 := bne_iff_ne.mpr c20
          simp only [Option.some.injEq, Prod.mk.injEq] at H
          obtain ⟨rfl, rfl, rfl⟩ := H
          obtain ⟨⟨ad311, e311, hx311_0⟩, p311, q311⟩ := zW (Kd.at_string (Kd.R_reads' HO_28.out).2.2 x30_1)
          cases e311
          go_wp2_with (first | ((with_reducible refine gate_callee (f := 26) rfl ?_); refine zl 38 Tryd.func26 #[.string (rdOf ByteArray.empty t308 x30_1), .string (⟨#[46]⟩ : ByteArray), .string (⟨#[44]⟩ : ByteArray)] ?_; (with_reducible refine (strings_ReplaceAll.calls (rdOf ByteArray.empty t308 x30_1) (⟨#[46]⟩ : ByteArray) (⟨#[44]⟩ : ByteArray) t312 _ A17.out ?sideV).mono ?_); (case sideV => exact HV.out.below (zh HB.out)); rintro e w32 ⟨rfl, hb⟩; refine ⟨_, rfl, ?_⟩; replace HO_28 := Aside0.mk (Kd.R_below (zr HO_28.out) hb); replace HO_308001 := Aside0.mk (Kd.R_below (zr HO_308001.out) hb); replace BK301 := zK BK301 hb; replace BK307 := zK BK307 hb; replace HB := zH hb HB; clear hb) | ((with_reducible refine gate_callee (f := 25) rfl ?_); refine zl 39 Tryd.func25 #[.string t312, .int .i64 99] ?_; (with_reducible refine (impl_readNumbers.calls k1 t312 99 t313 true _ A18.out ?sideV).mono ?_); (case sideV => exact HV.out.below (zh HB.out)); rintro e w33 ⟨v315, rfl, ho0, hb⟩; refine ⟨_, rfl, ?_⟩; have HO316 := Aside0.mk (Kd.R_lower ho0 (below_size (zh HB.out))); replace HO_28 := Aside0.mk (Kd.R_below (zr HO_28.out) hb); replace HO_308001 := Aside0.mk (Kd.R_below (zr HO_308001.out) hb); replace BK301 := zK BK301 hb; replace BK307 := zK BK307 hb; replace HB := zH hb HB; clear hb; (try clear ho0); obtain ⟨Ao34, co34, eo34⟩ := Kd.R_slice HO316.out; subst eo34; have hnb35 := NB301_307.out; have hnc35 := NB307_301.out; obtain ⟨hcz36_0, hcz36_1, hfz36_0, hfz36_1⟩ := zC2 BK301))
          refine bodyPost_ret (results_ct rfl _ _ gb301 30 #[.int .i64 0, .slice none 0 0] (0, 0) _ rfl (by (with_reducible repeat (first | refine blk_drewN ?_ _ | refine blk_drew ?_ | refine blk_alloc ?_ _)); refine blk_put (cs := #[.int .i64 0, .slice none 0 0]) ?_ 1 _ rfl; (with_reducible repeat (first | refine blk_drewN ?_ _ | refine blk_drew ?_ | refine blk_alloc ?_ _)); refine blk_put (cs := #[.int .i64 x302000_1, .slice none 0 0]) ?_ 0 _ rfl; (with_reducible repeat (first | refine blk_drewN ?_ _ | refine blk_drew ?_ | refine blk_alloc ?_ _)); exact BK301.out) Tryd.underlying30 rfl (by kernel_rfl)) rfl ?_
          exact ⟨_, by first | rfl | (simp [*, errW_none, errW_some] <;> rfl), by first | exact Kd.R_nil _ _ _ _ _ | exact Kd.N_nil _ _ _ _ _ | exact Kd.V_nil _ _ _ _ _ | exact Kd.Q_nil _ _ _ _ _ | exact Kd.S_nil _ _ _ _ _, zh HB.out⟩
        ·replace c19 := Bool.eq_false_iff.mpr c19
         subst c19
         rw [if_neg zF] at H
         simp only [Option.some.injEq, Prod.mk.injEq] at H
         obtain ⟨rfl, rfl, rfl⟩ := H
         obtain ⟨⟨ad311, e311, hx311_0⟩, p311, q311⟩ := zW (Kd.at_string (Kd.R_reads' HO_28.out).2.2 x30_1)
         cases e311
         go_wp2_with (first | ((with_reducible refine gate_callee (f := 26) rfl ?_); refine zl 38 Tryd.func26 #[.string (rdOf ByteArray.empty t308 x30_1), .string (⟨#[46]⟩ : ByteArray), .string (⟨#[44]⟩ : ByteArray)] ?_; (with_reducible refine (strings_ReplaceAll.calls (rdOf ByteArray.empty t308 x30_1) (⟨#[46]⟩ : ByteArray) (⟨#[44]⟩ : ByteArray) t312 _ A17.out ?sideV).mono ?_); (case sideV => exact HV.out.below (zh HB.out)); rintro e w37 ⟨rfl, hb⟩; refine ⟨_, rfl, ?_⟩; replace HO_28 := Aside0.mk (Kd.R_below (zr HO_28.out) hb); replace HO_308001 := Aside0.mk (Kd.R_below (zr HO_308001.out) hb); replace BK301 := zK BK301 hb; replace BK307 := zK BK307 hb; replace HB := zH hb HB; clear hb) | ((with_reducible refine gate_callee (f := 25) rfl ?_); refine zl 39 Tryd.func25 #[.string t312, .int .i64 99] ?_; (with_reducible refine (impl_readNumbers.calls k1 t312 99 t313 false _ A18.out ?sideV).mono ?_); (case sideV => exact HV.out.below (zh HB.out)); rintro e w38 ⟨v315, rfl, ho0, hb⟩; refine ⟨_, rfl, ?_⟩; have HO316 := Aside0.mk (Kd.R_lower ho0 (below_size (zh HB.out))); replace HO_28 := Aside0.mk (Kd.R_below (zr HO_28.out) hb); replace HO_308001 := Aside0.mk (Kd.R_below (zr HO_308001.out) hb); replace BK301 := zK BK301 hb; replace BK307 := zK BK307 hb; replace HB := zH hb HB; clear hb; (try clear ho0); have hnb39 := NB301_307.out; have hnc39 := NB307_301.out; obtain ⟨hcz40_0, hcz40_1, hfz40_0, hfz40_1⟩ := zC2 BK301))
         refine bodyPost_ret (results_ct rfl _ _ gb301 30 #[.int .i64 0, .slice none 0 0] (0, 0) _ rfl (by (with_reducible repeat (first | refine blk_drewN ?_ _ | refine blk_drew ?_ | refine blk_alloc ?_ _)); refine blk_put (cs := #[.int .i64 0, .slice none 0 0]) ?_ 1 _ rfl; (with_reducible repeat (first | refine blk_drewN ?_ _ | refine blk_drew ?_ | refine blk_alloc ?_ _)); refine blk_put (cs := #[.int .i64 x302000_1, .slice none 0 0]) ?_ 0 _ rfl; (with_reducible repeat (first | refine blk_drewN ?_ _ | refine blk_drew ?_ | refine blk_alloc ?_ _)); exact BK301.out) Tryd.underlying30 rfl (by kernel_rfl)) rfl ?_
         exact ⟨_, by first | rfl | (simp [*, errW_none, errW_some] <;> rfl), by first | exact Kd.R_nil _ _ _ _ _ | exact Kd.N_nil _ _ _ _ _ | exact Kd.V_nil _ _ _ _ _ | exact Kd.Q_nil _ _ _ _ _ | exact Kd.S_nil _ _ _ _ _, zh HB.out⟩
      ·rw [if_neg c15] at H
       cases H
     ·rw [if_neg c14] at H
      cases H
    ·rw [if_neg c13] at H
     have c13b0 := decide_eq_false c13
     clear c13
     (first | rw [c13b0] | (simp only [i64_w, i32_w]; rw [c13b0]) | skip)
     have H' := Aside0.mk H
     clear H
     go_wp2
     go_meet
     case rel => exact ⟨_, (x302000_1), (x308001_1), (u308001), H', ⟨by have := HK1.out; first | omega | exact Nat.le_refl _⟩, ⟨zr HO_308001.out⟩, ⟨zb BK301.out⟩, ⟨zb BK307.out⟩, ⟨zh HB.out⟩⟩
 case rest =>
  clear HC5
  try clear c1
  try clear c2
  try clear p2
  try clear c3
  try clear p3
  try clear q3
  try clear hx3
  try clear qi3
  try clear p6
  try clear c9
  try clear c11
  try clear c13
  try clear c13b0
  try clear c14
  try clear c14b0
  try clear c15
  try clear c15b0
  try clear c16
  try clear c16b0
  try clear c16b1
  try clear c19
  try clear c20
  try clear c20b0
  try clear c20b1
  try clear c21
  try clear c21b0
  try clear c21b1
  try clear c22
  try clear c22b0
  try clear c22b1
  try clear c23
  try clear c23b0
  try clear c23b1
  try clear c24
  try clear c25
  try clear c26
  try clear p31
  try clear q31
  try clear hx31
  try clear qi31
  try clear c35
  try clear c39
  try clear hcz10_0
  try clear hcz10_1
  try clear hcz36_0
  try clear hcz36_1
  try clear hcz40_0
  try clear hcz40_1
  try clear hfz10_0
  try clear hfz10_1
  try clear hfz36_0
  try clear hfz36_1
  try clear hfz40_0
  try clear hfz40_1
  try clear hx311_0
  try clear hx317_0
  try clear hx318_0
  try clear hx319_0
  try clear p2
  try clear p311
  try clear p317
  try clear p318
  try clear p319
  try clear q311
  try clear q317
  try clear q318
  try clear q319
  obtain ⟨kq, x302000_4, x308001_4, u308001, HA, HJ4, HO_308001, BK301, BK307, HB⟩ := hcut
  cases kq with
  | zero => exact absurd HA.out (by simp [impl_ParsePuzzle.j1])
  | succ kj4 =>
   have H := HA.out
   clear HA
   simp only [impl_ParsePuzzle.j1] at H
   by_cases c41 : t306 = true
   rotate_left
   ·replace c41 := Bool.eq_false_iff.mpr c41
    subst c41
    rw [if_neg zF] at H
    simp only [Option.some.injEq, Prod.mk.injEq] at H
    obtain ⟨rfl, rfl, rfl⟩ := H
    have hnb66 := NB301_307.out
    have hnc66 := NB307_301.out
    obtain ⟨hcz67_0, hcz67_1, hfz67_0, hfz67_1⟩ := zC2 BK301
    go_wp2
    refine bodyPost_ret (results_ct rfl _ _ gb301 30 #[.int .i64 0, .slice none 0 0] (0, 0) _ rfl (by (with_reducible repeat (first | refine blk_drewN ?_ _ | refine blk_drew ?_ | refine blk_alloc ?_ _)); refine blk_put (cs := #[.int .i64 0, .slice none 0 0]) ?_ 1 _ rfl; (with_reducible repeat (first | refine blk_drewN ?_ _ | refine blk_drew ?_ | refine blk_alloc ?_ _)); refine blk_put (cs := #[.int .i64 x302000_4, .slice none 0 0]) ?_ 0 _ rfl; (with_reducible repeat (first | refine blk_drewN ?_ _ | refine blk_drew ?_ | refine blk_alloc ?_ _)); exact BK301.out) Tryd.underlying30 rfl (by kernel_rfl)) rfl ?_
    exact ⟨_, by first | rfl | (simp [*, errW_none, errW_some] <;> rfl), by first | exact Kd.R_nil _ _ _ _ _ | exact Kd.N_nil _ _ _ _ _ | exact Kd.V_nil _ _ _ _ _ | exact Kd.Q_nil _ _ _ _ _ | exact Kd.S_nil _ _ _ _ _, zh HB.out⟩
   subst c41
   rw [if_pos rfl] at H
   replace H := Option.bind_eq_some_iff.mp H
   obtain ⟨t323, A420, H⟩ := H
   replace H : (if t323 = true then ((impl_puzzleText.f kj4 t305 x308001_4).bind fun t324 => (if t324.toList = a0.toList then (some (t305, x308001_4, true)) else (some (0, ([] : List (S54)), false)))) else (some (0, ([] : List (S54)), false))) = some (r1, r2, r3) := H
   have A42 := Aside0.mk A420
   clear A420
   by_cases c43 : t323 = true
   rotate_left
   ·replace c43 := Bool.eq_false_iff.mpr c43
    subst c43
    rw [if_neg zF] at H
    simp only [Option.some.injEq, Prod.mk.injEq] at H
    obtain ⟨rfl, rfl, rfl⟩ := H
    have hnb61 := NB307_301.out
    have hnc61 := NB301_307.out
    obtain ⟨hcz62_0, hcz62_1, hfz62_0, hfz62_1⟩ := zC2 BK307
    obtain ⟨Ao63, co63, eo63⟩ := Kd.R_slice HO_308001.out
    subst eo63
    go_wp2_with (first | (go_at_call 18; (with_reducible refine (impl_IsPuzzle.calls t305 _ _ x308001_4 false _ ?side1 ?side2 A42.out).mono ?_); (case side1 => exact zQ ((Kd.R_reads' HO_308001.out).2.2)); (case side2 => exact (Kd.R_reads' HO_308001.out).2.1); rintro e w64 ⟨rfl, hb⟩; replace HO_308001 := Aside0.mk (Kd.R_below (zr HO_308001.out) hb); replace BK301 := zK BK301 hb; replace BK307 := zK BK307 hb; replace HB := zH hb HB; clear hb; obtain ⟨hcz65_0, hcz65_1, hfz65_0, hfz65_1⟩ := zC2 BK301))
    refine bodyPost_ret (results_ct rfl _ _ gb301 30 #[.int .i64 0, .slice none 0 0] (0, 0) _ rfl (by (with_reducible repeat (first | refine blk_drewN ?_ _ | refine blk_drew ?_ | refine blk_alloc ?_ _)); refine blk_put (cs := #[.int .i64 0, .slice none 0 0]) ?_ 1 _ rfl; (with_reducible repeat (first | refine blk_drewN ?_ _ | refine blk_drew ?_ | refine blk_alloc ?_ _)); refine blk_put (cs := #[.int .i64 x302000_4, .slice none 0 0]) ?_ 0 _ rfl; (with_reducible repeat (first | refine blk_drewN ?_ _ | refine blk_drew ?_ | refine blk_alloc ?_ _)); exact BK301.out) Tryd.underlying30 rfl (by kernel_rfl)) rfl ?_
    exact ⟨_, by first | rfl | (simp [*, errW_none, errW_some] <;> rfl), by first | exact Kd.R_nil _ _ _ _ _ | exact Kd.N_nil _ _ _ _ _ | exact Kd.V_nil _ _ _ _ _ | exact Kd.Q_nil _ _ _ _ _ | exact Kd.S_nil _ _ _ _ _, zh HB.out⟩
   subst c43
   rw [if_pos rfl] at H
   replace H := Option.bind_eq_some_iff.mp H
   obtain ⟨t324, A440, H⟩ := H
   replace H : (if t324.toList = a0.toList then (some (t305, x308001_4, true)) else (some (0, ([] : List (S54)), false))) = some (r1, r2, r3) := H
   have A44 := Aside0.mk A440
   clear A440
   by_cases c45 : t324.toList = a0.toList
   rotate_left
   ·rw [if_neg c45] at H
    have c45b0 := beq_eq_false_iff_ne.mpr c45
    have c45b1 := bne_iff_ne.mpr c45
    simp only [Option.some.injEq, Prod.mk.injEq] at H
    obtain ⟨rfl, rfl, rfl⟩ := H
    have hnb54 := NB307_301.out
    have hnc54 := NB301_307.out
    obtain ⟨hcz55_0, hcz55_1, hfz55_0, hfz55_1⟩ := zC2 BK307
    obtain ⟨Ao56, co56, eo56⟩ := Kd.R_slice HO_308001.out
    subst eo56
    go_wp2_with (first | (go_at_call 18; (with_reducible refine (impl_IsPuzzle.calls t305 _ _ x308001_4 true _ ?side1 ?side2 A42.out).mono ?_); (case side1 => exact zQ ((Kd.R_reads' HO_308001.out).2.2)); (case side2 => exact (Kd.R_reads' HO_308001.out).2.1); rintro e w57 ⟨rfl, hb⟩; replace HO_308001 := Aside0.mk (Kd.R_below (zr HO_308001.out) hb); replace BK301 := zK BK301 hb; replace BK307 := zK BK307 hb; replace HB := zH hb HB; clear hb; obtain ⟨hcz58_0, hcz58_1, hfz58_0, hfz58_1⟩ := zC2 BK307) | (go_at_call 19; (with_reducible refine (impl_puzzleText.calls kj4 t305 _ _ x308001_4 t324 _ ?side1 ?side2 A44.out).mono ?_); (case side1 => exact zQ ((Kd.R_reads' HO_308001.out).2.2)); (case side2 => exact (Kd.R_reads' HO_308001.out).2.1); rintro e w59 ⟨rfl, hb⟩; replace HO_308001 := Aside0.mk (Kd.R_below (zr HO_308001.out) hb); replace BK301 := zK BK301 hb; replace BK307 := zK BK307 hb; replace HB := zH hb HB; clear hb; obtain ⟨hcz60_0, hcz60_1, hfz60_0, hfz60_1⟩ := zC2 BK301))
    refine bodyPost_ret (results_ct rfl _ _ gb301 30 #[.int .i64 0, .slice none 0 0] (0, 0) _ rfl (by (with_reducible repeat (first | refine blk_drewN ?_ _ | refine blk_drew ?_ | refine blk_alloc ?_ _)); refine blk_put (cs := #[.int .i64 0, .slice none 0 0]) ?_ 1 _ rfl; (with_reducible repeat (first | refine blk_drewN ?_ _ | refine blk_drew ?_ | refine blk_alloc ?_ _)); refine blk_put (cs := #[.int .i64 x302000_4, .slice none 0 0]) ?_ 0 _ rfl; (with_reducible repeat (first | refine blk_drewN ?_ _ | refine blk_drew ?_ | refine blk_alloc ?_ _)); exact BK301.out) Tryd.underlying30 rfl (by kernel_rfl)) rfl ?_
    exact ⟨_, by first | rfl | (simp [*, errW_none, errW_some] <;> rfl), by first | exact Kd.R_nil _ _ _ _ _ | exact Kd.N_nil _ _ _ _ _ | exact Kd.V_nil _ _ _ _ _ | exact Kd.Q_nil _ _ _ _ _ | exact Kd.S_nil _ _ _ _ _, zh HB.out⟩
   rw [if_pos c45] at H
   have c45b0 := beq_iff_eq.mpr c45
   have c45b1 := bne_eq_false_iff_eq.mpr c45
   clear c45
   simp only [Option.some.injEq, Prod.mk.injEq] at H
   obtain ⟨rfl, rfl, rfl⟩ := H
   have hnb46 := NB307_301.out
   have hnc46 := NB301_307.out
   obtain ⟨hcz47_0, hcz47_1, hfz47_0, hfz47_1⟩ := zC2 BK307
   obtain ⟨Ao48, co48, eo48⟩ := Kd.R_slice HO_308001.out
   subst eo48
   go_wp2_with (first | (go_at_call 18; (with_reducible refine (impl_IsPuzzle.calls t305 _ _ x308001_4 true _ ?side1 ?side2 A42.out).mono ?_); (case side1 => exact zQ ((Kd.R_reads' HO_308001.out).2.2)); (case side2 => exact (Kd.R_reads' HO_308001.out).2.1); rintro e w49 ⟨rfl, hb⟩; replace HO_308001 := Aside0.mk (Kd.R_below (zr HO_308001.out) hb); replace BK301 := zK BK301 hb; replace BK307 := zK BK307 hb; replace HB := zH hb HB; clear hb; obtain ⟨hcz50_0, hcz50_1, hfz50_0, hfz50_1⟩ := zC2 BK307) | (go_at_call 19; (with_reducible refine (impl_puzzleText.calls kj4 t305 _ _ x308001_4 t324 _ ?side1 ?side2 A44.out).mono ?_); (case side1 => exact zQ ((Kd.R_reads' HO_308001.out).2.2)); (case side2 => exact (Kd.R_reads' HO_308001.out).2.1); rintro e w51 ⟨rfl, hb⟩; replace HO_308001 := Aside0.mk (Kd.R_below (zr HO_308001.out) hb); replace BK301 := zK BK301 hb; replace BK307 := zK BK307 hb; replace HB := zH hb HB; clear hb; obtain ⟨hcz52_0, hcz52_1, hfz52_0, hfz52_1⟩ := zC2 BK307; obtain ⟨hcz53_0, hcz53_1, hfz53_0, hfz53_1⟩ := zC2 BK301))
   refine bodyPost_ret (results_ct rfl _ _ gb301 30 #[.int .i64 t305, .slice Ao48 x308001_4.length co48] (0, 0) _ rfl (by (with_reducible repeat (first | refine blk_drewN ?_ _ | refine blk_drew ?_ | refine blk_alloc ?_ _)); refine blk_put (cs := #[.int .i64 t305, .slice none 0 0]) ?_ 1 _ rfl; (with_reducible repeat (first | refine blk_drewN ?_ _ | refine blk_drew ?_ | refine blk_alloc ?_ _)); refine blk_put (cs := #[.int .i64 x302000_4, .slice none 0 0]) ?_ 0 _ rfl; (with_reducible repeat (first | refine blk_drewN ?_ _ | refine blk_drew ?_ | refine blk_alloc ?_ _)); exact BK301.out) Tryd.underlying30 rfl (by kernel_rfl)) rfl ?_
   exact ⟨_, by first | rfl | (simp [*, errW_none, errW_some] <;> rfl), by (with_reducible repeat (first | apply Kd.R_alloc | apply Kd.R_drewN | apply Kd.R_drew)); exact Kd.R_mono (Kd.R_far (p := ⟨gb301, 1, none⟩) (Kd.R_far (p := ⟨gb301, 0, none⟩) (Kd.R_types HO_308001.out BK301.out (by decide)) (fun _ hk => hk.2) (.int .i64 t305)) (fun _ hk => hk.2) (.slice Ao48 x308001_4.length co48)) (fun _ hk => trivial), zh HB.out⟩
def laws_FnExactParsePuzzle.f (k : Nat) (a0 : ByteArray) : Option (Bool) := if (a0.size : Int) > 1048576 then (some true) else ((spec_ParsePuzzle.f k a0).bind fun bt336 => ((impl_ParsePuzzle.f k a0).bind fun bt342 => ((laws_eqPuzzle.f k bt342.1 bt342.2.1 bt336.1 bt336.2.1).bind fun t348 => (if t348 = true then (if (bt342.2.2 != bt336.2.2) = true then (none) else ((laws_markPuzzle.f k bt342.1 bt342.2.1 1).bind fun bt349 => ((laws_heldPuzzle.f k bt342.1 bt349.2 1).bind fun t351 => (if t351 < 0 then (none) else (if t351 = bt349.1 then ((impl_ParsePuzzle.f k a0).bind fun bt352 => ((laws_eqPuzzle.f k bt352.1 bt352.2.1 bt336.1 bt336.2.1).bind fun t358 => (if t358 = true then (if (bt352.2.2 != bt336.2.2) = true then (none) else ((laws_heldPuzzle.f k bt342.1 bt349.2 1).bind fun t359 => (if t359 < 0 then (none) else (if t359 = bt349.1 then (some true) else (none))))) else (none)))) else (none)))))) else (none)))))
set_option maxHeartbeats 8000000 in
set_option maxRecDepth 100000 in
theorem laws_FnExactParsePuzzle.calls (k : Nat) (a0 : ByteArray) (r : Bool) (w : World) (h : laws_FnExactParsePuzzle.f k a0 = some r) (hV_ : VarsOk w) :
  Calls Tryd.prog 4 #[.string a0] w fun e w' => e = .returned (.bool r) ∧ Below w.heap.size w w' := by
 have HV := Aside0.mk hV_
 clear hV_
 have hu30 := Tryd.underlying30
 have HB := Aside0.mk (Below.refl w.heap.size w)
 have H : (if (a0.size : Int) > 1048576 then (some true) else ((spec_ParsePuzzle.f k a0).bind fun bt336 => ((impl_ParsePuzzle.f k a0).bind fun bt342 => ((laws_eqPuzzle.f k bt342.1 bt342.2.1 bt336.1 bt336.2.1).bind fun t348 => (if t348 = true then (if (bt342.2.2 != bt336.2.2) = true then (none) else ((laws_markPuzzle.f k bt342.1 bt342.2.1 1).bind fun bt349 => ((laws_heldPuzzle.f k bt342.1 bt349.2 1).bind fun t351 => (if t351 < 0 then (none) else (if t351 = bt349.1 then ((impl_ParsePuzzle.f k a0).bind fun bt352 => ((laws_eqPuzzle.f k bt352.1 bt352.2.1 bt336.1 bt336.2.1).bind fun t358 => (if t358 = true then (if (bt352.2.2 != bt336.2.2) = true then (none) else ((laws_heldPuzzle.f k bt342.1 bt349.2 1).bind fun t359 => (if t359 < 0 then (none) else (if t359 = bt349.1 then (some true) else (none))))) else (none)))) else (none)))))) else (none)))))) = some r := h
 clear h
 by_cases c2 : (a0.size : Int) > 1048576
 ·rw [if_pos c2] at H
  have c2b0 := decide_eq_true c2
  have c2b1 : decide (1048576 < a0.size) = true := decide_eq_true (by omega)
  clear c2
  obtain rfl := Option.some.inj H
  go_enter Tryd.func4, Tryd.ntmps4
  go_wp2
  go_ret
  exact ⟨by first | rfl | (simp [*, errW_none, errW_some] <;> rfl), zh HB.out⟩
 rw [if_neg c2] at H
 have c2b0 := decide_eq_false c2
 have c2b1 : decide (1048576 < a0.size) = false := decide_eq_false (by omega)
 clear c2
 replace H := Option.bind_eq_some_iff.mp H
 obtain ⟨⟨t336, t337, t340⟩, A30, H⟩ := H
 replace H : ((impl_ParsePuzzle.f k a0).bind fun bt342 => ((laws_eqPuzzle.f k bt342.1 bt342.2.1 t336 t337).bind fun t348 => (if t348 = true then (if (bt342.2.2 != t340) = true then (none) else ((laws_markPuzzle.f k bt342.1 bt342.2.1 1).bind fun bt349 => ((laws_heldPuzzle.f k bt342.1 bt349.2 1).bind fun t351 => (if t351 < 0 then (none) else (if t351 = bt349.1 then ((impl_ParsePuzzle.f k a0).bind fun bt352 => ((laws_eqPuzzle.f k bt352.1 bt352.2.1 t336 t337).bind fun t358 => (if t358 = true then (if (bt352.2.2 != t340) = true then (none) else ((laws_heldPuzzle.f k bt342.1 bt349.2 1).bind fun t359 => (if t359 < 0 then (none) else (if t359 = bt349.1 then (some true) else (none))))) else (none)))) else (none)))))) else (none)))) = some r := H
 have A3 := Aside0.mk A30
 clear A30
 replace H := Option.bind_eq_some_iff.mp H
 obtain ⟨⟨t342, t343, t346⟩, A40, H⟩ := H
 replace H : ((laws_eqPuzzle.f k t342 t343 t336 t337).bind fun t348 => (if t348 = true then (if (t346 != t340) = true then (none) else ((laws_markPuzzle.f k t342 t343 1).bind fun bt349 => ((laws_heldPuzzle.f k t342 bt349.2 1).bind fun t351 => (if t351 < 0 then (none) else (if t351 = bt349.1 then ((impl_ParsePuzzle.f k a0).bind fun bt352 => ((laws_eqPuzzle.f k bt352.1 bt352.2.1 t336 t337).bind fun t358 => (if t358 = true then (if (bt352.2.2 != t340) = true then (none) else ((laws_heldPuzzle.f k t342 bt349.2 1).bind fun t359 => (if t359 < 0 then (none) else (if t359 = bt349.1 then (some true) else (none))))) else (none)))) else (none)))))) else (none))) = some r := H
 have A4 := Aside0.mk A40
 clear A40
 replace H := Option.bind_eq_some_iff.mp H
 obtain ⟨t348, A50, H⟩ := H
 have A5 := Aside0.mk A50
 clear A50
 by_cases c6 : t348 = true
 rotate_left
 ·replace c6 := Bool.eq_false_iff.mpr c6
  subst c6
  rw [if_neg zF] at H
  exact absurd H (by simp)
 subst c6
 rw [if_pos rfl] at H
 by_cases c7 : (t346 != t340) = true
 ·rw [if_pos c7] at H
  cases H
 rw [if_neg c7] at H
 have c7b0 : (t346 != t340) = false := by simpa using c7
 (try (have c7b1 : decide (t346 = t340) = true := by simpa using c7))
 (try (have c7b2 : (t346 == t340) = true := by simpa using c7))
 clear c7
 replace H := Option.bind_eq_some_iff.mp H
 obtain ⟨⟨t349, t350⟩, A80, H⟩ := H
 replace H : ((laws_heldPuzzle.f k t342 t350 1).bind fun t351 => (if t351 < 0 then (none) else (if t351 = t349 then ((impl_ParsePuzzle.f k a0).bind fun bt352 => ((laws_eqPuzzle.f k bt352.1 bt352.2.1 t336 t337).bind fun t358 => (if t358 = true then (if (bt352.2.2 != t340) = true then (none) else ((laws_heldPuzzle.f k t342 t350 1).bind fun t359 => (if t359 < 0 then (none) else (if t359 = t349 then (some true) else (none))))) else (none)))) else (none)))) = some r := H
 have A8 := Aside0.mk A80
 clear A80
 replace H := Option.bind_eq_some_iff.mp H
 obtain ⟨t351, A90, H⟩ := H
 have A9 := Aside0.mk A90
 clear A90
 by_cases c10 : t351 < 0
 ·rw [if_pos c10] at H
  cases H
 rw [if_neg c10] at H
 have c10b0 := decide_eq_false c10
 clear c10
 by_cases c11 : t351 = t349
 rotate_left
 ·rw [if_neg c11] at H
  cases H
 rw [if_pos c11] at H
 have c11b0 := beq_iff_eq.mpr c11
 have c11b1 := bne_eq_false_iff_eq.mpr c11
 clear c11
 replace H := Option.bind_eq_some_iff.mp H
 obtain ⟨⟨t352, t353, t356⟩, A120, H⟩ := H
 replace H : ((laws_eqPuzzle.f k t352 t353 t336 t337).bind fun t358 => (if t358 = true then (if (t356 != t340) = true then (none) else ((laws_heldPuzzle.f k t342 t350 1).bind fun t359 => (if t359 < 0 then (none) else (if t359 = t349 then (some true) else (none))))) else (none))) = some r := H
 have A12 := Aside0.mk A120
 clear A120
 replace H := Option.bind_eq_some_iff.mp H
 obtain ⟨t358, A130, H⟩ := H
 have A13 := Aside0.mk A130
 clear A130
 by_cases c14 : t358 = true
 rotate_left
 ·replace c14 := Bool.eq_false_iff.mpr c14
  subst c14
  rw [if_neg zF] at H
  exact absurd H (by simp)
 subst c14
 rw [if_pos rfl] at H
 by_cases c15 : (t356 != t340) = true
 ·rw [if_pos c15] at H
  cases H
 rw [if_neg c15] at H
 have c15b0 : (t356 != t340) = false := by simpa using c15
 (try (have c15b1 : decide (t356 = t340) = true := by simpa using c15))
 (try (have c15b2 : (t356 == t340) = true := by simpa using c15))
 clear c15
 replace H := Option.bind_eq_some_iff.mp H
 obtain ⟨t359, A160, H⟩ := H
 have A16 := Aside0.mk A160
 clear A160
 by_cases c17 : t359 < 0
 ·rw [if_pos c17] at H
  cases H
 rw [if_neg c17] at H
 have c17b0 := decide_eq_false c17
 clear c17
 by_cases c18 : t359 = t349
 rotate_left
 ·rw [if_neg c18] at H
  cases H
 rw [if_pos c18] at H
 have c18b0 := beq_iff_eq.mpr c18
 have c18b1 := bne_eq_false_iff_eq.mpr c18
 clear c18
 obtain rfl := Option.some.inj H
 go_enter Tryd.func4, Tryd.ntmps4
 go_wp2_with (first | ((with_reducible refine gate_callee (f := 10) rfl ?_); refine zl 16 Tryd.func10 #[.string a0] ?_; (with_reducible refine (spec_ParsePuzzle.calls k a0 t336 t337 t340 _ A3.out).mono ?_); rintro e w19 ⟨v338, rfl, ho0, hb⟩; refine ⟨_, rfl, ?_⟩; have HO339 := Aside0.mk (Kd.R_lower ho0 (below_size (zh HB.out))); replace HB := zH hb HB; clear hb; (try clear ho0)) | ((with_reducible refine gate_dst (N := 3) rfl ?_); refine zq 3 #[.int .i64 0, .slice none 0 0] 30 ?_; intro gb341 hg w20 hbox hb; have BK341 := Aside0.mk hbox; have GW341 := zG hg HB; have GE341 := zG hg HB; replace HO339 := Aside0.mk (Kd.R_below (zr HO339.out) hb); replace HB := zH hb HB; clear hb hbox hg; obtain ⟨hcz21_0, hcz21_1, hfz21_0, hfz21_1⟩ := zC2 BK341; obtain ⟨Ao22, co22, eo22⟩ := Kd.R_slice HO339.out; subst eo22) | ((with_reducible refine gate_callee (f := 11) rfl ?_); refine zl 21 Tryd.func11 #[.string a0] ?_; (with_reducible refine (impl_ParsePuzzle.calls k a0 t342 t343 t346 _ A4.out ?sideV).mono ?_); (case sideV => exact HV.out.below (zh HB.out)); rintro e w23 ⟨v344, rfl, ho0, hb⟩; refine ⟨_, rfl, ?_⟩; have HO345 := Aside0.mk (Kd.R_lower (Kd.R_new' ho0 (Kd.R_lt (by (with_reducible repeat (first | apply Kd.R_alloc | apply Kd.R_drewN | apply Kd.R_drew)); exact (Kd.R_mono (Kd.R_far (p := ⟨gb341, 1, none⟩) (Kd.R_far (p := ⟨gb341, 0, none⟩) (Kd.R_types HO339.out BK341.out (by decide)) (fun _ hk => hk.2) (.int .i64 t336)) (fun _ hk => hk.2) (.slice Ao22 t337.length co22)) (fun _ h_ => h_.1))))) (below_size (zh HB.out))); replace HO339 := Aside0.mk (Kd.R_elder' (by (with_reducible repeat (first | apply Kd.R_alloc | apply Kd.R_drewN | apply Kd.R_drew)); exact (Kd.R_mono (Kd.R_far (p := ⟨gb341, 1, none⟩) (Kd.R_far (p := ⟨gb341, 0, none⟩) (Kd.R_types HO339.out BK341.out (by decide)) (fun _ hk => hk.2) (.int .i64 t336)) (fun _ hk => hk.2) (.slice Ao22 t337.length co22)) (fun _ h_ => h_.1))) (Kd.R_base ho0) hb); replace BK341 := Aside0.mk (blk_below (g := gb341) (o := .cells #[.int .i64 t336, .slice Ao22 t337.length co22] 30 (0, 0)) (by (with_reducible repeat (first | refine blk_drewN ?_ _ | refine blk_drew ?_ | refine blk_alloc ?_ _)); refine blk_put (cs := #[.int .i64 t336, .slice none 0 0]) ?_ 1 _ rfl; (with_reducible repeat (first | refine blk_drewN ?_ _ | refine blk_drew ?_ | refine blk_alloc ?_ _)); refine blk_put (cs := #[.int .i64 0, .slice none 0 0]) ?_ 0 _ rfl; (with_reducible repeat (first | refine blk_drewN ?_ _ | refine blk_drew ?_ | refine blk_alloc ?_ _)); exact BK341.out) hb); replace HB := zH hb HB; clear hb; (try clear ho0)) | ((with_reducible refine gate_dst (N := 5) rfl ?_); refine zq 5 #[.int .i64 0, .slice none 0 0] 30 ?_; intro gb347 hg w24 hbox hb; have BK347 := Aside0.mk hbox; have GW347 := zG hg HB; have GE347 := zG hg HB; have NB341_347 := zNa hg BK341; have NB347_341 := zNb hg BK341; replace HO339 := Aside0.mk (Kd.R_below (zr HO339.out) hb); replace HO345 := Aside0.mk (Kd.R_below (zr HO345.out) hb); replace BK341 := zK BK341 hb; replace HB := zH hb HB; clear hb hbox hg; have hnb25 := NB347_341.out; have hnc25 := NB341_347.out; obtain ⟨hcz26_0, hcz26_1, hfz26_0, hfz26_1⟩ := zC2 BK347; obtain ⟨Ao27, co27, eo27⟩ := Kd.R_slice HO345.out; subst eo27; obtain ⟨hcz28_0, hcz28_1, hfz28_0, hfz28_1⟩ := zC2 BK341) | ((with_reducible refine gate_callee (f := 9) rfl ?_); refine zl 26 Tryd.func9 #[.agg #[.int .i64 t342, .slice Ao27 t343.length co27], .agg #[.int .i64 t336, .slice Ao22 t337.length co22]] ?_; (with_reducible refine (laws_eqPuzzle.calls k t342 _ _ t343 t336 _ _ t337 true _ ?side1 ?side2 ?side3 ?side4 A5.out).mono ?_); (case side1 => refine (Kd.R_reads' (e := 54) (base := w.heap.size) (ok := fun k_ => (True ∧ some k_ ≠ (.slice Ao22 t337.length co22 : Value).ownBlock)) (n := t343.length) (c := co27) ?_).2.2; exact (by (with_reducible repeat (first | apply Kd.R_alloc | apply Kd.R_drewN | apply Kd.R_drew)); exact (Kd.R_mono (Kd.R_far (p := ⟨gb347, 1, none⟩) (Kd.R_far (p := ⟨gb347, 0, none⟩) (Kd.R_types HO345.out BK347.out (by decide)) (fun _ hk => hk.2) (.int .i64 t342)) (fun _ hk => hk.2) (.slice Ao27 t343.length co27)) (fun _ h_ => h_.1)))); (case side2 => exact (Kd.R_reads' HO345.out).2.1); (case side3 => refine (Kd.R_reads' (e := 54) (base := w.heap.size) (ok := fun k_ => (True ∧ some k_ ≠ (.slice Ao27 t343.length co27 : Value).ownBlock)) (n := t337.length) (c := co22) ?_).2.2; exact (by (with_reducible repeat (first | apply Kd.R_alloc | apply Kd.R_drewN | apply Kd.R_drew)); exact (Kd.R_mono (Kd.R_far (p := ⟨gb347, 1, none⟩) (Kd.R_far (p := ⟨gb347, 0, none⟩) (Kd.R_types HO339.out BK347.out (by decide)) (fun _ hk => hk.2) (.int .i64 t342)) (fun _ hk => hk.2) (.slice Ao27 t343.length co27)) (fun _ h_ => h_.1)))); (case side4 => exact (Kd.R_reads' HO339.out).2.1); rintro e w29 ⟨rfl, hb⟩; refine ⟨_, rfl, ?_⟩; replace HO339 := Aside0.mk (Kd.R_below (by (with_reducible repeat (first | apply Kd.R_alloc | apply Kd.R_drewN | apply Kd.R_drew)); exact (Kd.R_mono (Kd.R_far (p := ⟨gb347, 1, none⟩) (Kd.R_far (p := ⟨gb347, 0, none⟩) (Kd.R_types HO339.out BK347.out (by decide)) (fun _ hk => hk.2) (.int .i64 t342)) (fun _ hk => hk.2) (.slice Ao27 t343.length co27)) (fun _ h_ => h_.1))) hb); replace HO345 := Aside0.mk (Kd.R_below (by (with_reducible repeat (first | apply Kd.R_alloc | apply Kd.R_drewN | apply Kd.R_drew)); exact (Kd.R_mono (Kd.R_far (p := ⟨gb347, 1, none⟩) (Kd.R_far (p := ⟨gb347, 0, none⟩) (Kd.R_types HO345.out BK347.out (by decide)) (fun _ hk => hk.2) (.int .i64 t342)) (fun _ hk => hk.2) (.slice Ao27 t343.length co27)) (fun _ h_ => h_.1))) hb); replace BK341 := Aside0.mk (blk_below (g := gb341) (o := .cells #[.int .i64 t336, .slice Ao22 t337.length co22] 30 (0, 0)) (zf2 BK341.out NB341_347.out NB341_347.out) hb); replace BK347 := Aside0.mk (blk_below (g := gb347) (o := .cells #[.int .i64 t342, .slice Ao27 t343.length co27] 30 (0, 0)) (by (with_reducible repeat (first | refine blk_drewN ?_ _ | refine blk_drew ?_ | refine blk_alloc ?_ _)); refine blk_put (cs := #[.int .i64 t342, .slice none 0 0]) ?_ 1 _ rfl; (with_reducible repeat (first | refine blk_drewN ?_ _ | refine blk_drew ?_ | refine blk_alloc ?_ _)); refine blk_put (cs := #[.int .i64 0, .slice none 0 0]) ?_ 0 _ rfl; (with_reducible repeat (first | refine blk_drewN ?_ _ | refine blk_drew ?_ | refine blk_alloc ?_ _)); exact BK347.out) hb); replace HB := zH hb HB; clear hb; obtain ⟨hcz30_0, hcz30_1, hfz30_0, hfz30_1⟩ := zC2 BK347) | ((with_reducible refine gate_callee (f := 12) rfl ?_); refine zl 35 Tryd.func12 #[.agg #[.int .i64 t342, .slice Ao27 t343.length co27], .int .i64 1] ?_; (with_reducible refine (laws_markPuzzle.calls k t342 (fun k_ => some k_ = (.slice Ao27 t343.length co27 : Value).ownBlock) (.slice Ao27 t343.length co27) t343 1 t349 t350 w _ ?side1 ?side2 A8.out).mono ?_); (case side1 => repeat (first | (with_reducible first | exact HB.out | apply below_alloc | apply pw_below_drewN | apply below_drew1 | refine below_set ?_ GE341.out | refine below_set ?_ GE347.out) | exact HB.out)); (case side2 => exact Kd.R_tight rfl HO345.out); rintro e w31 ⟨rfl, hy0, hb, hkp⟩; refine ⟨_, rfl, ?_⟩; replace HO339 := Aside0.mk (Kd.R_mono (ok' := fun k_ => some k_ ≠ (.slice Ao27 t343.length co27 : Value).ownBlock) (Kd.R_keptB (HO339.out) hkp (fun k_ hk_ hs_ => (hk_.2) hs_)) (fun k_ hk_ => hk_.1.2)); replace BK341 := Aside0.mk (blk_kept (zb BK341.out) hkp (fun hs_ => (fun e_ => (Kd.R_ne HO345.out BK341.out (by decide)) e_) hs_)); replace BK347 := Aside0.mk (blk_kept (zb BK347.out) hkp (fun hs_ => (fun e_ => (Kd.R_ne HO345.out BK347.out (by decide)) e_) hs_)); replace HO345 := Aside0.mk (Kd.R_reok rfl hy0 (fun k_ e_ => HO345.out.1 k_ e_)); replace HB := Aside0.mk (hb); clear hb; (try clear hkp); (try clear hy0); obtain ⟨hcz32_0, hcz32_1, hfz32_0, hfz32_1⟩ := zC2 BK347) | ((with_reducible refine gate_callee (f := 13) rfl ?_); refine goesL_ (some 38) rfl rfl Tryd.func13 (by kernel_rfl) rfl #[.agg #[.int .i64 t342, .slice Ao27 t350.length co27], .int .i64 1] rfl (by (try simp only [List.map_toArray, List.map_cons, List.map_nil]); first | done | (rw [show t350.length = t343.length from (Kd.R_reads' HO345.out).1.symm] <;> rfl) | rfl | (simp only [List.length_drop, List.length_take]; rfl)) ?_; (with_reducible refine (laws_heldPuzzle.calls k t342 _ _ t350 1 t351 _ ?side1 ?side2 A9.out).mono ?_); (case side1 => exact zQ ((Kd.R_reads' HO345.out).2.2)); (case side2 => rw [show t350.length = t343.length from (Kd.R_reads' HO345.out).1.symm]; exact (Kd.R_reads' HO345.out).2.1); rintro e w33 ⟨rfl, hb⟩; refine ⟨_, rfl, ?_⟩; replace HO339 := Aside0.mk (Kd.R_below (zr HO339.out) hb); replace HO345 := Aside0.mk (Kd.R_below (zr HO345.out) hb); replace BK341 := zK BK341 hb; replace BK347 := zK BK347 hb; replace HB := zH hb HB; clear hb) | ((with_reducible refine gate_callee (f := 11) rfl ?_); refine zl 46 Tryd.func11 #[.string a0] ?_; (with_reducible refine (impl_ParsePuzzle.calls k a0 t352 t353 t356 _ A12.out ?sideV).mono ?_); (case sideV => exact HV.out.below (zh HB.out)); rintro e w34 ⟨v354, rfl, ho0, hb⟩; refine ⟨_, rfl, ?_⟩; have HO355 := Aside0.mk (Kd.R_lower (Kd.R_new' (Kd.R_new' ho0 (Kd.R_lt (zr HO339.out))) (Kd.R_lt (zr HO345.out))) (below_size (zh HB.out))); replace HO339 := Aside0.mk (Kd.R_elder' (zr HO339.out) (Kd.R_base ho0) hb); replace HO345 := Aside0.mk (Kd.R_elder' (zr HO345.out) (Kd.R_base ho0) hb); replace BK341 := zK BK341 hb; replace BK347 := zK BK347 hb; replace HB := zH hb HB; clear hb; (try clear ho0)) | ((with_reducible refine gate_dst (N := 9) rfl ?_); refine zq 9 #[.int .i64 0, .slice none 0 0] 30 ?_; intro gb357 hg w35 hbox hb; have BK357 := Aside0.mk hbox; have GW357 := zG hg HB; have GE357 := zG hg HB; have NB341_357 := zNa hg BK341; have NB357_341 := zNb hg BK341; have NB347_357 := zNa hg BK347; have NB357_347 := zNb hg BK347; replace HO339 := Aside0.mk (Kd.R_below (zr HO339.out) hb); replace HO345 := Aside0.mk (Kd.R_below (zr HO345.out) hb); replace HO355 := Aside0.mk (Kd.R_below (zr HO355.out) hb); replace BK341 := zK BK341 hb; replace BK347 := zK BK347 hb; replace HB := zH hb HB; clear hb hbox hg; have hnb36 := NB357_341.out; have hnc36 := NB341_357.out; have hnb37 := NB357_347.out; have hnc37 := NB347_357.out; obtain ⟨hcz38_0, hcz38_1, hfz38_0, hfz38_1⟩ := zC2 BK357; obtain ⟨Ao39, co39, eo39⟩ := Kd.R_slice HO355.out; subst eo39; obtain ⟨hcz40_0, hcz40_1, hfz40_0, hfz40_1⟩ := zC2 BK341) | ((with_reducible refine gate_callee (f := 9) rfl ?_); refine zl 51 Tryd.func9 #[.agg #[.int .i64 t352, .slice Ao39 t353.length co39], .agg #[.int .i64 t336, .slice Ao22 t337.length co22]] ?_; (with_reducible refine (laws_eqPuzzle.calls k t352 _ _ t353 t336 _ _ t337 true _ ?side1 ?side2 ?side3 ?side4 A13.out).mono ?_); (case side1 => refine (Kd.R_reads' (e := 54) (base := w.heap.size) (ok := fun k_ => ((True ∧ some k_ ≠ (.slice Ao22 t337.length co22 : Value).ownBlock) ∧ some k_ ≠ (.slice Ao27 t343.length co27 : Value).ownBlock)) (n := t353.length) (c := co39) ?_).2.2; exact (by (with_reducible repeat (first | apply Kd.R_alloc | apply Kd.R_drewN | apply Kd.R_drew)); exact (Kd.R_mono (Kd.R_far (p := ⟨gb357, 1, none⟩) (Kd.R_far (p := ⟨gb357, 0, none⟩) (Kd.R_types HO355.out BK357.out (by decide)) (fun _ hk => hk.2) (.int .i64 t352)) (fun _ hk => hk.2) (.slice Ao39 t353.length co39)) (fun _ h_ => h_.1)))); (case side2 => exact (Kd.R_reads' HO355.out).2.1); (case side3 => refine (Kd.R_reads' (e := 54) (base := w.heap.size) (ok := fun k_ => (some k_ ≠ (.slice Ao27 t343.length co27 : Value).ownBlock ∧ some k_ ≠ (.slice Ao39 t353.length co39 : Value).ownBlock)) (n := t337.length) (c := co22) ?_).2.2; exact (by (with_reducible repeat (first | apply Kd.R_alloc | apply Kd.R_drewN | apply Kd.R_drew)); exact (Kd.R_mono (Kd.R_far (p := ⟨gb357, 1, none⟩) (Kd.R_far (p := ⟨gb357, 0, none⟩) (Kd.R_types HO339.out BK357.out (by decide)) (fun _ hk => hk.2) (.int .i64 t352)) (fun _ hk => hk.2) (.slice Ao39 t353.length co39)) (fun _ h_ => h_.1)))); (case side4 => exact (Kd.R_reads' HO339.out).2.1); rintro e w41 ⟨rfl, hb⟩; refine ⟨_, rfl, ?_⟩; replace HO339 := Aside0.mk (Kd.R_below (by (with_reducible repeat (first | apply Kd.R_alloc | apply Kd.R_drewN | apply Kd.R_drew)); exact (Kd.R_mono (Kd.R_far (p := ⟨gb357, 1, none⟩) (Kd.R_far (p := ⟨gb357, 0, none⟩) (Kd.R_types HO339.out BK357.out (by decide)) (fun _ hk => hk.2) (.int .i64 t352)) (fun _ hk => hk.2) (.slice Ao39 t353.length co39)) (fun _ h_ => h_.1))) hb); replace HO345 := Aside0.mk (Kd.R_below (by (with_reducible repeat (first | apply Kd.R_alloc | apply Kd.R_drewN | apply Kd.R_drew)); exact (Kd.R_mono (Kd.R_far (p := ⟨gb357, 1, none⟩) (Kd.R_far (p := ⟨gb357, 0, none⟩) (Kd.R_types HO345.out BK357.out (by decide)) (fun _ hk => hk.2) (.int .i64 t352)) (fun _ hk => hk.2) (.slice Ao39 t353.length co39)) (fun _ h_ => h_.1))) hb); replace HO355 := Aside0.mk (Kd.R_below (by (with_reducible repeat (first | apply Kd.R_alloc | apply Kd.R_drewN | apply Kd.R_drew)); exact (Kd.R_mono (Kd.R_far (p := ⟨gb357, 1, none⟩) (Kd.R_far (p := ⟨gb357, 0, none⟩) (Kd.R_types HO355.out BK357.out (by decide)) (fun _ hk => hk.2) (.int .i64 t352)) (fun _ hk => hk.2) (.slice Ao39 t353.length co39)) (fun _ h_ => h_.1))) hb); replace BK341 := Aside0.mk (blk_below (g := gb341) (o := .cells #[.int .i64 t336, .slice Ao22 t337.length co22] 30 (0, 0)) (zf2 BK341.out NB341_357.out NB341_357.out) hb); replace BK347 := Aside0.mk (blk_below (g := gb347) (o := .cells #[.int .i64 t342, .slice Ao27 t343.length co27] 30 (0, 0)) (zf2 BK347.out NB347_357.out NB347_357.out) hb); replace BK357 := Aside0.mk (blk_below (g := gb357) (o := .cells #[.int .i64 t352, .slice Ao39 t353.length co39] 30 (0, 0)) (by (with_reducible repeat (first | refine blk_drewN ?_ _ | refine blk_drew ?_ | refine blk_alloc ?_ _)); refine blk_put (cs := #[.int .i64 t352, .slice none 0 0]) ?_ 1 _ rfl; (with_reducible repeat (first | refine blk_drewN ?_ _ | refine blk_drew ?_ | refine blk_alloc ?_ _)); refine blk_put (cs := #[.int .i64 0, .slice none 0 0]) ?_ 0 _ rfl; (with_reducible repeat (first | refine blk_drewN ?_ _ | refine blk_drew ?_ | refine blk_alloc ?_ _)); exact BK357.out) hb); replace HB := zH hb HB; clear hb; obtain ⟨hcz42_0, hcz42_1, hfz42_0, hfz42_1⟩ := zC2 BK347) | ((with_reducible refine gate_callee (f := 13) rfl ?_); refine goesL_ (some 60) rfl rfl Tryd.func13 (by kernel_rfl) rfl #[.agg #[.int .i64 t342, .slice Ao27 t350.length co27], .int .i64 1] rfl (by (try simp only [List.map_toArray, List.map_cons, List.map_nil]); first | done | (rw [show t350.length = t343.length from (Kd.R_reads' HO345.out).1.symm] <;> rfl) | rfl | (simp only [List.length_drop, List.length_take]; rfl)) ?_; (with_reducible refine (laws_heldPuzzle.calls k t342 _ _ t350 1 t359 _ ?side1 ?side2 A16.out).mono ?_); (case side1 => exact zQ ((Kd.R_reads' HO345.out).2.2)); (case side2 => rw [show t350.length = t343.length from (Kd.R_reads' HO345.out).1.symm]; exact (Kd.R_reads' HO345.out).2.1); rintro e w43 ⟨rfl, hb⟩; refine ⟨_, rfl, ?_⟩; replace HO339 := Aside0.mk (Kd.R_below (zr HO339.out) hb); replace HO345 := Aside0.mk (Kd.R_below (zr HO345.out) hb); replace HO355 := Aside0.mk (Kd.R_below (zr HO355.out) hb); replace BK341 := zK BK341 hb; replace BK347 := zK BK347 hb; replace BK357 := zK BK357 hb; replace HB := zH hb HB; clear hb))
 go_ret
 exact ⟨by first | rfl | (simp [*, errW_none, errW_some] <;> rfl), zh HB.out⟩
end Go.Proofs.YtdoojmkndmpgdaaDoor.Q
end
section
namespace Go.Proofs.YtdoojmkndmpgdaaDoor.Q
open Go.RowKit Go.Proofs.YtdoojmkndmpgdaaDoorW.PrintWords Go.Proofs.YtdoojmkndmpgdaaDoorW.PrintLast Go.Proofs.YtdoojmkndmpgdaaDoorW.PrintMore
set_option linter.unusedVariables false
set_option linter.unusedSimpArgs false
theorem rdI_set {xs : List S54} {i : Nat} {v : S54} (h : i < xs.length) : rd_T54 (xs.set i v) (i : Int) = v := by
  rw [rdI_get (by rw [List.length_set]; exact h), List.getElem_set_self]
def mkC (m : Int) (i : Nat) : S54 := ⟨m + 3 * i, m + 3 * i + 1, m + 3 * i + 2⟩
theorem wrap_add1 {x : Int} (h : 0 ≤ x ∧ x ≤ 9223372036854775806) : wrap64 (x + 1) = x + 1 := wrap64_id (by omega)
theorem markClueS_ev (l : List S54) (m : Int) (hl : l.length ≤ 1152921504606) (hm : 0 ≤ m ∧ m ≤ 1152921504606846976) : Ev (fun k => laws_markClueS.f k l m) (m + 3 * l.length, tab (mkC m) l.length) := by
  unfold laws_markClueS.f
  have := ev_range l.length (fun k i => laws_markClueS.l0 k (tab (mkC m) i ++ l.drop i) (m + 3 * i) (i : Int)) (fun _ => (m + 3 * l.length, tab (mkC m) l.length)) ?_ ?_ 0 (Nat.zero_le _)
  · simpa [tab] using this
  · refine ev_succ ?_
    simp only [laws_markClueS.l0]
    refine ev_neg (by rw [tab_drop_len _ _ _ (Nat.le_refl _)]; omega) (ev_eqv (Ev.now _) ?_)
    rw [drop_end, List.append_nil]
  · intro i hi ih
    have hx := tab_drop_len (mkC m) l i (by omega)
    refine ev_succ ?_
    simp only [laws_markClueS.l0]
    refine ev_pos (by omega) (ev_pos (by omega) ?_)
    simp only [Option.bind_some, Int.toNat_natCast]
    rw [wrap_add1 (x := m + 3 * i) (by omega), wrap_add1 (x := m + 3 * i + 1) (by omega), wrap_add1 (x := m + 3 * i + 1 + 1) (by omega)]
    rw [rdI_set (by rw [hx]; exact hi), rdI_set (by rw [List.length_set, hx]; exact hi), List.set_set, List.set_set]
    rw [show (⟨m + 3 * i, m + 3 * i + 1, m + 3 * i + 1 + 1⟩ : S54) = mkC m i by unfold mkC; congr 1; omega, set_tab _ _ _ hi, wrap_succ hi (by omega), show m + 3 * (i : Int) + 1 + 1 + 1 = m + 3 * ((i + 1 : Nat) : Int) by omega]
    exact ih
theorem heldClueS_ev (m : Int) (n : Nat) (hl : n ≤ 1152921504606) (hm : 0 ≤ m ∧ m ≤ 1152921504606846976) : Ev (fun k => laws_heldClueS.f k (tab (mkC m) n) m) (m + 3 * n) := by
  unfold laws_heldClueS.f
  have := ev_range n (fun k i => laws_heldClueS.l0 k (tab (mkC m) n) (m + 3 * i) (i : Int)) (fun _ => m + 3 * n) ?_ ?_ 0 (Nat.zero_le _)
  · simpa using this
  · refine ev_succ ?_
    simp only [laws_heldClueS.l0]
    exact ev_neg (by rw [tab_len]; omega) (Ev.now _)
  · intro i hi ih
    refine ev_succ ?_
    simp only [laws_heldClueS.l0]
    rw [rdI_get (by rw [tab_len]; exact hi), tab_get]
    refine ev_pos (by rw [tab_len]; omega) (ev_pos (by omega) (ev_pos rfl ?_))
    rw [wrap_add1 (x := m + 3 * i) (by omega), wrap_add1 (x := m + 3 * i + 1) (by omega), wrap_add1 (x := m + 3 * i + 1 + 1) (by omega)]
    refine ev_pos rfl (ev_pos (by unfold mkC; simp only []; omega) ?_)
    rw [wrap_succ hi (by omega), show m + 3 * (i : Int) + 1 + 1 + 1 = m + 3 * ((i + 1 : Nat) : Int) by omega]
    exact ih
theorem markPuzzle_ev (n : Int) (l : List S54) (hl : l.length ≤ 1152921504606) : Ev (fun k => laws_markPuzzle.f k n l 1) (1 + 3 * (l.length : Int), tab (mkC 1) l.length) := by
  unfold laws_markPuzzle.f
  exact Ev.bind (markClueS_ev l 1 hl (by omega)) (Ev.now _)
theorem heldPuzzle_ev (a : Int) (n : Nat) (hl : n ≤ 1152921504606) : Ev (fun k => laws_heldPuzzle.f k a (tab (mkC 1) n) 1) (1 + 3 * (n : Int)) := by
  unfold laws_heldPuzzle.f
  exact Ev.bind (heldClueS_ev 1 n hl (by omega)) (ev_neg (by omega) (Ev.now _))
end Go.Proofs.YtdoojmkndmpgdaaDoor.Q
end
section
namespace Go.Proofs.YtdoojmkndmpgdaaDoor.Q
open Go.RowKit Go.Proofs.YtdoojmkndmpgdaaDoorW.PrintWords Go.Proofs.YtdoojmkndmpgdaaDoorW.PrintLast Go.Proofs.YtdoojmkndmpgdaaDoorW.PrintMore
set_option linter.unusedVariables false
set_option linter.unusedSimpArgs false
open Go.Lib
theorem occ_one (s : List UInt8) (b : UInt8) (j : Nat) : occAt s [b] j = (s[j]? == some b) := by
  unfold occAt
  have e : s[j]? = (s.drop j).head? := by rw [List.head?_drop]
  rw [e]
  cases s.drop j with
  | nil => rfl
  | cons x r =>
    simp only [List.isPrefixOf, List.head?_cons, Bool.and_true]
    by_cases h : b = x
    · subst h; simp
    · have h2 : ¬ x = b := fun e => h e.symm
      rw [beq_eq_false_iff_ne.2 h]
      exact (beq_eq_false_iff_ne.2 (fun e => h2 (Option.some.inj e))).symm
theorem occ_none {p : List UInt8} {b : UInt8} (r : List UInt8) (h : b ∉ p) {j : Nat} (hj : j < p.length) : occAt (p ++ r) [b] j = false := by
  rw [occ_one, List.getElem?_append_left hj, List.getElem?_eq_getElem hj]
  have : p[j] ≠ b := fun e => h (e ▸ List.getElem_mem hj)
  simp [this]
theorem idx_hit {p : List UInt8} {b : UInt8} (r : List UInt8) (h : b ∉ p) : index (p ++ b :: r) [b] = p.length := by
  refine index_first (by simp) ?_ (fun j hj => occ_none _ h hj)
  rw [occ_one, List.getElem?_append_right (Nat.le_refl _)]
  simp
theorem idx_miss {p : List UInt8} {b : UInt8} (h : b ∉ p) : index p [b] = -1 := by
  refine index_none fun j hj => ?_
  rw [occ_one]
  by_cases hj' : j < p.length
  · rw [List.getElem?_eq_getElem hj']
    have : p[j] ≠ b := fun e => h (e ▸ List.getElem_mem hj')
    simp [this]
  · rw [List.getElem?_eq_none (by omega)]; rfl
theorem join_two (x y : List UInt8) (r : List (List UInt8)) (b : UInt8) : join (x :: y :: r) [b] = x ++ b :: join (y :: r) [b] := by
  rw [join_cons, join_cons]
  simp [joinTail]
theorem drop_hit (p r : List UInt8) (b : UInt8) : (p ++ b :: r).drop (p.length + 1) = r := by
  rw [List.drop_append, List.drop_of_length_le (by omega)]
  simp
theorem count_join {b : UInt8} : ∀ (ps : List (List UInt8)), ps ≠ [] → (∀ p ∈ ps, b ∉ p) → count (join ps [b]) [b] = ps.length - 1
  | [], h, _ => absurd rfl h
  | [p], _, h => by
    rw [join_one, count_miss (idx_miss (h p List.mem_cons_self))]; rfl
  | p :: q :: r, _, h => by
    have ih := count_join (q :: r) (by simp) (fun x hx => h x (List.mem_cons_of_mem _ hx))
    rw [join_two, count_hit (by simp) (idx_hit _ (h p List.mem_cons_self))]
    rw [show [b].length = 1 from rfl, drop_hit, ih]
    simp only [List.length_cons]
    omega
theorem split_join {b : UInt8} : ∀ (ps : List (List UInt8)), ps ≠ [] → (∀ p ∈ ps, b ∉ p) → splitK [b] 0 (ps.length - 1) (join ps [b]) = ps
  | [], h, _ => absurd rfl h
  | [p], _, h => by rw [join_one]; rfl
  | p :: q :: r, _, h => by
    have ih := split_join (q :: r) (by simp) (fun x hx => h x (List.mem_cons_of_mem _ hx))
    have hi := idx_hit (join (q :: r) [b]) (h p List.mem_cons_self)
    rw [join_two]
    show splitK [b] 0 ((q :: r).length - 1 + 1) _ = _
    rw [splitK, if_neg (by rw [hi]; simp), hi]
    rw [Int.toNat_natCast, show [b].length = 1 from rfl, drop_hit, ih, Nat.add_zero, List.take_left']
    rfl
theorem repl_join {b c : UInt8} : ∀ (ps : List (List UInt8)), ps ≠ [] → (∀ p ∈ ps, b ∉ p) → replaceK [b] [c] (ps.length - 1) (join ps [b]) = join ps [c]
  | [], h, _ => absurd rfl h
  | [p], _, h => by rw [join_one, join_one]; rfl
  | p :: q :: r, _, h => by
    have ih := repl_join (c := c) (q :: r) (by simp) (fun x hx => h x (List.mem_cons_of_mem _ hx))
    have hi := idx_hit (join (q :: r) [b]) (h p List.mem_cons_self)
    rw [join_two, join_two]
    show replaceK [b] [c] ((q :: r).length - 1 + 1) _ = _
    rw [replaceK_hit _ _ _ _ _ hi, show [b].length = 1 from rfl, drop_hit, ih, List.take_left' rfl]
    simp
theorem replAll_join {b c : UInt8} (hne : b ≠ c) (ps : List (List UInt8)) (h0 : ps ≠ []) (h : ∀ p ∈ ps, b ∉ p) : replaceAll (join ps [b]) [b] [c] = join ps [c] := by
  unfold replaceAll replace
  rw [if_neg (by simp [hne])]
  unfold replaceNum
  rw [if_pos (Or.inl (by decide)), count_join ps h0 h, repl_join ps h0 h]
theorem cut_hit {p : List UInt8} {b : UInt8} (r : List UInt8) (h : b ∉ p) : cut (p ++ b :: r) [b] = (p, r, true) := by
  unfold cut
  rw [idx_hit r h, if_pos (by omega), Int.toNat_natCast, show [b].length = 1 from rfl, drop_hit, List.take_left' rfl]
def spl (b : UInt8) : List UInt8 → List UInt8 → List (List UInt8)
  | acc, [] => [acc]
  | acc, x :: r => if x = b then acc :: spl b [] r else spl b (acc ++ [x]) r
theorem spl_miss {b : UInt8} : ∀ (p acc : List UInt8), b ∉ p → spl b acc p = [acc ++ p]
  | [], acc, _ => by simp [spl]
  | x :: p, acc, h => by
    have hx : ¬ x = b := fun e => h (e ▸ List.mem_cons_self)
    rw [spl, if_neg hx, spl_miss p _ (fun m => h (List.mem_cons_of_mem _ m))]
    simp
theorem spl_hit {b : UInt8} (r : List UInt8) : ∀ (p acc : List UInt8), b ∉ p → spl b acc (p ++ b :: r) = (acc ++ p) :: spl b [] r
  | [], acc, _ => by simp [spl]
  | x :: p, acc, h => by
    have hx : ¬ x = b := fun e => h (e ▸ List.mem_cons_self)
    rw [List.cons_append, spl, if_neg hx, spl_hit r p _ (fun m => h (List.mem_cons_of_mem _ m))]
    simp
theorem spl_join {b : UInt8} : ∀ (ps : List (List UInt8)), ps ≠ [] → (∀ p ∈ ps, b ∉ p) → spl b [] (join ps [b]) = ps
  | [], h, _ => absurd rfl h
  | [p], _, h => by rw [join_one, spl_miss p [] (h p List.mem_cons_self)]; rfl
  | p :: q :: r, _, h => by
    rw [join_two, spl_hit _ p [] (h p List.mem_cons_self), spl_join (q :: r) (by simp) (fun x hx => h x (List.mem_cons_of_mem _ hx))]
    rfl
theorem spl_len {b : UInt8} : ∀ (l acc : List UInt8), ∀ p ∈ spl b acc l, p.length ≤ acc.length + l.length
  | [], acc, p, h => by
    simp only [spl, List.mem_singleton] at h
    subst h; simp
  | x :: l, acc, p, h => by
    rw [spl] at h
    split at h
    · rcases List.mem_cons.1 h with e | e
      · subst e; simp only [List.length_cons]; omega
      · have := spl_len l [] p e
        simp only [List.length_cons, List.length_nil] at this ⊢; omega
    · have := spl_len l _ p h
      simp only [List.length_append, List.length_cons, List.length_nil] at this ⊢; omega
theorem spl_count {b : UInt8} : ∀ (l acc : List UInt8), (spl b acc l).length ≤ l.length + 1
  | [], acc => by simp [spl]
  | x :: l, acc => by
    rw [spl]
    split
    · have := spl_count (b := b) l []
      simp only [List.length_cons]; omega
    · have := spl_count (b := b) l (acc ++ [x])
      simp only [List.length_cons]; omega
theorem splitB_join (s : ByteArray) (b : UInt8) (ps : List (List UInt8)) (hs : s.data.toList = join ps [b]) (h0 : ps ≠ []) (h : ∀ p ∈ ps, b ∉ p) :
    splitB ⟨#[b]⟩ 0 (countB s ⟨#[b]⟩) s = ps.map fun p => ⟨p.toArray⟩ := by
  have hc : countB s ⟨#[b]⟩ = ps.length - 1 := by
    show count s.data.toList [b] = _
    rw [hs, count_join ps h0 h]
  have hd := splitB_data ⟨#[b]⟩ 0 (ps.length - 1) s
  rw [hc]
  rw [hs] at hd
  have e : (⟨#[b]⟩ : ByteArray).data.toList = [b] := rfl
  rw [e, split_join ps h0 h] at hd
  conv => rhs; rw [← hd]
  rw [List.map_map]
  conv => lhs; rw [← List.map_id (splitB ⟨#[b]⟩ 0 (ps.length - 1) s)]
  refine List.map_congr_left fun x _ => ?_
  rfl
theorem splitB_size (s sep : ByteArray) : ∀ (k : Nat) (s : ByteArray), ∀ p ∈ splitB sep 0 k s, p.size ≤ s.size
  | 0, s, p, h => by
    simp only [splitB, List.mem_singleton] at h
    subst h; exact Nat.le_refl _
  | k + 1, s, p, h => by
    rw [splitB] at h
    split at h
    · simp only [List.mem_singleton] at h
      subst h; exact Nat.le_refl _
    · rcases List.mem_cons.1 h with e | e
      · subst e
        rw [size_eq, extract_from_zero, List.length_take, ← size_eq]; omega
      · have := splitB_size s sep k _ p e
        refine Nat.le_trans this ?_
        rw [size_eq, extract_to_end, List.length_drop, ← size_eq]; omega
end Go.Proofs.YtdoojmkndmpgdaaDoor.Q
end
section
namespace Go.Proofs.YtdoojmkndmpgdaaDoor.Q
open Go.RowKit Go.Proofs.YtdoojmkndmpgdaaDoorW.PrintWords Go.Proofs.YtdoojmkndmpgdaaDoorW.PrintLast Go.Proofs.YtdoojmkndmpgdaaDoorW.PrintMore
set_option linter.unusedVariables false
set_option linter.unusedSimpArgs false
def EvP {α : Type} (f : Nat → Option α) (P : α → Prop) : Prop := ∃ r, Ev f r ∧ P r
theorem EvP.now {α : Type} {P : α → Prop} {r : α} (h : P r) : EvP (fun _ => some r) P := ⟨r, Ev.now r, h⟩
theorem EvP.bind {α β : Type} {f : Nat → Option α} {g : Nat → α → Option β} {P : α → Prop} {Q : β → Prop} (h : EvP f P) (hg : ∀ r, P r → EvP (fun k => g k r) Q) : EvP (fun k => (f k).bind (g k)) Q := by
  obtain ⟨r, hr, hp⟩ := h
  obtain ⟨q, hq, hQ⟩ := hg r hp
  exact ⟨q, Ev.bind hr hq, hQ⟩
theorem EvP.bindE {α β : Type} {f : Nat → Option α} {g : Nat → α → Option β} {a : α} {Q : β → Prop} (h : Ev f a) (hg : EvP (fun k => g k a) Q) : EvP (fun k => (f k).bind (g k)) Q := by
  obtain ⟨q, hq, hQ⟩ := hg
  exact ⟨q, Ev.bind h hq, hQ⟩
theorem EvP.pos {α : Type} {c : Prop} [Decidable c] {f g : Nat → Option α} {P : α → Prop} (h : c) (k : EvP f P) : EvP (fun n => if c then f n else g n) P := by simp only [if_pos h]; exact k
theorem EvP.neg {α : Type} {c : Prop} [Decidable c] {f g : Nat → Option α} {P : α → Prop} (h : ¬ c) (k : EvP g P) : EvP (fun n => if c then f n else g n) P := by simp only [if_neg h]; exact k
theorem EvP.ite {α : Type} {c : Prop} [Decidable c] {f g : Nat → Option α} {P : α → Prop} (h1 : c → EvP f P) (h2 : ¬ c → EvP g P) : EvP (fun n => if c then f n else g n) P := by
  by_cases h : c
  · exact EvP.pos h (h1 h)
  · exact EvP.neg h (h2 h)
theorem EvP.succ {α : Type} {g : Nat → Option α} {P : α → Prop} (k : EvP (fun n => g (n + 1)) P) : EvP g P := by
  obtain ⟨r, hr, hp⟩ := k
  exact ⟨r, ev_succ hr, hp⟩
theorem evP_range {R σ : Type} (n : Nat) (L : Nat → Nat → σ → Option R) (P : R → Prop) (I : Nat → σ → Prop) (hend : ∀ s, I n s → EvP (fun k => L k n s) P)
    (hstep : ∀ i s, i < n → I i s → (∀ s', I (i + 1) s' → EvP (fun k => L k (i + 1) s') P) → EvP (fun k => L k i s) P) :
    ∀ i s, i ≤ n → I i s → EvP (fun k => L k i s) P := by
  have key : ∀ d i s, i + d = n → I i s → EvP (fun k => L k i s) P := by
    intro d
    induction d with
    | zero => intro i s hi hI; rw [show i = n by omega] at hI ⊢; exact hend s hI
    | succ d ih => intro i s hi hI; exact hstep i s (by omega) hI (fun s' hs' => ih (i + 1) s' (by omega) hs')
  exact fun i s hi hI => key (n - i) i s (by omega) hI
def mkB (l : List UInt8) : ByteArray := ⟨l.toArray⟩
theorem mkB_list (l : List UInt8) : (mkB l).data.toList = l := by simp [mkB]
theorem mkB_data (a : ByteArray) : mkB a.data.toList = a := ba_ext (mkB_list _)
theorem mkB_size (l : List UInt8) : (mkB l).size = l.length := rfl
theorem rdS_get {xs : List ByteArray} {i : Nat} (h : i < xs.length) : rdOf ByteArray.empty xs (i : Int) = xs[i] := by unfold rdOf; rw [Int.toNat_natCast]; exact getD_get h
theorem bt_get (s : ByteArray) (i : Nat) (h : i < s.size) : bt s (i : Int) = ((s.data.toList[i]'(by rw [← Lib.size_eq]; exact h)).toNat : Int) := by
  unfold bt
  rw [dif_pos (by rw [Int.toNat_natCast]; exact h)]
  simp only [Int.toNat_natCast]
  rfl
theorem u8_eq {a b : UInt8} : ((a.toNat : Int) = (b.toNat : Int)) ↔ a = b := by
  constructor
  · intro h; exact UInt8.toNat_inj.1 (by omega)
  · intro h; rw [h]
theorem l1Split_ev (s : ByteArray) (b : UInt8) (hs : s.size ≤ 1099511627776) : Ev (fun k => spec_l1Split.f k s (b.toNat : Int)) ((spl b [] s.data.toList).map mkB) := by
  unfold spec_l1Split.f
  have hl : s.data.toList.length = s.size := list_size s
  have hex : ∀ f i, s.extract f i = mkB ((s.data.toList.drop f).take (i - f)) := fun f i => ba_ext (by rw [mkB_list, Lib.extract_data])
  have key := ev_rangeS s.size (fun k i (q : List ByteArray × Nat) => spec_l1Split.l0 k s (b.toNat : Int) q.1 (q.2 : Int) (i : Int)) (fun i q => q.1 ++ (spl b ((s.data.toList.drop q.2).take (i - q.2)) (s.data.toList.drop i)).map mkB) (fun i q => q.2 ≤ i ∧ q.1.length ≤ i) ?_ ?_
  · exact key 0 ([], 0) (Nat.zero_le _) ⟨Nat.le_refl _, Nat.le_refl _⟩
  · intro q hq
    obtain ⟨out, f⟩ := q
    dsimp only at hq ⊢
    refine ev_succ ?_
    simp only [spec_l1Split.l0]
    refine ev_neg (by omega) (ev_pos (by omega) (ev_pos (by omega) (ev_pos (by omega) ?_)))
    refine ev_eqv (Ev.now _) ?_
    have e : s.data.toList.drop s.size = [] := List.drop_of_length_le (by omega)
    rw [Int.toNat_natCast, hex, e]
    rfl
  · intro i q hi hq ih
    obtain ⟨out, f⟩ := q
    dsimp only at hq ih ⊢
    refine ev_succ ?_
    simp only [spec_l1Split.l0]
    have hi' : i < s.data.toList.length := by omega
    have hd : s.data.toList.drop i = s.data.toList[i] :: s.data.toList.drop (i + 1) := List.drop_eq_getElem_cons hi'
    refine ev_pos (by omega) (ev_pos (by omega) ?_)
    rw [bt_get s i hi, wrap_succ hi (by omega), hd, spl]
    by_cases hb : s.data.toList[i] = b
    · refine ev_pos (u8_eq.2 hb) (ev_pos (by omega) (ev_pos (by omega) (ev_pos (by omega) (ev_pos (by omega) ?_))))
      rw [Int.toNat_natCast, Int.toNat_natCast, hex, if_pos hb]
      refine ev_eqv (ih (out ++ [mkB ((s.data.toList.drop f).take (i - f))], i + 1) ⟨Nat.le_refl _, by simp only [List.length_append, List.length_cons, List.length_nil]; omega⟩) ?_
      simp
    · refine ev_neg (fun e => hb (u8_eq.1 e)) ?_
      rw [if_neg hb]
      refine ev_eqv (ih (out, f) ⟨Nat.le_succ_of_le hq.1, Nat.le_succ_of_le hq.2⟩) ?_
      have e : (s.data.toList.drop f).take (i + 1 - f) = (s.data.toList.drop f).take (i - f) ++ [s.data.toList[i]] := by
        rw [show i + 1 - f = (i - f) + 1 by omega, List.take_add_one, List.getElem?_drop, show f + (i - f) = i by omega, List.getElem?_eq_getElem hi']
        rfl
      rw [e]
theorem l1Read_evP (s : ByteArray) (hs : s.size ≤ 1099511627776) : EvP (fun k => spec_l1Read.f k s) (fun _ => True) := by
  unfold spec_l1Read.f
  have hj : ∀ x, EvP (fun k => spec_l1Read.j0 k s x) (fun _ => True) := by
    intro x
    refine EvP.succ ?_
    simp only [spec_l1Read.j0]
    refine EvP.ite (fun _ => EvP.now trivial) (fun _ => ?_)
    refine evP_range s.size (fun k i (x : Int) => spec_l1Read.l0 k s x (i : Int)) (fun _ => True) (fun _ _ => True) ?_ ?_ 0 0 (Nat.zero_le _) trivial
    · intro x _
      refine EvP.succ ?_
      simp only [spec_l1Read.l0]
      exact EvP.neg (by omega) (EvP.now trivial)
    · intro i x hi _ ih
      refine EvP.succ ?_
      simp only [spec_l1Read.l0]
      refine EvP.pos (by omega) (EvP.pos (by omega) (EvP.ite (fun _ => EvP.now trivial) (fun _ => EvP.ite (fun _ => EvP.now trivial) (fun _ => ?_))))
      rw [wrap_succ hi (by omega)]
      exact ih _ trivial
  rw [l1In_eq]
  refine EvP.bindE (Ev.now _) (EvP.ite (fun h => ?_) (fun _ => hj _))
  have h := inB_iff.1 h
  exact EvP.pos (by omega) (EvP.ite (fun _ => hj _) (fun _ => hj _))
theorem l1Read_K : ∀ n : Nat, n < 16 → spec_l1Read.f 8 (numB n) = some (n : Int) := by decide +kernel
theorem l1Read_ev (a : Int) (h : 0 ≤ a ∧ a < 16) : Ev (fun k => spec_l1Read.f k (numB a.toNat)) a := by
  obtain ⟨n, rfl⟩ := Int.eq_ofNat_of_zero_le h.1
  rw [Int.toNat_natCast]
  exact Ev.of (spec_l1Read.mono _) (l1Read_K n (by omega))
theorem digs_K : ∀ n : Nat, n < 16 → ∀ x ∈ digs n, x ≠ 44 ∧ x ≠ 46 ∧ x ≠ 58 := by decide +kernel
theorem digs_no (a : Int) (h : 0 ≤ a ∧ a < 16) {b : UInt8} (hb : b = 44 ∨ b = 46 ∨ b = 58) : b ∉ digs a.toNat := by
  intro hx
  have := digs_K a.toNat (by omega) b hx
  rcases hb with rfl | rfl | rfl
  · exact this.1 rfl
  · exact this.2.1 rfl
  · exact this.2.2 rfl
def clueP (c : S54) : List (List UInt8) := [digs c.f0.toNat, digs c.f1.toNat, digs c.f2.toNat]
theorem clueT_list (c : S54) : (clueT c).data.toList = Lib.join (clueP c) [46] := by
  unfold clueP
  rw [join_two, join_two, Lib.join_one]
  unfold clueT
  simp only [app_list, List.append_assoc]
  rfl
theorem clueP_no {c : S54} (h : smallC c) {b : UInt8} (hb : b = 44 ∨ b = 46 ∨ b = 58) : ∀ p ∈ clueP c, b ∉ p := by
  intro p hp
  simp only [clueP, List.mem_cons, List.mem_nil_iff, or_false] at hp
  rcases hp with rfl | rfl | rfl
  · exact digs_no _ h.1 hb
  · exact digs_no _ h.2.1 hb
  · exact digs_no _ h.2.2 hb
theorem clueT_no {c : S54} (h : smallC c) {b : UInt8} (hb : b = 44 ∨ b = 58) : b ∉ (clueT c).data.toList := by
  rw [clueT_list]
  unfold clueP
  rw [join_two, join_two, Lib.join_one]
  have hb' : b = 44 ∨ b = 46 ∨ b = 58 := by rcases hb with h | h <;> simp [h]
  have h46 : b ≠ 46 := by rcases hb with rfl | rfl <;> decide
  simp only [List.mem_append, List.mem_cons, not_or]
  exact ⟨digs_no _ h.1 hb', h46, digs_no _ h.2.1 hb', h46, digs_no _ h.2.2 hb'⟩
def bodyL (l : List S54) : List UInt8 := Lib.join (l.map fun c => (clueT c).data.toList) [44]
theorem textB_list (m : Int) (l : List S54) : (textB m l).data.toList = digs m.toNat ++ 58 :: bodyL l := by
  unfold bodyL
  cases l with
  | nil => simp [textB, Lib.join, List.intercalate, numB]
  | cons c r =>
    rw [textB, tailT_list, List.map_cons, Lib.join_cons]
    simp only [app_list, List.append_assoc]
    rfl
theorem body_no {l : List S54} (h : ∀ c ∈ l, smallC c) : (58 : UInt8) ∉ bodyL l := by
  unfold bodyL
  induction l with
  | nil => simp [Lib.join, List.intercalate]
  | cons c r ih =>
    have h1 := clueT_no (h c List.mem_cons_self) (b := 58) (Or.inr rfl)
    have h2 := ih (fun x hx => h x (List.mem_cons_of_mem _ hx))
    cases r with
    | nil => rw [List.map_cons, List.map_nil, Lib.join_one]; exact h1
    | cons d r =>
      rw [List.map_cons, List.map_cons, join_two]
      simp only [List.mem_append, List.mem_cons, not_or]
      exact ⟨h1, by decide, h2⟩
theorem body_len {l : List S54} (hl : l.length ≤ 8) : (bodyL l).length ≤ 90 := by
  unfold bodyL
  cases l with
  | nil => simp [Lib.join, List.intercalate]
  | cons c r =>
    rw [List.map_cons, Lib.join_cons, List.length_append, Lib.joinTail_length]
    have hb : ∀ q : List S54, Lib.lens (q.map fun c => (clueT c).data.toList) ≤ 8 * q.length := by
      intro q
      induction q with
      | nil => simp [Lib.lens]
      | cons x q ih =>
        have := clueT_size x
        have e := list_size (clueT x)
        simp only [Lib.lens, List.map_cons, List.sum_cons, List.length_cons] at ih ⊢
        omega
    have := hb r
    have := clueT_size c
    have e := list_size (clueT c)
    simp only [List.length_cons, List.length_map, List.length_nil] at hl this ⊢
    omega
theorem body_pos {c : S54} {r : List S54} : 0 < (bodyL (c :: r)).length := by
  unfold bodyL
  rw [List.map_cons, Lib.join_cons, List.length_append, clueT_list]
  unfold clueP
  rw [join_two]
  simp only [List.length_append, List.length_cons]
  omega
theorem textB_size {m : Int} {l : List S54} (hl : l.length ≤ 8) : (textB m l).size ≤ 100 := by
  rw [Lib.size_eq, textB_list]
  have h1 := body_len hl
  have h2 := numB_size m.toNat
  rw [show (numB m.toNat).size = (digs m.toNat).length from rfl] at h2
  simp only [List.length_append, List.length_cons]
  omega
theorem ba_beq {a b : ByteArray} : (a.toList == b.toList) = true ↔ a = b := Lib.bytes_beq_iff a b
theorem fin_ev (s : ByteArray) (m : Int) (l : List S54) : Ev (fun k => (spec_pzGood.f k m l).bind fun t => (if t = true then ((spec_pzText.f k m l).bind fun t2 => (some (m, l, (t2.toList == s.toList)))) else (some (m, l, false)))) (m, l, puzzleOk m l && ((textB m l).toList == s.toList)) := by
  refine Ev.bind (pzGood_ev m l) (ev_bool (fun h => ?_) (fun h => ?_))
  · have hs := puzzle_small h
    rw [h, Bool.true_and]
    exact Ev.bind (pzText_ev m l (by omega) hs.2.1 hs.2.2) (Ev.now _)
  · rw [h, Bool.false_and]
    exact Ev.now _
def ParseP (s : ByteArray) (r : Int × List S54 × Bool) : Prop := r.2.2 = true → puzzleOk r.1 r.2.1 = true ∧ textB r.1 r.2.1 = s
theorem fin_P (s : ByteArray) (m : Int) (l : List S54) : ParseP s (m, l, puzzleOk m l && ((textB m l).toList == s.toList)) := by
  intro h
  have h2 : (puzzleOk m l && ((textB m l).toList == s.toList)) = true := h
  rw [Bool.and_eq_true] at h2
  exact ⟨h2.1, ba_beq.1 h2.2⟩
theorem pz_size {b : UInt8} {s : ByteArray} {p : ByteArray} (h : p ∈ (spl b [] s.data.toList).map mkB) : p.size ≤ s.size := by
  obtain ⟨q, hq, rfl⟩ := List.mem_map.1 h
  have := spl_len _ _ q hq
  rw [mkB_size, Lib.size_eq s]
  simpa using this
theorem pzParse_evP (s : ByteArray) : EvP (fun k => spec_pzParse.f k s) (ParseP s) := by
  unfold spec_pzParse.f
  refine EvP.ite (fun _ => EvP.now (fun h => by cases h)) (fun hs => ?_)
  refine EvP.bindE (l1Split_ev s 58 (by omega)) (EvP.ite (fun h2 => ?_) (fun _ => EvP.now (fun h => by cases h)))
  have hlen : ((spl 58 [] s.data.toList).map mkB).length = 2 := by omega
  have h0 : rdOf ByteArray.empty ((spl 58 [] s.data.toList).map mkB) 0 = ((spl 58 [] s.data.toList).map mkB)[0] := rdS_get (i := 0) (by omega)
  have h1 : rdOf ByteArray.empty ((spl 58 [] s.data.toList).map mkB) 1 = ((spl 58 [] s.data.toList).map mkB)[1] := rdS_get (i := 1) (by omega)
  have hs0 := pz_size (List.getElem_mem (l := (spl 58 [] s.data.toList).map mkB) (n := 0) (by omega))
  have hs1 := pz_size (List.getElem_mem (l := (spl 58 [] s.data.toList).map mkB) (n := 1) (by omega))
  rw [h0, h1]
  refine EvP.pos (by omega) (EvP.bind (l1Read_evP _ (by omega)) fun m _ => EvP.pos (by omega) (EvP.ite (fun _ => ?_) (fun _ => ⟨_, fin_ev s m [], fin_P s m []⟩)))
  generalize ((spl 58 [] s.data.toList).map mkB)[1] = tl at hs1 ⊢
  refine EvP.bindE (l1Split_ev tl 44 (by omega)) ?_
  have hps : ∀ p ∈ (spl 44 [] tl.data.toList).map mkB, p.size ≤ 100 := fun p hp => Nat.le_trans (pz_size hp) (by omega)
  have hcnt : ((spl 44 [] tl.data.toList).map mkB).length ≤ 101 := by
    rw [List.length_map]
    have := spl_count (b := 44) tl.data.toList []
    have e := list_size tl
    omega
  generalize (spl 44 [] tl.data.toList).map mkB = xs at hps hcnt
  refine evP_range xs.length (fun k i (c : List S54) => spec_pzParse.l0 k s xs (xs.length : Int) (i : Int) m c) (ParseP s) (fun i c => c.length ≤ i) ?_ ?_ 0 [] (Nat.zero_le _) (Nat.le_refl _)
  · intro c _
    refine EvP.succ ?_
    simp only [spec_pzParse.l0]
    exact EvP.neg (by omega) ⟨_, fin_ev s m c, fin_P s m c⟩
  · intro i c hi hc ih
    refine EvP.succ ?_
    simp only [spec_pzParse.l0]
    have hp := hps _ (List.getElem_mem hi)
    refine EvP.pos (by omega) (EvP.pos (by omega) (EvP.pos (by omega) ?_))
    rw [rdS_get hi, wrap_succ hi (by omega)]
    refine EvP.bindE (l1Split_ev _ 46 (by omega)) (EvP.ite (fun h3 => ?_) (fun _ => EvP.now (fun h => by cases h)))
    have hsz : ∀ p ∈ (spl 46 [] xs[i].data.toList).map mkB, p.size ≤ 100 := fun p h => Nat.le_trans (pz_size h) hp
    generalize (spl 46 [] xs[i].data.toList).map mkB = ys at h3 hsz
    have e0 : rdOf ByteArray.empty ys 0 = ys[0] := rdS_get (i := 0) (by omega)
    have e1 : rdOf ByteArray.empty ys 1 = ys[1] := rdS_get (i := 1) (by omega)
    have e2 : rdOf ByteArray.empty ys 2 = ys[2] := rdS_get (i := 2) (by omega)
    rw [e0, e1, e2]
    have z0 := hsz _ (List.getElem_mem (l := ys) (n := 0) (by omega))
    have z1 := hsz _ (List.getElem_mem (l := ys) (n := 1) (by omega))
    have z2 := hsz _ (List.getElem_mem (l := ys) (n := 2) (by omega))
    refine EvP.pos (by omega) (EvP.bind (l1Read_evP _ (by omega)) fun a _ => EvP.pos (by omega) (EvP.bind (l1Read_evP _ (by omega)) fun b _ => EvP.pos (by omega) (EvP.bind (l1Read_evP _ (by omega)) fun d _ => EvP.pos (by omega) ?_)))
    exact ih _ (by simp only [List.length_append, List.length_cons, List.length_nil]; omega)
theorem pzParse_ok (m : Int) (l : List S54) (h : puzzleOk m l = true) : Ev (fun k => spec_pzParse.f k (textB m l)) (m, l, true) := by
  have hsm := puzzle_small h
  have hm : 0 ≤ m ∧ m < 16 := by omega
  have hfin : (m, l, puzzleOk m l && ((textB m l).toList == (textB m l).toList)) = (m, l, true) := by rw [h, ba_beq.2 rfl]; rfl
  have hsz := textB_size (m := m) hsm.2.1
  unfold spec_pzParse.f
  refine ev_neg (by omega) (Ev.bind (l1Split_ev _ 58 (by omega)) ?_)
  have e58 : (spl 58 [] (textB m l).data.toList).map mkB = [numB m.toNat, mkB (bodyL l)] := by
    rw [textB_list, ← Lib.join_one (bodyL l) [58], ← join_two, spl_join _ (by simp) (fun p hp => by
      simp only [List.mem_cons, List.mem_nil_iff, or_false] at hp
      rcases hp with rfl | rfl
      · exact digs_no _ hm (Or.inr (Or.inr rfl))
      · exact body_no hsm.2.2)]
    rw [Lib.join_one]
    rfl
  rw [e58]
  refine ev_pos rfl (ev_pos (by simp) (Ev.bind (l1Read_ev m hm) (ev_pos (by simp) ?_)))
  show Ev (fun k => if ((mkB (bodyL l)).size : Int) > 0 then ((spec_l1Split.f k (mkB (bodyL l)) 44).bind fun t234 => (spec_pzParse.l0 k (textB m l) t234 (t234.length : Int) 0 m ([] : List S54))) else _) _
  cases l with
  | nil => exact ev_neg (by rw [mkB_size]; decide) (ev_eqv (fin_ev _ m []) hfin)
  | cons c r =>
    have hbl := body_len hsm.2.1
    refine ev_pos (by rw [mkB_size]; have := body_pos (c := c) (r := r); omega) (Ev.bind (l1Split_ev _ 44 (by rw [mkB_size]; omega)) ?_)
    have e44 : (spl 44 [] (mkB (bodyL (c :: r))).data.toList).map mkB = (c :: r).map clueT := by
      rw [mkB_list]
      unfold bodyL
      rw [spl_join _ (by simp) (fun p hp => by
        obtain ⟨x, hx, rfl⟩ := List.mem_map.1 hp
        exact clueT_no (hsm.2.2 x hx) (Or.inl rfl)), List.map_map]
      exact List.map_congr_left fun x _ => mkB_data _
    rw [e44]
    generalize c :: r = l at *
    refine ev_rangeS l.length (fun k i (q : List S54) => spec_pzParse.l0 k (textB m l) (l.map clueT) ((l.map clueT).length : Int) (i : Int) m q) (fun _ _ => (m, l, true)) (fun i q => q = l.take i) ?_ ?_ 0 [] (Nat.zero_le _) rfl
    · intro q hq
      rw [List.take_length] at hq
      subst hq
      refine ev_succ ?_
      simp only [spec_pzParse.l0]
      exact ev_neg (by rw [List.length_map]; omega) (ev_eqv (fin_ev _ m _) hfin)
    · intro i q hi hq ih
      subst hq
      refine ev_succ ?_
      simp only [spec_pzParse.l0]
      have hc := hsm.2.2 _ (List.getElem_mem hi)
      refine ev_pos (by rw [List.length_map]; omega) (ev_pos (by omega) (ev_pos (by rw [List.length_map]; omega) ?_))
      rw [rdS_get (by rw [List.length_map]; exact hi), wrap_succ hi (by omega), List.getElem_map]
      have hcs := clueT_size l[i]
      refine Ev.bind (l1Split_ev _ 46 (by omega)) ?_
      have e46 : (spl 46 [] (clueT l[i]).data.toList).map mkB = [numB l[i].f0.toNat, numB l[i].f1.toNat, numB l[i].f2.toNat] := by
        rw [clueT_list, spl_join _ (by unfold clueP; simp) (clueP_no hc (Or.inr (Or.inl rfl)))]
        rfl
      rw [e46]
      refine ev_pos rfl (ev_pos (by simp) (Ev.bind (l1Read_ev _ hc.1) (ev_pos (by simp) (Ev.bind (l1Read_ev _ hc.2.1) (ev_pos (by simp) (Ev.bind (l1Read_ev _ hc.2.2) (ev_pos (by rw [List.length_take]; omega) ?_)))))))
      exact ih _ (by rw [List.take_add_one, List.getElem?_eq_getElem hi]; rfl)
theorem repl_len {b c : UInt8} : ∀ (k : Nat) (s : List UInt8), (Lib.replaceK [b] [c] k s).length = s.length
  | 0, _ => rfl
  | k + 1, s => by
    rw [Lib.replaceK]
    split
    · rfl
    · rename_i h
      have hge := Lib.index_ge s [b]
      have h1 : Lib.index s [b] ≠ -1 := fun e => h (beq_iff_eq.2 e)
      have hr := Lib.index_room s [b] (by omega)
      rw [List.length_append, List.length_append, List.length_take, repl_len k, List.length_drop]
      simp only [List.length_cons, List.length_nil] at hr ⊢
      omega
theorem replAll_len {b c : UInt8} (s : List UInt8) : (Lib.replaceAll s [b] [c]).length = s.length := by
  unfold Lib.replaceAll Lib.replace
  split
  · rfl
  · exact repl_len _ _
theorem atoi_K : ∀ n : Nat, n < 16 → Lib.atoiAll (digs n) = .ok (n : Int) := by decide +kernel
theorem readNumber_total (s : ByteArray) (a : Int) (hs : s.size ≤ 281474976710656) (h : a < 100) : ∃ r, impl_readNumber.f s a = some r := by
  unfold impl_readNumber.f
  rw [if_pos ⟨hs, h⟩]
  rcases Lib.atoiAll s.data.toList with v | _ | _
  · dsimp only
    split
    · split
      · exact ⟨_, rfl⟩
      · exact ⟨_, rfl⟩
    · exact ⟨_, rfl⟩
  · exact ⟨_, rfl⟩
  · exact ⟨_, rfl⟩
theorem readNumber_small (a : Int) (most : Int) (h : 0 ≤ a ∧ a < 16) (hm : a ≤ most ∧ most < 100) : impl_readNumber.f (numB a.toNat) most = some (a, true) := by
  obtain ⟨n, rfl⟩ := Int.eq_ofNat_of_zero_le h.1
  rw [Int.toNat_natCast]
  have hs := numB_size n
  unfold impl_readNumber.f
  rw [if_pos ⟨by omega, hm.2⟩]
  have e : (numB n).data.toList = digs n := by simp [numB]
  rw [e, atoi_K n (by omega)]
  dsimp only
  rw [if_pos ⟨h.1, hm.1⟩, Int.toNat_natCast, decDigits_small n (by omega), if_pos rfl]
theorem Split_some (s : ByteArray) (hs : s.size < 4294967281) : strings_Split.f s (⟨#[44]⟩ : ByteArray) = some (Lib.splitB (⟨#[44]⟩ : ByteArray) 0 (Lib.countB s (⟨#[44]⟩ : ByteArray)) s) := by
  unfold strings_Split.f
  rw [if_pos ⟨hs, by decide⟩]
theorem split_len (s : ByteArray) : (Lib.splitB (⟨#[44]⟩ : ByteArray) 0 (Lib.countB s (⟨#[44]⟩ : ByteArray)) s).length ≤ s.size + 1 := by
  rw [Lib.splitB_all _ (by decide) 0 _ s rfl]
  have := Lib.countB_le (⟨#[44]⟩ : ByteArray) (by decide) s.size s (Nat.le_refl _)
  omega
theorem readNumbers_evP (s : ByteArray) (hs : s.size ≤ 4194304) : EvP (fun k => impl_readNumbers.f k s 99) (fun _ => True) := by
  unfold impl_readNumbers.f
  rw [Split_some s (by omega)]
  refine EvP.bindE (Ev.now _) ?_
  have hps : ∀ p ∈ Lib.splitB (⟨#[44]⟩ : ByteArray) 0 (Lib.countB s (⟨#[44]⟩ : ByteArray)) s, p.size ≤ 4194304 := fun p hp => Nat.le_trans (splitB_size s _ _ s p hp) hs
  have hl := split_len s
  generalize Lib.splitB (⟨#[44]⟩ : ByteArray) 0 (Lib.countB s (⟨#[44]⟩ : ByteArray)) s = xs at hps hl
  refine evP_range xs.length (fun k i (q : List Int) => impl_readNumbers.l0 k 99 q xs (xs.length : Int) (i : Int)) (fun _ => True) (fun i q => q.length ≤ i) ?_ ?_ 0 [] (Nat.zero_le _) (Nat.le_refl _)
  · intro q _
    refine EvP.succ ?_
    simp only [impl_readNumbers.l0]
    exact EvP.neg (by omega) (EvP.now trivial)
  · intro i q hi hq ih
    refine EvP.succ ?_
    simp only [impl_readNumbers.l0]
    refine EvP.pos (by omega) (EvP.pos (by omega) (EvP.pos (by omega) ?_))
    rw [rdS_get hi, wrap_succ hi (by omega)]
    obtain ⟨r, hr⟩ := readNumber_total xs[i] 99 (Nat.le_trans (hps _ (List.getElem_mem hi)) (by decide)) (by decide)
    rw [hr]
    refine EvP.bindE (Ev.now _) (EvP.ite (fun _ => EvP.pos (by omega) (ih _ (by simp only [List.length_append, List.length_cons, List.length_nil]; omega))) (fun _ => EvP.now trivial))
theorem readNumbers_ok (c : S54) (h : smallC c) (s : ByteArray) (hs : s.data.toList = Lib.join (clueP c) [44]) (hsz : s.size ≤ 100) : Ev (fun k => impl_readNumbers.f k s 99) ([c.f0, c.f1, c.f2], true) := by
  unfold impl_readNumbers.f
  rw [Split_some s (by omega), splitB_join s 44 (clueP c) hs (by unfold clueP; simp) (clueP_no h (Or.inl rfl))]
  refine Ev.bind (Ev.now _) ?_
  have e : (clueP c).map (fun p => (⟨p.toArray⟩ : ByteArray)) = [numB c.f0.toNat, numB c.f1.toNat, numB c.f2.toNat] := rfl
  rw [e]
  refine ev_succ ?_
  simp only [impl_readNumbers.l0]
  refine ev_pos (by simp) (ev_pos (by decide) (ev_pos (by simp) ?_))
  rw [show rdOf ByteArray.empty [numB c.f0.toNat, numB c.f1.toNat, numB c.f2.toNat] 0 = numB c.f0.toNat from rfl, readNumber_small _ 99 h.1 (by have := h.1; omega), show wrap64 (0 + 1) = 1 by rw [wrap64_id (by omega)]; rfl]
  refine Ev.bind (Ev.now _) (ev_pos rfl (ev_pos (by simp) ?_))
  refine ev_succ ?_
  simp only [impl_readNumbers.l0]
  refine ev_pos (by simp) (ev_pos (by decide) (ev_pos (by simp) ?_))
  rw [show rdOf ByteArray.empty [numB c.f0.toNat, numB c.f1.toNat, numB c.f2.toNat] 1 = numB c.f1.toNat from rfl, readNumber_small _ 99 h.2.1 (by have := h.2.1; omega), show wrap64 (1 + 1) = 2 by rw [wrap64_id (by omega)]; rfl]
  refine Ev.bind (Ev.now _) (ev_pos rfl (ev_pos (by simp) ?_))
  refine ev_succ ?_
  simp only [impl_readNumbers.l0]
  refine ev_pos (by simp) (ev_pos (by decide) (ev_pos (by simp) ?_))
  rw [show rdOf ByteArray.empty [numB c.f0.toNat, numB c.f1.toNat, numB c.f2.toNat] 2 = numB c.f2.toNat from rfl, readNumber_small _ 99 h.2.2 (by have := h.2.2; omega), show wrap64 (2 + 1) = 3 by rw [wrap64_id (by omega)]; rfl]
  refine Ev.bind (Ev.now _) (ev_pos rfl (ev_pos (by simp) ?_))
  refine ev_succ ?_
  simp only [impl_readNumbers.l0]
  exact ev_neg (by simp) (Ev.now _)
def ParseQ (s : ByteArray) (r : Int × List S54 × Bool) : Prop := (r.2.2 = true ∧ puzzleOk r.1 r.2.1 = true ∧ textB r.1 r.2.1 = s) ∨ r = (0, [], false)
theorem j1_evP (s : ByteArray) (x : Bool) (m : Int) (l : List S54) : EvP (fun k => impl_ParsePuzzle.j1 k s x m l) (ParseQ s) := by
  refine EvP.succ ?_
  simp only [impl_ParsePuzzle.j1, IsPuzzle_eq]
  refine EvP.ite (fun _ => EvP.bindE (Ev.now _) (EvP.ite (fun h => ?_) (fun _ => EvP.now (Or.inr rfl)))) (fun _ => EvP.now (Or.inr rfl))
  have hs := puzzle_small h
  refine EvP.bindE (puzzleText_ev m l (by omega) hs.2.1 hs.2.2) (EvP.ite (fun e => EvP.now (Or.inl ⟨rfl, h, ?_⟩)) (fun _ => EvP.now (Or.inr rfl)))
  exact ba_beq.1 (beq_iff_eq.2 e)
theorem j1_ok (m : Int) (l : List S54) (h : puzzleOk m l = true) : Ev (fun k => impl_ParsePuzzle.j1 k (textB m l) true m l) (m, l, true) := by
  have hs := puzzle_small h
  refine ev_succ ?_
  simp only [impl_ParsePuzzle.j1, IsPuzzle_eq, h]
  exact ev_pos (by trivial) (Ev.bind (Ev.now _) (ev_pos (by trivial) (Ev.bind (puzzleText_ev m l (by omega) hs.2.1 hs.2.2) (ev_pos (by trivial) (Ev.now _)))))
theorem Repl_some (s : ByteArray) (hs : s.size ≤ 2097152) : strings_ReplaceAll.f s (⟨#[46]⟩ : ByteArray) (⟨#[44]⟩ : ByteArray) = some (mkB (Lib.replaceAll s.data.toList [46] [44])) := by
  unfold strings_ReplaceAll.f
  have := Lib.countB_le (⟨#[46]⟩ : ByteArray) (by decide) s.size s (Nat.le_refl _)
  rw [if_pos ⟨by omega, by decide, by rw [one_size]; omega⟩]
  rfl
theorem cut_len (l sep : List UInt8) : (Lib.cut l sep).1.length ≤ l.length ∧ (Lib.cut l sep).2.1.length ≤ l.length := by
  unfold Lib.cut
  split
  · exact ⟨by simp only [List.length_take]; omega, by simp only [List.length_drop]; omega⟩
  · exact ⟨Nat.le_refl _, by simp⟩
theorem parse_evP (s : ByteArray) (hs : s.size ≤ 1048576) : EvP (fun k => impl_ParsePuzzle.f k s) (ParseQ s) := by
  unfold impl_ParsePuzzle.f
  have hc : strings_Cut.f s (⟨#[58]⟩ : ByteArray) = some (mkB (Lib.cut s.data.toList [58]).1, mkB (Lib.cut s.data.toList [58]).2.1, (Lib.cut s.data.toList [58]).2.2) := by
    unfold strings_Cut.f
    rw [if_pos (by omega)]
    rfl
  rw [hc]
  refine EvP.bindE (Ev.now _) ?_
  dsimp only
  have hcl := cut_len s.data.toList [58]
  have hsl := list_size s
  have h1 : (mkB (Lib.cut s.data.toList [58]).1).size ≤ 1048576 := by rw [mkB_size]; omega
  have h2 : (mkB (Lib.cut s.data.toList [58]).2.1).size ≤ 1048576 := by rw [mkB_size]; omega
  generalize mkB (Lib.cut s.data.toList [58]).1 = hd at h1 ⊢
  generalize mkB (Lib.cut s.data.toList [58]).2.1 = tl at h2 ⊢
  obtain ⟨r, hr⟩ := readNumber_total hd 4 (by omega) (by decide)
  rw [hr]
  refine EvP.bindE (Ev.now _) ?_
  rw [Split_some tl (by omega)]
  refine EvP.bindE (Ev.now _) ?_
  have hps : ∀ p ∈ Lib.splitB (⟨#[44]⟩ : ByteArray) 0 (Lib.countB tl (⟨#[44]⟩ : ByteArray)) tl, p.size ≤ 1048576 := fun p hp => Nat.le_trans (splitB_size tl _ _ tl p hp) h2
  have hl := split_len tl
  generalize Lib.splitB (⟨#[44]⟩ : ByteArray) 0 (Lib.countB tl (⟨#[44]⟩ : ByteArray)) tl = xs at hps hl
  refine evP_range xs.length (fun k i (c : List S54) => impl_ParsePuzzle.l0 k s tl r.2 xs (xs.length : Int) (i : Int) r.1 c) (ParseQ s) (fun i c => c.length ≤ i) ?_ ?_ 0 [] (Nat.zero_le _) (Nat.le_refl _)
  · intro c _
    refine EvP.succ ?_
    simp only [impl_ParsePuzzle.l0]
    exact EvP.neg (by omega) (j1_evP _ _ _ _)
  · intro i c hi hc ih
    refine EvP.succ ?_
    simp only [impl_ParsePuzzle.l0]
    have hp := hps _ (List.getElem_mem hi)
    refine EvP.pos (by omega) (EvP.pos (by omega) (EvP.pos (by omega) (EvP.ite (fun _ => j1_evP _ _ _ _) (fun _ => ?_))))
    rw [rdS_get hi, wrap_succ hi (by omega), Repl_some _ (by omega)]
    refine EvP.bindE (Ev.now _) (EvP.bind (readNumbers_evP _ (by rw [mkB_size, replAll_len, list_size]; omega)) fun q _ => ?_)
    refine EvP.ite (fun _ => EvP.ite (fun h3 => ?_) (fun _ => EvP.now (Or.inr rfl))) (fun _ => EvP.now (Or.inr rfl))
    refine EvP.pos (by omega) (EvP.pos (by omega) (EvP.pos (by omega) (EvP.pos (by omega) (ih _ ?_))))
    simp only [List.length_append, List.length_cons, List.length_nil]
    omega
theorem parse_ok (m : Int) (l : List S54) (h : puzzleOk m l = true) : Ev (fun k => impl_ParsePuzzle.f k (textB m l)) (m, l, true) := by
  have hsm := puzzle_small h
  have hm : 0 ≤ m ∧ m < 16 := by omega
  have hsz := textB_size (m := m) hsm.2.1
  unfold impl_ParsePuzzle.f
  have hc : strings_Cut.f (textB m l) (⟨#[58]⟩ : ByteArray) = some (numB m.toNat, mkB (bodyL l), true) := by
    unfold strings_Cut.f
    rw [if_pos (by omega)]
    have e : Lib.cut (textB m l).data.toList (⟨#[58]⟩ : ByteArray).data.toList = (digs m.toNat, bodyL l, true) := by
      rw [textB_list]
      exact cut_hit _ (digs_no _ hm (Or.inr (Or.inr rfl)))
    rw [e]
    rfl
  rw [hc]
  refine Ev.bind (Ev.now _) ?_
  dsimp only
  rw [readNumber_small m 4 hm (by omega)]
  refine Ev.bind (Ev.now _) ?_
  have hbl := body_len hsm.2.1
  rw [Split_some _ (by rw [mkB_size]; omega)]
  refine Ev.bind (Ev.now _) ?_
  dsimp only
  cases l with
  | nil =>
    have e0 : mkB (bodyL ([] : List S54)) = (⟨#[]⟩ : ByteArray) := rfl
    rw [e0]
    have e1 : Lib.splitB (⟨#[44]⟩ : ByteArray) 0 (Lib.countB (⟨#[]⟩ : ByteArray) (⟨#[44]⟩ : ByteArray)) (⟨#[]⟩ : ByteArray) = [(⟨#[]⟩ : ByteArray)] := splitB_join (⟨#[]⟩ : ByteArray) 44 [[]] rfl (by simp) (by simp)
    rw [e1]
    refine ev_succ ?_
    simp only [impl_ParsePuzzle.l0]
    exact ev_pos (by decide) (ev_pos (by decide) (ev_pos (by decide) (ev_pos (by simp) (j1_ok m [] h))))
  | cons c r =>
    have e1 : Lib.splitB (⟨#[44]⟩ : ByteArray) 0 (Lib.countB (mkB (bodyL (c :: r))) (⟨#[44]⟩ : ByteArray)) (mkB (bodyL (c :: r))) = (c :: r).map clueT := by
      rw [splitB_join (mkB (bodyL (c :: r))) 44 ((c :: r).map fun c => (clueT c).data.toList) (by rw [mkB_list]; rfl) (by simp) (fun p hp => by
        obtain ⟨x, hx, rfl⟩ := List.mem_map.1 hp
        exact clueT_no (hsm.2.2 x hx) (Or.inl rfl)), List.map_map]
      exact List.map_congr_left fun x _ => mkB_data _
    rw [e1]
    have hne : ¬ (mkB (bodyL (c :: r))).toList = [] := by
      intro e
      have e2 : mkB (bodyL (c :: r)) = ⟨#[]⟩ := ba_beq.1 (beq_iff_eq.2 (e.trans (by simp)))
      have e3 := congrArg ByteArray.size e2
      rw [mkB_size] at e3
      have := body_pos (c := c) (r := r)
      have e4 : (⟨#[]⟩ : ByteArray).size = 0 := rfl
      omega
    generalize mkB (bodyL (c :: r)) = tl at hne ⊢
    generalize c :: r = l at *
    refine ev_rangeS l.length (fun k i (q : List S54) => impl_ParsePuzzle.l0 k (textB m l) tl true (l.map clueT) ((l.map clueT).length : Int) (i : Int) m q) (fun _ _ => (m, l, true)) (fun i q => q = l.take i) ?_ ?_ 0 [] (Nat.zero_le _) rfl
    · intro q hq
      rw [List.take_length] at hq
      subst hq
      refine ev_succ ?_
      simp only [impl_ParsePuzzle.l0]
      exact ev_neg (by rw [List.length_map]; omega) (j1_ok m _ h)
    · intro i q hi hq ih
      subst hq
      refine ev_succ ?_
      simp only [impl_ParsePuzzle.l0]
      have hcl := hsm.2.2 _ (List.getElem_mem hi)
      have hcs := clueT_size l[i]
      refine ev_pos (by rw [List.length_map]; omega) (ev_pos (by omega) (ev_pos (by rw [List.length_map]; omega) (ev_neg hne ?_)))
      rw [rdS_get (by rw [List.length_map]; exact hi), wrap_succ hi (by omega), List.getElem_map, Repl_some _ (by omega)]
      refine Ev.bind (Ev.now _) (Ev.bind (readNumbers_ok l[i] hcl _ ?_ (by rw [mkB_size, replAll_len, list_size]; omega)) ?_)
      · rw [mkB_list, clueT_list, replAll_join (by decide) _ (by unfold clueP; simp) (clueP_no hcl (Or.inr (Or.inl rfl)))]
      · refine ev_pos rfl (ev_pos rfl (ev_pos (by simp) (ev_pos (by simp) (ev_pos (by simp) (ev_pos (by rw [List.length_take]; omega) ?_)))))
        exact ih _ (by rw [List.take_add_one, List.getElem?_eq_getElem hi]; rfl)
theorem sParse_evP (s : ByteArray) : EvP (fun k => spec_ParsePuzzle.f k s) (ParseQ s) := by
  unfold spec_ParsePuzzle.f
  refine EvP.bind (pzParse_evP s) fun r hr => EvP.ite (fun h => EvP.now (Or.inl ?_)) (fun _ => EvP.now (Or.inr rfl))
  exact ⟨rfl, hr h⟩
theorem sParse_ok (m : Int) (l : List S54) (h : puzzleOk m l = true) : Ev (fun k => spec_ParsePuzzle.f k (textB m l)) (m, l, true) := by
  unfold spec_ParsePuzzle.f
  exact Ev.bind (pzParse_ok m l h) (ev_pos rfl (Ev.now _))
theorem parse_same (s : ByteArray) (hs : s.size ≤ 1048576) : ∃ r, Ev (fun k => spec_ParsePuzzle.f k s) r ∧ Ev (fun k => impl_ParsePuzzle.f k s) r ∧ r.2.1.length ≤ 8 := by
  obtain ⟨a, ha, pa⟩ := sParse_evP s
  obtain ⟨b, hb, pb⟩ := parse_evP s hs
  rcases pa with ⟨_, h1, h2⟩ | pa
  · have e1 := ev_uniq ha (h2 ▸ sParse_ok _ _ h1)
    have e2 := ev_uniq hb (h2 ▸ parse_ok _ _ h1)
    refine ⟨a, ha, ?_, (puzzle_small h1).2.1⟩
    rw [e1, ← e2]
    exact hb
  · rcases pb with ⟨_, h1, h2⟩ | pb
    · have e1 := ev_uniq ha (h2 ▸ sParse_ok _ _ h1)
      have e2 := ev_uniq hb (h2 ▸ parse_ok _ _ h1)
      refine ⟨b, ?_, hb, (puzzle_small h1).2.1⟩
      rw [e2, ← e1]
      exact ha
    · refine ⟨(0, [], false), pa ▸ ha, pb ▸ hb, by simp⟩
theorem FnExactParsePuzzle_pure (a0 : ByteArray) (_ : a0.size ≤ 140737488351232) : ∃ k, laws_FnExactParsePuzzle.f k a0 = some true := by
  refine Ev.rounds ?_
  unfold laws_FnExactParsePuzzle.f
  by_cases hsz : (a0.size : Int) > 1048576
  · exact ev_pos hsz (Ev.now _)
  refine ev_neg hsz ?_
  obtain ⟨r, hsp, him, hl⟩ := parse_same a0 (by omega)
  refine Ev.bind hsp (Ev.bind him (Ev.bind (eqPuzzle_ev _ _ _ _ (by omega)) (ev_pos (by simp) (ev_neg (by simp) ?_))))
  refine Ev.bind (markPuzzle_ev _ _ (by omega)) (Ev.bind (heldPuzzle_ev _ _ (by omega)) (ev_neg (by omega) (ev_pos rfl ?_)))
  exact Ev.bind him (Ev.bind (eqPuzzle_ev _ _ _ _ (by omega)) (ev_pos (by simp) (ev_neg (by simp) (Ev.bind (heldPuzzle_ev _ _ (by omega)) (ev_neg (by omega) (ev_pos rfl (Ev.now _)))))))
theorem laid_one {P : Program} {l : List (String × DataW Unit)} {x : String × DataW Unit} {w : World} (keep : String × DataW Unit → Bool) (h : laidMetH P l w) (e : l.filter keep = [x]) (e2 : ([x].filter fun x => x.2.handleName?.isNone) = [x]) : laidMet P [x] w := by
  have h1 := h.filter keep
  rw [e] at h1
  have h2 := (laidMetH_iff.1 h1).1
  rw [e2] at h2
  exact h2
theorem row_err (u : TypeId) (h : Tryd.prog.typeName? 3 u = some "*errors.errorString") : u = 124 :=
  typeName_ptr_named (nm := "errors.errorString") (by rw [show "*" ++ "errors.errorString" = "*errors.errorString" by decide]; kernel_rfl) (by kernel_rfl) (by decide) u (by rw [show "*" ++ "errors.errorString" = "*errors.errorString" by decide]; exact h)
theorem VarsOk.of {W : World} (hs : W.ShapedOpen Tryd.prog) (hL : laidMetH Tryd.prog Rows.fnExactParsePuzzleRow.laid W) : VarsOk W := by
  refine ⟨?_, ?_, ?_⟩
  · exact cell_of_shapedOpen_int (g := 0) (t := 3) (zero := #[.int .i64 0]) hs (of_decide_eq_true (by kernel_rfl)) (by kernel_rfl) rfl (by kernel_rfl) (by kernel_rfl) Tryd.underlying3
  · have h := laid_one (x := ("strconv.ErrSyntax", Rows.laid_strconv_ErrSyntax)) (fun x => x.1 == "strconv.ErrSyntax") hL (by kernel_rfl) (by kernel_rfl)
    obtain ⟨a0, s0, hv0, -, -, -⟩ := laid_sentinel h (g := 1) (ti := 68) (by kernel_rfl) (by kernel_rfl) Tryd.underlying68 row_err Tryd.underlying124 Tryd.underlying126 rfl rfl Tryd.underlying9 (by kernel_rfl) (by kernel_rfl)
    have h0 := World.var?_cell (P := Tryd.prog) (g := 1) (by kernel_rfl) hv0 0
    exact ⟨_, _, by simpa using h0⟩
  · have h := laid_one (x := ("strconv.ErrRange", Rows.laid_strconv_ErrRange)) (fun x => x.1 == "strconv.ErrRange") hL (by kernel_rfl) (by kernel_rfl)
    obtain ⟨a0, s0, hv0, -, -, -⟩ := laid_sentinel h (g := 2) (ti := 68) (by kernel_rfl) (by kernel_rfl) Tryd.underlying68 row_err Tryd.underlying124 Tryd.underlying126 rfl rfl Tryd.underlying9 (by kernel_rfl) (by kernel_rfl)
    have h0 := World.var?_cell (P := Tryd.prog) (g := 2) (by kernel_rfl) hv0 0
    exact ⟨_, _, by simpa using h0⟩
theorem handed_shaped {H : Type} {enc : TypeId × Value → H} {a : Assume} {C : Go.Checked} {os : Os} {f : FuncId} {fn : Func} {s : ChangeSpec} {conds : List PathCond} {apart fresh handsOn again : Bool} {X : World → Array Value → Prop}
    (hX : ∀ (w w' : World) (args : Array Value), w.heap = w'.heap → X w args → X w' args)
    (own : ownKnob C.prog.godebug = none) (started : os.Started) (noInit : C.prog.inits.idxOf? f = none) (hfn : C.prog.funcs[f]? = some fn)
    (witness : ∃ (w : World) (tape : Tape) (i : Input), w.os = os ∧ (w.forCall tape i).Shaped C.prog ∧ i.vars = [] ∧ Input.okWide C.prog (w.forCall tape i) .any w.heap.size f i ∧
      ((s.pre enc C.prog fn conds apart (w.forCall tape i).memory i.args ∧ X (w.forCall tape i).memory i.args) ∧ sizedMet enc C.prog fn (OpenSpec.ofChange s) apart (w.forCall tape i).memory i.args) ∧ a.holds C.prog (lone (Frame.enter C.prog f i.args .normal) [] (w.forCall tape i)))
    (contract : ∀ (W : World) (base : Nat) (args : Array Value) (ds gs : List (DataW H)) (before : List MemPlace),
      (∀ (j : Nat) t v, fn.params[j]? = some t → args[j]? = some v → Value.okWide C.prog W .any base t v) →
      DataW.Whole enc C.prog fn.params.toList s.vars apart W args.toList ds gs before →
      conds.all (PathCond.test C.prog ⟨fn.params.toList, ds, s.plain.varTypes C.prog, gs⟩) = true →
      (DataW.weightsEach C.prog (fn.params.toList ++ s.plain.varTypes C.prog) (ds ++ gs)).all (· ≤ reachBytes) = true → (X W args ∧ W.ShapedOpen C.prog) →
      a.holds C.prog (lone (Frame.enter C.prog f args .normal) [] W) →
      Calls C.prog f args W fun e W' => ∃ v, e = .returned v ∧ s.post enc C.prog fn apart fresh handsOn again W args v W') :
    ReturnsInHanded a C os f .any (fun w args => (s.pre enc C.prog fn conds apart w args ∧ X w args) ∧ sizedMet enc C.prog fn (OpenSpec.ofChange s) apart w args) (s.post enc C.prog fn apart fresh handsOn again) := by
  refine returnsInHanded_of_calls own started noInit witness ?_
  intro w tape i _ hsh _ hok hpre hholds
  obtain ⟨_, _, _, fn', hfn', _, _, _, _, hval⟩ := hok
  have e : fn' = fn := Option.some.inj (hfn'.symm.trans hfn)
  subst e
  obtain ⟨⟨⟨ds, gs, before, hw, hc⟩, hx⟩, hz⟩ := hpre
  have hw' := DataW.Whole.of_heap (w' := w.forCall tape i) (by rfl) hw
  refine (contract (w.forCall tape i) w.heap.size i.args ds gs before hval hw' hc (hz.weights hw) ⟨hX _ _ _ (by rfl) hx, hsh⟩ hholds).mono fun e W' ⟨v, he, hp⟩ => ?_
  subst he
  exact ChangeSpec.post_blind hp
end Go.Proofs.YtdoojmkndmpgdaaDoor.Q
end
section
namespace Go.Proofs.YtdoojmkndmpgdaaDoor.fnExactParsePuzzle
open Go.ChangeShapes Go.WideShapes Go.ChangeAt Go.RowKit Go.Proofs.YtdoojmkndmpgdaaDoor.Q
open Go.ChangeMaps (open_string shut_string)
set_option linter.unusedVariables false
theorem own : ownKnob Tryd.prog.godebug = none := by kernel_rfl
set_option maxRecDepth 100000 in
theorem lifted (os : Os) (started : os.Started) (H : Type) (enc : TypeId × Value → H) :
    ReturnsInHanded {} Tryd.checked os 4 .any (fun w args => (Rows.fnExactParsePuzzleSpec.pre enc Tryd.prog Tryd.f4 Rows.fnExactParsePuzzleRow.domain false w args ∧ laidMetH Tryd.prog Rows.fnExactParsePuzzleRow.laid w) ∧ sizedMet enc Tryd.prog Tryd.f4 (OpenSpec.ofChange Rows.fnExactParsePuzzleSpec) false w args) (Rows.fnExactParsePuzzleSpec.post enc Tryd.prog Tryd.f4 false true false false) := by
  refine handed_shaped (C := Tryd.checked) (X := (fun w _ => laidMetH Tryd.prog Rows.fnExactParsePuzzleRow.laid w)) (fun _ _ _ hh h => h.of_heap hh) own started (by kernel_rfl) Tryd.func4
    (ChangeSpec.witness_shaped (enc := enc) (C := Tryd.checked) (os := os) (X := (fun w _ => laidMetH Tryd.prog Rows.fnExactParsePuzzleRow.laid w)) false (World.laidAll Tryd.prog os Rows.fnExactParsePuzzleRow.laid) #[.string ByteArray.empty] 8 (World.laidAll_os _ _ _) (World.shaped_of_ZipB (by kernel_rfl) (by kernel_rfl)) (by kernel_rfl) (by kernel_rfl) (by kernel_rfl) (laidMetH_of_parts (laidMet_laidAll _ (by kernel_rfl) (by kernel_rfl)) (by kernel_rfl))) ?_
  intro W base args ds gs before hval0 hW hcnd hsz0 hL _
  have hsz : (DataW.weightsEach Tryd.prog (Tryd.f4.params.toList ++ Rows.fnExactParsePuzzleSpec.plain.varTypes Tryd.prog) (ds ++ gs)).all (· ≤ reachBytes) = true := hsz0
  have hval : ∀ (j : Nat) t v, Tryd.f4.params[j]? = some t → args[j]? = some v → Value.okWide Tryd.prog W .any base t v := hval0
  have hW' := hW
  obtain ⟨p, q, hA0, hV, rfl, hfz, hnd⟩ := hW
  have hA : DataW.TrodAll enc Tryd.prog W 0 (fun _ => true) true Tryd.f4.params.toList args.toList ds p := hA0
  rw [Tryd.params4] at hA hval hsz
  obtain ⟨v0, vs0, d0, ds0, p0, q0, hargs, rfl, rfl, h0, r0⟩ := trodAll_cons hA
  obtain ⟨rfl, rfl, rfl⟩ := trodAll_nil r0
  obtain rfl : args = #[v0] := by cases args; simp_all
  obtain ⟨rfl, rfl⟩ := trodVars_none hV
  obtain ⟨a0, rfl, rfl, rfl, y0⟩ := open_string Tryd.underlying9 (hval 0 9 v0 rfl rfl) h0
  have g0 : a0.size ≤ 140737488351232 := by
    have z := sized_string hsz (j := 0) (t := 9) rfl rfl
    rw [Array.length_toList] at z
    exact z
  clear hA0 hval0 hsz0 hsz
  obtain ⟨k, hk⟩ := FnExactParsePuzzle_pure a0 g0
  refine (laws_FnExactParsePuzzle.calls k a0 true W hk (VarsOk.of hL.2 hL.1)).mono fun e W' ⟨he, bel⟩ => ?_
  subst he
  exact ⟨_, rfl, _, _, _, [], _, [], hW', trodAll_mk1 (shut_bool Tryd.underlying4 _), (trodAll_cons_mk (shut_string Tryd.underlying9 y0) trodAll_mk0), rfl, bel.frame _, fun h => by cases h⟩
theorem over : Rows.fnExactParsePuzzleRow.holds Tryd.pinned (OpenSpec.ofChange Rows.fnExactParsePuzzleSpec) :=
  OpenClaim.holds_of_wide 4 Tryd.f4 rfl rfl rfl rfl rfl rfl rfl ⟨rfl, rfl, rfl, rfl, rfl⟩ rfl rfl rfl rfl rfl (by kernel_rfl) Tryd.func4 (by kernel_rfl)
    (of_decide_eq_true (by kernel_rfl)) (by unfold Func.isWrapper; first | (rw [if_pos (by decide +kernel)]; kernel_rfl) | (rw [if_neg (by decide +kernel)]; exact ⟨rfl, rfl⟩))
    (fun os started H enc _ => lifted os started H enc)
theorem proved : Rows.FnExactParsePuzzleSaid := over
end Go.Proofs.YtdoojmkndmpgdaaDoor.fnExactParsePuzzle
namespace Go.Proofs.YtdoojmkndmpgdaaDoor
theorem fnExactParsePuzzle_holds : Rows.FnExactParsePuzzleCardSaid :=
  Claim7.holds_tied_plain_at .later [] [.data, .data, .data, .data, .sentinel, .sentinel, .pinned] true (true, "c2b0ef7bafcf211586baf5dbb8244c6359d77e3729343699635cb354e3a7a5b0") true
    fnExactParsePuzzle.proved (fun _ h => by cases h) (by kernel_rfl) (fun _ h => by cases h) fnExactParsePuzzle_row_tie rfl ⟨rfl, rfl⟩ (by kernel_rfl) rfl
    (fun f fn hf hfn => by
      obtain rfl : f = 4 := Option.some.inj ((show Tryd.prog.funcNamed Rows.fnExactParsePuzzleRow.func = some 4 by kernel_rfl).symm.trans hf) |>.symm
      obtain rfl : fn = Tryd.f4 := (Option.some.inj (Tryd.func4.symm.trans hfn)).symm
      exact ⟨by kernel_rfl, fun j t ht => by
        rw [Tryd.params4] at ht
        have h3 : t = 9 := by
          rcases j with _ | j
          · simpa using ht.symm
          · simp at ht
        subst h3
        exact (show Tryd.prog.wantsStandIn 9 = false by kernel_rfl)⟩)
    (by kernel_rfl)
end Go.Proofs.YtdoojmkndmpgdaaDoor
end
#print axioms Go.Proofs.YtdoojmkndmpgdaaDoor.fnExactParsePuzzle_holds

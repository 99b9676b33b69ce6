/- The row of the law FnChambersNeededOfAll: for every input it returns true, and its arguments read afterwards as before. No condition: FnChambersNeededOfAll_pure says that its pure form answers true at every input, and laws_FnChambersNeededOfAll.calls that the machine comes to just that. -/
import Derived.Test.YtodchjdgpnpdcaaGreatKFnChambersNeededOfAll8
import Derived.Test.YtodchjdgpnpdcaaGreatRows
import Derived.Laws.StructEq
section
namespace Go.Proofs.YtodchjdgpnpdcaaGreat.Q
open Go.RowKit Go.Proofs.YtodchjdgpnpdcaaGreatW.PrintWords Go.Proofs.YtodchjdgpnpdcaaGreatW.PrintLast Go.Proofs.YtodchjdgpnpdcaaGreatW.PrintMore
set_option linter.unusedVariables false
set_option linter.unusedSimpArgs false
set_option maxHeartbeats 8000000
set_option maxRecDepth 100000
theorem DN : ∀ n : Nat, n < 5 → 1 ≤ n → ∀ t ∈ Ij n, Wh t ≠ [] ∧ ∀ s ∈ Wh t, s ≠ [] := by decide +kernel
theorem EN : ∀ n : Nat, n < 5 → 1 ≤ n → ((Oh n).all fun c => c.testBit 0 || !c.testBit (2 ^ n - 1) || ((Ij n).map Xu).contains c) = true := by decide +kernel
theorem Vw {f g : Nat → Bool} {n i j m : Nat} (hn : n ≤ 9) (hi : i < n) (hj : j < n) (hm : m < 2 ^ n) (h : ∀ x, x < 2 ^ n → f x = g x) : wsB f i j m = wsB g i j m := by
 unfold wsB;cases e1 : Kk m i with
 | true => rfl
 | false =>
  cases e2 : Kk m j with
  | true => rfl
  | false => rw [h _ (add_lt m j n hn hm hj e2), h _ (add_lt m i n hn hm hi e1)]
theorem Qs {p q : Nat → Bool} {N : Nat} (h : ∀ m, m < N → p m = q m) : Xn p N 0 = Xn q N 0 := by
 unfold Xn;rw [Bool.eq_iff_iff, List.all_eq_true, List.all_eq_true];refine forall_congr' fun m => ⟨fun h1 hm => ?_, fun h1 hm => ?_⟩
 ·have := List.mem_range.1 hm; rw [← h (0 + m) (by omega)]; exact h1 hm
 ·have := List.mem_range.1 hm; rw [h (0 + m) (by omega)]; exact h1 hm
theorem yo {f g : Nat → Bool} {n : Nat} (hn : n ≤ 9) (h : ∀ x, x < 2 ^ n → f x = g x) : Vu f n = Vu g n := by
 have h1 : ∀ i j, i < n → j < n → JA f n i j = JA g n i j := fun i j hi hj => by
  unfold JA;rw [Qs (fun m hm => Vw hn hi hj hm h), Qs (fun m hm => Vw hn hj hi hm h)]
 unfold Vu;rw [Bool.eq_iff_iff, List.all_eq_true, List.all_eq_true];have key : ∀ i, i ∈ List.range n → (WJ f n i = WJ g n i) := fun i hi => by
  have hi := List.mem_range.1 hi;unfold WJ;rw [Bool.eq_iff_iff, List.all_eq_true, List.all_eq_true];refine forall_congr' fun j => ⟨fun h2 hj => ?_, fun h2 hj => ?_⟩
  ·have := List.mem_range.1 hj; rw [← h1 i j hi (by omega)]; exact h2 hj
  ·have := List.mem_range.1 hj; rw [h1 i j hi (by omega)]; exact h2 hj
 exact forall_congr' fun i => ⟨fun h2 hi => key i hi ▸ h2 hi, fun h2 hi => (key i hi).symm ▸ h2 hi⟩
theorem Rs {f g : Nat → Bool} : ∀ {N : Nat}, (∀ x, x < N → f x = g x) → Vi f N = Vi g N
 | 0, _ => rfl
 | N + 1, h => by rw [Vi, Vi, Rs (fun x hx => h x (by omega)), h N (by omega)]
theorem Vn (g : Nat → Bool) (N : Nat) : Xu (Vf g N) = Vi g N := by
 unfold Xu;rw [Lc];refine Rs fun x hx => ?_;rw [List.getD_eq_getElem?_getD, List.getElem?_eq_getElem (by rw [Lc]; exact hx), Yj]; rfl
theorem yz (g : Nat → Bool) (n : Nat) (hn : n ≤ 9) : XG n (Vf g (2 ^ n)) = Vu g n := by
 unfold XG;refine yo hn fun x hx => ?_;rw [List.getD_eq_getElem?_getD, List.getElem?_eq_getElem (by rw [Lc]; exact hx), Yj]; rfl
theorem GG (f g : Nat → Bool) (N : Nat) : XH (Vf f N) (Vf g N) = decide (Vi g N &&& Vi f N = Vi f N) := by
 have hd : ∀ (h : Nat → Bool) i, i < N → (Vf h N).getD i false = h i := fun h i hi => by
  rw [List.getD_eq_getElem?_getD, List.getElem?_eq_getElem (by rw [Lc]; exact hi), Yj]; rfl
 rw [Bool.eq_iff_iff, decide_eq_true_eq];unfold XH;rw [Lc, List.all_eq_true];constructor
 ·intro h;refine Nat.eq_of_testBit_eq fun i => ?_;rw [Nat.testBit_and, Nf, Nf];by_cases hi : i < N
  ·have := h i (List.mem_range.2 hi);rw [hd f i hi, hd g i hi] at this;revert this
   cases f i <;> cases g i <;> simp
  ·simp [hi]
 ·intro h i hi;have hi := List.mem_range.1 hi;rw [hd f i hi, hd g i hi];have := congrArg (fun x => Nat.testBit x i) h;simp only [Nat.testBit_and, Nf, hi, decide_true, Bool.true_and] at this;revert this
  cases f i <;> cases g i <;> simp
def tbS (n : Nat) (s : List (List Int)) : Nat := Vi (Vg s) (2 ^ n)
def chP (n w : Nat) (s : List (List Int)) : Bool := decide (tbS n s &&& w = w) && Vu (Vg s) n
theorem Ck (n : Nat) (l : List (List Int)) : Tu n l = Vf (Vg l) (2 ^ n) := by unfold Tu; rw [Int.toNat_natCast]
theorem KL (n : Nat) (hn : n ≤ 9) (l : List (List Int)) : chG n (Tu n l) = (Ed n).filter (chP n (tbS n l)) := by
 unfold chG;refine List.filter_congr fun s _ => ?_;rw [Ck, Ck];unfold okT chP;rw [GG, yz _ _ hn]; rfl
theorem Ww : ∀ N, Vi (fun _ => true) N = 2 ^ N - 1
 | 0 => rfl
 | N + 1 => by have := Nat.two_pow_pos N; rw [Vi, if_pos rfl, Ww N, Nat.pow_succ]; omega
theorem Wn {c N : Nat} (h : c < 2 ^ N) : (2 ^ N - 1) &&& c = c := by
 rw [Nat.and_comm, Nat.and_two_pow_sub_one_eq_mod, Nat.mod_eq_of_lt h]
def chR (n : Nat) (l : List (List Int)) : List (List (List Int)) := chL (tbS n) (tbS n l) (2 ^ 2 ^ n - 1) ((Ed n).filter (chP n (tbS n l)))
theorem DD (n : Nat) (l : List (List Int)) : ∀ s ∈ chR n l, s ∈ Ed n ∧ Vu (Vg s) n = true := by
 have key : ∀ m r, chF (tbS n) (tbS n l) ((Ed n).filter (chP n (tbS n l))) m (2 ^ 2 ^ n - 1) = some r → ∀ s ∈ r, s ∈ Ed n ∧ Vu (Vg s) n = true := fun m r h s hs => by
  have := List.mem_filter.1 ((Ol _ _ _ _ _ _ h).1 s hs);refine ⟨this.1, ?_⟩;have h2 := this.2;unfold chP at h2;rw [Bool.and_eq_true] at h2;exact h2.2
 intro s hs;unfold chR chL at hs;cases h1 : chF (tbS n) (tbS n l) ((Ed n).filter (chP n (tbS n l))) 1 (2 ^ 2 ^ n - 1) with
 | some r => rw [h1] at hs; exact key 1 r h1 s hs
 | none =>
  rw [h1] at hs;cases h2 : chF (tbS n) (tbS n l) ((Ed n).filter (chP n (tbS n l))) 2 (2 ^ 2 ^ n - 1) with
  | some r => rw [h2] at hs; exact key 2 r h2 s hs
  | none => rw [h2] at hs; cases hs
theorem NJ (n : Nat) (l : List (List Int)) : (chR n l).length ≤ 2 := by
 unfold chR chL;cases h1 : chF (tbS n) (tbS n l) ((Ed n).filter (chP n (tbS n l))) 1 (2 ^ 2 ^ n - 1) with
 | some r => have := (Ol _ _ _ _ _ _ h1).2; dsimp only; omega
 | none =>
  cases h2 : chF (tbS n) (tbS n l) ((Ed n).filter (chP n (tbS n l))) 2 (2 ^ 2 ^ n - 1) with
  | some r => have := (Ol _ _ _ _ _ _ h2).2; dsimp only [Option.getD_some]; omega
  | none => exact Nat.zero_le _
section
variable (n : Nat) (hn : 1 ≤ n ∧ n < 5) (l : List (List Int)) (hl : l.length ≤ 1048576) (hs : Jg (n : Int) l) (hne : l ≠ []) (hs0 : ∀ s ∈ l, s ≠ [])
include hn hs hne hs0
theorem Rx : chF (tbS n) (tbS n l) ((Ed n).filter (chP n (tbS n l))) 1 (2 ^ 2 ^ n - 1) ≠ none ∨ chF (tbS n) (tbS n l) ((Ed n).filter (chP n (tbS n l))) 2 (2 ^ 2 ^ n - 1) ≠ none := by
 have hm := Tk n (Vg l) (Ju l _);have h1 := List.all_eq_true.1 (EN n hn.2 hn.1) _ hm;rw [Nf, Nf, yn l hs0, Yp l n hne (fun s hs' => Jk n s 0 (Nat.two_pow_pos _) (fun x hx => by
  have h1 := (hs.2 s hs').1;have := Qj h1 x hx;omega))] at h1
 have hpos := Nat.two_pow_pos n;rw [decide_eq_true (show 2 ^ n - 1 < 2 ^ n by omega)] at h1;simp only [Bool.and_false, Bool.true_and, Bool.not_true, Bool.or_false, Bool.false_or, List.contains_iff_mem, List.mem_map] at h1;obtain ⟨t, ht, hc⟩ := h1;have hmem : ∀ t ∈ Ij n, Wh t ∈ Ed n ∧ tbS n (Wh t) = Xu t ∧ Vu (Vg (Wh t)) n = XG n t := fun t ht => by
  have hw := FI n hn.2 hn.1 t ht;rw [Ck] at hw;refine ⟨(Hg Yk _).mem_iff.2 (List.mem_map.2 ⟨t, ht, rfl⟩), ?_, ?_⟩
  ·unfold tbS; rw [← Vn, hw]
  ·rw [← yz _ _ (by omega), hw]
 have hin : ∀ t ∈ Ij n, Xu t &&& tbS n l = tbS n l → XG n t = true → Wh t ∈ (Ed n).filter (chP n (tbS n l)) := fun t ht h1 h2 => by
  obtain ⟨a, b, c⟩ := hmem t ht;refine List.mem_filter.2 ⟨a, ?_⟩;unfold chP;rw [b, c, h2, decide_eq_true h1]; rfl
 have hfull : (2 ^ 2 ^ n - 1) &&& tbS n l = tbS n l := Wn (Kj _ _);have hfu : ∀ t ∈ Ij n, (2 ^ 2 ^ n - 1) &&& tbS n (Wh t) = Xu t := fun t ht => by have h3 := (hmem t ht).2.1; rw [h3]; exact Wn (by rw [← h3]; exact Kj _ _)
 have hd := YN n hn.2 hn.1;unfold BN TN at hd;have hd := List.all_eq_true.1 hd _ (List.mem_map.2 ⟨t, ht, rfl⟩);cases h2 : XG n t with
 | true =>
  refine .inl (Kq _ _ _ _ (Wh t) (hin t ht (by rw [hc]; exact Nat.and_self _) h2) ?_);rw [hfu t ht, hc]; rfl
 | false =>
  rw [h2] at hd;simp only [Bool.false_or, List.any_eq_true, List.mem_map, Bool.and_eq_true, beq_iff_eq, Bool.not_eq_true', beq_eq_false_iff_ne] at hd;obtain ⟨_, ⟨a, ha, rfl⟩, ⟨ca, cc⟩, _, ⟨b, hb, rfl⟩, ⟨cb, hab⟩, cab⟩ := hd;dsimp only at ca cc cb hab cab;rw [hc] at cc cab;refine .inr (XJ _ _ _ _ (Wh a) (Wh b) (hin a ha (by rw [Nat.and_comm]; exact cc) ca) (hin b hb (by show Xu b &&& Vi (Vg l) (2 ^ n) = Vi (Vg l) (2 ^ n); rw [← cab, Nat.and_comm (Xu a), ← Nat.and_assoc, Nat.and_self]) cb) (fun e => hab ?_) ?_)
  ·rw [← (hmem a ha).2.1, ← (hmem b hb).2.1, e]
  ·rw [hfu a ha, (hmem b hb).2.1]; exact cab
include hl
theorem Sq : Ev (fun k => qf.f k n l) ((chR n l).map (mkG n)) := by
 have h4 : 2 ^ n ≤ 16 := Nat.pow_le_pow_right (n := 2) (by decide) (show n ≤ 4 by omega);have hgm : ∀ s : List (List Int), s.length ≤ 1048576 → Jg (n : Int) s → Ev (fun k => Be.f k (n : Int) s) (Vf (Vg s) (2 ^ n)) := fun s h1 h2 => by
  unfold Be.f;exact Ev.bind (Bq (n : Int) s h1 h2) (Rb (Ev.now _) (Ck n s))
 unfold qf.f;refine Xa (by omega) (Ev.bind (WA hn l hl hs) (Ev.bind (hgm l hl hs) ?_));rw [KL n (by omega), Int.toNat_natCast];have hlen : ((Ed n).filter (chP n (tbS n l))).length ≤ 1000000 := by
  refine Nat.le_trans (List.length_filter_le _ _) ?_;unfold Ed;rw [(Hg Yk _).length_eq, List.length_map];exact (OC n hn.2 hn.1).1
 refine Xa (by rw [List.length_map]; exact hlen) ?_;have hev := fun m => Jw n (2 ^ n) (by omega) (Vg l) ((Ed n).filter (chP n (tbS n l))) (fun s hs => by
  obtain ⟨a, b⟩ := Sl hn (List.mem_filter.1 hs).1;exact hgm s a b) m 0 (fun _ => true) [] (Nat.zero_le _)
 have hrep : List.replicate (2 ^ n) true = Vf (fun _ => true) (2 ^ n) := (List.eq_replicate_iff.2 ⟨Lc _ _, fun b hb => by unfold Vf at hb; obtain ⟨_, _, rfl⟩ := List.mem_map.1 hb; rfl⟩).symm;simp only [List.drop_zero, Ww, List.nil_append] at hev;have hsome := Rx n hn l hs hne hs0;simp only [SK];rw [hrep];unfold chR chL;have e1 := hev 1;change Ev _ (match chF (tbS n) (tbS n l) _ 1 _ with | some r => _ | none => _) at e1;cases h1 : chF (tbS n) (tbS n l) ((Ed n).filter (chP n (tbS n l))) 1 (2 ^ 2 ^ n - 1) with
 | some r =>
  rw [h1] at e1;exact Ev.bind e1 (Xa rfl (Ev.now _))
 | none =>
  rw [h1] at e1 hsome;refine Ev.bind e1 (Vb (by simp) ?_);have e2 := hev 2;change Ev _ (match chF (tbS n) (tbS n l) _ 2 _ with | some r => _ | none => _) at e2;cases h2 : chF (tbS n) (tbS n l) ((Ed n).filter (chP n (tbS n l))) 2 (2 ^ 2 ^ n - 1) with
  | some r =>
   rw [h2] at e2;exact Ev.bind e2 (Xa rfl (Ev.now _))
  | none => rw [h2] at hsome; exact absurd hsome (by simp)
end
def vtS (n : Nat) (s : List (List Int)) : S62 := ⟨(n : Int), Vf (Vg s) (2 ^ n)⟩
theorem OL {n : Nat} {L : List (List (List Int))} {i : Int} (h0 : 0 ≤ i) (h1 : i < (L.length : Int)) : Oe (L.map (vtS n)) i = vtS n (L.getD i.toNat []) := by
 have h : i.toNat < L.length := by omega
 unfold Oe;rw [List.getD_eq_getElem?_getD, List.getElem?_map, List.getElem?_eq_getElem h, List.getD_eq_getElem?_getD, List.getElem?_eq_getElem h]; rfl
theorem MJ (n : Nat) (L : List (List (List Int))) (ix : List Int) (hix : ix.length ≤ 1000) (h : ∀ i ∈ ix, 0 ≤ i ∧ i < (L.length : Int)) : Ev (fun k => Ga.l2 k (L.map (vtS n)) [] ix (ix.length : Int) 0) ((ix.map fun i => L.getD i.toNat []).map (vtS n)) := by
 have := Ld ix.length (fun k i => Ga.l2 k (L.map (vtS n)) (((ix.take i).map fun i => L.getD i.toNat []).map (vtS n)) ix (ix.length : Int) (i : Int)) (fun _ => (ix.map fun i => L.getD i.toNat []).map (vtS n)) ?_ ?_ 0 (Nat.zero_le _)
 ·simpa using this
 ·refine Ba ?_;simp only [Ga.l2];rw [List.take_length];exact Vb (Int.lt_irrefl _) (Ev.now _)
 ·intro i hi ih;obtain ⟨j0, j1⟩ := h ix[i] (List.getElem_mem hi);refine Ba ?_;simp only [Ga.l2];rw [Mi hi, OL j0 j1, Eb hi (by omega), List.length_map, List.length_map, List.length_map, List.length_take];refine Xa (by omega) (Xa (by omega) (Xa (by omega) (Xa j0 (Xa j1 (Xa (by omega) (Rb ?_ rfl))))));rw [List.take_succ_eq_append_getElem hi, List.map_append, List.map_append] at ih;exact ih
section
variable (n : Nat) (hn : 1 ≤ n ∧ n < 5) (l : List (List Int)) (hs : Jg (n : Int) l) (hne : l ≠ []) (hs0 : ∀ s ∈ l, s ≠ [])
include hn hs hne hs0
theorem QJ : Ev (fun k => Ga.l1 k (((Ed n).filter (chP n (tbS n l))).map (vtS n)) (((Ed n).filter (chP n (tbS n l))).map fun s => (tbS n s : Int)) (tbS n l : Int) 1 (n : Int) (Vf (Vg l) (2 ^ n))) ((chR n l).map (vtS n)) := by
 have h4 : 2 ^ n ≤ 16 := Nat.pow_le_pow_right (n := 2) (by decide) (show n ≤ 4 by omega);have hlen : ((Ed n).filter (chP n (tbS n l))).length ≤ 1000000 := by
  refine Nat.le_trans (List.length_filter_le _ _) ?_;unfold Ed;rw [(Hg Yk _).length_eq, List.length_map];exact (OC n hn.2 hn.1).1
 have hlt : ∀ s, tbS n s < 65536 := fun s => Nat.lt_of_lt_of_le (Kj _ _) (Nat.le_trans (Nat.pow_le_pow_right (n := 2) (by decide) h4) (by decide));have hfl : 2 ^ 2 ^ n - 1 < 65536 := Nat.lt_of_lt_of_le (Nat.sub_lt (Nat.two_pow_pos _) Nat.one_pos) (Nat.le_trans (Nat.pow_le_pow_right (n := 2) (by decide) h4) (by decide));have hfw : wrap64 (shl .i64 1 ((2 ^ n : Nat) : Int) - 1) = ((2 ^ 2 ^ n - 1 : Nat) : Int) := by
  rw [Oi (2 ^ n) h4];have := Nat.two_pow_pos (2 ^ n);rw [Uf (by omega)]; omega
 have hch := fun m (hm : m ≤ 1000) => Yw (tbS n) (tbS n l) ((Ed n).filter (chP n (tbS n l))) hlen (fun s _ => hlt s) (hlt l) m 0 (2 ^ 2 ^ n - 1) (Nat.zero_le _) hm hfl;have hcI := fun m => Qx (tbS n) (tbS n l) ((Ed n).filter (chP n (tbS n l))) [] _ 0 m (2 ^ 2 ^ n - 1) rfl;simp only [List.drop_zero] at hch hcI;have hsome := Rx n hn l hs hne hs0;have done : ∀ m ix, m ≤ 1000 → chI (tbS n) (tbS n l) ((Ed n).filter (chP n (tbS n l))) 0 m (2 ^ 2 ^ n - 1) = some ix → Ev (fun k => Ga.l2 k (((Ed n).filter (chP n (tbS n l))).map (vtS n)) [] ix (ix.length : Int) 0) ((ix.map fun i => ((Ed n).filter (chP n (tbS n l))).getD i.toNat []).map (vtS n)) := fun m ix hm h =>
  MJ n _ ix (by rw [Gu _ _ _ _ _ _ _ h]; exact hm) (fun i hi => by have := TD _ _ _ _ _ _ _ h i hi; omega)
 unfold chR chL;refine Ba ?_;simp only [Ga.l1];rw [Lc, hfw];have e1 := hch 1 (by decide);have c1 := hcI 1;cases h1 : chI (tbS n) (tbS n l) ((Ed n).filter (chP n (tbS n l))) 0 1 (2 ^ 2 ^ n - 1) with
 | some ix =>
  rw [h1] at e1 c1;rw [← c1];exact Ev.bind e1 (Xa rfl (done 1 ix (by decide) h1))
 | none =>
  rw [h1] at e1 c1;rw [← c1] at hsome ⊢;refine Ev.bind e1 (Vb (by simp) ?_);refine Ba ?_;rw [show wrap64 (1 + 1) = ((2 : Nat) : Int) from by rw [Uf (by omega)]; rfl];simp only [Ga.l1];rw [Lc, hfw];have e2 := hch 2 (by decide);have c2 := hcI 2;cases h2 : chI (tbS n) (tbS n l) ((Ed n).filter (chP n (tbS n l))) 0 2 (2 ^ 2 ^ n - 1) with
  | some ix =>
   rw [h2] at e2 c2;rw [← c2];exact Ev.bind e2 (Xa rfl (done 2 ix (by decide) h2))
  | none => rw [h2] at c2; rw [← c2] at hsome; exact absurd hsome (by simp)
theorem Yr : Ev (fun k => Ga.f k (n : Int) (Vf (Vg l) (2 ^ n))) ((chR n l).map (vtS n)) := by
 have h4 : 2 ^ n ≤ 16 := Nat.pow_le_pow_right (n := 2) (by decide) (show n ≤ 4 by omega);have hgl : (Ed n).length ≤ 1000000 := by
  unfold Ed;rw [(Hg Yk _).length_eq, List.length_map];exact (OC n hn.2 hn.1).1
 have hlt : ∀ s, tbS n s < 65536 := fun s => Nat.lt_of_lt_of_le (Kj _ _) (Nat.le_trans (Nat.pow_le_pow_right (n := 2) (by decide) h4) (by decide));unfold Ga.f;refine Ev.bind (qz n (Vg l) (2 ^ n) h4) (Ev.bind (Px hn) ?_);rw [List.length_map];have := Ld (Ed n).length (fun k i => Ga.l0 k ((((Ed n).take i).filter (chP n (tbS n l))).map (vtS n)) ((((Ed n).take i).filter (chP n (tbS n l))).map fun s => (tbS n s : Int)) (tbS n l : Int) ((Ed n).map (mkG n)) ((Ed n).length : Int) (i : Int) (n : Int) (Vf (Vg l) (2 ^ n))) (fun _ => (chR n l).map (vtS n)) ?_ ?_ 0 (Nat.zero_le _)
 ·simpa [tbS] using this
 ·refine Ba ?_;simp only [Ga.l0];rw [List.take_length];exact Vb (Int.lt_irrefl _) (QJ n hn l hs hne hs0)
 ·intro i hi ih;have hmem : (Ed n)[i] ∈ Ed n := List.getElem_mem hi;have hr : Pf ((Ed n).map (mkG n)) (i : Int) = mkG n (Ed n)[i] := by
   unfold Pf;rw [Int.toNat_natCast, List.getD_eq_getElem?_getD, List.getElem?_map, List.getElem?_eq_getElem hi]; rfl
  obtain ⟨k1, k2⟩ := Sl hn hmem;obtain ⟨t, ht, e⟩ := qo hmem;have hne2 := DN n hn.2 hn.1 t ht;rw [← e] at hne2;obtain ⟨f1, f2⟩ := Wu n (Ed n)[i] k1 k2 ⟨hn.1, by omega⟩ hne2.1 hne2.2;have hv : Ev (fun k => Gc.f k (n : Int) (Ed n)[i]) ((n : Int), Vf (Vg (Ed n)[i]) (2 ^ n)) := Rb (Sm (n : Int) _ k1 k2) (by rw [Ck]);have hfl : ∀ q, ((((Ed n).take i).filter q)).length ≤ 1000000 := fun q => Nat.le_trans (List.length_filter_le _ _) (by rw [List.length_take]; omega);have hnat : ∀ x : Int, Int.toNat (i : Int) = i := fun _ => Int.toNat_natCast i;rw [List.take_succ_eq_append_getElem hi, List.filter_append] at ih;refine Ba ?_;simp only [Ga.l0];rw [hr, Eb hi (by omega), List.length_map];refine Xa (by omega) (Xa (by omega) (Xa (by omega) (Ev.bind hv (Ev.bind (qz n (Vg (Ed n)[i]) (2 ^ n) h4) ?_))));have ea : Go.bits .and .i64 (tbS n (Ed n)[i] : Int) (tbS n l : Int) = ((tbS n (Ed n)[i] &&& tbS n l : Nat) : Int) := El _ _ (Nat.lt_trans (hlt _) (by decide)) (Nat.lt_trans (hlt _) (by decide));change Ev (fun k => if Go.bits .and .i64 (tbS n (Ed n)[i] : Int) (tbS n l : Int) = (tbS n l : Int) then _ else _) _;rw [ea];by_cases hc : tbS n (Ed n)[i] &&& tbS n l = tbS n l
  ·refine Xa (by rw [hc]) ?_;cases hcom : Vu (Vg (Ed n)[i]) n with
   | true =>
    obtain ⟨p, _, _, _, h3, _⟩ := f1 hcom;rw [List.filter_cons_of_pos (by unfold chP; rw [hcom, decide_eq_true hc]; rfl), List.filter_nil, List.map_append, List.map_append] at ih;refine Ev.bind h3 (Vb (by simp) (Xa ?_ (Xa ?_ ih)))
    ·rw [List.length_map]; exact Nat.lt_of_le_of_lt (hfl _) (by decide)
    ·rw [List.length_map]; exact Nat.lt_of_le_of_lt (hfl _) (by decide)
   | false =>
    obtain ⟨a, b, _, _, h3⟩ := f2 hcom;rw [List.filter_cons_of_neg (by unfold chP; rw [hcom, Bool.and_false]; decide), List.filter_nil, List.append_nil] at ih;exact Ev.bind h3 (Xa rfl ih)
  ·rw [List.filter_cons_of_neg (by unfold chP; rw [decide_eq_false hc, Bool.false_and]; decide), List.filter_nil, List.append_nil] at ih;exact Vb (by omega) ih
end
def Cj : List (List Nat) := [[0, 1, 3, 7, 15, 31, 63, 127, 255, 511], [2, 6, 14, 30, 62, 126, 254, 510], [4, 5, 13, 29, 61, 125, 253, 509], [8, 9, 11, 27, 59, 123, 251, 507], [16, 17, 19, 23, 55, 119, 247, 503], [32, 33, 35, 39, 47, 111, 239, 495], [64, 65, 67, 71, 79, 95, 223, 479], [128, 129, 131, 135, 143, 159, 191, 447], [256, 257, 259, 263, 271, 287, 319, 383], [10, 26, 58, 122, 250, 506], [12, 28, 60, 124, 252, 508], [18, 22, 54, 118, 246, 502], [20, 21, 53, 117, 245, 501], [24, 25, 57, 121, 249, 505], [34, 38, 46, 110, 238, 494], [36, 37, 45, 109, 237, 493], [40, 41, 43, 107, 235, 491], [48, 49, 51, 115, 243, 499], [66, 70, 78, 94, 222, 478], [68, 69, 77, 93, 221, 477], [72, 73, 75, 91, 219, 475], [80, 81, 83, 87, 215, 471], [96, 97, 99, 103, 231, 487], [130, 134, 142, 158, 190, 446], [132, 133, 141, 157, 189, 445], [136, 137, 139, 155, 187, 443], [144, 145, 147, 151, 183, 439], [160, 161, 163, 167, 175, 431], [192, 193, 195, 199, 207, 463], [258, 262, 270, 286, 318, 382], [260, 261, 269, 285, 317, 381], [264, 265, 267, 283, 315, 379], [272, 273, 275, 279, 311, 375], [288, 289, 291, 295, 303, 367], [320, 321, 323, 327, 335, 351], [384, 385, 387, 391, 399, 415], [42, 106, 234, 490], [44, 108, 236, 492], [50, 114, 242, 498], [52, 116, 244, 500], [56, 120, 248, 504], [74, 90, 218, 474], [76, 92, 220, 476], [82, 86, 214, 470], [84, 85, 213, 469], [88, 89, 217, 473], [98, 102, 230, 486], [100, 101, 229, 485], [104, 105, 233, 489], [112, 113, 241, 497], [138, 154, 186, 442], [140, 156, 188, 444], [146, 150, 182, 438], [148, 149, 181, 437], [152, 153, 185, 441], [162, 166, 174, 430], [164, 165, 173, 429], [168, 169, 171, 427], [176, 177, 179, 435], [194, 198, 206, 462], [196, 197, 205, 461], [200, 201, 203, 459], [208, 209, 211, 467], [224, 225, 227, 483], [266, 282, 314, 378], [268, 284, 316, 380], [274, 278, 310, 374], [276, 277, 309, 373], [280, 281, 313, 377], [290, 294, 302, 366], [292, 293, 301, 365], [296, 297, 299, 363], [304, 305, 307, 371], [322, 326, 334, 350], [324, 325, 333, 349], [328, 329, 331, 347], [336, 337, 339, 343], [352, 353, 355, 359], [386, 390, 398, 414], [388, 389, 397, 413], [392, 393, 395, 411], [400, 401, 403, 407], [416, 417, 419, 423], [448, 449, 451, 455], [170, 426], [172, 428], [178, 434], [180, 436], [184, 440], [202, 458], [204, 460], [210, 466], [212, 468], [216, 472], [226, 482], [228, 484], [232, 488], [240, 496], [298, 362], [300, 364], [306, 370], [308, 372], [312, 376], [330, 346], [332, 348], [338, 342], [340, 341], [344, 345], [354, 358], [356, 357], [360, 361], [368, 369], [394, 410], [396, 412], [402, 406], [404, 405], [408, 409], [418, 422], [420, 421], [424, 425], [432, 433], [450, 454], [452, 453], [456, 457], [464, 465], [480, 481]]
theorem qm : Cj.length = 126 := by kernel_rfl
theorem Tx : ((List.range 512).all fun m => Cj.any fun c => c.contains m) = true := by kernel_rfl
theorem Xw : (Cj.all fun c => c.all fun a => c.all fun b => (a &&& b == a) || (a &&& b == b)) = true := by kernel_rfl
theorem ED : ∀ (n : Nat) (l : List Nat), l.Nodup → (∀ x ∈ l, x < n) → l.length ≤ n
 | 0, [], _, _ => Nat.le_refl _
 | 0, x :: l, _, h => absurd (h x (List.mem_cons_self ..)) (by omega)
 | n + 1, l, hd, h => by
  by_cases hm : n ∈ l
  ·have := ED n (l.erase n) (hd.erase n) (fun x hx => by
    have h1 := h x (List.mem_of_mem_erase hx);have h2 : x ≠ n := fun e => (List.Nodup.not_mem_erase hd) (e ▸ hx);omega)
   rw [List.length_erase_of_mem hm] at this;omega
  ·exact Nat.le_trans (ED n l hd (fun x hx => by
    have h1 := h x hx;have h2 : x ≠ n := fun e => hm (e ▸ hx);omega)) (Nat.le_succ n)
theorem XA (l : List Nat) (h : ∀ x ∈ l, x < 512) (ha : l.Pairwise fun a b => a &&& b ≠ a ∧ a &&& b ≠ b) : l.length ≤ 126 := by
 have hf : ∀ m, m < 512 → ∃ c ∈ Cj, m ∈ c := fun m hm => by
  have := List.all_eq_true.1 Tx m (List.mem_range.2 hm);obtain ⟨c, hc, hmc⟩ := List.any_eq_true.1 this;exact ⟨c, hc, by simpa using hmc⟩
 let f := fun m => Cj.findIdx fun c => c.contains m
 have hlt : ∀ m, m < 512 → f m < 126 := fun m hm => by
  obtain ⟨c, hc, hmc⟩ := hf m hm;rw [← qm];exact List.findIdx_lt_length_of_exists ⟨c, hc, by simpa using hmc⟩
 have heq : ∀ a b, a < 512 → b < 512 → f a = f b → a &&& b = a ∨ a &&& b = b := fun a b hA hB e => by
  have la : f a < Cj.length := by rw [qm]; exact hlt a hA
  have lb : f b < Cj.length := by rw [qm]; exact hlt b hB
  have h1 : (Cj[f a]).contains a = true := List.findIdx_getElem (w := la);have h2 : (Cj[f b]).contains b = true := List.findIdx_getElem (w := lb);have h3 : Cj[f b] = Cj[f a] := by simp only [e]
  rw [h3] at h2;have := List.all_eq_true.1 (List.all_eq_true.1 (List.all_eq_true.1 Xw _ (List.getElem_mem la)) a (by simpa using h1)) b (by simpa using h2);simpa using this
 have hn : (l.map f).Nodup := by
  rw [List.Nodup, List.pairwise_map];refine ha.imp_of_mem fun {a b} hA hB hab e => ?_;rcases heq a b (h a hA) (h b hB) e with h1 | h1
  ·exact hab.1 h1
  ·exact hab.2 h1
 have := ED 126 (l.map f) hn (fun x hx => by
  obtain ⟨m, hm, rfl⟩ := List.mem_map.1 hx;exact hlt m (h m hm))
 rwa [List.length_map] at this
theorem UA (l : List (List Int)) (n : Int) (hn : -1000000 ≤ n ∧ n ≤ 1000000) (hl : ∀ x ∈ l, x.length ≤ 9223372036854775807) : Ev (fun k => Rh.f k l n) (l.all fun s => decide (s ≠ []) && Ji s n) := by
 unfold Rh.f;refine Rb (Ev.bind (qx (fun k => Pg.f k n) (fun s => !(decide (s ≠ []) && Ji s n)) l (fun x hx => ?_)) (Ev.now _)) (Uq _ _);unfold Pg.f;by_cases h : x = []
 ·subst h; exact Xa (by simp) (Ev.now _)
 ·have : x.length ≠ 0 := fun e => h (List.length_eq_zero_iff.1 e);refine Vb (by omega) (Rb (Ev.bind (VF x n hn (Nat.le_trans (hl x hx) (by decide))) (Ev.now _)) ?_);rw [decide_eq_true h, Bool.true_and]
theorem FD (m : Int) (l : List (List Int)) (hl : l.length ≤ 9223372036854775807) (h : Jg m l) : Ev (fun k => Sa.l0 k l (l.length : Int) 0 m l) (Mo (fun i => rises l i && Bl l i) l.length 0) := by
 refine Ld l.length (fun k i => Sa.l0 k l (l.length : Int) (i : Int) m l) (fun i => Mo (fun i => rises l i && Bl l i) l.length i) ?_ ?_ 0 (Nat.zero_le _)
 ·refine Ba ?_;simp only [Sa.l0];exact Vb (by omega) (Rb (Ev.now _) (Oo _ _).symm)
 ·intro i hi ih;rw [Om _ _ _ hi];have inner : rises l i = true → Ev (fun k => Sa.l1 k (i : Int) l[i] l (l.length : Int) (i : Int) l (l.length : Int) 0 m l) ((rises l i && Bl l i) && Mo (fun i => rises l i && Bl l i) l.length (i + 1)) := by
   intro hr;rw [hr, Bool.true_and];refine Ld l.length (fun k h => Sa.l1 k (i : Int) l[i] l (l.length : Int) (i : Int) l (l.length : Int) (h : Int) m l) (fun h => Mo (fun h => decide (h = i) || !(mk l i &&& mk l h == mk l h)) l.length h && Mo (fun i => rises l i && Bl l i) l.length (i + 1)) ?_ ?_ 0 (Nat.zero_le _)
   ·refine Ba ?_;simp only [Sa.l1];refine Vb (by omega) ?_;rw [Oo, Bool.true_and, Eb hi (by omega)];exact ih
   ·intro j hj ihj;refine Ba ?_;simp only [Sa.l1];refine Xa (by omega) (Xa (by omega) (Xa (by omega) ?_));rw [Ih hj, Eb hj (by omega), Om _ _ _ hj];by_cases e : j = i
    ·refine Xa (by omega) ?_;rw [decide_eq_true e];exact ihj
    ·refine Vb (by omega) (Ev.bind (h.masks hi).1 (Ev.bind (h.masks hj).1 ?_));rw [decide_eq_false e];by_cases c : (mk l i &&& mk l j == mk l j) = true
     ·refine Xa ((qj (h.lt hi) (h.lt hj)).2 c) ?_;rw [c]; exact Ev.now _
     ·refine Vb (fun x => c ((qj (h.lt hi) (h.lt hj)).1 x)) ?_;rw [Bool.not_eq_true] at c;rw [c]; exact ihj
  refine Ba ?_;simp only [Sa.l0];refine Xa (by omega) (Xa (by omega) (Xa (by omega) ?_));rw [Ih hi];by_cases h0 : i = 0
  ·subst h0;refine Vb (by omega) (Ba ?_);simp only [Sa.j2];exact Vb (by simp) (inner (by simp [rises]))
  ·have hp : i - 1 < l.length := by omega
   refine Xa (by omega) ?_;rw [Js (by omega) (by omega)];refine Xa (by omega) (Xa (by omega) ?_);rw [Ih hp];refine Ev.bind (Rn _ _ (Nat.le_trans (h.2 _ (List.getElem_mem hp)).2 (by decide))) (Ba ?_);simp only [Sa.j2];have hr : rises l i = lexB l[i - 1] l[i] := by unfold rises; rw [decide_eq_false h0, Bool.false_or, Mg hp, Mg hi]
   rw [VC, ← hr];cases hq : rises l i
   ·exact Xa (by simp) (Ev.now _)
   ·refine Vb (by simp) ?_;have := inner hq;rw [hq] at this;exact this
theorem KD (m : Int) (l : List (List Int)) (hl : l.length ≤ 9223372036854775807) (h : Jg m l) : Ev (fun k => Kb.l0 k l (l.length : Int) 0 m l) (Mo (fun i => rises l i && Po l i) l.length 0) := by
 refine Ld l.length (fun k i => Kb.l0 k l (l.length : Int) (i : Int) m l) (fun i => Mo (fun i => rises l i && Po l i) l.length i) ?_ ?_ 0 (Nat.zero_le _)
 ·refine Ba ?_;simp only [Kb.l0];exact Vb (by omega) (Rb (Ev.now _) (Oo _ _).symm)
 ·intro i hi ih;rw [Om _ _ _ hi];have inner : rises l i = true → Ev (fun k => Kb.l1 k (mk l i : Int) l (l.length : Int) (i : Int) (l.take i) ((l.take i).length : Int) 0 m l) ((rises l i && Po l i) && Mo (fun i => rises l i && Po l i) l.length (i + 1)) := by
   intro hr;rw [hr, Bool.true_and];have ht : (l.take i).length = i := by rw [List.length_take]; omega
   rw [ht];refine Ld i (fun k h => Kb.l1 k (mk l i : Int) l (l.length : Int) (i : Int) (l.take i) (i : Int) (h : Int) m l) (fun h => Mo (fun h => !(mk l i &&& mk l h == mk l i) && !(mk l i &&& mk l h == mk l h)) i h && Mo (fun i => rises l i && Po l i) l.length (i + 1)) ?_ ?_ 0 (Nat.zero_le _)
   ·refine Ba ?_;simp only [Kb.l1];refine Vb (by omega) ?_;rw [Oo, Bool.true_and, Eb hi (by omega)];exact ih
   ·intro j hj ihj;have hjl : j < l.length := by omega
    have hjt : j < (l.take i).length := by omega
    refine Ba ?_;simp only [Kb.l1];refine Xa (by omega) (Xa (by omega) (Xa (by omega) ?_));rw [Ih hjt, List.getElem_take, Eb hj (by omega), Om _ _ _ hj];refine Ev.bind (h.masks hjl).2 ?_;by_cases c : (mk l i &&& mk l j == mk l i) = true
    ·refine Xa ((qj (h.lt hi) (h.lt hjl)).2 c) ?_;rw [c]; exact Ev.now _
    ·refine Vb (fun x => c ((qj (h.lt hi) (h.lt hjl)).1 x)) ?_;rw [Bool.not_eq_true] at c;rw [c];by_cases c2 : (mk l i &&& mk l j == mk l j) = true
     ·refine Xa ((qj (h.lt hi) (h.lt hjl)).2 c2) ?_;rw [c2]; exact Ev.now _
     ·refine Vb (fun x => c2 ((qj (h.lt hi) (h.lt hjl)).1 x)) ?_;rw [Bool.not_eq_true] at c2;rw [c2]; exact ihj
  have step : rises l i = true → Ev (fun k => Kb.j1 k (i : Int) l[i] l (l.length : Int) (i : Int) false m l) ((rises l i && Po l i) && Mo (fun i => rises l i && Po l i) l.length (i + 1)) := by
   intro hr;refine Ba ?_;simp only [Kb.j1];refine Vb (by simp) (Ev.bind (h.masks hi).2 (Xa (by omega) (Xa (by omega) ?_)));simp only [Int.toNat_natCast, Option.bind_some];exact inner hr
  refine Ba ?_;simp only [Kb.l0];refine Xa (by omega) (Xa (by omega) (Xa (by omega) ?_));rw [Ih hi];by_cases h0 : i = 0
  ·subst h0;exact Vb (by omega) (step (by simp [rises]))
  ·have hp : i - 1 < l.length := by omega
   refine Xa (by omega) ?_;rw [Js (by omega) (by omega)];refine Xa (by omega) (Xa (by omega) ?_);rw [Ih hp];have hr : rises l i = lexB l[i - 1] l[i] := by unfold rises; rw [decide_eq_false h0, Bool.false_or, Mg hp, Mg hi]
   refine Ev.bind (Hl _ _ (Nat.le_trans (h.2 _ (List.getElem_mem hp)).2 (by decide))) ?_;rw [← hr];cases hq : rises l i
   ·refine Ba ?_;simp only [Kb.j1];exact Xa (by simp) (Ev.now _)
   ·have := step hq;rw [hq] at this;exact this
theorem GA (l : List (List Int)) : Mo (fun i => rises l i && Po l i) l.length 0 = Mo (fun i => rises l i && Bl l i) l.length 0 := by
 rw [Bool.eq_iff_iff, Kh, Kh];constructor
 ·intro h i hi;have hi' := h i hi;rw [Bool.and_eq_true] at hi' ⊢;refine ⟨hi'.1, (Kh _ _).2 fun j hj => ?_⟩;rcases Nat.lt_trichotomy j i with c | c | c
  ·have := (Kh _ _).1 hi'.2 j c;rw [Bool.and_eq_true] at this;rw [this.2, Bool.or_true]
  ·rw [decide_eq_true c, Bool.true_or]
  ·have hj' := h j hj;rw [Bool.and_eq_true] at hj';have := (Kh _ _).1 hj'.2 i c;rw [Bool.and_eq_true] at this;rw [Nat.and_comm, this.1, Bool.or_true]
 ·intro h i hi;have hi' := h i hi;rw [Bool.and_eq_true] at hi' ⊢;refine ⟨hi'.1, (Kh _ _).2 fun j hj => ?_⟩;have hjl : j < l.length := by omega
  have h1 := (Kh _ _).1 hi'.2 j hjl;have hj' := h j hjl;rw [Bool.and_eq_true] at hj';have h2 := (Kh _ _).1 hj'.2 i hi;rw [decide_eq_false (by omega), Bool.false_or] at h1 h2;rw [Nat.and_comm] at h2;rw [h1, h2]; rfl
theorem Yz {m : Int} {l : List (List Int)} (h : Jg m l) (ha : Mo (fun i => rises l i && Bl l i) l.length 0 = true) : l.length ≤ 126 := by
 have hlen : ((List.range l.length).map (mk l)).length = l.length := by simp
 rw [← hlen];refine XA _ (fun x hx => ?_) ?_
 ·obtain ⟨i, hi, rfl⟩ := List.mem_map.1 hx;exact h.lt (List.mem_range.1 hi)
 ·rw [List.pairwise_map];refine List.pairwise_lt_range.imp_of_mem fun {i j} hi hj hij => ?_;have key : ∀ i j, i < l.length → j < l.length → i ≠ j → mk l i &&& mk l j ≠ mk l j := fun i j hi hj hne => by
   have := (Kh _ _).1 ha i hi;rw [Bool.and_eq_true] at this;have := (Kh _ _).1 this.2 j hj;rw [decide_eq_false (by omega), Bool.false_or] at this;simpa using this
  have hi' := List.mem_range.1 hi;have hj' := List.mem_range.1 hj;exact ⟨by rw [Nat.and_comm]; exact key j i hj' hi' (by omega), key i j hi' hj' (by omega)⟩
theorem Cs (m : Int) (l : List (List Int)) (hl : l.length ≤ 9223372036854775807) (hb : ∀ x ∈ l, x.length ≤ 9223372036854775807) : Ev (fun k => Sa.f k m l) (EC m l) := by
 unfold Sa.f EC;simp only [Em, Option.bind_some];refine Ie (fun hm => ?_) (fun hm => ?_)
 ·rw [hm];have hm' := Ki.1 hm;by_cases h0 : l = []
  ·subst h0;refine Xa rfl (Ba ?_);simp only [Sa.j0];exact Xa (by simp) (Ev.now _)
  ·have : l.length ≠ 0 := fun e => h0 (List.length_eq_zero_iff.1 e);refine Vb (by omega) (Ev.bind (UA l m (by omega) hb) (Ba ?_));rw [decide_eq_true h0];simp only [Sa.j0];cases hs : l.all fun s => decide (s ≠ []) && Ji s m
   ·exact Xa (by simp) (Ev.now _)
   ·exact Vb (by simp) (FD m l hl (Jg.ofB hm hs))
 ·rw [hm];refine Ba ?_;simp only [Sa.j0];exact Xa (by simp) (Ev.now _)
theorem LD (m : Int) (l : List (List Int)) (hm : 1 ≤ m ∧ m ≤ 9) (hl : l.length ≤ 9223372036854775807) (hb : ∀ x ∈ l, x.length ≤ 9223372036854775807) : Ev (fun k => Oc.l0 k m l (l.length : Int) 0) (l.all fun s => decide (s ≠ []) && Ji s m) := by
 have := Ld l.length (fun k i => Oc.l0 k m l (l.length : Int) (i : Int)) (fun i => (l.drop i).all fun s => decide (s ≠ []) && Ji s m) ?_ ?_ 0 (Nat.zero_le _)
 ·simpa using this
 ·refine Ba ?_;simp only [Oc.l0];exact Vb (by omega) (Rb (Ev.now _) (by rw [Im]; rfl))
 ·intro i hi ih;refine Ba ?_;simp only [Oc.l0];refine Xa (by omega) (Xa (by omega) (Xa (by omega) ?_));rw [Ih hi, Eb hi (by omega), Uy _ _ _ hi];by_cases h0 : l[i] = []
  ·refine Xa (by rw [h0]; rfl) (Rb (Ev.now _) ?_);rw [decide_eq_false (by simpa using h0)]; rfl
  ·have : l[i].length ≠ 0 := fun e => h0 (List.length_eq_zero_iff.1 e);refine Vb (by omega) (Ev.bind (WF l[i] m (by omega) (Nat.le_trans (hb _ (List.getElem_mem hi)) (by decide))) ?_);rw [decide_eq_true h0, Bool.true_and];exact Ie (fun h => by rw [h]; exact ih) (fun h => by rw [h]; exact Ev.now _)
theorem NA (m : Int) (l : List (List Int)) (hl : l.length ≤ 9223372036854775807) (hb : ∀ x ∈ l, x.length ≤ 9223372036854775807) : Ev (fun k => Kb.f k m l) (EC m l) := by
 unfold Kb.f;have hS : Ev (fun k => Oc.f k m l 126) (inB m 1 9 && (inB (l.length : Int) 1 126 && l.all fun s => decide (s ≠ []) && Ji s m)) := by
  unfold Oc.f;simp only [yC, Option.bind_some];refine Ie (fun hm => ?_) (fun hm => ?_)
  ·rw [hm];refine Ba ?_;simp only [Oc.j0];cases hn : inB (l.length : Int) 1 126
   ·exact Xa (by simp) (Ev.now _)
   ·exact Vb (by simp) (LD m l (Ki.1 hm) hl hb)
  ·rw [hm];refine Ba ?_;simp only [Oc.j0];exact Xa (by simp) (Ev.now _)
 refine Ev.bind hS (Ie (fun h => ?_) (fun h => ?_))
 ·rw [Bool.and_eq_true, Bool.and_eq_true] at h;refine Rb (KD m l hl (Jg.ofB h.1 h.2.2)) ?_;have hn := Ki.1 h.2.1;unfold EC;rw [h.1, h.2.2, decide_eq_true (show l ≠ [] from fun e => by subst e; simp at hn), GA]; rfl
 ·refine Rb (Ev.now _) ?_;symm;rw [← Bool.not_eq_true];intro hg;unfold EC at hg;rw [Bool.and_eq_true, Bool.and_eq_true, Bool.and_eq_true] at hg;obtain ⟨hm, h0, hs, ha⟩ := hg;have := Yz (Jg.ofB hm hs) ha;have h0' : l.length ≠ 0 := fun e => (of_decide_eq_true h0) (List.length_eq_zero_iff.1 e);rw [hm, hs, show inB (l.length : Int) 1 126 = true from Ki.2 (by omega)] at h;cases h
theorem Cx (m : Int) (l : List (List Int)) (hl : l.length ≤ 9223372036854775807) (hb : ∀ x ∈ l, x.length ≤ 9223372036854775807) : Ev (fun k => Cf.f k m l) (EC m l && decide (m ≤ 4)) ∧ Ev (fun k => Sd.f k m l) (EC m l && decide (m ≤ 4)) := by
 constructor
 ·unfold Cf.f;exact Ev.bind (NA m l hl hb) (Ie (fun h => by rw [h, Bool.true_and]; exact Ev.now _) (fun h => by rw [h, Bool.false_and]; exact Ev.now _))
 ·unfold Sd.f;exact Ev.bind (Cs m l hl hb) (Ie (fun h => by rw [h, Bool.true_and]; exact Ev.now _) (fun h => by rw [h, Bool.false_and]; exact Ev.now _))
theorem JN {m : Int} {l : List (List Int)} (h : (EC m l && decide (m ≤ 4)) = true) : ∃ n : Nat, m = (n : Int) ∧ (1 ≤ n ∧ n < 5) ∧ Jg (n : Int) l ∧ l ≠ [] ∧ ∀ s ∈ l, s ≠ [] := by
 rw [Bool.and_eq_true, decide_eq_true_eq] at h;obtain ⟨hok, h5⟩ := h;unfold EC at hok;simp only [Bool.and_eq_true, decide_eq_true_eq] at hok;obtain ⟨hm, hne, hall, _⟩ := hok;have hs := Jg.ofB hm hall;obtain ⟨n, rfl⟩ := Int.eq_ofNat_of_zero_le (show 0 ≤ m by have := hs.1; omega);exact ⟨n, rfl, by have := hs.1; omega, hs, hne, fun s hs => of_decide_eq_true ((Bool.and_eq_true ..).mp (List.all_eq_true.1 hall s hs)).1⟩
theorem SL {α β : Type} {L : List α} {P : α → β → Prop} (d : β) (H : ∀ s ∈ L, ∃ p, P s p) : ∃ f : α → β, ∀ s ∈ L, P s (f s) := by
 have h2 : ∀ s : α, ∃ p, s ∈ L → P s p := fun s => by
  rcases Classical.em (s ∈ L) with h | h
  ·obtain ⟨p, hp⟩ := H s h;exact ⟨p, fun _ => hp⟩
  ·exact ⟨d, fun h' => absurd h' h⟩
 exact ⟨fun s => Classical.choose (h2 s), fun s hs => Classical.choose_spec (h2 s) hs⟩
def coF (f : List (List Int) → Int × List Int) (s : List (List Int)) : S40 := ⟨(f s).1, (f s).2⟩
theorem qM (n : Nat) (L : List (List (List Int))) (hL : L.length ≤ 1000) (f : List (List Int) → Int × List Int) (H : ∀ s ∈ L, Ev (fun k => Md.f k (n : Int) s) ((f s).1, (f s).2, true)) : Ev (fun k => Lb.l0 k ([] : List S40) (L.map (mkG n)) (L.length : Int) 0) (L.map (coF f), true) := by
 have := Ld L.length (fun k i => Lb.l0 k ((L.take i).map (coF f)) (L.map (mkG n)) (L.length : Int) (i : Int)) (fun _ => (L.map (coF f), true)) ?_ ?_ 0 (Nat.zero_le _)
 ·simpa using this
 ·refine Ba ?_;simp only [Lb.l0];rw [List.take_length];exact Vb (Int.lt_irrefl _) (Ev.now _)
 ·intro i hi ih;have hr : Pf (L.map (mkG n)) (i : Int) = mkG n L[i] := by
   unfold Pf;rw [Int.toNat_natCast, List.getD_eq_getElem?_getD, List.getElem?_map, List.getElem?_eq_getElem hi]; rfl
  rw [List.take_succ_eq_append_getElem hi, List.map_append] at ih;refine Ba ?_;simp only [Lb.l0];rw [hr, Eb hi (by omega), List.length_map, List.length_map, List.length_take];exact Xa (by omega) (Xa (by omega) (Xa (by omega) (Ev.bind (H _ (List.getElem_mem hi)) (Xa (by omega) ih))))
theorem yM (n : Nat) (L : List (List (List Int))) (hL : L.length ≤ 1000) (f : List (List Int) → Int × List Int) (H : ∀ s ∈ L, Ev (fun k => Yd.f k (n : Int) (Vf (Vg s) (2 ^ n))) ((f s).1, (f s).2, true)) : Ev (fun k => Ob.l0 k ([] : List S40) (L.map (vtS n)) (L.length : Int) 0) (L.map (coF f), true) := by
 have := Ld L.length (fun k i => Ob.l0 k ((L.take i).map (coF f)) (L.map (vtS n)) (L.length : Int) (i : Int)) (fun _ => (L.map (coF f), true)) ?_ ?_ 0 (Nat.zero_le _)
 ·simpa using this
 ·refine Ba ?_;simp only [Ob.l0];rw [List.take_length];exact Vb (Int.lt_irrefl _) (Ev.now _)
 ·intro i hi ih;have hr : Oe (L.map (vtS n)) (i : Int) = vtS n L[i] := by
   unfold Oe;rw [Int.toNat_natCast, List.getD_eq_getElem?_getD, List.getElem?_map, List.getElem?_eq_getElem hi]; rfl
  rw [List.take_succ_eq_append_getElem hi, List.map_append] at ih;refine Ba ?_;simp only [Ob.l0];rw [hr, Eb hi (by omega), List.length_map, List.length_map, List.length_take];exact Xa (by omega) (Xa (by omega) (Xa (by omega) (Ev.bind (H _ (List.getElem_mem hi)) (Xa (by omega) ih))))
theorem OD (a b : List Bool) (ha : a.length ≤ 1048576) : Ev (fun k => Db.f k a b) (decide (a = b)) := by
 unfold Db.f;by_cases e : a.length = b.length
 ·refine Xa (by omega) ?_;have := Ld a.length (fun k i => Db.l0 k a b (a.length : Int) (i : Int)) (fun i => decide (a.drop i = b.drop i)) ?_ ?_ 0 (Nat.zero_le _)
  ·simpa using this
  ·refine Ba ?_;simp only [Db.l0];exact Vb (Int.lt_irrefl _) (Rb (Ev.now _) (by rw [List.drop_length, e, List.drop_length]; rfl))
  ·intro i hi ih;refine Ba ?_;simp only [Db.l0];refine Xa (by omega) (Xa (by omega) (Xa (by omega) (Xa (by omega) ?_)));rw [Nl hi, Nl (show i < b.length by omega), Eb hi (by omega), List.drop_eq_getElem_cons hi, List.drop_eq_getElem_cons (show i < b.length by omega)];refine Bo (fun c => Rb (Ev.now _) ?_) (fun c => Rb ih ?_)
   ·exact (decide_eq_false (fun h => by rw [(List.cons.inj h).1] at c; simp at c)).symm
   ·have c : a[i] = b[i]'(by omega) := by simpa using c
    rw [c]; exact decide_eq_decide.2 ⟨fun h => by rw [h], fun h => (List.cons.inj h).2⟩
 ·exact Vb (by omega) (Rb (Ev.now _) (decide_eq_false (fun h => e (by rw [h]))).symm)
theorem Jz (a : List Int) (ha : a.length ≤ 1048576) : Ev (fun k => Pe.f k a a) true := by
 unfold Pe.f;refine Xa (by first | rfl | trivial) ?_;refine Ld a.length (fun k i => Pe.l0 k a a (a.length : Int) (i : Int)) (fun _ => true) ?_ ?_ 0 (Nat.zero_le _)
 ·refine Ba ?_;simp only [Pe.l0];exact Vb (Int.lt_irrefl _) (Ev.now _)
 ·intro i hi ih;refine Ba ?_;simp only [Pe.l0];rw [Eb hi (by omega)];exact Xa (by omega) (Xa (by omega) (Xa (by omega) (Xa (by omega) (Xa (by first | rfl | trivial) ih))))
theorem Dl (cs : List S40) (hl : cs.length ≤ 1000) (hb : ∀ c ∈ cs, c.f1.length ≤ 9) : Ev (fun k => La.f k cs cs) true := by
 unfold La.f;refine Xa (by first | rfl | trivial) ?_;refine Ld cs.length (fun k i => La.l0 k cs cs (cs.length : Int) (i : Int)) (fun _ => true) ?_ ?_ 0 (Nat.zero_le _)
 ·refine Ba ?_;simp only [La.l0];exact Vb (Int.lt_irrefl _) (Ev.now _)
 ·intro i hi ih;have hr : yc cs (i : Int) = cs[i] := by
   unfold yc;rw [Int.toNat_natCast]; exact Mg hi
  refine Ba ?_;simp only [La.l0];rw [hr, Eb hi (by omega)];refine Xa (by omega) (Xa (by omega) (Xa (by omega) (Xa (by omega) ?_)));refine Ev.bind (a := true) ?_ (Xa (by first | rfl | trivial) ih);unfold qh.f;exact Xa (by first | rfl | trivial) (Ev.bind (Jz _ (by have := hb _ (List.getElem_mem hi); omega)) (Ev.now _))
theorem NG (m : Int) (l : List (List Int)) (hl : l.length ≤ 1000) (hb : ∀ x ∈ l, x.length ≤ 1048576) : Ev (fun k => Yg.f k m l m l) true := by
 unfold Yg.f;refine Xa (by first | rfl | trivial) (Ev.bind (a := true) ?_ (Ev.now _));unfold Rf.f;refine Xa (by first | rfl | trivial) ?_;refine Ld l.length (fun k i => Rf.l0 k l l (l.length : Int) (i : Int)) (fun _ => true) ?_ ?_ 0 (Nat.zero_le _)
 ·refine Ba ?_;simp only [Rf.l0];exact Vb (Int.lt_irrefl _) (Ev.now _)
 ·intro i hi ih;refine Ba ?_;simp only [Rf.l0];rw [Ih hi, Eb hi (by omega)];exact Xa (by omega) (Xa (by omega) (Xa (by omega) (Xa (by omega) (Ev.bind (Jz _ (hb _ (List.getElem_mem hi))) (Xa (by first | rfl | trivial) ih)))))
theorem qE (g : Nat → Bool) (W : List Int) (hW : ∀ w ∈ W, 0 ≤ w ∧ w ≤ 5000) : ∀ (l : List Nat) (st : Int × Int), (0 ≤ st.1 → 0 ≤ (l.foldl (stW g W) st).1 ∧ (l.foldl (stW g W) st).1 ≤ st.1) ∧ ∀ m ∈ l, g m = true → (l.foldl (stW g W) st).1 ≤ wtF W m 0
 | [], st => ⟨fun h => ⟨h, Int.le_refl _⟩, fun _ h => by cases h⟩
 | x :: l, st => by
  simp only [List.foldl_cons];obtain ⟨i1, i2⟩ := qE g W hW l (stW g W st x);have hx := Cv W x 0 hW;have key : (0 ≤ st.1 → 0 ≤ (stW g W st x).1 ∧ (stW g W st x).1 ≤ st.1) ∧ (g x = true → 0 ≤ (stW g W st x).1 ∧ (stW g W st x).1 ≤ wtF W x 0) := by
   unfold stW;by_cases e : g x = true
   ·rw [if_pos e];split
    ·exact ⟨fun h => by dsimp only; omega, fun _ => by dsimp only; omega⟩
    ·exact ⟨fun h => by omega, fun _ => by omega⟩
   ·rw [if_neg e];exact ⟨fun h => ⟨h, Int.le_refl _⟩, fun h => absurd h e⟩
  refine ⟨fun h => ?_, fun m hm hg => ?_⟩
  ·have k := key.1 h;have := i1 k.1;omega
  ·rcases List.mem_cons.1 hm with rfl | hm
   ·have k := key.2 hg;have := i1 k.1;omega
   ·exact i2 m hm hg
theorem yE (g : Nat → Bool) (W : List Int) : ∀ (l : List Nat) (st : Int × Int), st.2 ≤ (l.foldl (stW g W) st).2 ∧ ∀ m ∈ l, g m = false → wtF W m 0 ≤ (l.foldl (stW g W) st).2
 | [], st => ⟨Int.le_refl _, fun _ h => by cases h⟩
 | x :: l, st => by
  simp only [List.foldl_cons];obtain ⟨i1, i2⟩ := yE g W l (stW g W st x);have key : st.2 ≤ (stW g W st x).2 ∧ (g x = false → wtF W x 0 ≤ (stW g W st x).2) := by
   unfold stW;by_cases e : g x = true
   ·rw [if_pos e];split
    ·exact ⟨Int.le_refl _, fun h => by rw [e] at h; cases h⟩
    ·exact ⟨Int.le_refl _, fun h => by rw [e] at h; cases h⟩
   ·rw [if_neg e];dsimp only;split
    ·exact ⟨by omega, fun _ => Int.le_refl _⟩
    ·exact ⟨Int.le_refl _, fun _ => by omega⟩
  refine ⟨by omega, fun m hm hg => ?_⟩;rcases List.mem_cons.1 hm with rfl | hm
  ·have := key.2 hg;omega
  ·exact i2 m hm hg
theorem VN {n : Nat} (hn : 1 ≤ n ∧ n ≤ 5) {s : List (List Int)} {p : Int × List Int} (h0 : Vg s 0 = false) (h1 : Vg s (2 ^ n - 1) = true) (hl : p.2.length = n) (hw : ∀ w ∈ p.2, 0 ≤ w ∧ w ≤ 60) {g : Nat → Bool} (hg : ∀ m, m < 2 ^ n → Vg s m = g m) (hf : Ho g (2 ^ n) p.2 = some p.1) :
 YH p.1 p.2 = true ∧ ∀ m, m < 2 ^ n → Vg s m = gW p.2 p.1 m := by
 have hpos := Nat.two_pow_pos n;have hW : Wok p.2 := ⟨by omega, fun w h => by have := hw w h; omega⟩;have g0 : g 0 = false := by rw [← hg 0 hpos]; exact h0
 obtain ⟨f1, f2⟩ := UD g (2 ^ n) hpos g0 p.2 hW p.1 hf;have hhi := (yE g p.2 (List.range (2 ^ n)) (-1, -1)).2;have hlo := (qE g p.2 hW.2 (List.range (2 ^ n)) (-1, -1)).2;have hlt : (wqR g p.2 (2 ^ n)).2 < (wqR g p.2 (2 ^ n)).1 := by
  unfold Ho at hf;split at hf
  ·cases hf
  ·omega
 have hall : ∀ m, m < 2 ^ n → Vg s m = gW p.2 p.1 m := fun m hm => by
  rw [hg m hm];unfold gW;cases e : g m with
  | true =>
   have := hlo m (List.mem_range.2 hm) e;change (wqR g p.2 (2 ^ n)).1 ≤ _ at this;exact (decide_eq_true (by omega)).symm
  | false =>
   have := hhi m (List.mem_range.2 hm) e;change _ ≤ (wqR g p.2 (2 ^ n)).2 at this;exact (decide_eq_false (by omega)).symm
 refine ⟨?_, hall⟩;have h2 := hhi 0 (List.mem_range.2 hpos) g0;change _ ≤ (wqR g p.2 (2 ^ n)).2 at h2;have h3 := Cv p.2 0 0 hW.2;have h4 := hall (2 ^ n - 1) (by omega);rw [h1] at h4;have h4 : p.1 ≤ wtF p.2 (2 ^ n - 1) 0 := of_decide_eq_true h4.symm;rw [← hl, Yu p.2 _ 0 (fun j hj => by rw [Ig, Nat.testBit_two_pow_sub_one, Nat.zero_add]; exact decide_eq_true hj)] at h4;have hs := Ns p.2 0 (fun w h => by have := hw w h; omega) (by omega) (by omega);unfold YH;rw [decide_eq_true (by omega), Bool.true_and, Bool.and_eq_true];refine ⟨List.all_eq_true.2 fun w h => Ki.2 (by have := hw w h; omega), Ki.2 (by rw [hs]; omega)⟩
theorem Nu {α : Type} (tb : α → Nat) (want : Nat) : ∀ (l : List α) (m now : Nat) (r : List α), chF tb want l m now = some r → r.foldl (fun a x => a &&& tb x) now = want
 | l, 0, now, r, h => by
  rw [Jn] at h;split at h
  ·obtain rfl := Option.some.inj h;assumption
  ·cases h
 | [], m + 1, now, r, h => by cases h
 | x :: xs, m + 1, now, r, h => by
  rw [chF] at h;cases e : chF tb want xs m (now &&& tb x) with
  | some r1 =>
   rw [e] at h;obtain rfl := Option.some.inj h;exact Nu tb want xs m _ r1 e
  | none =>
   rw [e] at h;exact Nu tb want xs (m + 1) now r h
theorem Vz {α : Type} (tb : α → Nat) (m : Nat) : ∀ (r : List α) (now : Nat), (r.foldl (fun a x => a &&& tb x) now).testBit m = (now.testBit m && r.all fun x => (tb x).testBit m)
 | [], now => by simp
 | x :: r, now => by rw [List.foldl_cons, Vz tb m r, Nat.testBit_and, List.all_cons, Bool.and_assoc]
def MG (n : Nat) (l : List (List Int)) : List (List (List Int)) := (Ed n).filter (chP n (tbS n l))
section
variable (n : Nat) (hn : 1 ≤ n ∧ n < 5) (l : List (List Int)) (hs : Jg (n : Int) l) (hne : l ≠ []) (hs0 : ∀ s ∈ l, s ≠ [])
include hn hs hne hs0
theorem Vp : ((chR n l).length = 1 ∨ ((chR n l).length = 2 ∧ chF (tbS n) (tbS n l) (MG n l) 1 (2 ^ 2 ^ n - 1) = none)) ∧ (chR n l).foldl (fun a x => a &&& tbS n x) (2 ^ 2 ^ n - 1) = tbS n l ∧ ∀ s ∈ chR n l, s ∈ MG n l := by
 have h := Rx n hn l hs hne hs0;unfold chR chL MG;cases h1 : chF (tbS n) (tbS n l) ((Ed n).filter (chP n (tbS n l))) 1 (2 ^ 2 ^ n - 1) with
 | some r =>
  have := Ol _ _ _ _ _ _ h1;exact ⟨.inl this.2, Nu _ _ _ _ _ _ h1, this.1⟩
 | none =>
  rcases h with h | h
  ·exact absurd h1 h
  ·obtain ⟨r, h2⟩ := Option.ne_none_iff_exists'.1 h;rw [h2];have := Ol _ _ _ _ _ _ h2;exact ⟨.inr ⟨this.2, rfl⟩, Nu _ _ _ _ _ _ h2, this.1⟩
theorem RJ {m : Nat} (hm : m < 2 ^ n) : ((chR n l).all fun s => Vg s m) = Vg l m := by
 have h := congrArg (fun z => Nat.testBit z m) (Vp n hn l hs hne hs0).2.1;try dsimp only at h
 rw [Vz, Nat.testBit_two_pow_sub_one, decide_eq_true hm, Bool.true_and] at h;unfold tbS at h;simp only [Nf, decide_eq_true hm, Bool.true_and] at h;exact h
omit hn hs hne hs0 in
theorem YE {s t : List (List Int)} (h : tbS n s = tbS n t) {m : Nat} (hm : m < 2 ^ n) : Vg s m = Vg t m := by
 have h := congrArg (fun z => Nat.testBit z m) h;try dsimp only at h
 unfold tbS at h;rw [Nf, Nf, decide_eq_true hm, Bool.true_and, Bool.true_and] at h;exact h
theorem YM : (chR n l).length = 1 ↔ Vu (Vg l) n = true := by
 have hsp := Vp n hn l hs hne hs0;constructor
 ·intro h;obtain ⟨x, hx⟩ := List.length_eq_one_iff.1 h;have h2 := hsp.2.1;rw [hx, List.foldl_cons, List.foldl_nil, show (2 ^ 2 ^ n - 1) &&& tbS n x = tbS n x from Wn (Kj _ _)] at h2;rw [← (DD n l x (by rw [hx]; exact List.mem_singleton.2 rfl)).2];exact yo (by omega) fun m hm => (YE n h2 hm).symm
 ·intro h;rcases hsp.1 with h1 | ⟨_, h1⟩
  ·exact h1
  ·exfalso;have hm := Tk n (Vg l) (Ju l _);have hi := List.all_eq_true.1 (EN n hn.2 hn.1) _ hm;rw [Nf, Nf, yn l hs0, Yp l n hne (fun s hs' => Jk n s 0 (Nat.two_pow_pos _) (fun x hx => by
    have h1 := (hs.2 s hs').1;have := Qj h1 x hx;omega))] at hi
   have hpos := Nat.two_pow_pos n;rw [decide_eq_true (show 2 ^ n - 1 < 2 ^ n by omega)] at hi;simp only [Bool.and_false, Bool.true_and, Bool.not_true, Bool.or_false, Bool.false_or, List.contains_iff_mem, List.mem_map] at hi;obtain ⟨t, ht, hc⟩ := hi;have hw := FI n hn.2 hn.1 t ht;rw [Ck] at hw;have e1 : tbS n (Wh t) = tbS n l := by
    unfold tbS; rw [← Vn, hw]; exact hc
   have hin : Wh t ∈ MG n l := by
    refine List.mem_filter.2 ⟨(Hg Yk _).mem_iff.2 (List.mem_map.2 ⟨t, ht, rfl⟩), ?_⟩;unfold chP;rw [e1, decide_eq_true (Nat.and_self _), Bool.true_and, ← h];exact yo (by omega) fun m hm => YE n e1 hm
   exact Kq _ _ _ _ (Wh t) hin (by rw [e1]; exact Wn (Kj _ _)) h1
theorem TJ (h2 : 1 < (chR n l).length) (j : Nat) (hj : j < (chR n l).length) : Vf (fun m => ((chR n l).eraseIdx j).all fun s => Vg s m) (2 ^ n) ≠ Vf (Vg l) (2 ^ n) := by
 intro e;have hsp := Vp n hn l hs hne hs0;rcases hsp.1 with h1 | ⟨h1, h3⟩
 ·omega
 obtain ⟨x, hx⟩ : ∃ x, (chR n l).eraseIdx j = [x] := List.length_eq_one_iff.1 (by rw [List.length_eraseIdx_of_lt hj]; omega);rw [hx] at e;have hin := hsp.2.2 x (List.mem_of_mem_eraseIdx (by rw [hx]; exact List.mem_singleton.2 rfl));have e1 : tbS n x = tbS n l := by
  unfold tbS;rw [← Vn, ← Vn, ← e];simp
 exact Kq _ _ _ _ x hin (by rw [e1]; exact Wn (Kj _ _)) h3
end
theorem Dx (a b : List Int) (ha : a.length ≤ 1048576) : Ev (fun k => Sb.f k a b) (decide (a = b)) := by
 unfold Sb.f;by_cases e : a.length = b.length
 ·refine Xa (by omega) ?_;have := Ld a.length (fun k i => Sb.l0 k a b (a.length : Int) (i : Int)) (fun i => decide (a.drop i = b.drop i)) ?_ ?_ 0 (Nat.zero_le _)
  ·simpa using this
  ·refine Ba ?_;simp only [Sb.l0];exact Vb (Int.lt_irrefl _) (Rb (Ev.now _) (by rw [List.drop_length, e, List.drop_length]; rfl))
  ·intro i hi ih;refine Ba ?_;simp only [Sb.l0];refine Xa (by omega) (Xa (by omega) (Xa (by omega) (Xa (by omega) ?_)));rw [Mi hi, Mi (show i < b.length by omega), Eb hi (by omega), List.drop_eq_getElem_cons hi, List.drop_eq_getElem_cons (show i < b.length by omega)];refine Bo (fun c => Rb ih ?_) (fun c => Rb (Ev.now _) ?_)
   ·rw [c]; exact decide_eq_decide.2 ⟨fun h => by rw [h], fun h => (List.cons.inj h).2⟩
   ·exact (decide_eq_false (fun h => c (List.cons.inj h).1)).symm
 ·exact Vb (by omega) (Rb (Ev.now _) (decide_eq_false (fun h => e (by rw [h]))).symm)
def Cr (q : Nat → Bool) (i : Nat) : List Int := ((List.range i).filter q).map fun (j : Nat) => (j : Int)
theorem JE (q : Nat → Bool) (i : Nat) : (Cr q i).length ≤ i := by unfold Cr; rw [List.length_map]; exact Nat.le_trans (List.length_filter_le _ _) (by simp)
theorem QA (q : Nat → Bool) (i : Nat) : Cr q (i + 1) = Cr q i ++ if q i = true then [(i : Int)] else [] := by
 unfold Cr;rw [List.range_succ, List.filter_append, List.map_append];congr 1;by_cases h : q i = true
 ·rw [if_pos h, List.filter_cons_of_pos h]; rfl
 ·rw [if_neg h, List.filter_cons_of_neg h]; rfl
theorem Ex (N : Nat) (hN : N ≤ 1000) (p : Int → Option Bool) (q : Nat → Bool) (h : ∀ j, j < N → p (j : Int) = some (q j)) : Ev (fun k => Vd.f k (N : Int) p) (Cr q N) := by
 unfold Vd.f;refine Ld N (fun k i => Vd.l0 p k (Cr q i) (N : Int) (i : Int)) (fun _ => Cr q N) ?_ ?_ 0 (Nat.zero_le _)
 ·refine Ba ?_;simp only [Vd.l0];exact Vb (by omega) (Ev.now _)
 ·intro i hi ih;refine Ba ?_;simp only [Vd.l0];rw [Eb hi (by omega)];rw [QA] at ih;refine Xa (by omega) (Lg (h i hi) (Ie (fun e => ?_) (fun e => ?_)))
  ·rw [if_pos e] at ih;exact Xa (by have := JE q i; omega) ih
  ·rw [if_neg (by rw [e]; decide), List.append_nil] at ih;exact ih
theorem Wz {p : Nat → Int → Option Bool} {q : Nat → Bool} : ∀ (N : Nat), (∀ m, m < N → Ev (fun k => p k (m : Int)) (q m)) → ∃ K, ∀ k, K ≤ k → ∀ m, m < N → p k (m : Int) = some (q m)
 | 0, _ => ⟨0, fun _ _ m hm => absurd hm (Nat.not_lt_zero m)⟩
 | N + 1, h => by
  obtain ⟨K, hK⟩ := Wz N (fun m hm => h m (Nat.lt_succ_of_lt hm));obtain ⟨K2, hK2⟩ := h N (Nat.lt_succ_self N);refine ⟨max K K2, fun k hk m hm => ?_⟩;by_cases e : m < N
  ·exact hK k (by omega) m e
  ·obtain rfl : m = N := by omega
   exact hK2 k (by omega)
theorem RA (N : Nat) (hN : N ≤ 1000) (p : Nat → Int → Option Bool) (q : Nat → Bool) (h : ∀ j, j < N → Ev (fun k => p k (j : Int)) (q j)) : Ev (fun k => Vd.f k (N : Int) (p k)) (Cr q N) := by
 obtain ⟨K, hK⟩ := Wz N h;obtain ⟨K2, hK2⟩ := Ex N hN (fun x => if 0 ≤ x ∧ x < (N : Int) then some (q x.toNat) else none) q (fun m hm => by rw [if_pos ⟨by omega, by omega⟩, Int.toNat_natCast]);refine ⟨max K K2, fun k hk => ?_⟩;have h2 := hK2 k (by omega);unfold Vd.f at *
 refine Mk (fun x => ?_) k _ _ _ _ h2;intro r hr;by_cases hx : 0 ≤ x ∧ x < (N : Int)
 ·rw [if_pos hx] at hr;have := hK k (by omega) x.toNat (by omega);rw [Int.toNat_of_nonneg hx.1] at this;rw [this]; exact hr
 ·rw [if_neg hx] at hr; cases hr
theorem TA (m i : Nat) (hm : m < 512) (hi : i < 9) (hb : Kk m i = true) : Go.bits .andNot .i64 (m : Int) (shl .i64 1 (i : Int)) = ((m - 2 ^ i : Nat) : Int) := by
 have hp := (Kt (show i < 9 from hi) (Nat.le_refl _)).1;rw [Oi i (by omega), Dn m (2 ^ i) (by omega) (by omega), Iz m i hm hi, if_pos hb]
theorem BA (g : Nat → Bool) (n m : Nat) (hn : n ≤ 9) (hm : m < 2 ^ n) : Ev (fun k => Ha.f k (n : Int) (Vf g (2 ^ n)) (m : Int)) (g m && Xn (fun i => !(Kk m i && g (m - 2 ^ i))) n 0) := by
 have hp : 2 ^ n ≤ 512 := Nat.pow_le_pow_right (by decide) hn;unfold Ha.f;rw [Lc, Ti hm];refine Xa (Int.natCast_nonneg _) (Xa (Int.ofNat_lt.2 hm) ?_);refine Ie (fun e => ?_) (fun e => by rw [e]; exact Ev.now _);rw [e, Bool.true_and];have := Ld n (fun k i => Ha.l0 k (m : Int) (n : Int) (i : Int) (n : Int) (Vf g (2 ^ n))) (fun i => Xn (fun i => !(Kk m i && g (m - 2 ^ i))) n i) ?_ ?_ 0 (Nat.zero_le _)
 ·exact this
 ·refine Ba ?_;simp only [Ha.l0];rw [Ry];exact Vb (Int.lt_irrefl _) (Ev.now _)
 ·intro i hi ih;refine Ba ?_;simp only [Ha.l0];rw [Tv _ _ _ hi];refine Xa (by omega) (Lg (has_eq m i (by omega) (by omega)) ?_);rw [Eb hi (by omega)];refine Ie (fun e => ?_) (fun e => by simpa [e] using ih);have l1 : m - 2 ^ i < 2 ^ n := Nat.lt_of_le_of_lt (Nat.sub_le _ _) hm;rw [TA m i (by omega) (by omega) e, Lc, Ti l1];refine Xa (by omega) (Xa (Int.natCast_nonneg _) (Xa (Int.ofNat_lt.2 l1) ?_));exact Ie (fun e2 => by simpa [e, e2] using (Ev.now _)) (fun e2 => by simpa [e, e2] using ih)
def JM : Nat → Int → List (List Int)
 | 0, _ => [[]]
 | d + 1, a => JM d (a + 1) ++ (JM d (a + 1)).map (a :: ·)
theorem Es : ∀ (l : List Int) (p : Int), Ch (some p) l = true → ∀ x ∈ l, p < x
 | [], _, _, _, h => by cases h
 | y :: l, p, h, x, hx => by
  simp only [Ch, Bool.and_eq_true, decide_eq_true_eq] at h;rcases List.mem_cons.1 hx with rfl | hx
  ·exact h.1
  ·have := Es l y h.2 x hx;omega
theorem Qu : ∀ (d : Nat) (a : Int) (x : List Int), (∀ y ∈ x, a ≤ y ∧ y < a + d) → PI x = true → x ∈ JM d a
 | 0, a, [], _, _ => by simp [JM]
 | 0, a, y :: x, h, _ => by have := h y (List.mem_cons_self ..); omega
 | d + 1, a, [], _, _ => List.mem_append_left _ (Qu d (a + 1) [] (fun _ h => by cases h) rfl)
 | d + 1, a, y :: x, h, hi => by
  have hy := h y (List.mem_cons_self ..);have hi2 : Ch (some y) x = true := by
   unfold PI at hi;simpa [Ch] using hi
  have hgt := Es x y hi2;by_cases e : y = a
  ·subst e;refine List.mem_append_right _ (List.mem_map.2 ⟨x, Qu d (y + 1) x (fun z hz => ?_) ?_, rfl⟩)
   ·have := hgt z hz;have := h z (List.mem_cons_of_mem _ hz);omega
   ·cases x with
    | nil => rfl
    | cons z x =>
     simp only [Ch, Bool.and_eq_true] at hi2;unfold PI;simp only [Ch, Bool.true_and];exact hi2.2
  ·refine List.mem_append_left _ (Qu d (a + 1) (y :: x) (fun z hz => ?_) hi);have h1 := h z hz;rcases List.mem_cons.1 hz with rfl | hz
   ·omega
   ·have := hgt z hz;omega
theorem WN : ((JM 9 0).all fun x => Xy (maskN 0 x) == x) = true := by decide +kernel
theorem BJ {x : List Int} {m : Int} (h : Ji x m = true) (hm : m ≤ 9) : Xy (maskN 0 x) = x := by
 unfold Ji at h;rw [Bool.and_eq_true] at h;have := List.all_eq_true.1 WN x (Qu 9 0 x (fun y hy => by have := Ki.1 (List.all_eq_true.1 h.1 y hy); omega) h.2);exact eq_of_beq this
def IJ (g : Nat → Bool) (n m : Nat) : Bool := g m && Xn (fun i => !(Kk m i && g (m - 2 ^ i))) n 0
theorem VM : ((List.range 5).all fun n => (List.range (2 ^ n)).all fun m => (List.range n).all fun i => !Kk m i || (decide (2 ^ i ≤ m) && (List.range (2 ^ n)).all fun s => !((m - 2 ^ i) &&& s == s) || (m &&& s == s && !(s == m)))) = true := by decide +kernel
theorem WM : ((List.range 5).all fun n => (List.range (2 ^ n)).all fun m => (List.range (2 ^ n)).all fun s => !(m &&& s == s) || (s == m || (List.range n).any fun i => Kk m i && (m - 2 ^ i) &&& s == s)) = true := by decide +kernel
theorem Xz {p : Nat → Bool} {n : Nat} : Xn p n 0 = true ↔ ∀ i, i < n → p i = true := by
 unfold Xn;rw [List.all_eq_true];exact ⟨fun h i hi => by have := h i (List.mem_range.2 (by omega)); rwa [Nat.zero_add] at this, fun h i hi => by rw [Nat.zero_add]; exact h i (by have := List.mem_range.1 hi; omega)⟩
theorem PG (n : Nat) (hn : 1 ≤ n ∧ n < 5) (l : List (List Int)) (hs : Jg (n : Int) l) (ha : Mo (fun i => rises l i && Bl l i) l.length 0 = true) : Ci lexB (Dj (IJ (Vg l) n) (2 ^ n)) = l := by
 have hN : 2 ^ n ≤ 16 := Nat.pow_le_pow_right (n := 2) (by decide) (show n ≤ 4 by omega);have hlt : ∀ x ∈ l, maskN 0 x < 2 ^ n := fun x hx => Jk n x 0 (Nat.two_pow_pos _) (fun y hy => by
  have := Qj (hs.2 x hx).1 y hy;omega)
 have hset : ∀ x ∈ l, Xy (maskN 0 x) = x := fun x hx => BJ (hs.2 x hx).1 (by omega);have hall := (Kh _ _).1 ha;have hrise : ∀ i, 0 < i → (hi : i < l.length) → lexB l[i - 1] l[i] = true := fun i h0 hi => by
  have := hall i hi;rw [Bool.and_eq_true] at this;have := this.1;unfold rises at this;rw [decide_eq_false (by omega), Bool.false_or, Mg (show i - 1 < l.length by omega), Mg hi] at this;exact this
 have hapart : ∀ x ∈ l, ∀ y ∈ l, maskN 0 x &&& maskN 0 y = maskN 0 y → x = y := fun x hx y hy h => by
  obtain ⟨i, hi, rfl⟩ := List.mem_iff_getElem.1 hx;obtain ⟨j, hj, rfl⟩ := List.mem_iff_getElem.1 hy;by_cases e : i = j
  ·subst e; rfl
  ·have := hall i hi;rw [Bool.and_eq_true] at this;have := (Kh _ _).1 this.2 j hj;rw [decide_eq_false (fun e' => e e'.symm), Bool.false_or] at this;unfold mk at this;rw [Mg hi, Mg hj, h] at this;simp at this
 refine (Ko lexB Pk (fun _ _ => Pn) Pj ?_ ?_).symm
 ·refine (List.perm_ext_iff_of_nodup ?_ ?_).2 fun x => ⟨fun hx => ?_, fun hx => ?_⟩
  ·refine List.pairwise_iff_getElem.2 fun i j hi hj hij e => ?_;have h2 := hapart _ (List.getElem_mem hi) _ (List.getElem_mem hj) (by rw [e]; exact Nat.and_self _);have := hall i hi;rw [Bool.and_eq_true] at this;have := (Kh _ _).1 this.2 j hj;rw [decide_eq_false (by omega), Bool.false_or] at this;unfold mk at this;rw [Mg hi, Mg hj, e, Nat.and_self] at this;simp at this
  ·unfold Dj;rw [List.Nodup, List.pairwise_map];refine (List.Pairwise.filter _ (List.nodup_range (n := 2 ^ n))).imp_of_mem fun {a b} ha hb hne e => hne ?_;have h1 := List.mem_range.1 (List.mem_filter.1 ha).1;have h2 := List.mem_range.1 (List.mem_filter.1 hb).1;rw [← Dq a (by omega), ← Dq b (by omega), e]
  ·refine List.mem_map.2 ⟨maskN 0 x, List.mem_filter.2 ⟨List.mem_range.2 (hlt x hx), ?_⟩, hset x hx⟩;unfold IJ;rw [Bool.and_eq_true];refine ⟨List.any_eq_true.2 ⟨x, hx, by rw [Nat.and_self, beq_self_eq_true]⟩, Xz.2 fun i hi => ?_⟩;rw [Bool.not_eq_true', Bool.and_eq_false_imp];intro hb;refine List.any_eq_false.2 fun s hs' h => ?_;have hk := List.all_eq_true.1 (List.all_eq_true.1 (List.all_eq_true.1 VM n (List.mem_range.2 (by omega))) _ (List.mem_range.2 (hlt x hx))) i (List.mem_range.2 hi);rw [hb, Bool.not_true, Bool.false_or, Bool.and_eq_true] at hk;have hk := List.all_eq_true.1 hk.2 _ (List.mem_range.2 (hlt s hs'));rw [h, Bool.not_true, Bool.false_or, Bool.and_eq_true, beq_iff_eq] at hk;have e := hapart x hx s hs' hk.1;rw [e] at hk;simp at hk
  ·obtain ⟨m, hm, rfl⟩ := List.mem_map.1 hx;obtain ⟨hm1, hm2⟩ := List.mem_filter.1 hm;have hm1 := List.mem_range.1 hm1;unfold IJ at hm2;rw [Bool.and_eq_true] at hm2;obtain ⟨s, hs', h⟩ := List.any_eq_true.1 hm2.1;have hk := List.all_eq_true.1 (List.all_eq_true.1 (List.all_eq_true.1 WM n (List.mem_range.2 (by omega))) m (List.mem_range.2 hm1)) _ (List.mem_range.2 (hlt s hs'));rw [h, Bool.not_true, Bool.false_or, Bool.or_eq_true, beq_iff_eq] at hk;rcases hk with e | hk
   ·rw [← e, hset s hs']; exact hs'
   ·obtain ⟨i, hi, h3⟩ := List.any_eq_true.1 hk;rw [Bool.and_eq_true] at h3;have h4 := Xz.1 hm2.2 i (List.mem_range.1 hi);rw [h3.1, Bool.true_and, Bool.not_eq_true'] at h4;exact absurd h3.2 (by simpa using List.any_eq_false.1 h4 s hs')
 ·refine List.pairwise_iff_getElem.2 fun i j hi hj hij => ?_;have key : ∀ d, (h : i + d < l.length) → 0 < d → lexB l[i + d] l[i] = false := fun d => by
   induction d with
   | zero => intro _ h0; omega
   | succ d ih =>
    intro h _;have h1 := Pn (hrise (i + (d + 1)) (by omega) h);by_cases h0 : d = 0
    ·subst h0;exact h1
    ·exact Pk _ _ _ h1 (ih (by omega) (by omega))
  have := key (j - i) (by omega) (by omega);simpa only [show i + (j - i) = j by omega] using this
theorem CJ (n : Nat) (hn : n ≤ 9) (g : Nat → Bool) : Ev (fun k => Dc.f k (n : Int) (Vf g (2 ^ n))) ((n : Int), Ci lexB (Dj (IJ g n) (2 ^ n))) := by
 have hp : 2 ^ n ≤ 512 := Nat.pow_le_pow_right (n := 2) (by decide) hn;unfold Dc.f;refine Ev.bind (a := Ci lexB (Dj (IJ g n) (2 ^ n))) ?_ (Ev.now _);unfold Te.f;exact KI (n : Int) (Vf g (2 ^ n)) (2 ^ n) (Lc _ _) hp (fun k m => Ha.f k (n : Int) (Vf g (2 ^ n)) m) (IJ g n) (fun m hm => BA g n m hn hm)
theorem XM (n : Nat) (L : List (List (List Int))) (i : Nat) (hi : i < 2 ^ n) : Me.f (i : Int) (L.map (vtS n)) false = some (L.all fun s => Vg s i) := by
 unfold Me.f Ui.f;rw [Tp (q := fun v : S62 => (v.f1.getD i false) == false) (fun v hv => ?_)]
 ·refine congrArg some ?_;rw [List.any_map];induction L with
  | nil => rfl
  | cons s L ih =>
   have h1 : ((vtS n s).f1.getD i false) = Vg s i := by
    show (Vf (Vg s) (2 ^ n)).getD i false = Vg s i;unfold Vf;rw [List.getD_eq_getElem?_getD, List.getElem?_map, List.getElem?_range hi]; rfl
   simp only [List.any_cons, List.all_cons, Function.comp_apply, h1] at ih ⊢;rw [← ih];cases Vg s i <;> cases (L.any ((fun v : S62 => (v.f1.getD i false) == false) ∘ vtS n)) <;> rfl
 ·obtain ⟨s, _, rfl⟩ := List.mem_map.1 hv;unfold Ke.f;have h2 : (vtS n s).f1.length = 2 ^ n := Lc _ _;rw [if_pos (Int.natCast_nonneg _), if_pos (by rw [h2]; exact Int.ofNat_lt.2 hi)];unfold yf;rw [Int.toNat_natCast]
theorem Uw {α β : Type} (f : α → β) : ∀ (l : List α) (j : Nat), (l.map f).eraseIdx j = (l.eraseIdx j).map f
 | [], _ => rfl
 | _ :: _, 0 => rfl
 | x :: l, j + 1 => congrArg (f x :: ·) (Uw f l j)
theorem UH (n : Nat) (hn : n ≤ 9) (L : List (List (List Int))) (hL : 0 < L.length ∧ L.length ≤ 1000) (f : List (List Int) → Int × List Int) (H : ∀ s ∈ L, Ev (fun k => Ic.f k (f s).1 (f s).2) ((n : Int), Vf (Vg s) (2 ^ n))) :
 Ev (fun k => Jb.f k (L.map (coF f)) false) ((n : Int), Vf (fun m => L.all fun s => Vg s m) (2 ^ n)) := by
 unfold Jb.f;rw [List.length_map];have := Ld L.length (fun k i => Jb.l0 k (L.map (coF f)) (L.length : Int) (i : Int) false ((L.take i).map (vtS n))) (fun _ => ((n : Int), Vf (fun m => L.all fun s => Vg s m) (2 ^ n))) ?_ ?_ 0 (Nat.zero_le _)
 ·simpa using this
 ·refine Ba ?_;simp only [Jb.l0];rw [List.take_length];have hr : Oe (L.map (vtS n)) 0 = vtS n (L.getD (0 : Int).toNat []) := OL (Int.le_refl _) (by omega);refine Vb (by omega) (Xa (by rw [List.length_map]; omega) ?_);rw [hr];refine Ev.bind (a := ((n : Int), Vf (fun m => L.all fun s => Vg s m) (2 ^ n))) ?_ (Ev.now _);unfold Jj.f;have := Kn (fun mask => Me.f mask (L.map (vtS n)) false) (fun m => L.all fun s => Vg s m) (n : Int) (by omega) (fun i hi => XM n L i (by rwa [Int.toNat_natCast] at hi));rwa [Int.toNat_natCast] at this
 ·intro i hi ih;have hr : yc (L.map (coF f)) (i : Int) = coF f L[i] := by
   unfold yc;rw [Int.toNat_natCast, List.getD_eq_getElem?_getD, List.getElem?_map, List.getElem?_eq_getElem hi]; rfl
  rw [List.take_succ_eq_append_getElem hi, List.map_append] at ih;refine Ba ?_;simp only [Jb.l0];rw [hr, Eb hi (by omega), List.length_map, List.length_map, List.length_take];exact Xa (by omega) (Xa (by omega) (Xa (by omega) (Ev.bind (H _ (List.getElem_mem hi)) (Xa (by omega) ih))))
theorem DJ (n : Nat) (L : List (List (List Int))) (hL : 0 < L.length ∧ L.length ≤ 4) (f : List (List Int) → Int × List Int) (H : ∀ s ∈ L, YH (f s).1 (f s).2 = true ∧ (f s).2.length = n) (hn : n ≤ 9) :
 Ev (fun k => Ye.f k (L.map (coF f))) true := by
 unfold Ye.f;simp only [Em, Option.bind_some];rw [show inB ((L.map (coF f)).length : Int) 1 4 = true from Ki.2 (by rw [List.length_map]; omega)];refine Xa rfl (Ev.bind (a := false) ?_ (Ev.now _));unfold Ei.f;refine Rb (qx (fun k (c : S40) => Mc.f k c.f0 c.f1 (L.map (coF f))) (fun _ => false) _ (fun c hc => ?_)) (by simp);obtain ⟨s, hs, rfl⟩ := List.mem_map.1 hc;have h := H s hs;have h0 : yc (L.map (coF f)) 0 = coF f (L[0]'hL.1) := by
  unfold yc;rw [show (0 : Int).toNat = 0 from rfl, List.getD_eq_getElem?_getD, List.getElem?_map, List.getElem?_eq_getElem hL.1]; rfl
 unfold Mc.f;refine Ev.bind (Ql _ _ (by show (f s).2.length ≤ _; omega)) (Xa h.1 (Xa (by rw [List.length_map]; omega) (Rb (Ev.now _) ?_)));rw [h0];show (((f s).2.length : Int) != ((f L[0]).2.length : Int)) = false;rw [h.2, (H _ (List.getElem_mem hL.1)).2];simp
theorem RG (n : Nat) (hn : 1 ≤ n ∧ n < 5) (s : List (List Int)) (p : Int × List Int) (h1 : YH p.1 p.2 = true ∧ p.2.length = n ∧ ∀ w ∈ p.2, 0 ≤ w ∧ w ≤ 5000) (h2 : Ev (fun k => Ic.f k p.1 p.2) ((n : Int), Vf (Vg s) (2 ^ n))) (h3 : Ev (fun k => Yd.f k (n : Int) (Vf (Vg s) (2 ^ n))) (p.1, p.2, true)) :
 Ev (fun k => Gf.f k p.1 p.2) (true, true) := by
 unfold Gf.f;refine Ev.bind (a := (p.1, p.2, true)) ?_ (Xa rfl (Ev.bind (a := true) ?_ (Ev.now _)))
 ·unfold qc.f;refine Ev.bind (Rb (Ql _ _ (by omega)) h1.1) (Xa rfl (Ba ?_));simp only [qc.j0];refine Vb (by simp; omega) (Ev.bind h2 (Ev.bind h3 (Ev.now _)))
 ·unfold Qf.f;exact Xa rfl (Ev.bind (Dx p.2 p.2 (by omega)) (Rb (Ev.now _) (by simp)))
theorem EA (n : Nat) (hn : 1 ≤ n ∧ n < 5) (l : List (List Int)) (hs : Jg (n : Int) l) (ha : Mo (fun i => rises l i && Bl l i) l.length 0 = true) (cs : List S40) (h1 : Ev (fun k => Ye.f k cs) true) (h2 : Ev (fun k => Jb.f k cs false) ((n : Int), Vf (Vg l) (2 ^ n))) :
 Ev (fun k => Df.f k cs) ((n : Int), l, true) := by
 unfold Df.f;have h3 := CJ n (by omega) (Vg l);rw [PG n hn l hs ha] at h3;exact Ev.bind h1 (Xa rfl (Ev.bind h2 (Ev.bind h3 (Ev.now _))))
theorem Fx (n : Nat) (hn : n ≤ 9) (T : List Bool) (L : List (List (List Int))) (hL : 0 < L.length ∧ L.length ≤ 4) (f : List (List Int) → Int × List Int) (h1 : Ev (fun k => Ye.f k (L.map (coF f))) true) (h2 : Ev (fun k => Jb.f k (L.map (coF f)) false) ((n : Int), T))
 (H : ∀ s ∈ L, Ev (fun k => Ic.f k (f s).1 (f s).2) ((n : Int), Vf (Vg s) (2 ^ n))) (hT : 1 < L.length → ∀ j, j < L.length → Vf (fun m => (L.eraseIdx j).all fun s => Vg s m) (2 ^ n) ≠ T) :
 Ev (fun k => Cc.f k (L.map (coF f))) ([], true) := by
 unfold Cc.f;refine Ev.bind h1 (Xa rfl (Ev.bind h2 (Ev.bind (a := []) ?_ (Ev.now _))));unfold Bj.f;refine Rb (RA (L.map (coF f)).length (by rw [List.length_map]; omega) (fun k j => Pb.f k j (L.map (coF f)) (n : Int) T) (fun _ => false) ?_) (by simp [Cr]);intro j hj;rw [List.length_map] at hj;unfold Pb.f;by_cases h4 : 1 < L.length
 ·refine Xa (by rw [List.length_map]; omega) ?_;have hp : 2 ^ n ≤ 512 := Nat.pow_le_pow_right (n := 2) (by decide) hn;have e1 : Sg.f (L.map (coF f)) = some (L.map (coF f)) := if_pos (by rw [List.length_map]; omega);have e2 : Tg.f (L.map (coF f)) (j : Int) (wrap64 ((j : Int) + 1)) = some ((L.eraseIdx j).map (coF f)) := by
   unfold Tg.f;rw [if_pos ⟨Int.natCast_nonneg _, by rw [List.length_map]; omega, by unfold wrap64; omega⟩, Int.toNat_natCast, Uw]
  simp only [e1, e2, Option.bind_some];refine Ev.bind (UH n hn (L.eraseIdx j) (by rw [List.length_eraseIdx_of_lt hj]; omega) f (fun s hs => H s (List.mem_of_mem_eraseIdx hs))) (Ev.bind (a := false) ?_ (Ev.now _));unfold Cg.f;exact Ev.bind (OD _ T (by rw [Lc]; omega)) (Rb (Ev.now _) (decide_eq_false (hT h4 j hj)))
 ·exact Vb (by rw [List.length_map]; omega) (Ev.now _)
theorem XN (n : Nat) (hn : 1 ≤ n ∧ n < 5) (l : List (List Int)) : ∃ f : List (List Int) → Int × List Int, ∀ s ∈ chR n l, (YH (f s).1 (f s).2 = true ∧ (f s).2.length = n ∧ ∀ w ∈ (f s).2, 0 ≤ w ∧ w ≤ 5000) ∧ Ev (fun k => Md.f k (n : Int) s) ((f s).1, (f s).2, true) ∧ Ev (fun k => Yd.f k (n : Int) (Vf (Vg s) (2 ^ n))) ((f s).1, (f s).2, true) ∧ Ev (fun k => Ic.f k (f s).1 (f s).2) ((n : Int), Vf (Vg s) (2 ^ n)) := by
 refine SL (L := chR n l) (P := fun s p => (YH p.1 p.2 = true ∧ p.2.length = n ∧ ∀ w ∈ p.2, 0 ≤ w ∧ w ≤ 5000) ∧ Ev (fun k => Md.f k (n : Int) s) (p.1, p.2, true) ∧ Ev (fun k => Yd.f k (n : Int) (Vf (Vg s) (2 ^ n))) (p.1, p.2, true) ∧ Ev (fun k => Ic.f k p.1 p.2) ((n : Int), Vf (Vg s) (2 ^ n))) ((0, []) : Int × List Int) (fun s hs => ?_);obtain ⟨h1, h2⟩ := DD n l s hs;obtain ⟨k1, k2⟩ := Sl hn h1;obtain ⟨t, ht, e⟩ := qo h1;have hne2 := DN n hn.2 hn.1 t ht;rw [← e] at hne2;obtain ⟨p, ⟨p1, p2⟩, e1, e2, _, ⟨q1, q2⟩, W, q, _, hg, hf⟩ := (Wu n s k1 k2 ⟨hn.1, by omega⟩ hne2.1 hne2.2).1 h2;obtain ⟨c1, c2⟩ := VN ⟨hn.1, by omega⟩ (yn s hne2.2) (Yp s n hne2.1 (fun x hx => Jk n x 0 (Nat.two_pow_pos _) (fun y hy => by
  have := Qj (k2.2 x hx).1 y hy;omega))) q1 (fun w h => ⟨(p2 w h).1, q2 w h⟩) hg hf
 have hv := YA p.1 p.2 ⟨p1, p2⟩;rw [q1] at hv;exact ⟨p, ⟨c1, q1, p2⟩, e1, e2, Rb hv (by rw [Sn c2])⟩
theorem FnChambersNeededOfAll_pure (a0_0 : Int) (l0_1 : List (List Int)) (g0 : I64 a0_0 ∧ ∀ y ∈ l0_1, ∀ z ∈ y, I64 z) (h1 : l0_1.length ≤ 9223372036854775807) (h2 : ∀ x ∈ l0_1, x.length ≤ 9223372036854775807) : ∃ k, laws_FnChambersNeededOfAll.f k a0_0 l0_1 = some true := by
 refine Ev.rounds ?_;unfold laws_FnChambersNeededOfAll.f;obtain ⟨hS, hI⟩ := Cx a0_0 l0_1 h1 h2;cases hc : (EC a0_0 l0_1 && decide (a0_0 ≤ 4)) with
 | false =>
  rw [hc] at hS hI;have e1 : Ev (fun k => Ob.f k a0_0 l0_1) (([] : List S40), false) := by
   unfold Ob.f;exact Ev.bind hI (Vb (by decide) (Ev.now _))
  have e2 : Ev (fun k => Lb.f k a0_0 l0_1) (([] : List S40), false) := by
   unfold Lb.f;exact Ev.bind hS (Vb (by decide) (Ev.now _))
  have e3 : Ev (fun k => Pd.f k a0_0 l0_1) (0, false) := by
   unfold Pd.f;exact Ev.bind hI (Vb (by decide) (Ev.now _))
  have e4 : Ev (fun k => qd.f k a0_0 l0_1) (0, false) := by
   unfold qd.f;exact Ev.bind hS (Vb (by decide) (Ev.now _))
  exact Ev.bind e1 (Ev.bind e2 (Ev.bind e3 (Ev.bind e4 (Vb (by simp) (Ev.bind (Dl [] (by simp) (by simp)) (Xa rfl (Vb (by simp) (Xa rfl (Vb (by simp) (Vb (by simp) (Ev.now _)))))))))))
 | true =>
  have hgm := hc;rw [hc] at hS hI;obtain ⟨n, rfl, hn, hs, hne, hs0⟩ := JN hc;rw [Bool.and_eq_true] at hgm;have hok := hgm.1;unfold EC at hok;simp only [Bool.and_eq_true, decide_eq_true_eq] at hok;obtain ⟨_, _, _, ha⟩ := hok;have hl := Yz hs ha;have hv : Ev (fun k => Gc.f k (n : Int) l0_1) ((n : Int), Vf (Vg l0_1) (2 ^ n)) := Rb (Sm (n : Int) l0_1 (by omega) hs) (by rw [Ck]);obtain ⟨f, hf⟩ := XN n hn l0_1;have hsp := Vp n hn l0_1 hs hne hs0;have hlen : 0 < (chR n l0_1).length ∧ (chR n l0_1).length ≤ 2 := ⟨by omega, NJ n l0_1⟩;have e1 : Ev (fun k => Ob.f k (n : Int) l0_1) ((chR n l0_1).map (coF f), true) := by
   unfold Ob.f;refine Ev.bind hI (Xa rfl (Ev.bind hv (Ev.bind (Yr n hn l0_1 hs hne hs0) ?_)));rw [List.length_map];exact yM n _ (by omega) f (fun s hs => (hf s hs).2.2.1)
  have e2 : Ev (fun k => Lb.f k (n : Int) l0_1) ((chR n l0_1).map (coF f), true) := by
   unfold Lb.f;refine Ev.bind hS (Xa rfl (Ev.bind (Sq n hn l0_1 (by omega) hs hne hs0) ?_));rw [List.length_map];exact qM n _ (by omega) f (fun s hs => (hf s hs).2.1)
  have e3 : Ev (fun k => Pd.f k (n : Int) l0_1) (((chR n l0_1).length : Int), true) := by
   unfold Pd.f;exact Ev.bind hI (Xa rfl (Ev.bind hv (Ev.bind (Yr n hn l0_1 hs hne hs0) (Rb (Ev.now _) (by rw [List.length_map])))))
  have e4 : Ev (fun k => qd.f k (n : Int) l0_1) (((chR n l0_1).length : Int), true) := by
   unfold qd.f;exact Ev.bind hS (Xa rfl (Ev.bind (Sq n hn l0_1 (by omega) hs hne hs0) (Rb (Ev.now _) (by rw [List.length_map]))))
  have e5 : Ev (fun k => La.f k ((chR n l0_1).map (coF f)) ((chR n l0_1).map (coF f))) true := Dl _ (by rw [List.length_map]; omega) (fun c hc => by
   obtain ⟨s, hs, rfl⟩ := List.mem_map.1 hc;have := (hf s hs).1.2.1;show (f s).2.length ≤ 9;omega)
  have e6 : Ev (fun k => Le.f k (n : Int) l0_1) (Vu (Vg l0_1) n, true) := by
   have hF : Ev (fun k => Bf.f k (n : Int) l0_1) true := by
    unfold Bf.f;exact Ev.bind (Rb (Cs (n : Int) l0_1 h1 h2) hgm.1) (Xa rfl (Rb (Ev.now _) (decide_eq_true (by omega))))
   obtain ⟨f1, f2⟩ := Wu n l0_1 (by omega) hs ⟨hn.1, by omega⟩ hne hs0;unfold Le.f;refine Ev.bind hF (Xa rfl (Ev.bind hv ?_));cases hcom : Vu (Vg l0_1) n with
   | true =>
    obtain ⟨_, _, _, _, h3, _⟩ := f1 hcom;exact Ev.bind h3 (Ev.now _)
   | false =>
    obtain ⟨_, _, _, _, h3⟩ := f2 hcom;exact Ev.bind h3 (Ev.now _)
  have hT : Vf (fun m => (chR n l0_1).all fun s => Vg s m) (2 ^ n) = Vf (Vg l0_1) (2 ^ n) := Sn fun m hm => RJ n hn l0_1 hs hne hs0 hm;have e7 := DJ n (chR n l0_1) ⟨hlen.1, by omega⟩ f (fun s hs => ⟨(hf s hs).1.1, (hf s hs).1.2.1⟩) (by omega);have e8 : Ev (fun k => Jb.f k ((chR n l0_1).map (coF f)) false) ((n : Int), Vf (Vg l0_1) (2 ^ n)) := by
   rw [← hT];exact UH n (by omega) (chR n l0_1) ⟨hlen.1, by omega⟩ f (fun s hs => (hf s hs).2.2.2)
  have e9 := EA n hn l0_1 hs ha _ e7 e8;have e10 := Fx n (by omega) (Vf (Vg l0_1) (2 ^ n)) (chR n l0_1) ⟨hlen.1, by omega⟩ f e7 e8 (fun s hs => (hf s hs).2.2.2) (fun h j hj => TJ n hn l0_1 hs hne hs0 h j hj);have e11 := NG (n : Int) l0_1 (by omega) (fun x hx => (hs.2 x hx).2);have e12 : Ev (fun k => laws_FnChambersNeededOfAll.l0 k ((chR n l0_1).map (coF f)) (((chR n l0_1).map (coF f)).length : Int) 0) true := by
   rw [List.length_map];refine Ld (chR n l0_1).length (fun k i => laws_FnChambersNeededOfAll.l0 k ((chR n l0_1).map (coF f)) ((chR n l0_1).length : Int) (i : Int)) (fun _ => true) ?_ ?_ 0 (Nat.zero_le _)
   ·refine Ba ?_;simp only [laws_FnChambersNeededOfAll.l0];exact Vb (Int.lt_irrefl _) (Ev.now _)
   ·intro i hi ih;have hr : yc ((chR n l0_1).map (coF f)) (i : Int) = coF f (chR n l0_1)[i] := by
     unfold yc;rw [Int.toNat_natCast, List.getD_eq_getElem?_getD, List.getElem?_map, List.getElem?_eq_getElem hi]; rfl
    have hk := hf _ (List.getElem_mem hi);refine Ba ?_;simp only [laws_FnChambersNeededOfAll.l0];rw [hr, Eb hi (by omega), List.length_map];exact Xa (by omega) (Xa (by omega) (Xa (by omega) (Ev.bind (RG n hn _ (f (chR n l0_1)[i]) hk.1 hk.2.2.2 hk.2.2.1) (Xa rfl (Xa rfl ih)))))
  have hw : (Vu (Vg l0_1) n != (((chR n l0_1).length : Int) == 1)) = false := by
   have h := YM n hn l0_1 hs hne hs0;cases hcom : Vu (Vg l0_1) n with
   | true =>
    have := h.2 hcom;simp [this]
   | false =>
    have : (chR n l0_1).length ≠ 1 := fun e => by rw [h.1 e] at hcom; cases hcom
    simp; omega
  refine Ev.bind e1 (Ev.bind e2 (Ev.bind e3 (Ev.bind e4 (Vb (by simp) (Ev.bind e5 (Xa rfl (Vb (by simp) (Xa rfl (Vb (by simp) (Xa rfl (Ev.bind e6 (Ev.bind e9 (Ev.bind e10 ?_)))))))))))));refine Xa (by rw [List.length_map]) (Vb (by dsimp only; omega) (Vb (by dsimp only; omega) (Xa rfl (Vb (by dsimp only; rw [hw]; decide) (Xa rfl (Ev.bind e11 (Xa rfl (Xa rfl (Xa rfl e12)))))))))
section
set_option maxRecDepth 100000
section
variable {H : Type} {enc : TypeId × Value → H} {W : World}
theorem IA : Et enc Tryz.prog W 35 (Kd.slice 3 (Kd.int .i64)) (fun x => ∀ y ∈ x, I64 y) := Rq Tryz.underlying35 (by kernel_rfl) (Mv Tryz.underlying3)
theorem Lx : Et enc Tryz.prog W 24 (Kd.pair (Kd.int .i64) (Kd.slice 35 (Kd.slice 3 (Kd.int .i64)))) (fun x => I64 x.1 ∧ ∀ y ∈ x.2, ∀ z ∈ y, I64 z) :=
 Fz Tryz.underlying24 (by kernel_rfl) rfl rfl (by kernel_rfl) (by kernel_rfl) (Mv Tryz.underlying3) (Rq Tryz.underlying22 (by kernel_rfl) IA)
end
open Go.ChangeShapes Go.WideShapes Go.ChangeAt Go.Deep
section
variable {H : Type} {enc : TypeId × Value → H} {W : World} {r : Reach} {b0 : Nat} {v : Value} {y : DataW H} {p : List MemPlace}
theorem VE (hv : Value.okWide Tryz.prog W r b0 24 v) (hr : DataW.Trod enc Tryz.prog W 0 (fun _ => true) true 24 v y p) :
 ∃ a A c l, v = .agg #[.int .i64 a, .slice A (l : List (List Int)).length c] ∧ l.length ≤ c ∧ Kd.C (Kd.slice 3 (Kd.int .i64)) W A l.length l ∧ I64 a ∧ ∀ y ∈ l, ∀ z ∈ y, I64 z := by
 obtain ⟨x, ⟨l⟩, rfl, k, g⟩ := Sw Tryz.underlying24 hv hr Lx;obtain ⟨_, _, rfl, rfl, ⟨A, c, rfl, hl, hC⟩⟩ := k;exact ⟨_, A, c, _, rfl, hl, hC, g⟩
theorem EJ {w : World} {A : Option Addr} {n : Nat} {xs : List (List Int)} (h : Kd.C (Kd.slice 3 (Kd.int .i64)) w A n xs) : ∀ x ∈ xs, x.length ≤ 9223372036854775807 := fun x hx => by
 obtain ⟨j, hj, rfl⟩ := List.mem_iff_getElem.1 hx;obtain ⟨ad, _, hc⟩ := h.2.2 (by have := h.1; omega);obtain ⟨c, _, ⟨_, _, _, _, hC⟩, _⟩ := hc j _ (List.getElem?_eq_getElem hj);exact hC.2.1
end
end
end Go.Proofs.YtodchjdgpnpdcaaGreat.Q
end
section
namespace Go.Proofs.YtodchjdgpnpdcaaGreat.fnChambersNeededOfAll
open Go.ChangeShapes Go.WideShapes Go.ChangeAt Go.RowKit Go.Proofs.YtodchjdgpnpdcaaGreat.Q
open Go.ChangeMaps (open_string shut_string)
set_option linter.unusedVariables false
theorem own : ownKnob Tryz.prog.godebug = none := by kernel_rfl
theorem laidOut : laidOutB Tryz.prog = true := by kernel_rfl
set_option maxRecDepth 100000 in
theorem lifted (os : Os) (started : os.Started) (H : Type) (enc : TypeId × Value → H) :
 ReturnsInHanded {} Tryz.checked os 3 .any (Rows.fnChambersNeededOfAllSpec.pre6 enc Tryz.prog Tryz.f3 Rows.fnChambersNeededOfAllRow.domain false) (Rows.fnChambersNeededOfAllSpec.post enc Tryz.prog Tryz.f3 false true false false) := by
 refine returnsInHanded_of_change_sized (C := Tryz.checked) own started (by kernel_rfl) Tryz.func3
  (ChangeSpec.witness6 (enc := enc) (C := Tryz.checked) false ⟨#[], #[.agg #[.int .i64 0, .slice none 0 0]], []⟩ 8 (by kernel_rfl) (by kernel_rfl) (by kernel_rfl) (by kernel_rfl)) ?_
 intro W base args ds gs before hval0 hW hcnd hsz0 _;have hsz : (DataW.weightsEach Tryz.prog (Tryz.f3.params.toList ++ Rows.fnChambersNeededOfAllSpec.plain.varTypes Tryz.prog) (ds ++ gs)).all (· ≤ reachBytes) = true := hsz0;have hval : ∀ (j : Nat) t v, Tryz.f3.params[j]? = some t → args[j]? = some v → Value.okWide Tryz.prog W .any base t v := hval0;have hW' := hW;obtain ⟨p, q, hA0, hV, rfl, hfz, hnd⟩ := hW;have hA : DataW.TrodAll enc Tryz.prog W 0 (fun _ => true) true Tryz.f3.params.toList args.toList ds p := hA0;rw [Tryz.params3] at hA hval hsz;obtain ⟨v0, vs0, d0, ds0, p0, q0, hargs, rfl, rfl, h0, r0⟩ := trodAll_cons hA;obtain ⟨rfl, rfl, rfl⟩ := trodAll_nil r0;obtain rfl : args = #[v0] := by cases args; simp_all
 obtain ⟨rfl, rfl⟩ := trodVars_none hV;have k0 := h0;have lt0 : ∀ x ∈ p0, x.block < W.heap.size := by obtain ⟨m, hm⟩ := k0; exact DataW.trod_lt m _ _ _ hm
 obtain ⟨a0_0, A0_1, c0_1, l0_1, rfl, hc0_1, hr0_1, g0⟩ := VE (hval 0 24 v0 rfl rfl) h0;clear hA0 hval0 hsz0 hsz;obtain ⟨k, hk⟩ := FnChambersNeededOfAll_pure a0_0 l0_1 g0 hr0_1.2.1 (EJ hr0_1);refine (laws_FnChambersNeededOfAll.calls k a0_0 A0_1 c0_1 l0_1 true W hr0_1 hc0_1 hk).mono fun e W' ⟨he, bel⟩ => ?_;subst he;exact ⟨_, rfl, _, _, _, [], _, [], hW', trodAll_mk1 (shut_bool Tryz.underlying4 _), (trodAll_cons_mk (Below.trod laidOut (by kernel_rfl) (of_decide_eq_true (by kernel_rfl)) k0 bel lt0) trodAll_mk0), rfl, bel.frame _, fun h => by cases h⟩
theorem over : Rows.fnChambersNeededOfAllRow.holds Tryz.pinned (OpenSpec.ofChange Rows.fnChambersNeededOfAllSpec) :=
 OpenClaim.holds_of_wide 3 Tryz.f3 rfl rfl rfl rfl rfl rfl rfl ⟨rfl, rfl, rfl, rfl, rfl⟩ rfl rfl rfl rfl rfl (by kernel_rfl) Tryz.func3 (by kernel_rfl)
  (of_decide_eq_true (by kernel_rfl)) (by unfold Func.isWrapper; first | (rw [if_pos (by decide +kernel)]; kernel_rfl) | (rw [if_neg (by decide +kernel)]; exact ⟨rfl, rfl⟩))
  (fun os started H enc _ => lifted os started H enc)
theorem proved : Rows.FnChambersNeededOfAllSaid := over
end Go.Proofs.YtodchjdgpnpdcaaGreat.fnChambersNeededOfAll
namespace Go.Proofs.YtodchjdgpnpdcaaGreat
theorem fnChambersNeededOfAll_holds : Rows.FnChambersNeededOfAllSaid := fnChambersNeededOfAll.proved
end Go.Proofs.YtodchjdgpnpdcaaGreat
end
#print axioms Go.Proofs.YtodchjdgpnpdcaaGreat.fnChambersNeededOfAll_holds

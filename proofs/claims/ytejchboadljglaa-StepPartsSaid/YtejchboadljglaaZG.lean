/- What the functions of the program do: landmarks. -/
import Derived.Test.YtejchboadljglaaZF

/- What the program's functions do, part 18: without, and what asks whether the goal is reached. -/
namespace Go.Fw
open Go Go.Proofs
set_option maxRecDepth 10000

/-- Are these literals reached? -/
noncomputable def allR (t : Task) (s : List Int) (cnt : Nat → Lit → Bool) (l : List Lit) : Bool := @decide (∀ x ∈ l, Rch t s cnt (codeI x).toNat) (Classical.propDecidable _)
theorem allR_iff {t s cnt l} : allR t s cnt l = true ↔ ∀ x ∈ l, Rch t s cnt (codeI x).toNat := by
  unfold allR; exact @decide_eq_true_iff _ (Classical.propDecidable _)
theorem flat_bools {e sz : Nat} {b : List Bool} : (Ob.row e sz (b.map tB)).flat := by
  intro el hel x hx
  obtain ⟨y, _, rfl⟩ := List.mem_map.1 hel
  simp [tB] at hx; subst hx; trivial
theorem flat_ints {e sz : Nat} {b : List Int} : (Ob.row e sz (b.map tI)).flat := by
  intro el hel x hx
  obtain ⟨y, _, rfl⟩ := List.mem_map.1 hel
  simp [tI] at hx; subst hx; trivial
theorem flat_lits {e sz : Nat} {b : List Lit} : (Ob.row e sz (b.map tLit)).flat := by
  intro el hel x hx
  obtain ⟨y, _, rfl⟩ := List.mem_map.1 hel
  simp [tLit] at hx; rcases hx with rfl | rfl <;> trivial
theorem IsR.all {t s cnt b} (h : IsR t s cnt b) (l : List Lit) : setHas b l = allR t s cnt l := by
  rw [Bool.eq_iff_iff, allR_iff, setHas, List.all_eq_true]
  exact ⟨fun hh x hx => (h.iff _).1 (hh x hx), fun hh x hx => (h.iff _).2 (hh x hx)⟩
theorem allR_congr {t s l} {cnt cnt' : Nat → Lit → Bool} (hc : ∀ a x e, t.acts[a]? = some x → e ∈ x.effs → cnt a e.lit = cnt' a e.lit) : allR t s cnt l = allR t s cnt' l := by
  rw [Bool.eq_iff_iff, allR_iff, allR_iff]
  exact ⟨fun h x hx => (h x hx).congr hc, fun h x hx => (h x hx).congr fun a x e hx he => (hc a x e hx he).symm⟩

/-! ### Sets of numbers -/
def kvI (l : List Int) : List (Value × T) := l.map fun x => (.int .i64 x, .v (.bool true))
theorem look_kvI (x : Int) : ∀ l : List Int, lookKV (.int .i64 x) (.v (.bool false)) (kvI l) = .v (.bool (hasB l x))
  | [] => rfl
  | y :: r => by
    have ih := look_kvI x r
    simp only [kvI, List.map_cons, lookKV, hasB, List.any_cons] at ih ⊢
    by_cases h : x = y
    · rw [if_pos (show sameK (.int .i64 x) (.int .i64 y) = true by simp [sameK, h])]
      simp [h]
    · have h2 : (y == x) = false := by simpa using fun hh => h hh.symm
      rw [if_neg (show ¬ sameK (.int .i64 x) (.int .i64 y) = true by simpa [sameK] using h), ih, h2, Bool.false_or]
theorem upd_kvI (x : Int) : ∀ l : List Int, ∃ m, updKV (.int .i64 x) (.v (.bool true)) (kvI l) = kvI m ∧ ∀ y, hasB m y = (hasB l y || x == y)
  | [] => ⟨[x], rfl, fun y => by simp [hasB]⟩
  | z :: r => by
    by_cases h : x = z
    · refine ⟨z :: r, ?_, fun y => ?_⟩
      · simp only [kvI, List.map_cons, updKV]
        rw [if_pos (show sameK (.int .i64 x) (.int .i64 z) = true by simp [sameK, h]), h]
      · subst h
        simp only [hasB, List.any_cons]
        cases hxy : x == y <;> simp
    · obtain ⟨m, h1, h2⟩ := upd_kvI x r
      refine ⟨z :: m, ?_, fun y => ?_⟩
      · simp only [kvI, List.map_cons, updKV] at h1 ⊢
        rw [if_neg (show ¬ sameK (.int .i64 x) (.int .i64 z) = true by simpa [sameK] using h), h1]
      · have := h2 y
        simp only [hasB, List.any_cons] at this ⊢
        rw [this, Bool.or_assoc]

theorem f90_spec (a : Int) (x : Lit) (m : List Int) (t : Task) (fr : Fr) (out : List Fr) :
    SpecP Try.prog 90 [.int a, .lit x, .ptr (.fr 1 56) 0] (fr :: [(24, .box (cellsTask t)), (80, .mp (.int .i64) (kvI m)), (56, .box [.mpr (.cur 80)])] :: out) fun r ro => r = .bool (!hasB m a) ∧ ro = [] := by
  refine spec_body cx_ok [] [] (fn := Try.f90) (by kernel_rfl) rfl (by kernel_rfl) rfl (by unfold FnOK; kernel_rfl) fun hok => ?_
  refine Exists.intro _ (And.intro rfl ?_)
  refine Exists.intro _ (And.intro rfl ?_)
  refine Exists.intro _ (And.intro (look_kvI _ _) ?_)
  refine And.intro (fun h => ?_) fun h => ?_
  · exact Exists.intro [] (ret_bool (congrArg not h) rfl)
  · exact Exists.intro [] (ret_bool (congrArg not h) rfl)

def cntO (l : List Int) (a : Nat) (_ : Lit) : Bool := !hasB l a
def kp60 : Kp := [(3, ([1, 3, 7, 11, 12, 13], [24, 80, 56]))]
theorem f60_spec (t : Task) (n1 n2 : Bool) (s l : List Int) (ht : isB t = true) (hs : risingB s t.facts.length = true) (out : List Fr) :
    SpecP Try.prog 60 [.task t, .ints n1 s, .ints n2 l] out fun r ro => ∃ b, IsR t s (cntO l) b ∧ r = .osl (.cur 185000739) 1 0 b.length ∧ ro = [(185000739, .row 4 1 (b.map tB))] := by
  refine spec_body cx_ok kp60 [] (fn := Try.f60) (by kernel_rfl) rfl (by kernel_rfl) rfl (by unfold FnOK; kernel_rfl) fun hok => ?_
  have hmx := le_max hok.2.2.1.1
  refine LoopW.mk (Nat × List Int) (fun p => p.1 ≤ l.length ∧ ∀ x, hasB p.2 x = hasB (l.take p.1) x) (fun p => [(1, .ints n1 s), (3, .ptr (.cur 24) 0), (7, .ptr (.cur 56) 0), (11, .ints n2 l), (12, .int (l.map tI).length), (13, .int p.1)])
    (fun p => ⟨out, [(24, .box (cellsTask t)), (80, .mp (.int .i64) (kvI p.2)), (56, .box [.mpr (.cur 80)])]⟩) (fun p => l.length - p.1) (0, []) ⟨Nat.zero_le _, fun x => rfl⟩ ⟨rfl, rfl⟩ ?_
  rintro ⟨i, m⟩ ⟨hi0, hm⟩
  simp only at hi0 hm
  refine And.intro (fun h1 => ?_) fun h1 => ?_
  · have hi : i < l.length := lt_of_dec h1
    refine And.intro (by omega) (Exists.intro _ (And.intro (get_map hi) ?_))
    obtain ⟨m', h2, h3⟩ := upd_kvI l[i] m
    refine And.intro (by omega) (And.intro (by omega) ?_)
    refine Exists.intro (i + 1, m') (And.intro (by show l.length - (i + 1) < l.length - i; omega) (And.intro ⟨hi, fun x => ?_⟩ (And.intro rfl ?_)))
    · show hasB m' x = hasB (l.take (i + 1)) x
      rw [h3, hm, List.take_add_one, List.getElem?_eq_getElem hi, Option.toList_some, hasB_snoc]
    · show (⟨out, [(24, .box (cellsTask t)), (80, .mp (.int .i64) (updKV (.int .i64 l[i]) (.v (.bool true)) (kvI m))), (56, .box [.mpr (.cur 80)])]⟩ : St) = _
      rw [h2]
  · have hi : l.length ≤ i := ge_of_dec h1
    rw [List.take_of_length_le hi] at hm
    refine SpecP.mono (f58_spec t n1 s 90 56 (fun a _ => !hasB m a) ht hs _ fun fr a x ha _ => f90_spec a x m t fr out) ?_
    rintro _ _ ⟨b, hb, rfl, rfl⟩
    refine And.intro trivial (And.intro ?_ ?_)
    · exact ⟨flat_bools, trivial⟩
    exact Exists.intro [185000739] ⟨b, hb.congr fun a x e _ _ => by simp only [cntO, hm], rfl, rfl⟩

theorem f59_spec (a : Int) (x y : Lit) (fr fr1 : Fr) (out : List Fr) (hg : look fr1 72 = some (.box [.t (.v (.int .i64 y.fact)), .t (.v (.bool y.neg))])) :
    SpecP Try.prog 59 [.int a, .lit x, .ptr (.fr 1 72) 0] (fr :: fr1 :: out) fun r ro => r = .bool (decide (x ≠ y)) ∧ ro = [] := by
  refine spec_body cx_ok [] [] (fn := Try.f59) (by kernel_rfl) rfl (by kernel_rfl) rfl (by unfold FnOK; kernel_rfl) fun hok => ?_
  refine Exists.intro (.box [.t (.v (.int .i64 y.fact)), .t (.v (.bool y.neg))]) (And.intro (by simp only [St.get, List.getElem?_cons_succ, List.getElem?_cons_zero, hg]; rfl) ?_)
  have e : decide (x ≠ y) = !(x.fact == y.fact && (x.neg == y.neg && true)) := by
    rw [Bool.and_true]
    by_cases h : x = y
    · subst h; simp
    · have : (x.fact == y.fact && x.neg == y.neg) = false := by
        cases h1 : (x.fact == y.fact) <;> cases h2 : (x.neg == y.neg) <;> try rfl
        exact absurd (by cases x; cases y; simp at h1 h2; simp [h1, h2]) h
      simp [this, h]
  refine And.intro (fun h => ?_) fun h => ?_
  · exact Exists.intro [] (ret_bool (e.trans h) rfl)
  · exact Exists.intro [] (ret_bool (e.trans h) rfl)

end Go.Fw

/- What the program's functions do, part 19: package mark's Actions. -/
namespace Go.Fw
open Go Go.Proofs
set_option maxRecDepth 10000

def selI (n : Nat) (p : Nat → Bool) : List Int := ((List.range n).filter p).map fun (k : Nat) => (k : Int)
theorem selI_step (n : Nat) (p : Nat → Bool) : selI (n + 1) p = selI n p ++ if p n then [(n : Int)] else [] := by
  rw [selI, List.range_succ, List.filter_append, List.map_append, selI]
  cases h : p n <;> simp [h]
theorem selI_len (n : Nat) (p : Nat → Bool) : (selI n p).length ≤ n := by
  rw [selI, List.length_map]
  exact Nat.le_trans (List.length_filter_le ..) (by simp)
theorem selI_congr {n : Nat} {p q : Nat → Bool} (h : ∀ k, k < n → p k = q k) : selI n p = selI n q := by
  induction n with
  | zero => rfl
  | succ n ih => rw [selI_step, selI_step, ih fun k hk => h k (by omega), h n (by omega)]

/-- The actions without which the goal is not reached. -/
noncomputable def onlyA (t : Task) (s : List Int) (a : Nat) : Bool := !allR t s (cntO [(a : Int)]) t.goal

def od16 : Od := [(8, [(0, .pure), (1, .pure), (2, .pure), (5, .pure), (6, .pure), (3, .eff), (4, .eff), (7, .eff), (8, .pure)])]
def kp16 : Kp := [(6, ([1, 2, 7, 17, 18], [16, 264]))]
theorem f16_spec (t : Task) (n1 : Bool) (s : List Int) (out : List Fr) :
    SpecP Try.prog 16 [.task t, .ints n1 s] out fun r ro => (fineI t s ≠ 0 ∧ r = .tup [.t (.sl true 0 []), .int (fineI t s)] ∧ ro = []) ∨
      (fineI t s = 0 ∧ r = .tup [accV 264 1 ((selI t.acts.length (onlyA t s)).map tI), .int 0] ∧ ro = accO 264 3 1 ((selI t.acts.length (onlyA t s)).map tI)) := by
  refine spec_body cx_ok kp16 od16 (fn := Try.f16) (by kernel_rfl) rfl (by kernel_rfl) rfl (by unfold FnOK; kernel_rfl) fun hok => ?_
  refine SpecP.mono (f54_spec t n1 s []) ?_
  rintro _ _ ⟨rfl, rfl⟩
  refine And.intro (fun h0 => ?_) fun h0 => ?_
  · exact Exists.intro [] (.inl ⟨by simpa using h0, rfl, rfl⟩)
  have h0 : fineI t s = 0 := by simpa using h0
  have hts : isB t = true ∧ risingB s t.facts.length = true := by
    unfold fineI at h0
    cases h1 : isB t <;> cases h2 : risingB s t.facts.length <;> simp [h1, h2] at h0
    exact ⟨rfl, rfl⟩
  obtain ⟨ht, hs⟩ := hts
  have TK := task_ok ht
  have hN := TK.facts
  have hA := TK.acts
  have hal : (t.acts.map tAct).length = t.acts.length := List.length_map ..
  refine LoopW.mk (Nat × List Int) (fun p => p.1 ≤ t.acts.length ∧ p.2 = selI p.1 (onlyA t s)) (fun p => [(1, .ints n1 s), (2, .ptr (.cur 16) 0), (7, accV 264 1 (p.2.map tI)), (17, .int (t.acts.map tAct).length), (18, .int p.1)])
    (fun p => ⟨out, (16, .box (cellsTask t)) :: accO 264 3 1 (p.2.map tI)⟩) (fun p => t.acts.length - p.1) (0, []) ⟨Nat.zero_le _, rfl⟩ ⟨rfl, rfl⟩ ?_
  rintro ⟨i, acc⟩ ⟨hi0, hacc⟩
  simp only at hi0 hacc
  cases acc with
  | nil =>
    refine And.intro (fun h1 => ?_) fun h1 => ?_
    · have hi : i < t.acts.length := lt_of_dec h1
      have hst := selI_step i (onlyA t s)
      refine Exists.intro [tI i] (And.intro rfl (And.intro (Nat.le_refl 1) ?_))
      refine SpecP.mono (f60_spec t n1 false s [(i : Int)] ht hs _) ?_
      rintro _ _ ⟨b, hb, rfl, rfl⟩
      refine And.intro trivial (And.intro ⟨flat_bools, trivial⟩ ?_)
      refine And.intro ⟨rfl, rfl, rfl⟩ ?_
      refine Exists.intro (b.map tB) (And.intro (lend rfl) (And.intro (lend2 rfl) ?_))
      refine SpecP.mono (f57_spec false t.gn b t.goal (fun x hx => (TK.goal x hx).inB hN hb.len) _) ?_
      rintro _ _ ⟨rfl, rfl⟩
      refine And.intro trivial (And.intro trivial (And.intro ⟨rfl, rfl, rfl⟩ ?_))
      rw [hb.all]
      refine And.intro (fun h2 => ?_) fun h2 => ?_
      · have h3 : onlyA t s i = false := congrArg not h2
        refine And.intro (by omega) (And.intro (by omega) ?_)
        exact Exists.intro (i + 1, []) (And.intro (by show t.acts.length - (i + 1) < t.acts.length - i; omega) (And.intro ⟨hi, by show [] = _; rw [hst, ← hacc, h3]; rfl⟩ (And.intro rfl rfl)))
      · have h3 : onlyA t s i = true := congrArg not h2
        refine And.intro (Nat.le_of_ble_eq_true rfl) (And.intro (Nat.le_of_ble_eq_true rfl) (And.intro (Nat.le_of_ble_eq_true rfl) ?_))
        refine And.intro (by omega) (And.intro (by omega) ?_)
        exact Exists.intro (i + 1, [(i : Int)]) (And.intro (by show t.acts.length - (i + 1) < t.acts.length - i; omega) (And.intro ⟨hi, by show [(i : Int)] = _; rw [hst, ← hacc, h3]; rfl⟩ (And.intro rfl rfl)))
    · have hi : i = t.acts.length := by have := ge_of_dec h1; omega
      rw [hi] at hacc
      refine Exists.intro [264] (.inr ⟨h0, ?_, ?_⟩)
      · rw [← hacc]; rfl
      · rw [← hacc]; rfl
  | cons x r =>
    refine And.intro (fun h1 => ?_) fun h1 => ?_
    · have hi : i < t.acts.length := lt_of_dec h1
      have hst := selI_step i (onlyA t s)
      have hln : (x :: r).length ≤ i := by rw [hacc]; exact selI_len i _
      have hln2 : ((tI x :: r.map tI) ++ [tI i]).length ≤ i + 1 := by simp at hln ⊢; omega
      refine Exists.intro [tI i] (And.intro rfl (And.intro (Nat.le_refl 1) ?_))
      refine SpecP.mono (f60_spec t n1 false s [(i : Int)] ht hs _) ?_
      rintro _ _ ⟨b, hb, rfl, rfl⟩
      refine And.intro trivial (And.intro ⟨flat_bools, trivial⟩ ?_)
      refine And.intro ⟨rfl, rfl, rfl⟩ ?_
      refine Exists.intro (b.map tB) (And.intro (lend rfl) (And.intro (lend2 rfl) ?_))
      refine SpecP.mono (f57_spec false t.gn b t.goal (fun x hx => (TK.goal x hx).inB hN hb.len) _) ?_
      rintro _ _ ⟨rfl, rfl⟩
      refine And.intro trivial (And.intro trivial (And.intro ⟨rfl, rfl, rfl⟩ ?_))
      rw [hb.all]
      refine And.intro (fun h2 => ?_) fun h2 => ?_
      · have h3 : onlyA t s i = false := congrArg not h2
        refine And.intro (by omega) (And.intro (by omega) ?_)
        exact Exists.intro (i + 1, x :: r) (And.intro (by show t.acts.length - (i + 1) < t.acts.length - i; omega) (And.intro ⟨hi, by show x :: r = _; rw [hst, ← hacc, h3]; simp⟩ (And.intro rfl rfl)))
      · have h3 : onlyA t s i = true := congrArg not h2
        refine And.intro (Nat.le_of_ble_eq_true rfl) (And.intro rfl (And.intro (by show ((tI x :: r.map tI) ++ [tI i]).length * 8 ≤ _; omega) (And.intro (by show ((tI x :: r.map tI) ++ [tI i]).length ≤ _; omega) ?_)))
        refine And.intro (by omega) (And.intro (by omega) ?_)
        have e : (r ++ [(i : Int)]).map tI = r.map tI ++ [tI i] := by simp
        refine Exists.intro (i + 1, x :: (r ++ [(i : Int)])) (And.intro (by show t.acts.length - (i + 1) < t.acts.length - i; omega) (And.intro ⟨hi, by show x :: (r ++ [(i : Int)]) = _; rw [hst, ← hacc, h3]; rfl⟩ ?_))
        simp only [List.map_cons, e]
        exact And.intro rfl rfl
    · have hi : i = t.acts.length := by have := ge_of_dec h1; omega
      rw [hi] at hacc
      refine Exists.intro [264] (.inr ⟨h0, ?_, ?_⟩)
      · rw [← hacc]; rfl
      · rw [← hacc]; rfl

end Go.Fw

/- What the program's functions do, part 20: the reference's Landmark and Singles. -/
namespace Go.Fw
open Go Go.Proofs
set_option maxRecDepth 10000

def od64 : Od := [(1, [(0, .pure), (1, .pure), (2, .pure), (4, .pure), (5, .pure), (3, .eff), (6, .eff), (7, .pure), (8, .pure)])]
theorem f64_spec (t : Task) (n1 n2 : Bool) (s : List Int) (o : List Bool) (ht : isB t = true) (hs : risingB s t.facts.length = true) (ho : o.length = t.acts.length) (out : List Fr) :
    SpecP Try.prog 64 [.task t, .ints n1 s, .bools n2 o] out fun r ro => r = .bool (!allR t s (cntR o (-1)) t.goal) ∧ ro = [] := by
  refine spec_body cx_ok [] od64 (fn := Try.f64) (by kernel_rfl) rfl (by kernel_rfl) rfl (by unfold FnOK; kernel_rfl) fun hok => ?_
  have TK := task_ok ht
  refine SpecP.mono (f27_spec t n1 n2 s o (-1) ht hs ho []) ?_
  rintro _ _ ⟨b, hb, rfl, rfl⟩
  refine And.intro ⟨rfl, rfl, rfl⟩ ?_
  refine Exists.intro (b.map tB) (And.intro (lend rfl) (And.intro (lend2 rfl) ?_))
  refine SpecP.mono (f28_spec false t.gn b t.goal (fun x hx => (TK.goal x hx).inB TK.facts hb.len) _) ?_
  rintro _ _ ⟨rfl, rfl⟩
  refine And.intro trivial (And.intro trivial (And.intro ⟨rfl, rfl, rfl⟩ ?_))
  rw [hb.all]
  refine And.intro (fun h2 => ?_) fun h2 => ?_
  · exact Exists.intro [] (ret_bool (congrArg not h2) rfl)
  · exact Exists.intro [] (ret_bool (congrArg not h2) rfl)

theorem code_nonneg {n : Nat} {l : Lit} (h : litIn n l) : 0 ≤ codeI l := by
  obtain ⟨h0, _⟩ := h
  unfold codeI; split <;> omega
theorem getD_one {m a : Nat} (ha : a < m) (a' : Nat) : ((List.replicate m false).set a true).getD a' false = (a == a') := by
  rw [getD_set (by simpa using ha)]
  by_cases h : a = a'
  · simp [h]
  · have h2 : (List.replicate m false).getD a' false = false := by
      rw [List.getD_eq_getElem?_getD, List.getElem?_replicate]; split <;> rfl
    rw [if_neg h, h2]; simp [h]
theorem onlyA_eq {t : Task} (TK : TaskOK t) {s : List Int} {a : Nat} (ha : a < t.acts.length) : (!allR t s (cntR ((List.replicate t.acts.length false).set a true) (-1)) t.goal) = onlyA t s a := by
  refine congrArg not (allR_congr fun a' x e hx he => ?_)
  have h1 := code_nonneg (TK.lit x (List.mem_of_getElem? hx) e he)
  have h2 : codeI e.lit ≠ -1 := by omega
  simp only [cntR, cntO, getD_one ha, hasB, List.any_cons, List.any_nil, Bool.or_false, h2, ne_eq, not_false_eq_true, decide_true, Bool.and_true]
  by_cases h : a = a'
  · simp [h]
  · have : ((a : Int) == (a' : Int)) = false := by simp; omega
    have h3 : (a == a') = false := by simpa using h
    rw [this, h3]

def kp21 : Kp := [(3, ([1, 2, 5, 10, 11], [16, 224]))]
theorem f21_spec (t : Task) (n1 : Bool) (s : List Int) (ht : isB t = true) (hs : risingB s t.facts.length = true) (out : List Fr) :
    SpecP Try.prog 21 [.task t, .ints n1 s] out fun r ro => r = accV 224 1 ((selI t.acts.length (onlyA t s)).map tI) ∧ ro = accO 224 3 1 ((selI t.acts.length (onlyA t s)).map tI) := by
  refine spec_body cx_ok kp21 [] (fn := Try.f21) (by kernel_rfl) rfl (by kernel_rfl) rfl (by unfold FnOK; kernel_rfl) fun hok => ?_
  have TK := task_ok ht
  have hA := TK.acts
  have hal : (t.acts.map tAct).length = t.acts.length := List.length_map ..
  refine LoopW.mk (Nat × List Int) (fun p => p.1 ≤ t.acts.length ∧ p.2 = selI p.1 (onlyA t s)) (fun p => [(1, .ints n1 s), (2, .ptr (.cur 16) 0), (5, accV 224 1 (p.2.map tI)), (10, .int (t.acts.map tAct).length), (11, .int p.1)])
    (fun p => ⟨out, (16, .box (cellsTask t)) :: accO 224 3 1 (p.2.map tI)⟩) (fun p => t.acts.length - p.1) (0, []) ⟨Nat.zero_le _, rfl⟩ ⟨rfl, rfl⟩ ?_
  rintro ⟨i, acc⟩ ⟨hi0, hacc⟩
  simp only at hi0 hacc
  have hrow : i < t.acts.length → (List.replicate (t.acts.map tAct).length (tB false))[0 + ((i : Int)).toNat]? = some (tB false) := fun hi => by
    rw [Nat.zero_add, Int.toNat_natCast, List.getElem?_replicate, if_pos (by omega)]
  have hset : (List.replicate (t.acts.map tAct).length (tB false)).set (0 + ((i : Int)).toNat) (tB true) = ((List.replicate t.acts.length false).set i true).map tB := by
    rw [Nat.zero_add, Int.toNat_natCast, ← map_set', List.map_replicate, hal]
  have hlend : ((List.replicate t.acts.length false).set i true).map tB = (((List.replicate (t.acts.map tAct).length (tB false)).set (0 + ((i : Int)).toNat) (tB true)).drop 0).take (t.acts.map tAct).length := by
    rw [hset]; exact lend (by simp)
  have hlend2 : 0 + (t.acts.map tAct).length ≤ ((List.replicate (t.acts.map tAct).length (tB false)).set (0 + ((i : Int)).toNat) (tB true)).length := by simp
  cases acc with
  | nil =>
    refine And.intro (fun h1 => ?_) fun h1 => ?_
    · have hi : i < t.acts.length := lt_of_dec h1
      have hst := selI_step i (onlyA t s)
      refine And.intro rfl (And.intro (by omega) (And.intro (by show ((t.acts.map tAct).length : Int) * (1 : Nat) ≤ _; omega) (And.intro (by omega) ?_)))
      refine And.intro (by omega) (And.intro (by show (i : Int) < (t.acts.map tAct).length; omega) (Exists.intro _ (And.intro (hrow hi) (And.intro (Nat.le_refl 1) ?_))))
      refine Exists.intro _ (And.intro hlend (And.intro hlend2 ?_))
      refine SpecP.mono (f64_spec t n1 false s ((List.replicate t.acts.length false).set i true) ht hs (by simp) _) ?_
      rintro _ _ ⟨rfl, rfl⟩
      refine And.intro trivial (And.intro trivial ?_)
      rw [onlyA_eq TK hi]
      refine And.intro (fun h3 => ?_) fun h3 => ?_
      · refine And.intro (Nat.le_of_ble_eq_true rfl) (And.intro (Nat.le_of_ble_eq_true rfl) (And.intro (Nat.le_of_ble_eq_true rfl) ?_))
        refine And.intro (by omega) (And.intro (by omega) ?_)
        exact Exists.intro (i + 1, [(i : Int)]) (And.intro (by show t.acts.length - (i + 1) < t.acts.length - i; omega) (And.intro ⟨hi, by show [(i : Int)] = _; rw [hst, ← hacc, h3]; rfl⟩ (And.intro rfl rfl)))
      · refine And.intro (by omega) (And.intro (by omega) ?_)
        exact Exists.intro (i + 1, []) (And.intro (by show t.acts.length - (i + 1) < t.acts.length - i; omega) (And.intro ⟨hi, by show [] = _; rw [hst, ← hacc, h3]; rfl⟩ (And.intro rfl rfl)))
    · have hi : i = t.acts.length := by have := ge_of_dec h1; omega
      rw [hi] at hacc
      refine Exists.intro [224] ⟨?_, ?_⟩
      · rw [← hacc]; rfl
      · rw [← hacc]; rfl
  | cons x r =>
    refine And.intro (fun h1 => ?_) fun h1 => ?_
    · have hi : i < t.acts.length := lt_of_dec h1
      have hst := selI_step i (onlyA t s)
      have hln : (x :: r).length ≤ i := by rw [hacc]; exact selI_len i _
      have hln2 : ((tI x :: r.map tI) ++ [tI i]).length ≤ i + 1 := by simp at hln ⊢; omega
      refine And.intro rfl (And.intro (by omega) (And.intro (by show ((t.acts.map tAct).length : Int) * (1 : Nat) ≤ _; omega) (And.intro (by omega) ?_)))
      refine And.intro (by omega) (And.intro (by show (i : Int) < (t.acts.map tAct).length; omega) (Exists.intro _ (And.intro (hrow hi) (And.intro (Nat.le_refl 1) ?_))))
      refine Exists.intro _ (And.intro hlend (And.intro hlend2 ?_))
      refine SpecP.mono (f64_spec t n1 false s ((List.replicate t.acts.length false).set i true) ht hs (by simp) _) ?_
      rintro _ _ ⟨rfl, rfl⟩
      refine And.intro trivial (And.intro trivial ?_)
      rw [onlyA_eq TK hi]
      refine And.intro (fun h3 => ?_) fun h3 => ?_
      · refine And.intro (Nat.le_of_ble_eq_true rfl) (And.intro rfl (And.intro (by show ((tI x :: r.map tI) ++ [tI i]).length * 8 ≤ _; omega) (And.intro (by show ((tI x :: r.map tI) ++ [tI i]).length ≤ _; omega) ?_)))
        refine And.intro (by omega) (And.intro (by omega) ?_)
        have e : (r ++ [(i : Int)]).map tI = r.map tI ++ [tI i] := by simp
        refine Exists.intro (i + 1, x :: (r ++ [(i : Int)])) (And.intro (by show t.acts.length - (i + 1) < t.acts.length - i; omega) (And.intro ⟨hi, by show x :: (r ++ [(i : Int)]) = _; rw [hst, ← hacc, h3]; rfl⟩ ?_))
        simp only [List.map_cons, e]
        exact And.intro rfl rfl
      · refine And.intro (by omega) (And.intro (by omega) ?_)
        exact Exists.intro (i + 1, x :: r) (And.intro (by show t.acts.length - (i + 1) < t.acts.length - i; omega) (And.intro ⟨hi, by show x :: r = _; rw [hst, ← hacc, h3]; simp⟩ (And.intro rfl rfl)))
    · have hi : i = t.acts.length := by have := ge_of_dec h1; omega
      rw [hi] at hacc
      refine Exists.intro [224] ⟨?_, ?_⟩
      · rw [← hacc]; rfl
      · rw [← hacc]; rfl

end Go.Fw

/- What the program's functions do, part 21: package mark's Facts. -/
namespace Go.Fw
open Go Go.Proofs
set_option maxRecDepth 10000

/-- Literals by their numbers: those that hold, and those without which the goal is not reached. -/
noncomputable def onlyL (t : Task) (s : List Int) (k : Nat) : Bool := holdsB s [litI k] || !allR t s (fun _ l => decide (l ≠ litI k)) t.goal

theorem litI_in {n k : Nat} (h : k < 2 * n) : litIn n (litI k) := by
  have e : ((k : Int)).tdiv 2 = (k : Int) / 2 := Int.tdiv_eq_ediv_of_nonneg (by omega)
  refine ⟨?_, ?_⟩ <;> (simp only [litI, e]; omega)

theorem hts_of {t : Task} {s : List Int} (h0 : fineI t s = 0) : isB t = true ∧ risingB s t.facts.length = true := by
  unfold fineI at h0
  cases h1 : isB t <;> cases h2 : risingB s t.facts.length <;> simp [h1, h2] at h0
  exact ⟨rfl, rfl⟩

def od15 : Od := [(9, [(0, .pure), (1, .pure), (2, .eff), (3, .eff), (4, .pure), (5, .pure), (6, .pure), (7, .pure), (9, .pure), (10, .pure), (8, .eff), (11, .eff), (12, .pure), (13, .pure)])]
def kp15 : Kp := [(6, ([1, 2, 7, 19, 20], [16, 336]))]
theorem f15_spec (t : Task) (n1 : Bool) (s : List Int) (out : List Fr) :
    SpecP Try.prog 15 [.task t, .ints n1 s] out fun r ro => (fineI t s ≠ 0 ∧ r = .tup [.t (.sl true 0 []), .int (fineI t s)] ∧ ro = []) ∨
      (fineI t s = 0 ∧ r = .tup [accV 336 2 (((selI (2 * t.facts.length) (onlyL t s)).map litI).map tLit), .int 0] ∧ ro = accO 336 50 2 (((selI (2 * t.facts.length) (onlyL t s)).map litI).map tLit)) := by
  refine spec_body cx_ok kp15 od15 (fn := Try.f15) (by kernel_rfl) rfl (by kernel_rfl) rfl (by unfold FnOK; kernel_rfl) fun hok => ?_
  refine SpecP.mono (f54_spec t n1 s []) ?_
  rintro _ _ ⟨rfl, rfl⟩
  refine And.intro (fun h0 => ?_) fun h0 => ?_
  · exact Exists.intro [] (.inl ⟨by simpa using h0, rfl, rfl⟩)
  have h0 : fineI t s = 0 := by simpa using h0
  obtain ⟨ht, hs⟩ := hts_of h0
  have TK := task_ok ht
  have hN := TK.facts
  have hfl : (t.facts.map tS).length = t.facts.length := List.length_map ..
  refine And.intro (by omega) (And.intro (by omega) ?_)
  refine LoopW.mk (Nat × List Int) (fun p => p.1 ≤ 2 * t.facts.length ∧ p.2 = selI p.1 (onlyL t s)) (fun p => [(1, .ints n1 s), (2, .ptr (.cur 16) 0), (7, accV 336 2 ((p.2.map litI).map tLit)), (19, .int (2 * ((t.facts.map tS).length : Int))), (20, .int p.1)])
    (fun p => ⟨out, (16, .box (cellsTask t)) :: accO 336 50 2 ((p.2.map litI).map tLit)⟩) (fun p => 2 * t.facts.length - p.1) (0, []) ⟨Nat.zero_le _, rfl⟩ ⟨rfl, rfl⟩ ?_
  rintro ⟨i, acc⟩ ⟨hi0, hacc⟩
  simp only at hi0 hacc
  cases acc with
  | nil =>
    refine And.intro (fun h1 => ?_) fun h1 => ?_
    · have hi : i < 2 * t.facts.length := by have := of_decide_eq_true h1; simp only at this; omega
      have hst := selI_step i (onlyL t s)
      refine SpecP.mono (f55_spec i (by omega) ⟨by omega, by omega⟩ []) ?_
      rintro _ _ ⟨rfl, rfl⟩
      refine Exists.intro [tLit (litI i)] (And.intro rfl (And.intro (Nat.le_refl 1) ?_))
      refine SpecP.mono (f56_spec n1 false s [litI i] t.facts.length hs (by omega) _) ?_
      rintro _ _ ⟨rfl, rfl⟩
      refine And.intro trivial (And.intro trivial (And.intro ⟨rfl, rfl, rfl⟩ ?_))
      refine And.intro (fun h2 => ?_) fun h2 => ?_
      · have h3 : onlyL t s i = true := by rw [onlyL, h2]; rfl
        refine And.intro (Nat.le_of_ble_eq_true rfl) (And.intro (Nat.le_of_ble_eq_true rfl) (And.intro (Nat.le_of_ble_eq_true rfl) ?_))
        refine And.intro (by omega) (And.intro (by omega) ?_)
        exact Exists.intro (i + 1, [(i : Int)]) (And.intro (by show 2 * t.facts.length - (i + 1) < 2 * t.facts.length - i; omega) (And.intro ⟨hi, by show [(i : Int)] = _; rw [hst, ← hacc, h3]; rfl⟩ (And.intro rfl rfl)))
      refine SpecP.mono (f58_spec t n1 s 59 72 (fun _ l => decide (l ≠ litI i)) ht hs _ fun fr a x ha _ => f59_spec a x (litI i) fr _ out rfl) ?_
      rintro _ _ ⟨b, hb, rfl, rfl⟩
      refine And.intro trivial (And.intro ⟨flat_bools, trivial⟩ (And.intro ⟨rfl, rfl, rfl⟩ ?_))
      refine Exists.intro (b.map tB) (And.intro (lend rfl) (And.intro (lend2 rfl) ?_))
      refine SpecP.mono (f57_spec false t.gn b t.goal (fun x hx => (TK.goal x hx).inB hN hb.len) _) ?_
      rintro _ _ ⟨rfl, rfl⟩
      refine And.intro trivial (And.intro trivial (And.intro ⟨rfl, rfl, rfl⟩ ?_))
      rw [hb.all]
      refine And.intro (fun h4 => ?_) fun h4 => ?_
      · have h3 : onlyL t s i = false := by rw [onlyL, h2, h4]; rfl
        refine And.intro (by omega) (And.intro (by omega) ?_)
        exact Exists.intro (i + 1, []) (And.intro (by show 2 * t.facts.length - (i + 1) < 2 * t.facts.length - i; omega) (And.intro ⟨hi, by show [] = _; rw [hst, ← hacc, h3]; rfl⟩ (And.intro rfl rfl)))
      · have h3 : onlyL t s i = true := by rw [onlyL, h2, h4]; rfl
        refine And.intro (Nat.le_of_ble_eq_true rfl) (And.intro (Nat.le_of_ble_eq_true rfl) (And.intro (Nat.le_of_ble_eq_true rfl) ?_))
        refine And.intro (by omega) (And.intro (by omega) ?_)
        exact Exists.intro (i + 1, [(i : Int)]) (And.intro (by show 2 * t.facts.length - (i + 1) < 2 * t.facts.length - i; omega) (And.intro ⟨hi, by show [(i : Int)] = _; rw [hst, ← hacc, h3]; rfl⟩ (And.intro rfl rfl)))
    · have hi : i = 2 * t.facts.length := by have := of_decide_eq_false h1; simp only at this; omega
      rw [hi] at hacc
      refine Exists.intro [336] (.inr ⟨h0, ?_, ?_⟩)
      · rw [← hacc]; rfl
      · rw [← hacc]; rfl
  | cons x r =>
    refine And.intro (fun h1 => ?_) fun h1 => ?_
    · have hi : i < 2 * t.facts.length := by have := of_decide_eq_true h1; simp only at this; omega
      have hst := selI_step i (onlyL t s)
      have hln : (x :: r).length ≤ i := by rw [hacc]; exact selI_len i _
      have hln2 : ((tLit (litI x) :: (r.map litI).map tLit) ++ [tLit (litI i)]).length ≤ i + 1 := by simp at hln ⊢; omega
      have e : ((r ++ [(i : Int)]).map litI).map tLit = (r.map litI).map tLit ++ [tLit (litI i)] := by simp
      refine SpecP.mono (f55_spec i (by omega) ⟨by omega, by omega⟩ []) ?_
      rintro _ _ ⟨rfl, rfl⟩
      refine Exists.intro [tLit (litI i)] (And.intro rfl (And.intro (Nat.le_refl 1) ?_))
      refine SpecP.mono (f56_spec n1 false s [litI i] t.facts.length hs (by omega) _) ?_
      rintro _ _ ⟨rfl, rfl⟩
      refine And.intro trivial (And.intro trivial (And.intro ⟨rfl, rfl, rfl⟩ ?_))
      refine And.intro (fun h2 => ?_) fun h2 => ?_
      · have h3 : onlyL t s i = true := by rw [onlyL, h2]; rfl
        refine And.intro (Nat.le_of_ble_eq_true rfl) (And.intro rfl (And.intro (Nat.le_trans (Nat.mul_le_mul_right _ hln2) (by show (i + 1) * 16 ≤ _; omega)) (And.intro (Nat.le_trans hln2 (by omega)) ?_)))
        refine And.intro (by omega) (And.intro (by omega) ?_)
        refine Exists.intro (i + 1, x :: (r ++ [(i : Int)])) (And.intro (by show 2 * t.facts.length - (i + 1) < 2 * t.facts.length - i; omega) (And.intro ⟨hi, by show x :: (r ++ [(i : Int)]) = _; rw [hst, ← hacc, h3]; rfl⟩ ?_))
        simp only [List.map_cons, e]
        exact And.intro rfl rfl
      refine SpecP.mono (f58_spec t n1 s 59 72 (fun _ l => decide (l ≠ litI i)) ht hs _ fun fr a x ha _ => f59_spec a x (litI i) fr _ out rfl) ?_
      rintro _ _ ⟨b, hb, rfl, rfl⟩
      refine And.intro trivial (And.intro ⟨flat_bools, trivial⟩ (And.intro ⟨rfl, rfl, rfl⟩ ?_))
      refine Exists.intro (b.map tB) (And.intro (lend rfl) (And.intro (lend2 rfl) ?_))
      refine SpecP.mono (f57_spec false t.gn b t.goal (fun x hx => (TK.goal x hx).inB hN hb.len) _) ?_
      rintro _ _ ⟨rfl, rfl⟩
      refine And.intro trivial (And.intro trivial (And.intro ⟨rfl, rfl, rfl⟩ ?_))
      rw [hb.all]
      refine And.intro (fun h4 => ?_) fun h4 => ?_
      · have h3 : onlyL t s i = false := by rw [onlyL, h2, h4]; rfl
        refine And.intro (by omega) (And.intro (by omega) ?_)
        exact Exists.intro (i + 1, x :: r) (And.intro (by show 2 * t.facts.length - (i + 1) < 2 * t.facts.length - i; omega) (And.intro ⟨hi, by show x :: r = _; rw [hst, ← hacc, h3]; simp⟩ (And.intro rfl rfl)))
      · have h3 : onlyL t s i = true := by rw [onlyL, h2, h4]; rfl
        refine And.intro (Nat.le_of_ble_eq_true rfl) (And.intro rfl (And.intro (Nat.le_trans (Nat.mul_le_mul_right _ hln2) (by show (i + 1) * 16 ≤ _; omega)) (And.intro (Nat.le_trans hln2 (by omega)) ?_)))
        refine And.intro (by omega) (And.intro (by omega) ?_)
        refine Exists.intro (i + 1, x :: (r ++ [(i : Int)])) (And.intro (by show 2 * t.facts.length - (i + 1) < 2 * t.facts.length - i; omega) (And.intro ⟨hi, by show x :: (r ++ [(i : Int)]) = _; rw [hst, ← hacc, h3]; rfl⟩ ?_))
        simp only [List.map_cons, e]
        exact And.intro rfl rfl
    · have hi : i = 2 * t.facts.length := by have := of_decide_eq_false h1; simp only at this; omega
      rw [hi] at hacc
      refine Exists.intro [336] (.inr ⟨h0, ?_, ?_⟩)
      · rw [← hacc]; rfl
      · rw [← hacc]; rfl

end Go.Fw

/- What the program's functions do, part 22: the reference's Facts. -/
namespace Go.Fw
open Go Go.Proofs
set_option maxRecDepth 10000

theorem splB {g b : Bool} {K' : LV → Prop} (h : ∀ v, b = v → K' (.t (.v (.bool v)))) : splW g (.t (.v (.bool b))) K' := by
  cases g
  · exact h b rfl
  · exact ⟨fun hb => h _ hb, fun hb => h _ hb⟩

theorem litI_two (f : Nat) (v : Bool) (j : Nat) (hj : j < 2) (hv : decide (j = 1) = v) : litI ((2 * f + j : Nat) : Int) = ⟨(f : Int), v⟩ := by
  have e1 : (((2 * f + j : Nat) : Int)).tdiv 2 = (f : Int) := by rw [Int.tdiv_eq_ediv_of_nonneg (by omega)]; omega
  have e2 : (((2 * f + j : Nat) : Int)).tmod 2 = (j : Int) := by rw [Int.tmod_eq_emod_of_nonneg (by omega)]; omega
  rw [litI, e1, e2, ← hv]
  congr 1
  by_cases h : j = 1
  · subst h; rfl
  · have : j = 0 := by omega
    subst this; rfl
theorem code_inj {x y : Lit} (h : codeI x = codeI y) : x = y := by
  obtain ⟨f, n⟩ := x
  obtain ⟨g, m⟩ := y
  unfold codeI at h
  cases n <;> cases m <;> simp at h <;> first | (have : f = g := by omega
                                                 subst this; rfl) | (exfalso; omega)
theorem onlyL_eq {t : Task} {s : List Int} {k : Nat} : (holdsB s [litI k] || !allR t s (cntR (List.replicate t.acts.length false) (codeI (litI k))) t.goal) = onlyL t s k := by
  rw [onlyL]
  refine congrArg (fun b => holdsB s [litI k] || !b) (allR_congr fun a x e hx he => ?_)
  have h2 : (List.replicate t.acts.length false).getD a false = false := by
    rw [List.getD_eq_getElem?_getD, List.getElem?_replicate]; split <;> rfl
  simp only [cntR, h2, Bool.not_false, Bool.true_and]
  by_cases h : e.lit = litI k
  · simp [h]
  · have : codeI e.lit ≠ codeI (litI k) := fun hh => h (code_inj hh)
    simp [h, this]

def od19 : Od := [(10, [(0, .pure), (1, .pure), (2, .eff), (3, .eff), (4, .pure), (5, .pure), (6, .pure), (7, .pure), (8, .pure), (11, .pure), (12, .pure), (9, .eff), (10, .eff), (13, .eff), (14, .pure), (15, .pure)])]
def kp19 : Kp := [(4, ([1, 2, 5, 6, 17, 18], [16, 112, 392])), (7, ([1, 2, 5, 6, 7, 17, 18, 21, 22, 23], [16, 112, 168, 392]))]
theorem f19_spec (t : Task) (n1 : Bool) (s : List Int) (ht : isB t = true) (hs : risingB s t.facts.length = true) (out : List Fr) :
    SpecP Try.prog 19 [.task t, .ints n1 s] out fun r ro => r = accV 392 2 (((selI (2 * t.facts.length) (onlyL t s)).map litI).map tLit) ∧ ro = accO 392 50 2 (((selI (2 * t.facts.length) (onlyL t s)).map litI).map tLit) := by
  refine spec_body cx_ok kp19 od19 (fn := Try.f19) (by kernel_rfl) rfl (by kernel_rfl) rfl (by unfold FnOK; kernel_rfl) fun hok => ?_
  have TK := task_ok ht
  have hN := TK.facts
  have hA := TK.acts
  have hfl : (t.facts.map tS).length = t.facts.length := List.length_map ..
  have hal : (t.acts.map tAct).length = t.acts.length := List.length_map ..
  refine And.intro rfl (And.intro (by omega) (And.intro (by show ((t.acts.map tAct).length : Int) * (1 : Nat) ≤ _; omega) (And.intro (by omega) ?_)))
  have hrep : List.replicate (t.acts.map tAct).length (tB false) = (List.replicate t.acts.length false).map tB := by rw [List.map_replicate, hal]
  refine LoopW.mk (Nat × List Int) (fun p => p.1 ≤ t.facts.length ∧ p.2 = selI (2 * p.1) (onlyL t s)) (fun p => [(1, .ints n1 s), (2, .ptr (.cur 16) 0), (5, accV 392 2 ((p.2.map litI).map tLit)), (6, .osl (.cur 112) 1 0 (t.acts.map tAct).length), (17, .int (t.facts.map tS).length), (18, .int p.1)])
    (fun p => ⟨out, (16, .box (cellsTask t)) :: (112, .row 4 1 ((List.replicate t.acts.length false).map tB)) :: accO 392 50 2 ((p.2.map litI).map tLit)⟩) (fun p => t.facts.length - p.1) (0, []) ⟨Nat.zero_le _, rfl⟩ ⟨rfl, by rw [← hrep]; rfl⟩ ?_
  rintro ⟨f, acc⟩ ⟨hf0, hacc⟩
  simp only at hf0 hacc
  have inner : ∀ {j : Nat} {m : Nat}, decide ((j : Int) < (m : Int)) = true → j < m := fun h => by have := of_decide_eq_true h; omega
  have inner2 : ∀ {j : Nat} {m : Nat}, decide ((j : Int) < (m : Int)) = false → m ≤ j := fun h => by have := of_decide_eq_false h; omega
  have hget : ∀ {j : Nat}, j < 2 → [tB false, tB true][0 + ((j : Int)).toNat]? = some (tB (decide (j = 1))) := fun {j} h => by
    match j, h with
    | 0, _ => rfl
    | 1, _ => rfl
  cases acc
  case' nil =>
    refine And.intro (fun h1 => ?_) fun h1 => ?_
    rotate_left
    · have hi : f = t.facts.length := by have := ge_of_dec h1; omega
      rw [hi] at hacc
      refine Exists.intro [392] ⟨?_, ?_⟩
      · rw [← hacc]; rfl
      · rw [← hacc]; rfl
    have hf : f < t.facts.length := lt_of_dec h1
    clear h1
    refine LoopW.mk (Nat × List Int) (fun p => p.1 ≤ 2 ∧ p.2 = selI (2 * f + p.1) (onlyL t s)) (fun p => [(1, .ints n1 s), (2, .ptr (.cur 16) 0), (5, accV 392 2 ((p.2.map litI).map tLit)), (6, .osl (.cur 112) 1 0 (t.acts.map tAct).length), (7, .int f), (17, .int (t.facts.map tS).length), (18, .int f), (21, .osl (.cur 168) 1 0 2), (22, .int (2 : Nat)), (23, .int p.1)])
      (fun p => ⟨out, (16, .box (cellsTask t)) :: (112, .row 4 1 ((List.replicate t.acts.length false).map tB)) :: (168, .row 4 1 [tB false, tB true]) :: accO 392 50 2 ((p.2.map litI).map tLit)⟩) (fun p => 2 - p.1) (0, []) ⟨Nat.zero_le _, hacc⟩ ⟨rfl, rfl⟩ ?_
    clear hacc
  case' cons x r =>
    refine And.intro (fun h1 => ?_) fun h1 => ?_
    rotate_left
    · have hi : f = t.facts.length := by have := ge_of_dec h1; omega
      rw [hi] at hacc
      refine Exists.intro [392] ⟨?_, ?_⟩
      · rw [← hacc]; rfl
      · rw [← hacc]; rfl
    have hf : f < t.facts.length := lt_of_dec h1
    clear h1
    refine LoopW.mk (Nat × List Int) (fun p => p.1 ≤ 2 ∧ p.2 = selI (2 * f + p.1) (onlyL t s)) (fun p => [(1, .ints n1 s), (2, .ptr (.cur 16) 0), (5, accV 392 2 ((p.2.map litI).map tLit)), (6, .osl (.cur 112) 1 0 (t.acts.map tAct).length), (7, .int f), (17, .int (t.facts.map tS).length), (18, .int f), (21, .osl (.cur 168) 1 0 2), (22, .int (2 : Nat)), (23, .int p.1)])
      (fun p => ⟨out, (16, .box (cellsTask t)) :: (112, .row 4 1 ((List.replicate t.acts.length false).map tB)) :: (168, .row 4 1 [tB false, tB true]) :: accO 392 50 2 ((p.2.map litI).map tLit)⟩) (fun p => 2 - p.1) (0, x :: r) ⟨Nat.zero_le _, hacc⟩ ⟨rfl, rfl⟩ ?_
    clear hacc
  all_goals
    rintro ⟨j, acc⟩ ⟨hj0, hacc⟩
    simp only at hj0 hacc
    have fin : ∀ hj : j < 2, ∀ v, decide (j = 1) = v → ∀ y : Bool, (holdsB s [⟨(f : Int), v⟩] || !allR t s (cntR (List.replicate t.acts.length false) (codeI ⟨(f : Int), v⟩)) t.goal) = y → onlyL t s (2 * f + j) = y := fun hj v hv y h => by
      rw [← onlyL_eq, litI_two f v j hj hv]; exact h
    have hst : selI (2 * f + (j + 1)) (onlyL t s) = acc ++ if onlyL t s (2 * f + j) then [((2 * f + j : Nat) : Int)] else [] := by
      rw [← Nat.add_assoc, selI_step, hacc]
    cases acc with
    | nil =>
      refine And.intro (fun h2 => ?_) fun h2 => ?_
      · have hj : j < 2 := inner h2
        refine And.intro (by omega) (And.intro (by show (j : Int) < (2 : Nat); omega) (Exists.intro _ (And.intro (hget hj) ?_)))
        refine splB fun v hv => ?_
        refine Exists.intro [tLit ⟨(f : Int), v⟩] (And.intro rfl (And.intro (Nat.le_refl 1) ?_))
        refine SpecP.mono (f25_spec n1 false s [⟨(f : Int), v⟩] _) ?_
        rintro _ _ ⟨rfl, rfl⟩
        refine And.intro trivial (And.intro trivial (And.intro ⟨rfl, rfl, rfl⟩ ?_))
        refine And.intro (fun h3 => ?_) fun h3 => ?_
        · have h4 := fin hj v hv true (by rw [h3]; rfl)
          refine And.intro (Nat.le_of_ble_eq_true rfl) (And.intro (Nat.le_of_ble_eq_true rfl) (And.intro (Nat.le_of_ble_eq_true rfl) ?_))
          refine And.intro (by omega) (And.intro (by omega) ?_)
          refine Exists.intro (j + 1, [((2 * f + j : Nat) : Int)]) (And.intro (by show 2 - (j + 1) < 2 - j; omega) (And.intro ⟨hj, by show [_] = selI (2 * f + (j + 1)) _; rw [hst, h4]; rfl⟩ (And.intro rfl ?_)))
          show _ = (⟨out, (16, .box (cellsTask t)) :: (112, .row 4 1 ((List.replicate t.acts.length false).map tB)) :: (168, .row 4 1 [tB false, tB true]) :: [(392, .row 50 2 [tLit (litI ((2 * f + j : Nat) : Int))])]⟩ : St)
          rw [litI_two f v j hj hv]; rfl
        refine SpecP.mono (f63_spec ⟨(f : Int), v⟩ ⟨by show _ ≤ (f : Int); omega, by show (f : Int) ≤ _; omega⟩ []) ?_
        rintro _ _ ⟨rfl, rfl⟩
        refine And.intro ⟨rfl, rfl, rfl⟩ ?_
        refine Exists.intro ((List.replicate t.acts.length false).map tB) (And.intro (lend (by simp)) (And.intro (lend2 (by simp)) ?_))
        refine SpecP.mono (f27_spec t n1 false s (List.replicate t.acts.length false) (codeI ⟨(f : Int), v⟩) ht hs (by simp) _) ?_
        rintro _ _ ⟨b, hb, rfl, rfl⟩
        refine And.intro trivial (And.intro ⟨flat_bools, trivial⟩ (And.intro ⟨rfl, rfl, rfl⟩ ?_))
        refine Exists.intro (b.map tB) (And.intro (lend rfl) (And.intro (lend2 rfl) ?_))
        refine SpecP.mono (f28_spec false t.gn b t.goal (fun x hx => (TK.goal x hx).inB hN hb.len) _) ?_
        rintro _ _ ⟨rfl, rfl⟩
        refine And.intro trivial (And.intro trivial (And.intro ⟨rfl, rfl, rfl⟩ ?_))
        rw [hb.all]
        refine And.intro (fun h5 => ?_) fun h5 => ?_
        · have h4 := fin hj v hv false (by rw [h3, h5]; rfl)
          refine And.intro (by omega) (And.intro (by omega) ?_)
          exact Exists.intro (j + 1, []) (And.intro (by show 2 - (j + 1) < 2 - j; omega) (And.intro ⟨hj, by show [] = selI (2 * f + (j + 1)) _; rw [hst, h4]; rfl⟩ (And.intro rfl rfl)))
        · have h4 := fin hj v hv true (by rw [h3, h5]; rfl)
          refine And.intro (Nat.le_of_ble_eq_true rfl) (And.intro (Nat.le_of_ble_eq_true rfl) (And.intro (Nat.le_of_ble_eq_true rfl) ?_))
          refine And.intro (by omega) (And.intro (by omega) ?_)
          refine Exists.intro (j + 1, [((2 * f + j : Nat) : Int)]) (And.intro (by show 2 - (j + 1) < 2 - j; omega) (And.intro ⟨hj, by show [_] = selI (2 * f + (j + 1)) _; rw [hst, h4]; rfl⟩ (And.intro rfl ?_)))
          show _ = (⟨out, (16, .box (cellsTask t)) :: (112, .row 4 1 ((List.replicate t.acts.length false).map tB)) :: (168, .row 4 1 [tB false, tB true]) :: [(392, .row 50 2 [tLit (litI ((2 * f + j : Nat) : Int))])]⟩ : St)
          rw [litI_two f v j hj hv]; rfl
      · have hj : j = 2 := by have := inner2 h2; omega
        subst hj
        refine And.intro (by omega) (And.intro (by omega) ?_)
        exact Exists.intro (f + 1, []) (And.intro (by show t.facts.length - (f + 1) < t.facts.length - f; omega) (And.intro ⟨hf, hacc⟩ (And.intro rfl rfl)))
    | cons z q =>
      have hln : (z :: q).length ≤ 2 * f + j := by rw [hacc]; exact selI_len _ _
      have hln2 : ∀ w : List T, ((tLit (litI z) :: (q.map litI).map tLit) ++ [w]).length ≤ 2 * f + j + 1 := fun w => by simp at hln ⊢; omega
      have e : ((q ++ [((2 * f + j : Nat) : Int)]).map litI).map tLit = (q.map litI).map tLit ++ [tLit (litI ((2 * f + j : Nat) : Int))] := by simp
      refine And.intro (fun h2 => ?_) fun h2 => ?_
      · have hj : j < 2 := inner h2
        refine And.intro (by omega) (And.intro (by show (j : Int) < (2 : Nat); omega) (Exists.intro _ (And.intro (hget hj) ?_)))
        refine splB fun v hv => ?_
        refine Exists.intro [tLit ⟨(f : Int), v⟩] (And.intro rfl (And.intro (Nat.le_refl 1) ?_))
        refine SpecP.mono (f25_spec n1 false s [⟨(f : Int), v⟩] _) ?_
        rintro _ _ ⟨rfl, rfl⟩
        refine And.intro trivial (And.intro trivial (And.intro ⟨rfl, rfl, rfl⟩ ?_))
        refine And.intro (fun h3 => ?_) fun h3 => ?_
        · have h4 := fin hj v hv true (by rw [h3]; rfl)
          refine And.intro (Nat.le_of_ble_eq_true rfl) (And.intro rfl (And.intro (Nat.le_trans (Nat.mul_le_mul_right _ (hln2 _)) (by show (2 * f + j + 1) * 16 ≤ _; omega)) (And.intro (Nat.le_trans (hln2 _) (by omega)) ?_)))
          refine And.intro (by omega) (And.intro (by omega) ?_)
          refine Exists.intro (j + 1, z :: (q ++ [((2 * f + j : Nat) : Int)])) (And.intro (by show 2 - (j + 1) < 2 - j; omega) (And.intro ⟨hj, by show z :: _ = selI (2 * f + (j + 1)) _; rw [hst, h4]; rfl⟩ ?_))
          simp only [List.map_cons, e, litI_two f v j hj hv]
          exact And.intro rfl rfl
        refine SpecP.mono (f63_spec ⟨(f : Int), v⟩ ⟨by show _ ≤ (f : Int); omega, by show (f : Int) ≤ _; omega⟩ []) ?_
        rintro _ _ ⟨rfl, rfl⟩
        refine And.intro ⟨rfl, rfl, rfl⟩ ?_
        refine Exists.intro ((List.replicate t.acts.length false).map tB) (And.intro (lend (by simp)) (And.intro (lend2 (by simp)) ?_))
        refine SpecP.mono (f27_spec t n1 false s (List.replicate t.acts.length false) (codeI ⟨(f : Int), v⟩) ht hs (by simp) _) ?_
        rintro _ _ ⟨b, hb, rfl, rfl⟩
        refine And.intro trivial (And.intro ⟨flat_bools, trivial⟩ (And.intro ⟨rfl, rfl, rfl⟩ ?_))
        refine Exists.intro (b.map tB) (And.intro (lend rfl) (And.intro (lend2 rfl) ?_))
        refine SpecP.mono (f28_spec false t.gn b t.goal (fun x hx => (TK.goal x hx).inB hN hb.len) _) ?_
        rintro _ _ ⟨rfl, rfl⟩
        refine And.intro trivial (And.intro trivial (And.intro ⟨rfl, rfl, rfl⟩ ?_))
        rw [hb.all]
        refine And.intro (fun h5 => ?_) fun h5 => ?_
        · have h4 := fin hj v hv false (by rw [h3, h5]; rfl)
          refine And.intro (by omega) (And.intro (by omega) ?_)
          exact Exists.intro (j + 1, z :: q) (And.intro (by show 2 - (j + 1) < 2 - j; omega) (And.intro ⟨hj, by show z :: q = selI (2 * f + (j + 1)) _; rw [hst, h4]; simp⟩ (And.intro rfl rfl)))
        · have h4 := fin hj v hv true (by rw [h3, h5]; rfl)
          refine And.intro (Nat.le_of_ble_eq_true rfl) (And.intro rfl (And.intro (Nat.le_trans (Nat.mul_le_mul_right _ (hln2 _)) (by show (2 * f + j + 1) * 16 ≤ _; omega)) (And.intro (Nat.le_trans (hln2 _) (by omega)) ?_)))
          refine And.intro (by omega) (And.intro (by omega) ?_)
          refine Exists.intro (j + 1, z :: (q ++ [((2 * f + j : Nat) : Int)])) (And.intro (by show 2 - (j + 1) < 2 - j; omega) (And.intro ⟨hj, by show z :: _ = selI (2 * f + (j + 1)) _; rw [hst, h4]; rfl⟩ ?_))
          simp only [List.map_cons, e, litI_two f v j hj hv]
          exact And.intro rfl rfl
      · have hj : j = 2 := by have := inner2 h2; omega
        subst hj
        refine And.intro (by omega) (And.intro (by omega) ?_)
        exact Exists.intro (f + 1, z :: q) (And.intro (by show t.facts.length - (f + 1) < t.facts.length - f; omega) (And.intro ⟨hf, hacc⟩ (And.intro rfl rfl)))

end Go.Fw

/- What the program's functions do, part 23: what Cuts asks. -/
namespace Go.Fw
open Go Go.Proofs
set_option maxRecDepth 10000

abbrev LV.effs (nl : Bool) (l : List Eff) : LV := .t (.sl nl 3 (l.map tEff))
abbrev LV.eff (e : Eff) : LV := .agg [.t (.sl e.nil 2 (e.when_.map tLit)), .t (.v (.int .i64 e.lit.fact)), .t (.v (.bool e.lit.neg))]

theorem SpecP.conv {P : Program} {f : Nat} {args args' : List LV} {out : List Fr} {Post : LV → Fr → Prop} (hxy : ∀ (β : K → Nat) (RO : Nat → Prop) (w : World) (vals : List Value), Vals β RO w args vals → Vals β RO w args' vals) (h : SpecP P f args' out Post) : SpecP P f args out Post :=
  ⟨h.fn, fun β RO w vals hw hv => h.calls β RO w vals hw (hxy β RO w vals hv)⟩
theorem conv_third {a b x y : LV} (hxy : ∀ (β : K → Nat) (RO : Nat → Prop) (w : World) (v : Value), VL β RO w x v → VL β RO w y v) : ∀ (β : K → Nat) (RO : Nat → Prop) (w : World) (vals : List Value), Vals β RO w [a, b, x] vals → Vals β RO w [a, b, y] vals := fun β RO w vals hv =>
  ⟨hv.1, fun i z v hz hvz => by
    match i with
    | 0 => exact hv.2 0 z v hz hvz
    | 1 => exact hv.2 1 z v hz hvz
    | 2 => simp at hz; subst hz; exact hxy β RO w v (hv.2 2 x v rfl hvz)
    | i + 3 => simp at hz⟩

def kp92 : Kp := [(2, ([0, 1, 7, 8], []))]
theorem f92_spec (n1 : Bool) (l : List Eff) (fc k s : Nat) (p : Eff → Bool) (out : List Fr)
    (hc : ∀ x ∈ l, SpecP Try.prog fc [.eff x, .ptr (.fr (k + 1) s) 0] ([] :: out) fun r ro => r = .bool (p x) ∧ ro = []) :
    SpecP Try.prog 92 [.effs n1 l, .fn fc [(.fr k s, 0)]] out fun r ro => ∃ j : Int, r = .int j ∧ decide (0 ≤ j) = l.any p ∧ ro = [] := by
  refine spec_body cx_ok kp92 [] (fn := Try.f92) (by kernel_rfl) rfl (by kernel_rfl) rfl (by unfold FnOK; kernel_rfl) fun hok => ?_
  have hmx := le_max hok.1.1
  refine LoopW.mk Nat (fun i => i ≤ l.length ∧ (l.take i).any p = false) (fun i => [(0, .effs n1 l), (1, .fn fc [(.fr k s, 0)]), (7, .int (l.map tEff).length), (8, .int i)]) (fun _ => ⟨out, []⟩) (fun i => l.length - i) 0 ⟨Nat.zero_le _, rfl⟩ ⟨rfl, rfl⟩ fun i hI => ?_
  refine And.intro (fun h1 => ?_) fun h1 => ?_
  · have hi := lt_of_dec h1
    refine And.intro (by omega) (Exists.intro _ (And.intro (get_map hi) ?_))
    refine SpecP.mono (hc _ (List.getElem_mem hi)) ?_
    rintro _ _ ⟨rfl, rfl⟩
    refine And.intro trivial (And.intro trivial ?_)
    refine And.intro (fun h2 => ?_) fun h2 => ?_
    · exact Exists.intro [] ⟨_, rfl, by rw [any_true hi h2]; simp, rfl⟩
    · refine And.intro (by omega) (And.intro (by omega) ?_)
      exact Exists.intro (i + 1) (And.intro (by show l.length - (i + 1) < l.length - i; omega) (And.intro ⟨hi, any_step hi hI.2 h2⟩ (And.intro rfl rfl)))
  · exact Exists.intro [] ⟨_, rfl, by rw [any_end (ge_of_dec h1) hI.2]; rfl, rfl⟩
theorem f66_spec (n1 : Bool) (l : List Eff) (fc k s : Nat) (p : Eff → Bool) (out : List Fr)
    (hc : ∀ x ∈ l, SpecP Try.prog fc [.eff x, .ptr (.fr (k + 2) s) 0] ([] :: [] :: out) fun r ro => r = .bool (p x) ∧ ro = []) :
    SpecP Try.prog 66 [.effs n1 l, .fn fc [(.fr k s, 0)]] out fun r ro => r = .bool (l.any p) ∧ ro = [] := by
  refine spec_body cx_ok [] [] (fn := Try.f66) (by kernel_rfl) rfl (by kernel_rfl) rfl (by unfold FnOK; kernel_rfl) fun hok => ?_
  refine SpecP.mono (f92_spec n1 l fc (k + 1) s p _ hc) ?_
  rintro _ _ ⟨j, rfl, hj, rfl⟩
  refine And.intro trivial (And.intro trivial ?_)
  refine And.intro (fun h => ?_) fun h => ?_
  · exact Exists.intro [] (ret_bool (by rw [← hj]; simpa using h) rfl)
  · exact Exists.intro [] (ret_bool (by rw [← hj]; simpa using h) rfl)

def cntZ (rest : List Int) (a : Nat) (_ : Lit) : Bool := rest.getD a 0 == 0
theorem getI {rest : List Int} {a : Nat} (ha : a < rest.length) : (rest.map tI)[0 + ((a : Int)).toNat]? = some (tI (rest.getD a 0)) := by
  rw [Nat.zero_add, Int.toNat_natCast, List.getElem?_map, List.getElem?_eq_getElem ha, List.getD_eq_getElem?_getD, List.getElem?_eq_getElem ha]; rfl
theorem f65_spec (a : Nat) (x : Lit) (rest : List Int) (m : Nat) (ha : a < rest.length) (hm : rest.length = m) (fr fr1 : Fr) (out : List Fr) (h1 : look fr1 56 = some (.box [.osl (.cur 328) 1 0 m])) (h2 : look fr1 328 = some (.row 3 1 (rest.map tI))) :
    SpecP Try.prog 65 [.int a, .lit x, .ptr (.fr 1 56) 0] (fr :: fr1 :: out) fun r ro => r = .bool (cntZ rest a x) ∧ ro = [] := by
  refine spec_body cx_ok [] [] (fn := Try.f65) (by kernel_rfl) rfl (by kernel_rfl) rfl (by unfold FnOK; kernel_rfl) fun hok => ?_
  refine Exists.intro (.box [.osl (.fr 1 328) 1 0 m]) (And.intro (by simp only [St.get, List.getElem?_cons_succ, List.getElem?_cons_zero, h1]; rfl) ?_)
  refine And.intro (by omega) (And.intro (by omega) ?_)
  refine Exists.intro (.row 3 1 (rest.map tI)) (And.intro (by simp only [St.get, List.getElem?_cons_succ, List.getElem?_cons_zero, h2]; rfl) (Exists.intro _ (And.intro (getI ha) ?_)))
  refine And.intro (fun h => ?_) fun h => ?_
  · exact Exists.intro [] (ret_bool h rfl)
  · exact Exists.intro [] (ret_bool h rfl)

def hitE (b : List Bool) (e : Eff) : Bool := setHas b e.when_ && !bitAt b e.lit
def od67 : Od := [(1, [(0, .pure), (1, .pure), (2, .pure), (3, .eff), (4, .pure), (5, .pure), (6, .pure), (7, .pure), (8, .eff), (9, .pure), (10, .pure), (11, .pure), (12, .pure), (13, .pure)])]
theorem f67_spec (e : Eff) (b : List Bool) (n : Nat) (hn : b.length = n) (he : inB b e.lit) (hw : ∀ x ∈ e.when_, inB b x) (fr0 fr1 fr2 : Fr) (out : List Fr) (h1 : look fr2 88 = some (.box [.osl (.cur 369001291) 1 0 n])) (h2 : look fr2 369001291 = some (.row 4 1 (b.map tB))) :
    SpecP Try.prog 67 [.eff e, .ptr (.fr 2 88) 0] (fr0 :: fr1 :: fr2 :: out) fun r ro => r = .bool (hitE b e) ∧ ro = [] := by
  refine spec_body cx_ok [] od67 (fn := Try.f67) (by kernel_rfl) rfl (by kernel_rfl) rfl (by unfold FnOK; kernel_rfl) fun hok => ?_
  have g1 : St.get ⟨fr0 :: fr1 :: fr2 :: out, [(16, .box [.t (.sl e.nil 2 (e.when_.map tLit)), .t (.v (.int .i64 e.lit.fact)), .t (.v (.bool e.lit.neg))])]⟩ (.fr 2 88) = some (.box [.osl (.fr 2 369001291) 1 0 n]) := by simp only [St.get, List.getElem?_cons_succ, List.getElem?_cons_zero, h1]; rfl
  have g2 : St.get ⟨fr0 :: fr1 :: fr2 :: out, [(16, .box [.t (.sl e.nil 2 (e.when_.map tLit)), .t (.v (.int .i64 e.lit.fact)), .t (.v (.bool e.lit.neg))])]⟩ (.fr 2 369001291) = some (.row 4 1 (b.map tB)) := by simp only [St.get, List.getElem?_cons_succ, List.getElem?_cons_zero, h2]; rfl
  refine Exists.intro _ (And.intro g1 ?_)
  refine Exists.intro _ (And.intro g2 (Exists.intro (b.map tB) (And.intro (lend hn) (And.intro (lend2 hn) ?_))))
  refine SpecP.mono (f57_spec false e.nil b e.when_ hw _) ?_
  rintro _ _ ⟨rfl, rfl⟩
  refine And.intro trivial (And.intro trivial (And.intro ⟨rfl, rfl, rfl⟩ ?_))
  refine And.intro (fun k1 => ?_) fun k1 => ?_
  · refine Exists.intro _ (And.intro g1 ?_)
    refine SpecP.mono (f68_spec e.lit he.1 []) ?_
    rintro _ _ ⟨rfl, rfl⟩
    refine And.intro ⟨rfl, rfl, rfl⟩ ?_
    refine And.intro he.2.1 (And.intro (by rw [← hn]; exact he.2.2) ?_)
    refine Exists.intro _ (And.intro g2 (Exists.intro _ (And.intro (by rw [Nat.zero_add]; exact bit_get he) ?_)))
    refine And.intro (fun k2 => ?_) fun k2 => ?_
    · exact Exists.intro [] (ret_bool (by rw [hitE, k1, k2]; rfl) rfl)
    · exact Exists.intro [] (ret_bool (by rw [hitE, k1, k2]; rfl) rfl)
  · exact Exists.intro [] (ret_bool (by rw [hitE, k1]; rfl) rfl)

theorem f17_spec (t : Task) (n1 : Bool) (s : List Int) (out : List Fr) : SpecP Try.prog 17 [.task t, .ints n1 s] out fun r ro => r = .int (fineI t s) ∧ ro = [] := by
  refine spec_body cx_ok [] [] (fn := Try.f17) (by kernel_rfl) rfl (by kernel_rfl) rfl (by unfold FnOK; kernel_rfl) fun hok => ?_
  refine SpecP.mono (f61_spec t []) ?_
  rintro _ _ ⟨rfl, rfl⟩
  refine And.intro (fun h1 => ?_) fun h1 => ?_
  · refine SpecP.mono (f62_spec t n1 s []) ?_
    rintro _ _ ⟨rfl, rfl⟩
    refine And.intro (fun h2 => ?_) fun h2 => ?_
    · exact Exists.intro [] ⟨by simp only [fineI, h1, h2]; rfl, rfl⟩
    · exact Exists.intro [] ⟨by simp only [fineI, h1, h2]; rfl, rfl⟩
  · exact Exists.intro [] ⟨by simp only [fineI, h1]; rfl, rfl⟩

end Go.Fw

/- Cuts: the plain law of how they are found. -/
namespace Go.Fw
open Go Go.Proofs

theorem snocRec {α : Type} {p : List α → Prop} (nil : p []) (snoc : ∀ l a, p l → p (l ++ [a])) (l : List α) : p l := by
  have : ∀ l : List α, p l.reverse := by
    intro l
    induction l with
    | nil => exact nil
    | cons a r ih => rw [List.reverse_cons]; exact snoc _ _ ih
  have h := this l.reverse
  rwa [List.reverse_reverse] at h

structure CutD where
  acts : List Int
  cost : Int
def tCut (c : CutD) : List T := [.sl false 1 (c.acts.map tI), .v (.int .i64 c.cost)]

def hitA (t : Task) (rest : List Int) (b : List Bool) (a : Nat) : Bool := decide (rest.getD a 0 > 0) && (match t.acts[a]? with
  | some x => setHas b x.pre && x.effs.any (hitE b)
  | none => false)
def cutActs (t : Task) (rest : List Int) (b : List Bool) : List Int := selI t.acts.length (hitA t rest b)
def costStep (rest : List Int) (c a : Int) : Int := if (c == 0 || decide (rest.getD a.toNat 0 < c)) = true then rest.getD a.toNat 0 else c
def costOf (rest : List Int) (l : List Int) : Int := l.foldl (costStep rest) 0
def restStep (c : Int) (r : List Int) (a : Int) : List Int := r.set a.toNat (r.getD a.toNat 0 - c)
def restOf (rest : List Int) (c : Int) (l : List Int) : List Int := l.foldl (restStep c) rest

inductive CutRun (t : Task) (s : List Int) : List Int → List CutD → Prop
  | stop (rest : List Int) (b : List Bool) (hb : IsR t s (cntZ rest) b) (hg : setHas b t.goal = true) : CutRun t s rest []
  | step (rest : List Int) (b : List Bool) (L : List CutD) (hb : IsR t s (cntZ rest) b) (hg : setHas b t.goal = false)
      (h : CutRun t s (restOf rest (costOf rest (cutActs t rest b)) (cutActs t rest b)) L) : CutRun t s rest (⟨cutActs t rest b, costOf rest (cutActs t rest b)⟩ :: L)

def RestOK (t : Task) (rest : List Int) : Prop := rest.length = t.acts.length ∧ ∀ x ∈ rest, 0 ≤ x ∧ x ≤ 100000

theorem rest_get {t : Task} {rest : List Int} (h : RestOK t rest) (a : Nat) : 0 ≤ rest.getD a 0 ∧ rest.getD a 0 ≤ 100000 := by
  rcases Nat.lt_or_ge a rest.length with ha | ha
  · rw [List.getD_eq_getElem?_getD, List.getElem?_eq_getElem ha]; exact h.2 _ (List.getElem_mem ha)
  · rw [List.getD_eq_getElem?_getD, List.getElem?_eq_none ha]; simp

theorem selI_mem {n : Nat} {p : Nat → Bool} {x : Int} (h : x ∈ selI n p) : ∃ k : Nat, x = (k : Int) ∧ k < n ∧ p k = true := by
  obtain ⟨k, hk, rfl⟩ := List.mem_map.1 h
  obtain ⟨h1, h2⟩ := List.mem_filter.1 hk
  exact ⟨k, rfl, List.mem_range.1 h1, h2⟩
theorem selI_mem' {n : Nat} {p : Nat → Bool} {k : Nat} (h1 : k < n) (h2 : p k = true) : (k : Int) ∈ selI n p := List.mem_map.2 ⟨k, List.mem_filter.2 ⟨List.mem_range.2 h1, h2⟩, rfl⟩

/-- Where the goal is in reach of all, but not of what has nothing left, somebody crosses. -/
theorem cut_some {t : Task} {s : List Int} {rest : List Int} {b : List Bool} (hr : RestOK t rest) (hb : IsR t s (cntZ rest) b) (hg : setHas b t.goal = false) (hall : allR t s (cntO []) t.goal = true) : cutActs t rest b ≠ [] := by
  intro hno
  have hhit : ∀ a, a < t.acts.length → hitA t rest b a = false := fun a ha => by
    cases h : hitA t rest b a with
    | false => rfl
    | true =>
      have := selI_mem' ha h
      rw [cutActs] at hno; rw [hno] at this; cases this
  have key : ∀ k, Rch t s (cntO []) k → b.getD k false = true := by
    intro k h
    induction h with
    | ini k hk h => exact (hb.iff k).2 (.ini k hk h)
    | eff a x e hx he hcc hp hw ihp ihw =>
      have ha := (List.getElem?_eq_some_iff.1 hx).1
      have hpre : setHas b x.pre = true := List.all_eq_true.2 ihp
      have hwhn : setHas b e.when_ = true := List.all_eq_true.2 ihw
      by_cases h0 : rest.getD a 0 = 0
      · exact (hb.iff _).2 (.eff a x e hx he (by simp only [cntZ, h0]; rfl) (fun l hl => (hb.iff _).1 (ihp l hl)) fun l hl => (hb.iff _).1 (ihw l hl))
      · have hpos : rest.getD a 0 > 0 := by have := (rest_get hr a).1; omega
        have h2 := hhit a ha
        rw [hitA, hx] at h2
        simp only [hpos, decide_true, hpre, Bool.true_and] at h2
        have h3 := List.any_eq_false.1 h2 e he
        simp only [hitE, hwhn, Bool.true_and, Bool.not_eq_true', Bool.not_eq_false] at h3
        exact h3
  have : setHas b t.goal = true := List.all_eq_true.2 fun x hx => key _ (allR_iff.1 hall x hx)
  rw [this] at hg; cases hg

theorem costOf_snoc (rest : List Int) (l : List Int) (a : Int) : costOf rest (l ++ [a]) = costStep rest (costOf rest l) a := by simp [costOf]
/-- The cost is the least that is left. -/
theorem cost_facts {t : Task} {rest : List Int} (hr : RestOK t rest) : ∀ l : List Int, (∀ a ∈ l, rest.getD a.toNat 0 > 0) →
    (l = [] ∧ costOf rest l = 0) ∨ (0 < costOf rest l ∧ costOf rest l ≤ 100000 ∧ (∀ a ∈ l, costOf rest l ≤ rest.getD a.toNat 0) ∧ ∃ a ∈ l, costOf rest l = rest.getD a.toNat 0) := by
  intro l
  induction l using snocRec with
  | nil => intro _; exact .inl ⟨rfl, rfl⟩
  | snoc l a ih =>
    intro h
    have ha := h a (by simp)
    have hmax := (rest_get hr a.toNat).2
    refine .inr ?_
    rw [costOf_snoc, costStep]
    rcases ih fun x hx => h x (by simp [hx]) with ⟨rfl, h0⟩ | ⟨h1, h2, h3, x, hx, h4⟩
    · rw [h0]
      simp only [beq_self_eq_true, Bool.true_or, if_true]
      exact ⟨ha, hmax, fun y hy => (by simp at hy; rw [hy]; exact Int.le_refl _), a, by simp, rfl⟩
    · have hne : (costOf rest l == 0) = false := by simp; omega
      rw [hne, Bool.false_or]
      by_cases hlt : rest.getD a.toNat 0 < costOf rest l
      · rw [if_pos (by simpa using hlt)]
        refine ⟨ha, hmax, fun y hy => ?_, a, by simp, rfl⟩
        rcases List.mem_append.1 hy with hy | hy
        · have := h3 y hy; omega
        · simp at hy; rw [hy]; exact Int.le_refl _
      · rw [if_neg (by simpa using hlt)]
        refine ⟨h1, h2, fun y hy => ?_, x, by simp [hx], h4⟩
        rcases List.mem_append.1 hy with hy | hy
        · exact h3 y hy
        · simp at hy; rw [hy]; omega

theorem restOf_length (rest : List Int) (c : Int) (l : List Int) : (restOf rest c l).length = rest.length := by
  induction l using snocRec with
  | nil => rfl
  | snoc l a ih => rw [restOf, List.foldl_append]; simp only [List.foldl_cons, List.foldl_nil, restStep, List.length_set]; exact ih
theorem restOf_snoc (rest : List Int) (c : Int) (l : List Int) (a : Int) : restOf rest c (l ++ [a]) = restStep c (restOf rest c l) a := by simp [restOf]
theorem getD_setI {b : List Int} {i j : Nat} {v : Int} (hi : i < b.length) : (b.set i v).getD j 0 = if i = j then v else b.getD j 0 := by
  simp only [List.getD_eq_getElem?_getD, List.getElem?_set]
  by_cases h : i = j
  · subst h; simp [hi]
  · simp [h]
/-- What is left when different actions have paid. -/
theorem restOf_sel (rest : List Int) (c : Int) (p : Nat → Bool) : ∀ n, n ≤ rest.length → ∀ j, (restOf rest c (selI n p)).getD j 0 = if j < n ∧ p j = true then rest.getD j 0 - c else rest.getD j 0
  | 0, _, j => by simp [selI, restOf]
  | n + 1, hn, j => by
    have ih := restOf_sel rest c p n (by omega)
    rw [selI_step]
    cases hp : p n with
    | false =>
      simp only [Bool.false_eq_true, if_false, List.append_nil]
      rw [ih j]
      by_cases hj : j = n
      · subst hj; simp [hp]
      · have : j < n + 1 ↔ j < n := by omega
        simp only [this]
    | true =>
      simp only [if_true]
      rw [restOf_snoc, restStep, Int.toNat_natCast, getD_setI (by rw [restOf_length]; omega), ih n, ih j]
      by_cases hj : n = j
      · subst hj; simp [hp]
      · have : j < n + 1 ↔ j < n := by omega
        simp only [hj, if_false, this]

theorem countP_lt {p : Int → Bool} : ∀ {l l' : List Int}, l'.length = l.length → (∀ j, p (l'.getD j 0) = true → p (l.getD j 0) = true) → (∃ j, j < l.length ∧ p (l.getD j 0) = true ∧ p (l'.getD j 0) = false) → l'.countP p < l.countP p := by
  have le : ∀ {l l' : List Int}, l'.length = l.length → (∀ j, p (l'.getD j 0) = true → p (l.getD j 0) = true) → l'.countP p ≤ l.countP p := by
    intro l
    induction l with
    | nil => intro l' h _; have : l' = [] := List.eq_nil_of_length_eq_zero (by simpa using h); subst this; exact Nat.le_refl _
    | cons x r ih =>
      intro l' h hp
      cases l' with
      | nil => simp at h
      | cons y q =>
        have h1 := ih (by simpa using h) fun j => by simpa using hp (j + 1)
        have h0 := hp 0
        simp only [List.getD_cons_zero] at h0
        rw [List.countP_cons, List.countP_cons]
        by_cases hy : p y = true
        · rw [if_pos hy, if_pos (h0 hy)]; omega
        · rw [if_neg hy]; omega
  intro l
  induction l with
  | nil => intro l' _ _ ⟨j, hj, _⟩; simp at hj
  | cons x r ih =>
    intro l' h hp ⟨j, hj, h2, h3⟩
    cases l' with
    | nil => simp at h
    | cons y q =>
      rw [List.countP_cons, List.countP_cons]
      have h0 := hp 0
      simp only [List.getD_cons_zero] at h0
      cases j with
      | zero =>
        simp only [List.getD_cons_zero] at h2 h3
        have := le (l := r) (l' := q) (by simpa using h) fun j => by simpa using hp (j + 1)
        rw [h2, h3]; simp; omega
      | succ j =>
        have := ih (l' := q) (by simpa using h) (fun j => by simpa using hp (j + 1)) ⟨j, by simpa using hj, by simpa using h2, by simpa using h3⟩
        by_cases hy : p y = true
        · rw [if_pos hy, if_pos (h0 hy)]; omega
        · rw [if_neg hy]; omega

theorem cut_next {t : Task} {rest : List Int} {b : List Bool} (hr : RestOK t rest) (hne : cutActs t rest b ≠ []) :
    RestOK t (restOf rest (costOf rest (cutActs t rest b)) (cutActs t rest b)) ∧ (restOf rest (costOf rest (cutActs t rest b)) (cutActs t rest b)).countP (fun x => decide (x > 0)) < rest.countP (fun x => decide (x > 0)) ∧
      0 < costOf rest (cutActs t rest b) ∧ costOf rest (cutActs t rest b) ≤ 100000 := by
  have hpos : ∀ a ∈ cutActs t rest b, rest.getD a.toNat 0 > 0 := fun a ha => by
    obtain ⟨k, rfl, _, hk⟩ := selI_mem ha
    simp only [hitA, Bool.and_eq_true, decide_eq_true_eq] at hk
    exact hk.1
  rcases cost_facts hr _ hpos with ⟨h, _⟩ | ⟨h1, h2, h3, a0, ha0, h4⟩
  · exact absurd h hne
  generalize hc : costOf rest (cutActs t rest b) = c at *
  have hget := restOf_sel rest c (hitA t rest b) t.acts.length (by rw [hr.1]; exact Nat.le_refl _)
  have hlen : (restOf rest c (cutActs t rest b)).length = rest.length := restOf_length ..
  have hval : ∀ j, 0 ≤ (restOf rest c (cutActs t rest b)).getD j 0 ∧ (restOf rest c (cutActs t rest b)).getD j 0 ≤ rest.getD j 0 := fun j => by
    have hj := hget j
    rw [show restOf rest c (cutActs t rest b) = restOf rest c (selI t.acts.length (hitA t rest b)) from rfl, hj]
    have h0 := rest_get hr j
    split
    · rename_i hh
      have := h3 (j : Int) (selI_mem' hh.1 hh.2)
      rw [Int.toNat_natCast] at this
      omega
    · omega
  refine ⟨⟨by rw [hlen, hr.1], fun x hx => ?_⟩, countP_lt hlen (fun j hj => ?_) ?_, h1, h2⟩
  · obtain ⟨j, hj, rfl⟩ := List.getElem_of_mem hx
    have h5 := hval j
    have h6 := rest_get hr j
    rw [List.getD_eq_getElem?_getD, List.getElem?_eq_getElem hj] at h5
    simp only [Option.getD_some] at h5
    omega
  · simp only [decide_eq_true_eq] at hj ⊢
    have := hval j; omega
  · obtain ⟨k, rfl, hk1, hk2⟩ := selI_mem ha0
    refine ⟨k, by rw [hr.1]; exact hk1, ?_, ?_⟩
    · have := hpos _ ha0
      rw [Int.toNat_natCast] at this
      simpa using this
    · rw [show restOf rest c (cutActs t rest b) = restOf rest c (selI t.acts.length (hitA t rest b)) from rfl, hget k, if_pos ⟨hk1, hk2⟩]
      rw [Int.toNat_natCast] at h4
      have e : rest.getD k 0 - c = 0 := by omega
      rw [e]; rfl

end Go.Fw

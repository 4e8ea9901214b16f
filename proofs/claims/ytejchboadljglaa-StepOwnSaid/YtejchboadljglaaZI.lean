/- Texts that lead to the law, part 9. -/
import Derived.Test.YtejchboadljglaaZH

/- What the program's functions do, part 20: the reference's Landmark and Singles. -/
namespace Go.Fw
open Go Go.Proofs
set_option maxRecDepth 10000

def od64 : Od := [(1, [(0, .pure), (1, .pure), (2, .pure), (4, .pure), (5, .pure), (3, .eff), (6, .eff), (7, .pure), (8, .pure)])]
theorem f64_spec (t : Task) (n1 n2 : Bool) (s : List Int) (o : List Bool) (ht : isB t = true) (hs : risingB s t.facts.length = true) (ho : o.length = t.acts.length) (out : List Fr) :
    SpecP Try.prog 64 [.task t, .ints n1 s, .bools n2 o] out fun r ro => r = .bool (!allR t s (cntR o (-1)) t.goal) ∧ ro = [] := by
  refine spec_body cx_ok [] od64 (fn := Try.f64) (by kernel_rfl) rfl (by kernel_rfl) rfl (by unfold FnOK; kernel_rfl) fun hok => ?_
  have TK := task_ok ht
  refine SpecP.mono (f27_spec t n1 n2 s o (-1) ht hs ho []) ?_
  rintro _ _ ⟨b, hb, rfl, rfl⟩
  refine And.intro ⟨rfl, rfl, rfl⟩ ?_
  refine Exists.intro (b.map tB) (And.intro (lend rfl) (And.intro (lend2 rfl) ?_))
  refine SpecP.mono (f28_spec false t.gn b t.goal (fun x hx => (TK.goal x hx).inB TK.facts hb.len) _) ?_
  rintro _ _ ⟨rfl, rfl⟩
  refine And.intro trivial (And.intro trivial (And.intro ⟨rfl, rfl, rfl⟩ ?_))
  rw [hb.all]
  refine And.intro (fun h2 => ?_) fun h2 => ?_
  · exact Exists.intro [] (ret_bool (congrArg not h2) rfl)
  · exact Exists.intro [] (ret_bool (congrArg not h2) rfl)

theorem code_nonneg {n : Nat} {l : Lit} (h : litIn n l) : 0 ≤ codeI l := by
  obtain ⟨h0, _⟩ := h
  unfold codeI; split <;> omega
theorem getD_one {m a : Nat} (ha : a < m) (a' : Nat) : ((List.replicate m false).set a true).getD a' false = (a == a') := by
  rw [getD_set (by simpa using ha)]
  by_cases h : a = a'
  · simp [h]
  · have h2 : (List.replicate m false).getD a' false = false := by
      rw [List.getD_eq_getElem?_getD, List.getElem?_replicate]; split <;> rfl
    rw [if_neg h, h2]; simp [h]
theorem onlyA_eq {t : Task} (TK : TaskOK t) {s : List Int} {a : Nat} (ha : a < t.acts.length) : (!allR t s (cntR ((List.replicate t.acts.length false).set a true) (-1)) t.goal) = onlyA t s a := by
  refine congrArg not (allR_congr fun a' x e hx he => ?_)
  have h1 := code_nonneg (TK.lit x (List.mem_of_getElem? hx) e he)
  have h2 : codeI e.lit ≠ -1 := by omega
  simp only [cntR, cntO, getD_one ha, hasB, List.any_cons, List.any_nil, Bool.or_false, h2, ne_eq, not_false_eq_true, decide_true, Bool.and_true]
  by_cases h : a = a'
  · simp [h]
  · have : ((a : Int) == (a' : Int)) = false := by simp; omega
    have h3 : (a == a') = false := by simpa using h
    rw [this, h3]

def kp21 : Kp := [(3, ([1, 2, 5, 10, 11], [16, 224]))]
theorem f21_spec (t : Task) (n1 : Bool) (s : List Int) (ht : isB t = true) (hs : risingB s t.facts.length = true) (out : List Fr) :
    SpecP Try.prog 21 [.task t, .ints n1 s] out fun r ro => r = accV 224 1 ((selI t.acts.length (onlyA t s)).map tI) ∧ ro = accO 224 3 1 ((selI t.acts.length (onlyA t s)).map tI) := by
  refine spec_body cx_ok kp21 [] (fn := Try.f21) (by kernel_rfl) rfl (by kernel_rfl) rfl (by unfold FnOK; kernel_rfl) fun hok => ?_
  have TK := task_ok ht
  have hA := TK.acts
  have hal : (t.acts.map tAct).length = t.acts.length := List.length_map ..
  refine LoopW.mk (Nat × List Int) (fun p => p.1 ≤ t.acts.length ∧ p.2 = selI p.1 (onlyA t s)) (fun p => [(1, .ints n1 s), (2, .ptr (.cur 16) 0), (5, accV 224 1 (p.2.map tI)), (10, .int (t.acts.map tAct).length), (11, .int p.1)])
    (fun p => ⟨out, (16, .box (cellsTask t)) :: accO 224 3 1 (p.2.map tI)⟩) (fun p => t.acts.length - p.1) (0, []) ⟨Nat.zero_le _, rfl⟩ ⟨rfl, rfl⟩ ?_
  rintro ⟨i, acc⟩ ⟨hi0, hacc⟩
  simp only at hi0 hacc
  have hrow : i < t.acts.length → (List.replicate (t.acts.map tAct).length (tB false))[0 + ((i : Int)).toNat]? = some (tB false) := fun hi => by
    rw [Nat.zero_add, Int.toNat_natCast, List.getElem?_replicate, if_pos (by omega)]
  have hset : (List.replicate (t.acts.map tAct).length (tB false)).set (0 + ((i : Int)).toNat) (tB true) = ((List.replicate t.acts.length false).set i true).map tB := by
    rw [Nat.zero_add, Int.toNat_natCast, ← map_set', List.map_replicate, hal]
  have hlend : ((List.replicate t.acts.length false).set i true).map tB = (((List.replicate (t.acts.map tAct).length (tB false)).set (0 + ((i : Int)).toNat) (tB true)).drop 0).take (t.acts.map tAct).length := by
    rw [hset]; exact lend (by simp)
  have hlend2 : 0 + (t.acts.map tAct).length ≤ ((List.replicate (t.acts.map tAct).length (tB false)).set (0 + ((i : Int)).toNat) (tB true)).length := by simp
  cases acc with
  | nil =>
    refine And.intro (fun h1 => ?_) fun h1 => ?_
    · have hi : i < t.acts.length := lt_of_dec h1
      have hst := selI_step i (onlyA t s)
      refine And.intro rfl (And.intro (by omega) (And.intro (by show ((t.acts.map tAct).length : Int) * (1 : Nat) ≤ _; omega) (And.intro (by omega) ?_)))
      refine And.intro (by omega) (And.intro (by show (i : Int) < (t.acts.map tAct).length; omega) (Exists.intro _ (And.intro (hrow hi) (And.intro (Nat.le_refl 1) ?_))))
      refine Exists.intro _ (And.intro hlend (And.intro hlend2 ?_))
      refine SpecP.mono (f64_spec t n1 false s ((List.replicate t.acts.length false).set i true) ht hs (by simp) _) ?_
      rintro _ _ ⟨rfl, rfl⟩
      refine And.intro trivial (And.intro trivial ?_)
      rw [onlyA_eq TK hi]
      refine And.intro (fun h3 => ?_) fun h3 => ?_
      · refine And.intro (Nat.le_of_ble_eq_true rfl) (And.intro (Nat.le_of_ble_eq_true rfl) (And.intro (Nat.le_of_ble_eq_true rfl) ?_))
        refine And.intro (by omega) (And.intro (by omega) ?_)
        exact Exists.intro (i + 1, [(i : Int)]) (And.intro (by show t.acts.length - (i + 1) < t.acts.length - i; omega) (And.intro ⟨hi, by show [(i : Int)] = _; rw [hst, ← hacc, h3]; rfl⟩ (And.intro rfl rfl)))
      · refine And.intro (by omega) (And.intro (by omega) ?_)
        exact Exists.intro (i + 1, []) (And.intro (by show t.acts.length - (i + 1) < t.acts.length - i; omega) (And.intro ⟨hi, by show [] = _; rw [hst, ← hacc, h3]; rfl⟩ (And.intro rfl rfl)))
    · have hi : i = t.acts.length := by have := ge_of_dec h1; omega
      rw [hi] at hacc
      refine Exists.intro [224] ⟨?_, ?_⟩
      · rw [← hacc]; rfl
      · rw [← hacc]; rfl
  | cons x r =>
    refine And.intro (fun h1 => ?_) fun h1 => ?_
    · have hi : i < t.acts.length := lt_of_dec h1
      have hst := selI_step i (onlyA t s)
      have hln : (x :: r).length ≤ i := by rw [hacc]; exact selI_len i _
      have hln2 : ((tI x :: r.map tI) ++ [tI i]).length ≤ i + 1 := by simp at hln ⊢; omega
      refine And.intro rfl (And.intro (by omega) (And.intro (by show ((t.acts.map tAct).length : Int) * (1 : Nat) ≤ _; omega) (And.intro (by omega) ?_)))
      refine And.intro (by omega) (And.intro (by show (i : Int) < (t.acts.map tAct).length; omega) (Exists.intro _ (And.intro (hrow hi) (And.intro (Nat.le_refl 1) ?_))))
      refine Exists.intro _ (And.intro hlend (And.intro hlend2 ?_))
      refine SpecP.mono (f64_spec t n1 false s ((List.replicate t.acts.length false).set i true) ht hs (by simp) _) ?_
      rintro _ _ ⟨rfl, rfl⟩
      refine And.intro trivial (And.intro trivial ?_)
      rw [onlyA_eq TK hi]
      refine And.intro (fun h3 => ?_) fun h3 => ?_
      · refine And.intro (Nat.le_of_ble_eq_true rfl) (And.intro rfl (And.intro (by show ((tI x :: r.map tI) ++ [tI i]).length * 8 ≤ _; omega) (And.intro (by show ((tI x :: r.map tI) ++ [tI i]).length ≤ _; omega) ?_)))
        refine And.intro (by omega) (And.intro (by omega) ?_)
        have e : (r ++ [(i : Int)]).map tI = r.map tI ++ [tI i] := by simp
        refine Exists.intro (i + 1, x :: (r ++ [(i : Int)])) (And.intro (by show t.acts.length - (i + 1) < t.acts.length - i; omega) (And.intro ⟨hi, by show x :: (r ++ [(i : Int)]) = _; rw [hst, ← hacc, h3]; rfl⟩ ?_))
        simp only [List.map_cons, e]
        exact And.intro rfl rfl
      · refine And.intro (by omega) (And.intro (by omega) ?_)
        exact Exists.intro (i + 1, x :: r) (And.intro (by show t.acts.length - (i + 1) < t.acts.length - i; omega) (And.intro ⟨hi, by show x :: r = _; rw [hst, ← hacc, h3]; simp⟩ (And.intro rfl rfl)))
    · have hi : i = t.acts.length := by have := ge_of_dec h1; omega
      rw [hi] at hacc
      refine Exists.intro [224] ⟨?_, ?_⟩
      · rw [← hacc]; rfl
      · rw [← hacc]; rfl

end Go.Fw

/- What the program's functions do, part 21: package mark's Facts. -/
namespace Go.Fw
open Go Go.Proofs
set_option maxRecDepth 10000

/-- Literals by their numbers: those that hold, and those without which the goal is not reached. -/
noncomputable def onlyL (t : Task) (s : List Int) (k : Nat) : Bool := holdsB s [litI k] || !allR t s (fun _ l => decide (l ≠ litI k)) t.goal

theorem litI_in {n k : Nat} (h : k < 2 * n) : litIn n (litI k) := by
  have e : ((k : Int)).tdiv 2 = (k : Int) / 2 := Int.tdiv_eq_ediv_of_nonneg (by omega)
  refine ⟨?_, ?_⟩ <;> (simp only [litI, e]; omega)

theorem hts_of {t : Task} {s : List Int} (h0 : fineI t s = 0) : isB t = true ∧ risingB s t.facts.length = true := by
  unfold fineI at h0
  cases h1 : isB t <;> cases h2 : risingB s t.facts.length <;> simp [h1, h2] at h0
  exact ⟨rfl, rfl⟩

def od15 : Od := [(9, [(0, .pure), (1, .pure), (2, .eff), (3, .eff), (4, .pure), (5, .pure), (6, .pure), (7, .pure), (9, .pure), (10, .pure), (8, .eff), (11, .eff), (12, .pure), (13, .pure)])]
def kp15 : Kp := [(6, ([1, 2, 7, 19, 20], [16, 336]))]
theorem f15_spec (t : Task) (n1 : Bool) (s : List Int) (out : List Fr) :
    SpecP Try.prog 15 [.task t, .ints n1 s] out fun r ro => (fineI t s ≠ 0 ∧ r = .tup [.t (.sl true 0 []), .int (fineI t s)] ∧ ro = []) ∨
      (fineI t s = 0 ∧ r = .tup [accV 336 2 (((selI (2 * t.facts.length) (onlyL t s)).map litI).map tLit), .int 0] ∧ ro = accO 336 50 2 (((selI (2 * t.facts.length) (onlyL t s)).map litI).map tLit)) := by
  refine spec_body cx_ok kp15 od15 (fn := Try.f15) (by kernel_rfl) rfl (by kernel_rfl) rfl (by unfold FnOK; kernel_rfl) fun hok => ?_
  refine SpecP.mono (f54_spec t n1 s []) ?_
  rintro _ _ ⟨rfl, rfl⟩
  refine And.intro (fun h0 => ?_) fun h0 => ?_
  · exact Exists.intro [] (.inl ⟨by simpa using h0, rfl, rfl⟩)
  have h0 : fineI t s = 0 := by simpa using h0
  obtain ⟨ht, hs⟩ := hts_of h0
  have TK := task_ok ht
  have hN := TK.facts
  have hfl : (t.facts.map tS).length = t.facts.length := List.length_map ..
  refine And.intro (by omega) (And.intro (by omega) ?_)
  refine LoopW.mk (Nat × List Int) (fun p => p.1 ≤ 2 * t.facts.length ∧ p.2 = selI p.1 (onlyL t s)) (fun p => [(1, .ints n1 s), (2, .ptr (.cur 16) 0), (7, accV 336 2 ((p.2.map litI).map tLit)), (19, .int (2 * ((t.facts.map tS).length : Int))), (20, .int p.1)])
    (fun p => ⟨out, (16, .box (cellsTask t)) :: accO 336 50 2 ((p.2.map litI).map tLit)⟩) (fun p => 2 * t.facts.length - p.1) (0, []) ⟨Nat.zero_le _, rfl⟩ ⟨rfl, rfl⟩ ?_
  rintro ⟨i, acc⟩ ⟨hi0, hacc⟩
  simp only at hi0 hacc
  cases acc with
  | nil =>
    refine And.intro (fun h1 => ?_) fun h1 => ?_
    · have hi : i < 2 * t.facts.length := by have := of_decide_eq_true h1; simp only at this; omega
      have hst := selI_step i (onlyL t s)
      refine SpecP.mono (f55_spec i (by omega) ⟨by omega, by omega⟩ []) ?_
      rintro _ _ ⟨rfl, rfl⟩
      refine Exists.intro [tLit (litI i)] (And.intro rfl (And.intro (Nat.le_refl 1) ?_))
      refine SpecP.mono (f56_spec n1 false s [litI i] t.facts.length hs (by omega) _) ?_
      rintro _ _ ⟨rfl, rfl⟩
      refine And.intro trivial (And.intro trivial (And.intro ⟨rfl, rfl, rfl⟩ ?_))
      refine And.intro (fun h2 => ?_) fun h2 => ?_
      · have h3 : onlyL t s i = true := by rw [onlyL, h2]; rfl
        refine And.intro (Nat.le_of_ble_eq_true rfl) (And.intro (Nat.le_of_ble_eq_true rfl) (And.intro (Nat.le_of_ble_eq_true rfl) ?_))
        refine And.intro (by omega) (And.intro (by omega) ?_)
        exact Exists.intro (i + 1, [(i : Int)]) (And.intro (by show 2 * t.facts.length - (i + 1) < 2 * t.facts.length - i; omega) (And.intro ⟨hi, by show [(i : Int)] = _; rw [hst, ← hacc, h3]; rfl⟩ (And.intro rfl rfl)))
      refine SpecP.mono (f58_spec t n1 s 59 72 (fun _ l => decide (l ≠ litI i)) ht hs _ fun fr a x ha _ => f59_spec a x (litI i) fr _ out rfl) ?_
      rintro _ _ ⟨b, hb, rfl, rfl⟩
      refine And.intro trivial (And.intro ⟨flat_bools, trivial⟩ (And.intro ⟨rfl, rfl, rfl⟩ ?_))
      refine Exists.intro (b.map tB) (And.intro (lend rfl) (And.intro (lend2 rfl) ?_))
      refine SpecP.mono (f57_spec false t.gn b t.goal (fun x hx => (TK.goal x hx).inB hN hb.len) _) ?_
      rintro _ _ ⟨rfl, rfl⟩
      refine And.intro trivial (And.intro trivial (And.intro ⟨rfl, rfl, rfl⟩ ?_))
      rw [hb.all]
      refine And.intro (fun h4 => ?_) fun h4 => ?_
      · have h3 : onlyL t s i = false := by rw [onlyL, h2, h4]; rfl
        refine And.intro (by omega) (And.intro (by omega) ?_)
        exact Exists.intro (i + 1, []) (And.intro (by show 2 * t.facts.length - (i + 1) < 2 * t.facts.length - i; omega) (And.intro ⟨hi, by show [] = _; rw [hst, ← hacc, h3]; rfl⟩ (And.intro rfl rfl)))
      · have h3 : onlyL t s i = true := by rw [onlyL, h2, h4]; rfl
        refine And.intro (Nat.le_of_ble_eq_true rfl) (And.intro (Nat.le_of_ble_eq_true rfl) (And.intro (Nat.le_of_ble_eq_true rfl) ?_))
        refine And.intro (by omega) (And.intro (by omega) ?_)
        exact Exists.intro (i + 1, [(i : Int)]) (And.intro (by show 2 * t.facts.length - (i + 1) < 2 * t.facts.length - i; omega) (And.intro ⟨hi, by show [(i : Int)] = _; rw [hst, ← hacc, h3]; rfl⟩ (And.intro rfl rfl)))
    · have hi : i = 2 * t.facts.length := by have := of_decide_eq_false h1; simp only at this; omega
      rw [hi] at hacc
      refine Exists.intro [336] (.inr ⟨h0, ?_, ?_⟩)
      · rw [← hacc]; rfl
      · rw [← hacc]; rfl
  | cons x r =>
    refine And.intro (fun h1 => ?_) fun h1 => ?_
    · have hi : i < 2 * t.facts.length := by have := of_decide_eq_true h1; simp only at this; omega
      have hst := selI_step i (onlyL t s)
      have hln : (x :: r).length ≤ i := by rw [hacc]; exact selI_len i _
      have hln2 : ((tLit (litI x) :: (r.map litI).map tLit) ++ [tLit (litI i)]).length ≤ i + 1 := by simp at hln ⊢; omega
      have e : ((r ++ [(i : Int)]).map litI).map tLit = (r.map litI).map tLit ++ [tLit (litI i)] := by simp
      refine SpecP.mono (f55_spec i (by omega) ⟨by omega, by omega⟩ []) ?_
      rintro _ _ ⟨rfl, rfl⟩
      refine Exists.intro [tLit (litI i)] (And.intro rfl (And.intro (Nat.le_refl 1) ?_))
      refine SpecP.mono (f56_spec n1 false s [litI i] t.facts.length hs (by omega) _) ?_
      rintro _ _ ⟨rfl, rfl⟩
      refine And.intro trivial (And.intro trivial (And.intro ⟨rfl, rfl, rfl⟩ ?_))
      refine And.intro (fun h2 => ?_) fun h2 => ?_
      · have h3 : onlyL t s i = true := by rw [onlyL, h2]; rfl
        refine And.intro (Nat.le_of_ble_eq_true rfl) (And.intro rfl (And.intro (Nat.le_trans (Nat.mul_le_mul_right _ hln2) (by show (i + 1) * 16 ≤ _; omega)) (And.intro (Nat.le_trans hln2 (by omega)) ?_)))
        refine And.intro (by omega) (And.intro (by omega) ?_)
        refine Exists.intro (i + 1, x :: (r ++ [(i : Int)])) (And.intro (by show 2 * t.facts.length - (i + 1) < 2 * t.facts.length - i; omega) (And.intro ⟨hi, by show x :: (r ++ [(i : Int)]) = _; rw [hst, ← hacc, h3]; rfl⟩ ?_))
        simp only [List.map_cons, e]
        exact And.intro rfl rfl
      refine SpecP.mono (f58_spec t n1 s 59 72 (fun _ l => decide (l ≠ litI i)) ht hs _ fun fr a x ha _ => f59_spec a x (litI i) fr _ out rfl) ?_
      rintro _ _ ⟨b, hb, rfl, rfl⟩
      refine And.intro trivial (And.intro ⟨flat_bools, trivial⟩ (And.intro ⟨rfl, rfl, rfl⟩ ?_))
      refine Exists.intro (b.map tB) (And.intro (lend rfl) (And.intro (lend2 rfl) ?_))
      refine SpecP.mono (f57_spec false t.gn b t.goal (fun x hx => (TK.goal x hx).inB hN hb.len) _) ?_
      rintro _ _ ⟨rfl, rfl⟩
      refine And.intro trivial (And.intro trivial (And.intro ⟨rfl, rfl, rfl⟩ ?_))
      rw [hb.all]
      refine And.intro (fun h4 => ?_) fun h4 => ?_
      · have h3 : onlyL t s i = false := by rw [onlyL, h2, h4]; rfl
        refine And.intro (by omega) (And.intro (by omega) ?_)
        exact Exists.intro (i + 1, x :: r) (And.intro (by show 2 * t.facts.length - (i + 1) < 2 * t.facts.length - i; omega) (And.intro ⟨hi, by show x :: r = _; rw [hst, ← hacc, h3]; simp⟩ (And.intro rfl rfl)))
      · have h3 : onlyL t s i = true := by rw [onlyL, h2, h4]; rfl
        refine And.intro (Nat.le_of_ble_eq_true rfl) (And.intro rfl (And.intro (Nat.le_trans (Nat.mul_le_mul_right _ hln2) (by show (i + 1) * 16 ≤ _; omega)) (And.intro (Nat.le_trans hln2 (by omega)) ?_)))
        refine And.intro (by omega) (And.intro (by omega) ?_)
        refine Exists.intro (i + 1, x :: (r ++ [(i : Int)])) (And.intro (by show 2 * t.facts.length - (i + 1) < 2 * t.facts.length - i; omega) (And.intro ⟨hi, by show x :: (r ++ [(i : Int)]) = _; rw [hst, ← hacc, h3]; rfl⟩ ?_))
        simp only [List.map_cons, e]
        exact And.intro rfl rfl
    · have hi : i = 2 * t.facts.length := by have := of_decide_eq_false h1; simp only at this; omega
      rw [hi] at hacc
      refine Exists.intro [336] (.inr ⟨h0, ?_, ?_⟩)
      · rw [← hacc]; rfl
      · rw [← hacc]; rfl

end Go.Fw

/- What the program's functions do, part 22: the reference's Facts. -/
namespace Go.Fw
open Go Go.Proofs
set_option maxRecDepth 10000

theorem splB {g b : Bool} {K' : LV → Prop} (h : ∀ v, b = v → K' (.t (.v (.bool v)))) : splW g (.t (.v (.bool b))) K' := by
  cases g
  · exact h b rfl
  · exact ⟨fun hb => h _ hb, fun hb => h _ hb⟩

theorem litI_two (f : Nat) (v : Bool) (j : Nat) (hj : j < 2) (hv : decide (j = 1) = v) : litI ((2 * f + j : Nat) : Int) = ⟨(f : Int), v⟩ := by
  have e1 : (((2 * f + j : Nat) : Int)).tdiv 2 = (f : Int) := by rw [Int.tdiv_eq_ediv_of_nonneg (by omega)]; omega
  have e2 : (((2 * f + j : Nat) : Int)).tmod 2 = (j : Int) := by rw [Int.tmod_eq_emod_of_nonneg (by omega)]; omega
  rw [litI, e1, e2, ← hv]
  congr 1
  by_cases h : j = 1
  · subst h; rfl
  · have : j = 0 := by omega
    subst this; rfl
theorem code_inj {x y : Lit} (h : codeI x = codeI y) : x = y := by
  obtain ⟨f, n⟩ := x
  obtain ⟨g, m⟩ := y
  unfold codeI at h
  cases n <;> cases m <;> simp at h <;> first | (have : f = g := by omega
                                                 subst this; rfl) | (exfalso; omega)
theorem onlyL_eq {t : Task} {s : List Int} {k : Nat} : (holdsB s [litI k] || !allR t s (cntR (List.replicate t.acts.length false) (codeI (litI k))) t.goal) = onlyL t s k := by
  rw [onlyL]
  refine congrArg (fun b => holdsB s [litI k] || !b) (allR_congr fun a x e hx he => ?_)
  have h2 : (List.replicate t.acts.length false).getD a false = false := by
    rw [List.getD_eq_getElem?_getD, List.getElem?_replicate]; split <;> rfl
  simp only [cntR, h2, Bool.not_false, Bool.true_and]
  by_cases h : e.lit = litI k
  · simp [h]
  · have : codeI e.lit ≠ codeI (litI k) := fun hh => h (code_inj hh)
    simp [h, this]

def od19 : Od := [(10, [(0, .pure), (1, .pure), (2, .eff), (3, .eff), (4, .pure), (5, .pure), (6, .pure), (7, .pure), (8, .pure), (11, .pure), (12, .pure), (9, .eff), (10, .eff), (13, .eff), (14, .pure), (15, .pure)])]
def kp19 : Kp := [(4, ([1, 2, 5, 6, 17, 18], [16, 112, 392])), (7, ([1, 2, 5, 6, 7, 17, 18, 21, 22, 23], [16, 112, 168, 392]))]
theorem f19_spec (t : Task) (n1 : Bool) (s : List Int) (ht : isB t = true) (hs : risingB s t.facts.length = true) (out : List Fr) :
    SpecP Try.prog 19 [.task t, .ints n1 s] out fun r ro => r = accV 392 2 (((selI (2 * t.facts.length) (onlyL t s)).map litI).map tLit) ∧ ro = accO 392 50 2 (((selI (2 * t.facts.length) (onlyL t s)).map litI).map tLit) := by
  refine spec_body cx_ok kp19 od19 (fn := Try.f19) (by kernel_rfl) rfl (by kernel_rfl) rfl (by unfold FnOK; kernel_rfl) fun hok => ?_
  have TK := task_ok ht
  have hN := TK.facts
  have hA := TK.acts
  have hfl : (t.facts.map tS).length = t.facts.length := List.length_map ..
  have hal : (t.acts.map tAct).length = t.acts.length := List.length_map ..
  refine And.intro rfl (And.intro (by omega) (And.intro (by show ((t.acts.map tAct).length : Int) * (1 : Nat) ≤ _; omega) (And.intro (by omega) ?_)))
  have hrep : List.replicate (t.acts.map tAct).length (tB false) = (List.replicate t.acts.length false).map tB := by rw [List.map_replicate, hal]
  refine LoopW.mk (Nat × List Int) (fun p => p.1 ≤ t.facts.length ∧ p.2 = selI (2 * p.1) (onlyL t s)) (fun p => [(1, .ints n1 s), (2, .ptr (.cur 16) 0), (5, accV 392 2 ((p.2.map litI).map tLit)), (6, .osl (.cur 112) 1 0 (t.acts.map tAct).length), (17, .int (t.facts.map tS).length), (18, .int p.1)])
    (fun p => ⟨out, (16, .box (cellsTask t)) :: (112, .row 4 1 ((List.replicate t.acts.length false).map tB)) :: accO 392 50 2 ((p.2.map litI).map tLit)⟩) (fun p => t.facts.length - p.1) (0, []) ⟨Nat.zero_le _, rfl⟩ ⟨rfl, by rw [← hrep]; rfl⟩ ?_
  rintro ⟨f, acc⟩ ⟨hf0, hacc⟩
  simp only at hf0 hacc
  have inner : ∀ {j : Nat} {m : Nat}, decide ((j : Int) < (m : Int)) = true → j < m := fun h => by have := of_decide_eq_true h; omega
  have inner2 : ∀ {j : Nat} {m : Nat}, decide ((j : Int) < (m : Int)) = false → m ≤ j := fun h => by have := of_decide_eq_false h; omega
  have hget : ∀ {j : Nat}, j < 2 → [tB false, tB true][0 + ((j : Int)).toNat]? = some (tB (decide (j = 1))) := fun {j} h => by
    match j, h with
    | 0, _ => rfl
    | 1, _ => rfl
  cases acc
  case' nil =>
    refine And.intro (fun h1 => ?_) fun h1 => ?_
    rotate_left
    · have hi : f = t.facts.length := by have := ge_of_dec h1; omega
      rw [hi] at hacc
      refine Exists.intro [392] ⟨?_, ?_⟩
      · rw [← hacc]; rfl
      · rw [← hacc]; rfl
    have hf : f < t.facts.length := lt_of_dec h1
    clear h1
    refine LoopW.mk (Nat × List Int) (fun p => p.1 ≤ 2 ∧ p.2 = selI (2 * f + p.1) (onlyL t s)) (fun p => [(1, .ints n1 s), (2, .ptr (.cur 16) 0), (5, accV 392 2 ((p.2.map litI).map tLit)), (6, .osl (.cur 112) 1 0 (t.acts.map tAct).length), (7, .int f), (17, .int (t.facts.map tS).length), (18, .int f), (21, .osl (.cur 168) 1 0 2), (22, .int (2 : Nat)), (23, .int p.1)])
      (fun p => ⟨out, (16, .box (cellsTask t)) :: (112, .row 4 1 ((List.replicate t.acts.length false).map tB)) :: (168, .row 4 1 [tB false, tB true]) :: accO 392 50 2 ((p.2.map litI).map tLit)⟩) (fun p => 2 - p.1) (0, []) ⟨Nat.zero_le _, hacc⟩ ⟨rfl, rfl⟩ ?_
    clear hacc
  case' cons x r =>
    refine And.intro (fun h1 => ?_) fun h1 => ?_
    rotate_left
    · have hi : f = t.facts.length := by have := ge_of_dec h1; omega
      rw [hi] at hacc
      refine Exists.intro [392] ⟨?_, ?_⟩
      · rw [← hacc]; rfl
      · rw [← hacc]; rfl
    have hf : f < t.facts.length := lt_of_dec h1
    clear h1
    refine LoopW.mk (Nat × List Int) (fun p => p.1 ≤ 2 ∧ p.2 = selI (2 * f + p.1) (onlyL t s)) (fun p => [(1, .ints n1 s), (2, .ptr (.cur 16) 0), (5, accV 392 2 ((p.2.map litI).map tLit)), (6, .osl (.cur 112) 1 0 (t.acts.map tAct).length), (7, .int f), (17, .int (t.facts.map tS).length), (18, .int f), (21, .osl (.cur 168) 1 0 2), (22, .int (2 : Nat)), (23, .int p.1)])
      (fun p => ⟨out, (16, .box (cellsTask t)) :: (112, .row 4 1 ((List.replicate t.acts.length false).map tB)) :: (168, .row 4 1 [tB false, tB true]) :: accO 392 50 2 ((p.2.map litI).map tLit)⟩) (fun p => 2 - p.1) (0, x :: r) ⟨Nat.zero_le _, hacc⟩ ⟨rfl, rfl⟩ ?_
    clear hacc
  all_goals
    rintro ⟨j, acc⟩ ⟨hj0, hacc⟩
    simp only at hj0 hacc
    have fin : ∀ hj : j < 2, ∀ v, decide (j = 1) = v → ∀ y : Bool, (holdsB s [⟨(f : Int), v⟩] || !allR t s (cntR (List.replicate t.acts.length false) (codeI ⟨(f : Int), v⟩)) t.goal) = y → onlyL t s (2 * f + j) = y := fun hj v hv y h => by
      rw [← onlyL_eq, litI_two f v j hj hv]; exact h
    have hst : selI (2 * f + (j + 1)) (onlyL t s) = acc ++ if onlyL t s (2 * f + j) then [((2 * f + j : Nat) : Int)] else [] := by
      rw [← Nat.add_assoc, selI_step, hacc]
    cases acc with
    | nil =>
      refine And.intro (fun h2 => ?_) fun h2 => ?_
      · have hj : j < 2 := inner h2
        refine And.intro (by omega) (And.intro (by show (j : Int) < (2 : Nat); omega) (Exists.intro _ (And.intro (hget hj) ?_)))
        refine splB fun v hv => ?_
        refine Exists.intro [tLit ⟨(f : Int), v⟩] (And.intro rfl (And.intro (Nat.le_refl 1) ?_))
        refine SpecP.mono (f25_spec n1 false s [⟨(f : Int), v⟩] _) ?_
        rintro _ _ ⟨rfl, rfl⟩
        refine And.intro trivial (And.intro trivial (And.intro ⟨rfl, rfl, rfl⟩ ?_))
        refine And.intro (fun h3 => ?_) fun h3 => ?_
        · have h4 := fin hj v hv true (by rw [h3]; rfl)
          refine And.intro (Nat.le_of_ble_eq_true rfl) (And.intro (Nat.le_of_ble_eq_true rfl) (And.intro (Nat.le_of_ble_eq_true rfl) ?_))
          refine And.intro (by omega) (And.intro (by omega) ?_)
          refine Exists.intro (j + 1, [((2 * f + j : Nat) : Int)]) (And.intro (by show 2 - (j + 1) < 2 - j; omega) (And.intro ⟨hj, by show [_] = selI (2 * f + (j + 1)) _; rw [hst, h4]; rfl⟩ (And.intro rfl ?_)))
          show _ = (⟨out, (16, .box (cellsTask t)) :: (112, .row 4 1 ((List.replicate t.acts.length false).map tB)) :: (168, .row 4 1 [tB false, tB true]) :: [(392, .row 50 2 [tLit (litI ((2 * f + j : Nat) : Int))])]⟩ : St)
          rw [litI_two f v j hj hv]; rfl
        refine SpecP.mono (f63_spec ⟨(f : Int), v⟩ ⟨by show _ ≤ (f : Int); omega, by show (f : Int) ≤ _; omega⟩ []) ?_
        rintro _ _ ⟨rfl, rfl⟩
        refine And.intro ⟨rfl, rfl, rfl⟩ ?_
        refine Exists.intro ((List.replicate t.acts.length false).map tB) (And.intro (lend (by simp)) (And.intro (lend2 (by simp)) ?_))
        refine SpecP.mono (f27_spec t n1 false s (List.replicate t.acts.length false) (codeI ⟨(f : Int), v⟩) ht hs (by simp) _) ?_
        rintro _ _ ⟨b, hb, rfl, rfl⟩
        refine And.intro trivial (And.intro ⟨flat_bools, trivial⟩ (And.intro ⟨rfl, rfl, rfl⟩ ?_))
        refine Exists.intro (b.map tB) (And.intro (lend rfl) (And.intro (lend2 rfl) ?_))
        refine SpecP.mono (f28_spec false t.gn b t.goal (fun x hx => (TK.goal x hx).inB hN hb.len) _) ?_
        rintro _ _ ⟨rfl, rfl⟩
        refine And.intro trivial (And.intro trivial (And.intro ⟨rfl, rfl, rfl⟩ ?_))
        rw [hb.all]
        refine And.intro (fun h5 => ?_) fun h5 => ?_
        · have h4 := fin hj v hv false (by rw [h3, h5]; rfl)
          refine And.intro (by omega) (And.intro (by omega) ?_)
          exact Exists.intro (j + 1, []) (And.intro (by show 2 - (j + 1) < 2 - j; omega) (And.intro ⟨hj, by show [] = selI (2 * f + (j + 1)) _; rw [hst, h4]; rfl⟩ (And.intro rfl rfl)))
        · have h4 := fin hj v hv true (by rw [h3, h5]; rfl)
          refine And.intro (Nat.le_of_ble_eq_true rfl) (And.intro (Nat.le_of_ble_eq_true rfl) (And.intro (Nat.le_of_ble_eq_true rfl) ?_))
          refine And.intro (by omega) (And.intro (by omega) ?_)
          refine Exists.intro (j + 1, [((2 * f + j : Nat) : Int)]) (And.intro (by show 2 - (j + 1) < 2 - j; omega) (And.intro ⟨hj, by show [_] = selI (2 * f + (j + 1)) _; rw [hst, h4]; rfl⟩ (And.intro rfl ?_)))
          show _ = (⟨out, (16, .box (cellsTask t)) :: (112, .row 4 1 ((List.replicate t.acts.length false).map tB)) :: (168, .row 4 1 [tB false, tB true]) :: [(392, .row 50 2 [tLit (litI ((2 * f + j : Nat) : Int))])]⟩ : St)
          rw [litI_two f v j hj hv]; rfl
      · have hj : j = 2 := by have := inner2 h2; omega
        subst hj
        refine And.intro (by omega) (And.intro (by omega) ?_)
        exact Exists.intro (f + 1, []) (And.intro (by show t.facts.length - (f + 1) < t.facts.length - f; omega) (And.intro ⟨hf, hacc⟩ (And.intro rfl rfl)))
    | cons z q =>
      have hln : (z :: q).length ≤ 2 * f + j := by rw [hacc]; exact selI_len _ _
      have hln2 : ∀ w : List T, ((tLit (litI z) :: (q.map litI).map tLit) ++ [w]).length ≤ 2 * f + j + 1 := fun w => by simp at hln ⊢; omega
      have e : ((q ++ [((2 * f + j : Nat) : Int)]).map litI).map tLit = (q.map litI).map tLit ++ [tLit (litI ((2 * f + j : Nat) : Int))] := by simp
      refine And.intro (fun h2 => ?_) fun h2 => ?_
      · have hj : j < 2 := inner h2
        refine And.intro (by omega) (And.intro (by show (j : Int) < (2 : Nat); omega) (Exists.intro _ (And.intro (hget hj) ?_)))
        refine splB fun v hv => ?_
        refine Exists.intro [tLit ⟨(f : Int), v⟩] (And.intro rfl (And.intro (Nat.le_refl 1) ?_))
        refine SpecP.mono (f25_spec n1 false s [⟨(f : Int), v⟩] _) ?_
        rintro _ _ ⟨rfl, rfl⟩
        refine And.intro trivial (And.intro trivial (And.intro ⟨rfl, rfl, rfl⟩ ?_))
        refine And.intro (fun h3 => ?_) fun h3 => ?_
        · have h4 := fin hj v hv true (by rw [h3]; rfl)
          refine And.intro (Nat.le_of_ble_eq_true rfl) (And.intro rfl (And.intro (Nat.le_trans (Nat.mul_le_mul_right _ (hln2 _)) (by show (2 * f + j + 1) * 16 ≤ _; omega)) (And.intro (Nat.le_trans (hln2 _) (by omega)) ?_)))
          refine And.intro (by omega) (And.intro (by omega) ?_)
          refine Exists.intro (j + 1, z :: (q ++ [((2 * f + j : Nat) : Int)])) (And.intro (by show 2 - (j + 1) < 2 - j; omega) (And.intro ⟨hj, by show z :: _ = selI (2 * f + (j + 1)) _; rw [hst, h4]; rfl⟩ ?_))
          simp only [List.map_cons, e, litI_two f v j hj hv]
          exact And.intro rfl rfl
        refine SpecP.mono (f63_spec ⟨(f : Int), v⟩ ⟨by show _ ≤ (f : Int); omega, by show (f : Int) ≤ _; omega⟩ []) ?_
        rintro _ _ ⟨rfl, rfl⟩
        refine And.intro ⟨rfl, rfl, rfl⟩ ?_
        refine Exists.intro ((List.replicate t.acts.length false).map tB) (And.intro (lend (by simp)) (And.intro (lend2 (by simp)) ?_))
        refine SpecP.mono (f27_spec t n1 false s (List.replicate t.acts.length false) (codeI ⟨(f : Int), v⟩) ht hs (by simp) _) ?_
        rintro _ _ ⟨b, hb, rfl, rfl⟩
        refine And.intro trivial (And.intro ⟨flat_bools, trivial⟩ (And.intro ⟨rfl, rfl, rfl⟩ ?_))
        refine Exists.intro (b.map tB) (And.intro (lend rfl) (And.intro (lend2 rfl) ?_))
        refine SpecP.mono (f28_spec false t.gn b t.goal (fun x hx => (TK.goal x hx).inB hN hb.len) _) ?_
        rintro _ _ ⟨rfl, rfl⟩
        refine And.intro trivial (And.intro trivial (And.intro ⟨rfl, rfl, rfl⟩ ?_))
        rw [hb.all]
        refine And.intro (fun h5 => ?_) fun h5 => ?_
        · have h4 := fin hj v hv false (by rw [h3, h5]; rfl)
          refine And.intro (by omega) (And.intro (by omega) ?_)
          exact Exists.intro (j + 1, z :: q) (And.intro (by show 2 - (j + 1) < 2 - j; omega) (And.intro ⟨hj, by show z :: q = selI (2 * f + (j + 1)) _; rw [hst, h4]; simp⟩ (And.intro rfl rfl)))
        · have h4 := fin hj v hv true (by rw [h3, h5]; rfl)
          refine And.intro (Nat.le_of_ble_eq_true rfl) (And.intro rfl (And.intro (Nat.le_trans (Nat.mul_le_mul_right _ (hln2 _)) (by show (2 * f + j + 1) * 16 ≤ _; omega)) (And.intro (Nat.le_trans (hln2 _) (by omega)) ?_)))
          refine And.intro (by omega) (And.intro (by omega) ?_)
          refine Exists.intro (j + 1, z :: (q ++ [((2 * f + j : Nat) : Int)])) (And.intro (by show 2 - (j + 1) < 2 - j; omega) (And.intro ⟨hj, by show z :: _ = selI (2 * f + (j + 1)) _; rw [hst, h4]; rfl⟩ ?_))
          simp only [List.map_cons, e, litI_two f v j hj hv]
          exact And.intro rfl rfl
      · have hj : j = 2 := by have := inner2 h2; omega
        subst hj
        refine And.intro (by omega) (And.intro (by omega) ?_)
        exact Exists.intro (f + 1, z :: q) (And.intro (by show t.facts.length - (f + 1) < t.facts.length - f; omega) (And.intro ⟨hf, hacc⟩ (And.intro rfl rfl)))

end Go.Fw

/- What the program's functions do, part 23: what Cuts asks. -/
namespace Go.Fw
open Go Go.Proofs
set_option maxRecDepth 10000

abbrev LV.effs (nl : Bool) (l : List Eff) : LV := .t (.sl nl 3 (l.map tEff))
abbrev LV.eff (e : Eff) : LV := .agg [.t (.sl e.nil 2 (e.when_.map tLit)), .t (.v (.int .i64 e.lit.fact)), .t (.v (.bool e.lit.neg))]

theorem SpecP.conv {P : Program} {f : Nat} {args args' : List LV} {out : List Fr} {Post : LV → Fr → Prop} (hxy : ∀ (β : K → Nat) (RO : Nat → Prop) (w : World) (vals : List Value), Vals β RO w args vals → Vals β RO w args' vals) (h : SpecP P f args' out Post) : SpecP P f args out Post :=
  ⟨h.fn, fun β RO w vals hw hv => h.calls β RO w vals hw (hxy β RO w vals hv)⟩
theorem conv_third {a b x y : LV} (hxy : ∀ (β : K → Nat) (RO : Nat → Prop) (w : World) (v : Value), VL β RO w x v → VL β RO w y v) : ∀ (β : K → Nat) (RO : Nat → Prop) (w : World) (vals : List Value), Vals β RO w [a, b, x] vals → Vals β RO w [a, b, y] vals := fun β RO w vals hv =>
  ⟨hv.1, fun i z v hz hvz => by
    match i with
    | 0 => exact hv.2 0 z v hz hvz
    | 1 => exact hv.2 1 z v hz hvz
    | 2 => simp at hz; subst hz; exact hxy β RO w v (hv.2 2 x v rfl hvz)
    | i + 3 => simp at hz⟩

def kp92 : Kp := [(2, ([0, 1, 7, 8], []))]
theorem f92_spec (n1 : Bool) (l : List Eff) (fc k s : Nat) (p : Eff → Bool) (out : List Fr)
    (hc : ∀ x ∈ l, SpecP Try.prog fc [.eff x, .ptr (.fr (k + 1) s) 0] ([] :: out) fun r ro => r = .bool (p x) ∧ ro = []) :
    SpecP Try.prog 92 [.effs n1 l, .fn fc [(.fr k s, 0)]] out fun r ro => ∃ j : Int, r = .int j ∧ decide (0 ≤ j) = l.any p ∧ ro = [] := by
  refine spec_body cx_ok kp92 [] (fn := Try.f92) (by kernel_rfl) rfl (by kernel_rfl) rfl (by unfold FnOK; kernel_rfl) fun hok => ?_
  have hmx := le_max hok.1.1
  refine LoopW.mk Nat (fun i => i ≤ l.length ∧ (l.take i).any p = false) (fun i => [(0, .effs n1 l), (1, .fn fc [(.fr k s, 0)]), (7, .int (l.map tEff).length), (8, .int i)]) (fun _ => ⟨out, []⟩) (fun i => l.length - i) 0 ⟨Nat.zero_le _, rfl⟩ ⟨rfl, rfl⟩ fun i hI => ?_
  refine And.intro (fun h1 => ?_) fun h1 => ?_
  · have hi := lt_of_dec h1
    refine And.intro (by omega) (Exists.intro _ (And.intro (get_map hi) ?_))
    refine SpecP.mono (hc _ (List.getElem_mem hi)) ?_
    rintro _ _ ⟨rfl, rfl⟩
    refine And.intro trivial (And.intro trivial ?_)
    refine And.intro (fun h2 => ?_) fun h2 => ?_
    · exact Exists.intro [] ⟨_, rfl, by rw [any_true hi h2]; simp, rfl⟩
    · refine And.intro (by omega) (And.intro (by omega) ?_)
      exact Exists.intro (i + 1) (And.intro (by show l.length - (i + 1) < l.length - i; omega) (And.intro ⟨hi, any_step hi hI.2 h2⟩ (And.intro rfl rfl)))
  · exact Exists.intro [] ⟨_, rfl, by rw [any_end (ge_of_dec h1) hI.2]; rfl, rfl⟩
theorem f66_spec (n1 : Bool) (l : List Eff) (fc k s : Nat) (p : Eff → Bool) (out : List Fr)
    (hc : ∀ x ∈ l, SpecP Try.prog fc [.eff x, .ptr (.fr (k + 2) s) 0] ([] :: [] :: out) fun r ro => r = .bool (p x) ∧ ro = []) :
    SpecP Try.prog 66 [.effs n1 l, .fn fc [(.fr k s, 0)]] out fun r ro => r = .bool (l.any p) ∧ ro = [] := by
  refine spec_body cx_ok [] [] (fn := Try.f66) (by kernel_rfl) rfl (by kernel_rfl) rfl (by unfold FnOK; kernel_rfl) fun hok => ?_
  refine SpecP.mono (f92_spec n1 l fc (k + 1) s p _ hc) ?_
  rintro _ _ ⟨j, rfl, hj, rfl⟩
  refine And.intro trivial (And.intro trivial ?_)
  refine And.intro (fun h => ?_) fun h => ?_
  · exact Exists.intro [] (ret_bool (by rw [← hj]; simpa using h) rfl)
  · exact Exists.intro [] (ret_bool (by rw [← hj]; simpa using h) rfl)

def cntZ (rest : List Int) (a : Nat) (_ : Lit) : Bool := rest.getD a 0 == 0
theorem getI {rest : List Int} {a : Nat} (ha : a < rest.length) : (rest.map tI)[0 + ((a : Int)).toNat]? = some (tI (rest.getD a 0)) := by
  rw [Nat.zero_add, Int.toNat_natCast, List.getElem?_map, List.getElem?_eq_getElem ha, List.getD_eq_getElem?_getD, List.getElem?_eq_getElem ha]; rfl
theorem f65_spec (a : Nat) (x : Lit) (rest : List Int) (m : Nat) (ha : a < rest.length) (hm : rest.length = m) (fr fr1 : Fr) (out : List Fr) (h1 : look fr1 56 = some (.box [.osl (.cur 328) 1 0 m])) (h2 : look fr1 328 = some (.row 3 1 (rest.map tI))) :
    SpecP Try.prog 65 [.int a, .lit x, .ptr (.fr 1 56) 0] (fr :: fr1 :: out) fun r ro => r = .bool (cntZ rest a x) ∧ ro = [] := by
  refine spec_body cx_ok [] [] (fn := Try.f65) (by kernel_rfl) rfl (by kernel_rfl) rfl (by unfold FnOK; kernel_rfl) fun hok => ?_
  refine Exists.intro (.box [.osl (.fr 1 328) 1 0 m]) (And.intro (by simp only [St.get, List.getElem?_cons_succ, List.getElem?_cons_zero, h1]; rfl) ?_)
  refine And.intro (by omega) (And.intro (by omega) ?_)
  refine Exists.intro (.row 3 1 (rest.map tI)) (And.intro (by simp only [St.get, List.getElem?_cons_succ, List.getElem?_cons_zero, h2]; rfl) (Exists.intro _ (And.intro (getI ha) ?_)))
  refine And.intro (fun h => ?_) fun h => ?_
  · exact Exists.intro [] (ret_bool h rfl)
  · exact Exists.intro [] (ret_bool h rfl)

def hitE (b : List Bool) (e : Eff) : Bool := setHas b e.when_ && !bitAt b e.lit
def od67 : Od := [(1, [(0, .pure), (1, .pure), (2, .pure), (3, .eff), (4, .pure), (5, .pure), (6, .pure), (7, .pure), (8, .eff), (9, .pure), (10, .pure), (11, .pure), (12, .pure), (13, .pure)])]
theorem f67_spec (e : Eff) (b : List Bool) (n : Nat) (hn : b.length = n) (he : inB b e.lit) (hw : ∀ x ∈ e.when_, inB b x) (fr0 fr1 fr2 : Fr) (out : List Fr) (h1 : look fr2 88 = some (.box [.osl (.cur 369001291) 1 0 n])) (h2 : look fr2 369001291 = some (.row 4 1 (b.map tB))) :
    SpecP Try.prog 67 [.eff e, .ptr (.fr 2 88) 0] (fr0 :: fr1 :: fr2 :: out) fun r ro => r = .bool (hitE b e) ∧ ro = [] := by
  refine spec_body cx_ok [] od67 (fn := Try.f67) (by kernel_rfl) rfl (by kernel_rfl) rfl (by unfold FnOK; kernel_rfl) fun hok => ?_
  have g1 : St.get ⟨fr0 :: fr1 :: fr2 :: out, [(16, .box [.t (.sl e.nil 2 (e.when_.map tLit)), .t (.v (.int .i64 e.lit.fact)), .t (.v (.bool e.lit.neg))])]⟩ (.fr 2 88) = some (.box [.osl (.fr 2 369001291) 1 0 n]) := by simp only [St.get, List.getElem?_cons_succ, List.getElem?_cons_zero, h1]; rfl
  have g2 : St.get ⟨fr0 :: fr1 :: fr2 :: out, [(16, .box [.t (.sl e.nil 2 (e.when_.map tLit)), .t (.v (.int .i64 e.lit.fact)), .t (.v (.bool e.lit.neg))])]⟩ (.fr 2 369001291) = some (.row 4 1 (b.map tB)) := by simp only [St.get, List.getElem?_cons_succ, List.getElem?_cons_zero, h2]; rfl
  refine Exists.intro _ (And.intro g1 ?_)
  refine Exists.intro _ (And.intro g2 (Exists.intro (b.map tB) (And.intro (lend hn) (And.intro (lend2 hn) ?_))))
  refine SpecP.mono (f57_spec false e.nil b e.when_ hw _) ?_
  rintro _ _ ⟨rfl, rfl⟩
  refine And.intro trivial (And.intro trivial (And.intro ⟨rfl, rfl, rfl⟩ ?_))
  refine And.intro (fun k1 => ?_) fun k1 => ?_
  · refine Exists.intro _ (And.intro g1 ?_)
    refine SpecP.mono (f68_spec e.lit he.1 []) ?_
    rintro _ _ ⟨rfl, rfl⟩
    refine And.intro ⟨rfl, rfl, rfl⟩ ?_
    refine And.intro he.2.1 (And.intro (by rw [← hn]; exact he.2.2) ?_)
    refine Exists.intro _ (And.intro g2 (Exists.intro _ (And.intro (by rw [Nat.zero_add]; exact bit_get he) ?_)))
    refine And.intro (fun k2 => ?_) fun k2 => ?_
    · exact Exists.intro [] (ret_bool (by rw [hitE, k1, k2]; rfl) rfl)
    · exact Exists.intro [] (ret_bool (by rw [hitE, k1, k2]; rfl) rfl)
  · exact Exists.intro [] (ret_bool (by rw [hitE, k1]; rfl) rfl)

theorem f17_spec (t : Task) (n1 : Bool) (s : List Int) (out : List Fr) : SpecP Try.prog 17 [.task t, .ints n1 s] out fun r ro => r = .int (fineI t s) ∧ ro = [] := by
  refine spec_body cx_ok [] [] (fn := Try.f17) (by kernel_rfl) rfl (by kernel_rfl) rfl (by unfold FnOK; kernel_rfl) fun hok => ?_
  refine SpecP.mono (f61_spec t []) ?_
  rintro _ _ ⟨rfl, rfl⟩
  refine And.intro (fun h1 => ?_) fun h1 => ?_
  · refine SpecP.mono (f62_spec t n1 s []) ?_
    rintro _ _ ⟨rfl, rfl⟩
    refine And.intro (fun h2 => ?_) fun h2 => ?_
    · exact Exists.intro [] ⟨by simp only [fineI, h1, h2]; rfl, rfl⟩
    · exact Exists.intro [] ⟨by simp only [fineI, h1, h2]; rfl, rfl⟩
  · exact Exists.intro [] ⟨by simp only [fineI, h1]; rfl, rfl⟩

end Go.Fw

/- Cuts: the plain law of how they are found. -/
namespace Go.Fw
open Go Go.Proofs

theorem snocRec {α : Type} {p : List α → Prop} (nil : p []) (snoc : ∀ l a, p l → p (l ++ [a])) (l : List α) : p l := by
  have : ∀ l : List α, p l.reverse := by
    intro l
    induction l with
    | nil => exact nil
    | cons a r ih => rw [List.reverse_cons]; exact snoc _ _ ih
  have h := this l.reverse
  rwa [List.reverse_reverse] at h

structure CutD where
  acts : List Int
  cost : Int
def tCut (c : CutD) : List T := [.sl false 1 (c.acts.map tI), .v (.int .i64 c.cost)]

def hitA (t : Task) (rest : List Int) (b : List Bool) (a : Nat) : Bool := decide (rest.getD a 0 > 0) && (match t.acts[a]? with
  | some x => setHas b x.pre && x.effs.any (hitE b)
  | none => false)
def cutActs (t : Task) (rest : List Int) (b : List Bool) : List Int := selI t.acts.length (hitA t rest b)
def costStep (rest : List Int) (c a : Int) : Int := if (c == 0 || decide (rest.getD a.toNat 0 < c)) = true then rest.getD a.toNat 0 else c
def costOf (rest : List Int) (l : List Int) : Int := l.foldl (costStep rest) 0
def restStep (c : Int) (r : List Int) (a : Int) : List Int := r.set a.toNat (r.getD a.toNat 0 - c)
def restOf (rest : List Int) (c : Int) (l : List Int) : List Int := l.foldl (restStep c) rest

inductive CutRun (t : Task) (s : List Int) : List Int → List CutD → Prop
  | stop (rest : List Int) (b : List Bool) (hb : IsR t s (cntZ rest) b) (hg : setHas b t.goal = true) : CutRun t s rest []
  | step (rest : List Int) (b : List Bool) (L : List CutD) (hb : IsR t s (cntZ rest) b) (hg : setHas b t.goal = false)
      (h : CutRun t s (restOf rest (costOf rest (cutActs t rest b)) (cutActs t rest b)) L) : CutRun t s rest (⟨cutActs t rest b, costOf rest (cutActs t rest b)⟩ :: L)

def RestOK (t : Task) (rest : List Int) : Prop := rest.length = t.acts.length ∧ ∀ x ∈ rest, 0 ≤ x ∧ x ≤ 100000

theorem rest_get {t : Task} {rest : List Int} (h : RestOK t rest) (a : Nat) : 0 ≤ rest.getD a 0 ∧ rest.getD a 0 ≤ 100000 := by
  rcases Nat.lt_or_ge a rest.length with ha | ha
  · rw [List.getD_eq_getElem?_getD, List.getElem?_eq_getElem ha]; exact h.2 _ (List.getElem_mem ha)
  · rw [List.getD_eq_getElem?_getD, List.getElem?_eq_none ha]; simp

theorem selI_mem {n : Nat} {p : Nat → Bool} {x : Int} (h : x ∈ selI n p) : ∃ k : Nat, x = (k : Int) ∧ k < n ∧ p k = true := by
  obtain ⟨k, hk, rfl⟩ := List.mem_map.1 h
  obtain ⟨h1, h2⟩ := List.mem_filter.1 hk
  exact ⟨k, rfl, List.mem_range.1 h1, h2⟩
theorem selI_mem' {n : Nat} {p : Nat → Bool} {k : Nat} (h1 : k < n) (h2 : p k = true) : (k : Int) ∈ selI n p := List.mem_map.2 ⟨k, List.mem_filter.2 ⟨List.mem_range.2 h1, h2⟩, rfl⟩

/-- Where the goal is in reach of all, but not of what has nothing left, somebody crosses. -/
theorem cut_some {t : Task} {s : List Int} {rest : List Int} {b : List Bool} (hr : RestOK t rest) (hb : IsR t s (cntZ rest) b) (hg : setHas b t.goal = false) (hall : allR t s (cntO []) t.goal = true) : cutActs t rest b ≠ [] := by
  intro hno
  have hhit : ∀ a, a < t.acts.length → hitA t rest b a = false := fun a ha => by
    cases h : hitA t rest b a with
    | false => rfl
    | true =>
      have := selI_mem' ha h
      rw [cutActs] at hno; rw [hno] at this; cases this
  have key : ∀ k, Rch t s (cntO []) k → b.getD k false = true := by
    intro k h
    induction h with
    | ini k hk h => exact (hb.iff k).2 (.ini k hk h)
    | eff a x e hx he hcc hp hw ihp ihw =>
      have ha := (List.getElem?_eq_some_iff.1 hx).1
      have hpre : setHas b x.pre = true := List.all_eq_true.2 ihp
      have hwhn : setHas b e.when_ = true := List.all_eq_true.2 ihw
      by_cases h0 : rest.getD a 0 = 0
      · exact (hb.iff _).2 (.eff a x e hx he (by simp only [cntZ, h0]; rfl) (fun l hl => (hb.iff _).1 (ihp l hl)) fun l hl => (hb.iff _).1 (ihw l hl))
      · have hpos : rest.getD a 0 > 0 := by have := (rest_get hr a).1; omega
        have h2 := hhit a ha
        rw [hitA, hx] at h2
        simp only [hpos, decide_true, hpre, Bool.true_and] at h2
        have h3 := List.any_eq_false.1 h2 e he
        simp only [hitE, hwhn, Bool.true_and, Bool.not_eq_true', Bool.not_eq_false] at h3
        exact h3
  have : setHas b t.goal = true := List.all_eq_true.2 fun x hx => key _ (allR_iff.1 hall x hx)
  rw [this] at hg; cases hg

theorem costOf_snoc (rest : List Int) (l : List Int) (a : Int) : costOf rest (l ++ [a]) = costStep rest (costOf rest l) a := by simp [costOf]
/-- The cost is the least that is left. -/
theorem cost_facts {t : Task} {rest : List Int} (hr : RestOK t rest) : ∀ l : List Int, (∀ a ∈ l, rest.getD a.toNat 0 > 0) →
    (l = [] ∧ costOf rest l = 0) ∨ (0 < costOf rest l ∧ costOf rest l ≤ 100000 ∧ (∀ a ∈ l, costOf rest l ≤ rest.getD a.toNat 0) ∧ ∃ a ∈ l, costOf rest l = rest.getD a.toNat 0) := by
  intro l
  induction l using snocRec with
  | nil => intro _; exact .inl ⟨rfl, rfl⟩
  | snoc l a ih =>
    intro h
    have ha := h a (by simp)
    have hmax := (rest_get hr a.toNat).2
    refine .inr ?_
    rw [costOf_snoc, costStep]
    rcases ih fun x hx => h x (by simp [hx]) with ⟨rfl, h0⟩ | ⟨h1, h2, h3, x, hx, h4⟩
    · rw [h0]
      simp only [beq_self_eq_true, Bool.true_or, if_true]
      exact ⟨ha, hmax, fun y hy => (by simp at hy; rw [hy]; exact Int.le_refl _), a, by simp, rfl⟩
    · have hne : (costOf rest l == 0) = false := by simp; omega
      rw [hne, Bool.false_or]
      by_cases hlt : rest.getD a.toNat 0 < costOf rest l
      · rw [if_pos (by simpa using hlt)]
        refine ⟨ha, hmax, fun y hy => ?_, a, by simp, rfl⟩
        rcases List.mem_append.1 hy with hy | hy
        · have := h3 y hy; omega
        · simp at hy; rw [hy]; exact Int.le_refl _
      · rw [if_neg (by simpa using hlt)]
        refine ⟨h1, h2, fun y hy => ?_, x, by simp [hx], h4⟩
        rcases List.mem_append.1 hy with hy | hy
        · exact h3 y hy
        · simp at hy; rw [hy]; omega

theorem restOf_length (rest : List Int) (c : Int) (l : List Int) : (restOf rest c l).length = rest.length := by
  induction l using snocRec with
  | nil => rfl
  | snoc l a ih => rw [restOf, List.foldl_append]; simp only [List.foldl_cons, List.foldl_nil, restStep, List.length_set]; exact ih
theorem restOf_snoc (rest : List Int) (c : Int) (l : List Int) (a : Int) : restOf rest c (l ++ [a]) = restStep c (restOf rest c l) a := by simp [restOf]
theorem getD_setI {b : List Int} {i j : Nat} {v : Int} (hi : i < b.length) : (b.set i v).getD j 0 = if i = j then v else b.getD j 0 := by
  simp only [List.getD_eq_getElem?_getD, List.getElem?_set]
  by_cases h : i = j
  · subst h; simp [hi]
  · simp [h]
/-- What is left when different actions have paid. -/
theorem restOf_sel (rest : List Int) (c : Int) (p : Nat → Bool) : ∀ n, n ≤ rest.length → ∀ j, (restOf rest c (selI n p)).getD j 0 = if j < n ∧ p j = true then rest.getD j 0 - c else rest.getD j 0
  | 0, _, j => by simp [selI, restOf]
  | n + 1, hn, j => by
    have ih := restOf_sel rest c p n (by omega)
    rw [selI_step]
    cases hp : p n with
    | false =>
      simp only [Bool.false_eq_true, if_false, List.append_nil]
      rw [ih j]
      by_cases hj : j = n
      · subst hj; simp [hp]
      · have : j < n + 1 ↔ j < n := by omega
        simp only [this]
    | true =>
      simp only [if_true]
      rw [restOf_snoc, restStep, Int.toNat_natCast, getD_setI (by rw [restOf_length]; omega), ih n, ih j]
      by_cases hj : n = j
      · subst hj; simp [hp]
      · have : j < n + 1 ↔ j < n := by omega
        simp only [hj, if_false, this]

theorem countP_lt {p : Int → Bool} : ∀ {l l' : List Int}, l'.length = l.length → (∀ j, p (l'.getD j 0) = true → p (l.getD j 0) = true) → (∃ j, j < l.length ∧ p (l.getD j 0) = true ∧ p (l'.getD j 0) = false) → l'.countP p < l.countP p := by
  have le : ∀ {l l' : List Int}, l'.length = l.length → (∀ j, p (l'.getD j 0) = true → p (l.getD j 0) = true) → l'.countP p ≤ l.countP p := by
    intro l
    induction l with
    | nil => intro l' h _; have : l' = [] := List.eq_nil_of_length_eq_zero (by simpa using h); subst this; exact Nat.le_refl _
    | cons x r ih =>
      intro l' h hp
      cases l' with
      | nil => simp at h
      | cons y q =>
        have h1 := ih (by simpa using h) fun j => by simpa using hp (j + 1)
        have h0 := hp 0
        simp only [List.getD_cons_zero] at h0
        rw [List.countP_cons, List.countP_cons]
        by_cases hy : p y = true
        · rw [if_pos hy, if_pos (h0 hy)]; omega
        · rw [if_neg hy]; omega
  intro l
  induction l with
  | nil => intro l' _ _ ⟨j, hj, _⟩; simp at hj
  | cons x r ih =>
    intro l' h hp ⟨j, hj, h2, h3⟩
    cases l' with
    | nil => simp at h
    | cons y q =>
      rw [List.countP_cons, List.countP_cons]
      have h0 := hp 0
      simp only [List.getD_cons_zero] at h0
      cases j with
      | zero =>
        simp only [List.getD_cons_zero] at h2 h3
        have := le (l := r) (l' := q) (by simpa using h) fun j => by simpa using hp (j + 1)
        rw [h2, h3]; simp; omega
      | succ j =>
        have := ih (l' := q) (by simpa using h) (fun j => by simpa using hp (j + 1)) ⟨j, by simpa using hj, by simpa using h2, by simpa using h3⟩
        by_cases hy : p y = true
        · rw [if_pos hy, if_pos (h0 hy)]; omega
        · rw [if_neg hy]; omega

theorem cut_next {t : Task} {rest : List Int} {b : List Bool} (hr : RestOK t rest) (hne : cutActs t rest b ≠ []) :
    RestOK t (restOf rest (costOf rest (cutActs t rest b)) (cutActs t rest b)) ∧ (restOf rest (costOf rest (cutActs t rest b)) (cutActs t rest b)).countP (fun x => decide (x > 0)) < rest.countP (fun x => decide (x > 0)) ∧
      0 < costOf rest (cutActs t rest b) ∧ costOf rest (cutActs t rest b) ≤ 100000 := by
  have hpos : ∀ a ∈ cutActs t rest b, rest.getD a.toNat 0 > 0 := fun a ha => by
    obtain ⟨k, rfl, _, hk⟩ := selI_mem ha
    simp only [hitA, Bool.and_eq_true, decide_eq_true_eq] at hk
    exact hk.1
  rcases cost_facts hr _ hpos with ⟨h, _⟩ | ⟨h1, h2, h3, a0, ha0, h4⟩
  · exact absurd h hne
  generalize hc : costOf rest (cutActs t rest b) = c at *
  have hget := restOf_sel rest c (hitA t rest b) t.acts.length (by rw [hr.1]; exact Nat.le_refl _)
  have hlen : (restOf rest c (cutActs t rest b)).length = rest.length := restOf_length ..
  have hval : ∀ j, 0 ≤ (restOf rest c (cutActs t rest b)).getD j 0 ∧ (restOf rest c (cutActs t rest b)).getD j 0 ≤ rest.getD j 0 := fun j => by
    have hj := hget j
    rw [show restOf rest c (cutActs t rest b) = restOf rest c (selI t.acts.length (hitA t rest b)) from rfl, hj]
    have h0 := rest_get hr j
    split
    · rename_i hh
      have := h3 (j : Int) (selI_mem' hh.1 hh.2)
      rw [Int.toNat_natCast] at this
      omega
    · omega
  refine ⟨⟨by rw [hlen, hr.1], fun x hx => ?_⟩, countP_lt hlen (fun j hj => ?_) ?_, h1, h2⟩
  · obtain ⟨j, hj, rfl⟩ := List.getElem_of_mem hx
    have h5 := hval j
    have h6 := rest_get hr j
    rw [List.getD_eq_getElem?_getD, List.getElem?_eq_getElem hj] at h5
    simp only [Option.getD_some] at h5
    omega
  · simp only [decide_eq_true_eq] at hj ⊢
    have := hval j; omega
  · obtain ⟨k, rfl, hk1, hk2⟩ := selI_mem ha0
    refine ⟨k, by rw [hr.1]; exact hk1, ?_, ?_⟩
    · have := hpos _ ha0
      rw [Int.toNat_natCast] at this
      simpa using this
    · rw [show restOf rest c (cutActs t rest b) = restOf rest c (selI t.acts.length (hitA t rest b)) from rfl, hget k, if_pos ⟨hk1, hk2⟩]
      rw [Int.toNat_natCast] at h4
      have e : rest.getD k 0 - c = 0 := by omega
      rw [e]; rfl

end Go.Fw

/- What the program's functions do, part 24: Cuts (printed by wip/gen24.py). -/
namespace Go.Fw
open Go Go.Proofs
set_option maxRecDepth 10000

def od24 : Od := [(4, [(0, .pure), (1, .pure), (3, .pure), (4, .pure), (2, .eff), (5, .eff), (6, .pure)]), (22, [(0, .pure), (1, .pure), (2, .pure), (3, .pure), (4, .pure), (5, .pure), (6, .pure), (7, .pure), (8, .pure), (9, .pure), (10, .pure), (11, .pure)]), (28, [(0, .pure), (1, .pure), (2, .pure), (3, .pure), (4, .pure), (5, .pure), (6, .pure), (7, .pure), (8, .syn)])]
def kp24 : Kp := [(8, ([1, 2, 7, 31, 32, 33], [16, 56, 328])), (13, ([1, 2, 7, 10], [16, 56, 328, 960])), (18, ([1, 2, 7, 10, 11, 12, 53, 54, 55], [16, 56, 328, 88, 369001291, 96, 648, 960])), (26, ([1, 2, 7, 10, 12, 102, 103, 104], [16, 56, 328, 96, 648, 960]))]
theorem restOf_bound {c : Int} (h0 : 0 < c) (h1 : c ≤ 100000) {rest : List Int} (hr : ∀ x ∈ rest, 0 ≤ x ∧ x ≤ 100000) (l : List Int) : ∀ x ∈ restOf rest c l, -(100000 * (l.length : Int)) ≤ x ∧ x ≤ 100000 := by
  induction l using snocRec with
  | nil => intro x hx; have := hr x hx; simp; omega
  | snoc l a ih =>
    intro x hx
    rw [restOf_snoc, restStep] at hx
    simp only [List.length_append, List.length_cons, List.length_nil]
    have hg : -(100000 * (l.length : Int)) ≤ (restOf rest c l).getD a.toNat 0 ∧ (restOf rest c l).getD a.toNat 0 ≤ 100000 := by
      rcases Nat.lt_or_ge a.toNat (restOf rest c l).length with h | h
      · rw [List.getD_eq_getElem?_getD, List.getElem?_eq_getElem h]; exact ih _ (List.getElem_mem h)
      · rw [List.getD_eq_getElem?_getD, List.getElem?_eq_none h]; simp; omega
    rcases List.mem_or_eq_of_mem_set hx with hx | rfl
    · have := ih x hx; omega
    · omega
theorem map_setI {b : List Int} {i : Nat} {x : Int} : (b.map tI).set i (tI x) = (b.set i x).map tI := by rw [List.map_set]

set_option maxHeartbeats 4000000 in
theorem f24_spec (t : Task) (n1 : Bool) (s : List Int) (out : List Fr) :
    SpecP Try.prog 24 [.task t, .ints n1 s] out fun r ro => (fineI t s ≠ 0 ∧ r = .tup [.t (.sl true 0 []), .int (fineI t s)] ∧ ro = []) ∨
      (fineI t s = 0 ∧ allR t s (cntO []) t.goal = false ∧ r = .tup [.t (.sl true 0 []), .int 4] ∧ ro = []) ∨
      (fineI t s = 0 ∧ allR t s (cntO []) t.goal = true ∧ ∃ L, CutRun t s (t.acts.map (·.cost)) L ∧ r = .tup [accV 960 2 (L.map tCut), .int 0] ∧ ro = accO 960 54 2 (L.map tCut)) := by
  refine spec_body cx_ok kp24 od24 (fn := Try.f24) (by kernel_rfl) rfl (by kernel_rfl) rfl (by unfold FnOK; kernel_rfl) fun hok => ?_
  refine SpecP.mono (f54_spec t n1 s []) ?_
  rintro _ _ ⟨rfl, rfl⟩
  refine And.intro (fun h0 => ?_) fun h0 => ?_
  · exact Exists.intro [] (.inl ⟨by simpa using h0, rfl, rfl⟩)
  have h0 : fineI t s = 0 := by simpa using h0
  obtain ⟨ht, hs⟩ := hts_of h0
  have TK := task_ok ht
  have hN := TK.facts
  have hA := TK.acts
  have hal : (t.acts.map tAct).length = t.acts.length := List.length_map ..
  refine SpecP.conv (conv_third nil_sz) (SpecP.mono (f60_spec t n1 true s [] ht hs _) ?_)
  rintro _ _ ⟨b0, hb0, rfl, rfl⟩
  refine And.intro ⟨rfl, rfl, rfl⟩ ?_
  refine Exists.intro (b0.map tB) (And.intro (lend rfl) (And.intro (lend2 rfl) ?_))
  refine SpecP.mono (f57_spec false t.gn b0 t.goal (fun x hx => (TK.goal x hx).inB hN hb0.len) _) ?_
  rintro _ _ ⟨rfl, rfl⟩
  refine And.intro trivial (And.intro trivial (And.intro ⟨rfl, rfl, rfl⟩ ?_))
  rw [hb0.all]
  refine And.intro (fun hall => ?_) fun hall => ?_
  rotate_left
  · exact Exists.intro [] (.inr (.inl ⟨h0, hall, rfl, rfl⟩))
  clear hb0
  refine LoopW.mk (Nat × List Int) (fun p => p.1 ≤ t.acts.length ∧ p.2 = (t.acts.take p.1).map (·.cost)) (fun p => [(1, .ints n1 s), (2, .ptr (.cur 16) 0), (7, .ptr (.cur 56) 0), (31, .t (.sl t.an 4 (t.acts.map tAct))), (32, .int (t.acts.map tAct).length), (33, .int p.1)])
    (fun p => ⟨out, (16, .box (cellsTask t)) :: (56, .box [accV 328 1 (p.2.map tI)]) :: accO 328 3 1 (p.2.map tI)⟩) (fun p => t.acts.length - p.1) (0, []) ⟨Nat.zero_le _, rfl⟩ ⟨rfl, rfl⟩ ?_
  rintro ⟨i, acc⟩ ⟨hi0, hacc⟩
  simp only at hi0 hacc
  cases acc
  case' nil =>
    refine And.intro (fun h1 => ?_) fun h1 => ?_
    · have hi : i < t.acts.length := lt_of_dec h1
      have hst : (t.acts.take (i + 1)).map (·.cost) = ([]) ++ [t.acts[i].cost] := by rw [List.take_add_one, List.getElem?_eq_getElem hi, List.map_append, ← hacc]; rfl
      refine And.intro (by omega) (Exists.intro _ (And.intro (get_map hi) ?_))
      refine And.intro (Nat.le_of_ble_eq_true rfl) (And.intro (Nat.le_of_ble_eq_true rfl) (And.intro (Nat.le_of_ble_eq_true rfl) ?_))
      refine And.intro (by omega) (And.intro (by omega) ?_)
      exact Exists.intro (i + 1, [t.acts[i].cost]) (And.intro (by show t.acts.length - (i + 1) < t.acts.length - i; omega) (And.intro ⟨hi, hst.symm⟩ (And.intro rfl rfl)))
    have hi : i = t.acts.length := by have := ge_of_dec h1; omega
    rw [hi, List.take_length] at hacc
    refine LoopW.mk (List Int × List CutD) (fun p => RestOK t p.1 ∧ (∀ L, CutRun t s p.1 L → CutRun t s (t.acts.map (·.cost)) (p.2 ++ L)) ∧ p.2.length + p.1.countP (fun x => decide (x > 0)) ≤ 1000)
      (fun p => [(1, .ints n1 s), (2, .ptr (.cur 16) 0), (7, .ptr (.cur 56) 0), (10, accV 960 2 (p.2.map tCut))])
      (fun p => ⟨out, (16, .box (cellsTask t)) :: (56, .box [accV 328 1 (p.1.map tI)]) :: (accO 328 3 1 (p.1.map tI) ++ accO 960 54 2 (p.2.map tCut))⟩) (fun p => p.1.countP (fun x => decide (x > 0))) ([], [])
      ⟨by rw [hacc]; exact ⟨by simp, fun x hx => by obtain ⟨y, hy, rfl⟩ := List.mem_map.1 hx; exact TK.cost y hy⟩, fun L h => by rw [← hacc]; exact h, by
        have h1 := List.countP_le_length (p := fun x : Int => decide (x > 0)) (l := [])
        have h2 : ([] : List Int).length = t.acts.length := by rw [hacc]; simp
        show 0 + ([] : List Int).countP (fun x => decide (x > 0)) ≤ 1000
        omega⟩ ⟨rfl, rfl⟩ ?_
  case' cons x r =>
    refine And.intro (fun h1 => ?_) fun h1 => ?_
    · have hi : i < t.acts.length := lt_of_dec h1
      have hst : (t.acts.take (i + 1)).map (·.cost) = (x :: r) ++ [t.acts[i].cost] := by rw [List.take_add_one, List.getElem?_eq_getElem hi, List.map_append, ← hacc]; rfl
      refine And.intro (by omega) (Exists.intro _ (And.intro (get_map hi) ?_))
      have hln : (x :: r).length = i := by rw [hacc]; simp; omega
      have hln2 : ((tI x :: r.map tI) ++ [tI t.acts[i].cost]).length ≤ i + 1 := by simp at hln ⊢; omega
      refine And.intro (Nat.le_of_ble_eq_true rfl) (And.intro rfl (And.intro (by show ((tI x :: r.map tI) ++ [tI t.acts[i].cost]).length * 8 ≤ _; omega) (And.intro (by show ((tI x :: r.map tI) ++ [tI t.acts[i].cost]).length ≤ _; omega) ?_)))
      refine And.intro (by omega) (And.intro (by omega) ?_)
      have e : (r ++ [t.acts[i].cost]).map tI = r.map tI ++ [tI t.acts[i].cost] := by simp
      refine Exists.intro (i + 1, x :: (r ++ [t.acts[i].cost])) (And.intro (by show t.acts.length - (i + 1) < t.acts.length - i; omega) (And.intro ⟨hi, hst.symm⟩ ?_))
      simp only [List.map_cons, e]
      exact And.intro rfl rfl
    have hi : i = t.acts.length := by have := ge_of_dec h1; omega
    rw [hi, List.take_length] at hacc
    refine LoopW.mk (List Int × List CutD) (fun p => RestOK t p.1 ∧ (∀ L, CutRun t s p.1 L → CutRun t s (t.acts.map (·.cost)) (p.2 ++ L)) ∧ p.2.length + p.1.countP (fun x => decide (x > 0)) ≤ 1000)
      (fun p => [(1, .ints n1 s), (2, .ptr (.cur 16) 0), (7, .ptr (.cur 56) 0), (10, accV 960 2 (p.2.map tCut))])
      (fun p => ⟨out, (16, .box (cellsTask t)) :: (56, .box [accV 328 1 (p.1.map tI)]) :: (accO 328 3 1 (p.1.map tI) ++ accO 960 54 2 (p.2.map tCut))⟩) (fun p => p.1.countP (fun x => decide (x > 0))) (x :: r, [])
      ⟨by rw [hacc]; exact ⟨by simp, fun x hx => by obtain ⟨y, hy, rfl⟩ := List.mem_map.1 hx; exact TK.cost y hy⟩, fun L h => by rw [← hacc]; exact h, by
        have h1 := List.countP_le_length (p := fun x : Int => decide (x > 0)) (l := x :: r)
        have h2 : (x :: r : List Int).length = t.acts.length := by rw [hacc]; simp
        show 0 + (x :: r : List Int).countP (fun x => decide (x > 0)) ≤ 1000
        omega⟩ ⟨rfl, rfl⟩ ?_
  all_goals
    clear hi0 hacc h1 hi
    rintro ⟨rest, L0⟩ ⟨hR, hrun, hcnt⟩
    simp only at hR hrun hcnt
    have hbig : rest.length = t.acts.length := hR.1
    cases rest with
    | nil =>
      cases L0 with
      | nil =>
        refine SpecP.mono (f58_spec t n1 s 65 56 (cntZ []) ht hs _ fun fr a x ha _ => by simp at hbig; omega) ?_
        rintro _ _ ⟨b, hb, rfl, rfl⟩
        refine And.intro trivial (And.intro ⟨flat_bools, trivial⟩ ?_)
        refine Exists.intro (b.map tB) (And.intro (lend rfl) (And.intro (lend2 rfl) ?_))
        refine SpecP.mono (f57_spec false t.gn b t.goal (fun x hx => (TK.goal x hx).inB hN hb.len) _) ?_
        rintro _ _ ⟨rfl, rfl⟩
        refine And.intro trivial (And.intro trivial ?_)
        refine And.intro (fun h3 => ?_) fun h3 => ?_
        · refine Exists.intro [960] (.inr (.inr ⟨h0, hall, [], ?_, rfl, rfl⟩))
          have := hrun [] (.stop _ b hb h3)
          simpa using this
        · exact absurd (by rw [cutActs, ← hbig]; rfl) (cut_some hR hb h3 hall)
      | cons z q =>
        refine SpecP.mono (f58_spec t n1 s 65 56 (cntZ []) ht hs _ fun fr a x ha _ => by simp at hbig; omega) ?_
        rintro _ _ ⟨b, hb, rfl, rfl⟩
        refine And.intro trivial (And.intro ⟨flat_bools, trivial⟩ ?_)
        refine Exists.intro (b.map tB) (And.intro (lend rfl) (And.intro (lend2 rfl) ?_))
        refine SpecP.mono (f57_spec false t.gn b t.goal (fun x hx => (TK.goal x hx).inB hN hb.len) _) ?_
        rintro _ _ ⟨rfl, rfl⟩
        refine And.intro trivial (And.intro trivial ?_)
        refine And.intro (fun h3 => ?_) fun h3 => ?_
        · refine Exists.intro [960] (.inr (.inr ⟨h0, hall, z :: q, ?_, rfl, rfl⟩))
          have := hrun [] (.stop _ b hb h3)
          simpa using this
        · exact absurd (by rw [cutActs, ← hbig]; rfl) (cut_some hR hb h3 hall)
    | cons x0 r0 =>
      cases L0 with
      | nil =>
        refine SpecP.mono (f58_spec t n1 s 65 56 (cntZ (x0 :: r0)) ht hs _ fun fr a x ha _ => f65_spec a x (x0 :: r0) _ (by rw [hbig]; exact ha) (List.length_map ..).symm fr _ out rfl rfl) ?_
        rintro _ _ ⟨b, hb, rfl, rfl⟩
        refine And.intro trivial (And.intro ⟨flat_bools, trivial⟩ ?_)
        refine Exists.intro (b.map tB) (And.intro (lend rfl) (And.intro (lend2 rfl) ?_))
        refine SpecP.mono (f57_spec false t.gn b t.goal (fun x hx => (TK.goal x hx).inB hN hb.len) _) ?_
        rintro _ _ ⟨rfl, rfl⟩
        refine And.intro trivial (And.intro trivial ?_)
        refine And.intro (fun h3 => ?_) fun h3 => ?_
        · refine Exists.intro [960] (.inr (.inr ⟨h0, hall, [], ?_, rfl, rfl⟩))
          have := hrun [] (.stop _ b hb h3)
          simpa using this
        have hne := cut_some hR hb h3 hall
        refine LoopW.mk (Nat × List Int × Int) (fun p => p.1 ≤ t.acts.length ∧ p.2.1 = selI p.1 (hitA t (x0 :: r0) b) ∧ p.2.2 = costOf (x0 :: r0) p.2.1)
          (fun p => [(1, .ints n1 s), (2, .ptr (.cur 16) 0), (7, .ptr (.cur 56) 0), (10, accV 960 2 (([] : List CutD).map tCut)), (11, .ptr (.cur 88) 0), (12, .ptr (.cur 96) 0), (53, .t (.sl t.an 4 (t.acts.map tAct))), (54, .int (t.acts.map tAct).length), (55, .int p.1)])
          (fun p => ⟨out, (16, .box (cellsTask t)) :: (56, .box [.osl (.cur 328) 1 0 ((x0 :: r0).map tI).length]) :: (328, .row 3 1 ((x0 :: r0).map tI)) :: (88, .box [.osl (.cur 369001291) 1 0 b.length]) :: (369001291, .row 4 1 (b.map tB)) :: (96, .box [accV 648 1 (p.2.1.map tI), .t (.v (.int .i64 p.2.2))]) :: (accO 648 3 1 (p.2.1.map tI) ++ accO 960 54 2 (([] : List CutD).map tCut))⟩) (fun p => t.acts.length - p.1) (0, [], 0) ⟨Nat.zero_le _, rfl, rfl⟩ ⟨rfl, rfl⟩ ?_
        rintro ⟨i, A, c⟩ ⟨hi0, hAc, hc⟩
        simp only at hi0 hAc hc
        cases A with
        | nil =>
          refine And.intro (fun h4 => ?_) fun h4 => ?_
          · have hi : i < t.acts.length := lt_of_dec h4
            have hax : t.acts[i]? = some t.acts[i] := List.getElem?_eq_getElem hi
            have hmem : t.acts[i] ∈ t.acts := List.getElem_mem hi
            have hir : i < (x0 :: r0).length := by rw [hbig]; exact hi
            have hil : (i : Int) < ((x0 :: r0).map tI).length := by simp at hir ⊢; omega
            have hE := TK.effs _ hmem
            have hst := selI_step i (hitA t (x0 :: r0) b)
            have miss : hitA t (x0 :: r0) b i = false → selI (i + 1) (hitA t (x0 :: r0) b) = [] := fun h => by rw [hst, ← hAc, h]; simp
            have hit : hitA t (x0 :: r0) b i = true → selI (i + 1) (hitA t (x0 :: r0) b) = ([]) ++ [(i : Int)] := fun h => by rw [hst, ← hAc, h]; rfl
            refine And.intro (by omega) (Exists.intro _ (And.intro (get_map hi) ?_))
            refine And.intro (by omega) (And.intro hil (Exists.intro _ (And.intro (getI hir) ?_)))
            refine And.intro (fun h5 => ?_) fun h5 => ?_
            rotate_left
            · refine And.intro (by omega) (And.intro (by omega) ?_)
              exact Exists.intro (i + 1, [], c) (And.intro (by show t.acts.length - (i + 1) < t.acts.length - i; omega) (And.intro ⟨hi, (miss (by rw [hitA, h5]; rfl)).symm, hc⟩ (And.intro rfl rfl)))
            refine Exists.intro (b.map tB) (And.intro (lend rfl) (And.intro (lend2 rfl) ?_))
            refine SpecP.mono (f57_spec false t.acts[i].pn b t.acts[i].pre (fun x hx => (TK.pre _ hmem x hx).inB hN hb.len) _) ?_
            rintro _ _ ⟨rfl, rfl⟩
            refine And.intro trivial (And.intro trivial ?_)
            refine And.intro (fun h6 => ?_) fun h6 => ?_
            rotate_left
            · refine And.intro (by omega) (And.intro (by omega) ?_)
              exact Exists.intro (i + 1, [], c) (And.intro (by show t.acts.length - (i + 1) < t.acts.length - i; omega) (And.intro ⟨hi, (miss (by rw [hitA, hax, h5]; simp only [h6]; rfl)).symm, hc⟩ (And.intro rfl rfl)))
            refine SpecP.mono (f66_spec t.acts[i].en t.acts[i].effs 67 0 88 (hitE b) _ (fun x hx => f67_spec x b b.length rfl ((TK.lit _ hmem x hx).inB hN hb.len) (fun l hl => (TK.whn _ hmem x hx l hl).inB hN hb.len) [] [] _ out rfl rfl)) ?_
            rintro _ _ ⟨rfl, rfl⟩
            refine And.intro trivial (And.intro trivial ?_)
            refine And.intro (fun h7 => ?_) fun h7 => ?_
            rotate_left
            · refine And.intro (by omega) (And.intro (by omega) ?_)
              exact Exists.intro (i + 1, [], c) (And.intro (by show t.acts.length - (i + 1) < t.acts.length - i; omega) (And.intro ⟨hi, (miss (by rw [hitA, hax, h5]; simp only [h6, h7]; rfl)).symm, hc⟩ (And.intro rfl rfl)))
            have hyes : hitA t (x0 :: r0) b i = true := by rw [hitA, hax, h5]; simp only [h6, h7]; rfl
            have hcs : costOf (x0 :: r0) (([]) ++ [(i : Int)]) = costStep (x0 :: r0) c i := by rw [costOf_snoc, hc]
            refine And.intro (Nat.le_of_ble_eq_true rfl) (And.intro (Nat.le_of_ble_eq_true rfl) (And.intro (Nat.le_of_ble_eq_true rfl) ?_))
            refine And.intro (fun h8 => ?_) fun h8 => ?_
            · refine And.intro (by omega) (And.intro hil (Exists.intro _ (And.intro (getI hir) ?_)))
              refine And.intro (by omega) (And.intro (by omega) ?_)
              refine Exists.intro (i + 1, [(i : Int)], (x0 :: r0).getD i 0) (And.intro (by show t.acts.length - (i + 1) < t.acts.length - i; omega) (And.intro ⟨hi, (hit hyes).symm, ?_⟩ ?_))
              · show (x0 :: r0).getD i 0 = costOf (x0 :: r0) (([]) ++ [(i : Int)])
                rw [hcs, costStep, h8, Int.toNat_natCast]
                rfl
              · exact And.intro rfl rfl
            · refine And.intro (by omega) (And.intro hil (Exists.intro _ (And.intro (getI hir) ?_)))
              refine And.intro (fun h9 => ?_) fun h9 => ?_
              · refine And.intro (by omega) (And.intro hil (Exists.intro _ (And.intro (getI hir) ?_)))
                refine And.intro (by omega) (And.intro (by omega) ?_)
                refine Exists.intro (i + 1, [(i : Int)], (x0 :: r0).getD i 0) (And.intro (by show t.acts.length - (i + 1) < t.acts.length - i; omega) (And.intro ⟨hi, (hit hyes).symm, ?_⟩ ?_))
                · show (x0 :: r0).getD i 0 = costOf (x0 :: r0) (([]) ++ [(i : Int)])
                  rw [hcs, costStep, h8, Int.toNat_natCast, h9]
                  rfl
                · exact And.intro rfl rfl
              · refine And.intro (by omega) (And.intro (by omega) ?_)
                refine Exists.intro (i + 1, [(i : Int)], c) (And.intro (by show t.acts.length - (i + 1) < t.acts.length - i; omega) (And.intro ⟨hi, (hit hyes).symm, ?_⟩ ?_))
                · show c = costOf (x0 :: r0) (([]) ++ [(i : Int)])
                  rw [hcs, costStep, h8, Int.toNat_natCast, h9]
                  rfl
                · exact And.intro rfl rfl
          · have hi : i = t.acts.length := by have := ge_of_dec h4; omega
            rw [hi] at hAc
            exact absurd hAc.symm hne
        | cons y w =>
          refine And.intro (fun h4 => ?_) fun h4 => ?_
          · have hi : i < t.acts.length := lt_of_dec h4
            have hax : t.acts[i]? = some t.acts[i] := List.getElem?_eq_getElem hi
            have hmem : t.acts[i] ∈ t.acts := List.getElem_mem hi
            have hir : i < (x0 :: r0).length := by rw [hbig]; exact hi
            have hil : (i : Int) < ((x0 :: r0).map tI).length := by simp at hir ⊢; omega
            have hE := TK.effs _ hmem
            have hst := selI_step i (hitA t (x0 :: r0) b)
            have miss : hitA t (x0 :: r0) b i = false → selI (i + 1) (hitA t (x0 :: r0) b) = y :: w := fun h => by rw [hst, ← hAc, h]; simp
            have hit : hitA t (x0 :: r0) b i = true → selI (i + 1) (hitA t (x0 :: r0) b) = (y :: w) ++ [(i : Int)] := fun h => by rw [hst, ← hAc, h]; rfl
            refine And.intro (by omega) (Exists.intro _ (And.intro (get_map hi) ?_))
            refine And.intro (by omega) (And.intro hil (Exists.intro _ (And.intro (getI hir) ?_)))
            refine And.intro (fun h5 => ?_) fun h5 => ?_
            rotate_left
            · refine And.intro (by omega) (And.intro (by omega) ?_)
              exact Exists.intro (i + 1, y :: w, c) (And.intro (by show t.acts.length - (i + 1) < t.acts.length - i; omega) (And.intro ⟨hi, (miss (by rw [hitA, h5]; rfl)).symm, hc⟩ (And.intro rfl rfl)))
            refine Exists.intro (b.map tB) (And.intro (lend rfl) (And.intro (lend2 rfl) ?_))
            refine SpecP.mono (f57_spec false t.acts[i].pn b t.acts[i].pre (fun x hx => (TK.pre _ hmem x hx).inB hN hb.len) _) ?_
            rintro _ _ ⟨rfl, rfl⟩
            refine And.intro trivial (And.intro trivial ?_)
            refine And.intro (fun h6 => ?_) fun h6 => ?_
            rotate_left
            · refine And.intro (by omega) (And.intro (by omega) ?_)
              exact Exists.intro (i + 1, y :: w, c) (And.intro (by show t.acts.length - (i + 1) < t.acts.length - i; omega) (And.intro ⟨hi, (miss (by rw [hitA, hax, h5]; simp only [h6]; rfl)).symm, hc⟩ (And.intro rfl rfl)))
            refine SpecP.mono (f66_spec t.acts[i].en t.acts[i].effs 67 0 88 (hitE b) _ (fun x hx => f67_spec x b b.length rfl ((TK.lit _ hmem x hx).inB hN hb.len) (fun l hl => (TK.whn _ hmem x hx l hl).inB hN hb.len) [] [] _ out rfl rfl)) ?_
            rintro _ _ ⟨rfl, rfl⟩
            refine And.intro trivial (And.intro trivial ?_)
            refine And.intro (fun h7 => ?_) fun h7 => ?_
            rotate_left
            · refine And.intro (by omega) (And.intro (by omega) ?_)
              exact Exists.intro (i + 1, y :: w, c) (And.intro (by show t.acts.length - (i + 1) < t.acts.length - i; omega) (And.intro ⟨hi, (miss (by rw [hitA, hax, h5]; simp only [h6, h7]; rfl)).symm, hc⟩ (And.intro rfl rfl)))
            have hyes : hitA t (x0 :: r0) b i = true := by rw [hitA, hax, h5]; simp only [h6, h7]; rfl
            have hcs : costOf (x0 :: r0) ((y :: w) ++ [(i : Int)]) = costStep (x0 :: r0) c i := by rw [costOf_snoc, hc]
            have hln : (y :: w).length ≤ i := by rw [hAc]; exact selI_len i _
            have hln2 : ((tI y :: w.map tI) ++ [tI i]).length ≤ i + 1 := by simp at hln ⊢; omega
            have e : (w ++ [(i : Int)]).map tI = w.map tI ++ [tI i] := by simp
            refine And.intro (Nat.le_of_ble_eq_true rfl) (And.intro rfl (And.intro (by show ((tI y :: w.map tI) ++ [tI i]).length * 8 ≤ _; omega) (And.intro (by show ((tI y :: w.map tI) ++ [tI i]).length ≤ _; omega) ?_)))
            refine And.intro (fun h8 => ?_) fun h8 => ?_
            · refine And.intro (by omega) (And.intro hil (Exists.intro _ (And.intro (getI hir) ?_)))
              refine And.intro (by omega) (And.intro (by omega) ?_)
              refine Exists.intro (i + 1, y :: (w ++ [(i : Int)]), (x0 :: r0).getD i 0) (And.intro (by show t.acts.length - (i + 1) < t.acts.length - i; omega) (And.intro ⟨hi, (hit hyes).symm, ?_⟩ ?_))
              · show (x0 :: r0).getD i 0 = costOf (x0 :: r0) ((y :: w) ++ [(i : Int)])
                rw [hcs, costStep, h8, Int.toNat_natCast]
                rfl
              · simp only [List.map_cons, e]
                exact And.intro rfl rfl
            · refine And.intro (by omega) (And.intro hil (Exists.intro _ (And.intro (getI hir) ?_)))
              refine And.intro (fun h9 => ?_) fun h9 => ?_
              · refine And.intro (by omega) (And.intro hil (Exists.intro _ (And.intro (getI hir) ?_)))
                refine And.intro (by omega) (And.intro (by omega) ?_)
                refine Exists.intro (i + 1, y :: (w ++ [(i : Int)]), (x0 :: r0).getD i 0) (And.intro (by show t.acts.length - (i + 1) < t.acts.length - i; omega) (And.intro ⟨hi, (hit hyes).symm, ?_⟩ ?_))
                · show (x0 :: r0).getD i 0 = costOf (x0 :: r0) ((y :: w) ++ [(i : Int)])
                  rw [hcs, costStep, h8, Int.toNat_natCast, h9]
                  rfl
                · simp only [List.map_cons, e]
                  exact And.intro rfl rfl
              · refine And.intro (by omega) (And.intro (by omega) ?_)
                refine Exists.intro (i + 1, y :: (w ++ [(i : Int)]), c) (And.intro (by show t.acts.length - (i + 1) < t.acts.length - i; omega) (And.intro ⟨hi, (hit hyes).symm, ?_⟩ ?_))
                · show c = costOf (x0 :: r0) ((y :: w) ++ [(i : Int)])
                  rw [hcs, costStep, h8, Int.toNat_natCast, h9]
                  rfl
                · simp only [List.map_cons, e]
                  exact And.intro rfl rfl
          · have hi : i = t.acts.length := by have := ge_of_dec h4; omega
            rw [hi] at hAc
            have hAc' : y :: w = cutActs t (x0 :: r0) b := hAc
            have hnx := cut_next hR hne
            rw [← hAc', ← hc] at hnx
            obtain ⟨hR2, hless, hc0, hc1⟩ := hnx
            have hyl : (y :: w).length ≤ 1000 := by rw [hAc]; exact Nat.le_trans (selI_len _ _) hA
            refine LoopW.mk Nat (fun j => j ≤ (y :: w).length) (fun j => [(1, .ints n1 s), (2, .ptr (.cur 16) 0), (7, .ptr (.cur 56) 0), (10, accV 960 2 (([] : List CutD).map tCut)), (12, .ptr (.cur 96) 0), (102, .osl (.cur 648) 1 0 ((y :: w).map tI).length), (103, .int ((y :: w).map tI).length), (104, .int j)])
              (fun j => ⟨out, (16, .box (cellsTask t)) :: (56, .box [.osl (.cur 328) 1 0 ((x0 :: r0).map tI).length]) :: (328, .row 3 1 ((restOf (x0 :: r0) c ((y :: w).take j)).map tI)) :: (96, .box [.osl (.cur 648) 1 0 ((y :: w).map tI).length, .t (.v (.int .i64 c))]) :: (648, .row 3 1 ((y :: w).map tI)) :: accO 960 54 2 (([] : List CutD).map tCut)⟩) (fun j => (y :: w).length - j) 0 (Nat.zero_le _) ⟨rfl, rfl⟩ fun j hj0 => ?_
            refine And.intro (fun k1 => ?_) fun k1 => ?_
            · have hj : j < (y :: w).length := by have := of_decide_eq_true k1; simp at this ⊢; omega
              have hjl : (j : Int) < ((y :: w).map tI).length := by simp at hj ⊢; omega
              have hmem : (y :: w)[j] ∈ y :: w := List.getElem_mem hj
              obtain ⟨k, hk1, hk2, _⟩ := selI_mem ((show ∀ z ∈ y :: w, z ∈ selI t.acts.length (hitA t (x0 :: r0) b) from by rw [hAc]; exact fun _ h => h) _ hmem)
              have hgd : (y :: w).getD j 0 = (k : Int) := by rw [List.getD_eq_getElem?_getD, List.getElem?_eq_getElem hj]; exact hk1
              have hrl : (restOf (x0 :: r0) c ((y :: w).take j)).length = (x0 :: r0).length := restOf_length ..
              have hkl : k < (restOf (x0 :: r0) c ((y :: w).take j)).length := by rw [hrl, hbig]; exact hk2
              have hkl2 : (k : Int) < ((x0 :: r0).map tI).length := by rw [List.length_map, hbig]; omega
              have hbd : -(100000000 : Int) ≤ (restOf (x0 :: r0) c ((y :: w).take j)).getD k 0 ∧ (restOf (x0 :: r0) c ((y :: w).take j)).getD k 0 ≤ 100000 := by
                have := restOf_bound hc0 hc1 hR.2 ((y :: w).take j) _ (List.getElem_mem hkl)
                rw [List.getD_eq_getElem?_getD, List.getElem?_eq_getElem hkl]
                have hl : ((y :: w).take j).length ≤ 1000 := by rw [List.length_take]; omega
                simp only [Option.getD_some]; omega
              refine And.intro (by omega) (And.intro hjl (Exists.intro (tI k) (And.intro (by rw [← hgd]; exact getI hj) ?_)))
              refine And.intro (by omega) (And.intro hkl2 (Exists.intro _ (And.intro (getI hkl) ?_)))
              refine And.intro (by omega) (And.intro (by omega) ?_)
              refine And.intro (by omega) (And.intro hkl2 (Exists.intro _ (And.intro (getI hkl) (And.intro (Nat.le_refl 1) ?_))))
              refine And.intro (by omega) (And.intro (by omega) ?_)
              refine Exists.intro (j + 1) (And.intro (by show (y :: w).length - (j + 1) < (y :: w).length - j; omega) (And.intro hj (And.intro rfl ?_)))
              have e : ((restOf (x0 :: r0) c ((y :: w).take j)).map tI).set (0 + ((k : Int)).toNat) (tI ((restOf (x0 :: r0) c ((y :: w).take j)).getD k 0 - c)) = (restOf (x0 :: r0) c ((y :: w).take (j + 1))).map tI := by
                rw [Nat.zero_add, map_setI, List.take_add_one, List.getElem?_eq_getElem hj, Option.toList_some, restOf_snoc, restStep, hk1]; rfl
              rw [← e]; rfl
            · have hj : j = (y :: w).length := by have h := of_decide_eq_false k1; have h' : j ≤ (y :: w).length := hj0; simp at h h' ⊢; omega
              subst hj
              have hl1 : (restOf (x0 :: r0) c (y :: w)).length = (x0 :: r0).length := restOf_length ..
              obtain ⟨x1, r1, hr1⟩ : ∃ x1 r1, restOf (x0 :: r0) c (y :: w) = x1 :: r1 := by
                cases hh : restOf (x0 :: r0) c (y :: w) with
                | nil => rw [hh] at hl1; simp at hl1
                | cons x1 r1 => exact ⟨x1, r1, rfl⟩
              have hlen : ((x0 :: r0).map tI).length = ((x1 :: r1).map tI).length := by rw [hr1] at hl1; rw [List.length_map, List.length_map, hl1]
              rw [List.take_length, hr1, hlen]
              rw [hr1] at hR2 hless
              have e3 : List.take (tI y :: w.map tI).length (List.drop 0 (tI y :: w.map tI)) = tI y :: w.map tI := take_all.symm
              refine And.intro (lend3 (y :: w)) ?_
              refine And.intro (Nat.le_of_ble_eq_true rfl) (And.intro (Nat.le_of_ble_eq_true rfl) (And.intro (Nat.le_of_ble_eq_true rfl) ?_))
              refine Exists.intro (x1 :: r1, [⟨y :: w, c⟩]) (And.intro hless (And.intro ⟨hR2, fun LL hLL => ?_, ?_⟩ ?_))
              · have := hrun _ (.step (x0 :: r0) b LL hb h3 (by rw [← hAc', ← hc, hr1]; exact hLL))
                rw [← hAc', ← hc] at this
                simpa using this
              · have hh : ([] : List CutD).length + _ ≤ 1000 := hcnt
                simp at hh hless ⊢
                omega
              · simp only [List.map_cons, e3]
                exact And.intro rfl rfl
      | cons z q =>
        refine SpecP.mono (f58_spec t n1 s 65 56 (cntZ (x0 :: r0)) ht hs _ fun fr a x ha _ => f65_spec a x (x0 :: r0) _ (by rw [hbig]; exact ha) (List.length_map ..).symm fr _ out rfl rfl) ?_
        rintro _ _ ⟨b, hb, rfl, rfl⟩
        refine And.intro trivial (And.intro ⟨flat_bools, trivial⟩ ?_)
        refine Exists.intro (b.map tB) (And.intro (lend rfl) (And.intro (lend2 rfl) ?_))
        refine SpecP.mono (f57_spec false t.gn b t.goal (fun x hx => (TK.goal x hx).inB hN hb.len) _) ?_
        rintro _ _ ⟨rfl, rfl⟩
        refine And.intro trivial (And.intro trivial ?_)
        refine And.intro (fun h3 => ?_) fun h3 => ?_
        · refine Exists.intro [960] (.inr (.inr ⟨h0, hall, z :: q, ?_, rfl, rfl⟩))
          have := hrun [] (.stop _ b hb h3)
          simpa using this
        have hne := cut_some hR hb h3 hall
        refine LoopW.mk (Nat × List Int × Int) (fun p => p.1 ≤ t.acts.length ∧ p.2.1 = selI p.1 (hitA t (x0 :: r0) b) ∧ p.2.2 = costOf (x0 :: r0) p.2.1)
          (fun p => [(1, .ints n1 s), (2, .ptr (.cur 16) 0), (7, .ptr (.cur 56) 0), (10, accV 960 2 ((z :: q : List CutD).map tCut)), (11, .ptr (.cur 88) 0), (12, .ptr (.cur 96) 0), (53, .t (.sl t.an 4 (t.acts.map tAct))), (54, .int (t.acts.map tAct).length), (55, .int p.1)])
          (fun p => ⟨out, (16, .box (cellsTask t)) :: (56, .box [.osl (.cur 328) 1 0 ((x0 :: r0).map tI).length]) :: (328, .row 3 1 ((x0 :: r0).map tI)) :: (88, .box [.osl (.cur 369001291) 1 0 b.length]) :: (369001291, .row 4 1 (b.map tB)) :: (96, .box [accV 648 1 (p.2.1.map tI), .t (.v (.int .i64 p.2.2))]) :: (accO 648 3 1 (p.2.1.map tI) ++ accO 960 54 2 ((z :: q : List CutD).map tCut))⟩) (fun p => t.acts.length - p.1) (0, [], 0) ⟨Nat.zero_le _, rfl, rfl⟩ ⟨rfl, rfl⟩ ?_
        rintro ⟨i, A, c⟩ ⟨hi0, hAc, hc⟩
        simp only at hi0 hAc hc
        cases A with
        | nil =>
          refine And.intro (fun h4 => ?_) fun h4 => ?_
          · have hi : i < t.acts.length := lt_of_dec h4
            have hax : t.acts[i]? = some t.acts[i] := List.getElem?_eq_getElem hi
            have hmem : t.acts[i] ∈ t.acts := List.getElem_mem hi
            have hir : i < (x0 :: r0).length := by rw [hbig]; exact hi
            have hil : (i : Int) < ((x0 :: r0).map tI).length := by simp at hir ⊢; omega
            have hE := TK.effs _ hmem
            have hst := selI_step i (hitA t (x0 :: r0) b)
            have miss : hitA t (x0 :: r0) b i = false → selI (i + 1) (hitA t (x0 :: r0) b) = [] := fun h => by rw [hst, ← hAc, h]; simp
            have hit : hitA t (x0 :: r0) b i = true → selI (i + 1) (hitA t (x0 :: r0) b) = ([]) ++ [(i : Int)] := fun h => by rw [hst, ← hAc, h]; rfl
            refine And.intro (by omega) (Exists.intro _ (And.intro (get_map hi) ?_))
            refine And.intro (by omega) (And.intro hil (Exists.intro _ (And.intro (getI hir) ?_)))
            refine And.intro (fun h5 => ?_) fun h5 => ?_
            rotate_left
            · refine And.intro (by omega) (And.intro (by omega) ?_)
              exact Exists.intro (i + 1, [], c) (And.intro (by show t.acts.length - (i + 1) < t.acts.length - i; omega) (And.intro ⟨hi, (miss (by rw [hitA, h5]; rfl)).symm, hc⟩ (And.intro rfl rfl)))
            refine Exists.intro (b.map tB) (And.intro (lend rfl) (And.intro (lend2 rfl) ?_))
            refine SpecP.mono (f57_spec false t.acts[i].pn b t.acts[i].pre (fun x hx => (TK.pre _ hmem x hx).inB hN hb.len) _) ?_
            rintro _ _ ⟨rfl, rfl⟩
            refine And.intro trivial (And.intro trivial ?_)
            refine And.intro (fun h6 => ?_) fun h6 => ?_
            rotate_left
            · refine And.intro (by omega) (And.intro (by omega) ?_)
              exact Exists.intro (i + 1, [], c) (And.intro (by show t.acts.length - (i + 1) < t.acts.length - i; omega) (And.intro ⟨hi, (miss (by rw [hitA, hax, h5]; simp only [h6]; rfl)).symm, hc⟩ (And.intro rfl rfl)))
            refine SpecP.mono (f66_spec t.acts[i].en t.acts[i].effs 67 0 88 (hitE b) _ (fun x hx => f67_spec x b b.length rfl ((TK.lit _ hmem x hx).inB hN hb.len) (fun l hl => (TK.whn _ hmem x hx l hl).inB hN hb.len) [] [] _ out rfl rfl)) ?_
            rintro _ _ ⟨rfl, rfl⟩
            refine And.intro trivial (And.intro trivial ?_)
            refine And.intro (fun h7 => ?_) fun h7 => ?_
            rotate_left
            · refine And.intro (by omega) (And.intro (by omega) ?_)
              exact Exists.intro (i + 1, [], c) (And.intro (by show t.acts.length - (i + 1) < t.acts.length - i; omega) (And.intro ⟨hi, (miss (by rw [hitA, hax, h5]; simp only [h6, h7]; rfl)).symm, hc⟩ (And.intro rfl rfl)))
            have hyes : hitA t (x0 :: r0) b i = true := by rw [hitA, hax, h5]; simp only [h6, h7]; rfl
            have hcs : costOf (x0 :: r0) (([]) ++ [(i : Int)]) = costStep (x0 :: r0) c i := by rw [costOf_snoc, hc]
            refine And.intro (Nat.le_of_ble_eq_true rfl) (And.intro (Nat.le_of_ble_eq_true rfl) (And.intro (Nat.le_of_ble_eq_true rfl) ?_))
            refine And.intro (fun h8 => ?_) fun h8 => ?_
            · refine And.intro (by omega) (And.intro hil (Exists.intro _ (And.intro (getI hir) ?_)))
              refine And.intro (by omega) (And.intro (by omega) ?_)
              refine Exists.intro (i + 1, [(i : Int)], (x0 :: r0).getD i 0) (And.intro (by show t.acts.length - (i + 1) < t.acts.length - i; omega) (And.intro ⟨hi, (hit hyes).symm, ?_⟩ ?_))
              · show (x0 :: r0).getD i 0 = costOf (x0 :: r0) (([]) ++ [(i : Int)])
                rw [hcs, costStep, h8, Int.toNat_natCast]
                rfl
              · exact And.intro rfl rfl
            · refine And.intro (by omega) (And.intro hil (Exists.intro _ (And.intro (getI hir) ?_)))
              refine And.intro (fun h9 => ?_) fun h9 => ?_
              · refine And.intro (by omega) (And.intro hil (Exists.intro _ (And.intro (getI hir) ?_)))
                refine And.intro (by omega) (And.intro (by omega) ?_)
                refine Exists.intro (i + 1, [(i : Int)], (x0 :: r0).getD i 0) (And.intro (by show t.acts.length - (i + 1) < t.acts.length - i; omega) (And.intro ⟨hi, (hit hyes).symm, ?_⟩ ?_))
                · show (x0 :: r0).getD i 0 = costOf (x0 :: r0) (([]) ++ [(i : Int)])
                  rw [hcs, costStep, h8, Int.toNat_natCast, h9]
                  rfl
                · exact And.intro rfl rfl
              · refine And.intro (by omega) (And.intro (by omega) ?_)
                refine Exists.intro (i + 1, [(i : Int)], c) (And.intro (by show t.acts.length - (i + 1) < t.acts.length - i; omega) (And.intro ⟨hi, (hit hyes).symm, ?_⟩ ?_))
                · show c = costOf (x0 :: r0) (([]) ++ [(i : Int)])
                  rw [hcs, costStep, h8, Int.toNat_natCast, h9]
                  rfl
                · exact And.intro rfl rfl
          · have hi : i = t.acts.length := by have := ge_of_dec h4; omega
            rw [hi] at hAc
            exact absurd hAc.symm hne
        | cons y w =>
          refine And.intro (fun h4 => ?_) fun h4 => ?_
          · have hi : i < t.acts.length := lt_of_dec h4
            have hax : t.acts[i]? = some t.acts[i] := List.getElem?_eq_getElem hi
            have hmem : t.acts[i] ∈ t.acts := List.getElem_mem hi
            have hir : i < (x0 :: r0).length := by rw [hbig]; exact hi
            have hil : (i : Int) < ((x0 :: r0).map tI).length := by simp at hir ⊢; omega
            have hE := TK.effs _ hmem
            have hst := selI_step i (hitA t (x0 :: r0) b)
            have miss : hitA t (x0 :: r0) b i = false → selI (i + 1) (hitA t (x0 :: r0) b) = y :: w := fun h => by rw [hst, ← hAc, h]; simp
            have hit : hitA t (x0 :: r0) b i = true → selI (i + 1) (hitA t (x0 :: r0) b) = (y :: w) ++ [(i : Int)] := fun h => by rw [hst, ← hAc, h]; rfl
            refine And.intro (by omega) (Exists.intro _ (And.intro (get_map hi) ?_))
            refine And.intro (by omega) (And.intro hil (Exists.intro _ (And.intro (getI hir) ?_)))
            refine And.intro (fun h5 => ?_) fun h5 => ?_
            rotate_left
            · refine And.intro (by omega) (And.intro (by omega) ?_)
              exact Exists.intro (i + 1, y :: w, c) (And.intro (by show t.acts.length - (i + 1) < t.acts.length - i; omega) (And.intro ⟨hi, (miss (by rw [hitA, h5]; rfl)).symm, hc⟩ (And.intro rfl rfl)))
            refine Exists.intro (b.map tB) (And.intro (lend rfl) (And.intro (lend2 rfl) ?_))
            refine SpecP.mono (f57_spec false t.acts[i].pn b t.acts[i].pre (fun x hx => (TK.pre _ hmem x hx).inB hN hb.len) _) ?_
            rintro _ _ ⟨rfl, rfl⟩
            refine And.intro trivial (And.intro trivial ?_)
            refine And.intro (fun h6 => ?_) fun h6 => ?_
            rotate_left
            · refine And.intro (by omega) (And.intro (by omega) ?_)
              exact Exists.intro (i + 1, y :: w, c) (And.intro (by show t.acts.length - (i + 1) < t.acts.length - i; omega) (And.intro ⟨hi, (miss (by rw [hitA, hax, h5]; simp only [h6]; rfl)).symm, hc⟩ (And.intro rfl rfl)))
            refine SpecP.mono (f66_spec t.acts[i].en t.acts[i].effs 67 0 88 (hitE b) _ (fun x hx => f67_spec x b b.length rfl ((TK.lit _ hmem x hx).inB hN hb.len) (fun l hl => (TK.whn _ hmem x hx l hl).inB hN hb.len) [] [] _ out rfl rfl)) ?_
            rintro _ _ ⟨rfl, rfl⟩
            refine And.intro trivial (And.intro trivial ?_)
            refine And.intro (fun h7 => ?_) fun h7 => ?_
            rotate_left
            · refine And.intro (by omega) (And.intro (by omega) ?_)
              exact Exists.intro (i + 1, y :: w, c) (And.intro (by show t.acts.length - (i + 1) < t.acts.length - i; omega) (And.intro ⟨hi, (miss (by rw [hitA, hax, h5]; simp only [h6, h7]; rfl)).symm, hc⟩ (And.intro rfl rfl)))
            have hyes : hitA t (x0 :: r0) b i = true := by rw [hitA, hax, h5]; simp only [h6, h7]; rfl
            have hcs : costOf (x0 :: r0) ((y :: w) ++ [(i : Int)]) = costStep (x0 :: r0) c i := by rw [costOf_snoc, hc]
            have hln : (y :: w).length ≤ i := by rw [hAc]; exact selI_len i _
            have hln2 : ((tI y :: w.map tI) ++ [tI i]).length ≤ i + 1 := by simp at hln ⊢; omega
            have e : (w ++ [(i : Int)]).map tI = w.map tI ++ [tI i] := by simp
            refine And.intro (Nat.le_of_ble_eq_true rfl) (And.intro rfl (And.intro (by show ((tI y :: w.map tI) ++ [tI i]).length * 8 ≤ _; omega) (And.intro (by show ((tI y :: w.map tI) ++ [tI i]).length ≤ _; omega) ?_)))
            refine And.intro (fun h8 => ?_) fun h8 => ?_
            · refine And.intro (by omega) (And.intro hil (Exists.intro _ (And.intro (getI hir) ?_)))
              refine And.intro (by omega) (And.intro (by omega) ?_)
              refine Exists.intro (i + 1, y :: (w ++ [(i : Int)]), (x0 :: r0).getD i 0) (And.intro (by show t.acts.length - (i + 1) < t.acts.length - i; omega) (And.intro ⟨hi, (hit hyes).symm, ?_⟩ ?_))
              · show (x0 :: r0).getD i 0 = costOf (x0 :: r0) ((y :: w) ++ [(i : Int)])
                rw [hcs, costStep, h8, Int.toNat_natCast]
                rfl
              · simp only [List.map_cons, e]
                exact And.intro rfl rfl
            · refine And.intro (by omega) (And.intro hil (Exists.intro _ (And.intro (getI hir) ?_)))
              refine And.intro (fun h9 => ?_) fun h9 => ?_
              · refine And.intro (by omega) (And.intro hil (Exists.intro _ (And.intro (getI hir) ?_)))
                refine And.intro (by omega) (And.intro (by omega) ?_)
                refine Exists.intro (i + 1, y :: (w ++ [(i : Int)]), (x0 :: r0).getD i 0) (And.intro (by show t.acts.length - (i + 1) < t.acts.length - i; omega) (And.intro ⟨hi, (hit hyes).symm, ?_⟩ ?_))
                · show (x0 :: r0).getD i 0 = costOf (x0 :: r0) ((y :: w) ++ [(i : Int)])
                  rw [hcs, costStep, h8, Int.toNat_natCast, h9]
                  rfl
                · simp only [List.map_cons, e]
                  exact And.intro rfl rfl
              · refine And.intro (by omega) (And.intro (by omega) ?_)
                refine Exists.intro (i + 1, y :: (w ++ [(i : Int)]), c) (And.intro (by show t.acts.length - (i + 1) < t.acts.length - i; omega) (And.intro ⟨hi, (hit hyes).symm, ?_⟩ ?_))
                · show c = costOf (x0 :: r0) ((y :: w) ++ [(i : Int)])
                  rw [hcs, costStep, h8, Int.toNat_natCast, h9]
                  rfl
                · simp only [List.map_cons, e]
                  exact And.intro rfl rfl
          · have hi : i = t.acts.length := by have := ge_of_dec h4; omega
            rw [hi] at hAc
            have hAc' : y :: w = cutActs t (x0 :: r0) b := hAc
            have hnx := cut_next hR hne
            rw [← hAc', ← hc] at hnx
            obtain ⟨hR2, hless, hc0, hc1⟩ := hnx
            have hyl : (y :: w).length ≤ 1000 := by rw [hAc]; exact Nat.le_trans (selI_len _ _) hA
            refine LoopW.mk Nat (fun j => j ≤ (y :: w).length) (fun j => [(1, .ints n1 s), (2, .ptr (.cur 16) 0), (7, .ptr (.cur 56) 0), (10, accV 960 2 ((z :: q : List CutD).map tCut)), (12, .ptr (.cur 96) 0), (102, .osl (.cur 648) 1 0 ((y :: w).map tI).length), (103, .int ((y :: w).map tI).length), (104, .int j)])
              (fun j => ⟨out, (16, .box (cellsTask t)) :: (56, .box [.osl (.cur 328) 1 0 ((x0 :: r0).map tI).length]) :: (328, .row 3 1 ((restOf (x0 :: r0) c ((y :: w).take j)).map tI)) :: (96, .box [.osl (.cur 648) 1 0 ((y :: w).map tI).length, .t (.v (.int .i64 c))]) :: (648, .row 3 1 ((y :: w).map tI)) :: accO 960 54 2 ((z :: q : List CutD).map tCut)⟩) (fun j => (y :: w).length - j) 0 (Nat.zero_le _) ⟨rfl, rfl⟩ fun j hj0 => ?_
            refine And.intro (fun k1 => ?_) fun k1 => ?_
            · have hj : j < (y :: w).length := by have := of_decide_eq_true k1; simp at this ⊢; omega
              have hjl : (j : Int) < ((y :: w).map tI).length := by simp at hj ⊢; omega
              have hmem : (y :: w)[j] ∈ y :: w := List.getElem_mem hj
              obtain ⟨k, hk1, hk2, _⟩ := selI_mem ((show ∀ z ∈ y :: w, z ∈ selI t.acts.length (hitA t (x0 :: r0) b) from by rw [hAc]; exact fun _ h => h) _ hmem)
              have hgd : (y :: w).getD j 0 = (k : Int) := by rw [List.getD_eq_getElem?_getD, List.getElem?_eq_getElem hj]; exact hk1
              have hrl : (restOf (x0 :: r0) c ((y :: w).take j)).length = (x0 :: r0).length := restOf_length ..
              have hkl : k < (restOf (x0 :: r0) c ((y :: w).take j)).length := by rw [hrl, hbig]; exact hk2
              have hkl2 : (k : Int) < ((x0 :: r0).map tI).length := by rw [List.length_map, hbig]; omega
              have hbd : -(100000000 : Int) ≤ (restOf (x0 :: r0) c ((y :: w).take j)).getD k 0 ∧ (restOf (x0 :: r0) c ((y :: w).take j)).getD k 0 ≤ 100000 := by
                have := restOf_bound hc0 hc1 hR.2 ((y :: w).take j) _ (List.getElem_mem hkl)
                rw [List.getD_eq_getElem?_getD, List.getElem?_eq_getElem hkl]
                have hl : ((y :: w).take j).length ≤ 1000 := by rw [List.length_take]; omega
                simp only [Option.getD_some]; omega
              refine And.intro (by omega) (And.intro hjl (Exists.intro (tI k) (And.intro (by rw [← hgd]; exact getI hj) ?_)))
              refine And.intro (by omega) (And.intro hkl2 (Exists.intro _ (And.intro (getI hkl) ?_)))
              refine And.intro (by omega) (And.intro (by omega) ?_)
              refine And.intro (by omega) (And.intro hkl2 (Exists.intro _ (And.intro (getI hkl) (And.intro (Nat.le_refl 1) ?_))))
              refine And.intro (by omega) (And.intro (by omega) ?_)
              refine Exists.intro (j + 1) (And.intro (by show (y :: w).length - (j + 1) < (y :: w).length - j; omega) (And.intro hj (And.intro rfl ?_)))
              have e : ((restOf (x0 :: r0) c ((y :: w).take j)).map tI).set (0 + ((k : Int)).toNat) (tI ((restOf (x0 :: r0) c ((y :: w).take j)).getD k 0 - c)) = (restOf (x0 :: r0) c ((y :: w).take (j + 1))).map tI := by
                rw [Nat.zero_add, map_setI, List.take_add_one, List.getElem?_eq_getElem hj, Option.toList_some, restOf_snoc, restStep, hk1]; rfl
              rw [← e]; rfl
            · have hj : j = (y :: w).length := by have h := of_decide_eq_false k1; have h' : j ≤ (y :: w).length := hj0; simp at h h' ⊢; omega
              subst hj
              have hl1 : (restOf (x0 :: r0) c (y :: w)).length = (x0 :: r0).length := restOf_length ..
              obtain ⟨x1, r1, hr1⟩ : ∃ x1 r1, restOf (x0 :: r0) c (y :: w) = x1 :: r1 := by
                cases hh : restOf (x0 :: r0) c (y :: w) with
                | nil => rw [hh] at hl1; simp at hl1
                | cons x1 r1 => exact ⟨x1, r1, rfl⟩
              have hlen : ((x0 :: r0).map tI).length = ((x1 :: r1).map tI).length := by rw [hr1] at hl1; rw [List.length_map, List.length_map, hl1]
              rw [List.take_length, hr1, hlen]
              rw [hr1] at hR2 hless
              have e3 : List.take (tI y :: w.map tI).length (List.drop 0 (tI y :: w.map tI)) = tI y :: w.map tI := take_all.symm
              have hq : (z :: q).length ≤ 1000 := by omega
              have e4 : (q ++ [(⟨y :: w, c⟩ : CutD)]).map tCut = q.map tCut ++ [tCut ⟨y :: w, c⟩] := by simp
              have hql : ∀ u : List T, ((tCut z :: q.map tCut) ++ [u]).length ≤ 1001 := fun u => by simp at hq ⊢; omega
              refine And.intro (lend3 (y :: w)) ?_
              refine And.intro (Nat.le_of_ble_eq_true rfl) (And.intro rfl (And.intro (Nat.le_trans (Nat.mul_le_mul_right _ (hql _)) (by show 1001 * 32 ≤ _; omega)) (And.intro (Nat.le_trans (hql _) (by omega)) ?_)))
              refine Exists.intro (x1 :: r1, z :: (q ++ [⟨y :: w, c⟩])) (And.intro hless (And.intro ⟨hR2, fun LL hLL => ?_, ?_⟩ ?_))
              · have := hrun _ (.step (x0 :: r0) b LL hb h3 (by rw [← hAc', ← hc, hr1]; exact hLL))
                rw [← hAc', ← hc] at this
                simpa using this
              · have hh : (z :: q : List CutD).length + _ ≤ 1000 := hcnt
                simp at hh hless ⊢
                omega
              · simp only [List.map_cons, e4, e3]
                exact And.intro rfl rfl

end Go.Fw

/- What the program's functions do, part 25: the example. -/
namespace Go.Fw
open Go Go.Proofs
set_option maxRecDepth 10000

def sHere : ByteArray := ⟨#[104, 101, 114, 101]⟩
def sThere : ByteArray := ⟨#[116, 104, 101, 114, 101]⟩
def sGo : ByteArray := ⟨#[103, 111]⟩
def exAct : Actn := ⟨sGo, 2, false, [⟨0, false⟩], false, [⟨true, [], ⟨0, true⟩⟩, ⟨true, [], ⟨1, false⟩⟩]⟩
def exTask : Task := ⟨false, [sHere, sThere], false, [0], false, [⟨1, false⟩], false, [exAct]⟩
/-- The action, as the program builds it. -/
def exActT : List T := [.v (.string sGo), .v (.int .i64 2), .sl false 2 [tLit ⟨0, false⟩], .sl false 3 [[.sl true 0 [], .v (.int .i64 0), .v (.bool true)], [.sl true 0 [], .v (.int .i64 1), .v (.bool false)]]]

theorem f53_spec (out : List Fr) : SpecP Try.prog 53 [] out fun r ro => r = .agg [.osl (.cur 80) 1 0 2, .osl (.cur 88) 1 0 1, .osl (.cur 104) 2 0 1, .osl (.cur 120) 4 0 1] ∧
    ro = [(80, .row 9 1 [tS sHere, tS sThere]), (88, .row 3 1 [tI 0]), (104, .row 50 2 [tLit ⟨1, false⟩]), (120, .row 79 4 [exActT])] := by
  refine spec_body cx_ok [] [] (fn := Try.f53) (by kernel_rfl) rfl (by kernel_rfl) rfl (by unfold FnOK; kernel_rfl) fun hok => ?_
  refine And.intro (Nat.le_of_ble_eq_true rfl) (And.intro (Nat.le_of_ble_eq_true rfl) ?_)
  exact Exists.intro [80, 88, 104, 120] (And.intro rfl rfl)
end Go.Fw

/- What the program's functions do, part 26: the example comes out right. -/
namespace Go.Fw
open Go Go.Proofs
set_option maxRecDepth 10000

/-! ### Nil slices deep in closed data -/
def T.un : T → T
  | .v x => .v x
  | .sl true _ [] => .sl true 0 []
  | .sl n sz es => .sl n sz (unEs es)
where
  unEs : List (List T) → List (List T)
    | [] => []
    | el :: r => unEl el :: unEs r
  unEl : List T → List T
    | [] => []
    | x :: r => T.un x :: unEl r
theorem unEl_get : ∀ {el el' : List T}, T.un.unEl el' = T.un.unEl el → el'.length = el.length ∧ ∀ (j : Nat) (x' : T), el'[j]? = some x' → ∃ x, el[j]? = some x ∧ x'.un = x.un
  | [], [], _ => ⟨rfl, fun j x h => by simp at h⟩
  | [], _ :: _, h => by simp [T.un.unEl] at h
  | _ :: _, [], h => by simp [T.un.unEl] at h
  | x :: r, x' :: r', h => by
    simp only [T.un.unEl, List.cons.injEq] at h
    obtain ⟨h1, h2⟩ := unEl_get h.2
    refine ⟨by simp [h1], fun j y hy => ?_⟩
    cases j with
    | zero => simp at hy; subst hy; exact ⟨x, rfl, h.1⟩
    | succ j => simpa using h2 j y (by simpa using hy)
theorem unEs_get : ∀ {es es' : List (List T)}, T.un.unEs es' = T.un.unEs es → es'.length = es.length ∧ ∀ (i : Nat) (e' : List T), es'[i]? = some e' → ∃ e, es[i]? = some e ∧ T.un.unEl e' = T.un.unEl e
  | [], [], _ => ⟨rfl, fun j x h => by simp at h⟩
  | [], _ :: _, h => by simp [T.un.unEs] at h
  | _ :: _, [], h => by simp [T.un.unEs] at h
  | x :: r, x' :: r', h => by
    simp only [T.un.unEs, List.cons.injEq] at h
    obtain ⟨h1, h2⟩ := unEs_get h.2
    refine ⟨by simp [h1], fun j y hy => ?_⟩
    cases j with
    | zero => simp at hy; subst hy; exact ⟨x, rfl, h.1⟩
    | succ j => simpa using h2 j y (by simpa using hy)
theorem un_sl {sz : Nat} {es : List (List T)} : (T.sl false sz es).un = .sl false sz (T.un.unEs es) := by cases es <;> rfl
theorem un_inv {y : T} : ∀ {sz : Nat} {es : List (List T)}, y.un = .sl false sz (T.un.unEs es) → ∃ es', y = .sl false sz es' ∧ T.un.unEs es' = T.un.unEs es := by
  intro sz es h
  match y, h with
  | .v x, h => simp [T.un] at h
  | .sl true a [], h => simp [T.un] at h
  | .sl true a (b :: r), h => simp [T.un] at h
  | .sl false a es', h => rw [un_sl] at h; simp only [T.sl.injEq, true_and] at h; exact ⟨es', by rw [h.1], h.2⟩
theorem VT.un {RO : Nat → Prop} {w : World} {x : T} {v : Value} (h : VT RO w x v) : ∀ y : T, y.un = x.un → VT RO w y v := by
  induction h with
  | v x h =>
    intro y hy
    match y, hy with
    | .v z, hy => simp only [T.un, T.v.injEq] at hy; subst hy; exact .v _ h
    | .sl true a [], hy => simp [T.un] at hy
    | .sl true a (b :: r), hy => simp [T.un] at hy
    | .sl false a es, hy => rw [un_sl] at hy; simp [T.un] at hy
  | nil sz =>
    intro y hy
    match y, hy with
    | .v z, hy => simp [T.un] at hy
    | .sl true a [], hy => exact .nil a
    | .sl true a (b :: r), hy => simp [T.un, T.un.unEs] at hy
    | .sl false a es, hy => rw [un_sl] at hy; simp [T.un] at hy
  | emp sz a c hc =>
    intro y hy
    obtain ⟨es', rfl, h2⟩ := un_inv (y := y) (sz := sz) (es := []) (by rw [hy]; rfl)
    have := (unEs_get h2).1
    have : es' = [] := List.eq_nil_of_length_eq_zero (by simpa using this)
    subst this; exact .emp sz a c hc
  | sl sz es b off c u hb hc hm hsz hcell hv ih =>
    intro y hy
    rw [un_sl] at hy
    obtain ⟨es', rfl, h2⟩ := un_inv hy
    obtain ⟨hl, hg⟩ := unEs_get h2
    rw [← hl] at hc ⊢
    refine .sl sz es' b off c u (fun ⟨i, e, j, x, hi, hj⟩ => by
      obtain ⟨e0, h3, h4⟩ := hg i e hi
      obtain ⟨x0, h5, _⟩ := (unEl_get h4).2 j x hj
      exact hb ⟨i, e0, j, x0, h3, h5⟩) hc hm (fun i e hi => ?_) (fun i e j x hi hj => ?_) fun i e j x hi hj => ?_
    · obtain ⟨e0, h3, h4⟩ := hg i e hi
      rw [(unEl_get h4).1]; exact hsz i e0 h3
    · obtain ⟨e0, h3, h4⟩ := hg i e hi
      obtain ⟨x0, h5, _⟩ := (unEl_get h4).2 j x hj
      exact hcell i e0 j x0 h3 h5
    · obtain ⟨e0, h3, h4⟩ := hg i e hi
      obtain ⟨x0, h5, h6⟩ := (unEl_get h4).2 j x hj
      exact ih i e0 j x0 h3 h5 x h6

/-- The task as the program builds it may stand for the task. -/
theorem ex_vals {rest : List LV} (β : K → Nat) (RO : Nat → Prop) (w : World) (vals : List Value)
    (h : Vals β RO w (.agg [.t (.sl false 1 [tS sHere, tS sThere]), .t (.sl false 1 [tI 0]), .t (.sl false 2 [tLit ⟨1, false⟩]), .t (.sl false 4 [exActT])] :: rest) vals) : Vals β RO w (.task exTask :: rest) vals := by
  refine ⟨h.1, fun i z v hz hv => ?_⟩
  cases i with
  | succ i => exact h.2 (i + 1) z v hz hv
  | zero =>
    simp only [List.getElem?_cons_zero, Option.some.injEq] at hz
    subst hz
    have h0 := h.2 0 _ v rfl hv
    cases h0 with
    | agg _ vs hl hc h1 =>
    refine .agg _ vs hl (fun i x u hx hu => ?_) h1
    match i with
    | 0 => simp at hx; subst hx; exact hc 0 _ u rfl hu
    | 1 => simp at hx; subst hx; exact hc 1 _ u rfl hu
    | 2 => simp at hx; subst hx; exact hc 2 _ u rfl hu
    | 3 =>
      simp at hx; subst hx
      have h3 := hc 3 _ u rfl hu
      cases h3 with
      | t _ _ h3 => exact .t _ _ (h3.un _ rfl)
    | i + 4 => simp at hx

/-! ### What comes out -/
theorem ex_ok : isB exTask = true := by decide
theorem ex_fine : fineI exTask [0] = 0 := by decide

theorem ex_no2 {cnt : Nat → Lit → Bool} (h : cnt 0 ⟨1, false⟩ = false) : ∀ k, Rch exTask [0] cnt k → k ≠ 2 := by
  intro k hk
  cases hk with
  | ini k hk hh =>
    intro he; subst he
    exact absurd hh (by decide)
  | eff a x e hx he hc _ _ =>
    intro h2
    match a, hx with
    | 0, hx =>
      have hx : x = exAct := by simpa [exTask] using hx.symm
      subst hx
      simp only [exAct, List.mem_cons, List.not_mem_nil, or_false] at he
      rcases he with rfl | rfl
      · simp [codeI] at h2
      · rw [h] at hc; cases hc
    | a + 1, hx => simp [exTask] at hx
theorem ex_yes2 {cnt : Nat → Lit → Bool} (h : cnt 0 ⟨1, false⟩ = true) : Rch exTask [0] cnt 2 :=
  .eff 0 exAct ⟨true, [], ⟨1, false⟩⟩ rfl (by simp [exAct]) h (fun l hl => by
    simp only [exAct, List.mem_cons, List.not_mem_nil, or_false] at hl
    subst hl
    exact .ini 0 (by decide) (by decide)) fun l hl => by cases hl
theorem ex_goal (cnt : Nat → Lit → Bool) : allR exTask [0] cnt exTask.goal = cnt 0 ⟨1, false⟩ := by
  cases h : cnt 0 ⟨1, false⟩ with
  | true =>
    rw [allR_iff]
    intro x hx
    simp only [exTask, List.mem_cons, List.not_mem_nil, or_false] at hx
    subst hx
    exact ex_yes2 h
  | false =>
    cases h2 : allR exTask [0] cnt exTask.goal with
    | false => rfl
    | true => exact absurd rfl (ex_no2 h 2 (allR_iff.1 h2 ⟨1, false⟩ (by simp [exTask])))
theorem ex_facts : (selI (2 * exTask.facts.length) (onlyL exTask [0])).map litI = [⟨0, false⟩, ⟨1, false⟩, ⟨1, true⟩] := by
  have h : ∀ k, onlyL exTask [0] k = (holdsB [0] [litI k] || !decide ((⟨1, false⟩ : Lit) ≠ litI k)) := fun k => by rw [onlyL, ex_goal]
  rw [selI_congr (q := fun k => holdsB [0] [litI k] || !decide ((⟨1, false⟩ : Lit) ≠ litI k)) fun k _ => h k]
  decide
theorem ex_acts : selI exTask.acts.length (onlyA exTask [0]) = [0] := by
  have h : ∀ k, onlyA exTask [0] k = !cntO [(k : Int)] 0 ⟨1, false⟩ := fun k => by rw [onlyA, ex_goal]
  rw [selI_congr (q := fun (k : Nat) => !cntO [(k : Int)] 0 ⟨1, false⟩) fun k _ => h k]
  decide
theorem ex_cuts {L : List CutD} (h : CutRun exTask [0] [2] L) : L = [⟨[0], 2⟩] := by
  cases h with
  | stop rest b hb hg =>
    rw [hb.all, ex_goal] at hg
    exact absurd hg (by decide)
  | step rest b L hb hg h =>
    have hb1 : bitAt b ⟨0, true⟩ = false := by
      cases h1 : bitAt b ⟨0, true⟩ with
      | false => rfl
      | true =>
        have h2 := (hb.iff 1).1 h1
        exfalso
        generalize hk : 1 = k at h2
        cases h2 with
        | ini k hk2 hh => subst hk; exact absurd hh (by decide)
        | eff a x e hx he hc _ _ =>
          match a, hx with
          | 0, hx => simp [cntZ] at hc
          | a + 1, hx => simp [exTask] at hx
    have hb0 : bitAt b ⟨0, false⟩ = true := (hb.iff 0).2 (.ini 0 (by decide) (by decide))
    have hb0' : b.getD 0 false = true := hb0
    have hb1' : b.getD 1 false = false := hb1
    have hhit : hitA exTask [2] b 0 = true := by
      simp [hitA, exTask, exAct, setHas, hitE, bitAt, codeI]
      simp only [List.getD_eq_getElem?_getD] at hb0' hb1'
      simp [hb0', hb1']
    have ha : cutActs exTask [2] b = [0] := by
      rw [cutActs, show exTask.acts.length = 0 + 1 from rfl, selI_step, hhit]; rfl
    rw [ha] at h ⊢
    have hc : costOf [2] [0] = 2 := by decide
    rw [hc] at h ⊢
    have hr : restOf [2] 2 [0] = [0] := by decide
    rw [hr] at h
    cases h with
    | stop => rfl
    | step rest b2 L2 hb2 hg2 h2 =>
      rw [hb2.all, ex_goal] at hg2
      exact absurd hg2 (by decide)

theorem f14_spec (out : List Fr) : SpecP Try.prog 14 [] out fun r ro => r = .bool true ∧ ro = [] := by
  refine spec_body cx_ok [] [] (fn := Try.f14) (by kernel_rfl) rfl (by kernel_rfl) rfl (by unfold FnOK; kernel_rfl) fun hok => ?_
  refine SpecP.mono (f53_spec []) ?_
  rintro _ _ ⟨rfl, rfl⟩
  refine Exists.intro [tS sHere, tS sThere] (And.intro rfl (And.intro (Nat.le_of_ble_eq_true rfl) ?_))
  refine Exists.intro [tI 0] (And.intro rfl (And.intro (Nat.le_of_ble_eq_true rfl) ?_))
  refine Exists.intro [tLit ⟨1, false⟩] (And.intro rfl (And.intro (Nat.le_of_ble_eq_true rfl) ?_))
  refine Exists.intro [exActT] (And.intro rfl (And.intro (Nat.le_of_ble_eq_true rfl) ?_))
  refine Exists.intro [tI 0] (And.intro rfl (And.intro (Nat.le_of_ble_eq_true rfl) ?_))
  refine SpecP.conv ex_vals (SpecP.mono (f15_spec exTask false [0] _) ?_)
  rintro _ _ (⟨h, _⟩ | ⟨_, h1, h2⟩)
  · exact absurd ex_fine h
  rw [ex_facts] at h1 h2
  subst h1 h2
  refine And.intro ⟨trivial, trivial, trivial⟩ (And.intro ⟨flat_lits (b := [⟨0, false⟩, ⟨1, false⟩, ⟨1, true⟩]), trivial⟩ ?_)
  refine Exists.intro [tS sHere, tS sThere] (And.intro rfl (And.intro (Nat.le_of_ble_eq_true rfl) ?_))
  refine Exists.intro [tI 0] (And.intro rfl (And.intro (Nat.le_of_ble_eq_true rfl) ?_))
  refine Exists.intro [tLit ⟨1, false⟩] (And.intro rfl (And.intro (Nat.le_of_ble_eq_true rfl) ?_))
  refine Exists.intro [exActT] (And.intro rfl (And.intro (Nat.le_of_ble_eq_true rfl) ?_))
  refine Exists.intro [tI 0] (And.intro rfl (And.intro (Nat.le_of_ble_eq_true rfl) ?_))
  refine SpecP.conv ex_vals (SpecP.mono (f16_spec exTask false [0] _) ?_)
  rintro _ _ (⟨h, _⟩ | ⟨_, h1, h2⟩)
  · exact absurd ex_fine h
  rw [ex_acts] at h1 h2
  subst h1 h2
  refine And.intro ⟨trivial, trivial, trivial⟩ (And.intro ⟨flat_ints (b := [0]), trivial⟩ ?_)
  refine And.intro (Nat.le_of_ble_eq_true rfl) (And.intro (Nat.le_of_ble_eq_true rfl) (And.intro (Nat.le_of_ble_eq_true rfl) (And.intro (Nat.le_of_ble_eq_true rfl) ?_)))
  refine Exists.intro [tI 0] (And.intro rfl (And.intro (Nat.le_of_ble_eq_true rfl) (Exists.intro [tI 0] (And.intro rfl (And.intro (Nat.le_of_ble_eq_true rfl) ?_)))))
  refine SpecP.conv ex_vals (SpecP.mono (f24_spec exTask false [0] _) ?_)
  rintro _ _ (⟨h, _⟩ | ⟨_, h, _⟩ | ⟨_, _, L, hL, rfl, rfl⟩)
  · exact absurd ex_fine h
  · rw [ex_goal] at h
    exact absurd h (by decide)
  have hL := ex_cuts hL
  subst hL
  refine And.intro (fun _ => ?_) fun h => absurd h (by decide)
  refine And.intro (fun _ => ?_) fun h => absurd h (by decide)
  refine And.intro (fun _ => ?_) fun h => absurd h (by decide)
  refine Exists.intro ([⟨0, false⟩, ⟨1, false⟩, ⟨1, true⟩].map tLit) (And.intro rfl (And.intro (Nat.le_of_ble_eq_true rfl) ?_))
  refine Exists.intro ([⟨0, false⟩, ⟨1, false⟩, ⟨1, true⟩].map tLit) (And.intro rfl (And.intro (Nat.le_of_ble_eq_true rfl) ?_))
  refine SpecP.mono (f18_spec false false [⟨0, false⟩, ⟨1, false⟩, ⟨1, true⟩] [⟨0, false⟩, ⟨1, false⟩, ⟨1, true⟩] _) ?_
  rintro _ _ ⟨rfl, rfl⟩
  refine And.intro trivial (And.intro trivial ?_)
  refine And.intro (fun _ => ?_) fun h => absurd h (by decide)
  refine Exists.intro [tI 0] (And.intro rfl (And.intro (Nat.le_of_ble_eq_true rfl) ?_))
  refine Exists.intro [tI 0] (And.intro rfl (And.intro (Nat.le_of_ble_eq_true rfl) ?_))
  refine SpecP.mono (f20_spec false false [0] [0] _) ?_
  rintro _ _ ⟨rfl, rfl⟩
  refine And.intro trivial (And.intro trivial ?_)
  refine And.intro (fun _ => ?_) fun h => absurd h (by decide)
  refine And.intro (fun _ => ?_) fun h => absurd h (by decide)
  refine And.intro (by decide) (And.intro (by decide) (Exists.intro _ (And.intro rfl ?_)))
  refine And.intro (fun _ => ?_) fun h => absurd h (by decide)
  refine And.intro (by decide) (And.intro (by decide) (Exists.intro _ (And.intro rfl ?_)))
  refine Exists.intro [tI 0] (And.intro rfl (And.intro (Nat.le_of_ble_eq_true rfl) ?_))
  refine SpecP.mono (f20_spec false false [0] [0] _) ?_
  rintro _ _ ⟨rfl, rfl⟩
  refine And.intro trivial (And.intro trivial ?_)
  refine And.intro (fun _ => ?_) fun h => absurd h (by decide)
  exact Exists.intro [] (And.intro rfl rfl)

end Go.Fw

/- What the law MarkLists does: it answers true. -/
namespace Go.Fw
open Go Go.Proofs
set_option maxRecDepth 10000

theorem conv_nil2 {a b : Nat} : ∀ (β : K → Nat) (RO : Nat → Prop) (w : World) (vals : List Value), Vals β RO w [.t (.sl true a []), .t (.sl true a [])] vals → Vals β RO w [.t (.sl true b []), .t (.sl true b [])] vals := fun β RO w vals hv =>
  ⟨hv.1, fun i z v hz hvz => by
    match i with
    | 0 => simp at hz; subst hz; exact nil_sz β RO w v (hv.2 0 _ v rfl hvz)
    | 1 => simp at hz; subst hz; exact nil_sz β RO w v (hv.2 1 _ v rfl hvz)
    | i + 2 => simp at hz⟩

theorem f3_spec (t : Task) (n1 : Bool) (s : List Int) (out : List Fr) : SpecP Try.prog 3 [.task t, .ints n1 s] out fun r ro => r = .bool true ∧ ro = [] := by
  refine spec_body cx_ok [] [] (fn := Try.f3) (by kernel_rfl) rfl (by kernel_rfl) rfl (by unfold FnOK; kernel_rfl) fun hok => ?_
  refine SpecP.mono (f13_spec t 200 []) ?_
  rintro _ _ ⟨few, rfl, rfl⟩
  refine And.intro (fun h1 => ?_) fun h1 => ?_
  rotate_left
  · refine SpecP.mono (f14_spec []) ?_
    rintro _ _ ⟨rfl, rfl⟩
    refine And.intro (fun _ => ?_) fun h => Bool.noConfusion h
    exact Exists.intro [] (ret_bool rfl rfl)
  refine And.intro (fun h2 => ?_) fun h2 => ?_
  · refine SpecP.mono (f14_spec []) ?_
    rintro _ _ ⟨rfl, rfl⟩
    refine And.intro (fun _ => ?_) fun h => Bool.noConfusion h
    exact Exists.intro [] (ret_bool rfl rfl)
  refine SpecP.mono (f15_spec t n1 s []) ?_
  rintro _ _ (⟨h0, rfl, rfl⟩ | ⟨h0, e1, e2⟩)
  · refine SpecP.mono (f16_spec t n1 s []) ?_
    rintro _ _ (⟨_, rfl, rfl⟩ | ⟨h, _⟩)
    rotate_left
    · exact absurd h h0
    refine SpecP.mono (f17_spec t n1 s []) ?_
    rintro _ _ ⟨rfl, rfl⟩
    refine And.intro (fun h3 => ?_) fun h3 => ?_
    rotate_left
    · exact absurd (by simpa using h3) h0
    refine And.intro (fun h4 => ?_) fun h4 => ?_
    rotate_left
    · simp at h4
    refine And.intro (fun h5 => ?_) fun h5 => ?_
    rotate_left
    · simp at h5
    refine And.intro (by decide) (And.intro (by decide) ?_)
    refine And.intro (fun _ => ?_) fun h => absurd h (by decide)
    refine SpecP.mono (f14_spec []) ?_
    rintro _ _ ⟨rfl, rfl⟩
    refine And.intro (fun _ => ?_) fun h => Bool.noConfusion h
    exact Exists.intro [] (ret_bool rfl rfl)
  obtain ⟨ht, hs⟩ := hts_of h0
  have m1 := f19_spec t n1 s ht hs
  have m2 := f21_spec t n1 s ht hs
  have m3 := f16_spec t n1 s []
  generalize (selI (2 * t.facts.length) (onlyL t s)).map litI = F at e1 e2 m1
  generalize selI t.acts.length (onlyA t s) = A at m2 m3
  subst e1 e2
  cases F
  all_goals
    refine SpecP.mono m3 ?_
    rintro _ _ (⟨h, _⟩ | ⟨_, e1, e2⟩)
    · exact absurd h0 h
    subst e1 e2
    cases A
    all_goals
      refine SpecP.mono (f17_spec t n1 s []) ?_
      rintro _ _ ⟨rfl, rfl⟩
      refine And.intro (fun h3 => ?_) fun h3 => ?_
      · exact absurd h0 (by simpa using h3)
      refine And.intro (fun _ => ?_) fun h => absurd h (by decide)
      refine And.intro (fun _ => ?_) fun h => absurd h (by decide)
      refine SpecP.mono (m1 []) ?_
      rintro _ _ ⟨rfl, rfl⟩
      first
        | refine SpecP.conv (conv_nil2 (b := 2)) (SpecP.mono (f18_spec true true [] [] []) ?_)
          rintro _ _ ⟨rfl, rfl⟩
        | refine Exists.intro _ (And.intro take_all (And.intro (by simp) ?_))
          refine Exists.intro _ (And.intro take_all (And.intro (by simp) ?_))
          refine SpecP.mono (f18_spec false false (_ :: _) (_ :: _) _) ?_
          rintro _ _ ⟨rfl, rfl⟩
          refine And.intro trivial (And.intro trivial ?_)
      refine And.intro (fun _ => ?_) fun h => absurd h (by simp)
      refine SpecP.mono (m2 []) ?_
      rintro _ _ ⟨rfl, rfl⟩
      first
        | refine SpecP.conv (conv_nil2 (b := 1)) (SpecP.mono (f20_spec true true [] [] []) ?_)
          rintro _ _ ⟨rfl, rfl⟩
        | refine Exists.intro _ (And.intro take_all (And.intro (by simp) ?_))
          refine Exists.intro _ (And.intro take_all (And.intro (by simp) ?_))
          refine SpecP.mono (f20_spec false false (_ :: _) (_ :: _) _) ?_
          rintro _ _ ⟨rfl, rfl⟩
          refine And.intro trivial (And.intro trivial ?_)
      refine And.intro (fun _ => ?_) fun h => absurd h (by simp)
      refine SpecP.mono (f14_spec []) ?_
      rintro _ _ ⟨rfl, rfl⟩
      refine And.intro (fun _ => ?_) fun h => Bool.noConfusion h
      exact Exists.intro [] (ret_bool rfl rfl)

end Go.Fw

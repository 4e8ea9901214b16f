/- Texts that lead to the law, part 10. -/
import Derived.Test.YtmcbncmklopoaaaZI
import Derived.Test.YtmcbncmklopoaaaZG

/- Whether a potential is right, and free. -/
namespace Go.Fw
open Go Go.Proofs
set_option maxRecDepth 10000

theorem mul_cost {den c : Int} (h1 : 0 ≤ den ∧ den ≤ 1073741824) (h2 : 0 ≤ c ∧ c ≤ 100000) : 0 ≤ den * c ∧ den * c ≤ 107374182400000 :=
  ⟨Int.mul_nonneg h1.1 h2.1, by
    have := Int.mul_le_mul h1.2 h2.2 h2.1 (by decide)
    omega⟩
def okA (t : Task) (den : Int) (w : List Int) (a : Actn) : Bool := decide (dropS t.facts.length a w ≤ den * a.cost)
def okF (t : Task) (w : List Int) (a : Actn) : Bool := decide (dropS t.facts.length a w ≤ 0)
theorem all_snoc {α : Type} {l : List α} {p : α → Bool} {i : Nat} (hi : i < l.length) : (l.take (i + 1)).all p = ((l.take i).all p && p l[i]) := by
  rw [List.take_add_one, List.getElem?_eq_getElem hi, Option.toList_some, List.all_append]; simp
def od44p : Od := [(1, [(0, .pure), (1, .pure), (2, .pure), (3, .pure), (4, .pure), (5, .eff), (6, .pure), (7, .pure)])]
def kp44p : Kp := [(5, ([2, 3, 6, 7, 20, 21, 22], [16, 24]))]
theorem dropS_in {n : Nat} {a : Actn} {w : List Int} (hN : n ≤ 1000) (hw : Small w) : -1125899906842624000 ≤ dropS n a w ∧ dropS n a w ≤ 1125899906842624000 := by
  have := sumZ_in (f := fun f => dropI (wAt (changesL n a) f) (wAt w f)) (b := 1125899906842624) (n := n) fun f _ => dropI_in (wAt_in hw f)
  rw [dropS]; omega
theorem goalS_in {n : Nat} {g : List Lit} {w : List Int} (hN : n ≤ 1000) (hw : Small w) : -1125899906842624000 ≤ goalS n g w ∧ goalS n g w ≤ 1125899906842624000 := by
  have := sumZ_in (f := fun f => goalI (wAt (signsL n g) f) (wAt w f)) (b := 1125899906842624) (n := n) fun f _ => goalI_in (wAt_in hw f)
  rw [goalS]; omega
theorem f44_spec (t : Task) (den c : Int) (n1 : Bool) (w : List Int) (TK : TaskOK t) (hd : 0 ≤ den ∧ den ≤ 1073741824) (hc : -1125899906842624 ≤ c ∧ c ≤ 1125899906842624) (hw : Small w) (hl : w.length = t.facts.length) (out : List Fr) :
    SpecP Try.prog 44 [.task t, .pot den c n1 w] out fun r ro => r = .tup [.bool (rightB t den c w), .bool (freeB t c w)] ∧ ro = [] := by
  refine spec_body cx_ok kp44p od44p (fn := Try.f44) (by kernel_rfl) rfl (by kernel_rfl) rfl (by unfold FnOK; kernel_rfl) fun hok => ?_
  have hN : t.facts.length ≤ 1000 := by have := TK.facts; omega
  have hma := le_max hok.1.2.2.2.1.1
  have hgi := goalS_in (g := t.goal) hN hw
  refine SpecP.mono (f86_spec t n1 w hN hw hl TK.goal _) ?_
  rintro _ _ ⟨rfl, rfl⟩
  refine And.intro ⟨rfl, rfl, rfl⟩ ?_
  refine And.intro (by omega) (And.intro (by omega) ?_)
  have e1 : rightB t den c w = (decide (c + goalS t.facts.length t.goal w ≤ 0) && t.acts.all (okA t den w)) := rfl
  have e2 : freeB t c w = (decide (c + goalS t.facts.length t.goal w ≤ 0) && t.acts.all (okF t w)) := rfl
  refine And.intro (fun h1 => ?_) fun h1 => ?_
  · have h1' : ¬ c + goalS t.facts.length t.goal w ≤ 0 := by have := of_decide_eq_true h1; omega
    refine Exists.intro [] (And.intro ?_ rfl)
    rw [e1, e2, decide_eq_false h1']; rfl
  have h1' : c + goalS t.facts.length t.goal w ≤ 0 := by have := of_decide_eq_false h1; omega
  rw [decide_eq_true h1', Bool.true_and] at e1 e2
  refine LoopW.mk (Nat × Bool × Bool) (fun u => u.1 ≤ t.acts.length ∧ u.2.1 = (t.acts.take u.1).all (okA t den w) ∧ u.2.2 = (t.acts.take u.1).all (okF t w))
    (fun u => [(2, .ptr (.cur 16) 0), (3, .ptr (.cur 24) 0), (6, .bool u.2.1), (7, .bool u.2.2), (20, .acts t.an t.acts), (21, .int (t.acts.map tAct).length), (22, .int u.1)])
    (fun _ => ⟨out, [(16, .box (cellsTask t)), (24, .box (cellsPot den c n1 w))]⟩) (fun u => t.acts.length - u.1) (0, true, true) ⟨Nat.zero_le _, rfl, rfl⟩ ⟨rfl, rfl⟩ ?_
  rintro ⟨i, b1, b2⟩ ⟨hi0, hb1, hb2⟩
  simp only at hi0 hb1 hb2
  refine And.intro (fun h2 => ?_) fun h2 => ?_
  · have hi : i < t.acts.length := lt_of_dec h2
    have hm := List.getElem_mem hi
    have hcost := mul_cost hd (TK.cost _ hm)
    have hdr := dropS_in (n := t.facts.length) (a := t.acts[i]) hN hw
    have s1 := all_snoc (p := okA t den w) hi
    have s2 := all_snoc (p := okF t w) hi
    rw [← hb1] at s1
    rw [← hb2] at s2
    refine And.intro (by omega) (Exists.intro _ (And.intro (get_map hi) ?_))
    refine SpecP.mono (f87_spec t t.acts[i] n1 w hN hw hl (TK.pre _ hm) (TK.lit _ hm) _) ?_
    rintro _ _ ⟨rfl, rfl⟩
    have fin : ∀ x y : Bool, x = (b1 && okA t den w t.acts[i]) → y = (b2 && okF t w t.acts[i]) → x = (t.acts.take (i + 1)).all (okA t den w) ∧ y = (t.acts.take (i + 1)).all (okF t w) := fun x y hx hy => ⟨by rw [s1, hx], by rw [s2, hy]⟩
    cases b1 <;> cases b2
    · refine And.intro (by omega) (And.intro (by omega) ?_)
      exact Exists.intro (i + 1, false, false) (And.intro (by show t.acts.length - (i + 1) < t.acts.length - i; omega) (And.intro ⟨hi, fin _ _ rfl rfl⟩ (And.intro rfl rfl)))
    · refine And.intro (fun h4 => ?_) fun h4 => ?_
      · refine And.intro (by omega) (And.intro (by omega) ?_)
        exact Exists.intro (i + 1, false, true) (And.intro (by show t.acts.length - (i + 1) < t.acts.length - i; omega) (And.intro ⟨hi, fin _ _ rfl (by rw [okF, h4, Bool.true_and])⟩ (And.intro rfl rfl)))
      · refine And.intro (by omega) (And.intro (by omega) ?_)
        exact Exists.intro (i + 1, false, false) (And.intro (by show t.acts.length - (i + 1) < t.acts.length - i; omega) (And.intro ⟨hi, fin _ _ rfl (by rw [okF, h4, Bool.true_and])⟩ (And.intro rfl rfl)))
    · refine And.intro (by omega) (And.intro (by omega) ?_)
      refine And.intro (fun h3 => ?_) fun h3 => ?_
      · refine And.intro (by omega) (And.intro (by omega) ?_)
        exact Exists.intro (i + 1, true, false) (And.intro (by show t.acts.length - (i + 1) < t.acts.length - i; omega) (And.intro ⟨hi, fin _ _ (by rw [okA, h3, Bool.true_and]) rfl⟩ (And.intro rfl rfl)))
      · refine And.intro (by omega) (And.intro (by omega) ?_)
        exact Exists.intro (i + 1, false, false) (And.intro (by show t.acts.length - (i + 1) < t.acts.length - i; omega) (And.intro ⟨hi, fin _ _ (by rw [okA, h3, Bool.true_and]) rfl⟩ (And.intro rfl rfl)))
    · refine And.intro (by omega) (And.intro (by omega) ?_)
      refine And.intro (fun h3 => ?_) fun h3 => ?_
      · refine And.intro (fun h4 => ?_) fun h4 => ?_
        · refine And.intro (by omega) (And.intro (by omega) ?_)
          exact Exists.intro (i + 1, true, true) (And.intro (by show t.acts.length - (i + 1) < t.acts.length - i; omega) (And.intro ⟨hi, fin _ _ (by rw [okA, h3, Bool.true_and]) (by rw [okF, h4, Bool.true_and])⟩ (And.intro rfl rfl)))
        · refine And.intro (by omega) (And.intro (by omega) ?_)
          exact Exists.intro (i + 1, true, false) (And.intro (by show t.acts.length - (i + 1) < t.acts.length - i; omega) (And.intro ⟨hi, fin _ _ (by rw [okA, h3, Bool.true_and]) (by rw [okF, h4, Bool.true_and])⟩ (And.intro rfl rfl)))
      · refine And.intro (fun h4 => ?_) fun h4 => ?_
        · refine And.intro (by omega) (And.intro (by omega) ?_)
          exact Exists.intro (i + 1, false, true) (And.intro (by show t.acts.length - (i + 1) < t.acts.length - i; omega) (And.intro ⟨hi, fin _ _ (by rw [okA, h3, Bool.true_and]) (by rw [okF, h4, Bool.true_and])⟩ (And.intro rfl rfl)))
        · refine And.intro (by omega) (And.intro (by omega) ?_)
          exact Exists.intro (i + 1, false, false) (And.intro (by show t.acts.length - (i + 1) < t.acts.length - i; omega) (And.intro ⟨hi, fin _ _ (by rw [okA, h3, Bool.true_and]) (by rw [okF, h4, Bool.true_and])⟩ (And.intro rfl rfl)))
  · have hi : i = t.acts.length := by have := ge_of_dec h2; omega
    rw [hi, List.take_length] at hb1 hb2
    refine Exists.intro [] (And.intro ?_ rfl)
    rw [e1, e2, ← hb1, ← hb2]; rfl
end Go.Fw

/- The reference: the drop of an action, whether a potential is right, fractions. -/
namespace Go.Fw
open Go Go.Proofs
set_option maxRecDepth 10000

def dropR (m p w : Int) : Int := if 0 < m then (if p < 0 then -w else if p = 0 then max0 (-w) else 0) else if m < 0 then (if 0 < p then w else if p = 0 then max0 w else 0) else 0
theorem dropR_in {m p w : Int} (h : -1125899906842624 ≤ w ∧ w ≤ 1125899906842624) : -1125899906842624 ≤ dropR m p w ∧ dropR m p w ≤ 1125899906842624 := by
  unfold dropR max0; (repeat' split) <;> omega
def dropRS (a : Actn) (w : List Int) (n : Nat) : Int := sumZ (fun f => dropR (makesF a.effs f 0) (saysF a.pre f) (wAt w f)) n
def od61p : Od := [(5, [(0, .pure), (1, .pure), (3, .pure), (4, .pure), (5, .pure), (2, .eff), (6, .eff), (7, .pure), (8, .pure)])]
def kp61p : Kp := [(3, ([2, 5, 10, 11, 12], [16]))]
theorem f61_spec (a : Actn) (n1 : Bool) (w : List Int) (hw : Small w) (hl : w.length ≤ 1000) (out : List Fr) :
    SpecP Try.prog 61 [.act a, .ints n1 w] out fun r ro => r = .int (dropRS a w w.length) ∧ ro = [] := by
  refine spec_body cx_ok kp61p od61p (fn := Try.f61) (by kernel_rfl) rfl (by kernel_rfl) rfl (by unfold FnOK; kernel_rfl) fun hok => ?_
  have hS : ∀ i, dropRS a w (i + 1) = dropRS a w i + dropR (makesF a.effs i 0) (saysF a.pre i) (wAt w i) := fun i => rfl
  have hB : ∀ i, i ≤ 1000 → -1125899906842624000 ≤ dropRS a w i ∧ dropRS a w i ≤ 1125899906842624000 := fun i hi => by
    have := sumZ_in (f := fun f => dropR (makesF a.effs f 0) (saysF a.pre f) (wAt w f)) (b := 1125899906842624) (n := i) fun f _ => dropR_in (wAt_in hw f)
    rw [dropRS]; omega
  have hG0 : dropRS a w 0 = 0 := rfl
  generalize dropRS a w = G at hS hB hG0 ⊢
  refine LoopW.mk Nat (fun i => i ≤ w.length) (fun i => [(2, .ptr (.cur 16) 0), (5, .int (G i)), (10, .ints n1 w), (11, .int (w.map tI).length), (12, .int i)])
    (fun _ => ⟨out, [(16, .box [.t (.v (.string a.name)), .int a.cost, .lits a.pn a.pre, .effs a.en a.effs])]⟩) (fun i => w.length - i) 0 (Nat.zero_le _) ⟨by rw [hG0]; rfl, rfl⟩ fun i hI => ?_
  refine And.intro (fun h1 => ?_) fun h1 => ?_
  · have hi : i < w.length := lt_of_dec h1
    have hs := hS i
    have hb0 := hB i (by omega)
    have hb1 := hB (i + 1) (by omega)
    have hwi := wAt_in hw i
    have hgw : (w.map tI)[((i : Nat) : Int).toNat]? = some (tI (wAt w i)) := by rw [Int.toNat_natCast, List.getElem?_map, List.getElem?_eq_getElem hi, wAt_eq hi]; rfl
    refine And.intro (by omega) (Exists.intro _ (And.intro hgw ?_))
    refine SpecP.mono (f56_spec a i _) ?_
    rintro _ _ ⟨rfl, rfl⟩
    refine And.intro ⟨rfl, rfl, rfl⟩ ?_
    refine SpecP.mono (f57_spec a.pn a.pre i _) ?_
    rintro _ _ ⟨rfl, rfl⟩
    refine And.intro ⟨rfl, rfl, rfl⟩ ?_
    generalize wAt w i = x at hs hwi hgw ⊢
    generalize makesF a.effs i 0 = m at hs ⊢
    generalize saysF a.pre i = p at hs ⊢
    have hm : (if x > 0 then x else (0 : Int)) = max0 x := rfl
    have hm2 : (if 0 - x > 0 then 0 - x else (0 : Int)) = max0 (-x) := by rw [max0, Int.zero_sub]
    rw [dropR] at hs
    refine And.intro (fun h2 => ?_) fun h2 => ?_
    · have h2' : 0 < m := of_decide_eq_true h2
      rw [if_pos h2'] at hs
      refine And.intro (fun h3 => ?_) fun h3 => ?_
      · have h3' : p < 0 := of_decide_eq_true h3
        rw [if_pos h3'] at hs
        refine And.intro (by omega) (And.intro (by omega) ?_)
        refine And.intro (by omega) (And.intro (by omega) ?_)
        refine Exists.intro (i + 1) (And.intro (by show w.length - (i + 1) < w.length - i; omega) (And.intro hi (And.intro ?_ rfl)))
        rw [hs, ← Int.sub_eq_add_neg]; rfl
      have h3' : ¬ p < 0 := of_decide_eq_false h3
      rw [if_neg h3'] at hs
      refine And.intro (fun _ => ?_) fun h => absurd (h.symm.trans h2) (by decide)
      refine And.intro (fun h4 => ?_) fun h4 => ?_
      · have h4' : p = 0 := by simpa using h4
        rw [if_pos h4'] at hs
        refine And.intro (by omega) (And.intro (by omega) ?_)
        refine And.intro (by show (-9223372036854775808 : Int) ≤ G i + (if 0 - x > 0 then 0 - x else 0); rw [hm2]; omega) (And.intro (by show G i + (if 0 - x > 0 then 0 - x else 0) ≤ (9223372036854775807 : Int); rw [hm2]; omega) ?_)
        refine And.intro (by omega) (And.intro (by omega) ?_)
        refine Exists.intro (i + 1) (And.intro (by show w.length - (i + 1) < w.length - i; omega) (And.intro hi (And.intro ?_ rfl)))
        rw [hs, ← hm2]; rfl
      have h4' : ¬ p = 0 := by simpa using h4
      rw [if_neg h4', Int.add_zero] at hs
      have h5 : decide (m < 0) = false := decide_eq_false (by omega)
      refine And.intro (fun h => absurd (h.symm.trans h5) (by decide)) fun _ => ?_
      refine And.intro (fun h => absurd (h.symm.trans h5) (by decide)) fun _ => ?_
      refine And.intro (by omega) (And.intro (by omega) ?_)
      refine Exists.intro (i + 1) (And.intro (by show w.length - (i + 1) < w.length - i; omega) (And.intro hi (And.intro ?_ rfl)))
      rw [hs]; rfl
    have h2' : ¬ 0 < m := of_decide_eq_false h2
    rw [if_neg h2'] at hs
    refine And.intro (fun h => absurd (h.symm.trans h2) (by decide)) fun _ => ?_
    refine And.intro (fun h3 => ?_) fun h3 => ?_
    · have h3' : m < 0 := of_decide_eq_true h3
      rw [if_pos h3'] at hs
      refine And.intro (fun h4 => ?_) fun h4 => ?_
      · have h4' : 0 < p := of_decide_eq_true h4
        rw [if_pos h4'] at hs
        refine And.intro (by omega) (And.intro (by omega) ?_)
        refine And.intro (by omega) (And.intro (by omega) ?_)
        refine Exists.intro (i + 1) (And.intro (by show w.length - (i + 1) < w.length - i; omega) (And.intro hi (And.intro ?_ rfl)))
        rw [hs]; rfl
      have h4' : ¬ 0 < p := of_decide_eq_false h4
      rw [if_neg h4'] at hs
      refine And.intro (fun _ => ?_) fun h => absurd (h.symm.trans h3) (by decide)
      refine And.intro (fun h5 => ?_) fun h5 => ?_
      · have h5' : p = 0 := by simpa using h5
        rw [if_pos h5'] at hs
        refine And.intro (by show (-9223372036854775808 : Int) ≤ G i + (if x > 0 then x else 0); rw [hm]; omega) (And.intro (by show G i + (if x > 0 then x else 0) ≤ (9223372036854775807 : Int); rw [hm]; omega) ?_)
        refine And.intro (by omega) (And.intro (by omega) ?_)
        refine Exists.intro (i + 1) (And.intro (by show w.length - (i + 1) < w.length - i; omega) (And.intro hi (And.intro ?_ rfl)))
        rw [hs]; rfl
      have h5' : ¬ p = 0 := by simpa using h5
      rw [if_neg h5', Int.add_zero] at hs
      refine And.intro (by omega) (And.intro (by omega) ?_)
      refine Exists.intro (i + 1) (And.intro (by show w.length - (i + 1) < w.length - i; omega) (And.intro hi (And.intro ?_ rfl)))
      rw [hs]; rfl
    have h3' : ¬ m < 0 := of_decide_eq_false h3
    rw [if_neg h3', Int.add_zero] at hs
    refine And.intro (fun h => absurd (h.symm.trans h3) (by decide)) fun _ => ?_
    refine And.intro (by omega) (And.intro (by omega) ?_)
    refine Exists.intro (i + 1) (And.intro (by show w.length - (i + 1) < w.length - i; omega) (And.intro hi (And.intro ?_ rfl)))
    rw [hs]; rfl
  · have hi : i = w.length := by have := ge_of_dec h1; omega
    refine Exists.intro [] (And.intro ?_ rfl)
    rw [hi]; rfl
end Go.Fw

/- The reference: whether a potential is right, and free; fractions. -/
namespace Go.Fw
open Go Go.Proofs
set_option maxRecDepth 10000

def goalRS (g : List Lit) (w : List Int) (n : Nat) : Int := sumZ (fun f => goalI (saysF g f) (wAt w f)) n
theorem goalRS_in {g : List Lit} {w : List Int} {n : Nat} (hN : n ≤ 1000) (hw : Small w) : -1125899906842624000 ≤ goalRS g w n ∧ goalRS g w n ≤ 1125899906842624000 := by
  have := sumZ_in (f := fun f => goalI (saysF g f) (wAt w f)) (b := 1125899906842624) (n := n) fun f _ => goalI_in (wAt_in hw f)
  rw [goalRS]; omega
theorem dropRS_in {a : Actn} {w : List Int} {n : Nat} (hN : n ≤ 1000) (hw : Small w) : -1125899906842624000 ≤ dropRS a w n ∧ dropRS a w n ≤ 1125899906842624000 := by
  have := sumZ_in (f := fun f => dropR (makesF a.effs f 0) (saysF a.pre f) (wAt w f)) (b := 1125899906842624) (n := n) fun f _ => dropR_in (wAt_in hw f)
  rw [dropRS]; omega
def okR (den : Int) (w : List Int) (a : Actn) : Bool := decide (dropRS a w w.length ≤ den * a.cost)
def okRF (w : List Int) (a : Actn) : Bool := decide (dropRS a w w.length ≤ 0)
def rightR (t : Task) (den c : Int) (w : List Int) : Bool := decide (c + goalRS t.goal w w.length ≤ 0) && t.acts.all (okR den w)
def freeR (t : Task) (c : Int) (w : List Int) : Bool := decide (c + goalRS t.goal w w.length ≤ 0) && t.acts.all (okRF w)
def kp29p : Kp := [(3, ([1, 3, 4, 10, 17, 18, 19], [32])), (14, ([1, 3, 8, 9, 44, 45, 46], [32]))]
set_option maxHeartbeats 1000000 in
theorem f29_spec (t : Task) (den c : Int) (n1 : Bool) (w : List Int) (hcost : ∀ x ∈ t.acts, 0 ≤ x.cost ∧ x.cost ≤ 100000) (hd : 0 ≤ den ∧ den ≤ 1073741824) (hc : -1125899906842624 ≤ c ∧ c ≤ 1125899906842624) (hw : Small w) (hl : w.length ≤ 1000) (out : List Fr) :
    SpecP Try.prog 29 [.task t, .int den, .int c, .ints n1 w] out fun r ro => r = .tup [.bool (rightR t den c w), .bool (freeR t c w)] ∧ ro = [] := by
  refine spec_body cx_ok kp29p [] (fn := Try.f29) (by kernel_rfl) rfl (by kernel_rfl) rfl (by unfold FnOK; kernel_rfl) fun hok => ?_
  have hma := le_max hok.1.2.2.2.1.1
  have hS : ∀ i, goalRS t.goal w (i + 1) = goalRS t.goal w i + goalI (saysF t.goal i) (wAt w i) := fun i => rfl
  have hB : ∀ i, i ≤ 1000 → -1125899906842624000 ≤ goalRS t.goal w i ∧ goalRS t.goal w i ≤ 1125899906842624000 := fun i hi => goalRS_in hi hw
  have hG0 : goalRS t.goal w 0 = 0 := rfl
  refine LoopW.mk Nat (fun i => i ≤ w.length) (fun i => [(1, .int den), (3, .ints n1 w), (4, .ptr (.cur 32) 0), (10, .int (c + goalRS t.goal w i)), (17, .ints n1 w), (18, .int (w.map tI).length), (19, .int i)]) (fun _ => ⟨out, [(32, .box (cellsTask t))]⟩) (fun i => w.length - i) 0 (Nat.zero_le _) ⟨by rw [hG0, Int.add_zero]; rfl, rfl⟩ fun i hI => ?_
  refine And.intro (fun h1 => ?_) fun h1 => ?_
  · have hi : i < w.length := lt_of_dec h1
    have hs := hS i
    have hb0 := hB i (by omega)
    have hb1 := hB (i + 1) (by omega)
    have hwi := wAt_in hw i
    have hgw : (w.map tI)[((i : Nat) : Int).toNat]? = some (tI (wAt w i)) := by rw [Int.toNat_natCast, List.getElem?_map, List.getElem?_eq_getElem hi, wAt_eq hi]; rfl
    refine And.intro (by omega) (Exists.intro _ (And.intro hgw ?_))
    refine SpecP.mono (f57_spec t.gn t.goal i _) ?_
    rintro _ _ ⟨rfl, rfl⟩
    generalize wAt w i = x at hs hwi hgw ⊢
    generalize saysF t.goal i = q at hs ⊢
    have hm : (if x > 0 then x else (0 : Int)) = max0 x := rfl
    rw [goalI] at hs
    refine And.intro (fun h2 => ?_) fun h2 => ?_
    · have h2' : q = 1 := by simpa using h2
      rw [if_pos h2'] at hs
      refine And.intro (by omega) (And.intro (by omega) ?_)
      refine And.intro (by omega) (And.intro (by omega) ?_)
      refine Exists.intro (i + 1) (And.intro (by show w.length - (i + 1) < w.length - i; omega) (And.intro hi (And.intro ?_ rfl)))
      rw [hs, ← Int.add_assoc]; rfl
    have h2' : ¬ q = 1 := by simpa using h2
    rw [if_neg h2'] at hs
    refine And.intro (fun h3 => ?_) fun h3 => ?_
    · have h3' : q = 0 := by simpa using h3
      rw [if_pos h3'] at hs
      refine And.intro (by show (-9223372036854775808 : Int) ≤ c + goalRS t.goal w i + (if x > 0 then x else 0); rw [hm]; omega) (And.intro (by show c + goalRS t.goal w i + (if x > 0 then x else 0) ≤ (9223372036854775807 : Int); rw [hm]; omega) ?_)
      refine And.intro (by omega) (And.intro (by omega) ?_)
      refine Exists.intro (i + 1) (And.intro (by show w.length - (i + 1) < w.length - i; omega) (And.intro hi (And.intro ?_ rfl)))
      rw [hs, ← Int.add_assoc]; rfl
    have h3' : ¬ q = 0 := by simpa using h3
    rw [if_neg h3', Int.add_zero] at hs
    refine And.intro (by omega) (And.intro (by omega) ?_)
    refine Exists.intro (i + 1) (And.intro (by show w.length - (i + 1) < w.length - i; omega) (And.intro hi (And.intro ?_ rfl)))
    rw [hs]; rfl
  have hi : i = w.length := by have := ge_of_dec h1; omega
  subst hi
  have e1 : rightR t den c w = (decide (c + goalRS t.goal w w.length ≤ 0) && t.acts.all (okR den w)) := rfl
  have e2 : freeR t c w = (decide (c + goalRS t.goal w w.length ≤ 0) && t.acts.all (okRF w)) := rfl
  clear hS hB hG0 h1 hI
  generalize hB0 : decide (c + goalRS t.goal w w.length ≤ 0) = B0 at e1 e2 ⊢
  refine And.intro (fun h0 => ?_) fun h0 => ?_
  all_goals
    first
      | refine LoopW.mk (Nat × Bool × Bool) (fun u => u.1 ≤ t.acts.length ∧ u.2.1 = (true && (t.acts.take u.1).all (okR den w)) ∧ u.2.2 = (true && (t.acts.take u.1).all (okRF w)))
          (fun u => [(1, .int den), (3, .ints n1 w), (8, .bool u.2.1), (9, .bool u.2.2), (44, .acts t.an t.acts), (45, .int (t.acts.map tAct).length), (46, .int u.1)])
          (fun _ => ⟨out, [(32, .box (cellsTask t))]⟩) (fun u => t.acts.length - u.1) (0, true, true) ⟨Nat.zero_le _, rfl, rfl⟩ ⟨rfl, rfl⟩ ?_
      | refine LoopW.mk (Nat × Bool × Bool) (fun u => u.1 ≤ t.acts.length ∧ u.2.1 = (false && (t.acts.take u.1).all (okR den w)) ∧ u.2.2 = (false && (t.acts.take u.1).all (okRF w)))
          (fun u => [(1, .int den), (3, .ints n1 w), (8, .bool u.2.1), (9, .bool u.2.2), (44, .acts t.an t.acts), (45, .int (t.acts.map tAct).length), (46, .int u.1)])
          (fun _ => ⟨out, [(32, .box (cellsTask t))]⟩) (fun u => t.acts.length - u.1) (0, false, false) ⟨Nat.zero_le _, rfl, rfl⟩ ⟨rfl, rfl⟩ ?_
    rintro ⟨i, b1, b2⟩ ⟨hi0, hb1, hb2⟩
    simp only at hi0 hb1 hb2
    refine And.intro (fun h2 => ?_) fun h2 => ?_
    · have hi : i < t.acts.length := lt_of_dec h2
      have hm := List.getElem_mem hi
      have hmc := mul_cost hd (hcost _ hm)
      have hdr := dropRS_in (a := t.acts[i]) hl hw
      have s1 := all_snoc (p := okR den w) hi
      have s2 := all_snoc (p := okRF w) hi
      refine And.intro (by omega) (Exists.intro _ (And.intro (get_map hi) ?_))
      refine SpecP.mono (f61_spec t.acts[i] n1 w hw hl _) ?_
      rintro _ _ ⟨rfl, rfl⟩
      have fin : ∀ B x y : Bool, b1 = (B && (t.acts.take i).all (okR den w)) → b2 = (B && (t.acts.take i).all (okRF w)) → x = (b1 && okR den w t.acts[i]) → y = (b2 && okRF w t.acts[i]) →
          x = (B && (t.acts.take (i + 1)).all (okR den w)) ∧ y = (B && (t.acts.take (i + 1)).all (okRF w)) := fun B x y h3 h4 hx hy => ⟨by rw [s1, hx, h3, Bool.and_assoc], by rw [s2, hy, h4, Bool.and_assoc]⟩
      cases b1 <;> cases b2
      · refine And.intro (by omega) (And.intro (by omega) ?_)
        exact Exists.intro (i + 1, false, false) (And.intro (by show t.acts.length - (i + 1) < t.acts.length - i; omega) (And.intro ⟨hi, fin _ _ _ hb1 hb2 rfl rfl⟩ (And.intro rfl rfl)))
      · refine And.intro (fun h4 => ?_) fun h4 => ?_
        · refine And.intro (by omega) (And.intro (by omega) ?_)
          exact Exists.intro (i + 1, false, true) (And.intro (by show t.acts.length - (i + 1) < t.acts.length - i; omega) (And.intro ⟨hi, fin _ _ _ hb1 hb2 rfl (by rw [okRF, h4, Bool.true_and])⟩ (And.intro rfl rfl)))
        · refine And.intro (by omega) (And.intro (by omega) ?_)
          exact Exists.intro (i + 1, false, false) (And.intro (by show t.acts.length - (i + 1) < t.acts.length - i; omega) (And.intro ⟨hi, fin _ _ _ hb1 hb2 rfl (by rw [okRF, h4, Bool.true_and])⟩ (And.intro rfl rfl)))
      · refine And.intro (by omega) (And.intro (by omega) ?_)
        refine And.intro (fun h3 => ?_) fun h3 => ?_
        · refine And.intro (by omega) (And.intro (by omega) ?_)
          exact Exists.intro (i + 1, true, false) (And.intro (by show t.acts.length - (i + 1) < t.acts.length - i; omega) (And.intro ⟨hi, fin _ _ _ hb1 hb2 (by rw [okR, h3, Bool.true_and]) rfl⟩ (And.intro rfl rfl)))
        · refine And.intro (by omega) (And.intro (by omega) ?_)
          exact Exists.intro (i + 1, false, false) (And.intro (by show t.acts.length - (i + 1) < t.acts.length - i; omega) (And.intro ⟨hi, fin _ _ _ hb1 hb2 (by rw [okR, h3, Bool.true_and]) rfl⟩ (And.intro rfl rfl)))
      · refine And.intro (by omega) (And.intro (by omega) ?_)
        refine And.intro (fun h3 => ?_) fun h3 => ?_
        · refine And.intro (fun h4 => ?_) fun h4 => ?_
          · refine And.intro (by omega) (And.intro (by omega) ?_)
            exact Exists.intro (i + 1, true, true) (And.intro (by show t.acts.length - (i + 1) < t.acts.length - i; omega) (And.intro ⟨hi, fin _ _ _ hb1 hb2 (by rw [okR, h3, Bool.true_and]) (by rw [okRF, h4, Bool.true_and])⟩ (And.intro rfl rfl)))
          · refine And.intro (by omega) (And.intro (by omega) ?_)
            exact Exists.intro (i + 1, true, false) (And.intro (by show t.acts.length - (i + 1) < t.acts.length - i; omega) (And.intro ⟨hi, fin _ _ _ hb1 hb2 (by rw [okR, h3, Bool.true_and]) (by rw [okRF, h4, Bool.true_and])⟩ (And.intro rfl rfl)))
        · refine And.intro (fun h4 => ?_) fun h4 => ?_
          · refine And.intro (by omega) (And.intro (by omega) ?_)
            exact Exists.intro (i + 1, false, true) (And.intro (by show t.acts.length - (i + 1) < t.acts.length - i; omega) (And.intro ⟨hi, fin _ _ _ hb1 hb2 (by rw [okR, h3, Bool.true_and]) (by rw [okRF, h4, Bool.true_and])⟩ (And.intro rfl rfl)))
          · refine And.intro (by omega) (And.intro (by omega) ?_)
            exact Exists.intro (i + 1, false, false) (And.intro (by show t.acts.length - (i + 1) < t.acts.length - i; omega) (And.intro ⟨hi, fin _ _ _ hb1 hb2 (by rw [okR, h3, Bool.true_and]) (by rw [okRF, h4, Bool.true_and])⟩ (And.intro rfl rfl)))
    · have hi : i = t.acts.length := by have := ge_of_dec h2; omega
      rw [hi, List.take_length] at hb1 hb2
      refine Exists.intro [] (And.intro ?_ rfl)
      have h0 := hB0.symm.trans h0
      rw [e1, e2, h0, ← hb1, ← hb2]; rfl
end Go.Fw

/- The sums of the program are those of the reference. -/
namespace Go.Fw
open Go Go.Proofs
set_option maxRecDepth 10000

theorem wAt_set {b : List Int} {i j : Nat} {v : Int} : wAt (b.set i v) j = if i = j ∧ j < b.length then v else wAt b j := by
  rw [wAt, wAt, List.getD_eq_getElem?_getD, List.getD_eq_getElem?_getD, List.getElem?_set]
  by_cases h : i = j
  · subst h
    by_cases hl : i < b.length
    · rw [if_pos rfl, if_pos hl, if_pos ⟨rfl, hl⟩]; rfl
    · rw [if_pos rfl, if_neg hl, if_neg (fun h => hl h.2), List.getElem?_eq_none (by omega)]
  · rw [if_neg h, if_neg (fun h2 => h h2.1)]
theorem sign_at {b : List Int} {x : Lit} {f : Nat} (hx : 0 ≤ x.fact) (hf : f < b.length) : wAt (signStep b x) f = if x.fact = (f : Int) then (if x.neg then -1 else 1) else wAt b f := by
  by_cases h : x.fact = (f : Int)
  · have h2 : x.fact.toNat = f := by omega
    rw [if_pos h, signStep, h2]
    cases x.neg with
    | true => simp [wAt_set, hf]
    | false => simp [wAt_set, hf]
  · have h2 : ¬ x.fact.toNat = f := by omega
    rw [if_neg h, signStep]
    cases x.neg with
    | true => simp only [wAt_set]; rw [if_neg (fun h => h2 h.1), if_neg (fun h => h2 h.1)]
    | false => simp only [wAt_set]; rw [if_neg (fun h => h2 h.1)]
theorem says_none {l : List Lit} {f : Int} (h : ∀ x ∈ l, x.fact ≠ f) : saysF l f = 0 := by
  induction l with
  | nil => rfl
  | cons x r ih => rw [saysF, if_neg (h x (List.mem_cons_self ..)), ih fun y hy => h y (List.mem_cons_of_mem _ hy)]
theorem signs_fold {f : Nat} : ∀ {l : List Lit} {b : List Int}, (∀ x ∈ l, 0 ≤ x.fact) → l.Pairwise (fun x y => x.fact ≠ y.fact) → f < b.length → wAt (l.foldl signStep b) f = if saysF l f = 0 then wAt b f else saysF l f
  | [], b, _, _, _ => by simp [saysF]
  | x :: r, b, h0, hp, hf => by
    rw [List.foldl_cons, signs_fold (fun y hy => h0 y (List.mem_cons_of_mem _ hy)) (List.pairwise_cons.1 hp).2 (by rw [signStep_len]; exact hf), sign_at (h0 x (List.mem_cons_self ..)) hf]
    rw [saysF]
    by_cases h : x.fact = (f : Int)
    · have hn : saysF r f = 0 := says_none fun y hy he => (List.pairwise_cons.1 hp).1 y hy (by rw [h, he])
      rw [if_pos h, hn, if_pos rfl, if_pos h]
      cases x.neg <;> simp
    · rw [if_neg h, if_neg h]
theorem wAt_rep (n f : Nat) : wAt (List.replicate n 0) f = 0 := by
  rw [wAt, List.getD_eq_getElem?_getD]
  by_cases h : f < n
  · rw [List.getElem?_replicate, if_pos h]; rfl
  · rw [List.getElem?_eq_none (by simp; omega)]; rfl
theorem rising_ne {l : List Lit} {n : Int} (h : condB l n = true) : l.Pairwise (fun x y => x.fact ≠ y.fact) := by
  have hs : ∀ i, i + 1 < l.length → at0 (l.map (·.fact)) i < at0 (l.map (·.fact)) (i + 1) := fun i hi => by
    have := List.all_eq_true.1 h (i + 1) (List.mem_range.2 (by simpa using hi))
    simp only [chkI, Bool.and_eq_true, Bool.or_eq_true, decide_eq_true_eq, Nat.add_sub_cancel] at this
    rcases this.2 with h | h
    · simp at h
    · exact h
  have hlt : ∀ (d i : Nat), i + d + 1 < l.length → at0 (l.map (·.fact)) i < at0 (l.map (·.fact)) (i + d + 1) := by
    intro d
    induction d with
    | zero => intro i hi; exact hs i hi
    | succ d ih => intro i hi; exact Int.lt_trans (ih i (by omega)) (hs (i + d + 1) (by omega))
  rw [List.pairwise_iff_getElem]
  intro i j hi hj hij he
  have := hlt (j - i - 1) i (by omega)
  rw [show i + (j - i - 1) + 1 = j by omega, atF_eq hi, atF_eq hj, he] at this
  exact Int.lt_irrefl _ this
theorem signs_says {l : List Lit} {n f : Nat} (h : condB l n = true) (hf : f < n) : wAt (signsL n l) f = saysF l f := by
  rw [signsL, signs_fold (fun x hx => (cond_in h x hx).1) (rising_ne h) (by rw [List.length_replicate]; exact hf), wAt_rep]
  split
  · rename_i h; exact h.symm
  · rfl
theorem made_at {b : List Int} {e : Eff} {f : Nat} (hx : 0 ≤ e.lit.fact) (hf : f < b.length) : wAt (madeStep b e) f = if e.lit.fact = (f : Int) then (if e.lit.neg then (if wAt b f = 0 then -1 else wAt b f) else 1) else wAt b f := by
  by_cases h : e.lit.fact = (f : Int)
  · have h2 : e.lit.fact.toNat = f := by omega
    rw [if_pos h, madeStep, h2]
    cases e.lit.neg with
    | true =>
      simp only [if_true]
      show wAt (if wAt b f = 0 then b.set f (-1) else b) f = _
      split
      · rw [wAt_set, if_pos ⟨rfl, hf⟩]
      · rfl
    | false => simp [wAt_set, hf]
  · have h2 : ¬ e.lit.fact.toNat = f := by omega
    rw [if_neg h, madeStep]
    cases e.lit.neg with
    | true =>
      simp only
      split
      · rw [wAt_set, if_neg (fun h => h2 h.1)]
      · rfl
    | false => simp only [wAt_set]; rw [if_neg (fun h => h2 h.1)]
theorem made_fold {f : Nat} : ∀ {l : List Eff} {b : List Int}, (∀ e ∈ l, 0 ≤ e.lit.fact) → f < b.length → (wAt b f = 0 ∨ wAt b f = 1 ∨ wAt b f = -1) → wAt (l.foldl madeStep b) f = if wAt b f = 1 then 1 else makesF l f (wAt b f)
  | [], b, _, _, _ => by simp only [List.foldl_nil, makesF]; split <;> simp_all
  | e :: r, b, h0, hf, hb => by
    have hat := made_at (h0 e (List.mem_cons_self ..)) hf
    rw [List.foldl_cons, made_fold (fun y hy => h0 y (List.mem_cons_of_mem _ hy)) (by rw [madeStep_len]; exact hf) (by
      rw [hat]; split
      · split
        · split
          · exact .inr (.inr rfl)
          · exact hb
        · exact .inr (.inl rfl)
      · exact hb), hat, makesF]
    by_cases h : e.lit.fact = (f : Int)
    · simp only [if_pos h]
      cases e.lit.neg with
      | true =>
        simp only [if_true]
        rcases hb with hb | hb | hb <;> rw [hb] <;> simp
      | false => simp
    · simp only [if_neg h]
theorem made_makes {l : List Eff} {n f : Nat} (h : ∀ e ∈ l, 0 ≤ e.lit.fact) (hf : f < n) : wAt (madeL n l) f = makesF l f 0 := by
  rw [madeL, made_fold h (by rw [List.length_replicate]; exact hf) (.inl (wAt_rep n f)), wAt_rep, if_neg (by decide)]
theorem makes_is (l : List Eff) (f : Int) : ∀ o : Int, (o = 0 ∨ o = 1 ∨ o = -1) → (makesF l f o = 0 ∨ makesF l f o = 1 ∨ makesF l f o = -1) := by
  induction l with
  | nil => intro o h; exact h
  | cons e r ih =>
    intro o h
    rw [makesF]
    split
    · split
      · exact ih _ (.inr (.inr rfl))
      · exact .inr (.inl rfl)
    · exact ih _ h
theorem says_is (l : List Lit) (f : Int) : saysF l f = 0 ∨ saysF l f = 1 ∨ saysF l f = -1 := by
  induction l with
  | nil => exact .inl rfl
  | cons x r ih =>
    rw [saysF]
    split
    · split
      · exact .inr (.inr rfl)
      · exact .inr (.inl rfl)
    · exact ih
theorem change_drop {m p w : Int} (hm : m = 0 ∨ m = 1 ∨ m = -1) (hp : p = 0 ∨ p = 1 ∨ p = -1) : dropI (changeI m p) w = dropR m p w := by
  rcases hm with rfl | rfl | rfl <;> rcases hp with rfl | rfl | rfl <;> simp [dropI, changeI, dropR]
theorem zip_at {n f : Nat} {a b : List Int} (ha : a.length = n) (hb : b.length = n) (hf : f < n) : wAt (List.zipWith changeI a b) f = changeI (wAt a f) (wAt b f) := by
  have h1 : f < (List.zipWith changeI a b).length := by rw [List.length_zipWith]; omega
  rw [wAt_eq h1, List.getElem_zipWith, wAt_eq (by omega), wAt_eq (by omega)]
theorem dropS_eq {n : Nat} {a : Actn} {w : List Int} (hp : condB a.pre n = true) (he : ∀ e ∈ a.effs, 0 ≤ e.lit.fact) : dropS n a w = dropRS a w n := by
  rw [dropS, dropRS]
  refine sumZ_congr fun f hf => ?_
  rw [changesL, zip_at (madeL_len ..) (signsL_len ..) hf, made_makes he hf, signs_says hp hf, change_drop (makes_is _ _ 0 (.inl rfl)) (says_is _ _)]
theorem goalS_eq {n : Nat} {g : List Lit} {w : List Int} (hg : condB g n = true) : goalS n g w = goalRS g w n := by
  rw [goalS, goalRS]
  exact sumZ_congr fun f hf => by rw [signs_says hg hf]
theorem isB_goal {t : Task} (h : isB t = true) : condB t.goal t.facts.length = true := by
  simp only [isB, Bool.and_eq_true] at h
  exact h.1.1.1.2
theorem isB_pre {t : Task} (h : isB t = true) {a : Actn} (ha : a ∈ t.acts) : condB a.pre t.facts.length = true := by
  simp only [isB, Bool.and_eq_true] at h
  have := List.all_eq_true.1 h.1.2 a ha
  simp only [actB, Bool.and_eq_true] at this
  exact this.1.1.2
theorem all_congr {l : List Actn} {p q : Actn → Bool} (h : ∀ a ∈ l, p a = q a) : l.all p = l.all q := by
  induction l with
  | nil => rfl
  | cons x r ih => rw [List.all_cons, List.all_cons, h x (List.mem_cons_self ..), ih fun a ha => h a (List.mem_cons_of_mem _ ha)]
theorem right_eq {t : Task} (h : isB t = true) {den c : Int} {w : List Int} (hl : w.length = t.facts.length) : rightB t den c w = rightR t den c w ∧ freeB t c w = freeR t c w := by
  have TK := task_ok h
  have hd : ∀ a ∈ t.acts, dropS t.facts.length a w = dropRS a w w.length := fun a ha => by
    rw [hl]; exact dropS_eq (isB_pre h ha) fun e he => (TK.lit a ha e he).1
  have hg : goalS t.facts.length t.goal w = goalRS t.goal w w.length := by rw [hl]; exact goalS_eq (isB_goal h)
  constructor
  · rw [rightB, rightR, hg]
    congr 1
    exact all_congr fun a ha => by rw [okR, hd a ha]
  · rw [freeB, freeR, hg]
    congr 1
    exact all_congr fun a ha => by rw [okRF, hd a ha]
end Go.Fw

/- Fractions; Value, Right, Estimate. -/
namespace Go.Fw
open Go Go.Proofs
set_option maxRecDepth 10000

theorem tdiv_in {n g B : Int} (h : -B ≤ n ∧ n ≤ B) : -B ≤ n.tdiv g ∧ n.tdiv g ≤ B := by
  have h1 : (n.tdiv g).natAbs ≤ n.natAbs := by rw [Int.natAbs_tdiv]; exact Nat.div_le_self _ _
  omega
def fracV (n d : Int) : List LV := [.int (n.tdiv (Int.gcd n d)), .int (d.tdiv (Int.gcd n d))]
def kp31p : Kp := [(4, ([0, 1, 6, 7], []))]
def od31p : Od := [(5, [(0, .tree (.pure 0 (.pure 1 (.pure 2 (.pure 3 (.last 4 (.last 5 .done []) [2, 3]))))))]), (6, [(0, .tree (.pure 0 (.pure 1 (.pure 2 (.pure 3 (.pure 4 (.pure 5 (.pure 6 (.pure 7 .done)))))))))])]
theorem f31_spec (n d : Int) (hn : -4611686018427387904 ≤ n ∧ n ≤ 4611686018427387904) (hd : 0 < d ∧ d ≤ 4611686018427387904) (out : List Fr) :
    SpecP Try.prog 31 [.int n, .int d] out fun r ro => r = .tup (fracV n d) ∧ ro = [] := by
  refine spec_body cx_ok kp31p od31p (fn := Try.f31) (by kernel_rfl) rfl (by kernel_rfl) rfl (by unfold FnOK; kernel_rfl) fun hok => ?_
  refine And.intro (fun h0 => And.intro (by omega) (And.intro (by omega) ?_)) fun h0 => ?_
  all_goals
    first
      | refine LoopW.mk (Int × Int) (fun u => Int.gcd u.1 u.2 = Int.gcd n d ∧ (0 ≤ u.1 ∧ u.1 ≤ 4611686018427387904) ∧ (0 ≤ u.2 ∧ u.2 ≤ 4611686018427387904)) (fun u => [(0, .int n), (1, .int d), (6, .int u.1), (7, .int u.2)]) (fun _ => ⟨out, []⟩) (fun u => u.2.natAbs) (0 - n, d)
          ⟨by rw [Int.zero_sub, Int.neg_gcd], ⟨by have := of_decide_eq_true h0; omega, by omega⟩, by omega, hd.2⟩ ⟨rfl, rfl⟩ ?_
      | refine LoopW.mk (Int × Int) (fun u => Int.gcd u.1 u.2 = Int.gcd n d ∧ (0 ≤ u.1 ∧ u.1 ≤ 4611686018427387904) ∧ (0 ≤ u.2 ∧ u.2 ≤ 4611686018427387904)) (fun u => [(0, .int n), (1, .int d), (6, .int u.1), (7, .int u.2)]) (fun _ => ⟨out, []⟩) (fun u => u.2.natAbs) (n, d)
          ⟨rfl, ⟨by have := of_decide_eq_false h0; omega, by omega⟩, by omega, hd.2⟩ ⟨rfl, rfl⟩ ?_
    rintro ⟨x, y⟩ ⟨hg, hx, hy⟩
    simp only at hg hx hy
    refine And.intro (fun h1 => ?_) fun h1 => ?_
    · have hy0 : y ≠ 0 := by simpa using h1
      have hab : (x.tmod y).natAbs = x.natAbs % y.natAbs := Int.natAbs_tmod ..
      have hlt : (x.tmod y).natAbs < y.natAbs := by rw [hab]; exact Nat.mod_lt _ (by omega)
      have hnn : 0 ≤ x.tmod y := Int.tmod_nonneg _ hx.1
      refine And.intro hy0 (And.intro rfl (And.intro hy0 (And.intro rfl ?_)))
      refine Exists.intro (y, x.tmod y) (And.intro hlt (And.intro ⟨?_, hy, by omega⟩ (And.intro rfl rfl)))
      rw [← hg]
      show Nat.gcd y.natAbs (x.tmod y).natAbs = Nat.gcd x.natAbs y.natAbs
      rw [hab, Nat.gcd_comm, ← Nat.gcd_rec, Nat.gcd_comm]
    · have hy0 : y = 0 := by simpa using h1
      have hxg : x = (Int.gcd n d : Int) := by rw [← hg, hy0, Int.gcd_zero_right]; omega
      have hgp : 0 < Int.gcd n d := Int.gcd_pos_of_ne_zero_right n (by omega)
      have hx0 : x ≠ 0 := by omega
      have b1 := tdiv_in (g := x) hn
      have b2 := tdiv_in (n := d) (g := x) (B := 4611686018427387904) ⟨by omega, hd.2⟩
      refine And.intro hx0 (And.intro (by show (-9223372036854775808 : Int) ≤ n.tdiv x; omega) (And.intro (by show n.tdiv x ≤ (9223372036854775807 : Int); omega) ?_))
      refine And.intro hx0 (And.intro (by show (-9223372036854775808 : Int) ≤ d.tdiv x; omega) (And.intro (by show d.tdiv x ≤ (9223372036854775807 : Int); omega) ?_))
      refine Exists.intro [] (And.intro ?_ rfl)
      rw [fracV, ← hxg]; rfl

/-! ### What is given -/
theorem pot_ok {n : Nat} {den c : Int} {w : List Int} (h : isPotB n den c w = true) : (1 ≤ den ∧ den ≤ 1073741824) ∧ (-1125899906842624 ≤ c ∧ c ≤ 1125899906842624) ∧ w.length = n ∧ Small w := by
  simp only [isPotB, inW, Bool.and_eq_true, decide_eq_true_eq, beq_iff_eq] at h
  refine ⟨h.1.1.1, h.1.1.2, h.1.2, fun x hx => ?_⟩
  have := List.all_eq_true.1 h.2 x hx
  simpa [inW] using this
theorem asks_ok {t : Task} {den c : Int} {w : List Int} (h : asksI t den c w = 0) : isB t = true ∧ plainB t = true ∧ isPotB t.facts.length den c w = true := by
  unfold asksI at h
  split at h
  · exact absurd h (by decide)
  · rename_i h1
    split at h
    · rename_i h2; simp only [Bool.and_eq_true] at h2; exact ⟨h1, h2.1, h2.2⟩
    · exact absurd h (by decide)
theorem given_ok {t : Task} {s : List Int} {den c : Int} {w : List Int} (h : givenI t s den c w = 0) : isB t = true ∧ (∀ x ∈ s, 0 ≤ x ∧ x < (t.facts.length : Int)) ∧ plainB t = true ∧ isPotB t.facts.length den c w = true := by
  unfold givenI at h
  split at h
  · rename_i h1
    obtain ⟨h2, h3, h4⟩ := asks_ok h
    unfold fineI at h1
    rw [if_pos h2] at h1
    split at h1
    · rename_i h5; exact ⟨h2, rising_in h5, h3, h4⟩
    · exact absurd h1 (by decide)
  · rename_i h1; exact absurd h h1
theorem value_b {s w : List Int} {c : Int} (hw : Small w) (hc : -1125899906842624 ≤ c ∧ c ≤ 1125899906842624) (hl : s.length ≤ 1000) : -1127025806749466624 ≤ valueF s c w ∧ valueF s c w ≤ 1127025806749466624 := by
  have := value_in (s := s) hw hc s.length (Nat.le_refl _)
  rw [List.take_length] at this
  omega
def od24p : Od := [(6, [(0, .pure), (1, .pure), (2, .pure), (3, .pure), (4, .pure), (5, .pure), (6, .pure), (7, .pure), (8, .pure), (9, .pure)])]
theorem f24_spec (t : Task) (n2 : Bool) (s : List Int) (den c : Int) (n1 : Bool) (w : List Int) (hl : s.length ≤ 1000) (out : List Fr) : SpecP Try.prog 24 [.task t, .ints n2 s, .pot den c n1 w] out fun r ro =>
    (r = if givenI t s den c w = 0 then .tup (fracV (valueF s c w) den ++ [.int 0]) else .tup [.int 0, .int 0, .int (givenI t s den c w)]) ∧ ro = [] := by
  refine spec_body cx_ok [] od24p (fn := Try.f24) (by kernel_rfl) rfl (by kernel_rfl) rfl (by unfold FnOK; kernel_rfl) fun hok => ?_
  refine SpecP.mono (f58_spec t n2 s den c n1 w _) ?_
  rintro _ _ ⟨rfl, rfl⟩
  refine And.intro (fun h1 => ?_) fun h1 => ?_
  · have h1' : ¬ givenI t s den c w = 0 := by simpa using h1
    refine Exists.intro [] (And.intro ?_ rfl)
    rw [if_neg h1']; rfl
  have h1' : givenI t s den c w = 0 := by simpa using h1
  obtain ⟨hB, hs, _, hp⟩ := given_ok h1'
  obtain ⟨hd, hc, hwl, hw⟩ := pot_ok hp
  refine SpecP.mono (f45_spec n2 n1 s w den c (by rw [hwl]; exact hs) hl hw hc _) ?_
  rintro _ _ ⟨rfl, rfl⟩
  have hv := value_b (s := s) hw hc hl
  refine SpecP.mono (f59_spec (valueF s c w) den (by omega) (by omega) _) ?_
  rintro _ _ ⟨g, rfl, hg, rfl⟩
  have hgp : 0 < Int.gcd (valueF s c w) den := Int.gcd_pos_of_ne_zero_right _ (by omega)
  have hg0 : g ≠ 0 := by omega
  have b1 := tdiv_in (g := g) hv
  have b2 := tdiv_in (n := den) (g := g) (B := 1073741824) ⟨by omega, hd.2⟩
  refine And.intro hg0 (And.intro (by omega) (And.intro (by omega) ?_))
  refine And.intro hg0 (And.intro (by omega) (And.intro (by omega) ?_))
  refine Exists.intro [] (And.intro ?_ rfl)
  rw [if_pos h1', fracV, ← hg]; rfl
theorem f25_spec (t : Task) (den c : Int) (n1 : Bool) (w : List Int) (out : List Fr) : SpecP Try.prog 25 [.task t, .pot den c n1 w] out fun r ro =>
    (r = if asksI t den c w = 0 then .tup [.bool (rightB t den c w), .bool (freeB t c w), .int 0] else .tup [.bool false, .bool false, .int (asksI t den c w)]) ∧ ro = [] := by
  refine spec_body cx_ok [] [] (fn := Try.f25) (by kernel_rfl) rfl (by kernel_rfl) rfl (by unfold FnOK; kernel_rfl) fun hok => ?_
  refine SpecP.mono (f60_spec t den c n1 w _) ?_
  rintro _ _ ⟨rfl, rfl⟩
  refine And.intro (fun h1 => ?_) fun h1 => ?_
  · have h1' : ¬ asksI t den c w = 0 := by simpa using h1
    refine Exists.intro [] (And.intro ?_ rfl)
    rw [if_neg h1']; rfl
  have h1' : asksI t den c w = 0 := by simpa using h1
  obtain ⟨hB, _, hp⟩ := asks_ok h1'
  obtain ⟨hd, hc, hwl, hw⟩ := pot_ok hp
  refine SpecP.mono (f44_spec t den c n1 w (task_ok hB) ⟨by omega, hd.2⟩ hc hw hwl _) ?_
  rintro _ _ ⟨rfl, rfl⟩
  refine And.intro (fun hR => ?_) fun hR => ?_
  all_goals
    refine And.intro (fun hF => ?_) fun hF => ?_
    all_goals
      refine Exists.intro [] (And.intro ?_ rfl)
      rw [if_pos h1', hR, hF]; rfl
/-- The estimate. -/
def estI (t : Task) (s : List Int) (den c : Int) (w : List Int) : Int := if rightB t den c w = true ∧ 0 < valueF s c w then (valueF s c w - 1).tdiv den + 1 else 0
theorem f26_spec (t : Task) (n2 : Bool) (s : List Int) (den c : Int) (n1 : Bool) (w : List Int) (hl : s.length ≤ 1000) (out : List Fr) : SpecP Try.prog 26 [.task t, .ints n2 s, .pot den c n1 w] out fun r ro =>
    (r = if givenI t s den c w = 0 then .tup [.int (estI t s den c w), .int 0] else .tup [.int 0, .int (givenI t s den c w)]) ∧ ro = [] := by
  refine spec_body cx_ok [] [] (fn := Try.f26) (by kernel_rfl) rfl (by kernel_rfl) rfl (by unfold FnOK; kernel_rfl) fun hok => ?_
  refine SpecP.mono (f58_spec t n2 s den c n1 w _) ?_
  rintro _ _ ⟨rfl, rfl⟩
  refine And.intro (fun h1 => ?_) fun h1 => ?_
  · have h1' : ¬ givenI t s den c w = 0 := by simpa using h1
    refine Exists.intro [] (And.intro ?_ rfl)
    rw [if_neg h1']; rfl
  have h1' : givenI t s den c w = 0 := by simpa using h1
  obtain ⟨hB, hs, _, hp⟩ := given_ok h1'
  obtain ⟨hd, hc, hwl, hw⟩ := pot_ok hp
  refine SpecP.mono (f45_spec n2 n1 s w den c (by rw [hwl]; exact hs) hl hw hc _) ?_
  rintro _ _ ⟨rfl, rfl⟩
  refine SpecP.mono (f44_spec t den c n1 w (task_ok hB) ⟨by omega, hd.2⟩ hc hw hwl _) ?_
  rintro _ _ ⟨rfl, rfl⟩
  have hv := value_b (s := s) hw hc hl
  have e : estI t s den c w = if rightB t den c w = true ∧ 0 < valueF s c w then (valueF s c w - 1).tdiv den + 1 else 0 := rfl
  have b1 := tdiv_in (n := valueF s c w - 1) (g := den) (B := 1127025806749466625) ⟨by omega, by omega⟩
  refine And.intro (fun hR => ?_) fun hR => ?_
  · refine And.intro (fun hF => ?_) fun hF => ?_
    all_goals
      refine And.intro (fun h2 => ?_) fun h2 => ?_
      · have h2' := of_decide_eq_true h2
        refine Exists.intro [] (And.intro ?_ rfl)
        rw [if_pos h1', e, if_neg (fun h => by omega)]; rfl
      · have h2' := of_decide_eq_false h2
        refine And.intro (by omega) (And.intro (by omega) ?_)
        refine And.intro (by omega) (And.intro (by omega) (And.intro (by omega) ?_))
        refine And.intro (by omega) (And.intro (by omega) ?_)
        refine Exists.intro [] (And.intro ?_ rfl)
        rw [if_pos h1', e, if_pos ⟨hR, by omega⟩]; rfl
  · refine And.intro (fun hF => ?_) fun hF => ?_
    all_goals
      refine Exists.intro [] (And.intro ?_ rfl)
      rw [if_pos h1', e, if_neg (fun h => by rw [hR] at h; cases h.1)]; rfl
end Go.Fw

/- The value logic, part V1: operations that are run on closed data. -/
namespace Go.Fw
open Go

/-! ### Laying bare costs nothing -/
theorem strV_intro {x : LV} {K' : LV → Prop} (h : K' x) : strL.strV x K' := by cases x <;> exact h
theorem strL_intro : ∀ {l : List LV} {K' : List LV → Prop}, K' l → strL l K'
  | [], _, h => h
  | x :: r, K', h => strV_intro (x := x) (K' := fun x => strL r fun r => K' (x :: r)) (strL_intro (l := r) h)
theorem strW_intro {x : LV} {K' : LV → Prop} (h : K' x) : strW x K' := by
  cases x <;> first | exact h | exact strL_intro h
theorem strE_intro : ∀ {l : List (Nat × LV)} {K' : List (Nat × LV) → Prop}, K' l → strE l K'
  | [], _, h => h
  | (n, x) :: r, K', h => strW_intro (x := x) (K' := fun x => strE r fun r => K' ((n, x) :: r)) (strE_intro (l := r) h)
theorem strO_intro {x : Ob} {K' : Ob → Prop} (h : K' x) : strO x K' := by
  cases x <;> first | exact h | exact strL_intro h
theorem strC_intro : ∀ {l : List (Nat × Ob)} {K' : List (Nat × Ob) → Prop}, K' l → strC l K'
  | [], _, h => h
  | (n, x) :: r, K', h => strO_intro (x := x) (K' := fun x => strC r fun r => K' ((n, x) :: r)) (strC_intro (l := r) h)
theorem strS_intro {st : St} {K' : St → Prop} (h : K' st) : strS st K' := by
  obtain ⟨out, cur⟩ := st
  exact strC_intro (K' := fun cur => K' ⟨out, cur⟩) h
theorem strES_intro {env : Env} {st : St} {K' : Env → St → Prop} (h : K' env st) : strES env st K' := strE_intro (K' := fun env => strS st fun st => K' env st) (strS_intro h)

/-! ### Conditions -/
def okIf {α : Type} (b : Bool) (x : Option α) : Option α := match b with
  | true => x
  | false => none
theorem okIf_some {α : Type} {b : Bool} {x : Option α} {y : α} (h : okIf b x = some y) : b = true ∧ x = some y := by
  cases b with
  | true => exact ⟨rfl, h⟩
  | false => cases h

abbrev Ev := Option (LV × (Env × St))

/-! ### Looking, so that it runs fast -/
noncomputable def lookR {α : Type} (l : List (Nat × α)) (n : Nat) : Option α :=
  List.rec (motive := fun _ => Option α) none (fun p _ ih => Bool.rec ih (some p.2) (Nat.beq p.1 n)) l
theorem lookR_eq {α : Type} : ∀ (l : List (Nat × α)) (n : Nat), lookR l n = look l n
  | [], _ => rfl
  | p :: r, n => by
    have ih := lookR_eq r n
    show Bool.rec (lookR r n) (some p.2) (Nat.beq p.1 n) = look (p :: r) n
    unfold look
    cases Nat.beq p.1 n with
    | true => rfl
    | false => exact ih
noncomputable def opdR (env : Env) (o : Operand) : LV := match o with
  | .tmp t => match Nat.blt t 1000000 with
    | true => match lookR env t with
      | some x => x
      | none => .bad
    | false => .bad
  | o => opd env o
theorem opdR_eq (env : Env) (o : Operand) : opdR env o = opd env o := by
  cases o with
  | tmp t => simp only [opdR, opd, lookR_eq]; rfl
  | _ => rfl
noncomputable def getR (st : St) (k : K) : Option Ob := match k with
  | .cur s => lookR st.cur s
  | k => st.get k
theorem getR_eq (st : St) (k : K) : getR st k = st.get k := by
  cases k with
  | cur s => exact lookR_eq _ _
  | _ => rfl

section
variable {C : Ctx} {P : Program} {env env' : Env} {st st' : St} {x : LV} {K' : LV → Env → St → Prop}

theorem getW_intro {st : St} : ∀ {k : K} {o : Ob} {F : Ob → Prop}, st.get k = some o → F o → getW st k F
  | .cur s, o, F, h, hF => by
    have h' : look st.cur s = some o := h
    simp only [getW, h']; exact hF
  | .fr i s, o, F, h, hF => ⟨o, h, hF⟩
  | .sub k i, o, F, h, hF => by
    obtain ⟨eo, e, sz, rs, es, hg, hi, rfl⟩ := St.get_sub h
    exact getW_intro (k := k) hg ⟨es, hi, hF⟩

def boxE (env : Env) (st : St) (s : Nat) (cs : Option (List LV)) : Ev := match cs with
  | some cs => okIf (freshB env st.cur s) (some (.ptr (.cur s) 0, env, { st with cur := (s, .box cs) :: st.cur }))
  | none => none
theorem boxE_ok {s : Nat} {cs : Option (List LV)} (h : boxE env st s cs = some (x, env', st')) (hK : K' x env' st') : boxW env st s cs K' := by
  unfold boxE at h; unfold boxW
  split at h
  · obtain ⟨hf, h⟩ := okIf_some h
    cases h; simp only [hf]; exact hK
  · cases h

def makeE (C : Ctx) (env : Env) (st : St) (s : Nat) (t : Nat) (l c : LV) : Ev :=
  match C.ty t with
  | some ⟨.slice e, _, _, _⟩ => match C.ty e with
    | some te => match l, c with
      | .t (.v (.int _ n)), .t (.v (.int _ m)) => okIf (decide (n = m) && (decide (0 ≤ n) && (decide (n * te.bytes ≤ 140737488355328) && (decide (n ≤ 140737488355328) && freshB env st.cur s))))
          (some (.osl (.cur s) te.size 0 n.toNat, env, { st with cur := (s, madeOb C e te n.toNat) :: st.cur }))
      | _, _ => none
    | none => none
  | _ => none
theorem makeE_ok {s t : Nat} {l c : LV} (h : makeE C env st s t l c = some (x, env', st')) (hK : K' x env' st') : makeW C env st s t l c K' := by
  unfold makeE at h; unfold makeW
  split at h
  · rename_i e _ _ _ ht
    split at h
    · rename_i te hte
      split at h
      · obtain ⟨hf, h⟩ := okIf_some h
        simp only [Bool.and_eq_true, decide_eq_true_eq] at hf
        cases h
        simp only [ht, hte]
        refine ⟨hf.1, hf.2.1, hf.2.2.1, hf.2.2.2.1, ?_⟩
        simp only [hf.2.2.2.2]; exact hK
      · cases h
    · cases h
  · cases h

/-! ### What is stored comes to the front -/
theorem front_le {st : St} {s : Nat} {o o' : Ob} (h : look st.cur s = some o') : St.le { st with cur := (s, o) :: st.cur } { st with cur := setCur st.cur s o } := fun k p hk => by
  refine get_less (st := { st with cur := setCur st.cur s o }) (cur := (s, o) :: st.cur) (fun n x hx => ?_) k p hk
  rw [look_cons] at hx
  rw [look_setCur]
  by_cases hn : s = n
  · subst hn
    rw [if_pos rfl] at hx
    rw [if_pos rfl, h]; exact hx
  · rw [if_neg hn] at hx
    rw [if_neg (fun he => hn he.symm)]; exact hx
/-- A list laid bare. -/
def forceL {α β : Type} : List α → (List α → β) → β
  | [], k => k []
  | x :: r, k => forceL r fun r => k (x :: r)
theorem forceL_eq {α β : Type} : ∀ (l : List α) (k : List α → β), forceL l k = k l
  | [], _ => rfl
  | x :: r, k => by simp only [forceL, forceL_eq r]

/-! ### Cells as closed data -/
noncomputable def cellsTE : List LV → List T → Env → St → Option (List T × (Env × St))
  | [], acc, env, st => some (acc, env, st)
  | y :: r, acc, env, st => match y with
    | .t x => cellsTE r (acc ++ [x]) env st
    | .osl k sz off len => match k with
      | .cur s => match lookR st.cur s with
        | some (.row _ sz' es) => okIf (Nat.beq sz sz' && Nat.ble (off + len) es.length) (cellsTE r (acc ++ [.sl false sz ((es.drop off).take len)]) (purgeE (.cur s) env) { st with cur := delCur s st.cur })
        | _ => none
      | _ => none
    | _ => none
theorem cellsTE_ok {KT : List T → Env → St → Prop} {ts : List T} : ∀ {cs : List LV} {acc : List T} {env : Env} {st : St}, cellsTE cs acc env st = some (ts, env', st') → KT ts env' st' → cellsTW KT cs acc env st
  | [], acc, env, st, h, hK => by cases h; exact hK
  | y :: r, acc, env, st, h, hK => by
    simp only [cellsTE, lookR_eq] at h
    split at h
    · exact cellsTE_ok (cs := r) h hK
    · rename_i k sz off len
      split at h
      · rename_i s
        split at h
        · rename_i e sz' es hl
          obtain ⟨hf, h⟩ := okIf_some h
          simp only [Bool.and_eq_true] at hf
          simp only [cellsTW, hl, hf.1]
          exact ⟨Nat.le_of_ble_eq_true hf.2, cellsTE_ok (cs := r) h hK⟩
        · cases h
      · cases h
    · cases h

noncomputable def partsE (sz : Nat) : Nat → List (Nat × Operand) → List (List T) → Env → St → Option (List (List T) × (Env × St))
  | _, [], acc, env, st => some (acc, env, st)
  | i, p :: r, acc, env, st => match cellsOf (opdR env p.2) with
    | some cs => okIf (Nat.beq i p.1 && Nat.beq cs.length sz) (match cellsTE cs [] env st with
      | some (ts, env, st) => partsE sz (i + 1) r (acc ++ [ts]) env st
      | none => none)
    | none => none
theorem partsE_ok {KT : List (List T) → Env → St → Prop} {sz : Nat} {ts : List (List T)} : ∀ {parts : List (Nat × Operand)} {i : Nat} {acc : List (List T)} {env : Env} {st : St}, partsE sz i parts acc env st = some (ts, env', st') → KT ts env' st' → partsW 0 sz KT i parts acc env st
  | [], i, acc, env, st, h, hK => by cases h; exact hK
  | p :: r, i, acc, env, st, h, hK => by
    obtain ⟨j, o⟩ := p
    simp only [partsE, opdR_eq] at h
    split at h
    · rename_i cs hcs
      obtain ⟨hf, h⟩ := okIf_some h
      simp only [Bool.and_eq_true] at hf
      split at h
      · rename_i ts1 env1 st1 h1
        simp only [partsW, hf.1, hcs, hf.2]
        exact cellsTE_ok h1 (partsE_ok (parts := r) h hK)
      · cases h
    · cases h

noncomputable def litE (C : Ctx) (env : Env) (st : St) (s : Nat) (t len : Nat) (parts : List (Nat × Operand)) : Ev :=
  match C.ty t with
  | some ⟨.slice e, _, _, _⟩ => match C.ty e with
    | some te => okIf (Nat.beq parts.length len && (Nat.ble (len * te.size) 16777216 && Nat.ble len 16777216)) (match partsE te.size 0 parts [] env st with
      | some (els, env, st) => okIf (freshB env st.cur s) (some (.osl (.cur s) te.size 0 len, env, { st with cur := (s, .row e te.size els) :: st.cur }))
      | none => none)
    | none => none
  | _ => none
theorem litE_ok {s t len : Nat} {parts : List (Nat × Operand)} (h : litE C env st s t len parts = some (x, env', st')) (hK : K' x env' st') : litW C env st s t len parts K' := by
  unfold litE at h; unfold litW
  split at h
  · rename_i e _ _ _ ht
    split at h
    · rename_i te hte
      obtain ⟨hf, h⟩ := okIf_some h
      simp only [Bool.and_eq_true] at hf
      split at h
      · rename_i els env1 st1 h1
        obtain ⟨hf2, h⟩ := okIf_some h
        cases h
        simp only [ht, hte, hf.1, hf.2.1, hf.2.2]
        refine partsE_ok h1 ?_
        simp only [hf2]; exact hK
      · cases h
    · cases h
  · cases h

/-! ### Stores -/
noncomputable def storeE (C : Ctx) (env : Env) (st : St) (t : Nat) (x y : LV) : Option (Env × St) :=
  match C.ty t with
  | none => none
  | some ti => match x with
    | .ptr k c => match k with
      | .cur s => match lookR st.cur s with
        | some (.box cs) => match cellsOf y with
          | some xs => okIf (Nat.beq xs.length ti.size && Nat.ble (c + xs.length) cs.length) (forceL (spl cs c xs) fun l => some (env, { st with cur := (s, .box l) :: st.cur }))
          | none => none
        | _ => none
      | _ => none
    | .pel k sz i j => match k with
      | .cur s => match lookR st.cur s with
        | some (.row _ _ _) => match cellsOf y with
          | some xs => match cellsTE xs [] env st with
            | some (ts, env, st) => match lookR st.cur s with
              | some (.row e sz' es) => match es[i]? with
                | some el => okIf (Nat.beq ts.length ti.size && (Nat.beq sz' sz && Nat.ble (j + ts.length) el.length)) (forceL (es.set i (spl el j ts)) fun l => some (env, { st with cur := (s, .row e sz l) :: st.cur }))
                | none => none
              | _ => none
            | none => none
          | none => none
        | some (.grid eo e szi rs) => match y with
          | .osl k2 szr off len => match k2, off with
            | .cur s2, 0 => match lookR st.cur s2 with
              | some (.row e2 szq es) => okIf (Nat.beq sz 1 && (Nat.beq j 0 && (Nat.beq ti.size 1 && (Nat.beq szr szi && (!Nat.beq s2 s && (Nat.beq szq szi && (Nat.beq e2 e && (noMit (.sub (.cur s) i) st.cur && (Nat.beq len es.length && Nat.blt i rs.length)))))))))
                  (some (purgeE (.sub (.cur s) i) (purgeE (.cur s2) env), { st with cur := setCur (absorbC s s2 i st.cur) s (.grid eo e szi (rs.set i (.row es))) }))
              | _ => none
            | _, _ => none
          | _ => none
        | _ => none
      | .sub k q => match k with
        | .cur s => match lookR st.cur s with
          | some (.grid _ _ _ _) => match cellsOf y with
            | some xs => match cellsTE xs [] env st with
              | some (ts, env, st) => match lookR st.cur s with
                | some (.grid eo e szi rs) => match rs[q]? with
                  | some (.row es) => match es[i]? with
                    | some el => okIf (Nat.beq ts.length ti.size && (Nat.beq szi sz && Nat.ble (j + ts.length) el.length)) (forceL (es.set i (spl el j ts)) fun l => forceL (rs.set q (.row l)) fun l => some (env, { st with cur := (s, .grid eo e szi l) :: st.cur }))
                    | none => none
                  | _ => none
                | _ => none
              | none => none
            | none => none
          | _ => none
        | _ => none
      | _ => none
    | _ => none
theorem storeE_ok {t : Nat} {x y : LV} {KS : Env → St → Prop} (h : storeE C env st t x y = some (env', st')) (hK : ∀ t, St.le st' t → KS env' t) : storeW C env st t x y KS := by
  unfold storeE at h; simp only [lookR_eq, forceL_eq] at h; unfold storeW
  split at h
  · cases h
  rename_i ti hti
  split at h
  · rename_i k c
    split at h
    · rename_i s
      split at h
      · rename_i cs hl
        split at h
        · rename_i xs hxs
          obtain ⟨hf, h⟩ := okIf_some h
          simp only [Bool.and_eq_true] at hf
          cases h
          simp only [hti, hl, hxs, hf.1, hf.2]; exact hK _ (front_le hl)
        · cases h
      · cases h
    · cases h
  · rename_i k sz i j
    split at h
    · rename_i s
      split at h
      · rename_i hl
        split at h
        · rename_i xs hxs
          split at h
          · rename_i ts env1 st1 h1
            split at h
            · rename_i e sz' es hl2
              split at h
              · rename_i el hel
                obtain ⟨hf, h⟩ := okIf_some h
                simp only [Bool.and_eq_true] at hf
                cases h
                simp only [hti, hl, hxs]
                refine cellsTE_ok h1 ?_
                simp only [hf.1, hl2, hf.2.1]
                exact ⟨el, hel, Nat.le_of_ble_eq_true hf.2.2, hK _ (front_le hl2)⟩
              · cases h
            · cases h
          · cases h
        · cases h
      · rename_i eo e szi rs hl
        split at h
        · rename_i k2 szr off len
          split at h
          · rename_i s2
            split at h
            · rename_i e2 szq es hl2
              obtain ⟨hf, h⟩ := okIf_some h
              simp only [Bool.and_eq_true, Bool.not_eq_true'] at hf
              obtain ⟨f1, f2, f3, f4, f5, f6, f7, f8, f9, f10⟩ := hf
              cases h
              simp only [hti, hl, f1, f2, f3, f4, f5, hl2, f6, f7, f8]
              exact ⟨Nat.eq_of_beq_eq_true f9, by simpa [Nat.blt_eq] using f10, hK _ fun _ _ h => h⟩
            · cases h
          · cases h
        · cases h
      · cases h
    · rename_i k q
      split at h
      · rename_i s
        split at h
        · rename_i hl
          split at h
          · rename_i xs hxs
            split at h
            · rename_i ts env1 st1 h1
              split at h
              · rename_i eo e szi rs hl2
                split at h
                · rename_i es hq
                  split at h
                  · rename_i el hel
                    obtain ⟨hf, h⟩ := okIf_some h
                    simp only [Bool.and_eq_true] at hf
                    cases h
                    simp only [hti, hl, hxs]
                    refine cellsTE_ok h1 ?_
                    simp only [hf.1, hl2, hf.2.1]
                    exact ⟨es, el, hq, hel, Nat.le_of_ble_eq_true hf.2.2, hK _ (front_le hl2)⟩
                  · cases h
                · cases h
              · cases h
            · cases h
          · cases h
        · cases h
      · cases h
    · cases h
  · cases h

/-! ### Append -/
noncomputable def srcE (st : St) (sz : Nat) (x : LV) : Option (List (List T)) :=
  match x with
  | .t (.sl _ sz' es) => match Nat.beq sz' sz, es with
    | true, es => some es
    | false, [] => some []
    | false, _ :: _ => none
  | .osl k sz' off len => match getR st k with
    | some (.row _ sz2 es) => okIf (Nat.beq sz' sz && (Nat.beq sz2 sz && Nat.ble (off + len) es.length)) (some ((es.drop off).take len))
    | _ => none
  | _ => none
theorem srcE_ok {sz : Nat} {x : LV} {xs : List (List T)} {KS : List (List T) → Prop} (h : srcE st sz x = some xs) (hK : KS xs) : srcW st sz x KS := by
  unfold srcE at h; simp only [getR_eq] at h; unfold srcW
  split at h
  · rename_i n sz' es
    split at h
    · rename_i hb; cases h; simp only [hb]; exact hK
    · rename_i hb; cases h; simp only [hb]; exact hK
    · cases h
  · rename_i k sz' off len
    split at h
    · rename_i e sz2 es hg
      obtain ⟨hf, h⟩ := okIf_some h
      simp only [Bool.and_eq_true] at hf
      cases h
      refine getW_intro hg ?_
      simp only [hf.1, hf.2.1]
      exact ⟨Nat.le_of_ble_eq_true hf.2.2, hK⟩
    · cases h
  · cases h

noncomputable def appE (C : Ctx) (env : Env) (st : St) (s t : Nat) (x y : LV) : Ev :=
  match C.ty t with
  | some ⟨.slice e, _, _, _⟩ => match C.ty e with
    | some te => match te.size with
      | 0 => none
      | sz + 1 => match srcE st (sz + 1) y with
        | some xs => match x with
          | .t (.sl nl _ _) => match nl with
            | true => match xs with
              | [] => some (.t (.sl true 0 []), env, st)
              | z :: r => okIf (Nat.ble ((z :: r).length * te.bytes) 140737488355328 && (Nat.ble (z :: r).length 140737488355328 && freshB env st.cur s)) (some (.osl (.cur s) (sz + 1) 0 (z :: r).length, env, { st with cur := (s, .row e (sz + 1) (z :: r)) :: st.cur }))
            | false => none
          | .osl k sz1 off len => match off with
            | 0 => match getR st k with
              | some (.row e' sz2 es) => okIf (Nat.beq e' e && (Nat.beq sz1 (sz + 1) && (Nat.beq sz2 (sz + 1) && (k.isCur && (Nat.beq len es.length && (Nat.ble ((es ++ xs).length * te.bytes) 140737488355328 && Nat.ble (es ++ xs).length 140737488355328))))))
                  (some (.osl k (sz + 1) 0 (es ++ xs).length, purgeE k env, (st.purge k).set k (.row e (sz + 1) (es ++ xs))))
              | _ => none
            | _ + 1 => none
          | _ => none
        | none => none
    | none => none
  | _ => none
theorem appE_ok {s t : Nat} {y z : LV} (h : appE C env st s t y z = some (x, env', st')) (hK : K' x env' st') : appW C env st s t y z K' := by
  unfold appE at h; simp only [getR_eq] at h; unfold appW
  split at h
  rotate_left
  · cases h
  rename_i e _ _ _ ht
  split at h
  rotate_left
  · cases h
  rename_i te hte
  simp only [ht, hte]
  split at h
  · cases h
  rename_i sz hsz
  simp only [hsz]
  split at h
  rotate_left
  · cases h
  rename_i xs hxs
  refine srcE_ok hxs ?_
  split at h
  · split at h
    · split at h
      · cases h; exact hK
      · obtain ⟨hf, h⟩ := okIf_some h
        simp only [Bool.and_eq_true] at hf
        cases h
        simp only
        refine ⟨Nat.le_of_ble_eq_true hf.1, Nat.le_of_ble_eq_true hf.2.1, ?_⟩
        simp only [hf.2.2]; exact hK
    · cases h
  · split at h
    · split at h
      · rename_i e' sz2 es hg
        obtain ⟨hf, h⟩ := okIf_some h
        simp only [Bool.and_eq_true] at hf
        obtain ⟨f1, f2, f3, f4, f5, f6, f7⟩ := hf
        cases h
        simp only [hg, f1, f2, f3, f4]
        exact ⟨Nat.eq_of_beq_eq_true f5, Nat.le_of_ble_eq_true f6, Nat.le_of_ble_eq_true f7, hK⟩
      · cases h
    · cases h
  · cases h

noncomputable def appTE (C : Ctx) (env : Env) (st : St) (s t : Nat) (x y : LV) : Ev := match x with
  | .osl k sz1 off len => match k with
    | .sub k2 i => match k2, off with
      | .cur q, 0 => match C.ty t with
        | some ⟨.slice e, _, _, _⟩ => match C.ty e with
          | some te => match te.size with
            | 0 => none
            | sz + 1 => match srcE st (sz + 1) y with
              | some xs => match lookR st.cur q with
                | some (.grid eo e' sz2 rs) => match rs[i]? with
                  | some (.row es) => okIf (Nat.beq e' e && (Nat.beq sz1 (sz + 1) && (Nat.beq sz2 (sz + 1) && (freshB env st.cur s && (!Nat.beq s q && (Nat.beq len es.length && (Nat.ble ((es ++ xs).length * te.bytes) 140737488355328 && Nat.ble (es ++ xs).length 140737488355328)))))))
                      (some (.osl (.cur s) (sz + 1) 0 (es ++ xs).length, purgeE (.cur s) (purgeE (.sub (.cur q) i) env),
                        (St.mk st.out (purgeC (.cur s) ((s, .row e (sz + 1) es) :: setCur (purgeC (.sub (.cur q) i) st.cur) q (.grid eo e (sz + 1) (rs.set i .out))))).set (.cur s) (.row e (sz + 1) (es ++ xs))))
                  | _ => none
                | _ => none
              | none => none
          | none => none
        | _ => none
      | _, _ => none
    | .cur q => match C.slz, off with
      | false, _ => appE C env st s t (.osl (.cur q) sz1 off len) y
      | true, 0 => match C.ty t with
        | some ⟨.slice e, _, _, _⟩ => match C.ty e with
          | some te => match te.size with
            | 0 => none
            | sz + 1 => match srcE st (sz + 1) y with
              | some xs => match lookR st.cur q with
                | some (.row e' sz2 es) => okIf (Nat.beq e' e && (Nat.beq sz1 (sz + 1) && (Nat.beq sz2 (sz + 1) && (Nat.ble len es.length && (Nat.ble ((es.take len ++ xs).length * te.bytes) 140737488355328 && Nat.ble (es.take len ++ xs).length 140737488355328)))))
                    (some (.osl (.cur q) (sz + 1) 0 (es.take len ++ xs).length, purgeE (.cur q) env, (st.purge (.cur q)).set (.cur q) (.row e (sz + 1) (es.take len ++ xs))))
                | _ => none
              | none => none
          | none => none
        | _ => none
      | true, _ + 1 => none
    | .fr _ _ => none
  | x => appE C env st s t x y
theorem appTE_ok {s t : Nat} {y z : LV} (h : appTE C env st s t y z = some (x, env', st')) (hK : K' x env' st') : appTW C env st s t y z K' := by
  unfold appTE at h; simp only [lookR_eq] at h; unfold appTW
  split at h
  · rename_i k sz1 off len
    split at h
    · rename_i k2 i
      split at h
      · rename_i q
        simp only
        split at h
        rotate_left
        · cases h
        rename_i e _ _ _ ht
        split at h
        rotate_left
        · cases h
        rename_i te hte
        simp only [ht, hte]
        split at h
        · cases h
        rename_i sz hsz
        simp only [hsz]
        split at h
        rotate_left
        · cases h
        rename_i xs hxs
        refine srcE_ok hxs ?_
        split at h
        rotate_left
        · cases h
        rename_i eo e' sz2 rs hl
        split at h
        rotate_left
        · cases h
        rename_i es hes
        obtain ⟨hf, h⟩ := okIf_some h
        simp only [Bool.and_eq_true, Bool.not_eq_true'] at hf
        obtain ⟨f1, f2, f3, f4, f5, f6, f7, f8⟩ := hf
        cases h
        simp only [hl, f1, f2, f3, f4, f5]
        exact ⟨es, hes, Nat.eq_of_beq_eq_true f6, Nat.le_of_ble_eq_true f7, Nat.le_of_ble_eq_true f8, hK⟩
      · cases h
    · rename_i q
      split at h
      · rename_i off1 _ _ hz
        cases off1 with
        | zero => simp only [hz]; exact appE_ok h hK
        | succ off => exact appE_ok h hK
      · rename_i hz
        simp only [hz]
        split at h
        rotate_left
        · cases h
        rename_i e _ _ _ ht
        split at h
        rotate_left
        · cases h
        rename_i te hte
        simp only [ht, hte]
        split at h
        · cases h
        rename_i sz hsz
        simp only [hsz]
        split at h
        rotate_left
        · cases h
        rename_i xs hxs
        refine srcE_ok hxs ?_
        split at h
        rotate_left
        · cases h
        rename_i e' sz2 es hl
        obtain ⟨hf, h⟩ := okIf_some h
        simp only [Bool.and_eq_true] at hf
        obtain ⟨f1, f2, f3, f4, f5, f6⟩ := hf
        cases h
        simp only [hl, f1, f2, f3]
        exact ⟨Nat.le_of_ble_eq_true f4, Nat.le_of_ble_eq_true f5, Nat.le_of_ble_eq_true f6, hK⟩
      · cases h
    · cases h
  · rename_i hno
    split
    · exact (hno _ _ _ _ rfl).elim
    · exact (hno _ _ _ _ rfl).elim
    · exact appE_ok h hK
end
end Go.Fw

/- The value logic, part V2: rows of rows, maps; every operation but calls. -/
namespace Go.Fw
open Go

section
variable {C : Ctx} {P : Program} {env env' : Env} {st st' : St} {x : LV} {K' : LV → Env → St → Prop}

noncomputable def litGE (C : Ctx) (env : Env) (st : St) (s t len : Nat) (parts : List (Nat × Operand)) : Ev :=
  match C.ty t with
  | some ⟨.slice e, _, _, _⟩ => match C.ty e with
    | some ⟨.slice e2, tsz, _, _⟩ => match C.ty e2 with
      | some te2 => match parts with
        | [p] => okIf (Nat.beq p.1 0 && (Nat.beq len 1 && (Nat.beq tsz 1 && freshB env st.cur s))) (match opdR env p.2 with
            | .t (.sl nl _ _) => okIf nl (some (.osl (.cur s) 1 0 1, env, { st with cur := (s, .grid e e2 te2.size [.nil]) :: st.cur }))
            | .osl k szr off n => match k, off with
              | .cur s2, 0 => match lookR st.cur s2 with
                | some (.row e3 szq es) => okIf (Nat.beq szr te2.size && (!Nat.beq s2 s && (Nat.beq e3 e2 && (Nat.beq szq te2.size && (noMit (.sub (.cur s) 0) st.cur && Nat.beq n es.length)))))
                    (some (.osl (.cur s) 1 0 1, purgeE (.sub (.cur s) 0) (purgeE (.cur s2) env),
                      { st with cur := setCur (absorbC s s2 0 ((s, .grid e e2 te2.size [.out]) :: st.cur)) s (.grid e e2 te2.size [.row es]) }))
                | _ => none
              | _, _ => none
            | _ => none)
        | _ => none
      | none => none
    | _ => none
  | _ => none
theorem litGE_ok {s t len : Nat} {parts : List (Nat × Operand)} (h : litGE C env st s t len parts = some (x, env', st')) (hK : K' x env' st') : litGW C env st s t len parts K' := by
  unfold litGE at h; simp only [lookR_eq, opdR_eq] at h; unfold litGW
  split at h
  rotate_left
  · cases h
  rename_i e _ _ _ ht
  split at h
  rotate_left
  · cases h
  rename_i e2 tsz _ _ hte
  split at h
  rotate_left
  · cases h
  rename_i te2 hte2
  simp only [ht, hte, hte2]
  split at h
  rotate_left
  · cases h
  rename_i p
  obtain ⟨j, o⟩ := p
  obtain ⟨hf, h⟩ := okIf_some h
  simp only [Bool.and_eq_true] at hf
  obtain ⟨f1, f2, f3, f4⟩ := hf
  have f1 := Nat.eq_of_beq_eq_true f1
  subst f1
  simp only [f2, f3, f4]
  split at h
  · rename_i nl _ _ ho
    obtain ⟨hn, h⟩ := okIf_some h
    subst hn
    cases h
    simp only [ho]; exact hK
  · rename_i k szr off n ho
    split at h
    · rename_i s2
      split at h
      · rename_i e3 szq es hl
        obtain ⟨hf, h⟩ := okIf_some h
        simp only [Bool.and_eq_true, Bool.not_eq_true'] at hf
        obtain ⟨g1, g2, g3, g4, g5, g6⟩ := hf
        cases h
        simp only [ho, hl, g1, g2, g3, g4, g5]
        exact ⟨Nat.eq_of_beq_eq_true g6, hK⟩
      · cases h
    · cases h
  · cases h

noncomputable def appGE (C : Ctx) (env : Env) (st : St) (s t : Nat) (x y : LV) : Ev :=
  match C.ty t with
  | some ⟨.slice e, _, _, _⟩ => match C.ty e with
    | some te => match y with
      | .osl (.cur h) 1 0 1 => match lookR st.cur h with
        | some (.grid eo e2 sz [r]) => okIf (Nat.beq te.size 1 && (Nat.beq eo e && (freshB env st.cur (s + 1) && !Nat.beq (s + 1) h))) (match x with
            | .osl (.cur g) 1 0 len => match lookR st.cur g with
              | some (.grid eo' e2' sz' rs) => okIf (!Nat.beq h g && (!Nat.beq (s + 1) g && (Nat.beq eo' e && (Nat.beq e2' e2 && (Nat.beq sz' sz && (Nat.beq len rs.length && (Nat.ble ((rs.length + 1) * te.bytes) 140737488355328 && Nat.ble (rs.length + 1) 140737488355328))))))) (match r with
                  | .nil => some (.osl (.cur g) 1 0 (rs.length + 1), purgeE (.cur g) env, { st with cur := setCur (purgeC (.cur g) st.cur) g (.grid e e2 sz (rs ++ [.nil])) })
                  | .row es => okIf (noMit (.sub (.cur g) rs.length) (setCur (purgeC (.cur g) ((s + 1, .row e2 sz es) :: setCur (purgeC (.sub (.cur h) 0) st.cur) h (.grid e e2 sz [.out]))) g (.grid e e2 sz (rs ++ [.out]))))
                    (some (.osl (.cur g) 1 0 (rs.length + 1), purgeE (.sub (.cur g) rs.length) (purgeE (.cur (s + 1)) (purgeE (.cur g) (purgeE (.sub (.cur h) 0) env))),
                      { st with cur := setCur (absorbC g (s + 1) rs.length (setCur (purgeC (.cur g) ((s + 1, .row e2 sz es) :: setCur (purgeC (.sub (.cur h) 0) st.cur) h (.grid e e2 sz [.out]))) g (.grid e e2 sz (rs ++ [.out])))) g (.grid e e2 sz (rs ++ [.row es])) }))
                  | .out => none)
              | _ => none
            | .t (.sl true _ _) => okIf (freshB env st.cur s && (!Nat.beq s h && Nat.ble te.bytes 140737488355328)) (match r with
                | .nil => some (.osl (.cur s) 1 0 1, env, { st with cur := (s, .grid e e2 sz [.nil]) :: st.cur })
                | .row es => okIf (noMit (.sub (.cur s) 0) (setCur (purgeC (.sub (.cur h) 0) st.cur) h (.grid e e2 sz [.out])) && freshB (purgeE (.sub (.cur h) 0) env) ((s + 1, .row e2 sz es) :: setCur (purgeC (.sub (.cur h) 0) st.cur) h (.grid e e2 sz [.out])) s)
                    (some (.osl (.cur s) 1 0 1, purgeE (.sub (.cur s) 0) (purgeE (.cur (s + 1)) (purgeE (.sub (.cur h) 0) env)),
                      { st with cur := setCur (absorbC s (s + 1) 0 ((s, .grid e e2 sz [.out]) :: (s + 1, .row e2 sz es) :: setCur (purgeC (.sub (.cur h) 0) st.cur) h (.grid e e2 sz [.out]))) s (.grid e e2 sz [.row es]) }))
                | .out => none)
            | _ => none)
        | _ => none
      | _ => none
    | none => none
  | _ => none
theorem appGE_ok {s t : Nat} {y z : LV} (h : appGE C env st s t y z = some (x, env', st')) (hK : K' x env' st') : appGW C env st s t y z K' := by
  unfold appGE at h; simp only [lookR_eq] at h; unfold appGW
  split at h
  rotate_left
  · cases h
  rename_i e _ _ _ ht
  split at h
  rotate_left
  · cases h
  rename_i te hte
  simp only [ht, hte]
  split at h
  rotate_left
  · cases h
  rename_i hh
  split at h
  rotate_left
  · cases h
  rename_i eo e2 sz r hl
  obtain ⟨hf, h⟩ := okIf_some h
  simp only [Bool.and_eq_true, Bool.not_eq_true'] at hf
  obtain ⟨f1, f2, f3, f4⟩ := hf
  simp only [hl, f1, f2, f3, f4]
  split at h
  · rename_i g len
    split at h
    rotate_left
    · cases h
    rename_i eo' e2' sz' rs hlg
    obtain ⟨hf, h⟩ := okIf_some h
    simp only [Bool.and_eq_true, Bool.not_eq_true'] at hf
    obtain ⟨g1, g2, g3, g4, g5, g6, g7, g8⟩ := hf
    simp only [hlg, g1, g2, g3, g4, g5]
    refine ⟨Nat.eq_of_beq_eq_true g6, Nat.le_of_ble_eq_true g7, Nat.le_of_ble_eq_true g8, ?_⟩
    split at h
    · cases h; exact hK
    · obtain ⟨hf, h⟩ := okIf_some h
      cases h
      simp only [hf]; exact hK
    · cases h
  · obtain ⟨hf, h⟩ := okIf_some h
    simp only [Bool.and_eq_true, Bool.not_eq_true'] at hf
    obtain ⟨g1, g2, g3⟩ := hf
    simp only [g1, g2]
    refine ⟨Nat.le_of_ble_eq_true g3, ?_⟩
    split at h
    · cases h; exact hK
    · obtain ⟨hf, h⟩ := okIf_some h
      simp only [Bool.and_eq_true] at hf
      cases h
      simp only [hf.1, hf.2]; exact hK
    · cases h
  · cases h

/-! ### Maps -/
def mapMakeE (C : Ctx) (env : Env) (st : St) (s t : Nat) : Ev :=
  match C.ty t with
  | some ⟨.map kt _, _, _, _⟩ => match C.ty kt with
    | some tk => okIf (freshB env st.cur s) (some (.mpr (.cur s), env, { st with cur := (s, .mp tk.d []) :: st.cur }))
    | none => none
  | _ => none
theorem mapMakeE_ok {s t : Nat} (h : mapMakeE C env st s t = some (x, env', st')) (hK : K' x env' st') : mapMakeW C env st s t K' := by
  unfold mapMakeE at h; unfold mapMakeW
  split at h
  · rename_i kt _ _ _ _ ht
    split at h
    · rename_i tk htk
      obtain ⟨hf, h⟩ := okIf_some h
      cases h
      simp only [ht, htk, hf]; exact hK
    · cases h
  · cases h
noncomputable def mapSetE (C : Ctx) (env : Env) (st : St) (t : Nat) (m k x : LV) : Option (Env × St) :=
  match C.ty t with
  | some ⟨.map kt _, _, _, _⟩ => match C.ty kt, m, k, x with
    | some tk, .mpr (.cur s), .t (.v kv), .t y => match lookR st.cur s with
      | some (.mp kd l) => okIf (decide (kd = tk.d) && (keyOK kd kv && noMit (.cur s) st.cur)) (some (env, { st with cur := setCur st.cur s (.mp kd (updKV kv y l)) }))
      | _ => none
    | _, _, _, _ => none
  | _ => none
theorem mapSetE_ok {t : Nat} {m k y : LV} {KS : Env → St → Prop} (h : mapSetE C env st t m k y = some (env', st')) (hK : KS env' st') : mapSetW C env st t m k y KS := by
  unfold mapSetE at h; simp only [lookR_eq] at h; unfold mapSetW
  split at h
  rotate_left
  · cases h
  rename_i ht
  split at h
  rotate_left
  · cases h
  rename_i tk s kv y htk
  split at h
  rotate_left
  · cases h
  rename_i kd l hl
  obtain ⟨hf, h⟩ := okIf_some h
  simp only [Bool.and_eq_true] at hf
  cases h
  simp only [ht, htk, hl, hf.1, hf.2.1, hf.2.2]; exact hK
noncomputable def rangeE (C : Ctx) (env : Env) (st : St) (s t : Nat) (x : LV) : Ev :=
  match C.ty t with
  | some ⟨.map _ _, _, _, _⟩ => match x with
    | .mpr (.cur m) => match lookR st.cur m with
      | some (.mp _ kv) => okIf (!Nat.beq m s && freshB (purgeE (.cur m) env) (delCur m st.cur) s) (some (.ptr (.cur s) 0, purgeE (.cur m) env, { st with cur := (s, .mit (.cur m) ((.slice none 0 0, .v (.bool false)) :: kv)) :: delCur m st.cur }))
      | _ => none
    | _ => none
  | _ => none
theorem rangeE_ok {s t : Nat} {y : LV} (h : rangeE C env st s t y = some (x, env', st')) (hK : K' x env' st') : rangeW C env st s t y K' := by
  unfold rangeE at h; simp only [lookR_eq] at h; unfold rangeW
  split at h
  rotate_left
  · cases h
  rename_i ht
  split at h
  rotate_left
  · cases h
  split at h
  rotate_left
  · cases h
  rename_i hl
  obtain ⟨hf, h⟩ := okIf_some h
  simp only [Bool.and_eq_true, Bool.not_eq_true'] at hf
  cases h
  simp only [ht, hl, hf.1, hf.2]; exact hK
/-- Only where at most one entry is left: there is one way. -/
noncomputable def nextE (st : St) (x : LV) : Option (LV × St) :=
  match x with
  | .ptr (.cur s) 0 => match lookR st.cur s with
    | some (.mit m (_ :: rest)) => match rest with
      | [] => some (.tup [.t (.v (.bool false))], st)
      | [p] => some (.tup [.t (.v (.bool true)), .t (.v p.1), .t p.2], { st with cur := setCur st.cur s (.mit m [p]) })
      | _ => none
    | _ => none
  | _ => none
theorem nextE_ok {y : LV} {KS : LV → St → Prop} (h : nextE st y = some (x, st')) (hK : KS x st') : nextW st y KS := by
  unfold nextE at h; simp only [lookR_eq] at h; unfold nextW
  split at h
  rotate_left
  · cases h
  split at h
  rotate_left
  · cases h
  rename_i m c rest hl
  simp only [hl]
  split at h
  · cases h
    exact And.intro (fun _ => hK) fun i p hp => by simp at hp
  · cases h
    refine And.intro (fun h => by simp at h) fun i p hp => ?_
    cases i with
    | zero => simp at hp; subst hp; exact hK
    | succ i => simp at hp
  · cases h
noncomputable def entryE (st : St) (x : LV) : Option LV :=
  match x with
  | .ptr (.cur s) 0 => match lookR st.cur s with
    | some (.mit _ (c :: _)) => okIf (keyB c.1) (some (.tup [.t (.v c.1), .t c.2]))
    | _ => none
  | _ => none
theorem entryE_ok {y : LV} {KS : LV → Prop} (h : entryE st y = some x) (hK : KS x) : entryW st y KS := by
  unfold entryE at h; simp only [lookR_eq] at h; unfold entryW
  split at h
  rotate_left
  · cases h
  split at h
  rotate_left
  · cases h
  rename_i hl
  obtain ⟨hf, h⟩ := okIf_some h
  cases h
  simp only [hl, hf]; exact hK

/-- Pure operations: what 'pev' tells, with nothing left to be shown. -/
def PevOK (P : Program) (o : Oper) (env : Env) (st : St) (x : LV) : Prop := ∀ (E : Ent) (N : Nat) (β : K → Nat) (RO : Nat → Prop) (a : Act) (w : World) (Q : Act → World → Prop), SR E N β RO env st a w →
  (∀ v, VL β RO w x v → Q (a.put o.dst v) w) → o.wp P a w Q fun _ _ _ => False
theorem pevOK (hC : C.OK P) {o : Oper} (h : pev C env st o.op = some x) : PevOK P o env st x := by
  intro E N β RO a w Q hs hQ
  obtain ⟨v, h1, h2⟩ := pev_sound hC hs h
  unfold Oper.wp
  rw [h1]
  exact hQ v h2

/-! ### Pure operations, so that they run fast -/
def kidx : IntKind → Nat
  | .i8 => 0 | .i16 => 1 | .i32 => 2 | .i64 => 3 | .u8 => 4 | .u16 => 5 | .u32 => 6 | .u64 => 7
def kEq (k k' : IntKind) : Bool := Nat.beq (kidx k) (kidx k')
theorem kEq_eq {k k' : IntKind} (h : kEq k k' = true) : k = k' := by cases k <;> cases k' <;> first | rfl | cases h
def leI : Int → Int → Bool
  | .ofNat m, .ofNat n => Nat.ble m n
  | .negSucc m, .negSucc n => Nat.ble n m
  | .negSucc _, .ofNat _ => true
  | .ofNat _, .negSucc _ => false
def eqI : Int → Int → Bool
  | .ofNat m, .ofNat n => Nat.beq m n
  | .negSucc m, .negSucc n => Nat.beq m n
  | _, _ => false
theorem leI_eq (a b : Int) : leI a b = decide (a ≤ b) := by
  cases a <;> cases b <;> simp only [leI]
  · rename_i m n
    rw [Bool.eq_iff_iff, Nat.ble_eq, decide_eq_true_eq]
    exact Int.ofNat_le.symm
  · rename_i m n
    symm; rw [decide_eq_false_iff_not]
    intro h; have : (0 : Int) ≤ Int.negSucc n := Int.le_trans (Int.natCast_nonneg m) h
    exact absurd this (by simp [Int.negSucc_not_nonneg])
  · rename_i m n
    symm; rw [decide_eq_true_eq]
    exact Int.le_trans (Int.le_of_lt (Int.negSucc_lt_zero m)) (Int.natCast_nonneg n)
  · rename_i m n
    rw [Bool.eq_iff_iff, Nat.ble_eq, decide_eq_true_eq]
    simp only [Int.negSucc_eq]
    omega
theorem eqI_eq (a b : Int) : eqI a b = (a == b) := by
  rw [Bool.eq_iff_iff, beq_iff_eq]
  cases a <;> cases b <;> simp only [eqI, Nat.beq_eq, Int.ofNat.injEq, Int.negSucc.injEq, reduceCtorEq, Bool.false_eq_true]
def fitE (k : IntKind) (n : Int) : Option LV := okIf (leI (lo k) n && leI n (hi k)) (some (.t (.v (.int k n))))
theorem fitE_ok {wr : Bool} {k : IntKind} {n : Int} {y : LV} (h : fitE k n = some y) : ∃ r, inRw wr k n = some r ∧ y = .t (.v r) := by
  obtain ⟨hf, h⟩ := okIf_some h
  simp only [leI_eq, Bool.and_eq_true, decide_eq_true_eq] at hf
  cases h
  cases wr with
  | true => exact ⟨_, rfl, by rw [wrap_in hf.1 hf.2]⟩
  | false => exact ⟨_, if_pos hf, rfl⟩
def fastB (op : BinOp) (x y : LV) : Option LV := match x, y with
  | .t (.v (.int k a)), .t (.v (.int k' b)) => okIf (kEq k k') (match op with
    | .add => fitE k (a + b)
    | .sub => fitE k (a - b)
    | .eql => some (.t (.v (.bool (eqI a b))))
    | .neq => some (.t (.v (.bool (!eqI a b))))
    | .lss => some (.t (.v (.bool (!leI b a))))
    | .leq => some (.t (.v (.bool (leI a b))))
    | .gtr => some (.t (.v (.bool (!leI a b))))
    | .geq => some (.t (.v (.bool (leI b a))))
    | _ => none)
  | _, _ => none
theorem fastB_ok {op : BinOp} {t : Nat} {x y z : LV} (h : fastB op x y = some z) : binL C op t x y = some z := by
  unfold fastB at h
  split at h
  rotate_left
  · cases h
  rename_i k a k' b
  obtain ⟨hk, h2⟩ := okIf_some h
  clear h
  have := kEq_eq hk
  subst this
  have lt : ∀ a b : Int, (!leI b a) = decide (a < b) := fun a b => by rw [leI_eq, ← decide_not, decide_eq_decide]; omega
  simp only [binL, binV, if_true]
  split at h2
  · obtain ⟨r, h1, rfl⟩ := fitE_ok (wr := C.wrap) h2; simp only [h1]
  · obtain ⟨r, h1, rfl⟩ := fitE_ok (wr := C.wrap) h2; simp only [h1]
  · cases h2; rw [eqI_eq]
  · cases h2; rw [eqI_eq]; rfl
  · cases h2; rw [lt]
  · cases h2; rw [leI_eq]
  · cases h2; rw [lt]
  · cases h2; rw [leI_eq]
  · cases h2
noncomputable def smallE (env : Env) : List Operand → Env
  | [] => []
  | o :: r => match o with
    | .tmp t => match lookR env t with
      | some x => (t, x) :: smallE env r
      | none => smallE env r
    | _ => smallE env r
theorem smallE_look {env : Env} {t : Nat} : ∀ {os : List Operand}, .tmp t ∈ os → look (smallE env os) t = look env t
  | [], h => by cases h
  | o :: r, h => by
    have key : ∀ t', .tmp t' = o → look (smallE env (o :: r)) t = if t' = t then look env t else look (smallE env r) t := by
      rintro t' rfl
      simp only [smallE, lookR_eq]
      cases hl : look env t' with
      | some x =>
        simp only [look_cons]
        split
        · rename_i he; subst he; exact hl.symm
        · rfl
      | none =>
        simp only
        split
        · rename_i he
          subst he
          rw [hl]
          have : ∀ {os : List Operand}, look (smallE env os) t' = none := by
            intro os
            induction os with
            | nil => rfl
            | cons p s ih =>
              cases p with
              | tmp u =>
                simp only [smallE, lookR_eq]
                cases hu : look env u with
                | some x =>
                  simp only [look_cons]
                  rw [if_neg]
                  · exact ih
                  · rintro rfl; rw [hl] at hu; cases hu
                | none => exact ih
              | _ => exact ih
          exact this
        · rfl
    by_cases ho : o = .tmp t
    · rw [key t ho.symm, if_pos rfl]
    · have hr : .tmp t ∈ r := (List.mem_cons.1 h).resolve_left fun he => ho he.symm
      cases o with
      | tmp t' =>
        rw [key t' rfl, if_neg (fun he => ho (by rw [he]))]
        exact smallE_look hr
      | _ => exact smallE_look (os := r) hr
def rootN : K → Option Nat
  | .cur s => some s
  | .fr _ _ => none
  | .sub k _ => rootN k
def nameN : LV → Option Nat
  | .ptr k _ => rootN k
  | .pel k _ _ _ => rootN k
  | .osl k _ _ _ => rootN k
  | .mpr k => rootN k
  | _ => none
noncomputable def smallF (cur : Fr) : Env → Fr
  | [] => []
  | p :: r => match nameN p.2 with
    | some s => match lookR cur s with
      | some o => (s, o) :: smallF cur r
      | none => smallF cur r
    | none => smallF cur r
theorem smallF_look {cur : Fr} {n : Nat} {o : Ob} : ∀ {e : Env}, look (smallF cur e) n = some o → look cur n = some o
  | [], h => by simp [smallF, look] at h
  | p :: r, h => by
    simp only [smallF, lookR_eq] at h
    split at h
    · split at h
      · rename_i hl
        rw [look_cons] at h
        split at h
        · rename_i he; subst he; cases h; exact hl
        · exact smallF_look h
      · exact smallF_look h
    · exact smallF_look h
noncomputable def pevS (C : Ctx) (out : List Fr) (cur : Fr) (op : Op) (e : Env) : Option LV := pev C e ⟨out, smallF cur e⟩ op
noncomputable def pevR (C : Ctx) (env : Env) (st : St) (op : Op) : Option LV := match op with
  | .move x => some (opdR env x)
  | .assign x => some (opdR env x)
  | .binOp bop t x y p => match fastB bop (opdR env x) (opdR env y) with
    | some r => some r
    | none => pevS C st.out st.cur (.binOp bop t x y p) (smallE env [x, y])
  | op => pevS C st.out st.cur op (smallE env op.operands.toList)
theorem pevS_ok {op : Op} {z : LV} {os : List Operand} (ho : op.operands.toList = os) (h : pevS C st.out st.cur op (smallE env os) = some z) : pev C env st op = some z := by
  subst ho
  unfold pevS at h
  rw [← pev_congr (env := env) (env' := smallE env op.operands.toList) fun x hx => opd_congr fun t ht => smallE_look (by subst ht; simpa using hx)]
  refine pev_mono (fun k o hk => ?_) h
  exact get_less (cur := smallF st.cur (smallE env op.operands.toList)) (fun n x hx => smallF_look hx) k o hk
theorem pevR_ok {op : Op} {z : LV} (h : pevR C env st op = some z) : pev C env st op = some z := by
  unfold pevR at h
  split at h
  · simp only [opdR_eq] at h; exact h
  · simp only [opdR_eq] at h; exact h
  · split at h
    · rename_i hf; cases h
      simp only [opdR_eq] at hf
      exact fastB_ok hf
    · exact pevS_ok rfl h
  · exact pevS_ok rfl h

/-! ### What is known of an operation ahead -/
noncomputable def loadR (C : Ctx) (st : St) (t : Nat) (x : LV) : Option LV := match C.ty t with
  | none => none
  | some ti => match x with
    | .pel k sz i j => match getR st k with
      | some (.row _ sz' es) => okIf (Nat.beq sz' sz) (match es[i]? with
        | some el => match ti.d.agg with
          | true => okIf (Nat.ble (j + ti.size) el.length) (some (.agg (((el.drop j).take ti.size).map .t)))
          | false => match el[j]? with
            | some x => some (.t x)
            | none => none
        | none => none)
      | o => loadPel ti k sz i j o
    | .ptr k c => match getR st k with
      | some (.box cs) => match ti.d.agg with
        | true => okIf (Nat.ble (c + ti.size) cs.length) (some (.agg ((cs.drop c).take ti.size)))
        | false => cs[c]?
      | _ => none
    | x => loadL C st t x
theorem loadR_ok {t : Nat} {x z : LV} (h : loadR C st t x = some z) : loadL C st t x = some z := by
  unfold loadR at h
  simp only [getR_eq] at h
  split at h
  · cases h
  rename_i ti hti
  split at h
  · simp only [loadL, hti]
    split at h
    · rename_i hg
      rw [hg]
      obtain ⟨hb, h⟩ := okIf_some h
      simp only [loadPel]
      rw [if_pos (Nat.eq_of_beq_eq_true hb)]
      split at h
      · rename_i el hel
        simp only [hel]
        split at h
        · rename_i ha
          obtain ⟨hf, h⟩ := okIf_some h
          simp only [ha]
          rw [if_pos (Nat.le_of_ble_eq_true hf)]; exact h
        · rename_i ha
          simp only [ha]; exact h
      · cases h
    · exact h
  · simp only [loadL, hti]
    split at h
    · rename_i hg
      rw [hg]
      simp only [loadPtr]
      split at h
      · rename_i ha
        obtain ⟨hf, h⟩ := okIf_some h
        simp only [ha]
        rw [if_pos (Nat.le_of_ble_eq_true hf)]; exact h
      · rename_i ha
        simp only [ha]; exact h
    · cases h
  · exact h
def idxR (C : Ctx) (t : Nat) (x i : LV) : Option LV := match C.ty t with
  | some ⟨.slice e, _, _, _⟩ => match C.ty e with
    | some ti => match i with
      | .t (.v (.int _ n)) => match x with
        | .t (.sl _ sz es) => okIf (Nat.beq sz ti.size && (Nat.blt 0 sz && leI 0 n)) (match es[n.toNat]? with
          | some el => some (.ipt el)
          | none => none)
        | .osl k sz off len => okIf (Nat.beq sz ti.size && (leI 0 n && !leI len n)) (some (.pel k sz (off + n.toNat) 0))
        | _ => none
      | _ => none
    | none => none
  | _ => none
theorem idxR_ok {t : Nat} {x i z : LV} (h : idxR C t x i = some z) : indexAddrL C t x i = some z := by
  unfold idxR at h
  split at h
  rotate_left
  · cases h
  rename_i e _ _ _ ht
  split at h
  rotate_left
  · cases h
  rename_i ti hti
  simp only [indexAddrL, ht, hti]
  split at h
  rotate_left
  · cases h
  split at h
  · obtain ⟨hf, h⟩ := okIf_some h
    simp only [Bool.and_eq_true, leI_eq, decide_eq_true_eq] at hf
    simp only
    rw [if_pos ⟨⟨Nat.eq_of_beq_eq_true hf.1, by simpa [Nat.blt_eq] using hf.2.1⟩, hf.2.2⟩]
    exact h
  · obtain ⟨hf, h⟩ := okIf_some h
    simp only [Bool.and_eq_true, leI_eq, decide_eq_true_eq, Bool.not_eq_true', decide_eq_false_iff_not] at hf
    simp only
    rw [if_pos ⟨Nat.eq_of_beq_eq_true hf.1, hf.2.1, by have := hf.2.2; omega⟩]
    exact h
  · cases h
inductive Dk where
  | mv (x : Operand)
  | bin (b : BinOp) (x y : Operand)
  | ld (t : Nat) (x : Operand)
  | ixa (t : Nat) (x i : Operand)
  | fa (s f : Nat) (x : Operand)
  | pur
  | oth
def dkOp : Op → Dk
  | .move x => .mv x
  | .assign x => .mv x
  | .binOp b _ x y _ => .bin b x y
  | .load t x => .ld t x
  | .indexAddr t x i => .ixa t x i
  | .fieldAddr s x f => .fa s f x
  | .extract _ _ => .pur
  | .field _ _ _ => .pur
  | .nilCheck _ => .pur
  | .pick _ _ _ => .pur
  | .unOp _ _ _ => .pur
  | .convert _ _ _ => .pur
  | .index _ _ _ => .pur
  | .build _ _ => .pur
  | .makeFunc _ _ _ => .pur
  | .slice _ _ _ _ _ => .pur
  | .lookup _ _ _ _ => .pur
  | _ => .oth
def Dk.isOth : Dk → Bool
  | .oth => true
  | _ => false
/-- Where an operation that only reads, and has no guard, puts what it finds. -/
def dkDst (o : Oper) : Option Nat := match o.guard with
  | some _ => none
  | none => match (dkOp o.op).isOth with
    | true => none
    | false => o.dst
noncomputable def exD (C : Ctx) (env : Env) (st : St) (op : Op) : Dk → Option LV
  | .mv x => some (opdR env x)
  | .bin b x y => match fastB b (opdR env x) (opdR env y) with
    | some z => some z
    | none => pevR C env st op
  | .ld t x => loadR C st t (opdR env x)
  | .ixa t x i => idxR C t (opdR env x) (opdR env i)
  | .fa s f x => fieldAddrL C s f (opdR env x)
  | _ => pevR C env st op
theorem exD_ok {op : Op} {z : LV} (h : exD C env st op (dkOp op) = some z) : pev C env st op = some z := by
  have other : pevR C env st op = some z → pev C env st op = some z := pevR_ok
  cases op <;> simp only [dkOp, exD, opdR_eq] at h <;> first
    | exact other h
    | exact h
    | exact loadR_ok h
    | exact idxR_ok h
    | (split at h
       · rename_i hf; cases h; exact fastB_ok hf
       · exact other h)
theorem dkDst_ok {o : Oper} {d : Nat} (h : dkDst o = some d) : o.guard = none ∧ o.dst = some d := by
  unfold dkDst at h
  split at h
  · cases h
  · rename_i hg
    split at h
    · cases h
    · exact ⟨hg, h⟩

/-- An operation that is no call of a function. -/
noncomputable def opE (C : Ctx) (s : Nat) (o : Op) (env : Env) (st : St) : Ev :=
  match o with
  | .alloc t => match C.ty t with
    | some ti => boxE env st s (some (ti.zero.map fun v => .t (ofV v)))
    | none => none
  | .box _ x => boxE env st s (cellsOf (opdR env x))
  | .makeSlice t l c => makeE C env st s t (opdR env l) (opdR env c)
  | .buildSlice t len parts => match lookR C.grd t with
    | none => litE C env st s t len parts.toList
    | some _ => litGE C env st s t len parts.toList
  | .store t x y => match storeE C env st t (opdR env x) (opdR env y) with
    | some (env, st) => some (.bad, env, st)
    | none => none
  | .call c => match c.callee with
    | .builtin .append => match c.args.toList, c.argTypes.toList with
      | [x, y], [t, t'] => okIf (Nat.beq t t') (match lookR C.grd t with
        | none => appTE C env st s t (opdR env x) (opdR env y)
        | some _ => appGE C env st s t (opdR env x) (opdR env y))
      | _, _ => none
    | .value _ => none
    | _ => match pevR C env st (.call c) with
      | some x => some (x, env, st)
      | none => none
  | .makeMap t n => match n with
    | none => mapMakeE C env st s t
    | some _ => none
  | .range t x => rangeE C env st s t (opdR env x)
  | .next x isStr => match isStr with
    | false => match nextE st (opdR env x) with
      | some (x, st) => some (x, env, st)
      | none => none
    | true => none
  | .entry x => match entryE st (opdR env x) with
    | some x => some (x, env, st)
    | none => none
  | .mapUpdate t m k x => match mapSetE C env st t (opdR env m) (opdR env k) (opdR env x) with
    | some (env, st) => some (.bad, env, st)
    | none => none
  | .insert t m k x => match mapSetE C env st t (opdR env m) (opdR env k) (opdR env x) with
    | some (env, st) => some (.bad, env, st)
    | none => none
  | op => match pevR C env st op with
    | some x => some (x, env, st)
    | none => none

theorem opE_ok (hC : C.OK P) {s : Nat} {o : Oper} (h : opE C s o.op env st = some (x, env', st')) {E : Ent} {N : Nat} {β : K → Nat} {RO : Nat → Prop} {a : Act} {w : World} {Q : Act → World → Prop} (hs : SR E N β RO env st a w)
    (hQ : ∀ v β' RO' w', SR E N β' RO' env' st' a w' → VL β' RO' w' x v → Q (a.put o.dst v) w') : o.wp P a w Q fun _ _ _ => False := by
  have go : opWs C P s o env st (fun y e t => y = x ∧ e = env' ∧ St.le st' t) → o.wp P a w Q fun _ _ _ => False := fun hW =>
    opWs_sound hC hs hW fun v y e t β' RO' w' ⟨h1, h2, h3⟩ hs' hv => by subst h1; subst h2; exact hQ v β' RO' w' (hs'.less h3 fun _ _ h => h) hv
  have pure : pev C env st o.op = some x → env' = env → st' = st → o.wp P a w Q fun _ _ _ => False := fun hp he ht => by
    subst he; subst ht
    exact pevOK hC hp E N β RO a w Q hs fun v hv => hQ v β RO w hs hv
  have R : (fun y (e : Env) (t : St) => y = x ∧ e = env' ∧ St.le st' t) x env' st' := ⟨rfl, rfl, fun _ _ h => h⟩
  unfold opE at h
  simp only [lookR_eq, opdR_eq] at h
  split at h
  · rename_i t hop
    split at h
    · rename_i ti hti
      refine go ?_
      unfold opWs; rw [hop]; simp only [hti]
      exact boxE_ok (K' := fun x env st => strS st (_)) h (strS_intro R)
    · cases h
  · rename_i t y hop
    refine go ?_
    unfold opWs; rw [hop]
    exact boxE_ok (K' := fun x env st => strS st (_)) h (strS_intro R)
  · rename_i t l c hop
    refine go ?_
    unfold opWs; rw [hop]
    exact makeE_ok (K' := fun x env st => strS st (_)) h (strS_intro R)
  · rename_i t len parts hop
    refine go ?_
    unfold opWs; rw [hop]
    simp only
    split at h
    · rename_i hg; rw [hg]; exact litE_ok (K' := fun x env st => strES env st (_)) h (strES_intro R)
    · rename_i hg; rw [hg]; exact litGE_ok (K' := fun x env st => strES env st (_)) h (strES_intro R)
  · rename_i t y z hop
    split at h
    · rename_i env1 st1 h1
      cases h
      refine go ?_
      unfold opWs; rw [hop]
      exact storeE_ok (KS := fun env st => strES env st (_)) h1 fun t ht => strES_intro ⟨rfl, rfl, ht⟩
    · cases h
  · rename_i c hop
    split at h
    · rename_i hcal
      split at h
      · rename_i y z t t' ha ht
        obtain ⟨hb, h⟩ := okIf_some h
        refine go ?_
        unfold opWs; rw [hop]
        simp only
        unfold callOpW; rw [hcal]
        simp only [ha, ht, hb]
        split at h
        · rename_i hg; rw [hg]; exact appTE_ok (K' := fun x env st => strES env st (_)) h (strES_intro R)
        · rename_i hg; rw [hg]; exact appGE_ok (K' := fun x env st => strES env st (_)) h (strES_intro R)
      · cases h
    · cases h
    · split at h
      · rename_i y hy; cases h; exact pure (by rw [hop]; exact pevR_ok hy) rfl rfl
      · cases h
  · rename_i t n hop
    split at h
    · refine go ?_
      unfold opWs; rw [hop]
      exact mapMakeE_ok (K' := fun x env st => strS st (_)) h (strS_intro R)
    · cases h
  · rename_i t y hop
    refine go ?_
    unfold opWs; rw [hop]
    exact rangeE_ok (K' := fun x env st => strES env st (_)) h (strES_intro R)
  · rename_i y b hop
    split at h
    · split at h
      · rename_i x1 st1 h1
        cases h
        refine go ?_
        unfold opWs; rw [hop]
        exact nextE_ok (KS := fun x st => strS st (_)) h1 (strS_intro R)
      · cases h
    · cases h
  · rename_i y hop
    split at h
    · rename_i x1 h1
      cases h
      refine go ?_
      unfold opWs; rw [hop]
      exact entryE_ok h1 R
    · cases h
  · rename_i t m k y hop
    split at h
    · rename_i env1 st1 h1
      cases h
      refine go ?_
      unfold opWs; rw [hop]
      exact mapSetE_ok (KS := fun env st => strS st (_)) h1 (strS_intro R)
    · cases h
  · rename_i t m k y hop
    split at h
    · rename_i env1 st1 h1
      cases h
      refine go ?_
      unfold opWs; rw [hop]
      exact mapSetE_ok (KS := fun env st => strS st (_)) h1 (strS_intro R)
    · cases h
  · split at h
    · rename_i y hy; cases h; exact pure (pevR_ok hy) rfl rfl
    · cases h
end
end Go.Fw

/- The value logic, part V2f: the same, laid out so that the kernel runs it faster (small pieces; what changes comes last). -/
namespace Go.Fw
open Go

/-! ### Operands -/
inductive OpK where
  | slot (t : Nat)
  | val (x : LV)
def opK (o : Operand) : OpK := match o with
  | .tmp t => match Nat.blt t 1000000 with
    | true => .slot t
    | false => .val .bad
  | .const v => match v.oneCell' with
    | true => .val (.t (ofV v))
    | false => .val .bad
  | .func f => .val (.fn f [])
  | .global _ => .val .bad
noncomputable def orBad (r : Option LV) : LV := Option.rec LV.bad (fun x => x) r
noncomputable def slotF (t : Nat) (env : Env) : LV := orBad (lookR env t)
def valF (x : LV) (_env : Env) : LV := x
noncomputable def opkF (k : OpK) : Env → LV := OpK.rec (fun t => slotF t) (fun x => valF x) k
noncomputable def opdF (env : Env) (o : Operand) : LV := opkF (opK o) env
theorem opdF_eq (env : Env) (o : Operand) : opdF env o = opdR env o := by
  cases o with
  | tmp t =>
    simp only [opdF, opK, opdR]
    cases Nat.blt t 1000000 with
    | true =>
      show orBad (lookR env t) = _
      cases lookR env t <;> rfl
    | false => rfl
  | const v => simp only [opdF, opK, opdR, opd]; cases v.oneCell' <;> rfl
  | func f => rfl
  | global g => rfl

/-! ### Whole numbers -/
def asInt (x : LV) : Option (IntKind × Int) := match x with
  | .t (.v (.int k a)) => some (k, a)
  | _ => none
def fnB (b : BinOp) : Option (IntKind → Int → Int → Option LV) := match b with
  | .add => some fun k a b => fitE k (a + b)
  | .sub => some fun k a b => fitE k (a - b)
  | .eql => some fun _ a b => some (.t (.v (.bool (eqI a b))))
  | .neq => some fun _ a b => some (.t (.v (.bool (!eqI a b))))
  | .lss => some fun _ a b => some (.t (.v (.bool (!leI b a))))
  | .leq => some fun _ a b => some (.t (.v (.bool (leI a b))))
  | .gtr => some fun _ a b => some (.t (.v (.bool (!leI a b))))
  | .geq => some fun _ a b => some (.t (.v (.bool (leI b a))))
  | _ => none
noncomputable def bin3 (f : IntKind → Int → Int → Option LV) (p q : IntKind × Int) : Option LV := okIf (kEq p.1 q.1) (f p.1 p.2 q.2)
noncomputable def bin2 (f : IntKind → Int → Int → Option LV) (x y : Option (IntKind × Int)) : Option LV := Option.rec none (fun p => Option.rec none (fun q => bin3 f p q) y) x
noncomputable def fastF (b : BinOp) (x y : LV) : Option LV := Option.rec none (fun f => bin2 f (asInt x) (asInt y)) (fnB b)
theorem fastF_ok {b : BinOp} {x y z : LV} (h : fastF b x y = some z) : fastB b x y = some z := by
  unfold fastF at h
  cases hb : fnB b with
  | none => rw [hb] at h; cases h
  | some f =>
    rw [hb] at h
    simp only at h
    cases hx : asInt x with
    | none => rw [hx] at h; cases h
    | some p =>
      cases hy : asInt y with
      | none => rw [hx, hy] at h; cases h
      | some q =>
        rw [hx, hy] at h
        have inv : ∀ {x : LV} {p : IntKind × Int}, asInt x = some p → x = .t (.v (.int p.1 p.2)) := by
          intro x p h
          unfold asInt at h
          split at h
          · cases h; rfl
          · cases h
        rw [inv hx, inv hy]
        simp only [bin2, bin3] at h
        obtain ⟨h1, h2⟩ := okIf_some h
        simp only [fastB, h1, okIf]
        cases b <;> simp only [fnB, reduceCtorEq, Option.some.injEq] at hb <;> subst hb <;> exact h2

/-! ### Loads -/
inductive PK where
  | pel (k : K) (sz i j : Nat)
  | ptr (k : K) (c : Nat)
  | oth
def asPtr (x : LV) : PK := match x with
  | .pel k sz i j => .pel k sz i j
  | .ptr k c => .ptr k c
  | _ => .oth
def asRow (o : Option Ob) : Option (Nat × List (List T)) := match o with
  | some (.row _ sz es) => some (sz, es)
  | _ => none
def asBox (o : Option Ob) : Option (List LV) := match o with
  | some (.box cs) => some cs
  | _ => none
def plainD (ti : TI) : Bool := !ti.d.agg
noncomputable def getEl (es : List (List T)) (i : Nat) : Option (List T) := List.rec (motive := fun _ => Nat → Option (List T)) (fun _ => none) (fun x _ ih n => Nat.rec (some x) (fun m _ => ih m) n) es i
noncomputable def getX {α : Type} (es : List α) (i : Nat) : Option α := List.rec (motive := fun _ => Nat → Option α) (fun _ => none) (fun x _ ih n => Nat.rec (some x) (fun m _ => ih m) n) es i
theorem getX_eq {α : Type} : ∀ (es : List α) (i : Nat), getX es i = es[i]?
  | [], i => by simp [getX]
  | x :: r, 0 => rfl
  | x :: r, i + 1 => by
    have := getX_eq r i
    rw [List.getElem?_cons_succ, ← this]; rfl
noncomputable def ldT (x : Option T) : Option LV := Option.rec none (fun x => some (.t x)) x
noncomputable def ldEl (j : Nat) (x : Option (List T)) : Option LV := Option.rec none (fun el => ldT (getX el j)) x
noncomputable def ldRow (sz i j : Nat) (p : Nat × List (List T)) : Option LV := okIf (Nat.beq p.1 sz) (ldEl j (getX p.2 i))
noncomputable def loadF (C : Ctx) (t : Nat) (x : LV) (st : St) : Option LV := Option.rec none (fun ti => Bool.rec (loadR C st t x) (PK.rec (motive := fun _ => St → Option LV)
    (fun k sz i j st => Option.rec (loadR C st t x) (fun p => ldRow sz i j p) (asRow (getR st k)))
    (fun k c st => Option.rec none (fun cs => getX cs c) (asBox (getR st k)))
    (fun st => loadR C st t x) (asPtr x) st) (plainD ti)) (C.ty t)
theorem loadF_eq {C : Ctx} {t : Nat} {x : LV} {st : St} : loadF C t x st = loadR C st t x := by
  unfold loadF
  cases hti : C.ty t with
  | none => simp only [loadR, hti]
  | some ti =>
    simp only
    cases hp : plainD ti with
    | false => rfl
    | true =>
      have ha : ti.d.agg = false := by simpa [plainD] using hp
      simp only
      cases x <;> simp only [asPtr]
      · rename_i k c
        simp only [loadR, hti]
        cases hg : getR st k with
        | none => rfl
        | some o => cases o <;> simp only [asBox, ha, getX_eq]
      · rename_i k sz i j
        cases hg : getR st k with
        | none => rfl
        | some o =>
          cases o <;> simp only [asRow]
          simp only [loadR, hti, hg, ldRow, ha, getX_eq]
          rename_i es
          cases hes : es[i]? with
          | none => rfl
          | some el =>
            simp only [ldEl, getX_eq]
            cases hel : el[j]? <;> rfl

/-! ### What only reads -/
noncomputable def exMv (x : Operand) (env : Env) (_st : St) : Option LV := some (opdF env x)
noncomputable def binOr (C : Ctx) (op : Op) (r : Option LV) (env : Env) (st : St) : Option LV := Option.rec (motive := fun _ => Env → St → Option LV) (fun env st => pevR C env st op) (fun z _ _ => some z) r env st
noncomputable def exBin (C : Ctx) (op : Op) (b : BinOp) (x y : Operand) (env : Env) (st : St) : Option LV := binOr C op (fastF b (opdF env x) (opdF env y)) env st
noncomputable def exLd (C : Ctx) (t : Nat) (x : Operand) (env : Env) (st : St) : Option LV := loadF C t (opdF env x) st
noncomputable def exIx (C : Ctx) (t : Nat) (x i : Operand) (env : Env) (_st : St) : Option LV := idxR C t (opdF env x) (opdF env i)
noncomputable def exFa (C : Ctx) (s f : Nat) (x : Operand) (env : Env) (_st : St) : Option LV := fieldAddrL C s f (opdF env x)
noncomputable def exDF (C : Ctx) (op : Op) (dk : Dk) : Env → St → Option LV := Dk.rec (motive := fun _ => Env → St → Option LV) (fun x => exMv x) (fun b x y => exBin C op b x y) (fun t x => exLd C t x) (fun t x i => exIx C t x i) (fun s f x => exFa C s f x) (fun env st => pevR C env st op) (fun env st => pevR C env st op) dk
theorem exDF_ok {C : Ctx} {op : Op} {dk : Dk} {env : Env} {st : St} {z : LV} (hd : dk = dkOp op) (h : exDF C op dk env st = some z) : pev C env st op = some z := by
  subst hd
  have key : exDF C op (dkOp op) env st = some z → exD C env st op (dkOp op) = some z ∨ pevR C env st op = some z := by
    intro h
    cases hk : dkOp op with
    | mv x => rw [hk] at h; left; have h' : some (opdF env x) = some z := h; rw [opdF_eq] at h'; exact h'
    | bin b x y =>
      rw [hk] at h
      have h' : binOr C op (fastF b (opdF env x) (opdF env y)) env st = some z := h
      unfold binOr at h'
      cases hf : fastF b (opdF env x) (opdF env y) with
      | some r =>
        rw [hf] at h'
        left
        simp only [opdF_eq] at hf
        simp only [exD, fastF_ok hf]; exact h'
      | none => rw [hf] at h'; exact .inr h'
    | ld t x => rw [hk] at h; left; have h' : loadF C t (opdF env x) st = some z := h; rw [loadF_eq, opdF_eq] at h'; exact h'
    | ixa t x i => rw [hk] at h; left; have h' : idxR C t (opdF env x) (opdF env i) = some z := h; rw [opdF_eq, opdF_eq] at h'; exact h'
    | fa s f x => rw [hk] at h; left; have h' : fieldAddrL C s f (opdF env x) = some z := h; rw [opdF_eq] at h'; exact h'
    | pur => rw [hk] at h; exact .inr h
    | oth => rw [hk] at h; exact .inr h
  rcases key h with h | h
  · exact exD_ok h
  · exact pevR_ok h
end Go.Fw

/- Texts that lead to the law, part 11. -/
import Derived.Test.YtkelfldopopgcaaGreatZJ
import Derived.Test.YtkelfldopopgcaaGreatZI

/- A projection of a valid task is a valid task, and loses no plan: the plain law. -/
namespace Go.Fw
open Go Go.Proofs
set_option maxRecDepth 10000

/-! ### Facts, conditions -/
theorem facts_has {p s : List Int} (hp : p.Pairwise (· < ·)) {y : Nat} (hy : y < p.length) : hasB (factsL p s) (y : Int) = hasB s p[y] := by
  rw [Bool.eq_iff_iff, hasB_mem, factsL, List.mem_map, hasB_mem]
  constructor
  · rintro ⟨x, hx, he⟩
    obtain ⟨h1, h2⟩ := List.mem_filter.1 hx
    have h3 := posI_get h2
    rw [he, Int.toNat_natCast, List.getElem?_eq_getElem hy] at h3
    cases h3
    exact h1
  · intro h
    have hin : hasB p p[y] = true := hasB_mem.2 (List.getElem_mem hy)
    refine ⟨p[y], List.mem_filter.2 ⟨h, hin⟩, ?_⟩
    have h4 := posI_in hin
    obtain ⟨h5, h6⟩ := List.getElem?_eq_some_iff.1 (posI_get hin)
    have := inc_inj hp h5 hy h6
    omega
theorem facts_has' {p s : List Int} (hp : p.Pairwise (· < ·)) {x : Int} (hx : hasB p x = true) : hasB (factsL p s) (posI p x) = hasB s x := by
  have h4 := posI_in hx
  obtain ⟨h5, h6⟩ := List.getElem?_eq_some_iff.1 (posI_get hx)
  have := facts_has (s := s) hp h5
  rw [h6, Int.toNat_of_nonneg h4.1] at this
  exact this
theorem holds_proj {p s : List Int} (hp : p.Pairwise (· < ·)) {l : List Lit} (h : holdsB s l = true) : holdsB (factsL p s) (litsL p l) = true := by
  refine List.all_eq_true.2 fun x hx => ?_
  obtain ⟨y, hy, rfl⟩ := List.mem_map.1 hx
  obtain ⟨h1, h2⟩ := List.mem_filter.1 hy
  show (hasB (factsL p s) (posI p y.fact) != y.neg) = true
  rw [facts_has' hp h2]
  exact List.all_eq_true.1 h y h1
theorem holds_proj_iff {p s : List Int} (hp : p.Pairwise (· < ·)) {l : List Lit} (hl : ∀ x ∈ l, hasB p x.fact = true) : holdsB (factsL p s) (litsL p l) = holdsB s l := by
  rw [Bool.eq_iff_iff]
  refine ⟨fun h => List.all_eq_true.2 fun x hx => ?_, holds_proj hp⟩
  have := List.all_eq_true.1 h ⟨posI p x.fact, x.neg⟩ (List.mem_map.2 ⟨x, List.mem_filter.2 ⟨hx, hl x hx⟩, rfl⟩)
  have e : hasB (factsL p s) (posI p x.fact) = hasB s x.fact := facts_has' hp (hl x hx)
  simp only [e] at this
  exact this

/-! ### Effects -/
theorem any_proj {p s : List Int} {l : List Eff} (hp : p.Pairwise (· < ·)) (hc : ∀ e ∈ l, clE p e = true) (v : Bool) {y : Nat} (hy : y < p.length) :
    (projEs p l).any (fun e => ((v == e.lit.neg) && holdsB (factsL p s) e.when_) && e.lit.fact == (y : Int)) = l.any fun e => ((v == e.lit.neg) && holdsB s e.when_) && e.lit.fact == p[y] := by
  rw [Bool.eq_iff_iff, List.any_eq_true, List.any_eq_true]
  constructor
  · rintro ⟨e, he, h⟩
    obtain ⟨e0, h0, rfl⟩ := List.mem_map.1 he
    obtain ⟨h1, h2⟩ := List.mem_filter.1 h0
    simp only [Bool.and_eq_true, beq_iff_eq] at h ⊢
    obtain ⟨⟨h3, h4⟩, h5⟩ := h
    have h4 : holdsB (factsL p s) (litsL p e0.when_) = true := h4
    rw [holds_proj_iff hp (clE_iff.1 (hc _ h1) h2)] at h4
    have h5 : posI p e0.lit.fact = (y : Int) := h5
    refine ⟨e0, h1, ⟨h3, h4⟩, ?_⟩
    have h6 := posI_get h2
    rw [h5, Int.toNat_natCast, List.getElem?_eq_getElem hy] at h6
    exact (Option.some.inj h6).symm
  · rintro ⟨e0, h1, h⟩
    simp only [Bool.and_eq_true, beq_iff_eq] at h ⊢
    obtain ⟨⟨h3, h4⟩, h5⟩ := h
    have h2 : hasB p e0.lit.fact = true := by rw [h5]; exact hasB_mem.2 (List.getElem_mem hy)
    refine ⟨projE p e0, List.mem_map.2 ⟨e0, List.mem_filter.2 ⟨h1, h2⟩, rfl⟩, ⟨h3, ?_⟩, ?_⟩
    · show holdsB (factsL p s) (litsL p e0.when_) = true
      rw [holds_proj_iff hp (clE_iff.1 (hc _ h1) h2)]; exact h4
    · show posI p e0.lit.fact = (y : Int)
      have h4 := posI_in h2
      obtain ⟨h6, h7⟩ := List.getElem?_eq_some_iff.1 (posI_get h2)
      have := inc_inj hp h6 hy (h7.trans h5)
      omega
theorem pos_any (s : List Int) (l : List Eff) (x : Int) : posB s l x = l.any fun e => ((false == e.lit.neg) && holdsB s e.when_) && e.lit.fact == x := by
  unfold posB; congr 1; funext e; cases e.lit.neg <;> rfl
theorem neg_any (s : List Int) (l : List Eff) (x : Int) : negB s l x = l.any fun e => ((true == e.lit.neg) && holdsB s e.when_) && e.lit.fact == x := by
  unfold negB; congr 1; funext e; cases e.lit.neg <;> rfl
theorem projEs_in (p : List Int) (l : List Eff) : factsIn p.length (projEs p l) := fun e he => by
  obtain ⟨e0, h0, rfl⟩ := List.mem_map.1 he
  exact posI_in (List.mem_filter.1 h0).2
/-- Projecting the state after an action. -/
theorem after_proj {n : Nat} {p s : List Int} {l : List Eff} (hp : risingB p n = true) (hs : risingB s n = true) (hl : factsIn n l) (hc : ∀ e ∈ l, clE p e = true) : afterL p.length (factsL p s) (projEs p l) = factsL p (afterL n s l) := by
  have hpi := rising_inc hp
  have hfs := facts_rising hpi hs
  have hfa := facts_rising hpi (after_rising n s l)
  have hr := after_rising p.length (factsL p s) (projEs p l)
  refine inc_ext (rising_inc hr) (rising_inc hfa) fun x => ?_
  have key : ∀ y : Nat, y < p.length → hasB (afterL p.length (factsL p s) (projEs p l)) (y : Int) = hasB (factsL p (afterL n s l)) (y : Int) := fun y hy => by
    have hyn := rising_in hp _ (List.getElem_mem hy)
    obtain ⟨f, hf⟩ : ∃ f : Nat, p[y] = (f : Int) := ⟨p[y].toNat, by omega⟩
    rw [after_get (projEs_in p l) (rising_in hfs) hy, facts_has hpi hy, facts_has hpi hy, pos_any, neg_any, any_proj hpi hc _ hy, any_proj hpi hc _ hy, ← pos_any, ← neg_any, hf, after_get hl (rising_in hs) (by omega)]
  constructor
  · intro hx
    have h := rising_in hr x hx
    have := key x.toNat (by omega)
    rw [Int.toNat_of_nonneg h.1] at this
    exact hasB_mem.1 (this ▸ hasB_mem.2 hx)
  · intro hx
    have h := rising_in hfa x hx
    have := key x.toNat (by omega)
    rw [Int.toNat_of_nonneg h.1] at this
    exact hasB_mem.1 (this.symm ▸ hasB_mem.2 hx)

/-! ### The projected task is valid -/
theorem cond_proj {p : List Int} {l : List Lit} {n : Nat} (hp : p.Pairwise (· < ·)) (h : condB l n = true) : condB (litsL p l) p.length = true := by
  have e : (litsL p l).map (·.fact) = factsL p (l.map (·.fact)) := by
    rw [litsL, factsL, List.map_map, List.filter_map, List.map_map]; rfl
  rw [condB, e]; exact facts_rising hp h
theorem names_iff {l : List ByteArray} : namesB l = true ↔ ∀ i, i < l.length → chkS l i = true := by
  rw [namesB, List.all_eq_true]
  exact ⟨fun h i hi => h i (List.mem_range.2 hi), fun h i hi => h i (List.mem_range.1 hi)⟩
theorem factS_get {t : Task} {x : Int} (h0 : 0 ≤ x) (h1 : x < (t.facts.length : Int)) : factS t x = atS t.facts x.toNat := by
  have hl : x.toNat < t.facts.length := by omega
  rw [factS, atS, List.getD_eq_getElem?_getD]
theorem names_proj {t : Task} {p : List Int} (hp : risingB p t.facts.length = true) (h : namesB t.facts = true) : namesB (p.map (factS t)) = true := by
  have hpi := rising_inc hp
  refine names_iff.2 fun i hi => ?_
  rw [List.length_map] at hi
  have hr := rising_in hp _ (List.getElem_mem hi)
  have h1 := names_iff.1 h p[i].toNat (by omega)
  have e : atS (p.map (factS t)) i = atS t.facts p[i].toNat := by
    rw [atS, List.getElem?_map, List.getElem?_eq_getElem hi, ← factS_get hr.1 hr.2]; rfl
  rw [chkS, Bool.and_eq_true, Bool.not_eq_true', List.any_eq_false] at h1 ⊢
  rw [e]
  refine ⟨h1.1, fun x hx => ?_⟩
  obtain ⟨j, hj, rfl⟩ := List.getElem_of_mem hx
  rw [List.length_take, List.length_map] at hj
  have hj2 : j < p.length := by omega
  have hrj := rising_in hp _ (List.getElem_mem hj2)
  have hlt := List.pairwise_iff_getElem.1 hpi j i hj2 hi (by omega)
  rw [List.getElem_take, List.getElem_map]
  refine h1.2 _ (List.mem_iff_getElem?.2 ⟨p[j].toNat, ?_⟩)
  rw [List.getElem?_take, if_pos (by omega), factS_get hrj.1 hrj.2, atS, List.getElem?_eq_getElem (by omega)]; rfl
theorem isB_parts {t : Task} : isB t = true ↔ t.facts.length ≤ 200 ∧ namesB t.facts = true ∧ risingB t.init t.facts.length = true ∧ condB t.goal t.facts.length = true ∧ t.acts.length ≤ 1000 ∧ (∀ a ∈ t.acts, actB t.facts.length a = true) ∧ namesB (t.acts.map (·.name)) = true := by
  simp only [isB, Bool.and_eq_true, decide_eq_true_eq, List.all_eq_true]
  exact ⟨fun ⟨⟨⟨⟨⟨⟨a, b⟩, c⟩, d⟩, e⟩, f⟩, g⟩ => ⟨a, b, c, d, e, f, g⟩, fun ⟨a, b, c, d, e, f, g⟩ => ⟨⟨⟨⟨⟨⟨a, b⟩, c⟩, d⟩, e⟩, f⟩, g⟩⟩
theorem projT_is {t : Task} {p : List Int} (h : isB t = true) (hp : risingB p t.facts.length = true) : isB (projT t p) = true := by
  obtain ⟨h1, h2, h3, h4, h5, h6, h7⟩ := isB_parts.1 h
  have hpi := rising_inc hp
  have hpl := rising_le hp
  have hl : (projT t p).facts.length = p.length := List.length_map ..
  refine isB_parts.2 ⟨by rw [hl]; omega, names_proj hp h2, by rw [hl]; exact facts_rising hpi h3, by rw [hl]; exact cond_proj hpi h4, by show (t.acts.map _).length ≤ _; rw [List.length_map]; exact h5, fun a ha => ?_, ?_⟩
  · obtain ⟨a0, h0, rfl⟩ := List.mem_map.1 ha
    have := h6 a0 h0
    rw [hl]
    simp only [actB, Bool.and_eq_true, decide_eq_true_eq, List.all_eq_true] at this ⊢
    obtain ⟨⟨⟨⟨g1, g2⟩, g3⟩, g4⟩, g5⟩ := this
    refine ⟨⟨⟨⟨g1, g2⟩, cond_proj hpi g3⟩, Nat.le_trans (projEs_len p a0.effs) g4⟩, fun e he => ?_⟩
    obtain ⟨e0, he0, rfl⟩ := List.mem_map.1 he
    obtain ⟨q1, q2⟩ := List.mem_filter.1 he0
    have := g5 e0 q1
    simp only [effB, Bool.and_eq_true, decide_eq_true_eq] at this ⊢
    exact ⟨⟨cond_proj hpi this.1.1, (posI_in q2).1⟩, (posI_in q2).2⟩
  · have e : (projT t p).acts.map (·.name) = t.acts.map (·.name) := by
      show (t.acts.map (projA p)).map _ = _
      rw [List.map_map]; rfl
    rw [e]; exact h7

/-! ### Plans -/
theorem plan_proj {t : Task} {p l : List Int} : planB (projT t p) l = planB t l := by
  have e : (projT t p).acts.length = t.acts.length := List.length_map ..
  simp only [planB, e]
theorem pAct_proj {t : Task} {p l : List Int} (hl : planB t l = true) {i : Nat} (hi : i < l.length) : pAct (projT t p) l i = projA p (pAct t l i) := by
  obtain ⟨k, _, hk, h1, h2, _⟩ := plan_get hl hi
  have e : (projT t p).acts[(l.getD i 0).toNat]? = (t.acts[(l.getD i 0).toNat]?).map (projA p) := by
    show (t.acts.map (projA p))[(l.getD i 0).toNat]? = _
    rw [List.getElem?_map]
  rw [pAct, e, h2]; rfl
theorem pAct_mem {t : Task} {l : List Int} (hl : planB t l = true) {i : Nat} (hi : i < l.length) : pAct t l i ∈ t.acts := by
  obtain ⟨k, _, hk, h1, _, _⟩ := plan_get hl hi
  rw [h1]; exact List.getElem_mem hk
theorem closed_all {t : Task} {p : List Int} (hc : closedB t p = true) : ∀ a ∈ t.acts, ∀ e ∈ a.effs, clE p e = true := fun a ha e he => List.all_eq_true.1 (List.all_eq_true.1 hc a ha) e he
theorem stAt_proj {t : Task} {p s l : List Int} (TK : TaskOK t) (hp : risingB p t.facts.length = true) (hc : closedB t p = true) (hs : risingB s t.facts.length = true) (hl : planB t l = true) :
    ∀ i, i ≤ l.length → stAt (projT t p) (factsL p s) l i = factsL p (stAt t s l i)
  | 0, _ => rfl
  | i + 1, hi => by
    have ha := pAct_mem hl hi
    rw [stAt, stAt_proj TK hp hc hs hl i (by omega), pAct_proj hl hi, stAt]
    have e : (projT t p).facts.length = p.length := List.length_map ..
    rw [e]
    exact after_proj hp (st_rising hs i) (TK.lit _ ha) (closed_all hc _ ha)
theorem costAt_proj {t : Task} {p l : List Int} (hl : planB t l = true) : ∀ i, i ≤ l.length → costAt (projT t p) l i = costAt t l i
  | 0, _ => rfl
  | i + 1, hi => by rw [costAt, costAt_proj hl i (by omega), pAct_proj hl hi, costAt]; rfl
/-- A plan is a plan of each projection. -/
theorem valid_proj {t : Task} {p s l : List Int} (TK : TaskOK t) (hp : risingB p t.facts.length = true) (hc : closedB t p = true) (hs : risingB s t.facts.length = true) (V : Valid t s l) : Valid (projT t p) (factsL p s) l := by
  have hpi := rising_inc hp
  refine ⟨by rw [plan_proj]; exact V.plan, fun i hi => ?_, ?_⟩
  · rw [okAt, stAt_proj TK hp hc hs V.plan i (by omega), pAct_proj V.plan hi]
    exact holds_proj hpi (V.ok i hi)
  · rw [stAt_proj TK hp hc hs V.plan _ (Nat.le_refl _)]
    exact holds_proj hpi V.goal

/-! ### Costs -/
/-- What the actions of a plan cost that touch a pattern. -/
def tcost (t : Task) (l p : List Int) : Nat → Int
  | 0 => 0
  | i + 1 => tcost t l p i + if touchB (pAct t l i) p = true then (pAct t l i).cost else 0
theorem after_same {n : Nat} {p s : List Int} {l : List Eff} (hp : risingB p n = true) (hs : risingB s n = true) (hl : factsIn n l) (hn : (l.any fun e => hasB p e.lit.fact) = false) : factsL p (afterL n s l) = factsL p s := by
  have hpi := rising_inc hp
  have e : projEs p l = [] := by
    rw [projEs, List.map_eq_nil_iff, List.filter_eq_nil_iff]
    intro x hx; exact List.any_eq_false.1 hn x hx
  have hc : ∀ e ∈ l, clE p e = true := fun e he => clE_iff.2 fun h => absurd h (List.any_eq_false.1 hn e he)
  rw [← after_proj hp hs hl hc, e]
  have hfs := facts_rising hpi hs
  refine inc_ext (rising_inc (after_rising ..)) (rising_inc hfs) fun x => ?_
  have key : ∀ y : Nat, y < p.length → hasB (afterL p.length (factsL p s) []) (y : Int) = hasB (factsL p s) (y : Int) := fun y hy => by
    rw [after_get (fun e he => by cases he) (rising_in hfs) hy]
    simp [negB, posB]
  constructor
  · intro hx
    have h := after_in _ _ _ x hx
    have := key x.toNat (by omega)
    rw [Int.toNat_of_nonneg h.1] at this
    exact hasB_mem.1 (this ▸ hasB_mem.2 hx)
  · intro hx
    have h := rising_in hfs x hx
    have := key x.toNat (by omega)
    rw [Int.toNat_of_nonneg h.1] at this
    exact hasB_mem.1 (this.symm ▸ hasB_mem.2 hx)
/-- The actions of a plan that touch a pattern are a way in its projection. -/
theorem way_proj {t : Task} {p s l : List Int} (TK : TaskOK t) (hp : risingB p t.facts.length = true) (hc : closedB t p = true) (hs : risingB s t.facts.length = true) (V : Valid t s l) :
    ∀ i, i ≤ l.length → Way (projT t p) (factsL p s) (tcost t l p i) (factsL p (stAt t s l i))
  | 0, _ => .nil _
  | i + 1, hi => by
    have ih := way_proj TK hp hc hs V i (by omega)
    have ha := pAct_mem V.plan hi
    have hr := st_rising (p := l) hs i
    rw [tcost, stAt]
    cases hb : touchB (pAct t l i) p with
    | false =>
      rw [if_neg Bool.noConfusion, Int.add_zero, after_same hp hr (TK.lit _ ha) hb]
      exact ih
    | true =>
      rw [if_pos rfl]
      refine ih.snoc (List.mem_map.2 ⟨projA p (pAct t l i), List.mem_filter.2 ⟨List.mem_map_of_mem ha, holds_proj (rising_inc hp) (V.ok i hi)⟩, ?_⟩)
      have e : (projT t p).facts.length = p.length := List.length_map ..
      rw [← after_proj hp hr (TK.lit _ ha) (closed_all hc _ ha), e]; rfl
theorem tcost_le {t : Task} {p l : List Int} (TK : TaskOK t) (hl : planB t l = true) : ∀ i, i ≤ l.length → tcost t l p i ≤ costAt t l i
  | 0, _ => Int.le_refl _
  | i + 1, hi => by
    have ih := tcost_le (p := p) TK hl i (by omega)
    have h := TK.cost _ (pAct_mem hl hi)
    rw [tcost, costAt]; split <;> omega
/-- What additive patterns take from a plan together. -/
theorem tcost_sum {t : Task} {l : List Int} (TK : TaskOK t) (hl : planB t l = true) (ps : List (Bool × List Int)) (hadd : addB t ps = true) : ∀ i, i ≤ l.length → (ps.map fun p => tcost t l p.2 i).sum ≤ costAt t l i
  | 0, _ => by
    have : (ps.map fun p => tcost t l p.2 0).sum = 0 := by
      induction ps with
      | nil => rfl
      | cons x r ih => 
        rw [List.map_cons, List.sum_cons, ih]
        · rfl
        · refine List.all_eq_true.2 fun a ha => ?_
          have := of_decide_eq_true (List.all_eq_true.1 hadd a ha)
          rw [List.countP_cons] at this
          exact decide_eq_true (by omega)
    rw [this]; exact Int.le_refl _
  | i + 1, hi => by
    have ih := tcost_sum TK hl ps hadd i (by omega)
    have h := TK.cost _ (pAct_mem hl hi)
    have hcnt := of_decide_eq_true (List.all_eq_true.1 hadd _ (pAct_mem hl hi))
    have e : ∀ q : List (Bool × List Int), (q.map fun p => tcost t l p.2 (i + 1)).sum = (q.map fun p => tcost t l p.2 i).sum + ((q.countP fun p => touchB (pAct t l i) p.2 : Nat) : Int) * (pAct t l i).cost := by
      intro q
      induction q with
      | nil => simp
      | cons x r ih =>
        rw [List.map_cons, List.sum_cons, ih, List.map_cons, List.sum_cons, List.countP_cons, tcost]
        split
        · rw [Int.natCast_add, Int.add_mul]; omega
        · rw [Nat.add_zero]; omega
    rw [e, costAt]
    have : ((ps.countP fun p => touchB (pAct t l i) p.2 : Nat) : Int) * (pAct t l i).cost ≤ 1 * (pAct t l i).cost := Int.mul_le_mul_of_nonneg_right (by omega) h.1
    omega

end Go.Fw

/- What costs of patterns say where there is a plan; the law's own functions. -/
namespace Go.Fw
open Go Go.Proofs
set_option maxRecDepth 10000

theorem says_plan {t : Task} {p s l : List Int} (TK : TaskOK t) (hp : risingB p t.facts.length = true) (hc : closedB t p = true) (hs : risingB s t.facts.length = true) (V : Valid t s l) (h10 : p.length ≤ 10) {r : LV}
    (h : OptR (projT t p) (factsL p s) r) : ∃ c : Int, 0 ≤ c ∧ c ≤ tcost t l p l.length ∧ r = .tup [.int c, .int 0] := by
  have hl : (projT t p).facts.length = p.length := List.length_map ..
  have hpi := rising_inc hp
  have w := way_proj TK hp hc hs V _ (Nat.le_refl _)
  have g : holdsB (factsL p (stAt t s l l.length)) (projT t p).goal = true := holds_proj hpi V.goal
  rcases h.small (by rw [hl]; exact facts_rising hpi hs) (by omega) with ⟨_, h1⟩ | ⟨c, h0, _, hc, rfl⟩
  · have := h1 _ _ w; rw [g] at this; cases this
  · exact ⟨c, h0, hc.2 _ _ g w, rfl⟩
theorem sum_le : ∀ {C D : List Int}, C.length = D.length → (∀ (i : Nat) c d, C[i]? = some c → D[i]? = some d → c ≤ d) → C.sum ≤ D.sum
  | [], [], _, _ => Int.le_refl _
  | c :: r, d :: q, hl, h => by
    rw [List.sum_cons, List.sum_cons]
    have h0 := h 0 c d rfl rfl
    have := sum_le (C := r) (D := q) (by simpa using hl) fun i a b ha hb => h (i + 1) a b ha hb
    omega
theorem sum_nonneg : ∀ {C : List Int}, (∀ c ∈ C, 0 ≤ c) → 0 ≤ C.sum
  | [], _ => Int.le_refl _
  | c :: r, h => by
    rw [List.sum_cons]
    have := h c (List.mem_cons_self ..)
    have := sum_nonneg (C := r) fun x hx => h x (List.mem_cons_of_mem _ hx)
    omega
theorem foldl_max {m : Int} : ∀ {C : List Int} {a : Int}, a ≤ m → (∀ c ∈ C, c ≤ m) → C.foldl max a ≤ m ∧ a ≤ C.foldl max a
  | [], a, ha, _ => ⟨ha, Int.le_refl _⟩
  | c :: r, a, ha, h => by
    have hc := h c (List.mem_cons_self ..)
    have := foldl_max (C := r) (a := max a c) (by omega) fun x hx => h x (List.mem_cons_of_mem _ hx)
    exact ⟨this.1, by have := this.2; rw [List.foldl_cons]; omega⟩
/-- What several patterns say together is not more than a plan costs. -/
theorem best_plan {t : Task} {s l : List Int} {ps : List (Bool × List Int)} (TK : TaskOK t) (hs : risingB s t.facts.length = true) (V : Valid t s l) (hg : givenI t s ps = 0) (h10 : ∀ p ∈ ps, p.2.length ≤ 10) {r : LV} (h : BestR t s ps r) :
    ∃ b : Int, 0 ≤ b ∧ b ≤ costAt t l l.length ∧ r = .tup [.int b, .int 0] := by
  obtain ⟨_, _, hps⟩ := given_ok hg
  have one : ∀ p ∈ ps, ∀ r, SaysR t s p r → ∃ c : Int, 0 ≤ c ∧ c ≤ tcost t l p.2 l.length ∧ r = .tup [.int c, .int 0] := fun p hp r hr => says_plan TK (hps p hp).1 (hps p hp).2 hs V (h10 p hp) hr
  cases h with
  | bad h => exact absurd hg h
  | space _ p hp hr => obtain ⟨c, _, _, h⟩ := one p hp _ hr; cases h
  | none _ p hp hr _ => obtain ⟨c, _, _, h⟩ := one p hp _ hr; cases h
  | ok _ C hl hC =>
    have bd : ∀ (i : Nat) c, C[i]? = some c → ∃ p ∈ ps, ps[i]? = some p ∧ 0 ≤ c ∧ c ≤ tcost t l p.2 l.length := fun i c hi => by
      obtain ⟨hlt, _⟩ := List.getElem?_eq_some_iff.1 hi
      have hpg : ps[i]? = some (ps[i]'(by omega)) := List.getElem?_eq_getElem (by omega)
      have hm : (ps[i]'(by omega)) ∈ ps := List.getElem_mem _
      obtain ⟨c', h0, h1, h2⟩ := one _ hm _ (hC i c _ hi hpg)
      cases h2
      exact ⟨_, hm, hpg, h0, h1⟩
    have hn : ∀ c ∈ C, 0 ≤ c ∧ c ≤ costAt t l l.length := fun c hc => by
      obtain ⟨i, hi⟩ := List.mem_iff_getElem?.1 hc
      obtain ⟨p, _, _, h0, h1⟩ := bd i c hi
      have := tcost_le (p := p.2) TK V.plan l.length (Nat.le_refl _)
      omega
    have hc0 : 0 ≤ costAt t l l.length := (costAt_in TK V.plan l.length (Nat.le_refl _)).1
    refine ⟨_, ?_, ?_, rfl⟩
    · split
      · exact sum_nonneg fun c hc => (hn c hc).1
      · exact (foldl_max (C := C) (a := 0) hc0 fun c hc => (hn c hc).2).2
    · split
      · rename_i ha
        refine Int.le_trans ?_ (tcost_sum TK V.plan ps ha l.length (Nat.le_refl _))
        refine sum_le (by rw [List.length_map]; exact hl) fun i c d hi hd => ?_
        obtain ⟨p, _, hp, _, h1⟩ := bd i c hi
        rw [List.getElem?_map, hp] at hd
        cases hd
        exact h1
      · exact (foldl_max (C := C) (a := 0) hc0 fun c hc => (hn c hc).2).1

/-! ### The law's own functions -/
def kq11 : Kp := [(3, ([3, 6, 7, 8], []))]
/-- Few says yes of short lists only if there are few. -/
def FewB (l : List (Bool × List Int)) (b : Bool) : Prop := b = true → (∀ p ∈ l, p.2.length ≤ 1000) → l.length ≤ 10000000000000 → l.length ≤ 300
theorem f8b_spec (n1 : Bool) (l : List (Bool × List Int)) (out : List Fr) : SpecP Tryz.prog 8 [.t (.sl n1 1 (tLs l))] out fun r ro => ∃ b : Bool, FewB l b ∧ r = .bool b ∧ ro = [] := by
  refine spec_body cxw_ok kq11 [] (fn := Tryz.f8) (by kernel_rfl) rfl (by kernel_rfl) rfl (by unfold FnOK; kernel_rfl) fun hok => ?_
  have hmx : (l.length : Int) ≤ 9223372036854775807 := by have := hok.1.1; rw [tLs_len] at this; unfold maxLen at this; omega
  refine LoopW.mk (Nat × Int) (fun u => u.1 ≤ l.length ∧ ((∀ p ∈ l, p.2.length ≤ 1000) → l.length ≤ 10000000000000 → (u.1 : Int) ≤ u.2 ∧ u.2 ≤ 1001 * (u.1 : Int))) (fun u => [(3, .int u.2), (6, .t (.sl n1 1 (tLs l))), (7, .int (tLs l).length), (8, .int u.1)]) (fun _ => ⟨out, []⟩) (fun u => l.length - u.1) (0, 0) ⟨Nat.zero_le _, fun _ _ => ⟨Int.le_refl _, Int.le_refl _⟩⟩ ⟨rfl, rfl⟩ ?_
  rintro ⟨i, m⟩ ⟨hi0, hm⟩
  have hi0 : i ≤ l.length := hi0
  have hm : (∀ p ∈ l, p.2.length ≤ 1000) → l.length ≤ 10000000000000 → (i : Int) ≤ m ∧ m ≤ 1001 * (i : Int) := hm
  refine And.intro (fun h1 => ?_) fun h1 => ?_
  · have hi : i < l.length := by have h1 : (i : Int) < _ := of_decide_eq_true h1; rw [tLs_len] at h1; omega
    refine And.intro (Int.natCast_nonneg _) (Exists.intro _ (And.intro (tLs_get hi) ?_))
    intro m1 hm1 m2 hm2 m3 hm3
    rw [wrap64 (by show -9223372036854775808 ≤ (i : Int) + 1; omega) (by show (i : Int) + 1 ≤ 9223372036854775807; omega)] at hm3
    subst hm3
    refine Exists.intro (i + 1, m2) (And.intro (by show l.length - (i + 1) < l.length - i; omega) (And.intro ⟨hi, fun ha hb => ?_⟩ (And.intro rfl rfl)))
    obtain ⟨h2, h3⟩ := hm ha hb
    have h4 := ha _ (List.getElem_mem hi)
    have hm1 : m1 = IntKind.i64.wrap (1 + (((l[i].2.map tI).length : Nat) : Int)) := hm1
    have hm2 : m2 = IntKind.i64.wrap (m + m1) := hm2
    rw [List.length_map, wrap64 (by omega) (by omega)] at hm1
    rw [hm1, wrap64 (by omega) (by omega)] at hm2
    show ((i + 1 : Nat) : Int) ≤ m2 ∧ m2 ≤ 1001 * ((i + 1 : Nat) : Int)
    omega
  · have hi : i = l.length := by have h1 : ¬ (i : Int) < _ := of_decide_eq_false h1; rw [tLs_len] at h1; omega
    refine And.intro (fun h2 => ?_) fun _ => ?_
    · refine Exists.intro [] ⟨true, fun _ ha hb => ?_, rfl, rfl⟩
      have h2 : m ≤ 300 := of_decide_eq_true h2
      have := (hm ha hb).1
      omega
    · exact Exists.intro [] ⟨false, fun h => Bool.noConfusion h, rfl, rfl⟩
theorem f8_spec (n1 : Bool) (l : List (Bool × List Int)) (out : List Fr) : SpecP Tryz.prog 8 [.t (.sl n1 1 (tLs l))] out fun r ro => ∃ b : Bool, r = .bool b ∧ ro = [] :=
  SpecP.mono (f8b_spec n1 l out) fun _ _ ⟨b, _, h⟩ => ⟨b, h⟩

def kq16 : Kp := [(2, ([2, 7, 8, 9], [16]))]
theorem f11_spec (t : Task) (n1 : Bool) (l : List (Bool × List Int)) (ht : isB t = true) (out : List Fr) : SpecP Tryz.prog 11 [.task t, .t (.sl n1 1 (tLs l))] out fun r ro => r = .int (asksI t true l) ∧ ro = [] := by
  refine spec_body cx_ok kq16 [] (fn := Tryz.f11) (by kernel_rfl) rfl (by kernel_rfl) rfl (by unfold FnOK; kernel_rfl) fun hok => ?_
  have hmx : (l.length : Int) ≤ 9223372036854775807 := by have := hok.2.1.1; rw [tLs_len] at this; unfold maxLen at this; omega
  refine LoopW.mk Nat (fun i => i ≤ l.length ∧ (l.take i).any (fun p => !fineB t true p.2) = false) (fun i => [(2, .ptr (.cur 16) 0), (7, .t (.sl n1 1 (tLs l))), (8, .int (tLs l).length), (9, .int i)])
    (fun _ => ⟨out, [(16, .box (cellsTask t))]⟩) (fun i => l.length - i) 0 ⟨Nat.zero_le _, rfl⟩ ⟨rfl, rfl⟩ fun i hI => ?_
  refine And.intro (fun h1 => ?_) fun h1 => ?_
  · have hi : i < l.length := by have h1 : (i : Int) < _ := of_decide_eq_true h1; rw [tLs_len] at h1; omega
    refine And.intro (Int.natCast_nonneg _) (Exists.intro _ (And.intro (tLs_get hi) ?_))
    refine SpecP.mono (f7_spec t l[i].1 l[i].2 _) ?_
    rintro _ _ ⟨rfl, rfl⟩
    refine And.intro (fun h2 => ?_) fun h2 => ?_
    · have h2 : risingB l[i].2 t.facts.length = true := h2
      refine SpecP.mono (f32_spec t l[i].1 l[i].2 ht h2 _) ?_
      rintro _ _ ⟨rfl, rfl⟩
      refine And.intro (fun h3 => ?_) fun h3 => ?_
      · have h3 : closedB t l[i].2 = true := h3
        refine And.intro (by omega) (And.intro (by omega) ?_)
        exact Exists.intro (i + 1) (And.intro (by show l.length - (i + 1) < l.length - i; omega) (And.intro ⟨hi, any_step hi hI.2 (by simp only [fineB, h2, h3]; rfl)⟩ (And.intro rfl rfl)))
      · have h3 : closedB t l[i].2 = false := h3
        refine Exists.intro [] ⟨?_, rfl⟩
        rw [asksI, if_pos ht, any_true (p := fun p : Bool × List Int => !fineB t true p.2) hi (by simp only [fineB, h2, h3]; rfl)]; rfl
    · have h2 : risingB l[i].2 t.facts.length = false := h2
      refine Exists.intro [] ⟨?_, rfl⟩
      rw [asksI, if_pos ht, any_true (p := fun p : Bool × List Int => !fineB t true p.2) hi (by simp only [fineB, h2]; rfl)]; rfl
  · have hi : l.length ≤ i := by have h1 : ¬ (i : Int) < _ := of_decide_eq_false h1; rw [tLs_len] at h1; omega
    refine Exists.intro [] ⟨?_, rfl⟩
    rw [asksI, if_pos ht, any_end hi hI.2]; rfl

theorem f10_spec (t : Task) (n1 : Bool) (s : List Int) (out : List Fr) : SpecP Tryz.prog 10 [.task t, .ints n1 s] out fun r ro => r = .int (fineI t s) ∧ ro = [] := by
  refine spec_body cx_ok [] [] (fn := Tryz.f10) (by kernel_rfl) rfl (by kernel_rfl) rfl (by unfold FnOK; kernel_rfl) fun hok => ?_
  refine SpecP.mono (f30_spec t _) ?_
  rintro _ _ ⟨rfl, rfl⟩
  refine And.intro (fun h1 => ?_) fun h1 => ?_
  · have h1 : isB t = true := h1
    refine SpecP.mono (f31_spec t n1 s _) ?_
    rintro _ _ ⟨rfl, rfl⟩
    refine And.intro (fun h2 => ?_) fun h2 => ?_
    · have h2 : risingB s t.facts.length = true := h2
      exact Exists.intro [] ⟨by rw [fineI, if_pos h1, if_pos h2]; rfl, rfl⟩
    · have h2 : risingB s t.facts.length = false := h2
      exact Exists.intro [] ⟨by rw [fineI, if_pos h1, if_neg (by rw [h2]; exact Bool.noConfusion)]; rfl, rfl⟩
  · have h1 : isB t = false := h1
    exact Exists.intro [] ⟨by rw [fineI, if_neg (by rw [h1]; exact Bool.noConfusion)]; rfl, rfl⟩

end Go.Fw

/- What the reference's functions do: the projection of a task. -/
namespace Go.Fw
open Go Go.Proofs
set_option maxRecDepth 10000

theorem f34f_spec (n1 n2 : Bool) (p s : List Int) {n m : Int} (hp : risingB p n = true) (hs : risingB s m = true) (hl : p.length ≤ 1000000000) (out : List Fr) :
    SpecP Tryz.prog 34 [.ints n1 p, .ints n2 s] out fun r ro => r = .ints (factsL p s).isEmpty (factsL p s) ∧ ro = [] := by
  have := f34_spec n1 n2 p s hl out
  rwa [stL_facts hp hs] at this
def kq17 : Kp := [(2, ([1, 2, 4, 5], [0, 16, 32, 40])), (3, ([1, 2, 4, 5, 23, 24, 25], [16, 32, 40, 296])), (7, ([1, 2, 4, 5], [0, 16, 32, 40, 296])), (20, ([4, 5], [0, 32, 40, 296, 712])),
  (8, ([1, 4, 5, 41, 42, 43], [32, 40, 296, 712])), (12, ([1, 4, 5, 10, 41, 42, 43, 57, 58, 59], [32, 40, 80, 296, 712, 656]))]
def oq17 : Od := [(1, [(0, .tree (.pure 0 (.pure 1 (.pure 2 (.pure 4 (.pure 5 (.pure 6 (.fork 3 (.fork 7 (.pure 8 (.eff 9 (.last 10 .done []))) [] (.last 9 (.last 7 (.pure 8 (.last 10 .done [])) []) [0, 1, 2, 4, 5, 6])) [4, 5, 6] (.last 9 (.last 3 (.last 7 (.pure 8 (.last 10 .done [])) []) [4, 5, 6]) [0, 1, 2, 4, 5, 6])))))))))]), (5, [(0, .tree (.pure 0 (.pure 1 (.pure 2 (.pure 3 (.pure 4 (.pure 5 (.pure 6 (.eff 7 (.last 8 (.pure 9 (.last 10 .done [])) [2, 3, 4]))))))))))]), (10, [(0, .tree (.pure 0 (.pure 1 (.pure 2 (.pure 3 (.pure 4 (.pure 5 (.pure 6 (.fork 7 (.pure 8 (.eff 9 (.last 10 .done []))) [0, 1, 2, 3] (.last 9 (.last 7 (.pure 8 (.last 10 .done [])) [0, 1, 2, 3]) [0, 1, 2, 3, 4, 5, 6]))))))))))]), (16, [(0, .tree (.pure 0 (.pure 1 (.pure 2 (.pure 3 (.pure 4 (.pure 6 (.pure 7 (.pure 8 (.last 5 (.pure 9 (.eff 10 (.last 11 (.pure 12 (.last 13 .done [])) [6, 7]))) [0, 1, 6, 7, 8]))))))))))])]
abbrev rest17 (k : Nat) (env : Env) (st : St) (Q : Exit → Env → St → Prop) : Prop := CutX (fun env st => wpcX cx Tryz.prog noY (modH Tryz.prog) 0 kq17 oq17 (tailC k (Tryz.f33.body.get!)) env st Q) env st
abbrev resT (t : Task) (p : List Int) : LV → Fr → Prop := fun r ro => r = .agg [accV 296 1 ((p.map (factS t)).map tS), .ints (factsL p t.init).isEmpty (factsL p t.init), .lits (litsL p t.goal).isEmpty (litsL p t.goal), accV 712 4 (t.acts.map (tActP p))] ∧
  ro = accO 296 9 1 ((p.map (factS t)).map tS) ++ accO 712 53 4 (t.acts.map (tActP p))
abbrev boxT (t : Task) (p : List Int) (F : List ByteArray) (A : List Actn) : Ob := .box [accV 296 1 (F.map tS), .ints (factsL p t.init).isEmpty (factsL p t.init), .lits (litsL p t.goal).isEmpty (litsL p t.goal), accV 712 4 (A.map (tActP p))]
abbrev envT (n1 : Bool) (p : List Int) : Env := [(1, .ints n1 p), (2, .ptr (.cur 16) 0), (4, .ptr (.cur 32) 0), (5, .ptr (.cur 40) 0)]

/-- The facts' names. -/
theorem f33_facts (t : Task) (n1 : Bool) (p : List Int) (hp : ∀ x ∈ p, 0 ≤ x ∧ x < (t.facts.length : Int)) (hpl : p.length ≤ 1000000000) (out : List Fr) (Q : Exit → Env → St → Prop)
    (rest8 : rest17 3 (envT n1 p) ⟨out, [(16, .box (cellsTask t)), (32, zeroP), (40, boxT t p (p.map (factS t)) [])] ++ accO 296 9 1 ((p.map (factS t)).map tS)⟩ Q) :
    rest17 2 (envT n1 p) ⟨out, [(16, .box (cellsTask t)), (32, zeroP), (40, boxT t p [] [])]⟩ Q := by
  refine CutX.mk ?_
  refine LoopX.mk (Nat × List ByteArray) (fun u => u.1 ≤ p.length ∧ u.2 = (p.take u.1).map (factS t)) (fun u => envT n1 p ++ [(23, .ints n1 p), (24, .int (p.map tI).length), (25, .int u.1)])
    (fun u => ⟨out, [(16, .box (cellsTask t)), (32, zeroP), (40, boxT t p u.2 [])] ++ accO 296 9 1 (u.2.map tS)⟩) (fun u => p.length - u.1) (0, []) ⟨Nat.zero_le _, rfl⟩ ⟨rfl, rfl⟩ ?_
  rintro ⟨i, F⟩ ⟨hi0, hF⟩
  simp only at hi0 hF
  have hFl : F.length ≤ 1000000000 := by rw [hF, List.length_map, List.length_take]; omega
  cases F
  case' nil => let O : List ByteArray := []
  case' cons y r => let O : List ByteArray := y :: r
  all_goals
    refine And.intro (fun h1 => ?_) fun h1 => ?_
    rotate_left
    · have hi : i = p.length := by have := ge_of_dec h1; have : i ≤ p.length := hi0; omega
      rw [hi, List.take_length] at hF
      have hF' : O = p.map (factS t) := hF
      rw [← hF'] at rest8
      exact rest8
    have hi : i < p.length := lt_of_dec h1
    have hx := hp _ (List.getElem_mem hi)
    have hlt : p[i].toNat < t.facts.length := by omega
    have hg : (t.facts.map tS)[p[i].toNat]? = some (tS (factS t p[i])) := by
      rw [List.getElem?_map, List.getElem?_eq_getElem hlt, factS, List.getD_eq_getElem?_getD, List.getElem?_eq_getElem hlt]; rfl
    refine And.intro (by omega) (Exists.intro _ (And.intro (get_map hi) ?_))
    refine And.intro hx.1 (Exists.intro _ (And.intro hg ?_))
    have hl4 : ∀ X : List T, ((O.map tS) ++ [X]).length ≤ 1000000001 := fun X => by
      have : O.length ≤ 1000000000 := hFl
      rw [List.length_append, List.length_map, List.length_singleton]; omega
    have hnew : O ++ [factS t p[i]] = (p.take (i + 1)).map (factS t) := by
      rw [List.take_add_one, List.getElem?_eq_getElem hi, List.map_append, ← hF]; rfl
    repeat first
      | refine And.intro (Nat.le_of_ble_eq_true rfl) ?_
      | refine And.intro rfl ?_
      | refine And.intro (Nat.le_trans (Nat.mul_le_mul_right _ (hl4 _)) (Nat.le_of_ble_eq_true rfl)) ?_
      | refine And.intro (Nat.le_trans (hl4 _) (Nat.le_of_ble_eq_true rfl)) ?_
    refine And.intro (by show (-9223372036854775808 : Int) ≤ (i : Int) + 1; omega) (And.intro (by show (i : Int) + 1 ≤ 9223372036854775807; omega) ?_)
    first
      | exact Exists.intro (i + 1, [factS t p[i]]) (And.intro (by show p.length - (i + 1) < p.length - i; omega) (And.intro ⟨hi, hnew⟩ (And.intro rfl rfl)))
      | (refine Exists.intro (i + 1, y :: (r ++ [factS t p[i]])) (And.intro (by show p.length - (i + 1) < p.length - i; omega) (And.intro ⟨hi, hnew⟩ ?_))
         have e : (r ++ [factS t p[i]]).map tS = r.map tS ++ [tS (factS t p[i])] := by simp
         simp only [boxT, List.map_cons, e]
         exact And.intro rfl rfl)

theorem f33_fin (t : Task) (p : List Int) (out : List Fr) :
    rest17 4 [(4, .ptr (.cur 32) 0), (5, .ptr (.cur 40) 0)] ⟨out, [(32, zeroP), (40, boxT t p (p.map (factS t)) t.acts)] ++ accO 296 9 1 ((p.map (factS t)).map tS) ++ accO 712 53 4 (t.acts.map (tActP p))⟩ (retW cx Tryz.f33.results.toList (resT t p)) := by
  refine CutX.mk ?_
  simp only [boxT]
  generalize hF : p.map (factS t) = F
  generalize hA : t.acts.map (tActP p) = A
  cases F <;> cases A
  all_goals
    refine Exists.intro [296, 712] ?_
    exact ⟨by rw [hF, hA]; rfl, by rw [hF, hA]; rfl⟩

theorem f33o_spec (t : Task) (n1 : Bool) (p : List Int) (ht : isB t = true) (hp : risingB p t.facts.length = true) (out : List Fr) (rest : rest17 3 (envT n1 p) ⟨out, [(16, .box (cellsTask t)), (32, zeroP), (40, boxT t p (p.map (factS t)) [])] ++ accO 296 9 1 ((p.map (factS t)).map tS)⟩ (retW cx Tryz.f33.results.toList (resT t p))) : SpecP Tryz.prog 33 [.task t, .ints n1 p] out (resT t p) := by
  have TK := task_ok ht
  have TL := task_l ht
  have hin := rising_in hp
  have hinit := (isB_parts.1 ht).2.2.1
  have hpl := rising_len hp (by have := TK.facts; omega)
  refine spec_walkH cx_ok mH_ok kq17 oq17 (fn := Tryz.f33) (by kernel_rfl) rfl (by kernel_rfl) rfl (by unfold FnOK; kernel_rfl) fun hok => ?_
  have rest := f33_facts t n1 p hin hpl out _ rest
  repeat' first
    | exact rest
    | refine And.intro rfl ?_
    | (refine SpecP.mono (f34f_spec n1 t.ni p t.init hp hinit hpl _) ?_; rintro _ _ ⟨rfl, rfl⟩)
    | (refine SpecP.mono (f57_spec n1 t.gn p t.goal hp hpl (TL.goal) _) ?_; rintro _ _ ⟨rfl, rfl⟩)
    | refine And.intro ?_ ?_

end Go.Fw

/- What the reference's functions do: the projection of a task, its actions. -/
namespace Go.Fw
open Go Go.Proofs
set_option maxRecDepth 10000

abbrev stT (t : Task) (p : List Int) (out : List Fr) (G : List ByteArray) (N : List Actn) (a : Actn) (eL : T) : St :=
  ⟨out, [(32, zeroP), (40, .box [accV 296 1 (G.map tS), .ints (factsL p t.init).isEmpty (factsL p t.init), .lits (litsL p t.goal).isEmpty (litsL p t.goal),
    .osl (.cur 712) 4 0 (N.map (tActP p) ++ [[.v (.string a.name), .v (.int .i64 a.cost), .sl (litsL p a.pre).isEmpty 2 ((litsL p a.pre).map tLit), eL]]).length])] ++ accO 296 9 1 (G.map tS) ++
    [(712, .row 53 4 (N.map (tActP p) ++ [[.v (.string a.name), .v (.int .i64 a.cost), .sl (litsL p a.pre).isEmpty 2 ((litsL p a.pre).map tLit), eL]]))]⟩
theorem stT_eq {t : Task} {p : List Int} {out : List Fr} {G : List ByteArray} {N : List Actn} {a : Actn} {eL : T} (he : eL = tE0 (projEs p a.effs)) :
    stT t p out G N a eL = ⟨out, [(32, zeroP), (40, boxT t p G (N ++ [a]))] ++ accO 296 9 1 (G.map tS) ++ accO 712 53 4 ((N ++ [a]).map (tActP p))⟩ := by
  subst he
  have e : (N ++ [a]).map (tActP p) = N.map (tActP p) ++ [tActP p a] := by simp
  unfold stT boxT
  rw [e, accV_ne (σ := 712) (sz := 4) (by simp), accO_ne (σ := 712) (sz := 4) (by simp)]
  rfl
theorem lits_one {p : List Int} {x : Lit} : litsL p [x] = if hasB p x.fact = true then [⟨posI p x.fact, x.neg⟩] else [] := by
  have := litsL_step (p := p) (l := [x]) (i := 0) (by simp)
  simpa [litsL] using this
set_option maxHeartbeats 2000000 in
/-- The actions. -/
theorem f33_acts (t : Task) (n1 : Bool) (p : List Int) (TK : TaskOK t) (TL : TaskL t) (hp : risingB p t.facts.length = true) (hpl : p.length ≤ 1000000000) (out : List Fr) (Q : Exit → Env → St → Prop) (F : List ByteArray)
    (fin : rest17 4 [(4, .ptr (.cur 32) 0), (5, .ptr (.cur 40) 0)] ⟨out, [(32, zeroP), (40, boxT t p F t.acts)] ++ accO 296 9 1 (F.map tS) ++ accO 712 53 4 (t.acts.map (tActP p))⟩ Q) :
    rest17 3 (envT n1 p) ⟨out, [(16, .box (cellsTask t)), (32, zeroP), (40, boxT t p F [])] ++ accO 296 9 1 (F.map tS)⟩ Q := by
  refine CutX.mk ?_
  have hal := TK.acts
  cases F
  case' nil => let G : List ByteArray := []
  case' cons x0 r0 => let G : List ByteArray := x0 :: r0
  all_goals
    refine LoopX.mk (Nat × List Actn) (fun u => u.1 ≤ t.acts.length ∧ u.2 = t.acts.take u.1) (fun u => [(1, .ints n1 p), (4, .ptr (.cur 32) 0), (5, .ptr (.cur 40) 0), (41, .t (.sl t.an 4 (t.acts.map tAct))), (42, .int (t.acts.map tAct).length), (43, .int u.1)])
      (fun u => ⟨out, [(32, zeroP), (40, boxT t p G u.2)] ++ accO 296 9 1 (G.map tS) ++ accO 712 53 4 (u.2.map (tActP p))⟩) (fun u => t.acts.length - u.1) (0, []) ⟨Nat.zero_le _, rfl⟩ ⟨rfl, rfl⟩ ?_
    rintro ⟨i, M⟩ ⟨hi0, hM⟩
    simp only at hi0 hM
    have hMl : M.length ≤ 1000 := by rw [hM, List.length_take]; omega
    cases M
    case' nil => let N : List Actn := []
    case' cons y r => let N : List Actn := y :: r
    all_goals
      refine And.intro (fun h1 => ?_) fun h1 => ?_
      rotate_left
      · have hi : i = t.acts.length := by have := ge_of_dec h1; have : i ≤ t.acts.length := hi0; omega
        rw [hi, List.take_length] at hM
        have hM' : N = t.acts := hM
        rw [← hM'] at fin
        exact fin
      have hi : i < t.acts.length := lt_of_dec h1
      have hem : t.acts[i] ∈ t.acts := List.getElem_mem hi
      have hel := TK.effs _ hem
      refine And.intro (by omega) (Exists.intro _ (And.intro (get_map hi) ?_))
      repeat' first
        | refine And.intro rfl ?_
        | (refine SpecP.mono (f57_spec n1 t.acts[i].pn p t.acts[i].pre hp hpl (TL.pre _ hem) _) ?_; rintro _ _ ⟨rfl, rfl⟩)
        | refine And.intro ?_ ?_
      all_goals
        refine LoopX.mk (Nat × List Eff) (fun u => u.1 ≤ t.acts[i].effs.length ∧ u.2 = projEs p (t.acts[i].effs.take u.1)) (fun u => [(1, .ints n1 p), (4, .ptr (.cur 32) 0), (5, .ptr (.cur 40) 0), (10, .ptr (.cur 80) 0), (41, .t (.sl t.an 4 (t.acts.map tAct))), (42, .int (t.acts.map tAct).length), (43, .int i),
            (57, .t (.sl t.acts[i].en 3 (t.acts[i].effs.map tEff))), (58, .int (t.acts[i].effs.map tEff).length), (59, .int u.1)])
          (fun u => ⟨out, [(32, zeroP), (40, boxT t p G N), (80, .box [.t (.v (.string t.acts[i].name)), .int t.acts[i].cost, .lits (litsL p t.acts[i].pre).isEmpty (litsL p t.acts[i].pre), accV 656 3 (u.2.map tEff)])] ++ accO 296 9 1 (G.map tS) ++ accO 712 53 4 (N.map (tActP p)) ++ accO 656 57 3 (u.2.map tEff)⟩)
          (fun u => t.acts[i].effs.length - u.1) (0, []) ⟨Nat.zero_le _, rfl⟩ ⟨rfl, rfl⟩ ?_
        rintro ⟨k, E⟩ ⟨hk0, hE⟩
        simp only at hk0 hE
        have hEl : E.length ≤ 100 := by rw [hE]; have := projEs_len p (t.acts[i].effs.take k); rw [List.length_take] at this; omega
        cases E
        case' nil => let O : List Eff := []
        case' cons z w => let O : List Eff := z :: w
        all_goals
          refine And.intro (fun h2 => ?_) fun h2 => ?_
          rotate_left
          · have hk : k = t.acts[i].effs.length := by have := ge_of_dec h2; have : k ≤ t.acts[i].effs.length := hk0; omega
            rw [hk, List.take_length] at hE
            have hE' : O = projEs p t.acts[i].effs := hE
            have hnew : N ++ [t.acts[i]] = t.acts.take (i + 1) := by rw [List.take_add_one, List.getElem?_eq_getElem hi, ← hM]; rfl
            have hl5 : ∀ X : List T, ((N.map (tActP p)) ++ [X]).length ≤ 1001 := fun X => by
              have : N.length ≤ 1000 := hMl
              rw [List.length_append, List.length_map, List.length_singleton]; omega
            repeat first
              | refine And.intro (Nat.le_of_ble_eq_true rfl) ?_
              | refine And.intro rfl ?_
              | refine And.intro (Nat.le_of_eq (Nat.zero_add _)) ?_
              | refine And.intro (Nat.le_trans (Nat.mul_le_mul_right _ (hl5 _)) (Nat.le_of_ble_eq_true rfl)) ?_
              | refine And.intro (Nat.le_trans (hl5 _) (Nat.le_of_ble_eq_true rfl)) ?_
            refine And.intro (by show (-9223372036854775808 : Int) ≤ (i : Int) + 1; omega) (And.intro (by show (i : Int) + 1 ≤ 9223372036854775807; omega) ?_)
            refine Exists.intro (i + 1, N ++ [t.acts[i]]) (And.intro (by show t.acts.length - (i + 1) < t.acts.length - i; omega) (And.intro ⟨hi, hnew⟩ ?_))
            first
              | exact And.intro rfl (Eq.trans rfl (stT_eq (t := t) (p := p) (out := out) (G := G) (N := N) (a := t.acts[i]) (eL := .sl true 0 []) (by rw [← hE']; rfl)))
              | exact And.intro rfl (Eq.trans rfl (stT_eq (t := t) (p := p) (out := out) (G := G) (N := N) (a := t.acts[i]) (eL := .sl false 3 (((tEff z :: w.map tEff).drop 0).take (tEff z :: w.map tEff).length)) (by rw [← hE', ← take_all]; rfl)))
          have hk : k < t.acts[i].effs.length := lt_of_dec h2
          have hek : t.acts[i].effs[k] ∈ t.acts[i].effs := List.getElem_mem hk
          have stp := projEs_step (p := p) hk
          rw [← hE] at stp
          refine And.intro (by omega) (Exists.intro _ (And.intro (get_map hk) ?_))
          refine Exists.intro [tLit t.acts[i].effs[k].lit] (And.intro rfl (And.intro (Nat.le_of_ble_eq_true rfl) ?_))
          have m43 := f57o_spec n1 false p [t.acts[i].effs[k].lit] hp hpl (Nat.le_of_ble_eq_true rfl)
          rw [lits_one] at m43
          cases h3 : hasB p t.acts[i].effs[k].lit.fact with
          | false =>
            rw [h3, if_neg Bool.noConfusion] at m43
            rw [h3, if_neg Bool.noConfusion, List.append_nil] at stp
            refine SpecP.mono (m43 _) ?_
            rintro _ _ ⟨rfl, rfl⟩
            refine And.intro trivial (And.intro trivial ?_)
            refine And.intro (fun h => Bool.noConfusion h) fun _ => ?_
            refine And.intro (by show (-9223372036854775808 : Int) ≤ (k : Int) + 1; omega) (And.intro (by show (k : Int) + 1 ≤ 9223372036854775807; omega) ?_)
            exact Exists.intro (k + 1, O) (And.intro (by show t.acts[i].effs.length - (k + 1) < t.acts[i].effs.length - k; omega) (And.intro ⟨hk, stp.symm⟩ (And.intro rfl rfl)))
          | true =>
            rw [h3, if_pos rfl] at m43
            rw [if_pos h3] at stp
            refine SpecP.mono (m43 _) ?_
            rintro _ _ ⟨rfl, rfl⟩
            refine And.intro trivial (And.intro ⟨flat_lits (b := [⟨posI p t.acts[i].effs[k].lit.fact, t.acts[i].effs[k].lit.neg⟩]), trivial⟩ ?_)
            refine And.intro (fun _ => ?_) fun h => Bool.noConfusion h
            refine And.intro (Int.le_refl 0) (And.intro (show (0 : Int) < ((1 : Nat) : Int) by decide) (Exists.intro (tLit ⟨posI p t.acts[i].effs[k].lit.fact, t.acts[i].effs[k].lit.neg⟩) (And.intro rfl (And.intro (Nat.le_refl 2) ?_))))
            have stp2 : O ++ [(⟨(litsL p t.acts[i].effs[k].when_).isEmpty, litsL p t.acts[i].effs[k].when_, ⟨posI p t.acts[i].effs[k].lit.fact, t.acts[i].effs[k].lit.neg⟩⟩ : Eff)] = projEs p (t.acts[i].effs.take (k + 1)) := stp.symm
            generalize hb : t.acts[i].effs[k].lit.neg = b at *
            refine SpecP.mono (f57_spec n1 t.acts[i].effs[k].nil p t.acts[i].effs[k].when_ hp hpl (TL.whn _ hem _ hek) _) ?_
            rintro _ _ ⟨rfl, rfl⟩
            have hl4 : ∀ X : List T, ((O.map tEff) ++ [X]).length ≤ 101 := fun X => by
              have : O.length ≤ 100 := hEl
              rw [List.length_append, List.length_map, List.length_singleton]; omega
            repeat first
              | refine And.intro (Nat.le_of_ble_eq_true rfl) ?_
              | refine And.intro rfl ?_
              | refine And.intro (Nat.le_trans (Nat.mul_le_mul_right _ (hl4 _)) (Nat.le_of_ble_eq_true rfl)) ?_
              | refine And.intro (Nat.le_trans (hl4 _) (Nat.le_of_ble_eq_true rfl)) ?_
              | refine And.intro (Int.le_refl 0) ?_
              | refine And.intro (show (0 : Int) < ((1 : Nat) : Int) by decide) ?_
              | refine Exists.intro (tLit ⟨posI p t.acts[i].effs[k].lit.fact, b⟩) ?_
              | refine And.intro (Nat.le_refl 2) ?_
            refine And.intro (by show (-9223372036854775808 : Int) ≤ (k : Int) + 1; omega) (And.intro (by show (k : Int) + 1 ≤ 9223372036854775807; omega) ?_)
            first
              | exact Exists.intro (k + 1, [(⟨(litsL p t.acts[i].effs[k].when_).isEmpty, litsL p t.acts[i].effs[k].when_, ⟨posI p t.acts[i].effs[k].lit.fact, b⟩⟩ : Eff)]) (And.intro (by show t.acts[i].effs.length - (k + 1) < t.acts[i].effs.length - k; omega) (And.intro ⟨hk, stp2⟩ (And.intro rfl rfl)))
              | (refine Exists.intro (k + 1, z :: (w ++ [(⟨(litsL p t.acts[i].effs[k].when_).isEmpty, litsL p t.acts[i].effs[k].when_, ⟨posI p t.acts[i].effs[k].lit.fact, b⟩⟩ : Eff)])) (And.intro (by show t.acts[i].effs.length - (k + 1) < t.acts[i].effs.length - k; omega) (And.intro ⟨hk, stp2⟩ ?_))
                 have e : (w ++ [(⟨(litsL p t.acts[i].effs[k].when_).isEmpty, litsL p t.acts[i].effs[k].when_, ⟨posI p t.acts[i].effs[k].lit.fact, b⟩⟩ : Eff)]).map tEff = w.map tEff ++ [tEff ⟨(litsL p t.acts[i].effs[k].when_).isEmpty, litsL p t.acts[i].effs[k].when_, ⟨posI p t.acts[i].effs[k].lit.fact, b⟩⟩] := by simp
                 simp only [List.map_cons, e]
                 exact And.intro rfl rfl)

theorem f33_spec (t : Task) (n1 : Bool) (p : List Int) (ht : isB t = true) (hp : risingB p t.facts.length = true) (out : List Fr) : SpecP Tryz.prog 33 [.task t, .ints n1 p] out fun r ro => r = .task (projT t p) ∧ ro = [] :=
  (f33o_spec t n1 p ht hp out (f33_acts t n1 p (task_ok ht) (task_l ht) hp (rising_len hp (by have := (task_ok ht).facts; omega)) out _ _ (f33_fin t p out))).close fun r ro ⟨h1, h2⟩ => by
    refine ⟨_, ?_, rfl, rfl⟩
    rw [h1]
    have a1 := acc_cls (s := 296) (e := 9) (sz := 1) (es := (p.map (factS t)).map tS) (ro := ro) fun x r he => by rw [h2, he]; exact look_cons .. |>.trans (if_pos rfl)
    have a2 := acc_cls (s := 712) (e := 53) (sz := 4) (es := t.acts.map (tActP p)) (ro := ro) fun x r he => by rw [h2, look_acc (by decide), he]; exact look_cons .. |>.trans (if_pos rfl)
    rw [show ((p.map (factS t)).map tS).isEmpty = p.isEmpty by cases p <;> rfl] at a1
    rw [show (t.acts.map (tActP p)).isEmpty = t.acts.isEmpty by cases t.acts <;> rfl] at a2
    refine .agg _ [.t (.sl p.isEmpty 1 ((p.map (factS t)).map tS)), .t (.sl (factsL p t.init).isEmpty 1 ((factsL p t.init).map tI)), .t (.sl (litsL p t.goal).isEmpty 2 ((litsL p t.goal).map tLit)), .t (.sl t.acts.isEmpty 4 ((t.acts.map (projA p)).map tAct))] rfl fun i x y hx hy => ?_
    match i with
    | 0 => simp at hx hy; subst hx hy; rw [List.map_map] at a1; exact a1
    | 1 => simp at hx hy; subst hx hy; exact .same _
    | 2 => simp at hx hy; subst hx hy; exact .same _
    | 3 =>
      simp only [List.getElem?_cons_succ, List.getElem?_cons_zero, Option.some.injEq] at hx hy; subst hx hy
      refine .trans _ _ _ a2 (.un _ _ ?_)
      cases t.acts with
      | nil => rfl
      | cons a r => simp only [List.isEmpty_cons, un_sl]; rw [un_acts (a :: r)]
    | i + 4 => simp at hx

end Go.Fw

/- What the reference's functions do: tasks that are alike. -/
namespace Go.Fw
open Go Go.Proofs
set_option maxRecDepth 10000

structure SameA (a b : Actn) : Prop where
  name : a.name = b.name
  cost : a.cost = b.cost
  pre : a.pre = b.pre
  len : a.effs.length = b.effs.length
  eff : ∀ k (h1 : k < a.effs.length) (h2 : k < b.effs.length), a.effs[k].lit = b.effs[k].lit ∧ a.effs[k].when_ = b.effs[k].when_
structure SameT (t u : Task) : Prop where
  facts : t.facts = u.facts
  init : t.init = u.init
  goal : t.goal = u.goal
  len : t.acts.length = u.acts.length
  acts : ∀ i (h1 : i < t.acts.length) (h2 : i < u.acts.length), SameA t.acts[i] u.acts[i]
theorem SameA.refl (a : Actn) : SameA a a := ⟨rfl, rfl, rfl, rfl, fun _ _ _ => ⟨rfl, rfl⟩⟩
theorem SameT.refl (t : Task) : SameT t t := ⟨rfl, rfl, rfl, rfl, fun _ _ _ => .refl _⟩

def kq42 : Kp := [(4, ([3, 37, 38, 39], [24]))]
def oq42 : Od := [(6, [(0, .pure), (1, .pure), (2, .pure), (3, .pure), (4, .pure), (5, .pure), (6, .pure), (7, .pure), (8, .pure), (9, .pure), (10, .pure), (11, .pure), (12, .pure), (13, .pure), (14, .pure), (15, .pure), (16, .pure), (17, .pure), (18, .eff), (19, .pure), (20, .pure)])]
theorem f39_spec (a b : Actn) (S : SameA a b) (out : List Fr) : SpecP Tryz.prog 39 [.act a, .act b] out fun r ro => r = .bool true ∧ ro = [] := by
  refine spec_body cx_ok kq42 oq42 (fn := Tryz.f39) (by kernel_rfl) rfl (by kernel_rfl) rfl (by unfold FnOK; kernel_rfl) fun hok => ?_
  have hmx := le_max hok.2.1.2.2.2.1.1
  have hle := S.len
  refine And.intro (fun h => absurd h (by rw [S.name]; simp)) fun _ => ?_
  refine And.intro (fun h => absurd h (by rw [S.cost]; simp)) fun _ => ?_
  refine SpecP.mono (f38_spec a.pn b.pn a.pre b.pre []) ?_
  rintro _ _ ⟨rfl, rfl⟩
  refine And.intro (fun _ => ?_) fun h => absurd h (by simp [S.pre])
  refine And.intro (fun h => absurd h (by simp [S.len])) fun _ => ?_
  refine LoopW.mk Nat (fun i => i ≤ a.effs.length) (fun i => [(3, .ptr (.cur 24) 0), (37, .t (.sl a.en 3 (a.effs.map tEff))), (38, .int (a.effs.map tEff).length), (39, .int i)])
    (fun _ => ⟨out, [(24, .box (cellsAct b))]⟩) (fun i => a.effs.length - i) 0 (Nat.zero_le _) ⟨rfl, rfl⟩ fun i hi0 => ?_
  refine And.intro (fun h1 => ?_) fun h1 => ?_
  · have hi : i < a.effs.length := lt_of_dec h1
    have hib : i < b.effs.length := by omega
    obtain ⟨e1, e2⟩ := S.eff i hi hib
    refine And.intro (by omega) (Exists.intro _ (And.intro (get_map hi) ?_))
    refine And.intro (by omega) (Exists.intro _ (And.intro (get_map hib) ?_))
    refine And.intro (fun h => absurd h (by rw [e1]; simp)) fun _ => ?_
    refine And.intro (by omega) (Exists.intro _ (And.intro (get_map hib) ?_))
    refine SpecP.mono (f38_spec a.effs[i].nil b.effs[i].nil a.effs[i].when_ b.effs[i].when_ []) ?_
    rintro _ _ ⟨rfl, rfl⟩
    refine And.intro ⟨rfl, rfl, rfl⟩ ?_
    refine And.intro (fun _ => ?_) fun h => absurd h (by simp [e2])
    refine And.intro (by omega) (And.intro (by omega) ?_)
    exact Exists.intro (i + 1) (And.intro (by show a.effs.length - (i + 1) < a.effs.length - i; omega) (And.intro hi (And.intro rfl rfl)))
  · exact Exists.intro [] ⟨rfl, rfl⟩

def kq15 : Kp := [(4, ([2, 3, 42, 43, 44], [16, 24])), (10, ([3, 58, 59, 60], [24]))]
def oq15 : Od := [(12, [(0, .pure), (1, .pure), (2, .pure), (3, .pure), (4, .pure), (5, .pure), (6, .eff), (7, .pure)])]
theorem f19_spec (t u : Task) (S : SameT t u) (out : List Fr) : SpecP Tryz.prog 19 [.task t, .task u] out fun r ro => r = .bool true ∧ ro = [] := by
  refine spec_body cx_ok kq15 oq15 (fn := Tryz.f19) (by kernel_rfl) rfl (by kernel_rfl) rfl (by unfold FnOK; kernel_rfl) fun hok => ?_
  have hmf := le_max hok.2.1.1.1
  have hma := le_max hok.2.1.2.2.2.1.1
  have hlf : t.facts.length = u.facts.length := by rw [S.facts]
  have hla := S.len
  refine And.intro (fun h => absurd h (by simp [S.facts])) fun _ => ?_
  refine SpecP.mono (f37_spec t.ni u.ni t.init u.init []) ?_
  rintro _ _ ⟨rfl, rfl⟩
  refine And.intro (fun _ => ?_) fun h => absurd h (by simp [S.init])
  refine SpecP.mono (f38_spec t.gn u.gn t.goal u.goal []) ?_
  rintro _ _ ⟨rfl, rfl⟩
  refine And.intro (fun _ => ?_) fun h => absurd h (by simp [S.goal])
  refine And.intro (fun h => absurd h (by simp [S.len])) fun _ => ?_
  refine LoopW.mk Nat (fun i => i ≤ t.facts.length) (fun i => [(2, .ptr (.cur 16) 0), (3, .ptr (.cur 24) 0), (42, .t (.sl t.fn 1 (t.facts.map tS))), (43, .int (t.facts.map tS).length), (44, .int i)])
    (fun _ => ⟨out, [(16, .box (cellsTask t)), (24, .box (cellsTask u))]⟩) (fun i => t.facts.length - i) 0 (Nat.zero_le _) ⟨rfl, rfl⟩ fun i hi0 => ?_
  refine And.intro (fun h1 => ?_) fun h1 => ?_
  · have hi : i < t.facts.length := lt_of_dec h1
    have hiu : i < u.facts.length := by omega
    have e : t.facts[i] = u.facts[i] := by simp [S.facts]
    refine And.intro (by omega) (Exists.intro _ (And.intro (get_map hi) ?_))
    refine And.intro (by omega) (Exists.intro _ (And.intro (get_map hiu) ?_))
    refine And.intro (fun h => absurd h (by rw [e]; simp)) fun _ => ?_
    refine And.intro (by omega) (And.intro (by omega) ?_)
    exact Exists.intro (i + 1) (And.intro (by show t.facts.length - (i + 1) < t.facts.length - i; omega) (And.intro hi (And.intro rfl rfl)))
  refine LoopW.mk Nat (fun i => i ≤ t.acts.length) (fun i => [(3, .ptr (.cur 24) 0), (58, .t (.sl t.an 4 (t.acts.map tAct))), (59, .int (t.acts.map tAct).length), (60, .int i)])
    (fun _ => ⟨out, [(24, .box (cellsTask u))]⟩) (fun i => t.acts.length - i) 0 (Nat.zero_le _) ⟨rfl, rfl⟩ fun i hi0 => ?_
  refine And.intro (fun h1 => ?_) fun h1 => ?_
  · have hi : i < t.acts.length := lt_of_dec h1
    have hiu : i < u.acts.length := by omega
    refine And.intro (by omega) (Exists.intro _ (And.intro (get_map hi) ?_))
    refine And.intro (by omega) (Exists.intro _ (And.intro (get_map hiu) ?_))
    refine SpecP.mono (f39_spec t.acts[i] u.acts[i] (S.acts i hi hiu) []) ?_
    rintro _ _ ⟨rfl, rfl⟩
    refine And.intro ⟨rfl, rfl, rfl⟩ ?_
    refine And.intro (fun _ => ?_) fun h => absurd h (by decide)
    refine And.intro (by omega) (And.intro (by omega) ?_)
    exact Exists.intro (i + 1) (And.intro (by show t.acts.length - (i + 1) < t.acts.length - i; omega) (And.intro hi (And.intro rfl rfl)))
  · exact Exists.intro [] ⟨rfl, rfl⟩

end Go.Fw

/- What the reference's functions do: digits. -/
namespace Go.Fw
open Go Go.Proofs
set_option maxRecDepth 10000

/-- The digits of a number, gathered from behind. -/
def runD : Nat → Int → ByteArray → ByteArray
  | 0, _, s => s
  | k + 1, x, s => if x.tdiv 10 = 0 then strOfNums [48 + x.tmod 10] ++ s else runD k (x.tdiv 10) (strOfNums [48 + x.tmod 10] ++ s)
theorem someW_mk {o : Option LV} {x : LV} {K' : LV → Prop} (h : o = some x) (hk : K' x) : someW o K' := by rw [h]; exact hk
def kq8 : Kp := [(2, ([0, 3], []))]
theorem f63_spec (x : Int) (h0 : 0 ≤ x) (h1 : x ≤ 999) (out : List Fr) : SpecP Tryz.prog 63 [.int x] out fun r ro => r = .t (.v (.string (runD 3 x ⟨#[]⟩))) ∧ ro = [] := by
  refine spec_body cx_ok kq8 [] (fn := Tryz.f63) (by kernel_rfl) rfl (by kernel_rfl) rfl (by unfold FnOK; kernel_rfl) fun hok => ?_
  refine LoopW.mk (Nat × Int × ByteArray) (fun u => 0 ≤ u.2.1 ∧ u.2.1 < 10 ^ u.1 ∧ 1 ≤ u.1 ∧ u.2.2.size + u.1 ≤ 3 ∧ runD u.1 u.2.1 u.2.2 = runD 3 x ⟨#[]⟩) (fun u => [(0, .int u.2.1), (3, .t (.v (.string u.2.2)))]) (fun _ => ⟨out, []⟩) (fun u => u.1) (3, x, ⟨#[]⟩)
    ⟨h0, by show x < 10 ^ 3; omega, show 1 ≤ 3 by decide, Nat.le_refl _, rfl⟩ ⟨rfl, rfl⟩ ?_
  rintro ⟨k, y, s⟩ ⟨hy0, hy1, hk, hs, hr⟩
  have hy0 : 0 ≤ y := hy0
  have hs : s.size + k ≤ 3 := hs
  have hk : 1 ≤ k := hk
  have hr : runD k y s = runD 3 x ⟨#[]⟩ := hr
  have hm : y.tmod 10 = y % 10 := Int.tmod_eq_emod_of_nonneg hy0
  have hd : y.tdiv 10 = y / 10 := Int.tdiv_eq_ediv_of_nonneg hy0
  refine And.intro (by decide) (And.intro (by show -9223372036854775808 ≤ 48 + y.tmod 10; omega) (And.intro (by show 48 + y.tmod 10 ≤ 9223372036854775807; omega) (And.intro (by show 0 ≤ 48 + y.tmod 10; omega) (And.intro (by show 48 + y.tmod 10 ≤ 255; omega) ?_))))
  refine And.intro (Nat.le_of_ble_eq_true rfl) (Exists.intro [48 + y.tmod 10] (And.intro rfl ?_))
  have hone : (strOfNums [48 + y.tmod 10]).size = 1 := rfl
  refine And.intro (by show (((strOfNums [48 + y.tmod 10]).size + s.size : Nat) : Int) ≤ 9223372036854775807; omega) ?_
  obtain ⟨k, rfl⟩ : ∃ m, k = m + 1 := ⟨k - 1, by omega⟩
  have hy1 : y < 10 ^ (k + 1) := hy1
  have hy2 : y < 1000 := by
    have hk2 : k = 0 ∨ k = 1 ∨ k = 2 := by omega
    rcases hk2 with rfl | rfl | rfl
    · have : y < 10 := by simpa using hy1
      omega
    · have : y < 100 := by simpa using hy1
      omega
    · simpa using hy1
  refine And.intro (by decide) (And.intro (by show -9223372036854775808 ≤ y.tdiv 10; omega) (And.intro (by show y.tdiv 10 ≤ 9223372036854775807; omega) ?_))
  refine And.intro (fun h2 => ?_) fun h2 => ?_
  · have h2 : y.tdiv 10 = 0 := by simpa using h2
    rw [← hr, runD, if_pos h2]
    exact Exists.intro [] ⟨rfl, rfl⟩
  · have h2 : y.tdiv 10 ≠ 0 := by simpa using h2
    rw [runD, if_neg h2] at hr
    have hp : (10 : Int) ^ (k + 1) = 10 ^ k * 10 := Int.pow_succ ..
    refine Exists.intro (k, y.tdiv 10, strOfNums [48 + y.tmod 10] ++ s) (And.intro (Nat.lt_succ_self k) (And.intro ⟨by show 0 ≤ y.tdiv 10; omega, by show y.tdiv 10 < 10 ^ k; omega, ?_, ?_, hr⟩ (And.intro rfl rfl)))
    · show 1 ≤ k
      cases k with
      | zero => exfalso; rw [Nat.zero_add, Int.pow_one] at hy1; omega
      | succ k => omega
    · show (strOfNums [48 + y.tmod 10] ++ s).size + k ≤ 3
      rw [ByteArray.size_append, hone]; omega

/-- The facts' names. -/
def nameS (f : Nat) : ByteArray := ⟨#[102]⟩ ++ runD 3 f ⟨#[]⟩
theorem names_ok : ∀ n ≤ 17, namesB ((List.range n).map nameS) = true := by decide +kernel

end Go.Fw

/- What the reference's functions do: keys of states; the actions that are applicable; orders of states. -/
namespace Go.Fw
open Go Go.Proofs
set_option maxRecDepth 10000

/-! ### Keys -/
abbrev dig (x : Int) : ByteArray := runD 3 x ⟨#[]⟩
theorem dig_small : ∀ x : Nat, x < 200 → (dig (x : Int)).size ≤ 3 ∧ (dig (x : Int)).data.toList.all (· != 32) = true := by decide +kernel
def undig (l : List UInt8) : Nat := l.foldl (fun a b => a * 10 + (b.toNat - 48)) 0
theorem undig_dig : ∀ x : Nat, x < 200 → undig (dig (x : Int)).data.toList = x := by decide +kernel
def keyS (l : List Int) : ByteArray := l.foldl (fun s x => s ++ (dig x ++ ⟨#[32]⟩)) ⟨#[]⟩
def keyL (l : List Int) : List UInt8 := l.flatMap fun x => (dig x).data.toList ++ [32]
theorem keyS_step {l : List Int} {i : Nat} (hi : i < l.length) : keyS (l.take (i + 1)) = keyS (l.take i) ++ (dig l[i] ++ ⟨#[32]⟩) := by
  rw [keyS, List.take_add_one, List.getElem?_eq_getElem hi, Option.toList_some, List.foldl_append]; rfl
theorem keyS_bytes (l : List Int) : (keyS l).data.toList = keyL l := by
  have : ∀ (l : List Int) (s : ByteArray), (l.foldl (fun s x => s ++ (dig x ++ ⟨#[32]⟩)) s).data.toList = s.data.toList ++ keyL l := by
    intro l
    induction l with
    | nil => intro s; simp [keyL]
    | cons x r ih =>
      intro s
      rw [List.foldl_cons, ih]
      simp [keyL, ByteArray.data_append]
  rw [keyS, this]; rfl
theorem split_at {a b u v : List UInt8} (ha : ∀ x ∈ a, x ≠ 32) (hb : ∀ x ∈ b, x ≠ 32) (h : a ++ 32 :: u = b ++ 32 :: v) : a = b ∧ u = v := by
  induction a generalizing b with
  | nil =>
    cases b with
    | nil => simp at h; exact ⟨rfl, h⟩
    | cons y b => simp at h; exact absurd h.1.symm (hb y (List.mem_cons_self ..))
  | cons x a ih =>
    cases b with
    | nil => simp at h; exact absurd h.1 (ha x (List.mem_cons_self ..))
    | cons y b =>
      simp only [List.cons_append, List.cons.injEq] at h
      obtain ⟨h1, h2⟩ := ih (fun z hz => ha z (List.mem_cons_of_mem _ hz)) (fun z hz => hb z (List.mem_cons_of_mem _ hz)) h.2
      exact ⟨by rw [h.1, h1], h2⟩
def in200 (l : List Int) : Prop := ∀ x ∈ l, 0 ≤ x ∧ x < 200
theorem keyL_inj : ∀ {a b : List Int}, in200 a → in200 b → keyL a = keyL b → a = b
  | [], [], _, _, _ => rfl
  | [], y :: b, _, _, h => by simp [keyL] at h
  | x :: a, [], _, _, h => by simp [keyL] at h
  | x :: a, y :: b, ha, hb, h => by
    obtain ⟨hx0, hx1⟩ := ha x (List.mem_cons_self ..)
    obtain ⟨hy0, hy1⟩ := hb y (List.mem_cons_self ..)
    obtain ⟨m, rfl⟩ : ∃ m : Nat, x = (m : Int) := ⟨x.toNat, by omega⟩
    obtain ⟨n, rfl⟩ : ∃ n : Nat, y = (n : Int) := ⟨y.toNat, by omega⟩
    have e : ∀ (z : Int) (r : List Int), keyL (z :: r) = (dig z).data.toList ++ 32 :: keyL r := fun z r => by simp [keyL]
    rw [e, e] at h
    have hs : ∀ k : Nat, k < 200 → ∀ z ∈ (dig (k : Int)).data.toList, z ≠ 32 := fun k hk z hz => by
      have := List.all_eq_true.1 (dig_small k hk).2 z hz
      simpa using this
    obtain ⟨h1, h2⟩ := split_at (hs m (by omega)) (hs n (by omega)) h
    have h3 : m = n := by rw [← undig_dig m (by omega), ← undig_dig n (by omega), h1]
    rw [h3, keyL_inj (fun z hz => ha z (List.mem_cons_of_mem _ hz)) (fun z hz => hb z (List.mem_cons_of_mem _ hz)) h2]
theorem keyS_inj {a b : List Int} (ha : in200 a) (hb : in200 b) (h : keyS a = keyS b) : a = b :=
  keyL_inj ha hb (by rw [← keyS_bytes, ← keyS_bytes, h])
theorem cat_str {s u : ByteArray} (h : s.size + u.size ≤ 1000000000000) (t : Nat) : binL cx .add t (.t (.v (.string s))) (.t (.v (.string u))) = some (.t (.v (.string (s ++ u)))) := by
  have h : ((s.size + u.size : Nat) : Int) ≤ 9223372036854775807 := by omega
  simp only [binL, binV]
  rw [if_pos h]
def kq40 : Kp := [(3, ([3, 6, 7, 8], []))]
theorem f40_spec (n1 : Bool) (l : List Int) (hl : in200 l) (hn : l.length ≤ 1000000000) (out : List Fr) : SpecP Tryz.prog 40 [.ints n1 l] out fun r ro => r = .t (.v (.string (keyS l))) ∧ ro = [] := by
  refine spec_body cx_ok kq40 [] (fn := Tryz.f40) (by kernel_rfl) rfl (by kernel_rfl) rfl (by unfold FnOK; kernel_rfl) fun hok => ?_
  refine LoopW.mk Nat (fun i => i ≤ l.length ∧ (keyS (l.take i)).size ≤ 4 * i) (fun i => [(3, .t (.v (.string (keyS (l.take i))))), (6, .ints n1 l), (7, .int (l.map tI).length), (8, .int i)]) (fun _ => ⟨out, []⟩) (fun i => l.length - i) 0 ⟨Nat.zero_le _, by show (keyS []).size ≤ 0; exact Nat.le_refl 0⟩ ⟨rfl, rfl⟩ fun i hI => ?_
  obtain ⟨hi0, hsz⟩ := hI
  refine And.intro (fun h1 => ?_) fun h1 => ?_
  · have hi := lt_of_dec h1
    have hx := hl _ (List.getElem_mem hi)
    have hd : (dig l[i]).size ≤ 3 := by
      obtain ⟨m, hm⟩ : ∃ m : Nat, l[i] = (m : Int) := ⟨l[i].toNat, by omega⟩
      rw [hm]; exact (dig_small m (by omega)).1
    have h32 : (⟨#[32]⟩ : ByteArray).size = 1 := rfl
    refine And.intro (by omega) (Exists.intro _ (And.intro (get_map hi) ?_))
    have m63 := f63_spec l[i] hx.1 (by omega)
    have hst := keyS_step hi
    simp only [dig] at m63 hd hst
    generalize runD 3 l[i] ⟨#[]⟩ = D at *
    refine SpecP.mono (m63 _) ?_
    rintro _ _ ⟨rfl, rfl⟩
    refine And.intro (by show ((D.size + (⟨#[32]⟩ : ByteArray).size : Nat) : Int) ≤ 9223372036854775807; omega) ?_
    refine And.intro (by show (((keyS (l.take i)).size + (D ++ (⟨#[32]⟩ : ByteArray)).size : Nat) : Int) ≤ 9223372036854775807; rw [ByteArray.size_append]; omega) ?_
    refine And.intro (by omega) (And.intro (by omega) ?_)
    refine Exists.intro (i + 1) (And.intro (by show l.length - (i + 1) < l.length - i; omega) (And.intro ⟨hi, ?_⟩ (And.intro ?_ rfl)))
    · show (keyS (l.take (i + 1))).size ≤ 4 * (i + 1)
      rw [hst, ByteArray.size_append, ByteArray.size_append]; omega
    · simp only [hst]; rfl
  · have hi : i = l.length := by have := ge_of_dec h1; omega
    rw [hi, List.take_length]
    exact Exists.intro [] ⟨rfl, rfl⟩

end Go.Fw

/- What the reference's functions do: the actions that are applicable; a state's place. -/
namespace Go.Fw
open Go Go.Proofs
set_option maxRecDepth 10000

def okA (t : Task) (s : List Int) (i : Nat) : Bool := match t.acts[i]? with
  | some a => holdsB s a.pre
  | none => false
/-- The numbers of the actions that are applicable. -/
def appL (t : Task) (s : List Int) (n : Nat) : List Int := pickF (okA t s) n
theorem okA_get {t : Task} {s : List Int} {i : Nat} (hi : i < t.acts.length) : okA t s i = holdsB s t.acts[i].pre := by rw [okA, List.getElem?_eq_getElem hi]
theorem appL_mem {t : Task} {s : List Int} {x : Int} : x ∈ appL t s t.acts.length ↔ ∃ (i : Nat) (hi : i < t.acts.length), x = (i : Int) ∧ holdsB s t.acts[i].pre = true := by
  rw [appL, pickF, List.mem_map]
  constructor
  · rintro ⟨i, hi, rfl⟩
    obtain ⟨h1, h2⟩ := List.mem_filter.1 hi
    have h1 := List.mem_range.1 h1
    rw [okA_get h1] at h2
    exact ⟨i, h1, rfl, h2⟩
  · rintro ⟨i, hi, rfl, h⟩
    exact ⟨i, List.mem_filter.2 ⟨List.mem_range.2 hi, by rw [okA_get hi]; exact h⟩, rfl⟩
def kq41 : Kp := [(3, ([1, 5, 9, 10, 11], [184]))]
theorem f41_spec (t : Task) (n1 : Bool) (s : List Int) (TK : TaskOK t) (out : List Fr) :
    SpecP Tryz.prog 41 [.task t, .ints n1 s] out fun r ro => r = .ints (appL t s t.acts.length).isEmpty (appL t s t.acts.length) ∧ ro = [] := by
  have hA := TK.acts
  refine SpecP.close (Post := fun r ro => r = accV 184 1 ((appL t s t.acts.length).map tI) ∧ ro = accO 184 3 1 ((appL t s t.acts.length).map tI)) ?_ ?_
  rotate_left
  · rintro r ro ⟨rfl, rfl⟩
    refine ⟨_, acc_cls (e := 3) fun x r h => by rw [h]; exact look_cons .. |>.trans (if_pos rfl), ?_, rfl⟩
    rw [show ((appL t s t.acts.length).map tI).isEmpty = (appL t s t.acts.length).isEmpty by cases appL t s t.acts.length <;> rfl]
  refine spec_body cx_ok kq41 [] (fn := Tryz.f41) (by kernel_rfl) rfl (by kernel_rfl) rfl (by unfold FnOK; kernel_rfl) fun hok => ?_
  refine LoopW.mk (Nat × List Int) (fun u => u.1 ≤ t.acts.length ∧ u.2 = appL t s u.1) (fun u => [(1, .ints n1 s), (5, accV 184 1 (u.2.map tI)), (9, .t (.sl t.an 4 (t.acts.map tAct))), (10, .int (t.acts.map tAct).length), (11, .int u.1)])
    (fun u => ⟨out, accO 184 3 1 (u.2.map tI)⟩) (fun u => t.acts.length - u.1) (0, []) ⟨Nat.zero_le _, rfl⟩ ⟨rfl, rfl⟩ ?_
  rintro ⟨i, L⟩ ⟨hi0, hL⟩
  simp only at hi0 hL
  have hLl : L.length ≤ 1000000000 := by rw [hL]; have : (appL t s i).length ≤ i := pickF_len ..; omega
  cases L
  case' nil => let O : List Int := []
  case' cons y r => let O : List Int := y :: r
  all_goals
    refine And.intro (fun h1 => ?_) fun h1 => ?_
    rotate_left
    · have hi : i = t.acts.length := by have := ge_of_dec h1; have : i ≤ t.acts.length := hi0; omega
      have hL' : O = appL t s t.acts.length := by rw [← hi]; exact hL
      rw [← hL']
      exact Exists.intro [184] ⟨rfl, rfl⟩
    have hi : i < t.acts.length := lt_of_dec h1
    have stp : appL t s (i + 1) = appL t s i ++ if okA t s i = true then [(i : Int)] else [] := pickF_step ..
    rw [← hL, okA_get hi] at stp
    refine And.intro (by omega) (Exists.intro _ (And.intro (get_map hi) ?_))
    refine SpecP.mono (f64_spec n1 t.acts[i].pn s t.acts[i].pre _) ?_
    rintro _ _ ⟨rfl, rfl⟩
    refine And.intro (fun h2 => ?_) fun h2 => ?_
    · rw [if_pos h2] at stp
      have hl4 : ∀ X : List T, ((O.map tI) ++ [X]).length ≤ 1000000001 := fun X => by
        have : O.length ≤ 1000000000 := hLl
        rw [List.length_append, List.length_map, List.length_singleton]; omega
      repeat first
        | refine And.intro (Nat.le_of_ble_eq_true rfl) ?_
        | refine And.intro rfl ?_
        | refine And.intro (Nat.le_trans (Nat.mul_le_mul_right _ (hl4 _)) (Nat.le_of_ble_eq_true rfl)) ?_
        | refine And.intro (Nat.le_trans (hl4 _) (Nat.le_of_ble_eq_true rfl)) ?_
      refine And.intro (by show (-9223372036854775808 : Int) ≤ (i : Int) + 1; omega) (And.intro (by show (i : Int) + 1 ≤ 9223372036854775807; omega) ?_)
      first
        | exact Exists.intro (i + 1, [(i : Int)]) (And.intro (by show t.acts.length - (i + 1) < t.acts.length - i; omega) (And.intro ⟨hi, stp.symm⟩ (And.intro rfl rfl)))
        | (refine Exists.intro (i + 1, y :: (r ++ [(i : Int)])) (And.intro (by show t.acts.length - (i + 1) < t.acts.length - i; omega) (And.intro ⟨hi, stp.symm⟩ ?_))
           have e : (r ++ [(i : Int)]).map tI = r.map tI ++ [tI (i : Int)] := by simp
           simp only [List.map_cons, e]
           exact And.intro rfl rfl)
    · rw [if_neg (by simp [h2]), List.append_nil] at stp
      refine And.intro (by show (-9223372036854775808 : Int) ≤ (i : Int) + 1; omega) (And.intro (by show (i : Int) + 1 ≤ 9223372036854775807; omega) ?_)
      exact Exists.intro (i + 1, O) (And.intro (by show t.acts.length - (i + 1) < t.acts.length - i; omega) (And.intro ⟨hi, stp.symm⟩ (And.intro rfl rfl)))

/-! ### A state's place -/
def kq65 : Kp := [(4, ([0, 1, 17, 18], []))]
def oq65 : Od := [(6, [(0, .pure), (1, .pure), (2, .pure), (3, .pure), (4, .pure), (5, .pure), (6, .pure), (7, .pure), (8, .pure)]), (7, [(0, .pure), (1, .pure), (2, .pure), (3, .pure), (4, .pure), (5, .pure), (6, .pure), (7, .pure), (8, .pure), (9, .pure)])]
theorem f65_spec (n1 n2 : Bool) (s : List Int) (out : List Fr) : SpecP Tryz.prog 65 [.ints n1 s, .ints n2 s] out fun r ro => r = .bool false ∧ ro = [] := by
  refine spec_body cx_ok kq65 oq65 (fn := Tryz.f65) (by kernel_rfl) rfl (by kernel_rfl) rfl (by unfold FnOK; kernel_rfl) fun hok => ?_
  have hmx := le_max hok.1.1
  refine And.intro (fun h => absurd h (by simp)) fun _ => ?_
  refine LoopW.mk Nat (fun i => i ≤ s.length) (fun i => [(0, .ints n1 s), (1, .ints n2 s), (17, .int (s.map tI).length), (18, .int i)]) (fun _ => ⟨out, []⟩) (fun i => s.length - i) 0 (Nat.zero_le _) ⟨rfl, rfl⟩ fun i hi0 => ?_
  refine And.intro (fun h1 => ?_) fun h1 => ?_
  · have hi : i < s.length := lt_of_dec h1
    refine And.intro (by omega) (Exists.intro _ (And.intro (get_map hi) ?_))
    refine And.intro (by omega) (Exists.intro _ (And.intro (get_map hi) ?_))
    refine And.intro (fun h => absurd h (by simp)) fun _ => ?_
    refine And.intro (by omega) (And.intro (by omega) ?_)
    exact Exists.intro (i + 1) (And.intro (by show s.length - (i + 1) < s.length - i; omega) (And.intro hi (And.intro rfl rfl)))
  · exact Exists.intro [] (ret_bool rfl rfl)

def kq45 : Kp := [(2, ([1, 7, 8, 9], []))]
/-- The first state's place. -/
theorem f45_spec (n1 n2 b : Bool) (s : List Int) (S : List (Bool × List Int)) (out : List Fr) : SpecP Tryz.prog 45 [.t (.sl n1 1 (tLs ((b, s) :: S))), .ints n2 s] out fun r ro => r = .int 0 ∧ ro = [] := by
  refine spec_body cx_ok kq45 [] (fn := Tryz.f45) (by kernel_rfl) rfl (by kernel_rfl) rfl (by unfold FnOK; kernel_rfl) fun hok => ?_
  refine LoopW.mk Unit (fun _ => True) (fun _ => [(1, .ints n2 s), (7, .t (.sl n1 1 (tLs ((b, s) :: S)))), (8, .int (tLs ((b, s) :: S)).length), (9, .int 0)]) (fun _ => ⟨out, []⟩) (fun _ => 0) () trivial ⟨rfl, rfl⟩ fun _ _ => ?_
  refine And.intro (fun h1 => ?_) fun h1 => ?_
  rotate_left
  · have h1 : ¬ (0 : Int) < (((tLs ((b, s) :: S)).length : Nat) : Int) := of_decide_eq_false h1
    rw [tLs_len, List.length_cons] at h1; omega
  refine And.intro (Int.le_refl 0) (Exists.intro _ (And.intro rfl ?_))
  refine SpecP.mono (f65_spec b n2 s _) ?_
  rintro _ _ ⟨rfl, rfl⟩
  refine And.intro (fun h => Bool.noConfusion h) fun _ => ?_
  refine SpecP.mono (f65_spec n2 b s _) ?_
  rintro _ _ ⟨rfl, rfl⟩
  refine And.intro (fun h => Bool.noConfusion h) fun _ => ?_
  exact Exists.intro [] ⟨rfl, rfl⟩

end Go.Fw

/- What the reference's functions do: the states that are reached. -/
namespace Go.Fw
open Go Go.Proofs
set_option maxRecDepth 10000

theorem beq_keyS {a b : List Int} (ha : in200 a) (hb : in200 b) : (keyS a == keyS b) = decide (a = b) := by
  rw [Bool.eq_iff_iff, decide_eq_true_eq]
  constructor
  · intro h; exact keyS_inj ha hb ((MapKept.bytes_beq _ _).1 h)
  · rintro rfl; exact (MapKept.bytes_beq _ _).2 rfl
theorem rising_200 {s : List Int} {n : Nat} (h : risingB s n = true) (hn : n ≤ 200) : in200 s := fun x hx => by have := rising_in h x hx; omega
theorem any_keyS {x : List Int} {S : List (List Int)} (hx : in200 x) (hS : ∀ y ∈ S, in200 y) : (S.map keyS).any (keyS x == ·) = decide (x ∈ S) := by
  rw [Bool.eq_iff_iff, List.any_eq_true, decide_eq_true_eq]
  constructor
  · rintro ⟨k, hk, h⟩
    obtain ⟨y, hy, rfl⟩ := List.mem_map.1 hk
    rw [beq_keyS hx (hS y hy), decide_eq_true_eq] at h
    rw [h]; exact hy
  · intro h
    exact ⟨keyS x, List.mem_map_of_mem h, by rw [beq_keyS hx hx]; simp⟩
abbrev tR (S : List (List Int)) : List (List T) := S.map fun x => [sT x]
abbrev lsS (S : List (List Int)) : List (Bool × List Int) := S.map fun x => (x.isEmpty, x)
/-- The states that are reached, if they are few. -/
inductive ReachR (u : Task) (s : List Int) (most : Nat) : LV → Prop
  | few (S : List (List Int)) (hW : Dij.Whole (succ u) s S) (hl : S.length ≤ most) (h0 : S[0]? = some s) : ReachR u s most (.tup [.t (.sl false 1 (tLs (lsS S))), .bool true])
  | many (S : List (List Int)) (hn : S.Nodup) (hr : ∀ x ∈ S, ∃ d, Way u s d x) (hl : most < S.length) : ReachR u s most (.tup [.t (.sl true 0 []), .bool false])
structure Rea (u : Task) (s : List Int) (most i : Nat) (S : List (List Int)) : Prop where
  nod : S.Nodup
  root : S[0]? = some s
  reach : ∀ x ∈ S, ∃ d, Way u s d x
  ris : ∀ x ∈ S, risingB x u.facts.length = true
  len : S.length ≤ most
  ile : i ≤ S.length
  done : ∀ k x, k < i → S[k]? = some x → ∀ e ∈ succ u x, e.2 ∈ S
theorem Rea.snoc {u : Task} {s x y : List Int} {most i : Nat} {S : List (List Int)} (h : Rea u s most i S) (hl : S.length < most) (hx : x ∈ S) {c : Int} (he : (c, y) ∈ succ u x) (hy : y ∉ S) : Rea u s most i (S ++ [y]) := by
  refine ⟨List.nodup_append.2 ⟨h.nod, by simp, fun a ha b hb hab => ?_⟩, ?_, fun z hz => ?_, fun z hz => ?_, by rw [List.length_append]; exact hl, by have := h.ile; rw [List.length_append]; omega, fun k z hk hz e he2 => ?_⟩
  · rw [List.mem_singleton] at hb; subst hb; subst hab; exact hy ha
  · rw [List.getElem?_append_left (List.getElem?_eq_some_iff.1 h.root).1]; exact h.root
  · rcases List.mem_append.1 hz with hz | hz
    · exact h.reach z hz
    · rw [List.mem_singleton] at hz; subst hz
      obtain ⟨d, p⟩ := h.reach x hx
      exact ⟨_, p.snoc he⟩
  · rcases List.mem_append.1 hz with hz | hz
    · exact h.ris z hz
    · rw [List.mem_singleton] at hz; subst hz; exact succ_rising _ he
  · by_cases hkl : k < S.length
    · rw [List.getElem?_append_left hkl] at hz
      exact List.mem_append.2 (.inl (h.done k z hk hz e he2))
    · have := h.ile; omega

theorem un_tR : ∀ S : List (List Int), T.un.unEs (tLs (lsS S)) = T.un.unEs (tR S)
  | [] => rfl
  | x :: r => by
    have ih := un_tR r
    simp only [tLs, lsS, tR, List.map_cons, T.un.unEs] at ih ⊢
    rw [ih]
    cases x <;> rfl
def kqR : Kp := [(4, ([2, 3, 8, 9, 10], [24, 136, 144])), (7, ([2, 3, 8, 9, 10, 33, 34, 35], [24, 136, 144]))]
def oqR : Od := [(6, [(0, .pure), (1, .pure), (2, .pure), (3, .pure), (4, .pure), (7, .pure), (5, .eff), (6, .pure)]), (9, [(0, .pure), (1, .pure), (2, .pure), (3, .pure), (4, .pure), (5, .pure), (6, .eff), (7, .pure)])]

theorem f20_spec (u : Task) (n1 : Bool) (s : List Int) (most : Nat) (TK : TaskOK u) (hs : risingB s u.facts.length = true) (hm0 : 0 < most) (hm : most ≤ 1000000) (out : List Fr) :
    SpecP Tryz.prog 20 [.task u, .ints n1 s, .int most] out fun r ro => ReachR u s most r ∧ ro = [] := by
  have hN := TK.facts
  have hA := TK.acts
  have hs200 := rising_200 hs hN
  have hsl := rising_len hs (by omega)
  refine SpecP.close (Post := fun r ro => (∃ S, Rea u s most S.length S ∧ r = .tup [.osl (.cur 136) 1 0 S.length, .bool true] ∧ ro = [(136, .row 23 1 (tR S))]) ∨ ((∃ S : List (List Int), S.Nodup ∧ (∀ x ∈ S, ∃ d, Way u s d x) ∧ most < S.length) ∧ r = .tup [.t (.sl true 0 []), .bool false] ∧ ro = [])) ?_ ?_
  · refine spec_body cx_ok kqR oqR (fn := Tryz.f20) (by kernel_rfl) rfl (by kernel_rfl) rfl (by unfold FnOK; kernel_rfl) fun hok => ?_
    have hR0 : Rea u s most 0 [s] := ⟨by simp, rfl, fun x hx => by rw [List.mem_singleton] at hx; subst hx; exact ⟨0, .nil _⟩, fun x hx => by rw [List.mem_singleton] at hx; subst hx; exact hs, hm0, Nat.zero_le _, fun k x hk => by omega⟩
    have hk0 := f40_spec n1 s hs200 hsl
    cases s
    case' nil =>
      let z : List Int := []
      refine SpecP.mono (hk0 _) ?_
      rintro _ _ ⟨rfl, rfl⟩
    case' cons x0 r0 =>
      let z : List Int := x0 :: r0
      have hzl : (tI x0 :: r0.map tI).length ≤ 1000000000 := by rw [List.length_cons, List.length_map]; exact hsl
      refine And.intro (Nat.le_trans (Nat.mul_le_mul_right _ hzl) (Nat.le_of_ble_eq_true rfl)) (And.intro (Nat.le_trans hzl (Nat.le_of_ble_eq_true rfl)) (And.intro (Nat.le_of_eq (Nat.zero_add _)) ?_))
      refine SpecP.mono (hk0 _) ?_
      rintro _ _ ⟨rfl, rfl⟩
    all_goals
      have hR0 : Rea u z most 0 [z] := hR0
      have hfr : (⟨out, [(24, .box (cellsTask u)), (136, .row 23 1 [[T.sl z.isEmpty (sSz z) (((z.map tI).drop 0).take (z.map tI).length)]]), (144, .mp .str (kvS [keyS z]))]⟩ : St) = ⟨out, [(24, .box (cellsTask u)), (136, .row 23 1 (tR [z])), (144, .mp .str (kvS ([z].map keyS)))]⟩ := by rw [← take_all]; rfl
      refine LoopW.mk (Nat × List (List Int)) (fun v => Rea u z most v.1 v.2) (fun v => [(2, .int most), (3, .ptr (.cur 24) 0), (8, .osl (.cur 136) 1 0 v.2.length), (9, .mpr (.cur 144)), (10, .int v.1)])
        (fun v => ⟨out, [(24, .box (cellsTask u)), (136, .row 23 1 (tR v.2)), (144, .mp .str (kvS (v.2.map keyS)))]⟩) (fun v => most - v.1) (0, [z]) hR0 ⟨rfl, Eq.trans rfl hfr⟩ ?_
      rintro ⟨i, S⟩ hR
      have hR : Rea u z most i S := hR
      have hile := hR.ile
      have hlen := hR.len
      refine And.intro (fun h1 => ?_) fun h1 => ?_
      rotate_left
      · have hi : i = S.length := by have h1 : ¬ (i : Int) < (S.length : Nat) := of_decide_eq_false h1; omega
        subst hi
        exact Exists.intro [136] (.inl ⟨S, hR, rfl, rfl⟩)
      have hi : i < S.length := by have h1 : (i : Int) < (S.length : Nat) := of_decide_eq_true h1; omega
      have hx : S[i] ∈ S := List.getElem_mem hi
      have hxr := hR.ris _ hx
      have hx200 := rising_200 hxr hN
      have hxin := rising_in hxr
      have hget : ∀ S' : List (List Int), S'[i]? = some S[i] → (tR S')[0 + ((i : Nat) : Int).toNat]? = some [sT S[i]] := fun S' h => by
        rw [Nat.zero_add, Int.toNat_natCast, tR, List.getElem?_map, h]; rfl
      refine And.intro (Int.natCast_nonneg _) (And.intro (Int.ofNat_lt.2 hi) (Exists.intro _ (And.intro (hget S (List.getElem?_eq_getElem hi)) ?_)))
      refine SpecP.conv (conv_second fun _ _ _ _ => sT_vl) (SpecP.mono (f41_spec u S[i].isEmpty S[i] TK _) ?_)
      rintro _ _ ⟨rfl, rfl⟩
      refine And.intro ⟨rfl, rfl, rfl⟩ ?_
      have hAm : ∀ y, y ∈ appL u S[i] u.acts.length ↔ ∃ (k : Nat) (hk : k < u.acts.length), y = (k : Int) ∧ holdsB S[i] u.acts[k].pre = true := fun y => appL_mem
      have hAl : (appL u S[i] u.acts.length).length ≤ u.acts.length := pickF_len ..
      generalize appL u S[i] u.acts.length = A at *
      have hSi : S[i]? = some S[i] := List.getElem?_eq_getElem hi
      generalize S[i] = x at *
      refine LoopW.mk (Nat × List (List Int)) (fun v => Rea u z most i v.2 ∧ v.1 ≤ A.length ∧ v.2[i]? = some x ∧ ∀ (m : Nat) (k : Nat) (hk : k < u.acts.length), m < v.1 → A[m]? = some (k : Int) → afterL u.facts.length x u.acts[k].effs ∈ v.2) (fun v => [(2, .int most), (3, .ptr (.cur 24) 0), (8, .osl (.cur 136) 1 0 v.2.length), (9, .mpr (.cur 144)), (10, .int i), (33, .ints A.isEmpty A), (34, .int (A.map tI).length), (35, .int v.1)])
        (fun v => ⟨out, [(24, .box (cellsTask u)), (136, .row 23 1 (tR v.2)), (144, .mp .str (kvS (v.2.map keyS)))]⟩) (fun v => A.length - v.1) (0, S) ⟨hR, Nat.zero_le _, hSi, fun m k hk h => by cases h⟩ ⟨rfl, rfl⟩ ?_
      rintro ⟨j, S2⟩ ⟨hR2, hj0, hS2, hdn⟩
      have hR2 : Rea u z most i S2 := hR2
      have hj0 : j ≤ A.length := hj0
      have hS2 : S2[i]? = some x := hS2
      have hdn : ∀ (m : Nat) (k : Nat) (hk : k < u.acts.length), m < j → A[m]? = some (k : Int) → afterL u.facts.length x u.acts[k].effs ∈ S2 := hdn
      have hl2 := hR2.len
      have hi2 : i < S2.length := (List.getElem?_eq_some_iff.1 hS2).1
      refine And.intro (fun h2 => ?_) fun h2 => ?_
      rotate_left
      · have hj : j = A.length := by have := ge_of_dec h2; have : j ≤ A.length := hj0; omega
        refine And.intro (by show (-9223372036854775808 : Int) ≤ (i : Int) + 1; omega) (And.intro (by show (i : Int) + 1 ≤ 9223372036854775807; omega) ?_)
        refine Exists.intro (i + 1, S2) (And.intro (by show most - (i + 1) < most - i; omega) (And.intro ⟨hR2.nod, hR2.root, hR2.reach, hR2.ris, hR2.len, hi2, fun k y hk hy e he => ?_⟩ (And.intro rfl rfl)))
        by_cases hki : k = i
        · subst hki
          rw [hS2] at hy
          cases hy
          obtain ⟨a, ha, rfl⟩ := List.mem_map.1 he
          obtain ⟨ha1, ha2⟩ := List.mem_filter.1 ha
          obtain ⟨n, hn, rfl⟩ := List.getElem_of_mem ha1
          obtain ⟨m, hm⟩ := List.mem_iff_getElem?.1 ((hAm (n : Int)).2 ⟨n, hn, rfl, ha2⟩)
          exact hdn m n hn (by have := (List.getElem?_eq_some_iff.1 hm).1; omega) hm
        · exact hR2.done k y (by omega) hy e he
      have hj : j < A.length := lt_of_dec h2
      obtain ⟨k, hk, hAj, hpre⟩ := (hAm _).1 (List.getElem_mem hj)
      have he : (u.acts[k].cost, afterL u.facts.length x u.acts[k].effs) ∈ succ u x := succ_mem hk hpre
      have m42 := f42_spec u x.isEmpty x k TK hxin hk
      rw [← hAj] at m42
      have hy200 := rising_200 (after_rising u.facts.length x u.acts[k].effs) hN
      have hyl := rising_len (after_rising u.facts.length x u.acts[k].effs) (by omega)
      have hAj2 : A[j]? = some (k : Int) := by rw [List.getElem?_eq_getElem hj, hAj]
      generalize hy : afterL u.facts.length x u.acts[k].effs = y at *
      refine And.intro (Int.natCast_nonneg _) (Exists.intro _ (And.intro (get_map hj) ?_))
      refine And.intro (Int.natCast_nonneg _) (And.intro (Int.ofNat_lt.2 hi2) (Exists.intro _ (And.intro (hget S2 hS2) ?_)))
      refine SpecP.conv (conv_second fun _ _ _ _ => sT_vl) (SpecP.mono (m42 _) ?_)
      rintro _ _ ⟨rfl, rfl⟩
      refine And.intro ⟨rfl, rfl, rfl⟩ ?_
      refine SpecP.conv (conv_first fun _ _ _ _ => sT_vl) (SpecP.mono (f40_spec y.isEmpty y hy200 hyl _) ?_)
      rintro _ _ ⟨rfl, rfl⟩
      have hS200 : ∀ w ∈ S2, in200 w := fun w hw => rising_200 (hR2.ris w hw) hN
      refine Exists.intro (.v (.bool (decide (y ∈ S2)))) (And.intro (by rw [← any_keyS hy200 hS200]; exact look_kvS _ _) ?_)
      have step : ∀ S3 : List (List Int), (∀ w ∈ S2, w ∈ S3) → y ∈ S3 → ∀ (m : Nat) (k' : Nat) (hk' : k' < u.acts.length), m < j + 1 → A[m]? = some (k' : Int) → afterL u.facts.length x u.acts[k'].effs ∈ S3 := fun S3 h3 hy3 m k' hk' hm hA' => by
        by_cases hmj : m = j
        · subst hmj
          rw [hAj2] at hA'
          have : k = k' := Int.ofNat.inj (Option.some.inj hA')
          subst this
          rw [hy]; exact hy3
        · exact h3 _ (hdn m k' hk' (by omega) hA')
      refine And.intro (fun h3 => ?_) fun h3 => ?_
      · have h3 : y ∈ S2 := of_decide_eq_true h3
        refine And.intro (by show (-9223372036854775808 : Int) ≤ (j : Int) + 1; omega) (And.intro (by show (j : Int) + 1 ≤ 9223372036854775807; omega) ?_)
        exact Exists.intro (j + 1, S2) (And.intro (by show A.length - (j + 1) < A.length - j; omega) (And.intro ⟨hR2, hj, hS2, step S2 (fun _ h => h) h3⟩ (And.intro rfl rfl)))
      have h3 : y ∉ S2 := of_decide_eq_false h3
      have hxS : x ∈ S2 := List.mem_iff_getElem?.2 ⟨i, hS2⟩
      refine And.intro (fun h4 => ?_) fun h4 => ?_
      · have h4 : ((S2.length : Nat) : Int) = (most : Int) := by simpa using h4
        refine Exists.intro [] (.inr ⟨⟨S2 ++ [y], ?_, fun w hw => ?_, by rw [List.length_append, List.length_singleton]; omega⟩, rfl, rfl⟩)
        · refine List.nodup_append.2 ⟨hR2.nod, by simp, fun a ha b hb hab => ?_⟩
          rw [List.mem_singleton] at hb; subst hb; subst hab; exact h3 ha
        · rcases List.mem_append.1 hw with hw | hw
          · exact hR2.reach w hw
          · rw [List.mem_singleton] at hw; subst hw
            obtain ⟨d, p⟩ := hR2.reach x hxS
            exact ⟨_, p.snoc he⟩
      have h4 : ((S2.length : Nat) : Int) ≠ (most : Int) := by simpa using h4
      have hl4 : ∀ X : List T, ((tR S2) ++ [X]).length ≤ 1000001 := fun X => by rw [List.length_append, List.length_map, List.length_singleton]; omega
      have hup : updKV (.string (keyS y)) (.v (.bool true)) (kvS (S2.map keyS)) = kvS ((S2 ++ [y]).map keyS) := by
        rw [upd_kvS _ _ (by rw [any_keyS hy200 hS200]; exact decide_eq_false h3), List.map_append]; rfl
      have hro : tR S2 ++ [[sT y]] = tR (S2 ++ [y]) := by simp [tR]
      have hle : (tR S2 ++ [[sT y]]).length = (S2 ++ [y]).length := by rw [hro, List.length_map]
      refine And.intro (Nat.le_of_ble_eq_true rfl) (And.intro (List.length_map ..).symm (And.intro (Nat.le_trans (Nat.mul_le_mul_right _ (hl4 _)) (Nat.le_of_ble_eq_true rfl)) (And.intro (Nat.le_trans (hl4 _) (Nat.le_of_ble_eq_true rfl)) ?_)))
      refine And.intro (by show (-9223372036854775808 : Int) ≤ (j : Int) + 1; omega) (And.intro (by show (j : Int) + 1 ≤ 9223372036854775807; omega) ?_)
      refine Exists.intro (j + 1, S2 ++ [y]) (And.intro (by show A.length - (j + 1) < A.length - j; omega) (And.intro ⟨hR2.snoc (by omega) hxS he h3, hj, by rw [List.getElem?_append_left hi2]; exact hS2, step _ (fun w hw => List.mem_append.2 (.inl hw)) (by simp)⟩ ?_))
      simp only [← hup, ← hro, ← hle]
      exact And.intro rfl rfl
  · rintro r ro (⟨S, hR, rfl, rfl⟩ | ⟨⟨S, h1, h2, h3⟩, rfl, rfl⟩)
    · refine ⟨_, .pair _ _ _ _ (.trans _ _ _ (.row 136 23 1 0 S.length (tR S) rfl (by rw [List.length_map]; omega)) (.un _ (.sl false 1 (tLs (lsS S))) ?_)) (.same _), .few S ⟨hR.nod, List.mem_iff_getElem?.2 ⟨0, hR.root⟩, hR.reach, fun x hx e he => ?_⟩ hR.len hR.root, rfl⟩
      · have e : ((tR S).drop 0).take S.length = tR S := by rw [List.drop_zero, List.take_of_length_le (by rw [List.length_map]; exact Nat.le_refl _)]
        rw [e, un_sl, un_sl, un_tR]
      · obtain ⟨k, hk⟩ := List.mem_iff_getElem?.1 hx
        exact hR.done k x (List.getElem?_eq_some_iff.1 hk).1 hk e he
    · exact ⟨_, .pair _ _ _ _ (.same _) (.same _), .many S h1 h2 h3, rfl⟩

end Go.Fw

/- What the reference's functions do: the steps between the states that are reached. -/
namespace Go.Fw
open Go Go.Proofs
set_option maxRecDepth 10000

/-- A step between two states of a list. -/
def EdgeR (u : Task) (S : List (List Int)) (e : Nat × Nat × Nat) : Prop := ∃ (x : List Int) (ha : e.2.2 < u.acts.length), S[e.1]? = some x ∧ S[e.2.1]? = some (afterL u.facts.length x u.acts[e.2.2].effs) ∧ holdsB x u.acts[e.2.2].pre = true
def tEd (e : Nat × Nat × Nat) : List T := [.v (.int .i64 (e.1 : Int)), .v (.int .i64 (e.2.1 : Int)), .v (.int .i64 (e.2.2 : Int))]
/-- The steps, from the first states on. -/
structure Eds (u : Task) (S : List (List Int)) (i : Nat) (E : List (Nat × Nat × Nat)) : Prop where
  sound : ∀ e ∈ E, EdgeR u S e
  compl : ∀ (f : Nat) x (a : Nat) (ha : a < u.acts.length), f < i → S[f]? = some x → holdsB x u.acts[a].pre = true → ∃ t, (f, t, a) ∈ E
abbrev keyVS (x : List Int) : Value := .string (keyS x)
theorem lsS_get {S : List (List Int)} {i : Nat} (h : i < S.length) : (tLs (lsS S))[((i : Nat) : Int).toNat]? = some [tIs S[i].isEmpty S[i]] := by
  have h2 : i < (lsS S).length := by rw [List.length_map]; exact h
  have := tLs_get h2
  simp only [lsS, List.getElem_map] at this ⊢
  exact this
theorem lsS_len (S : List (List Int)) : (tLs (lsS S)).length = S.length := by rw [tLs_len, List.length_map]
theorem same_keyVS {S : List (List Int)} {x : List Int} (hx : in200 x) (hS : ∀ y ∈ S, in200 y) : ∀ y ∈ S, sameK (keyVS x) (keyVS y) = decide (x = y) := fun y hy => beq_keyS hx (hS y hy)
def kq44 : Kp := [(3, ([1, 2, 5, 14, 15, 16], [16, 104])), (9, ([2, 5, 8, 26, 27, 28], [16, 104, 424])), (12, ([2, 5, 8, 9, 10, 26, 27, 28, 35, 36, 37], [16, 104, 424]))]
theorem f44_spec (u : Task) (n1 : Bool) (S : List (List Int)) (TK : TaskOK u) (hn : S.Nodup) (hr : ∀ x ∈ S, risingB x u.facts.length = true) (hc : ∀ x ∈ S, ∀ e ∈ succ u x, e.2 ∈ S) (hl : S.length ≤ 20000) (out : List Fr) :
    SpecP Tryz.prog 44 [.task u, .t (.sl n1 1 (tLs (lsS S)))] out fun r ro => (∃ E, Eds u S S.length E ∧ E.length ≤ 1000 * S.length ∧ r = accV 424 3 (E.map tEd) ∧ ro = accO 424 106 3 (E.map tEd)) := by
  have hN := TK.facts
  have hA := TK.acts
  have hS200 : ∀ y ∈ S, in200 y := fun y hy => rising_200 (hr y hy) hN
  refine spec_body cx_ok kq44 [] (fn := Tryz.f44) (by kernel_rfl) rfl (by kernel_rfl) rfl (by unfold FnOK; kernel_rfl) fun hok => ?_
  refine LoopW.mk Nat (fun i => i ≤ S.length) (fun i => [(1, .t (.sl n1 1 (tLs (lsS S)))), (2, .ptr (.cur 16) 0), (5, .mpr (.cur 104)), (14, .t (.sl n1 1 (tLs (lsS S)))), (15, .int (tLs (lsS S)).length), (16, .int i)])
    (fun i => ⟨out, [(16, .box (cellsTask u)), (104, .mp .str (kvG keyVS 0 (S.take i)))]⟩) (fun i => S.length - i) 0 (Nat.zero_le _) ⟨rfl, rfl⟩ fun i hi0 => ?_
  refine And.intro (fun h1 => ?_) fun h1 => ?_
  · have hi : i < S.length := by have h1 : (i : Int) < (((tLs (lsS S)).length : Nat) : Int) := of_decide_eq_true h1; rw [lsS_len] at h1; omega
    have hx := hS200 _ (List.getElem_mem hi)
    have hxl := rising_len (hr _ (List.getElem_mem hi)) (by omega)
    have hup : updKV (keyVS S[i]) (.v (.int .i64 (i : Int))) (kvG keyVS 0 (S.take i)) = kvG keyVS 0 (S.take (i + 1)) := by
      have h := upd_kvG (f := keyVS) (k := 0) (l := S.take i) (x := S[i]) (fun y hy => same_keyVS hx hS200 y (List.mem_of_mem_take hy)) fun hm => by
        obtain ⟨j, hj, he⟩ := List.getElem_of_mem hm
        rw [List.length_take] at hj
        rw [List.getElem_take] at he
        exact absurd he (List.pairwise_iff_getElem.1 hn j i (by omega) hi (by omega))
      rw [List.length_take, show 0 + min i S.length = i by omega] at h
      rw [h, List.take_add_one, List.getElem?_eq_getElem hi]; rfl
    refine And.intro (Int.natCast_nonneg _) (Exists.intro _ (And.intro (lsS_get hi) ?_))
    refine SpecP.mono (f40_spec S[i].isEmpty S[i] hx hxl _) ?_
    rintro _ _ ⟨rfl, rfl⟩
    refine And.intro (by omega) (And.intro (by omega) ?_)
    refine Exists.intro (i + 1) (And.intro (by show S.length - (i + 1) < S.length - i; omega) (And.intro hi (And.intro rfl ?_)))
    show (⟨out, [(16, .box (cellsTask u)), (104, .mp .str (updKV (keyVS S[i]) (.v (.int .i64 (i : Int))) (kvG keyVS 0 (S.take i))))]⟩ : St) = _
    rw [hup]
  have hi : i = S.length := by have h1 : ¬ (i : Int) < (((tLs (lsS S)).length : Nat) : Int) := of_decide_eq_false h1; rw [lsS_len] at h1; omega
  subst hi
  rw [List.take_length]
  refine LoopW.mk (Nat × List (Nat × Nat × Nat)) (fun v => v.1 ≤ S.length ∧ Eds u S v.1 v.2 ∧ v.2.length ≤ 1000 * v.1) (fun v => [(2, .ptr (.cur 16) 0), (5, .mpr (.cur 104)), (8, accV 424 3 (v.2.map tEd)), (26, .t (.sl n1 1 (tLs (lsS S)))), (27, .int (tLs (lsS S)).length), (28, .int v.1)])
    (fun v => ⟨out, [(16, .box (cellsTask u)), (104, .mp .str (kvG keyVS 0 S))] ++ accO 424 106 3 (v.2.map tEd)⟩) (fun v => S.length - v.1) (0, []) ⟨Nat.zero_le _, ⟨fun e he => (by cases he), fun f x a ha h => (by omega)⟩, Nat.le_refl _⟩ ⟨rfl, rfl⟩ ?_
  rintro ⟨i, E⟩ ⟨hi0, hE, hEl⟩
  replace hi0 : i ≤ S.length := hi0
  replace hE : Eds u S i E := hE
  replace hEl : E.length ≤ 1000 * i := hEl
  cases E
  case' nil => let O : List (Nat × Nat × Nat) := []
  case' cons e0 E0 => let O : List (Nat × Nat × Nat) := e0 :: E0
  all_goals
    refine And.intro (fun h1 => ?_) fun h1 => ?_
    rotate_left
    · have hi : i = S.length := by have h1 : ¬ (i : Int) < (((tLs (lsS S)).length : Nat) : Int) := of_decide_eq_false h1; rw [lsS_len] at h1; omega
      subst hi
      exact Exists.intro [424] ⟨O, hE, hEl, rfl, rfl⟩
    have hi : i < S.length := by have h1 : (i : Int) < (((tLs (lsS S)).length : Nat) : Int) := of_decide_eq_true h1; rw [lsS_len] at h1; omega
    have hxS : S[i] ∈ S := List.getElem_mem hi
    have hxr := hr _ hxS
    have hxin := rising_in hxr
    refine And.intro (Int.natCast_nonneg _) (Exists.intro _ (And.intro (lsS_get hi) ?_))
    refine SpecP.mono (f41_spec u S[i].isEmpty S[i] TK _) ?_
    rintro _ _ ⟨rfl, rfl⟩
    have hAm : ∀ y, y ∈ appL u S[i] u.acts.length ↔ ∃ (k : Nat) (hk : k < u.acts.length), y = (k : Int) ∧ holdsB S[i] u.acts[k].pre = true := fun y => appL_mem
    have hAl : (appL u S[i] u.acts.length).length ≤ u.acts.length := pickF_len ..
    generalize appL u S[i] u.acts.length = A at *
    have hSi : S[i]? = some S[i] := List.getElem?_eq_getElem hi
    generalize S[i] = x at *
    refine LoopW.mk (Nat × List (Nat × Nat × Nat)) (fun v => v.1 ≤ A.length ∧ Eds u S i v.2 ∧ v.2.length ≤ 1000 * i + v.1 ∧ ∀ (m k : Nat), m < v.1 → A[m]? = some (k : Int) → ∃ t, (i, t, k) ∈ v.2) (fun v => [(2, .ptr (.cur 16) 0), (5, .mpr (.cur 104)), (8, accV 424 3 (v.2.map tEd)), (9, .int i), (10, .ints x.isEmpty x), (26, .t (.sl n1 1 (tLs (lsS S)))), (27, .int (tLs (lsS S)).length), (28, .int i), (35, .ints A.isEmpty A), (36, .int (A.map tI).length), (37, .int v.1)])
      (fun v => ⟨out, [(16, .box (cellsTask u)), (104, .mp .str (kvG keyVS 0 S))] ++ accO 424 106 3 (v.2.map tEd)⟩) (fun v => A.length - v.1) (0, O) ⟨Nat.zero_le _, hE, hEl, fun m k h => by cases h⟩ ⟨rfl, rfl⟩ ?_
    rintro ⟨j, F⟩ ⟨hj0, hF, hFl, hFd⟩
    replace hj0 : j ≤ A.length := hj0
    replace hF : Eds u S i F := hF
    replace hFl : F.length ≤ 1000 * i + j := hFl
    replace hFd : ∀ (m k : Nat), m < j → A[m]? = some (k : Int) → ∃ t, (i, t, k) ∈ F := hFd
    clear hE hEl
    cases F
    case' nil => let W : List (Nat × Nat × Nat) := []
    case' cons f0 F0 => let W : List (Nat × Nat × Nat) := f0 :: F0
    all_goals
      refine And.intro (fun h2 => ?_) fun h2 => ?_
      rotate_left
      · have hj : j = A.length := by have := ge_of_dec h2; have : j ≤ A.length := hj0; omega
        refine And.intro (by omega) (And.intro (by omega) ?_)
        refine Exists.intro (i + 1, W) (And.intro (by show S.length - (i + 1) < S.length - i; omega) (And.intro ⟨hi, ⟨hF.sound, fun f y a ha hf hy hp => ?_⟩, Nat.le_trans hFl (by show 1000 * i + j ≤ 1000 * (i + 1); omega)⟩ (And.intro rfl rfl)))
        by_cases hfi : f = i
        · subst hfi
          rw [hSi] at hy
          cases hy
          obtain ⟨m, hm⟩ := List.mem_iff_getElem?.1 ((hAm (a : Int)).2 ⟨a, ha, rfl, hp⟩)
          exact hFd m a (by have := (List.getElem?_eq_some_iff.1 hm).1; omega) hm
        · exact hF.compl f y a ha (by have : f < i + 1 := hf; omega) hy hp
      have hj : j < A.length := lt_of_dec h2
      obtain ⟨k, hk, hAj, hpre⟩ := (hAm _).1 (List.getElem_mem hj)
      have he : (u.acts[k].cost, afterL u.facts.length x u.acts[k].effs) ∈ succ u x := succ_mem hk hpre
      have hyS := hc x hxS _ he
      have m42 := f42_spec u x.isEmpty x k TK hxin hk
      have hy200 := hS200 _ hyS
      have hyl := rising_len (hr _ hyS) (by omega)
      have hAj2 : A[j]? = some (k : Int) := by rw [List.getElem?_eq_getElem hj, hAj]
      generalize hy : afterL u.facts.length x u.acts[k].effs = y at *
      refine And.intro (Int.natCast_nonneg _) (Exists.intro (tI (k : Int)) (And.intro (by rw [← hAj]; exact get_map hj) ?_))
      refine SpecP.mono (m42 _) ?_
      rintro _ _ ⟨rfl, rfl⟩
      refine SpecP.conv (conv_first fun _ _ _ _ => sT_vl) (SpecP.mono (f40_spec y.isEmpty y hy200 hyl _) ?_)
      rintro _ _ ⟨rfl, rfl⟩
      have hlk : lookKV (keyVS y) (.v (.int .i64 0)) (kvG keyVS 0 S) = .v (.int .i64 ((posG S y : Nat) : Int)) := by
        rw [look_kvG (same_keyVS hy200 hS200), if_pos hyS, Nat.zero_add]
      refine Exists.intro _ (And.intro hlk ?_)
      have hg := posG_get hyS
      generalize hpo : posG S y = po at *
      have hed : EdgeR u S (i, po, k) := ⟨x, hk, hSi, by rw [hy]; exact hg, hpre⟩
      have hWl : W.length ≤ 20001000 := Nat.le_trans hFl (by omega)
      have hl4 : ∀ X : List T, ((W.map tEd) ++ [X]).length ≤ 20001001 := fun X => by rw [List.length_append, List.length_map, List.length_singleton]; omega
      have hnew : Eds u S i (W ++ [(i, po, k)]) := ⟨fun e he => by
        rcases List.mem_append.1 he with he | he
        · exact hF.sound e he
        · rw [List.mem_singleton] at he; subst he; exact hed, fun f z a ha hf hz hp => by
        obtain ⟨t, ht⟩ := hF.compl f z a ha hf hz hp
        exact ⟨t, List.mem_append.2 (.inl ht)⟩⟩
      have hlen : (W ++ [(i, po, k)]).length ≤ 1000 * i + (j + 1) := by rw [List.length_append, List.length_singleton]; have : W.length ≤ 1000 * i + j := hFl; omega
      have hdn : ∀ (m k' : Nat), m < j + 1 → A[m]? = some (k' : Int) → ∃ t, (i, t, k') ∈ W ++ [(i, po, k)] := fun m k' hm hA' => by
        by_cases hmj : m = j
        · subst hmj
          rw [hAj2] at hA'
          have : k = k' := Int.ofNat.inj (Option.some.inj hA')
          subst this
          exact ⟨po, by simp⟩
        · obtain ⟨t, ht⟩ := hFd m k' (by omega) hA'
          exact ⟨t, List.mem_append.2 (.inl ht)⟩
      repeat first
        | refine And.intro (Nat.le_of_ble_eq_true rfl) ?_
        | refine And.intro rfl ?_
        | refine And.intro (Nat.le_trans (Nat.mul_le_mul_right _ (hl4 _)) (Nat.le_of_ble_eq_true rfl)) ?_
        | refine And.intro (Nat.le_trans (hl4 _) (Nat.le_of_ble_eq_true rfl)) ?_
      refine And.intro (by show (-9223372036854775808 : Int) ≤ (j : Int) + 1; omega) (And.intro (by show (j : Int) + 1 ≤ 9223372036854775807; omega) ?_)
      first
        | exact Exists.intro (j + 1, [(i, po, k)]) (And.intro (by show A.length - (j + 1) < A.length - j; omega) (And.intro ⟨hj, hnew, hlen, hdn⟩ (And.intro rfl rfl)))
        | (refine Exists.intro (j + 1, f0 :: (F0 ++ [(i, po, k)])) (And.intro (by show A.length - (j + 1) < A.length - j; omega) (And.intro ⟨hj, hnew, hlen, hdn⟩ ?_))
           have e : (F0 ++ [(i, po, k)]).map tEd = F0.map tEd ++ [tEd (i, po, k)] := by simp
           simp only [List.map_cons, e]
           exact And.intro rfl rfl)

end Go.Fw

/- Costs to goals, made better until no edge makes one better: the plain law. -/
namespace Go.Fw.Bel

/-- A way from a node to a goal. -/
inductive Wk (E : List (Nat × Nat × Int)) (goal : Nat → Bool) : Nat → Int → Prop
  | goal {x : Nat} (h : goal x = true) : Wk E goal x 0
  | step {x y : Nat} {c d : Int} (h : (x, y, c) ∈ E) (p : Wk E goal y d) : Wk E goal x (c + d)
def cnt (D : List Int) : Nat := D.countP fun d => decide (0 ≤ d)
/-- What the costs are, at any time. -/
structure BI (E : List (Nat × Nat × Int)) (goal : Nat → Bool) (C : Nat) (D : List Int) : Prop where
  zero : ∀ (x : Nat) d, D[x]? = some d → goal x = true → d = 0
  way : ∀ (x : Nat) d, D[x]? = some d → 0 ≤ d → Wk E goal x d
  top : ∀ (x : Nat) d, D[x]? = some d → d ≤ C * ((cnt D : Int) - 1) ∨ d < 0
def wgt (B : Nat) (d : Int) : Nat := if d < 0 then B + 1 else d.toNat
def mea (B : Nat) (D : List Int) : Nat := (D.map (wgt B)).sum
theorem cnt_le (D : List Int) : cnt D ≤ D.length := List.countP_le_length
theorem cnt_set : ∀ {D : List Int} {f : Nat} {o v : Int}, D[f]? = some o → 0 ≤ v → cnt (D.set f v) = cnt D + if o < 0 then 1 else 0
  | [], f, o, v, h, _ => by simp at h
  | d :: r, 0, o, v, h, hv => by
    simp at h; subst h
    simp only [List.set_cons_zero, cnt, List.countP_cons, decide_eq_true hv]
    by_cases h : d < 0
    · rw [if_pos h, show decide (0 ≤ d) = false by simp; omega]; simp
    · rw [if_neg h, decide_eq_true (by omega)]; simp
  | d :: r, f + 1, o, v, h, hv => by
    have ih := cnt_set (D := r) (f := f) (o := o) (v := v) (by simpa using h) hv
    simp only [List.set_cons_succ, cnt, List.countP_cons] at ih ⊢
    omega
theorem mea_set (B : Nat) : ∀ {D : List Int} {f : Nat} {o v : Int}, D[f]? = some o → wgt B v < wgt B o → mea B (D.set f v) < mea B D
  | [], f, o, v, h, _ => by simp at h
  | d :: r, 0, o, v, h, hv => by
    simp at h; subst h
    simp only [List.set_cons_zero, mea, List.map_cons, List.sum_cons]; omega
  | d :: r, f + 1, o, v, h, hv => by
    have ih := mea_set B (D := r) (f := f) (o := o) (v := v) (by simpa using h) hv
    simp only [List.set_cons_succ, mea, List.map_cons, List.sum_cons] at ih ⊢
    omega
variable {E : List (Nat × Nat × Int)} {goal : Nat → Bool} {C : Nat} {D : List Int}
theorem BI.pos (h : BI E goal C D) {x : Nat} {d : Int} (hx : D[x]? = some d) (h0 : 0 ≤ d) : d ≤ C * ((cnt D : Int) - 1) := (h.top x d hx).elim id fun h => by omega
theorem BI.bound (h : BI E goal C D) {x : Nat} {d : Int} (hx : D[x]? = some d) (h0 : 0 ≤ d) : d ≤ ((C * D.length : Nat) : Int) := by
  have h1 := h.pos hx h0
  have h2 := cnt_le D
  have h3 : (C : Int) * ((cnt D : Int) - 1) ≤ (C : Int) * (D.length : Int) := Int.mul_le_mul_of_nonneg_left (by omega) (by omega)
  rw [Int.natCast_mul]; omega
/-- An edge makes a cost better. -/
theorem BI.better (h : BI E goal C D) {f t : Nat} {c o v : Int} (he : (f, t, c) ∈ E) (hc : 0 ≤ c ∧ c ≤ C) (ht : D[t]? = some v) (hv : 0 ≤ v) (hf : D[f]? = some o) (hb : o < 0 ∨ v + c < o) :
    BI E goal C (D.set f (v + c)) ∧ mea (C * D.length) (D.set f (v + c)) < mea (C * D.length) D := by
  have hcs := cnt_set hf (show 0 ≤ v + c by omega)
  have hvt := h.pos ht hv
  have hlen : f < D.length := (List.getElem?_eq_some_iff.1 hf).1
  have hget : ∀ x d, (D.set f (v + c))[x]? = some d → (x = f ∧ d = v + c) ∨ (x ≠ f ∧ D[x]? = some d) := fun x d hx => by
    rw [List.getElem?_set] at hx
    split at hx
    · rename_i he
      exact .inl ⟨he.symm, (Option.some.inj hx).symm⟩
    · rename_i hne
      exact .inr ⟨fun h => hne h.symm, hx⟩
  have hnew : v + c ≤ C * ((cnt (D.set f (v + c)) : Int) - 1) := by
    by_cases ho : o < 0
    · rw [hcs, if_pos ho]
      have e : (C : Int) * (((cnt D + 1 : Nat) : Int) - 1) = C * ((cnt D : Int) - 1) + C := by
        rw [Int.natCast_add, show ((cnt D : Int) + ((1 : Nat) : Int) - 1) = ((cnt D : Int) - 1) + 1 by omega, Int.mul_add, Int.mul_one]
      rw [e]; omega
    · rw [hcs, if_neg ho, Nat.add_zero]
      have := h.pos hf (by omega)
      omega
  refine ⟨⟨fun x d hx hg => ?_, fun x d hx h0 => ?_, fun x d hx => ?_⟩, mea_set _ hf ?_⟩
  · rcases hget x d hx with ⟨rfl, rfl⟩ | ⟨_, hx⟩
    · have := h.zero _ _ hf hg
      omega
    · exact h.zero x d hx hg
  · rcases hget x d hx with ⟨rfl, rfl⟩ | ⟨_, hx⟩
    · rw [Int.add_comm]; exact .step he (h.way t v ht hv)
    · exact h.way x d hx h0
  · rcases hget x d hx with ⟨rfl, rfl⟩ | ⟨_, hx⟩
    · exact .inl hnew
    · rcases h.top x d hx with h1 | h1
      · left
        have : (C : Int) * ((cnt D : Int) - 1) ≤ C * ((cnt (D.set f (v + c)) : Int) - 1) := Int.mul_le_mul_of_nonneg_left (by rw [hcs]; omega) (by omega)
        omega
      · exact .inr h1
  · unfold wgt
    rw [if_neg (by omega)]
    split
    · have hb := h.bound ht hv
      have hc2 := cnt_le D
      have h1 : (C : Int) * ((cnt D : Int) - 1) + C ≤ ((C * D.length : Nat) : Int) := by
        have : (C : Int) * (((cnt D : Int) - 1) + 1) ≤ C * (D.length : Int) := Int.mul_le_mul_of_nonneg_left (by omega) (by omega)
        rw [Int.mul_add, Int.mul_one] at this
        rw [Int.natCast_mul]; exact this
      omega
    · omega
/-- Where no edge makes a cost better, the costs are the least ones. -/
theorem BI.least (h : BI E goal C D) (hE : ∀ f t c, (f, t, c) ∈ E → ∃ o v, D[f]? = some o ∧ D[t]? = some v ∧ (0 ≤ v → 0 ≤ o ∧ o ≤ v + c)) {x : Nat} {d a : Int} (hx : D[x]? = some a) (p : Wk E goal x d) : 0 ≤ a ∧ a ≤ d := by
  induction p generalizing a with
  | goal hg => have := h.zero _ _ hx hg; omega
  | step he _ ih =>
    obtain ⟨o, v, h1, h2, h3⟩ := hE _ _ _ he
    rw [hx] at h1
    cases h1
    have := ih h2
    have := h3 this.1
    omega

end Go.Fw.Bel

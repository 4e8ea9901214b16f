/- Plans and projections. -/
import Derived.Test.YtkelfldopopgcaaZP

/- A projection of a valid task is a valid task, and loses no plan: the plain law. -/
namespace Go.Fw
open Go Go.Proofs
set_option maxRecDepth 10000

/-! ### Facts, conditions -/
theorem facts_has {p s : List Int} (hp : p.Pairwise (· < ·)) {y : Nat} (hy : y < p.length) : hasB (factsL p s) (y : Int) = hasB s p[y] := by
  rw [Bool.eq_iff_iff, hasB_mem, factsL, List.mem_map, hasB_mem]
  constructor
  · rintro ⟨x, hx, he⟩
    obtain ⟨h1, h2⟩ := List.mem_filter.1 hx
    have h3 := posI_get h2
    rw [he, Int.toNat_natCast, List.getElem?_eq_getElem hy] at h3
    cases h3
    exact h1
  · intro h
    have hin : hasB p p[y] = true := hasB_mem.2 (List.getElem_mem hy)
    refine ⟨p[y], List.mem_filter.2 ⟨h, hin⟩, ?_⟩
    have h4 := posI_in hin
    obtain ⟨h5, h6⟩ := List.getElem?_eq_some_iff.1 (posI_get hin)
    have := inc_inj hp h5 hy h6
    omega
theorem facts_has' {p s : List Int} (hp : p.Pairwise (· < ·)) {x : Int} (hx : hasB p x = true) : hasB (factsL p s) (posI p x) = hasB s x := by
  have h4 := posI_in hx
  obtain ⟨h5, h6⟩ := List.getElem?_eq_some_iff.1 (posI_get hx)
  have := facts_has (s := s) hp h5
  rw [h6, Int.toNat_of_nonneg h4.1] at this
  exact this
theorem holds_proj {p s : List Int} (hp : p.Pairwise (· < ·)) {l : List Lit} (h : holdsB s l = true) : holdsB (factsL p s) (litsL p l) = true := by
  refine List.all_eq_true.2 fun x hx => ?_
  obtain ⟨y, hy, rfl⟩ := List.mem_map.1 hx
  obtain ⟨h1, h2⟩ := List.mem_filter.1 hy
  show (hasB (factsL p s) (posI p y.fact) != y.neg) = true
  rw [facts_has' hp h2]
  exact List.all_eq_true.1 h y h1
theorem holds_proj_iff {p s : List Int} (hp : p.Pairwise (· < ·)) {l : List Lit} (hl : ∀ x ∈ l, hasB p x.fact = true) : holdsB (factsL p s) (litsL p l) = holdsB s l := by
  rw [Bool.eq_iff_iff]
  refine ⟨fun h => List.all_eq_true.2 fun x hx => ?_, holds_proj hp⟩
  have := List.all_eq_true.1 h ⟨posI p x.fact, x.neg⟩ (List.mem_map.2 ⟨x, List.mem_filter.2 ⟨hx, hl x hx⟩, rfl⟩)
  have e : hasB (factsL p s) (posI p x.fact) = hasB s x.fact := facts_has' hp (hl x hx)
  simp only [e] at this
  exact this

/-! ### Effects -/
theorem any_proj {p s : List Int} {l : List Eff} (hp : p.Pairwise (· < ·)) (hc : ∀ e ∈ l, clE p e = true) (v : Bool) {y : Nat} (hy : y < p.length) :
    (projEs p l).any (fun e => ((v == e.lit.neg) && holdsB (factsL p s) e.when_) && e.lit.fact == (y : Int)) = l.any fun e => ((v == e.lit.neg) && holdsB s e.when_) && e.lit.fact == p[y] := by
  rw [Bool.eq_iff_iff, List.any_eq_true, List.any_eq_true]
  constructor
  · rintro ⟨e, he, h⟩
    obtain ⟨e0, h0, rfl⟩ := List.mem_map.1 he
    obtain ⟨h1, h2⟩ := List.mem_filter.1 h0
    simp only [Bool.and_eq_true, beq_iff_eq] at h ⊢
    obtain ⟨⟨h3, h4⟩, h5⟩ := h
    have h4 : holdsB (factsL p s) (litsL p e0.when_) = true := h4
    rw [holds_proj_iff hp (clE_iff.1 (hc _ h1) h2)] at h4
    have h5 : posI p e0.lit.fact = (y : Int) := h5
    refine ⟨e0, h1, ⟨h3, h4⟩, ?_⟩
    have h6 := posI_get h2
    rw [h5, Int.toNat_natCast, List.getElem?_eq_getElem hy] at h6
    exact (Option.some.inj h6).symm
  · rintro ⟨e0, h1, h⟩
    simp only [Bool.and_eq_true, beq_iff_eq] at h ⊢
    obtain ⟨⟨h3, h4⟩, h5⟩ := h
    have h2 : hasB p e0.lit.fact = true := by rw [h5]; exact hasB_mem.2 (List.getElem_mem hy)
    refine ⟨projE p e0, List.mem_map.2 ⟨e0, List.mem_filter.2 ⟨h1, h2⟩, rfl⟩, ⟨h3, ?_⟩, ?_⟩
    · show holdsB (factsL p s) (litsL p e0.when_) = true
      rw [holds_proj_iff hp (clE_iff.1 (hc _ h1) h2)]; exact h4
    · show posI p e0.lit.fact = (y : Int)
      have h4 := posI_in h2
      obtain ⟨h6, h7⟩ := List.getElem?_eq_some_iff.1 (posI_get h2)
      have := inc_inj hp h6 hy (h7.trans h5)
      omega
theorem pos_any (s : List Int) (l : List Eff) (x : Int) : posB s l x = l.any fun e => ((false == e.lit.neg) && holdsB s e.when_) && e.lit.fact == x := by
  unfold posB; congr 1; funext e; cases e.lit.neg <;> rfl
theorem neg_any (s : List Int) (l : List Eff) (x : Int) : negB s l x = l.any fun e => ((true == e.lit.neg) && holdsB s e.when_) && e.lit.fact == x := by
  unfold negB; congr 1; funext e; cases e.lit.neg <;> rfl
theorem projEs_in (p : List Int) (l : List Eff) : factsIn p.length (projEs p l) := fun e he => by
  obtain ⟨e0, h0, rfl⟩ := List.mem_map.1 he
  exact posI_in (List.mem_filter.1 h0).2
/-- Projecting the state after an action. -/
theorem after_proj {n : Nat} {p s : List Int} {l : List Eff} (hp : risingB p n = true) (hs : risingB s n = true) (hl : factsIn n l) (hc : ∀ e ∈ l, clE p e = true) : afterL p.length (factsL p s) (projEs p l) = factsL p (afterL n s l) := by
  have hpi := rising_inc hp
  have hfs := facts_rising hpi hs
  have hfa := facts_rising hpi (after_rising n s l)
  have hr := after_rising p.length (factsL p s) (projEs p l)
  refine inc_ext (rising_inc hr) (rising_inc hfa) fun x => ?_
  have key : ∀ y : Nat, y < p.length → hasB (afterL p.length (factsL p s) (projEs p l)) (y : Int) = hasB (factsL p (afterL n s l)) (y : Int) := fun y hy => by
    have hyn := rising_in hp _ (List.getElem_mem hy)
    obtain ⟨f, hf⟩ : ∃ f : Nat, p[y] = (f : Int) := ⟨p[y].toNat, by omega⟩
    rw [after_get (projEs_in p l) (rising_in hfs) hy, facts_has hpi hy, facts_has hpi hy, pos_any, neg_any, any_proj hpi hc _ hy, any_proj hpi hc _ hy, ← pos_any, ← neg_any, hf, after_get hl (rising_in hs) (by omega)]
  constructor
  · intro hx
    have h := rising_in hr x hx
    have := key x.toNat (by omega)
    rw [Int.toNat_of_nonneg h.1] at this
    exact hasB_mem.1 (this ▸ hasB_mem.2 hx)
  · intro hx
    have h := rising_in hfa x hx
    have := key x.toNat (by omega)
    rw [Int.toNat_of_nonneg h.1] at this
    exact hasB_mem.1 (this.symm ▸ hasB_mem.2 hx)

/-! ### The projected task is valid -/
theorem cond_proj {p : List Int} {l : List Lit} {n : Nat} (hp : p.Pairwise (· < ·)) (h : condB l n = true) : condB (litsL p l) p.length = true := by
  have e : (litsL p l).map (·.fact) = factsL p (l.map (·.fact)) := by
    rw [litsL, factsL, List.map_map, List.filter_map, List.map_map]; rfl
  rw [condB, e]; exact facts_rising hp h
theorem names_iff {l : List ByteArray} : namesB l = true ↔ ∀ i, i < l.length → chkS l i = true := by
  rw [namesB, List.all_eq_true]
  exact ⟨fun h i hi => h i (List.mem_range.2 hi), fun h i hi => h i (List.mem_range.1 hi)⟩
theorem factS_get {t : Task} {x : Int} (h0 : 0 ≤ x) (h1 : x < (t.facts.length : Int)) : factS t x = atS t.facts x.toNat := by
  have hl : x.toNat < t.facts.length := by omega
  rw [factS, atS, List.getD_eq_getElem?_getD]
theorem names_proj {t : Task} {p : List Int} (hp : risingB p t.facts.length = true) (h : namesB t.facts = true) : namesB (p.map (factS t)) = true := by
  have hpi := rising_inc hp
  refine names_iff.2 fun i hi => ?_
  rw [List.length_map] at hi
  have hr := rising_in hp _ (List.getElem_mem hi)
  have h1 := names_iff.1 h p[i].toNat (by omega)
  have e : atS (p.map (factS t)) i = atS t.facts p[i].toNat := by
    rw [atS, List.getElem?_map, List.getElem?_eq_getElem hi, ← factS_get hr.1 hr.2]; rfl
  rw [chkS, Bool.and_eq_true, Bool.not_eq_true', List.any_eq_false] at h1 ⊢
  rw [e]
  refine ⟨h1.1, fun x hx => ?_⟩
  obtain ⟨j, hj, rfl⟩ := List.getElem_of_mem hx
  rw [List.length_take, List.length_map] at hj
  have hj2 : j < p.length := by omega
  have hrj := rising_in hp _ (List.getElem_mem hj2)
  have hlt := List.pairwise_iff_getElem.1 hpi j i hj2 hi (by omega)
  rw [List.getElem_take, List.getElem_map]
  refine h1.2 _ (List.mem_iff_getElem?.2 ⟨p[j].toNat, ?_⟩)
  rw [List.getElem?_take, if_pos (by omega), factS_get hrj.1 hrj.2, atS, List.getElem?_eq_getElem (by omega)]; rfl
theorem isB_parts {t : Task} : isB t = true ↔ t.facts.length ≤ 200 ∧ namesB t.facts = true ∧ risingB t.init t.facts.length = true ∧ condB t.goal t.facts.length = true ∧ t.acts.length ≤ 1000 ∧ (∀ a ∈ t.acts, actB t.facts.length a = true) ∧ namesB (t.acts.map (·.name)) = true := by
  simp only [isB, Bool.and_eq_true, decide_eq_true_eq, List.all_eq_true]
  exact ⟨fun ⟨⟨⟨⟨⟨⟨a, b⟩, c⟩, d⟩, e⟩, f⟩, g⟩ => ⟨a, b, c, d, e, f, g⟩, fun ⟨a, b, c, d, e, f, g⟩ => ⟨⟨⟨⟨⟨⟨a, b⟩, c⟩, d⟩, e⟩, f⟩, g⟩⟩
theorem projT_is {t : Task} {p : List Int} (h : isB t = true) (hp : risingB p t.facts.length = true) : isB (projT t p) = true := by
  obtain ⟨h1, h2, h3, h4, h5, h6, h7⟩ := isB_parts.1 h
  have hpi := rising_inc hp
  have hpl := rising_le hp
  have hl : (projT t p).facts.length = p.length := List.length_map ..
  refine isB_parts.2 ⟨by rw [hl]; omega, names_proj hp h2, by rw [hl]; exact facts_rising hpi h3, by rw [hl]; exact cond_proj hpi h4, by show (t.acts.map _).length ≤ _; rw [List.length_map]; exact h5, fun a ha => ?_, ?_⟩
  · obtain ⟨a0, h0, rfl⟩ := List.mem_map.1 ha
    have := h6 a0 h0
    rw [hl]
    simp only [actB, Bool.and_eq_true, decide_eq_true_eq, List.all_eq_true] at this ⊢
    obtain ⟨⟨⟨⟨g1, g2⟩, g3⟩, g4⟩, g5⟩ := this
    refine ⟨⟨⟨⟨g1, g2⟩, cond_proj hpi g3⟩, Nat.le_trans (projEs_len p a0.effs) g4⟩, fun e he => ?_⟩
    obtain ⟨e0, he0, rfl⟩ := List.mem_map.1 he
    obtain ⟨q1, q2⟩ := List.mem_filter.1 he0
    have := g5 e0 q1
    simp only [effB, Bool.and_eq_true, decide_eq_true_eq] at this ⊢
    exact ⟨⟨cond_proj hpi this.1.1, (posI_in q2).1⟩, (posI_in q2).2⟩
  · have e : (projT t p).acts.map (·.name) = t.acts.map (·.name) := by
      show (t.acts.map (projA p)).map _ = _
      rw [List.map_map]; rfl
    rw [e]; exact h7

/-! ### Plans -/
theorem plan_proj {t : Task} {p l : List Int} : planB (projT t p) l = planB t l := by
  have e : (projT t p).acts.length = t.acts.length := List.length_map ..
  simp only [planB, e]
theorem pAct_proj {t : Task} {p l : List Int} (hl : planB t l = true) {i : Nat} (hi : i < l.length) : pAct (projT t p) l i = projA p (pAct t l i) := by
  obtain ⟨k, _, hk, h1, h2, _⟩ := plan_get hl hi
  have e : (projT t p).acts[(l.getD i 0).toNat]? = (t.acts[(l.getD i 0).toNat]?).map (projA p) := by
    show (t.acts.map (projA p))[(l.getD i 0).toNat]? = _
    rw [List.getElem?_map]
  rw [pAct, e, h2]; rfl
theorem pAct_mem {t : Task} {l : List Int} (hl : planB t l = true) {i : Nat} (hi : i < l.length) : pAct t l i ∈ t.acts := by
  obtain ⟨k, _, hk, h1, _, _⟩ := plan_get hl hi
  rw [h1]; exact List.getElem_mem hk
theorem closed_all {t : Task} {p : List Int} (hc : closedB t p = true) : ∀ a ∈ t.acts, ∀ e ∈ a.effs, clE p e = true := fun a ha e he => List.all_eq_true.1 (List.all_eq_true.1 hc a ha) e he
theorem stAt_proj {t : Task} {p s l : List Int} (TK : TaskOK t) (hp : risingB p t.facts.length = true) (hc : closedB t p = true) (hs : risingB s t.facts.length = true) (hl : planB t l = true) :
    ∀ i, i ≤ l.length → stAt (projT t p) (factsL p s) l i = factsL p (stAt t s l i)
  | 0, _ => rfl
  | i + 1, hi => by
    have ha := pAct_mem hl hi
    rw [stAt, stAt_proj TK hp hc hs hl i (by omega), pAct_proj hl hi, stAt]
    have e : (projT t p).facts.length = p.length := List.length_map ..
    rw [e]
    exact after_proj hp (st_rising hs i) (TK.lit _ ha) (closed_all hc _ ha)
theorem costAt_proj {t : Task} {p l : List Int} (hl : planB t l = true) : ∀ i, i ≤ l.length → costAt (projT t p) l i = costAt t l i
  | 0, _ => rfl
  | i + 1, hi => by rw [costAt, costAt_proj hl i (by omega), pAct_proj hl hi, costAt]; rfl
/-- A plan is a plan of each projection. -/
theorem valid_proj {t : Task} {p s l : List Int} (TK : TaskOK t) (hp : risingB p t.facts.length = true) (hc : closedB t p = true) (hs : risingB s t.facts.length = true) (V : Valid t s l) : Valid (projT t p) (factsL p s) l := by
  have hpi := rising_inc hp
  refine ⟨by rw [plan_proj]; exact V.plan, fun i hi => ?_, ?_⟩
  · rw [okAt, stAt_proj TK hp hc hs V.plan i (by omega), pAct_proj V.plan hi]
    exact holds_proj hpi (V.ok i hi)
  · rw [stAt_proj TK hp hc hs V.plan _ (Nat.le_refl _)]
    exact holds_proj hpi V.goal

/-! ### Costs -/
/-- What the actions of a plan cost that touch a pattern. -/
def tcost (t : Task) (l p : List Int) : Nat → Int
  | 0 => 0
  | i + 1 => tcost t l p i + if touchB (pAct t l i) p = true then (pAct t l i).cost else 0
theorem after_same {n : Nat} {p s : List Int} {l : List Eff} (hp : risingB p n = true) (hs : risingB s n = true) (hl : factsIn n l) (hn : (l.any fun e => hasB p e.lit.fact) = false) : factsL p (afterL n s l) = factsL p s := by
  have hpi := rising_inc hp
  have e : projEs p l = [] := by
    rw [projEs, List.map_eq_nil_iff, List.filter_eq_nil_iff]
    intro x hx; exact List.any_eq_false.1 hn x hx
  have hc : ∀ e ∈ l, clE p e = true := fun e he => clE_iff.2 fun h => absurd h (List.any_eq_false.1 hn e he)
  rw [← after_proj hp hs hl hc, e]
  have hfs := facts_rising hpi hs
  refine inc_ext (rising_inc (after_rising ..)) (rising_inc hfs) fun x => ?_
  have key : ∀ y : Nat, y < p.length → hasB (afterL p.length (factsL p s) []) (y : Int) = hasB (factsL p s) (y : Int) := fun y hy => by
    rw [after_get (fun e he => by cases he) (rising_in hfs) hy]
    simp [negB, posB]
  constructor
  · intro hx
    have h := after_in _ _ _ x hx
    have := key x.toNat (by omega)
    rw [Int.toNat_of_nonneg h.1] at this
    exact hasB_mem.1 (this ▸ hasB_mem.2 hx)
  · intro hx
    have h := rising_in hfs x hx
    have := key x.toNat (by omega)
    rw [Int.toNat_of_nonneg h.1] at this
    exact hasB_mem.1 (this.symm ▸ hasB_mem.2 hx)
/-- The actions of a plan that touch a pattern are a way in its projection. -/
theorem way_proj {t : Task} {p s l : List Int} (TK : TaskOK t) (hp : risingB p t.facts.length = true) (hc : closedB t p = true) (hs : risingB s t.facts.length = true) (V : Valid t s l) :
    ∀ i, i ≤ l.length → Way (projT t p) (factsL p s) (tcost t l p i) (factsL p (stAt t s l i))
  | 0, _ => .nil _
  | i + 1, hi => by
    have ih := way_proj TK hp hc hs V i (by omega)
    have ha := pAct_mem V.plan hi
    have hr := st_rising (p := l) hs i
    rw [tcost, stAt]
    cases hb : touchB (pAct t l i) p with
    | false =>
      rw [if_neg Bool.noConfusion, Int.add_zero, after_same hp hr (TK.lit _ ha) hb]
      exact ih
    | true =>
      rw [if_pos rfl]
      refine ih.snoc (List.mem_map.2 ⟨projA p (pAct t l i), List.mem_filter.2 ⟨List.mem_map_of_mem ha, holds_proj (rising_inc hp) (V.ok i hi)⟩, ?_⟩)
      have e : (projT t p).facts.length = p.length := List.length_map ..
      rw [← after_proj hp hr (TK.lit _ ha) (closed_all hc _ ha), e]; rfl
theorem tcost_le {t : Task} {p l : List Int} (TK : TaskOK t) (hl : planB t l = true) : ∀ i, i ≤ l.length → tcost t l p i ≤ costAt t l i
  | 0, _ => Int.le_refl _
  | i + 1, hi => by
    have ih := tcost_le (p := p) TK hl i (by omega)
    have h := TK.cost _ (pAct_mem hl hi)
    rw [tcost, costAt]; split <;> omega
/-- What additive patterns take from a plan together. -/
theorem tcost_sum {t : Task} {l : List Int} (TK : TaskOK t) (hl : planB t l = true) (ps : List (Bool × List Int)) (hadd : addB t ps = true) : ∀ i, i ≤ l.length → (ps.map fun p => tcost t l p.2 i).sum ≤ costAt t l i
  | 0, _ => by
    have : (ps.map fun p => tcost t l p.2 0).sum = 0 := by
      induction ps with
      | nil => rfl
      | cons x r ih => 
        rw [List.map_cons, List.sum_cons, ih]
        · rfl
        · refine List.all_eq_true.2 fun a ha => ?_
          have := of_decide_eq_true (List.all_eq_true.1 hadd a ha)
          rw [List.countP_cons] at this
          exact decide_eq_true (by omega)
    rw [this]; exact Int.le_refl _
  | i + 1, hi => by
    have ih := tcost_sum TK hl ps hadd i (by omega)
    have h := TK.cost _ (pAct_mem hl hi)
    have hcnt := of_decide_eq_true (List.all_eq_true.1 hadd _ (pAct_mem hl hi))
    have e : ∀ q : List (Bool × List Int), (q.map fun p => tcost t l p.2 (i + 1)).sum = (q.map fun p => tcost t l p.2 i).sum + ((q.countP fun p => touchB (pAct t l i) p.2 : Nat) : Int) * (pAct t l i).cost := by
      intro q
      induction q with
      | nil => simp
      | cons x r ih =>
        rw [List.map_cons, List.sum_cons, ih, List.map_cons, List.sum_cons, List.countP_cons, tcost]
        split
        · rw [Int.natCast_add, Int.add_mul]; omega
        · rw [Nat.add_zero]; omega
    rw [e, costAt]
    have : ((ps.countP fun p => touchB (pAct t l i) p.2 : Nat) : Int) * (pAct t l i).cost ≤ 1 * (pAct t l i).cost := Int.mul_le_mul_of_nonneg_right (by omega) h.1
    omega

end Go.Fw

/- What costs of patterns say where there is a plan; the law's own functions. -/
namespace Go.Fw
open Go Go.Proofs
set_option maxRecDepth 10000

theorem says_plan {t : Task} {p s l : List Int} (TK : TaskOK t) (hp : risingB p t.facts.length = true) (hc : closedB t p = true) (hs : risingB s t.facts.length = true) (V : Valid t s l) (h10 : p.length ≤ 10) {r : LV}
    (h : OptR (projT t p) (factsL p s) r) : ∃ c : Int, 0 ≤ c ∧ c ≤ tcost t l p l.length ∧ r = .tup [.int c, .int 0] := by
  have hl : (projT t p).facts.length = p.length := List.length_map ..
  have hpi := rising_inc hp
  have w := way_proj TK hp hc hs V _ (Nat.le_refl _)
  have g : holdsB (factsL p (stAt t s l l.length)) (projT t p).goal = true := holds_proj hpi V.goal
  rcases h.small (by rw [hl]; exact facts_rising hpi hs) (by omega) with ⟨_, h1⟩ | ⟨c, h0, _, hc, rfl⟩
  · have := h1 _ _ w; rw [g] at this; cases this
  · exact ⟨c, h0, hc.2 _ _ g w, rfl⟩
theorem sum_le : ∀ {C D : List Int}, C.length = D.length → (∀ (i : Nat) c d, C[i]? = some c → D[i]? = some d → c ≤ d) → C.sum ≤ D.sum
  | [], [], _, _ => Int.le_refl _
  | c :: r, d :: q, hl, h => by
    rw [List.sum_cons, List.sum_cons]
    have h0 := h 0 c d rfl rfl
    have := sum_le (C := r) (D := q) (by simpa using hl) fun i a b ha hb => h (i + 1) a b ha hb
    omega
theorem sum_nonneg : ∀ {C : List Int}, (∀ c ∈ C, 0 ≤ c) → 0 ≤ C.sum
  | [], _ => Int.le_refl _
  | c :: r, h => by
    rw [List.sum_cons]
    have := h c (List.mem_cons_self ..)
    have := sum_nonneg (C := r) fun x hx => h x (List.mem_cons_of_mem _ hx)
    omega
theorem foldl_max {m : Int} : ∀ {C : List Int} {a : Int}, a ≤ m → (∀ c ∈ C, c ≤ m) → C.foldl max a ≤ m ∧ a ≤ C.foldl max a
  | [], a, ha, _ => ⟨ha, Int.le_refl _⟩
  | c :: r, a, ha, h => by
    have hc := h c (List.mem_cons_self ..)
    have := foldl_max (C := r) (a := max a c) (by omega) fun x hx => h x (List.mem_cons_of_mem _ hx)
    exact ⟨this.1, by have := this.2; rw [List.foldl_cons]; omega⟩
/-- What several patterns say together is not more than a plan costs. -/
theorem best_plan {t : Task} {s l : List Int} {ps : List (Bool × List Int)} (TK : TaskOK t) (hs : risingB s t.facts.length = true) (V : Valid t s l) (hg : givenI t s ps = 0) (h10 : ∀ p ∈ ps, p.2.length ≤ 10) {r : LV} (h : BestR t s ps r) :
    ∃ b : Int, 0 ≤ b ∧ b ≤ costAt t l l.length ∧ r = .tup [.int b, .int 0] := by
  obtain ⟨_, _, hps⟩ := given_ok hg
  have one : ∀ p ∈ ps, ∀ r, SaysR t s p r → ∃ c : Int, 0 ≤ c ∧ c ≤ tcost t l p.2 l.length ∧ r = .tup [.int c, .int 0] := fun p hp r hr => says_plan TK (hps p hp).1 (hps p hp).2 hs V (h10 p hp) hr
  cases h with
  | bad h => exact absurd hg h
  | space _ p hp hr => obtain ⟨c, _, _, h⟩ := one p hp _ hr; cases h
  | none _ p hp hr => obtain ⟨c, _, _, h⟩ := one p hp _ hr; cases h
  | ok _ C hl hC =>
    have bd : ∀ (i : Nat) c, C[i]? = some c → ∃ p ∈ ps, ps[i]? = some p ∧ 0 ≤ c ∧ c ≤ tcost t l p.2 l.length := fun i c hi => by
      obtain ⟨hlt, _⟩ := List.getElem?_eq_some_iff.1 hi
      have hpg : ps[i]? = some (ps[i]'(by omega)) := List.getElem?_eq_getElem (by omega)
      have hm : (ps[i]'(by omega)) ∈ ps := List.getElem_mem _
      obtain ⟨c', h0, h1, h2⟩ := one _ hm _ (hC i c _ hi hpg)
      cases h2
      exact ⟨_, hm, hpg, h0, h1⟩
    have hn : ∀ c ∈ C, 0 ≤ c ∧ c ≤ costAt t l l.length := fun c hc => by
      obtain ⟨i, hi⟩ := List.mem_iff_getElem?.1 hc
      obtain ⟨p, _, _, h0, h1⟩ := bd i c hi
      have := tcost_le (p := p.2) TK V.plan l.length (Nat.le_refl _)
      omega
    have hc0 : 0 ≤ costAt t l l.length := (costAt_in TK V.plan l.length (Nat.le_refl _)).1
    refine ⟨_, ?_, ?_, rfl⟩
    · split
      · exact sum_nonneg fun c hc => (hn c hc).1
      · exact (foldl_max (C := C) (a := 0) hc0 fun c hc => (hn c hc).2).2
    · split
      · rename_i ha
        refine Int.le_trans ?_ (tcost_sum TK V.plan ps ha l.length (Nat.le_refl _))
        refine sum_le (by rw [List.length_map]; exact hl) fun i c d hi hd => ?_
        obtain ⟨p, _, hp, _, h1⟩ := bd i c hi
        rw [List.getElem?_map, hp] at hd
        cases hd
        exact h1
      · exact (foldl_max (C := C) (a := 0) hc0 fun c hc => (hn c hc).2).1

/-! ### The law's own functions -/
def kq11 : Kp := [(3, ([3, 6, 7, 8], []))]
/-- Few says yes of short lists only if there are few. -/
def FewB (l : List (Bool × List Int)) (b : Bool) : Prop := b = true → (∀ p ∈ l, p.2.length ≤ 1000) → l.length ≤ 10000000000000 → l.length ≤ 300
theorem f11b_spec (n1 : Bool) (l : List (Bool × List Int)) (out : List Fr) : SpecP Try.prog 11 [.t (.sl n1 1 (tLs l))] out fun r ro => ∃ b : Bool, FewB l b ∧ r = .bool b ∧ ro = [] := by
  refine spec_body cxw_ok kq11 [] (fn := Try.f11) (by kernel_rfl) rfl (by kernel_rfl) rfl (by unfold FnOK; kernel_rfl) fun hok => ?_
  have hmx : (l.length : Int) ≤ 9223372036854775807 := by have := hok.1.1; rw [tLs_len] at this; unfold maxLen at this; omega
  refine LoopW.mk (Nat × Int) (fun u => u.1 ≤ l.length ∧ ((∀ p ∈ l, p.2.length ≤ 1000) → l.length ≤ 10000000000000 → (u.1 : Int) ≤ u.2 ∧ u.2 ≤ 1001 * (u.1 : Int))) (fun u => [(3, .int u.2), (6, .t (.sl n1 1 (tLs l))), (7, .int (tLs l).length), (8, .int u.1)]) (fun _ => ⟨out, []⟩) (fun u => l.length - u.1) (0, 0) ⟨Nat.zero_le _, fun _ _ => ⟨Int.le_refl _, Int.le_refl _⟩⟩ ⟨rfl, rfl⟩ ?_
  rintro ⟨i, m⟩ ⟨hi0, hm⟩
  have hi0 : i ≤ l.length := hi0
  have hm : (∀ p ∈ l, p.2.length ≤ 1000) → l.length ≤ 10000000000000 → (i : Int) ≤ m ∧ m ≤ 1001 * (i : Int) := hm
  refine And.intro (fun h1 => ?_) fun h1 => ?_
  · have hi : i < l.length := by have h1 : (i : Int) < _ := of_decide_eq_true h1; rw [tLs_len] at h1; omega
    refine And.intro (Int.natCast_nonneg _) (Exists.intro _ (And.intro (tLs_get hi) ?_))
    intro m1 hm1 m2 hm2 m3 hm3
    rw [wrap64 (by show -9223372036854775808 ≤ (i : Int) + 1; omega) (by show (i : Int) + 1 ≤ 9223372036854775807; omega)] at hm3
    subst hm3
    refine Exists.intro (i + 1, m2) (And.intro (by show l.length - (i + 1) < l.length - i; omega) (And.intro ⟨hi, fun ha hb => ?_⟩ (And.intro rfl rfl)))
    obtain ⟨h2, h3⟩ := hm ha hb
    have h4 := ha _ (List.getElem_mem hi)
    have hm1 : m1 = IntKind.i64.wrap (1 + (((l[i].2.map tI).length : Nat) : Int)) := hm1
    have hm2 : m2 = IntKind.i64.wrap (m + m1) := hm2
    rw [List.length_map, wrap64 (by omega) (by omega)] at hm1
    rw [hm1, wrap64 (by omega) (by omega)] at hm2
    show ((i + 1 : Nat) : Int) ≤ m2 ∧ m2 ≤ 1001 * ((i + 1 : Nat) : Int)
    omega
  · have hi : i = l.length := by have h1 : ¬ (i : Int) < _ := of_decide_eq_false h1; rw [tLs_len] at h1; omega
    refine And.intro (fun h2 => ?_) fun _ => ?_
    · refine Exists.intro [] ⟨true, fun _ ha hb => ?_, rfl, rfl⟩
      have h2 : m ≤ 300 := of_decide_eq_true h2
      have := (hm ha hb).1
      omega
    · exact Exists.intro [] ⟨false, fun h => Bool.noConfusion h, rfl, rfl⟩
theorem f11_spec (n1 : Bool) (l : List (Bool × List Int)) (out : List Fr) : SpecP Try.prog 11 [.t (.sl n1 1 (tLs l))] out fun r ro => ∃ b : Bool, r = .bool b ∧ ro = [] :=
  SpecP.mono (f11b_spec n1 l out) fun _ _ ⟨b, _, h⟩ => ⟨b, h⟩

def kq16 : Kp := [(2, ([2, 7, 8, 9], [16]))]
theorem f16_spec (t : Task) (n1 : Bool) (l : List (Bool × List Int)) (ht : isB t = true) (out : List Fr) : SpecP Try.prog 16 [.task t, .t (.sl n1 1 (tLs l))] out fun r ro => r = .int (asksI t true l) ∧ ro = [] := by
  refine spec_body cx_ok kq16 [] (fn := Try.f16) (by kernel_rfl) rfl (by kernel_rfl) rfl (by unfold FnOK; kernel_rfl) fun hok => ?_
  have hmx : (l.length : Int) ≤ 9223372036854775807 := by have := hok.2.1.1; rw [tLs_len] at this; unfold maxLen at this; omega
  refine LoopW.mk Nat (fun i => i ≤ l.length ∧ (l.take i).any (fun p => !fineB t true p.2) = false) (fun i => [(2, .ptr (.cur 16) 0), (7, .t (.sl n1 1 (tLs l))), (8, .int (tLs l).length), (9, .int i)])
    (fun _ => ⟨out, [(16, .box (cellsTask t))]⟩) (fun i => l.length - i) 0 ⟨Nat.zero_le _, rfl⟩ ⟨rfl, rfl⟩ fun i hI => ?_
  refine And.intro (fun h1 => ?_) fun h1 => ?_
  · have hi : i < l.length := by have h1 : (i : Int) < _ := of_decide_eq_true h1; rw [tLs_len] at h1; omega
    refine And.intro (Int.natCast_nonneg _) (Exists.intro _ (And.intro (tLs_get hi) ?_))
    refine SpecP.mono (f27_spec t l[i].1 l[i].2 _) ?_
    rintro _ _ ⟨rfl, rfl⟩
    refine And.intro (fun h2 => ?_) fun h2 => ?_
    · have h2 : risingB l[i].2 t.facts.length = true := h2
      refine SpecP.mono (f28_spec t l[i].1 l[i].2 ht h2 _) ?_
      rintro _ _ ⟨rfl, rfl⟩
      refine And.intro (fun h3 => ?_) fun h3 => ?_
      · have h3 : closedB t l[i].2 = true := h3
        refine And.intro (by omega) (And.intro (by omega) ?_)
        exact Exists.intro (i + 1) (And.intro (by show l.length - (i + 1) < l.length - i; omega) (And.intro ⟨hi, any_step hi hI.2 (by simp only [fineB, h2, h3]; rfl)⟩ (And.intro rfl rfl)))
      · have h3 : closedB t l[i].2 = false := h3
        refine Exists.intro [] ⟨?_, rfl⟩
        rw [asksI, if_pos ht, any_true (p := fun p : Bool × List Int => !fineB t true p.2) hi (by simp only [fineB, h2, h3]; rfl)]; rfl
    · have h2 : risingB l[i].2 t.facts.length = false := h2
      refine Exists.intro [] ⟨?_, rfl⟩
      rw [asksI, if_pos ht, any_true (p := fun p : Bool × List Int => !fineB t true p.2) hi (by simp only [fineB, h2]; rfl)]; rfl
  · have hi : l.length ≤ i := by have h1 : ¬ (i : Int) < _ := of_decide_eq_false h1; rw [tLs_len] at h1; omega
    refine Exists.intro [] ⟨?_, rfl⟩
    rw [asksI, if_pos ht, any_end hi hI.2]; rfl

theorem f18_spec (t : Task) (n1 : Bool) (s : List Int) (out : List Fr) : SpecP Try.prog 18 [.task t, .ints n1 s] out fun r ro => r = .int (fineI t s) ∧ ro = [] := by
  refine spec_body cx_ok [] [] (fn := Try.f18) (by kernel_rfl) rfl (by kernel_rfl) rfl (by unfold FnOK; kernel_rfl) fun hok => ?_
  refine SpecP.mono (f14_spec t _) ?_
  rintro _ _ ⟨rfl, rfl⟩
  refine And.intro (fun h1 => ?_) fun h1 => ?_
  · have h1 : isB t = true := h1
    refine SpecP.mono (f22_spec t n1 s _) ?_
    rintro _ _ ⟨rfl, rfl⟩
    refine And.intro (fun h2 => ?_) fun h2 => ?_
    · have h2 : risingB s t.facts.length = true := h2
      exact Exists.intro [] ⟨by rw [fineI, if_pos h1, if_pos h2]; rfl, rfl⟩
    · have h2 : risingB s t.facts.length = false := h2
      exact Exists.intro [] ⟨by rw [fineI, if_pos h1, if_neg (by rw [h2]; exact Bool.noConfusion)]; rfl, rfl⟩
  · have h1 : isB t = false := h1
    exact Exists.intro [] ⟨by rw [fineI, if_neg (by rw [h1]; exact Bool.noConfusion)]; rfl, rfl⟩

end Go.Fw

/- The law of plans and projections. -/
namespace Go.Fw
open Go Go.Proofs
set_option maxRecDepth 10000

theorem fine_zero {t : Task} {s : List Int} (h : fineI t s = 0) : isB t = true ∧ risingB s t.facts.length = true := by
  unfold fineI at h
  split at h
  · rename_i h1
    split at h
    · rename_i h2; exact ⟨h1, h2⟩
    · cases h
  · cases h
theorem given_of {t : Task} {s : List Int} {l : List (Bool × List Int)} (h1 : fineI t s = 0) (h2 : asksI t true l = 0) : givenI t s l = 0 := by rw [givenI, if_pos h1, h2]
theorem asks_one {t : Task} {l : List (Bool × List Int)} (h : asksI t true l = 0) {p : Bool × List Int} (hp : p ∈ l) : asksI t true [p] = 0 := by
  obtain ⟨h1, h2⟩ := asks_ok h
  rw [asksI, if_pos h1, List.any_cons, h2 p hp]; rfl

def kq5 : Kp := [(7, ([1, 2, 3, 4, 9, 64, 65, 66], [32]))]
theorem f5_spec (t : Task) (n1 n2 n3 : Bool) (l : List (Bool × List Int)) (s q : List Int) (out : List Fr) : SpecP Try.prog 5 [.task t, .t (.sl n1 1 (tLs l)), .ints n2 s, .ints n3 q] out fun r ro => r = .bool true ∧ ro = [] := by
  refine spec_body cx_ok kq5 [] (fn := Try.f5) (by kernel_rfl) rfl (by kernel_rfl) rfl (by unfold FnOK; kernel_rfl) fun hok => ?_
  refine SpecP.mono (f10_spec t 200 _) ?_
  rintro _ _ ⟨b0, rfl, rfl⟩
  refine And.intro (fun _ => ?_) fun _ => ?_
  rotate_left
  · refine SpecP.mono (f7_spec _) ?_
    rintro _ _ ⟨rfl, rfl⟩
    exact And.intro (fun _ => Exists.intro [] (ret_bool rfl rfl)) fun h => Bool.noConfusion h
  refine And.intro (fun _ => ?_) fun h1 => ?_
  · refine SpecP.mono (f7_spec _) ?_
    rintro _ _ ⟨rfl, rfl⟩
    exact And.intro (fun _ => Exists.intro [] (ret_bool rfl rfl)) fun h => Bool.noConfusion h
  have h1 : l.length ≤ 6 := by have h1 : ¬ ((tLs l).length : Int) > 6 := of_decide_eq_false h1; rw [tLs_len] at h1; omega
  refine And.intro (fun _ => ?_) fun h2 => ?_
  · refine SpecP.mono (f7_spec _) ?_
    rintro _ _ ⟨rfl, rfl⟩
    exact And.intro (fun _ => Exists.intro [] (ret_bool rfl rfl)) fun h => Bool.noConfusion h
  refine And.intro (fun _ => ?_) fun h3 => ?_
  · refine SpecP.mono (f7_spec _) ?_
    rintro _ _ ⟨rfl, rfl⟩
    exact And.intro (fun _ => Exists.intro [] (ret_bool rfl rfl)) fun h => Bool.noConfusion h
  refine SpecP.mono (f18_spec t n2 s _) ?_
  rintro _ _ ⟨rfl, rfl⟩
  refine And.intro (fun _ => ?_) fun h4 => ?_
  · refine SpecP.mono (f7_spec _) ?_
    rintro _ _ ⟨rfl, rfl⟩
    exact And.intro (fun _ => Exists.intro [] (ret_bool rfl rfl)) fun h => Bool.noConfusion h
  have h4 : fineI t s = 0 := by simpa using h4
  obtain ⟨ht, hs⟩ := fine_zero h4
  have TK := task_ok ht
  refine SpecP.mono (f16_spec t n1 l ht _) ?_
  rintro _ _ ⟨rfl, rfl⟩
  refine And.intro (fun _ => ?_) fun h5 => ?_
  · refine SpecP.mono (f7_spec _) ?_
    rintro _ _ ⟨rfl, rfl⟩
    exact And.intro (fun _ => Exists.intro [] (ret_bool rfl rfl)) fun h => Bool.noConfusion h
  have h5 : asksI t true l = 0 := by simpa using h5
  have hg := given_of h4 h5
  obtain ⟨_, _, hps⟩ := given_ok hg
  refine SpecP.mono (f21_spec t n2 n3 s q TK hs _) ?_
  rintro _ _ (⟨V, rfl, rfl⟩ | ⟨V, rfl, rfl⟩)
  · refine And.intro (fun h => Bool.noConfusion h) fun _ => ?_
    refine SpecP.mono (f7_spec _) ?_
    rintro _ _ ⟨rfl, rfl⟩
    exact And.intro (fun _ => Exists.intro [] (ret_bool rfl rfl)) fun h => Bool.noConfusion h
  refine And.intro (fun _ => ?_) fun h => Bool.noConfusion h
  refine LoopW.mk Nat (fun i => i ≤ l.length ∧ ∀ j (hj : j < l.length), j < i → l[j].2.length ≤ 10) (fun i => [(1, .t (.sl n1 1 (tLs l))), (2, .ints n2 s), (3, .ints n3 q), (4, .ptr (.cur 32) 0), (9, .int (costAt t q q.length)), (64, .t (.sl n1 1 (tLs l))), (65, .int (tLs l).length), (66, .int i)])
    (fun _ => ⟨out, [(32, .box (cellsTask t))]⟩) (fun i => l.length - i) 0 ⟨Nat.zero_le _, fun j _ h => by cases h⟩ ⟨rfl, rfl⟩ fun i hI => ?_
  refine And.intro (fun h6 => ?_) fun h6 => ?_
  rotate_left
  · have hi : i = l.length := by have h6 : ¬ (i : Int) < _ := of_decide_eq_false h6; rw [tLs_len] at h6; have := hI.1; omega
    have h10 : ∀ p ∈ l, p.2.length ≤ 10 := fun p hp => by
      obtain ⟨j, hj, rfl⟩ := List.getElem_of_mem hp
      exact hI.2 j hj (by omega)
    refine SpecP.mono (f23_spec t n1 n2 l s (by omega) _) ?_
    rintro _ _ ⟨hr, rfl⟩
    obtain ⟨b, hb0, hb1, rfl⟩ := best_plan TK hs V hg h10 hr
    refine And.intro (fun _ => ?_) fun h => Bool.noConfusion h
    refine And.intro (fun _ => ?_) fun h => absurd (decide_eq_true hb0) (by rw [h]; exact Bool.noConfusion)
    refine And.intro (fun _ => ?_) fun h => absurd (decide_eq_true hb1) (by rw [h]; exact Bool.noConfusion)
    refine SpecP.mono (f7_spec _) ?_
    rintro _ _ ⟨rfl, rfl⟩
    exact And.intro (fun _ => Exists.intro [] (ret_bool rfl rfl)) fun h => Bool.noConfusion h
  have hi : i < l.length := by have h6 : (i : Int) < _ := of_decide_eq_true h6; rw [tLs_len] at h6; omega
  obtain ⟨hp, hc⟩ := hps _ (List.getElem_mem hi)
  refine And.intro (Int.natCast_nonneg _) (Exists.intro _ (And.intro (tLs_get hi) ?_))
  refine And.intro (fun _ => ?_) fun h7 => ?_
  · refine SpecP.mono (f7_spec _) ?_
    rintro _ _ ⟨rfl, rfl⟩
    exact And.intro (fun _ => Exists.intro [] (ret_bool rfl rfl)) fun h => Bool.noConfusion h
  have h7 : l[i].2.length ≤ 10 := by have h7 : ¬ ((l[i].2.map tI).length : Int) > 10 := of_decide_eq_false h7; rw [List.length_map] at h7; omega
  have hone := asks_one h5 (List.getElem_mem hi)
  refine SpecP.mono (f12_spec t l[i].1 l[i].2 _) ?_
  rintro _ _ ⟨hr1, rfl⟩
  cases hr1 with
  | bad h => exact absurd hone h
  | ok h8 =>
  have hgo : givenI t s [l[i]] = 0 := given_of h4 hone
  refine SpecP.mono (f13_spec t l[i].1 n2 l[i].2 s _) ?_
  rintro _ _ ⟨hr2, rfl⟩
  cases hr2 with
  | bad h => exact absurd hgo h
  | ok h9 =>
  refine SpecP.mono (f9_spec t l[i].1 n2 l[i].2 s _) ?_
  rintro _ _ ⟨hr3, rfl⟩
  cases hr3 with
  | bad h => exact absurd hgo h
  | ok hA r hr3 =>
  obtain ⟨c, hc0, hc1, rfl⟩ := says_plan TK hp hc hs V h7 hr3
  have hc2 : c ≤ costAt t q q.length := Int.le_trans hc1 (tcost_le TK V.plan _ (Nat.le_refl _))
  have hpl : (projT t l[i].2).facts.length = l[i].2.length := List.length_map ..
  have hpi := rising_inc hp
  have hti := projT_is ht hp
  have hfr := facts_rising hpi hs
  have V2 := valid_proj TK hp hc hs V
  refine And.intro (fun h => Bool.noConfusion h) fun _ => ?_
  refine And.intro (fun h => Bool.noConfusion h) fun _ => ?_
  refine And.intro (fun h => Bool.noConfusion h) fun _ => ?_
  refine And.intro (fun h => absurd (of_decide_eq_true h) (by omega)) fun _ => ?_
  refine And.intro (fun h => absurd (of_decide_eq_true h) (by show ¬ c > costAt t q q.length; omega)) fun _ => ?_
  refine SpecP.mono (f14_spec (projT t l[i].2) _) ?_
  rintro _ _ ⟨rfl, rfl⟩
  rw [hti]
  refine And.intro (fun _ => ?_) fun h => Bool.noConfusion h
  refine SpecP.mono (f22_spec (projT t l[i].2) (factsL l[i].2 s).isEmpty (factsL l[i].2 s) _) ?_
  rintro _ _ ⟨rfl, rfl⟩
  rw [hpl, hfr]
  refine And.intro (fun _ => ?_) fun h => Bool.noConfusion h
  have hal : ((((projT t l[i].2).acts.map tAct).length : Nat) : Int) = ((t.acts.map tAct).length : Nat) := by rw [List.length_map, List.length_map]; show (((t.acts.map (projA l[i].2)).length : Nat) : Int) = _; rw [List.length_map]
  refine And.intro (fun h => absurd h (by show ¬ (((((projT t l[i].2).acts.map tAct).length : Nat) : Int) != ((t.acts.map tAct).length : Nat)) = true; rw [hal]; simp)) fun _ => ?_
  refine SpecP.mono (f21_spec (projT t l[i].2) (factsL l[i].2 s).isEmpty n3 (factsL l[i].2 s) q (projT_ok TK hp) (by rw [hpl]; exact hfr) _) ?_
  rintro _ _ (⟨W, rfl, rfl⟩ | ⟨W, rfl, rfl⟩)
  · exact absurd V2 W
  refine And.intro (fun _ => ?_) fun h => Bool.noConfusion h
  refine And.intro (fun h => absurd h (by show ¬ (costAt (projT t l[i].2) q q.length != costAt t q q.length) = true; rw [costAt_proj V.plan _ (Nat.le_refl _)]; simp)) fun _ => ?_
  refine And.intro (by omega) (And.intro (by omega) ?_)
  refine Exists.intro (i + 1) (And.intro (by show l.length - (i + 1) < l.length - i; omega) (And.intro ⟨hi, fun j hj hji => ?_⟩ (And.intro rfl rfl)))
  rcases Nat.lt_or_ge j i with h | h
  · exact hI.2 j hj h
  · have : j = i := by omega
    subst this; exact h7

end Go.Fw

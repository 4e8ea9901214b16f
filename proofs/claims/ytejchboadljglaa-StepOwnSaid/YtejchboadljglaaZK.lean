/- Texts that lead to the law, part 11. -/
import Derived.Test.YtejchboadljglaaZJ
import Derived.Test.YtejchboadljglaaZF

/- Plans: the plain law. -/
namespace Go.Fw
open Go Go.Proofs

theorem listFrom_mem {x : Int} : ∀ {l : List Bool} {k : Nat}, x ∈ listFrom k l ↔ ∃ i, i < l.length ∧ l.getD i false = true ∧ x = ((k + i : Nat) : Int)
  | [], k => by simp [listFrom]
  | b :: r, k => by
    rw [listFrom, List.mem_append, listFrom_mem]
    constructor
    · rintro (h | ⟨i, hi, hb, hx⟩)
      · cases b with
        | false => simp at h
        | true => simp at h; exact ⟨0, by simp, rfl, by simpa using h⟩
      · exact ⟨i + 1, by simpa using hi, by simpa using hb, by rw [hx]; congr 1; omega⟩
    · rintro ⟨i, hi, hb, hx⟩
      cases i with
      | zero => simp at hb; subst hb; exact .inl (by simpa using hx)
      | succ i => exact .inr ⟨i, by simpa using hi, by simpa using hb, by rw [hx]; congr 1; omega⟩
theorem hasB_listL (b : List Bool) (f : Nat) : hasB (listL b) (f : Int) = b.getD f false := by
  rw [Bool.eq_iff_iff, hasB, List.any_eq_true]
  constructor
  · rintro ⟨x, hx, hf⟩
    obtain ⟨i, _, hb, rfl⟩ := listFrom_mem.1 hx
    have : i = f := by simp at hf; omega
    subst this; exact hb
  · intro hb
    refine ⟨(f : Int), listFrom_mem.2 ⟨f, ?_, hb, by simp⟩, by simp⟩
    rcases Nat.lt_or_ge f b.length with h | h
    · exact h
    · rw [List.getD_eq_getElem?_getD, List.getElem?_eq_none h] at hb; cases hb
theorem listL_in (b : List Bool) : ∀ x ∈ listL b, 0 ≤ x ∧ x < (b.length : Int) := fun x hx => by
  obtain ⟨i, hi, _, rfl⟩ := listFrom_mem.1 hx
  omega

def factsIn (n : Nat) (l : List Eff) : Prop := ∀ e ∈ l, litIn n e.lit
theorem lit_eq {l : Lit} {f : Nat} {v : Bool} (h0 : 0 ≤ l.fact) (h : l.fact.toNat = f) (hv : l.neg = v) : l = ⟨(f : Int), v⟩ := by
  cases l; simp at h0 h hv; simp [hv]; omega
theorem neg_true {s : List Int} {n f : Nat} : ∀ {l : List Eff} {b : List Bool}, factsIn n l → b.length = n → (l.foldl (negStep s) b).getD f false = true → b.getD f false = true
  | [], _, _, _, h => h
  | e :: r, b, hl, hb, h => by
    rw [List.foldl_cons] at h
    have := neg_true (fun x hx => hl x (List.mem_cons_of_mem _ hx)) (by rw [neg_len, hb]) h
    have hin := hl e (List.mem_cons_self ..)
    unfold negStep at this
    split at this
    · rw [getD_set (by have := hin.1; have := hin.2; omega)] at this
      split at this
      · cases this
      · exact this
    · exact this
theorem neg_false {s : List Int} {n f : Nat} : ∀ {l : List Eff} {b : List Bool}, factsIn n l → b.length = n → (l.foldl (negStep s) b).getD f false = false → b.getD f false = false ∨ ∃ e ∈ l, e.lit = ⟨(f : Int), true⟩ ∧ holdsB s e.when_ = true
  | [], _, _, _, h => .inl h
  | e :: r, b, hl, hb, h => by
    rw [List.foldl_cons] at h
    have hin := hl e (List.mem_cons_self ..)
    rcases neg_false (fun x hx => hl x (List.mem_cons_of_mem _ hx)) (by rw [neg_len, hb]) h with this | ⟨x, hx, h1⟩
    · unfold negStep at this
      split at this
      · rename_i hc
        rw [Bool.and_eq_true] at hc
        rw [getD_set (by have := hin.1; have := hin.2; omega)] at this
        split at this
        · rename_i hf; exact .inr ⟨e, List.mem_cons_self .., lit_eq hin.1 hf hc.1, hc.2⟩
        · exact .inl this
      · exact .inl this
    · exact .inr ⟨x, List.mem_cons_of_mem _ hx, h1⟩
theorem pos_false {s : List Int} {n f : Nat} : ∀ {l : List Eff} {b : List Bool}, factsIn n l → b.length = n → (l.foldl (posStep s) b).getD f false = false → b.getD f false = false
  | [], _, _, _, h => h
  | e :: r, b, hl, hb, h => by
    rw [List.foldl_cons] at h
    have := pos_false (fun x hx => hl x (List.mem_cons_of_mem _ hx)) (by rw [pos_len, hb]) h
    have hin := hl e (List.mem_cons_self ..)
    unfold posStep at this
    split at this
    · rw [getD_set (by have := hin.1; have := hin.2; omega)] at this
      split at this
      · cases this
      · exact this
    · exact this
theorem pos_true {s : List Int} {n f : Nat} : ∀ {l : List Eff} {b : List Bool}, factsIn n l → b.length = n → (l.foldl (posStep s) b).getD f false = true → b.getD f false = true ∨ ∃ e ∈ l, e.lit = ⟨(f : Int), false⟩ ∧ holdsB s e.when_ = true
  | [], _, _, _, h => .inl h
  | e :: r, b, hl, hb, h => by
    rw [List.foldl_cons] at h
    have hin := hl e (List.mem_cons_self ..)
    rcases pos_true (fun x hx => hl x (List.mem_cons_of_mem _ hx)) (by rw [pos_len, hb]) h with this | ⟨x, hx, h1⟩
    · unfold posStep at this
      split at this
      · rename_i hc
        rw [Bool.and_eq_true, Bool.not_eq_true'] at hc
        rw [getD_set (by have := hin.1; have := hin.2; omega)] at this
        split at this
        · rename_i hf; exact .inr ⟨e, List.mem_cons_self .., lit_eq hin.1 hf hc.1, hc.2⟩
        · exact .inl this
      · exact .inl this
    · exact .inr ⟨x, List.mem_cons_of_mem _ hx, h1⟩

theorem afterBits_len (n : Nat) (s : List Int) (l : List Eff) : (afterBits n s l).length = n := by
  rw [afterBits, foldl_len (pos_len s), negAll, foldl_len (neg_len s), bitsL_length]
theorem after_true {n : Nat} {s : List Int} {l : List Eff} {f : Nat} (hl : factsIn n l) (hs : ∀ x ∈ s, 0 ≤ x ∧ x < (n : Int)) (hf : f < n) (h : hasB (afterL n s l) (f : Int) = true) : hasB s (f : Int) = true ∨ ∃ e ∈ l, e.lit = ⟨(f : Int), false⟩ ∧ holdsB s e.when_ = true := by
  rw [afterL, hasB_listL] at h
  rcases pos_true hl (by rw [negAll, foldl_len (neg_len s), bitsL_length]) h with h | h
  · have := neg_true hl (bitsL_length _ _) h
    rw [bits_get hs hf] at this; exact .inl this
  · exact .inr h
theorem after_false {n : Nat} {s : List Int} {l : List Eff} {f : Nat} (hl : factsIn n l) (hs : ∀ x ∈ s, 0 ≤ x ∧ x < (n : Int)) (hf : f < n) (h : hasB (afterL n s l) (f : Int) = false) : hasB s (f : Int) = false ∨ ∃ e ∈ l, e.lit = ⟨(f : Int), true⟩ ∧ holdsB s e.when_ = true := by
  rw [afterL, hasB_listL] at h
  have h := pos_false hl (by rw [negAll, foldl_len (neg_len s), bitsL_length]) h
  rcases neg_false hl (bitsL_length _ _) h with h | h
  · rw [bits_get hs hf] at h; exact .inl h
  · exact .inr h
theorem after_in (n : Nat) (s : List Int) (l : List Eff) : ∀ x ∈ afterL n s l, 0 ≤ x ∧ x < (n : Int) := fun x hx => by
  have := listL_in _ x hx
  rwa [afterBits_len] at this

/-! ### Executing a list -/
def pAct (t : Task) (p : List Int) (i : Nat) : Actn := match t.acts[(p.getD i 0).toNat]? with
  | some x => x
  | none => ⟨⟨#[]⟩, 0, true, [], true, []⟩
def stAt (t : Task) (s p : List Int) : Nat → List Int
  | 0 => s
  | i + 1 => afterL t.facts.length (stAt t s p i) (pAct t p i).effs
def costAt (t : Task) (p : List Int) : Nat → Int
  | 0 => 0
  | i + 1 => costAt t p i + (pAct t p i).cost
def okAt (t : Task) (s p : List Int) (i : Nat) : Bool := holdsB (stAt t s p i) (pAct t p i).pre

theorem plan_get {t : Task} {p : List Int} (hp : planB t p = true) {i : Nat} (hi : i < p.length) : ∃ k : Nat, p[i] = (k : Int) ∧ ∃ hk : k < t.acts.length, pAct t p i = t.acts[k] ∧ t.acts[(p.getD i 0).toNat]? = some (pAct t p i) ∧ (p.getD i 0).toNat = k := by
  simp only [planB, Bool.and_eq_true, List.all_eq_true, decide_eq_true_eq] at hp
  have h := hp.2 _ (List.getElem_mem hi)
  have hg : p.getD i 0 = p[i] := by rw [List.getD_eq_getElem?_getD, List.getElem?_eq_getElem hi]; rfl
  have hk : p[i].toNat < t.acts.length := by omega
  refine ⟨p[i].toNat, by omega, hk, ?_, ?_, by rw [hg]⟩
  · rw [pAct, hg, List.getElem?_eq_getElem hk]
  · rw [pAct, hg, List.getElem?_eq_getElem hk]
theorem stAt_in {t : Task} {s p : List Int} (hs : ∀ x ∈ s, 0 ≤ x ∧ x < (t.facts.length : Int)) : ∀ i, ∀ x ∈ stAt t s p i, 0 ≤ x ∧ x < (t.facts.length : Int)
  | 0 => hs
  | _ + 1 => after_in _ _ _
theorem holds_one (s : List Int) (l : Lit) : holdsB s [l] = (hasB s l.fact != l.neg) := by simp [holdsB]
theorem holds_mem {s : List Int} {l : List Lit} (h : holdsB s l = true) : ∀ x ∈ l, holdsB s [x] = true := fun x hx => by
  rw [holds_one]; exact List.all_eq_true.1 h x hx

/-- What holds on the way is reached, if the effects that are met count. -/
theorem along {t : Task} {s p : List Int} {cnt : Nat → Lit → Bool} (TK : TaskOK t) (hs : ∀ x ∈ s, 0 ≤ x ∧ x < (t.facts.length : Int)) (hp : planB t p = true) (hok : ∀ i, i < p.length → okAt t s p i = true)
    (hc : ∀ i, i < p.length → ∀ e ∈ (pAct t p i).effs, holdsB (stAt t s p (i + 1)) [e.lit] = true → cnt (p.getD i 0).toNat e.lit = true) : ∀ i, i ≤ p.length → ∀ l, litIn t.facts.length l → holdsB (stAt t s p i) [l] = true → Rch t s cnt (codeI l).toNat := by
  intro i
  induction i with
  | zero =>
    intro _ l hl h
    obtain ⟨f, v⟩ := l
    obtain ⟨h0, h1⟩ := hl
    simp only at h0 h1
    obtain ⟨k, rfl⟩ : ∃ k : Nat, f = (k : Int) := ⟨f.toNat, by omega⟩
    rw [holds_one] at h
    cases v with
    | false =>
      have e : (codeI ⟨(k : Int), false⟩).toNat = 2 * k := by simp [codeI]; omega
      rw [e]
      refine .ini _ (by omega) ?_
      have e1 : 2 * k / 2 = k := by omega
      have e2 : 2 * k % 2 = 0 := by omega
      have h' : (hasB s (k : Int) != false) = true := h
      simpa [e1, e2] using h'
    | true =>
      have e : (codeI ⟨(k : Int), true⟩).toNat = 2 * k + 1 := by simp [codeI]; omega
      rw [e]
      refine .ini _ (by omega) ?_
      have e1 : (2 * k + 1) / 2 = k := by omega
      have e2 : (2 * k + 1) % 2 = 1 := by omega
      have h' : (hasB s (k : Int) != true) = true := h
      simpa [e1, e2] using h'
  | succ i ih =>
    intro hi l hl h
    have hi' : i < p.length := by omega
    obtain ⟨k, hk1, hk2, hk3, hk4, hk5⟩ := plan_get hp hi'
    have hmem : pAct t p i ∈ t.acts := by rw [hk3]; exact List.getElem_mem hk2
    have hfi : factsIn t.facts.length (pAct t p i).effs := fun e he => TK.lit _ hmem e he
    have hsi := stAt_in (t := t) (p := p) hs i
    have fire : ∀ e ∈ (pAct t p i).effs, e.lit = l → holdsB (stAt t s p i) e.when_ = true → Rch t s cnt (codeI l).toNat := fun e he hel hw => by
      rw [← hel]
      refine .eff _ _ e hk4 he (hc i hi' e he (by rw [hel]; exact h)) (fun x hx => ?_) fun x hx => ?_
      · exact ih (by omega) x (TK.pre _ hmem x hx) (holds_mem (hok i hi') x hx)
      · exact ih (by omega) x (TK.whn _ hmem e he x hx) (holds_mem hw x hx)
    obtain ⟨f, v⟩ := l
    obtain ⟨h0, h1⟩ := hl
    simp only at h0 h1
    obtain ⟨q, rfl⟩ : ∃ q : Nat, f = (q : Int) := ⟨f.toNat, by omega⟩
    have h' := h
    rw [holds_one] at h'
    cases v with
    | false =>
      have h2 : hasB (afterL t.facts.length (stAt t s p i) (pAct t p i).effs) (q : Int) = true := by simpa [stAt] using h'
      rcases after_true hfi hsi (by omega) h2 with h3 | ⟨e, he, hel, hw⟩
      · exact ih (by omega) _ ⟨h0, h1⟩ (by rw [holds_one, h3]; rfl)
      · exact fire e he hel hw
    | true =>
      have h2 : hasB (afterL t.facts.length (stAt t s p i) (pAct t p i).effs) (q : Int) = false := by simpa [stAt] using h'
      rcases after_false hfi hsi (by omega) h2 with h3 | ⟨e, he, hel, hw⟩
      · exact ih (by omega) _ ⟨h0, h1⟩ (by rw [holds_one, h3]; rfl)
      · exact fire e he hel hw

structure Valid (t : Task) (s p : List Int) : Prop where
  plan : planB t p = true
  ok : ∀ i, i < p.length → okAt t s p i = true
  goal : holdsB (stAt t s p p.length) t.goal = true

theorem valid_all {t : Task} {s p : List Int} {cnt : Nat → Lit → Bool} (TK : TaskOK t) (hs : ∀ x ∈ s, 0 ≤ x ∧ x < (t.facts.length : Int)) (hv : Valid t s p)
    (hc : ∀ i, i < p.length → ∀ e ∈ (pAct t p i).effs, holdsB (stAt t s p (i + 1)) [e.lit] = true → cnt (p.getD i 0).toNat e.lit = true) : allR t s cnt t.goal = true :=
  allR_iff.2 fun x hx => along TK hs hv.plan hv.ok hc p.length (Nat.le_refl _) x (TK.goal x hx) (holds_mem hv.goal x hx)

/-- A literal that is a landmark holds on the way. -/
theorem plan_lit {t : Task} {s p : List Int} (TK : TaskOK t) (hs : ∀ x ∈ s, 0 ≤ x ∧ x < (t.facts.length : Int)) (hv : Valid t s p) {k : Nat} (h : onlyL t s k = true) : ∃ i, i ≤ p.length ∧ holdsB (stAt t s p i) [litI k] = true := by
  refine Classical.byContradiction fun hno => ?_
  have hn : ∀ i, i ≤ p.length → holdsB (stAt t s p i) [litI k] = false := fun i hi => by
    cases hh : holdsB (stAt t s p i) [litI k] with
    | false => rfl
    | true => exact absurd ⟨i, hi, hh⟩ hno
  have h0 := hn 0 (Nat.zero_le _)
  have hall := valid_all (cnt := fun _ l => decide (l ≠ litI k)) TK hs hv fun i hi e he hh => by
    refine decide_eq_true fun hel => ?_
    have := hn (i + 1) hi
    rw [← hel, hh] at this; cases this
  rw [onlyL, hall] at h
  rw [show holdsB s [litI k] = false from h0] at h
  cases h
/-- Actions without which the goal is not reached: one of them is in the plan. -/
theorem plan_acts {t : Task} {s p : List Int} (TK : TaskOK t) (hs : ∀ x ∈ s, 0 ≤ x ∧ x < (t.facts.length : Int)) (hv : Valid t s p) {acts : List Int} (h : allR t s (cntO acts) t.goal = false) : ∃ y ∈ acts, hasB p y = true := by
  refine Classical.byContradiction fun hno => ?_
  have hall := valid_all (cnt := cntO acts) TK hs hv fun i hi e he hh => by
    obtain ⟨k, hk1, _, _, _, hk5⟩ := plan_get hv.plan hi
    rw [cntO, hk5]
    cases hb : hasB acts (k : Int) with
    | false => rfl
    | true =>
      obtain ⟨y, hy, hyk⟩ := List.any_eq_true.1 hb
      have hyk : y = (k : Int) := by simpa using hyk
      exact absurd ⟨y, hy, List.any_eq_true.2 ⟨p[i], List.getElem_mem hi, by rw [hk1, hyk]; simp⟩⟩ hno
  rw [hall] at h; cases h
theorem plan_some {t : Task} {s p : List Int} (TK : TaskOK t) (hs : ∀ x ∈ s, 0 ≤ x ∧ x < (t.facts.length : Int)) (hv : Valid t s p) : allR t s (cntO []) t.goal = true := valid_all TK hs hv fun _ _ _ _ _ => rfl

/-! ### Sums -/
def sumTo : Nat → (Nat → Int) → Int
  | 0, _ => 0
  | n + 1, f => sumTo n f + f n
theorem sumTo_le {f g : Nat → Int} : ∀ {n : Nat}, (∀ a, a < n → f a ≤ g a) → sumTo n f ≤ sumTo n g
  | 0, _ => Int.le_refl _
  | n + 1, h => by have h1 := sumTo_le (n := n) fun a ha => h a (by omega); have := h n (by omega); simp only [sumTo]; omega
theorem sumTo_add (f g : Nat → Int) : ∀ n : Nat, sumTo n (fun a => f a + g a) = sumTo n f + sumTo n g
  | 0 => rfl
  | n + 1 => by simp only [sumTo, sumTo_add f g n]; omega
theorem sumTo_zero {f : Nat → Int} : ∀ {n : Nat}, (∀ a, a < n → f a = 0) → sumTo n f = 0
  | 0, _ => rfl
  | n + 1, h => by have h1 := sumTo_zero (f := f) (n := n) fun a ha => h a (by omega); have h2 := h n (by omega); simp only [sumTo]; omega
theorem sumTo_one {f : Nat → Int} {k : Nat} : ∀ {n : Nat}, k < n → sumTo n (fun a => if k = a then f a else 0) = f k
  | 0, h => by omega
  | n + 1, h => by
    simp only [sumTo]
    by_cases hk : k = n
    · subst hk
      rw [sumTo_zero fun a ha => by rw [if_neg (by omega)], if_pos rfl]; omega
    · rw [sumTo_one (n := n) (by omega), if_neg hk]; omega
theorem sumTo_term {f : Nat → Int} {k n : Nat} (hk : k < n) (h : ∀ a, a < n → 0 ≤ f a) : f k ≤ sumTo n f := by
  rw [← sumTo_one (f := f) hk]
  refine sumTo_le fun a ha => ?_
  split
  · exact Int.le_refl _
  · exact h a ha

def total : List CutM → Int
  | [] => 0
  | c :: r => c.cost + total r
theorem total_append (l m : List CutM) : total (l ++ m) = total l + total m := by
  induction l with
  | nil => simp [total]
  | cons c r ih => simp only [List.cons_append, total, ih]; omega
def inP (p : List Int) (a : Nat) (v : Int) : Int := if hasB p (a : Int) = true then v else 0
theorem total_le {t : Task} {p : List Int} : ∀ {l : List CutM}, (∀ c ∈ l, 1 ≤ c.cost ∧ ∃ k : Nat, k < t.acts.length ∧ hasB c.acts (k : Int) = true ∧ hasB p (k : Int) = true) → total l ≤ sumTo t.acts.length fun a => inP p a (paid l a)
  | [], _ => by
    rw [sumTo_zero fun a _ => by simp [inP, paid]]
    exact Int.le_refl _
  | c :: r, h => by
    have ih := total_le fun x hx => h x (List.mem_cons_of_mem _ hx)
    obtain ⟨hc, k, hk, hk1, hk2⟩ := h c (List.mem_cons_self ..)
    have e : (fun a => inP p a (paid (c :: r) a)) = fun a => inP p a (pay c a) + inP p a (paid r a) := by
      funext a; simp only [inP, paid]; split <;> omega
    rw [e, sumTo_add, total]
    have h1 : c.cost ≤ sumTo t.acts.length fun a => inP p a (pay c a) := by
      have hn : ∀ a, a < t.acts.length → 0 ≤ inP p a (pay c a) := fun a _ => by
        simp only [inP, pay]
        split
        · split
          · omega
          · exact Int.le_refl _
        · exact Int.le_refl _
      have h2 := sumTo_term (f := fun a => inP p a (pay c a)) hk hn
      have h3 : inP p k (pay c k) = c.cost := by simp only [inP, pay, hk1, hk2, if_true]
      simp only [h3] at h2
      exact h2
    omega
theorem cost_ge {t : Task} {p : List Int} (TK : TaskOK t) (hp : planB t p = true) : ∀ i, i ≤ p.length → (sumTo t.acts.length fun a => inP (p.take i) a (costA t a)) ≤ costAt t p i
  | 0, _ => by
    rw [sumTo_zero fun a _ => by simp [inP, hasB]]
    exact Int.le_refl _
  | i + 1, hi => by
    have hi' : i < p.length := by omega
    obtain ⟨k, hk1, hk2, hk3, _⟩ := plan_get hp hi'
    have ih := cost_ge TK hp i (by omega)
    have h1 : (sumTo t.acts.length fun a => inP (p.take (i + 1)) a (costA t a)) ≤ sumTo t.acts.length fun a => inP (p.take i) a (costA t a) + if k = a then costA t a else 0 := by
      refine sumTo_le fun a ha => ?_
      have hc : 0 ≤ costA t a := by rw [costA_get ha]; exact (TK.cost _ (List.getElem_mem ha)).1
      simp only [inP, hasB_take hi', hk1]
      by_cases hka : k = a
      · subst hka
        simp only [beq_self_eq_true, Bool.or_true, if_true]
        split <;> omega
      · have : ((k : Int) == (a : Int)) = false := by simp; omega
        simp only [this, Bool.or_false, hka, if_false]
        omega
    rw [sumTo_add, sumTo_one hk2] at h1
    rw [costAt, hk3]
    rw [costA_get hk2] at h1
    omega
/-- Right cuts together cost no more than the plan. -/
theorem plan_cost {t : Task} {s p : List Int} (TK : TaskOK t) (hs : ∀ x ∈ s, 0 ≤ x ∧ x < (t.facts.length : Int)) (hv : Valid t s p) {l : List CutM} (hr : rightB t s l = true) : total l ≤ costAt t p p.length := by
  obtain ⟨h1, h2⟩ := right_parts hr
  have h3 : total l ≤ sumTo t.acts.length fun a => inP p a (paid l a) := total_le fun c hc => by
    obtain ⟨g1, _, g3, g4⟩ := okC_cost (h1 c hc)
    obtain ⟨y, hy, hyp⟩ := plan_acts TK hs hv g4
    have hin := rising_in g3 y hy
    refine ⟨g1, y.toNat, by omega, ?_, ?_⟩
    · exact List.any_eq_true.2 ⟨y, hy, by simp; omega⟩
    · rw [show ((y.toNat : Nat) : Int) = y by omega]; exact hyp
  have h4 : (sumTo t.acts.length fun a => inP p a (paid l a)) ≤ sumTo t.acts.length fun a => inP p a (costA t a) := sumTo_le fun a ha => by
    have := h2 a ha
    simp only [inP]; split <;> omega
  have h5 := cost_ge TK hv.plan p.length (Nat.le_refl _)
  rw [List.take_length] at h5
  omega

end Go.Fw

/- What the program's functions do, part 36: plans are executed. -/
namespace Go.Fw
open Go Go.Proofs
set_option maxRecDepth 10000

theorem conv_first {x y : LV} {r : List LV} (hxy : ∀ (β : K → Nat) (RO : Nat → Prop) (w : World) (v : Value), VL β RO w x v → VL β RO w y v) : ∀ (β : K → Nat) (RO : Nat → Prop) (w : World) (vals : List Value), Vals β RO w (x :: r) vals → Vals β RO w (y :: r) vals := fun β RO w vals hv =>
  ⟨hv.1, fun i z v hz hvz => by
    cases i with
    | zero => simp at hz; subst hz; exact hxy β RO w v (hv.2 0 x v rfl hvz)
    | succ i => exact hv.2 (i + 1) z v hz hvz⟩
theorem conv_second {a x y : LV} {r : List LV} (hxy : ∀ (β : K → Nat) (RO : Nat → Prop) (w : World) (v : Value), VL β RO w x v → VL β RO w y v) : ∀ (β : K → Nat) (RO : Nat → Prop) (w : World) (vals : List Value), Vals β RO w (a :: x :: r) vals → Vals β RO w (a :: y :: r) vals := fun β RO w vals hv =>
  ⟨hv.1, fun i z v hz hvz => by
    match i with
    | 0 => exact hv.2 0 z v hz hvz
    | 1 => simp at hz; subst hz; exact hxy β RO w v (hv.2 1 x v rfl hvz)
    | i + 2 => exact hv.2 (i + 2) z v hz hvz⟩

def stRows (t : Task) (s p : List Int) (k : Nat) : List (List T) := (List.range (k + 1)).map fun j => [sT (stAt t s p j)]
theorem stRows_len (t : Task) (s p : List Int) (k : Nat) : (stRows t s p k).length = k + 1 := by simp [stRows]
theorem stRows_step (t : Task) (s p : List Int) (k : Nat) : stRows t s p (k + 1) = stRows t s p k ++ [[sT (stAt t s p (k + 1))]] := by
  rw [stRows, List.range_succ, List.map_append]; rfl
theorem stRows_get {t : Task} {s p : List Int} {k j : Nat} (h : j ≤ k) : (stRows t s p k)[j]? = some [sT (stAt t s p j)] := by
  rw [stRows, List.getElem?_map, List.getElem?_range (by omega)]; rfl
theorem costAt_in {t : Task} {p : List Int} (TK : TaskOK t) (hp : planB t p = true) : ∀ i, i ≤ p.length → 0 ≤ costAt t p i ∧ costAt t p i ≤ 100000 * (i : Int)
  | 0, _ => by simp [costAt]
  | i + 1, hi => by
    have := costAt_in TK hp i (by omega)
    obtain ⟨k, _, hk2, hk3, _⟩ := plan_get hp (show i < p.length by omega)
    have hc := TK.cost _ (List.getElem_mem hk2)
    rw [costAt, hk3]; omega

def kp23 : Kp := [(3, ([3, 6, 7, 15, 16, 17], [24, 112]))]
theorem f23_spec (t : Task) (n1 n2 : Bool) (s p : List Int) (TK : TaskOK t) (hs : risingB s t.facts.length = true) (hp : planB t p = true) (out : List Fr) :
    SpecP Try.prog 23 [.task t, .ints n1 s, .ints n2 p] out fun r ro => ∃ (k : Nat) (at_ : Int), k ≤ p.length ∧ (∀ i, i < k → okAt t s p i = true) ∧ ((k = p.length ∧ at_ = -1) ∨ (k < p.length ∧ okAt t s p k = false ∧ at_ = (k : Int))) ∧
      r = .tup [.osl (.cur 112) 1 0 (stRows t s p k).length, .int (costAt t p k), .int at_] ∧ ro = [(112, .row 23 1 (stRows t s p k))] := by
  refine spec_body cx_ok kp23 [] (fn := Try.f23) (by kernel_rfl) rfl (by kernel_rfl) rfl (by unfold FnOK; kernel_rfl) fun hok => ?_
  have hin := rising_in hs
  have hN := TK.facts
  have hsl := rising_len hs (by omega)
  have hpl : p.length ≤ 10000 := by simp only [planB, Bool.and_eq_true, decide_eq_true_eq] at hp; exact hp.1
  have h00 : stRows t s p 0 = [[sT s]] := rfl
  cases hcs : s
  case' nil =>
    refine LoopW.mk Nat (fun i => i ≤ p.length ∧ ∀ j, j < i → okAt t s p j = true) (fun i => [(3, .ptr (.cur 24) 0), (6, .osl (.cur 112) 1 0 (stRows t s p i).length), (7, .int (costAt t p i)), (15, .ints n2 p), (16, .int (p.map tI).length), (17, .int i)])
      (fun i => ⟨out, [(24, .box (cellsTask t)), (112, .row 23 1 (stRows t s p i))]⟩) (fun i => p.length - i) 0 ⟨Nat.zero_le _, fun j hj => by omega⟩ ⟨rfl, by rw [h00, hcs]; rfl⟩ fun i hI => ?_
  case' cons x r =>
    have hl' : (tI x :: r.map tI).length = s.length := by rw [hcs]; simp
    refine And.intro (by rw [hl']; show s.length * 8 ≤ 140737488355328; omega) (And.intro (by rw [hl']; omega) ?_)
    refine And.intro (by simp) ?_
    refine LoopW.mk Nat (fun i => i ≤ p.length ∧ ∀ j, j < i → okAt t s p j = true) (fun i => [(3, .ptr (.cur 24) 0), (6, .osl (.cur 112) 1 0 (stRows t s p i).length), (7, .int (costAt t p i)), (15, .ints n2 p), (16, .int (p.map tI).length), (17, .int i)])
      (fun i => ⟨out, [(24, .box (cellsTask t)), (112, .row 23 1 (stRows t s p i))]⟩) (fun i => p.length - i) 0 ⟨Nat.zero_le _, fun j hj => by omega⟩ ⟨rfl, ?_⟩ fun i hI => ?_
    · rw [h00, hcs]
      show (⟨out, [(24, .box (cellsTask t)), (112, .row 23 1 [[.sl false 1 ((((x :: r).map tI).drop 0).take ((x :: r).map tI).length)]])]⟩ : St) = _
      rw [← take_all]; rfl
  all_goals
    have hlen := stRows_len t s p i
    refine And.intro (fun h1 => ?_) fun h1 => ?_
    · have hi := lt_of_dec h1
      obtain ⟨k, hk1, hk2, hk3, _⟩ := plan_get hp hi
      have hci := costAt_in TK hp i hI.1
      have hc := TK.cost _ (List.getElem_mem hk2)
      have hsi := stAt_in (t := t) (p := p) hin i
      refine And.intro (by omega) (Exists.intro (tI k) (And.intro (by rw [← hk1]; exact get_map hi) ?_))
      refine And.intro (by omega) (And.intro (by omega) ?_)
      refine And.intro (by omega) (And.intro (by omega) (Exists.intro [sT (stAt t s p i)] (And.intro (by rw [show 0 + (((stRows t s p i).length : Int) - 1).toNat = i by omega]; exact stRows_get (Nat.le_refl i)) ?_)))
      refine And.intro (by omega) (Exists.intro _ (And.intro (get_map hk2) ?_))
      refine SpecP.conv (conv_first fun _ _ _ _ => sT_vl) (SpecP.mono (f25_spec (stAt t s p i).isEmpty t.acts[k].pn (stAt t s p i) t.acts[k].pre []) ?_)
      rintro _ _ ⟨rfl, rfl⟩
      have hokk : okAt t s p i = holdsB (stAt t s p i) t.acts[k].pre := by rw [okAt, hk3]
      refine And.intro (fun h2 => ?_) fun h2 => ?_
      rotate_left
      · exact Exists.intro [112] (by rw [← hcs]; exact ⟨i, (i : Int), hI.1, hI.2, .inr ⟨hi, by rw [hokk, h2], rfl⟩, rfl, rfl⟩)
      refine SpecP.conv (conv_second fun _ _ _ _ => sT_vl) (SpecP.mono (f41_spec t (stAt t s p i).isEmpty (stAt t s p i) k TK hsi hk2 []) ?_)
      rintro _ _ ⟨rfl, rfl⟩
      have hst : stAt t s p (i + 1) = afterL t.facts.length (stAt t s p i) t.acts[k].effs := by rw [stAt, hk3]
      have hrow : stRows t s p i ++ [[sT (afterL t.facts.length (stAt t s p i) t.acts[k].effs)]] = stRows t s p (i + 1) := by rw [stRows_step, hst]
      have hl2 : (stRows t s p i ++ [[sT (afterL t.facts.length (stAt t s p i) t.acts[k].effs)]]).length = i + 2 := by rw [hrow, stRows_len]
      refine And.intro (Nat.le_of_ble_eq_true rfl) (And.intro rfl (And.intro (by show (stRows t s p i ++ [[sT (afterL t.facts.length (stAt t s p i) t.acts[k].effs)]]).length * 24 ≤ _; omega) (And.intro (by show (stRows t s p i ++ [[sT (afterL t.facts.length (stAt t s p i) t.acts[k].effs)]]).length ≤ _; omega) ?_)))
      refine And.intro (by omega) (Exists.intro _ (And.intro (get_map hk2) ?_))
      refine And.intro (by omega) (And.intro (by omega) ?_)
      refine And.intro (by omega) (And.intro (by omega) ?_)
      refine Exists.intro (i + 1) (And.intro (by show p.length - (i + 1) < p.length - i; omega) (And.intro ⟨hi, fun j hj => ?_⟩ ?_))
      · rcases Nat.lt_or_ge j i with h | h
        · exact hI.2 j h
        · rw [show j = i by omega, hokk, h2]
      · have hcost : costAt t p (i + 1) = costAt t p i + t.acts[k].cost := by rw [costAt, hk3]
        simp only [hcost, ← hrow]
        exact And.intro rfl rfl
    · have hi : i = p.length := by have := hI.1; have := ge_of_dec h1; omega
      exact Exists.intro [112] (by rw [← hcs]; exact ⟨i, -1, hI.1, hI.2, .inl ⟨hi, rfl⟩, rfl, rfl⟩)

def od22 : Od := [(4, [(0, .pure), (1, .pure), (2, .pure), (3, .pure), (4, .pure), (5, .pure), (6, .pure), (7, .pure), (8, .pure), (9, .pure), (10, .pure), (11, .eff), (12, .pure), (13, .pure)])]
theorem f22_spec (t : Task) (n1 n2 : Bool) (s p : List Int) (TK : TaskOK t) (hs : risingB s t.facts.length = true) (out : List Fr) :
    SpecP Try.prog 22 [.task t, .ints n1 s, .ints n2 p] out fun r ro => (¬ Valid t s p ∧ r = .tup [.int 0, .bool false] ∧ ro = []) ∨ (Valid t s p ∧ r = .tup [.int (costAt t p p.length), .bool true] ∧ ro = []) := by
  refine spec_body cx_ok [] od22 (fn := Try.f22) (by kernel_rfl) rfl (by kernel_rfl) rfl (by unfold FnOK; kernel_rfl) fun hok => ?_
  refine SpecP.mono (f44_spec t n2 p []) ?_
  rintro _ _ ⟨rfl, rfl⟩
  refine And.intro (fun hp => ?_) fun hp => ?_
  rotate_left
  · exact Exists.intro [] (.inl ⟨fun hv => (by rw [hv.plan] at hp; cases hp), rfl, rfl⟩)
  refine SpecP.mono (f23_spec t n1 n2 s p TK hs hp []) ?_
  rintro _ _ ⟨k, at_, hk, hok1, hor, rfl, rfl⟩
  have hpl : p.length ≤ 10000 := by simp only [planB, Bool.and_eq_true, decide_eq_true_eq] at hp; exact hp.1
  have hlen := stRows_len t s p k
  refine And.intro (fun h1 => ?_) fun h1 => ?_
  · have h1 := of_decide_eq_true h1
    rcases hor with ⟨_, rfl⟩ | ⟨hkl, hno, _⟩
    · omega
    · exact Exists.intro [] (.inl ⟨fun hv => (by rw [hv.ok k hkl] at hno; cases hno), rfl, rfl⟩)
  have h1 := of_decide_eq_false h1
  rcases hor with ⟨hkl, rfl⟩ | ⟨_, _, rfl⟩
  rotate_left
  · omega
  subst hkl
  refine And.intro (by omega) (And.intro (by omega) ?_)
  refine And.intro (by omega) (And.intro (by omega) (Exists.intro [sT (stAt t s p p.length)] (And.intro (by rw [show 0 + (((stRows t s p p.length).length : Int) - 1).toNat = p.length by omega]; exact stRows_get (Nat.le_refl _)) ?_)))
  refine SpecP.conv (conv_first fun _ _ _ _ => sT_vl) (SpecP.mono (f25_spec (stAt t s p p.length).isEmpty t.gn (stAt t s p p.length) t.goal []) ?_)
  rintro _ _ ⟨rfl, rfl⟩
  refine And.intro ⟨rfl, rfl, rfl⟩ ?_
  refine And.intro (fun h2 => ?_) fun h2 => ?_
  · exact Exists.intro [] (.inr ⟨⟨hp, hok1, h2⟩, rfl, rfl⟩)
  · exact Exists.intro [] (.inl ⟨fun hv => (by rw [hv.goal] at h2; cases h2), rfl, rfl⟩)

end Go.Fw

/- What the law MarkPlans does: it answers true. -/
namespace Go.Fw
open Go Go.Proofs
set_option maxRecDepth 10000

noncomputable def factsF (t : Task) (s : List Int) : List Lit := (selI (2 * t.facts.length) (onlyL t s)).map litI
theorem f15u_spec (t : Task) (n1 : Bool) (s : List Int) (h0 : fineI t s = 0) (out : List Fr) : SpecP Try.prog 15 [.task t, .ints n1 s] out fun r ro => r = .tup [.lits ((factsF t s).map tLit).isEmpty (factsF t s), .int 0] ∧ ro = [] :=
  (f15_spec t n1 s out).close fun r ro h => by
    rcases h with ⟨h, _⟩ | ⟨_, rfl, rfl⟩
    · exact absurd h0 h
    · exact ⟨_, .pair _ _ _ _ (acc_cls (e := 50) fun x r h => by rw [h]; rfl) (.same _), rfl, rfl⟩
theorem f16u_spec (t : Task) (n1 : Bool) (s : List Int) (h0 : fineI t s = 0) (out : List Fr) : SpecP Try.prog 16 [.task t, .ints n1 s] out fun r ro => r = .tup [.ints ((selI t.acts.length (onlyA t s)).map tI).isEmpty (selI t.acts.length (onlyA t s)), .int 0] ∧ ro = [] :=
  (f16_spec t n1 s out).close fun r ro h => by
    rcases h with ⟨h, _⟩ | ⟨_, rfl, rfl⟩
    · exact absurd h0 h
    · exact ⟨_, .pair _ _ _ _ (acc_cls (e := 3) fun x r h => by rw [h]; rfl) (.same _), rfl, rfl⟩
theorem f24u_spec (t : Task) (n1 : Bool) (s : List Int) (h0 : fineI t s = 0) (hall : allR t s (cntO []) t.goal = true) (out : List Fr) : SpecP Try.prog 24 [.task t, .ints n1 s] out fun r ro => ∃ (L : List CutD) (b : Bool), CutRun t s (t.acts.map (·.cost)) L ∧ r = .tup [.cuts b (L.map cX), .int 0] ∧ ro = [] :=
  (f24_spec t n1 s out).close fun r ro h => by
    rcases h with ⟨h, _⟩ | ⟨_, h, _⟩ | ⟨_, _, L, hL, rfl, rfl⟩
    · exact absurd h0 h
    · rw [hall] at h; cases h
    · refine ⟨_, .pair _ _ _ _ (acc_cls (e := 54) fun x r h => by rw [h]; rfl) (.same _), L, (L.map tCut).isEmpty, hL, ?_, rfl⟩
      show LV.tup [.t (.sl _ 2 (L.map tCut)), .int 0] = LV.tup [.t (.sl _ 2 ((L.map cX).map tCutX)), .int 0]
      rw [tCut_cX]
theorem f23u_spec (t : Task) (n1 n2 : Bool) (s p : List Int) (TK : TaskOK t) (hs : risingB s t.facts.length = true) (hv : Valid t s p) (out : List Fr) :
    SpecP Try.prog 23 [.task t, .ints n1 s, .ints n2 p] out fun r ro => r = .tup [.t (.sl false 1 (stRows t s p p.length)), .int (costAt t p p.length), .int (-1)] ∧ ro = [] :=
  (f23_spec t n1 n2 s p TK hs hv.plan out).close fun r ro h => by
    obtain ⟨k, at_, hk, _, hor, rfl, rfl⟩ := h
    rcases hor with ⟨rfl, rfl⟩ | ⟨hkl, hno, _⟩
    · refine ⟨_, .triple _ _ _ _ _ _ (.row 112 23 1 0 _ (stRows t s p p.length) rfl (by simp)) (.same _) (.same _), ?_, rfl⟩
      rw [← take_all]; rfl
    · rw [hv.ok k hkl] at hno; cases hno

theorem total_in {l : List CutM} (h : ∀ c ∈ l, 0 ≤ c.cost ∧ c.cost ≤ 100000) : 0 ≤ total l ∧ total l ≤ 100000 * (l.length : Int) := by
  induction l with
  | nil => simp [total]
  | cons c r ih =>
    have h1 := h c (List.mem_cons_self ..)
    have h2 := ih fun x hx => h x (List.mem_cons_of_mem _ hx)
    simp only [total, List.length_cons]; omega
theorem total_take {l : List CutM} {i : Nat} (hi : i < l.length) : total (l.take (i + 1)) = total (l.take i) + l[i].cost := by
  rw [List.take_add_one, List.getElem?_eq_getElem hi, Option.toList_some, total_append]; simp [total]

def kp4 : Kp := [(13, ([2, 7, 9, 14, 16, 97, 98, 99], [])), (17, ([2, 7, 9, 14, 16, 19, 20, 97, 98, 99, 103, 104, 105], [152])), (25, ([2, 7, 16, 120, 121, 122], [])), (32, ([2, 7, 25, 131, 132, 133], [])), (36, ([2, 7, 25, 27, 28, 131, 132, 133, 138, 139, 140], [216]))]
theorem f4_spec (t : Task) (n1 n2 : Bool) (s p : List Int) (out : List Fr) : SpecP Try.prog 4 [.task t, .ints n1 s, .ints n2 p] out fun r ro => r = .bool true ∧ ro = [] := by
  refine spec_body cx_ok kp4 [] (fn := Try.f4) (by kernel_rfl) rfl (by kernel_rfl) rfl (by unfold FnOK; kernel_rfl) fun hok => ?_
  refine SpecP.mono (f13_spec t 200 []) ?_
  rintro _ _ ⟨few, rfl, rfl⟩
  refine And.intro (fun h1 => ?_) fun h1 => ?_
  rotate_left
  · refine SpecP.mono (f14_spec []) ?_
    rintro _ _ ⟨rfl, rfl⟩
    refine And.intro (fun _ => ?_) fun h => Bool.noConfusion h
    exact Exists.intro [] (ret_bool rfl rfl)
  refine And.intro (fun h2 => ?_) fun h2 => ?_
  · refine SpecP.mono (f14_spec []) ?_
    rintro _ _ ⟨rfl, rfl⟩
    refine And.intro (fun _ => ?_) fun h => Bool.noConfusion h
    exact Exists.intro [] (ret_bool rfl rfl)
  refine And.intro (fun h2 => ?_) fun h2 => ?_
  · refine SpecP.mono (f14_spec []) ?_
    rintro _ _ ⟨rfl, rfl⟩
    refine And.intro (fun _ => ?_) fun h => Bool.noConfusion h
    exact Exists.intro [] (ret_bool rfl rfl)
  refine SpecP.mono (f17_spec t n1 s []) ?_
  rintro _ _ ⟨rfl, rfl⟩
  refine And.intro (fun h0 => ?_) fun h0 => ?_
  · refine SpecP.mono (f14_spec []) ?_
    rintro _ _ ⟨rfl, rfl⟩
    refine And.intro (fun _ => ?_) fun h => Bool.noConfusion h
    exact Exists.intro [] (ret_bool rfl rfl)
  have h0 : fineI t s = 0 := by simpa using h0
  obtain ⟨ht, hs⟩ := hts_of h0
  have TK := task_ok ht
  have hin := rising_in hs
  have hA := TK.acts
  have hN := TK.facts
  refine SpecP.mono (f22_spec t n1 n2 s p TK hs []) ?_
  rintro _ _ (⟨_, rfl, rfl⟩ | ⟨hv, rfl, rfl⟩)
  · refine And.intro (fun h => Bool.noConfusion h) fun _ => ?_
    refine SpecP.mono (f14_spec []) ?_
    rintro _ _ ⟨rfl, rfl⟩
    refine And.intro (fun _ => ?_) fun h => Bool.noConfusion h
    exact Exists.intro [] (ret_bool rfl rfl)
  refine And.intro (fun _ => ?_) fun h => Bool.noConfusion h
  have hall := plan_some TK hin hv
  have hpl : p.length ≤ 10000 := by have := hv.plan; simp only [planB, Bool.and_eq_true, decide_eq_true_eq] at this; exact this.1
  refine SpecP.mono (f23u_spec t n1 n2 s p TK hs hv []) ?_
  rintro _ _ ⟨rfl, rfl⟩
  refine SpecP.mono (f15u_spec t n1 s h0 []) ?_
  rintro _ _ ⟨rfl, rfl⟩
  refine SpecP.mono (f16u_spec t n1 s h0 []) ?_
  rintro _ _ ⟨rfl, rfl⟩
  refine SpecP.mono (f24u_spec t n1 s h0 hall []) ?_
  rintro _ _ ⟨L, bX, hL, rfl, rfl⟩
  have hrr := run_right hall hL (restOK0 TK) [] (fun c hc => by cases hc) (Left_.zero TK)
  have hln := run_len hall hL (restOK0 TK)
  have hcp := List.countP_le_length (p := fun x : Int => decide (x > 0)) (l := t.acts.map (·.cost))
  have hXl : (L.map cX).length ≤ 1000 := by rw [List.length_map] at hcp ⊢; omega
  rw [List.nil_append] at hrr
  have hcost := plan_cost TK hin hv hrr.1
  generalize L.map cX = X at hrr hXl hcost
  have hoks := (right_parts hrr.1).1
  have hbig := costAt_in TK hv.plan p.length (Nat.le_refl _)
  have hFl : (factsF t s).length ≤ 400 := by
    rw [factsF, List.length_map]; exact Nat.le_trans (selI_len _ _) (by omega)
  have hFm : ∀ x ∈ factsF t s, ∃ q, q ≤ p.length ∧ holdsB (stAt t s p q) [x] = true := fun x hx => by
    obtain ⟨y, hy, rfl⟩ := List.mem_map.1 hx
    obtain ⟨k, rfl, _, hk⟩ := selI_mem hy
    exact plan_lit TK hin hv hk
  generalize factsF t s = F at hFl hFm
  have hAl : (selI t.acts.length (onlyA t s)).length ≤ 1000 := Nat.le_trans (selI_len _ _) hA
  have hAm : ∀ x ∈ selI t.acts.length (onlyA t s), hasB p x = true := fun x hx => by
    obtain ⟨k, rfl, _, hk⟩ := selI_mem hx
    have hk' : allR t s (cntO [(k : Int)]) t.goal = false := by simpa [onlyA] using hk
    obtain ⟨y, hy, hyp⟩ := plan_acts TK hin hv hk'
    simp at hy; rw [← hy]; exact hyp
  generalize selI t.acts.length (onlyA t s) = A at hAl hAm
  have hXm : ∀ c ∈ X, ∃ y ∈ c.acts, hasB p y = true := fun c hc => plan_acts TK hin hv (okC_cost (hoks c hc)).2.2.2
  have hrl := stRows_len t s p p.length
  refine And.intro (fun h => absurd h (by decide)) fun _ => ?_
  refine And.intro (fun h => absurd h (by decide)) fun _ => ?_
  refine And.intro (fun h => absurd h (by decide)) fun _ => ?_
  refine LoopW.mk Nat (fun i => i ≤ F.length) (fun i => [(2, .ints n2 p), (7, .int (costAt t p p.length)), (9, .t (.sl false 1 (stRows t s p p.length))), (14, .ints (A.map tI).isEmpty A), (16, .cuts bX X), (97, .lits (F.map tLit).isEmpty F), (98, .int (F.map tLit).length), (99, .int i)])
    (fun _ => ⟨out, []⟩) (fun i => F.length - i) 0 (Nat.zero_le _) ⟨rfl, rfl⟩ fun i hi0 => ?_
  refine And.intro (fun h3 => ?_) fun h3 => ?_
  · have hi := lt_of_dec h3
    obtain ⟨q, hq, hqh⟩ := hFm _ (List.getElem_mem hi)
    refine And.intro (by omega) (Exists.intro _ (And.intro (get_map hi) ?_))
    refine LoopW.mk (Nat × Bool) (fun u => u.1 ≤ p.length + 1 ∧ u.2 = (List.range u.1).any fun j => holdsB (stAt t s p j) [F[i]])
      (fun u => [(2, .ints n2 p), (7, .int (costAt t p p.length)), (9, .t (.sl false 1 (stRows t s p p.length))), (14, .ints (A.map tI).isEmpty A), (16, .cuts bX X), (19, .ptr (.cur 152) 0), (20, .bool u.2), (97, .lits (F.map tLit).isEmpty F), (98, .int (F.map tLit).length), (99, .int i), (103, .t (.sl false 1 (stRows t s p p.length))), (104, .int (stRows t s p p.length).length), (105, .int u.1)])
      (fun _ => ⟨out, [(152, .box [.t (.v (.int .i64 F[i].fact)), .t (.v (.bool F[i].neg))])]⟩) (fun u => p.length + 1 - u.1) (0, false) ⟨Nat.zero_le _, rfl⟩ ⟨rfl, rfl⟩ ?_
    rintro ⟨j, met⟩ ⟨hj0, hmet⟩
    simp only at hj0 hmet
    cases met with
    | true =>
      refine And.intro (fun k1 => ?_) fun k1 => ?_
      · have hj : j < p.length + 1 := by have := of_decide_eq_true k1; simp only at this; omega
        refine And.intro (by omega) (Exists.intro [sT (stAt t s p j)] (And.intro (by rw [Int.toNat_natCast]; exact stRows_get (by omega)) ?_))
        refine And.intro (by omega) (And.intro (by omega) ?_)
        refine Exists.intro (j + 1, true) (And.intro (by show p.length + 1 - (j + 1) < p.length + 1 - j; omega) (And.intro ⟨hj, ?_⟩ (And.intro rfl rfl)))
        show true = (List.range (j + 1)).any _
        rw [List.range_succ, List.any_append, ← hmet]; rfl
      · refine And.intro (by omega) (And.intro (by omega) ?_)
        exact Exists.intro (i + 1) (And.intro (by show F.length - (i + 1) < F.length - i; omega) (And.intro hi (And.intro rfl rfl)))
    | false =>
      refine And.intro (fun k1 => ?_) fun k1 => ?_
      · have hj : j < p.length + 1 := by have := of_decide_eq_true k1; simp only at this; omega
        refine And.intro (by omega) (Exists.intro [sT (stAt t s p j)] (And.intro (by rw [Int.toNat_natCast]; exact stRows_get (by omega)) ?_))
        refine Exists.intro [tLit F[i]] (And.intro rfl (And.intro (Nat.le_refl 1) ?_))
        refine SpecP.conv (conv_first fun _ _ _ _ => sT_vl) (SpecP.mono (f25_spec (stAt t s p j).isEmpty false (stAt t s p j) [F[i]] _) ?_)
        rintro _ _ ⟨rfl, rfl⟩
        refine And.intro trivial (And.intro trivial ?_)
        refine And.intro (fun k2 => ?_) fun k2 => ?_
        · refine And.intro (by omega) (And.intro (by omega) ?_)
          refine Exists.intro (j + 1, true) (And.intro (by show p.length + 1 - (j + 1) < p.length + 1 - j; omega) (And.intro ⟨hj, ?_⟩ (And.intro rfl rfl)))
          show true = (List.range (j + 1)).any _
          rw [List.range_succ, List.any_append, ← hmet]; simp [k2]
        · refine And.intro (by omega) (And.intro (by omega) ?_)
          refine Exists.intro (j + 1, false) (And.intro (by show p.length + 1 - (j + 1) < p.length + 1 - j; omega) (And.intro ⟨hj, ?_⟩ (And.intro rfl rfl)))
          show false = (List.range (j + 1)).any _
          rw [List.range_succ, List.any_append, ← hmet]; simp [k2]
      · have hj : j = p.length + 1 := by have := of_decide_eq_false k1; simp only at this; omega
        rw [hj, rany_true (i := q) (by omega) hqh] at hmet
        cases hmet
  refine LoopW.mk Nat (fun i => i ≤ A.length) (fun i => [(2, .ints n2 p), (7, .int (costAt t p p.length)), (16, .cuts bX X), (120, .ints (A.map tI).isEmpty A), (121, .int (A.map tI).length), (122, .int i)])
    (fun _ => ⟨out, []⟩) (fun i => A.length - i) 0 (Nat.zero_le _) ⟨rfl, rfl⟩ fun i hi0 => ?_
  refine And.intro (fun h4 => ?_) fun h4 => ?_
  · have hi := lt_of_dec h4
    refine And.intro (by omega) (Exists.intro _ (And.intro (get_map hi) ?_))
    refine SpecP.mono (f26_spec n2 p A[i] []) ?_
    rintro _ _ ⟨rfl, rfl⟩
    rw [hAm _ (List.getElem_mem hi)]
    refine And.intro (fun _ => ?_) fun h => Bool.noConfusion h
    refine And.intro (by omega) (And.intro (by omega) ?_)
    exact Exists.intro (i + 1) (And.intro (by show A.length - (i + 1) < A.length - i; omega) (And.intro hi (And.intro rfl rfl)))
  refine LoopW.mk Nat (fun i => i ≤ X.length) (fun i => [(2, .ints n2 p), (7, .int (costAt t p p.length)), (25, .int (total (X.take i))), (131, .cuts bX X), (132, .int (X.map tCutX).length), (133, .int i)])
    (fun _ => ⟨out, []⟩) (fun i => X.length - i) 0 (Nat.zero_le _) ⟨rfl, rfl⟩ fun i hi0 => ?_
  refine And.intro (fun h5 => ?_) fun h5 => ?_
  · have hi := lt_of_dec h5
    obtain ⟨y, hy, hyp⟩ := hXm _ (List.getElem_mem hi)
    obtain ⟨g1, g2, g3, _⟩ := okC_cost (hoks _ (List.getElem_mem hi))
    have hal := rising_len g3 (by omega)
    have htot := total_in (l := X.take i) fun c hc => by
      have := okC_cost (hoks c (List.mem_of_mem_take hc)); omega
    have htl : (X.take i).length ≤ 1000 := by rw [List.length_take]; omega
    refine And.intro (by omega) (Exists.intro _ (And.intro (get_map hi) ?_))
    refine LoopW.mk (Nat × Bool) (fun u => u.1 ≤ X[i].acts.length ∧ u.2 = (X[i].acts.take u.1).any (hasB p))
      (fun u => [(2, .ints n2 p), (7, .int (costAt t p p.length)), (25, .int (total (X.take i))), (27, .ptr (.cur 216) 0), (28, .bool u.2), (131, .cuts bX X), (132, .int (X.map tCutX).length), (133, .int i), (138, .ints X[i].nil X[i].acts), (139, .int (X[i].acts.map tI).length), (140, .int u.1)])
      (fun _ => ⟨out, [(216, .box [.t (.sl X[i].nil 1 (X[i].acts.map tI)), .t (.v (.int .i64 X[i].cost))])]⟩) (fun u => X[i].acts.length - u.1) (0, false) ⟨Nat.zero_le _, rfl⟩ ⟨rfl, rfl⟩ ?_
    rintro ⟨j, met⟩ ⟨hj0, hmet⟩
    simp only at hj0 hmet
    have hnx : ∀ hj : j < X[i].acts.length, (X[i].acts.take (j + 1)).any (hasB p) = (met || hasB p X[i].acts[j]) := fun hj => by
      rw [List.take_add_one, List.any_append, ← hmet]; simp [hj]
    cases met with
    | true =>
      refine And.intro (fun k1 => ?_) fun k1 => ?_
      · have hj : j < X[i].acts.length := lt_of_dec k1
        refine And.intro (by omega) (Exists.intro _ (And.intro (get_map hj) ?_))
        refine And.intro (by omega) (And.intro (by omega) ?_)
        exact Exists.intro (j + 1, true) (And.intro (by show X[i].acts.length - (j + 1) < X[i].acts.length - j; omega) (And.intro ⟨hj, by show true = _; rw [hnx hj]; rfl⟩ (And.intro rfl rfl)))
      · refine And.intro (by omega) (And.intro (by omega) ?_)
        refine And.intro (by omega) (And.intro (by omega) ?_)
        refine Exists.intro (i + 1) (And.intro (by show X.length - (i + 1) < X.length - i; omega) (And.intro hi ?_))
        simp only [total_take hi]
        exact And.intro rfl rfl
    | false =>
      refine And.intro (fun k1 => ?_) fun k1 => ?_
      · have hj : j < X[i].acts.length := lt_of_dec k1
        refine And.intro (by omega) (Exists.intro _ (And.intro (get_map hj) ?_))
        refine SpecP.mono (f26_spec n2 p X[i].acts[j] []) ?_
        rintro _ _ ⟨rfl, rfl⟩
        refine And.intro (fun k2 => ?_) fun k2 => ?_
        · refine And.intro (by omega) (And.intro (by omega) ?_)
          exact Exists.intro (j + 1, true) (And.intro (by show X[i].acts.length - (j + 1) < X[i].acts.length - j; omega) (And.intro ⟨hj, by show true = _; rw [hnx hj, k2]; rfl⟩ (And.intro rfl rfl)))
        · refine And.intro (by omega) (And.intro (by omega) ?_)
          exact Exists.intro (j + 1, false) (And.intro (by show X[i].acts.length - (j + 1) < X[i].acts.length - j; omega) (And.intro ⟨hj, by show false = _; rw [hnx hj, k2]; rfl⟩ (And.intro rfl rfl)))
      · have hj : X[i].acts.length ≤ j := ge_of_dec k1
        rw [List.take_of_length_le hj] at hmet
        rw [List.any_eq_true.2 ⟨y, hy, hyp⟩] at hmet
        cases hmet
  · have hi : X.length ≤ i := ge_of_dec h5
    rw [List.take_of_length_le hi]
    refine And.intro (fun _ => ?_) fun h => absurd (decide_eq_true hcost) (by rw [h]; simp)
    refine SpecP.mono (f14_spec []) ?_
    rintro _ _ ⟨rfl, rfl⟩
    refine And.intro (fun _ => ?_) fun h => Bool.noConfusion h
    exact Exists.intro [] (ret_bool rfl rfl)

end Go.Fw

/- The state after an action: the plain law. -/
namespace Go.Fw
open Go Go.Proofs

theorem perm_eraseIdx {α : Type} {a : α} : ∀ {l : List α} {i : Nat}, l[i]? = some a → l.Perm (a :: l.eraseIdx i)
  | [], i, h => by simp at h
  | x :: r, 0, h => by simp at h; subst h; exact List.Perm.refl _
  | x :: r, i + 1, h => by
    have ih := perm_eraseIdx (l := r) (i := i) (by simpa using h)
    rw [List.eraseIdx_cons_succ]
    exact (ih.cons x).trans (List.Perm.swap _ _ _)

theorem inc_ext : ∀ {l m : List Int}, l.Pairwise (· < ·) → m.Pairwise (· < ·) → (∀ x, x ∈ l ↔ x ∈ m) → l = m
  | [], [], _, _, _ => rfl
  | [], b :: m, _, _, h => by have := (h b).2 (List.mem_cons_self ..); cases this
  | a :: l, [], _, _, h => by have := (h a).1 (List.mem_cons_self ..); cases this
  | a :: l, b :: m, hl, hm, h => by
    obtain ⟨hl1, hl2⟩ := List.pairwise_cons.1 hl
    obtain ⟨hm1, hm2⟩ := List.pairwise_cons.1 hm
    have hab : a = b := by
      rcases List.mem_cons.1 ((h a).1 (List.mem_cons_self ..)) with h1 | h1
      · exact h1
      · rcases List.mem_cons.1 ((h b).2 (List.mem_cons_self ..)) with h2 | h2
        · exact h2.symm
        · have := hm1 a h1; have := hl1 b h2; omega
    subst hab
    rw [inc_ext hl2 hm2 fun x => ?_]
    constructor
    · intro hx
      rcases List.mem_cons.1 ((h x).1 (List.mem_cons_of_mem _ hx)) with h1 | h1
      · have := hl1 x hx; omega
      · exact h1
    · intro hx
      rcases List.mem_cons.1 ((h x).2 (List.mem_cons_of_mem _ hx)) with h1 | h1
      · have := hm1 x hx; omega
      · exact h1

theorem listFrom_inc : ∀ (b : List Bool) (k : Nat), (listFrom k b).Pairwise (· < ·) ∧ ∀ x ∈ listFrom k b, (k : Int) ≤ x
  | [], k => ⟨.nil, by simp [listFrom]⟩
  | b :: r, k => by
    obtain ⟨h1, h2⟩ := listFrom_inc r (k + 1)
    cases b with
    | false => exact ⟨by simpa [listFrom] using h1, fun x hx => by have := h2 x (by simpa [listFrom] using hx); omega⟩
    | true =>
      have e : listFrom k (true :: r) = (k : Int) :: listFrom (k + 1) r := rfl
      rw [e]
      refine ⟨List.pairwise_cons.2 ⟨fun x hx => by have := h2 x hx; omega, h1⟩, fun x hx => ?_⟩
      rcases List.mem_cons.1 hx with rfl | hx
      · omega
      · have := h2 x hx; omega
theorem listL_inc (b : List Bool) : (listL b).Pairwise (· < ·) := (listFrom_inc b 0).1

theorem rising_inc {l : List Int} {n : Int} (h : risingB l n = true) : l.Pairwise (· < ·) := List.pairwise_iff_getElem.2 fun i j _ hj hij => rising_lt h j i hj hij
theorem inc_nodup {l : List Int} (h : l.Pairwise (· < ·)) : l.Nodup := h.imp fun hab => by omega
theorem hasB_mem {l : List Int} {x : Int} : hasB l x = true ↔ x ∈ l := by simp [hasB, List.any_eq_true]

theorem sort_inc {L M : List Int} (hn : L.Nodup) (hM : M.Pairwise (· < ·)) (h : ∀ x, x ∈ L ↔ x ∈ M) : (L.mergeSort fun x y => decide (x ≤ y)) = M := by
  have hp := List.mergeSort_perm L fun x y => decide (x ≤ y)
  have hs := List.pairwise_mergeSort (le := fun x y : Int => decide (x ≤ y)) (fun a b c h1 h2 => by simp at *; omega) (fun a b => by simp; omega) L
  have hn' := hp.nodup_iff.2 hn
  refine inc_ext ((hs.and hn').imp fun ⟨h1, h2⟩ => by simp at h1; omega) hM fun x => ?_
  rw [hp.mem_iff]; exact h x

def posB (s : List Int) (l : List Eff) (x : Int) : Bool := l.any fun e => (!e.lit.neg && holdsB s e.when_) && e.lit.fact == x
def negB (s : List Int) (l : List Eff) (x : Int) : Bool := l.any fun e => (e.lit.neg && holdsB s e.when_) && e.lit.fact == x

theorem neg_get {s : List Int} {n f : Nat} : ∀ {l : List Eff} {b : List Bool}, factsIn n l → b.length = n → (l.foldl (negStep s) b).getD f false = (b.getD f false && !negB s l (f : Int))
  | [], b, _, _ => by simp [negB]
  | e :: r, b, hl, hb => by
    have hin := hl e (List.mem_cons_self ..)
    rw [List.foldl_cons, neg_get (fun x hx => hl x (List.mem_cons_of_mem _ hx)) (by rw [neg_len, hb])]
    have e1 : negB s (e :: r) (f : Int) = (((e.lit.neg && holdsB s e.when_) && e.lit.fact == (f : Int)) || negB s r (f : Int)) := rfl
    rw [e1]
    unfold negStep
    split
    · rename_i hc
      rw [hc, getD_set (by have := hin.1; have := hin.2; omega)]
      by_cases hf : e.lit.fact.toNat = f
      · rw [if_pos hf]
        have : (e.lit.fact == (f : Int)) = true := by simp; have := hin.1; omega
        simp [this]
      · rw [if_neg hf]
        have : (e.lit.fact == (f : Int)) = false := by simp; intro h; exact hf (by omega)
        simp [this]
    · rename_i hc
      have hc : (e.lit.neg && holdsB s e.when_) = false := by simpa using hc
      rw [hc]; simp
theorem pos_get {s : List Int} {n f : Nat} : ∀ {l : List Eff} {b : List Bool}, factsIn n l → b.length = n → (l.foldl (posStep s) b).getD f false = (b.getD f false || posB s l (f : Int))
  | [], b, _, _ => by simp [posB]
  | e :: r, b, hl, hb => by
    have hin := hl e (List.mem_cons_self ..)
    rw [List.foldl_cons, pos_get (fun x hx => hl x (List.mem_cons_of_mem _ hx)) (by rw [pos_len, hb])]
    have e1 : posB s (e :: r) (f : Int) = (((!e.lit.neg && holdsB s e.when_) && e.lit.fact == (f : Int)) || posB s r (f : Int)) := rfl
    rw [e1]
    unfold posStep
    split
    · rename_i hc
      rw [hc, getD_set (by have := hin.1; have := hin.2; omega)]
      by_cases hf : e.lit.fact.toNat = f
      · rw [if_pos hf]
        have : (e.lit.fact == (f : Int)) = true := by simp; have := hin.1; omega
        simp [this]
      · rw [if_neg hf]
        have : (e.lit.fact == (f : Int)) = false := by simp; intro h; exact hf (by omega)
        simp [this]
    · rename_i hc
      have hc : (!e.lit.neg && holdsB s e.when_) = false := by simpa using hc
      rw [hc]; simp
theorem after_get {n : Nat} {s : List Int} {l : List Eff} {f : Nat} (hl : factsIn n l) (hs : ∀ x ∈ s, 0 ≤ x ∧ x < (n : Int)) (hf : f < n) : hasB (afterL n s l) (f : Int) = ((hasB s (f : Int) && !negB s l (f : Int)) || posB s l (f : Int)) := by
  rw [afterL, hasB_listL, afterBits, pos_get hl (by rw [negAll, foldl_len (neg_len s), bitsL_length]), negAll, neg_get hl (bitsL_length _ _), bits_get hs hf]

/-- What the program gathers, sorted, is the state after the action. -/
theorem after_sort {n : Nat} {s : List Int} {l : List Eff} {A A' D : List Int} (hl : factsIn n l) (hs : risingB s n = true) (hA : ∀ x, hasB A x = posB s l x) (hD : ∀ x, hasB D x = negB s l x) (hn : A.Nodup) (hp : A'.Perm A) :
    ((s.filter (fun x => !hasB D x || hasB A x) ++ A'.filter fun x => !hasB s x).mergeSort fun x y => decide (x ≤ y)) = afterL n s l := by
  have hin := rising_in hs
  have hns := inc_nodup (rising_inc hs)
  refine sort_inc ?_ (listL_inc _) fun x => ?_
  · refine List.nodup_append.2 ⟨hns.filter _, (hp.nodup_iff.2 hn).filter _, fun a ha b hb hab => ?_⟩
    subst hab
    have h1 := (List.mem_filter.1 ha).1
    have h2 := (List.mem_filter.1 hb).2
    rw [hasB_mem.2 h1] at h2; cases h2
  · have key : ∀ f : Nat, f < n → ((f : Int) ∈ (s.filter (fun x => !hasB D x || hasB A x) ++ A'.filter fun x => !hasB s x) ↔ hasB (afterL n s l) (f : Int) = true) := by
      intro f hf
      rw [after_get hl hin hf, List.mem_append, List.mem_filter, List.mem_filter, hp.mem_iff, ← hasB_mem (l := s), ← hasB_mem (l := A), hA, hD]
      cases hasB s (f : Int) <;> cases negB s l (f : Int) <;> cases posB s l (f : Int) <;> simp
    have hmemA : ∀ x ∈ A, 0 ≤ x ∧ x < (n : Int) := fun x hx => by
      have := hasB_mem.2 hx
      rw [hA, posB, List.any_eq_true] at this
      obtain ⟨e, he, h⟩ := this
      simp only [Bool.and_eq_true, beq_iff_eq] at h
      rw [← h.2]; exact hl e he
    constructor
    · intro hx
      have hr : 0 ≤ x ∧ x < (n : Int) := by
        rcases List.mem_append.1 hx with h | h
        · exact hin x (List.mem_filter.1 h).1
        · exact hmemA x (hp.mem_iff.1 (List.mem_filter.1 h).1)
      obtain ⟨f, rfl⟩ : ∃ f : Nat, x = (f : Int) := ⟨x.toNat, by omega⟩
      exact hasB_mem.1 ((key f (by omega)).1 hx)
    · intro hx
      have hr := after_in n s l x hx
      obtain ⟨f, rfl⟩ : ∃ f : Nat, x = (f : Int) := ⟨x.toNat, by omega⟩
      exact (key f (by omega)).2 (hasB_mem.2 hx)

theorem upd_kvN (x : Int) {l : List Int} (hn : l.Nodup) : ∃ m, updKV (.int .i64 x) (.v (.bool true)) (kvI l) = kvI m ∧ (∀ y, hasB m y = (hasB l y || x == y)) ∧ m.Nodup ∧ m.length ≤ l.length + 1 := by
  have key : ∀ l : List Int, updKV (.int .i64 x) (.v (.bool true)) (kvI l) = kvI (if hasB l x = true then l else l ++ [x]) := by
    intro l
    induction l with
    | nil => rfl
    | cons z r ih =>
      by_cases h : x = z
      · subst h
        simp only [kvI, List.map_cons, updKV]
        rw [if_pos (show sameK (.int .i64 x) (.int .i64 x) = true by simp [sameK]), if_pos (by simp [hasB])]
        rfl
      · simp only [kvI, List.map_cons, updKV] at ih ⊢
        rw [if_neg (show ¬ sameK (.int .i64 x) (.int .i64 z) = true by simpa [sameK] using h), ih]
        have h2 : (z == x) = false := by simpa using fun hh => h hh.symm
        have e : hasB (z :: r) x = hasB r x := by simp only [hasB, List.any_cons, h2, Bool.false_or]
        rw [e]
        split <;> rfl
  refine ⟨_, key l, fun y => ?_, ?_, ?_⟩
  · split
    · rename_i hx
      by_cases hxy : x = y
      · subst hxy; rw [hx]; simp
      · have : (x == y) = false := by simpa using hxy
        rw [this, Bool.or_false]
    · exact hasB_snoc l x y
  · split
    · exact hn
    · rename_i hx
      refine List.nodup_append.2 ⟨hn, by simp, fun a ha b hb hab => ?_⟩
      simp at hb; subst hb; subst hab
      exact hx (hasB_mem.2 ha)
  · split <;> simp

end Go.Fw

/- What the program's functions do, part 38: the state after an action. -/
namespace Go.Fw
open Go Go.Proofs
set_option maxRecDepth 10000

theorem accV_ne {σ sz : Nat} {es : List (List T)} (h : es ≠ []) : accV σ sz es = .osl (.cur σ) sz 0 es.length := by
  cases es with
  | nil => exact absurd rfl h
  | cons x r => rfl
theorem accO_ne {σ e sz : Nat} {es : List (List T)} (h : es ≠ []) : accO σ e sz es = [(σ, .row e sz es)] := by
  cases es with
  | nil => exact absurd rfl h
  | cons x r => rfl
theorem kvI_erase : ∀ (R : List Int) (i : Nat), (kvI R).eraseIdx i = kvI (R.eraseIdx i)
  | [], _ => rfl
  | _ :: _, 0 => rfl
  | _ :: r, i + 1 => congrArg (_ :: ·) (kvI_erase r i)
theorem kvI_get {R : List Int} {i : Nat} {p : Value × T} (h : (kvI R)[i]? = some p) : ∃ x, R[i]? = some x ∧ p = (.int .i64 x, .v (.bool true)) := by
  rw [kvI, List.getElem?_map] at h
  cases hx : R[i]? with
  | none => rw [hx] at h; cases h
  | some x => rw [hx] at h; cases h; exact ⟨x, rfl, rfl⟩
theorem posB_step {s : List Int} {l : List Eff} {i : Nat} (hi : i < l.length) (x : Int) : posB s (l.take (i + 1)) x = (posB s (l.take i) x || ((!l[i].lit.neg && holdsB s l[i].when_) && l[i].lit.fact == x)) := by
  rw [posB, List.take_add_one, List.getElem?_eq_getElem hi, Option.toList_some, List.any_append]; simp [posB]
theorem negB_step {s : List Int} {l : List Eff} {i : Nat} (hi : i < l.length) (x : Int) : negB s (l.take (i + 1)) x = (negB s (l.take i) x || ((l[i].lit.neg && holdsB s l[i].when_) && l[i].lit.fact == x)) := by
  rw [negB, List.take_add_one, List.getElem?_eq_getElem hi, Option.toList_some, List.any_append]; simp [negB]
theorem filter_step {l : List Int} {p : Int → Bool} {i : Nat} (hi : i < l.length) : (l.take (i + 1)).filter p = (l.take i).filter p ++ if p l[i] then [l[i]] else [] := by
  rw [List.take_add_one, List.getElem?_eq_getElem hi, Option.toList_some, List.filter_append]
  cases h : p l[i] <;> simp [h]
theorem filter_len {l : List Int} {p : Int → Bool} : (l.filter p).length ≤ l.length := List.length_filter_le ..

def kp76 : Kp := [(3, ([0, 5, 6, 16, 17, 18], [104, 112])), (12, ([0, 5, 6, 9, 38, 39, 40], [104, 112, 448])), (18, ([0, 9, 59], [472, 448, 568]))]
theorem f76o_spec (n1 : Bool) (s : List Int) (a : Actn) (n : Nat) (hs : risingB s n = true) (hn : n ≤ 1000000000) (hf : factsIn n a.effs) (he : a.effs.length ≤ 1000000) (out : List Fr) :
    SpecP Try.prog 76 [.ints n1 s, .act a] out fun r ro => ∃ σ, (σ = 448 ∨ σ = 568) ∧ r = accV σ 1 ((afterL n s a.effs).map tI) ∧ ro = accO σ 3 1 ((afterL n s a.effs).map tI) := by
  refine spec_body cx_ok kp76 [] (fn := Try.f76) (by kernel_rfl) rfl (by kernel_rfl) rfl (by unfold FnOK; kernel_rfl) fun hok => ?_
  have hsl := rising_len hs (by omega)
  refine LoopW.mk (Nat × List Int × List Int) (fun u => u.1 ≤ a.effs.length ∧ (∀ x, hasB u.2.1 x = posB s (a.effs.take u.1) x) ∧ (∀ x, hasB u.2.2 x = negB s (a.effs.take u.1) x) ∧ u.2.1.Nodup ∧ u.2.2.Nodup ∧ u.2.1.length ≤ u.1)
    (fun u => [(0, .ints n1 s), (5, .mpr (.cur 104)), (6, .mpr (.cur 112)), (16, .t (.sl a.en 3 (a.effs.map tEff))), (17, .int (a.effs.map tEff).length), (18, .int u.1)])
    (fun u => ⟨out, [(104, .mp (.int .i64) (kvI u.2.1)), (112, .mp (.int .i64) (kvI u.2.2))]⟩) (fun u => a.effs.length - u.1) (0, [], []) ⟨Nat.zero_le _, fun _ => rfl, fun _ => rfl, .nil, .nil, Nat.le_refl _⟩ ⟨rfl, rfl⟩ ?_
  rintro ⟨i, A, D⟩ ⟨hi0, hA, hD, hAn, hDn, hAl⟩
  simp only at hi0 hA hD hAn hDn hAl
  refine And.intro (fun h1 => ?_) fun h1 => ?_
  · have hi := lt_of_dec h1
    refine And.intro (by omega) (Exists.intro _ (And.intro (get_map hi) ?_))
    refine SpecP.mono (f56_spec n1 a.effs[i].nil s a.effs[i].when_ n hs (by omega) []) ?_
    rintro _ _ ⟨rfl, rfl⟩
    have fin : ∀ (A' D' : List Int), (∀ x, hasB A' x = (hasB A x || ((!a.effs[i].lit.neg && holdsB s a.effs[i].when_) && a.effs[i].lit.fact == x))) → (∀ x, hasB D' x = (hasB D x || ((a.effs[i].lit.neg && holdsB s a.effs[i].when_) && a.effs[i].lit.fact == x))) → A'.Nodup → D'.Nodup → A'.length ≤ i + 1 →
        (i + 1 ≤ a.effs.length ∧ (∀ x, hasB A' x = posB s (a.effs.take (i + 1)) x) ∧ (∀ x, hasB D' x = negB s (a.effs.take (i + 1)) x) ∧ A'.Nodup ∧ D'.Nodup ∧ A'.length ≤ i + 1) := fun A' D' h1 h2 h3 h4 h5 =>
      ⟨hi, fun x => by rw [h1, posB_step hi, hA], fun x => by rw [h2, negB_step hi, hD], h3, h4, h5⟩
    refine And.intro (fun h2 => ?_) fun h2 => ?_
    · refine And.intro (fun h3 => ?_) fun h3 => ?_
      · obtain ⟨m, g1, g2, g3, _⟩ := upd_kvN a.effs[i].lit.fact hDn
        refine And.intro (by omega) (And.intro (by omega) ?_)
        refine Exists.intro (i + 1, A, m) (And.intro (by show a.effs.length - (i + 1) < a.effs.length - i; omega) (And.intro (fin A m (fun x => by rw [h3]; simp) (fun x => by rw [g2, h2, h3]; simp) hAn g3 (by omega)) (And.intro rfl ?_)))
        show (⟨out, [(104, .mp (.int .i64) (kvI A)), (112, .mp (.int .i64) (updKV (.int .i64 a.effs[i].lit.fact) (.v (.bool true)) (kvI D)))]⟩ : St) = _
        rw [g1]
      · obtain ⟨m, g1, g2, g3, g4⟩ := upd_kvN a.effs[i].lit.fact hAn
        refine And.intro (by omega) (And.intro (by omega) ?_)
        refine Exists.intro (i + 1, m, D) (And.intro (by show a.effs.length - (i + 1) < a.effs.length - i; omega) (And.intro (fin m D (fun x => by rw [g2, h2, h3]; simp) (fun x => by rw [h3]; simp) g3 hDn (by omega)) (And.intro rfl ?_)))
        show (⟨out, [(104, .mp (.int .i64) (updKV (.int .i64 a.effs[i].lit.fact) (.v (.bool true)) (kvI A))), (112, .mp (.int .i64) (kvI D))]⟩ : St) = _
        rw [g1]
    · refine And.intro (by omega) (And.intro (by omega) ?_)
      exact Exists.intro (i + 1, A, D) (And.intro (by show a.effs.length - (i + 1) < a.effs.length - i; omega) (And.intro (fin A D (fun x => by rw [h2]; simp) (fun x => by rw [h2]; simp) hAn hDn (by omega)) (And.intro rfl rfl)))
  have hi : a.effs.length ≤ i := ge_of_dec h1
  rw [List.take_of_length_le hi] at hA hD
  have hAl : A.length ≤ 1000000 := by omega
  clear h1 hi hi0
  -- what stays
  refine LoopW.mk (Nat × List Int) (fun u => u.1 ≤ s.length ∧ u.2 = (s.take u.1).filter (fun x => !hasB D x || hasB A x)) (fun u => [(0, .ints n1 s), (5, .mpr (.cur 104)), (6, .mpr (.cur 112)), (9, accV 448 1 (u.2.map tI)), (38, .ints n1 s), (39, .int (s.map tI).length), (40, .int u.1)])
    (fun u => ⟨out, (104, .mp (.int .i64) (kvI A)) :: (112, .mp (.int .i64) (kvI D)) :: accO 448 3 1 (u.2.map tI)⟩) (fun u => s.length - u.1) (0, []) ⟨Nat.zero_le _, rfl⟩ ⟨rfl, rfl⟩ ?_
  rintro ⟨j, L⟩ ⟨hj0, hL⟩
  simp only at hj0 hL
  have hLl : L.length ≤ s.length := by rw [hL]; exact Nat.le_trans filter_len (by simp; omega)
  have hpl : ∀ {x : Int}, (!hasB D x || hasB A x) = false → hasB D x = true ∧ hasB A x = false := fun {x} h => by
    cases h1 : hasB D x <;> cases h2 : hasB A x <;> simp [h1, h2] at h ⊢
  rcases L with _ | ⟨y, r⟩
  all_goals
    refine And.intro (fun h1 => ?_) fun h1 => ?_
    · have hj := lt_of_dec h1
      have stp := filter_step (l := s) (p := fun x => !hasB D x || hasB A x) hj
      rw [← hL] at stp
      have hlen := hok.1.1
      refine And.intro (by omega) (Exists.intro _ (And.intro (get_map hj) ?_))
      refine Exists.intro _ (And.intro (look_kvI _ _) ?_)
      refine And.intro (fun h2 => ?_) fun h2 => ?_
      · refine Exists.intro _ (And.intro (look_kvI _ _) ?_)
        refine And.intro (fun h3 => ?_) fun h3 => ?_
        · have hp : (!hasB D s[j] || hasB A s[j]) = true := by rw [h2, h3]; rfl
          simp only [hp, if_true] at stp
          first
            | (refine And.intro (Nat.le_of_ble_eq_true rfl) (And.intro (Nat.le_of_ble_eq_true rfl) (And.intro (Nat.le_of_ble_eq_true rfl) ?_))
               refine And.intro (by omega) (And.intro (by omega) ?_)
               exact Exists.intro (j + 1, [s[j]]) (And.intro (by show s.length - (j + 1) < s.length - j; omega) (And.intro ⟨hj, stp.symm⟩ (And.intro rfl rfl))))
            | (have hl2 : ((tI y :: r.map tI) ++ [tI s[j]]).length ≤ s.length + 1 := by simp at hLl ⊢; omega
               refine And.intro (Nat.le_of_ble_eq_true rfl) (And.intro rfl (And.intro (by show ((tI y :: r.map tI) ++ [tI s[j]]).length * 8 ≤ _; omega) (And.intro (by show ((tI y :: r.map tI) ++ [tI s[j]]).length ≤ _; omega) ?_)))
               refine And.intro (by omega) (And.intro (by omega) ?_)
               have e : (r ++ [s[j]]).map tI = r.map tI ++ [tI s[j]] := by simp
               refine Exists.intro (j + 1, y :: (r ++ [s[j]])) (And.intro (by show s.length - (j + 1) < s.length - j; omega) (And.intro ⟨hj, stp.symm⟩ ?_))
               simp only [List.map_cons, e]
               exact And.intro rfl rfl)
        · have hp : (!hasB D s[j] || hasB A s[j]) = false := by rw [h2, h3]; rfl
          simp only [hp, Bool.false_eq_true, if_false, List.append_nil] at stp
          refine And.intro (by omega) (And.intro (by omega) ?_)
          exact Exists.intro (j + 1, _) (And.intro (by show s.length - (j + 1) < s.length - j; omega) (And.intro ⟨hj, stp.symm⟩ (And.intro rfl rfl)))
      · have hp : (!hasB D s[j] || hasB A s[j]) = true := by rw [h2]; rfl
        simp only [hp, if_true] at stp
        first
          | (refine And.intro (Nat.le_of_ble_eq_true rfl) (And.intro (Nat.le_of_ble_eq_true rfl) (And.intro (Nat.le_of_ble_eq_true rfl) ?_))
             refine And.intro (by omega) (And.intro (by omega) ?_)
             exact Exists.intro (j + 1, [s[j]]) (And.intro (by show s.length - (j + 1) < s.length - j; omega) (And.intro ⟨hj, stp.symm⟩ (And.intro rfl rfl))))
          | (have hl2 : ((tI y :: r.map tI) ++ [tI s[j]]).length ≤ s.length + 1 := by simp at hLl ⊢; omega
             refine And.intro (Nat.le_of_ble_eq_true rfl) (And.intro rfl (And.intro (by show ((tI y :: r.map tI) ++ [tI s[j]]).length * 8 ≤ _; omega) (And.intro (by show ((tI y :: r.map tI) ++ [tI s[j]]).length ≤ _; omega) ?_)))
             refine And.intro (by omega) (And.intro (by omega) ?_)
             have e : (r ++ [s[j]]).map tI = r.map tI ++ [tI s[j]] := by simp
             refine Exists.intro (j + 1, y :: (r ++ [s[j]])) (And.intro (by show s.length - (j + 1) < s.length - j; omega) (And.intro ⟨hj, stp.symm⟩ ?_))
             simp only [List.map_cons, e]
             exact And.intro rfl rfl)
    have hj : s.length ≤ j := ge_of_dec h1
    rw [List.take_of_length_le hj] at hL
    have hbig : ∀ {L1 Pd R : List Int}, L1.length ≤ s.length → (Pd ++ R).Perm A → (L1 ++ Pd.filter fun x => !hasB s x).length ≤ 1001000000 := fun {L1 Pd R} h1 h2 => by
      have h3 := h2.length_eq
      have h4 := filter_len (l := Pd) (p := fun x => !hasB s x)
      rw [List.length_append] at h3 ⊢; omega
    first
      | refine LoopW.mk ((Value × T) × List Int × List Int) (fun u => ∃ Pd, (Pd ++ u.2.1).Perm A ∧ u.2.2 = [] ++ Pd.filter fun x => !hasB s x) (fun u => [(0, .ints n1 s), (9, accV 568 1 (u.2.2.map tI)), (59, .ptr (.cur 472) 0)])
          (fun u => ⟨out, (472, .mit (.cur 104) (u.1 :: kvI u.2.1)) :: accO 568 3 1 (u.2.2.map tI)⟩) (fun u => u.2.1.length) ((.slice none 0 0, .v (.bool false)), A, []) ⟨[], List.Perm.refl _, rfl⟩ ⟨rfl, rfl⟩ ?_
      | refine LoopW.mk ((Value × T) × List Int × List Int) (fun u => ∃ Pd, (Pd ++ u.2.1).Perm A ∧ u.2.2 = (y :: r) ++ Pd.filter fun x => !hasB s x) (fun u => [(0, .ints n1 s), (9, accV 448 1 (u.2.2.map tI)), (59, .ptr (.cur 472) 0)])
          (fun u => ⟨out, (472, .mit (.cur 104) (u.1 :: kvI u.2.1)) :: accO 448 3 1 (u.2.2.map tI)⟩) (fun u => u.2.1.length) ((.slice none 0 0, .v (.bool false)), A, y :: r) ⟨[], List.Perm.refl _, by simp⟩ ⟨rfl, rfl⟩ ?_
    rintro ⟨c, R, L⟩ ⟨Pd, hP, hL3⟩
    simp only at hP hL3
    have hLl3 : L.length ≤ 1001000000 := by rw [hL3]; exact hbig hLl hP
    rcases L with _ | ⟨z, q⟩
    all_goals
      first
        | (exfalso; simp at hL3; done)
        | (refine And.intro (fun hz => ?_) fun i p hp => ?_
           · have hR : R = [] := by
               cases R with
               | nil => rfl
               | cons _ _ => cases hz
             rw [hR, List.append_nil] at hP
             have hS := after_sort (n := n) (l := a.effs) (A' := Pd) (D := D) hf hs hA hD hAn hP
             rw [← hL, ← hL3] at hS
             refine And.intro (fun h => Bool.noConfusion h) fun _ => ?_
             first
               | (have hS0 : afterL n s a.effs = [] := by rw [← hS]; exact List.mergeSort_nil ..
                  exact Exists.intro [568] ⟨568, .inr rfl, by rw [hS0]; rfl, by rw [hS0]; rfl⟩)
               | (refine Exists.intro (z :: q) (And.intro rfl (And.intro (by simp) (And.intro (by omega) ?_)))
                  have hlm : ((z :: q).mergeSort fun x y => decide (x ≤ y)).length = (z :: q).length := List.length_mergeSort ..
                  have hne : (afterL n s a.effs).map tI ≠ [] := fun h => by
                    rw [← hS] at h
                    have := congrArg List.length h
                    rw [List.length_map, hlm] at this
                    simp at this
                  have hln : ((afterL n s a.effs).map tI).length = ((z :: q).map tI).length := by rw [← hS]; simp
                  first
                    | (refine Exists.intro [568] ⟨568, .inr rfl, ?_, ?_⟩
                       · rw [accV_ne hne, hln]; rfl
                       · rw [accO_ne hne, ← hS]; rfl)
                    | (refine Exists.intro [448] ⟨448, .inl rfl, ?_, ?_⟩
                       · rw [accV_ne hne, hln]; rfl
                       · rw [accO_ne hne, ← hS]; rfl))
           · obtain ⟨x, hx, rfl⟩ := kvI_get hp
             have hil : i < R.length := (List.getElem?_eq_some_iff.1 hx).1
             have hms : (R.eraseIdx i).length < R.length := by rw [List.length_eraseIdx_of_lt hil]; omega
             have hP' : ((Pd ++ [x]) ++ R.eraseIdx i).Perm A := by
               rw [List.append_assoc]
               exact ((perm_eraseIdx hx).symm.append_left Pd).trans hP
             refine And.intro (fun _ => ?_) fun h => Bool.noConfusion h
             refine SpecP.mono (f88_spec n1 s n x hs (by omega) []) ?_
             rintro _ _ ⟨rfl, rfl⟩
             refine And.intro (fun h3 => ?_) fun h3 => ?_
             · first
                 | (refine Exists.intro ((.int .i64 x, .v (.bool true)), R.eraseIdx i, []) (And.intro hms (And.intro ⟨Pd ++ [x], hP', ?_⟩ (And.intro rfl ?_)))
                    · show _ = _ ++ (Pd ++ [x]).filter fun x => !hasB s x
                      rw [show (Pd ++ [x]).filter (fun x => !hasB s x) = Pd.filter fun x => !hasB s x by rw [List.filter_append]; simp [h3]]; exact hL3
                    · simp only [← kvI_erase]; rfl)
                 | (refine Exists.intro ((.int .i64 x, .v (.bool true)), R.eraseIdx i, z :: q) (And.intro hms (And.intro ⟨Pd ++ [x], hP', ?_⟩ (And.intro rfl ?_)))
                    · show _ = _ ++ (Pd ++ [x]).filter fun x => !hasB s x
                      rw [show (Pd ++ [x]).filter (fun x => !hasB s x) = Pd.filter fun x => !hasB s x by rw [List.filter_append]; simp [h3]]; exact hL3
                    · simp only [← kvI_erase]; rfl)
             · have hfx : (Pd ++ [x]).filter (fun x => !hasB s x) = (Pd.filter fun x => !hasB s x) ++ [x] := by rw [List.filter_append]; simp [h3]
               first
                 | (refine And.intro (Nat.le_of_ble_eq_true rfl) (And.intro (Nat.le_of_ble_eq_true rfl) (And.intro (Nat.le_of_ble_eq_true rfl) ?_))
                    refine Exists.intro ((.int .i64 x, .v (.bool true)), R.eraseIdx i, [x]) (And.intro hms (And.intro ⟨Pd ++ [x], hP', ?_⟩ (And.intro rfl ?_)))
                    · show [x] = _ ++ (Pd ++ [x]).filter fun x => !hasB s x
                      rw [hfx, ← List.append_assoc, ← hL3]; rfl
                    · simp only [← kvI_erase]; rfl)
                 | (have hl2 : ((tI z :: q.map tI) ++ [tI x]).length ≤ 1001000001 := by simp at hLl3 ⊢; omega
                    refine And.intro (Nat.le_of_ble_eq_true rfl) (And.intro rfl (And.intro (by show ((tI z :: q.map tI) ++ [tI x]).length * 8 ≤ _; omega) (And.intro (by show ((tI z :: q.map tI) ++ [tI x]).length ≤ _; omega) ?_)))
                    have e : (q ++ [x]).map tI = q.map tI ++ [tI x] := by simp
                    refine Exists.intro ((.int .i64 x, .v (.bool true)), R.eraseIdx i, z :: (q ++ [x])) (And.intro hms (And.intro ⟨Pd ++ [x], hP', ?_⟩ ?_))
                    · show z :: (q ++ [x]) = _ ++ (Pd ++ [x]).filter fun x => !hasB s x
                      rw [hfx, ← List.append_assoc, ← hL3]; rfl
                    · simp only [List.map_cons, e, ← kvI_erase]
                      exact And.intro rfl rfl))

theorem f76_spec (n1 : Bool) (s : List Int) (a : Actn) (n : Nat) (hs : risingB s n = true) (hn : n ≤ 1000000000) (hf : factsIn n a.effs) (he : a.effs.length ≤ 1000000) (out : List Fr) :
    SpecP Try.prog 76 [.ints n1 s, .act a] out fun r ro => r = .t (sT (afterL n s a.effs)) ∧ ro = [] := by
  refine SpecP.close (f76o_spec n1 s a n hs hn hf he out) ?_
  rintro r ro ⟨σ, _, rfl, rfl⟩
  generalize afterL n s a.effs = L
  cases L with
  | nil => exact ⟨_, .same _, rfl, rfl⟩
  | cons x r =>
    refine ⟨_, .row σ 3 1 0 _ ((x :: r).map tI) (by show look [(σ, _)] σ = _; rw [look_cons, if_pos rfl]; rfl) (by simp), ?_, rfl⟩
    show LV.t (.sl false 1 ((((x :: r).map tI).drop 0).take ((x :: r).map tI).length)) = _
    rw [← take_all]; rfl

end Go.Fw

/- What the program's functions do, part 39: copies of lists, lists of actions. -/
namespace Go.Fw
open Go Go.Proofs
set_option maxRecDepth 10000

theorem vt_nil {RO : Nat → Prop} {w : World} {v : Value} {b : Bool} {sz : Nat} {es : List (List T)} (h : VT RO w (.sl b sz es) v) : b = true → es = [] := fun hb => by
  cases h <;> first | rfl | cases hb
/-- A nil argument has no elements. -/
theorem SpecP.nil_arg {P : Program} {f : Nat} {args : List LV} {out : List Fr} {Post : LV → Fr → Prop} {i : Nat} {n1 : Bool} {s : List Int} (hi : args[i]? = some (.ints n1 s)) (hfn : FnOK P f) (h : (n1 = true → s = []) → SpecP P f args out Post) : SpecP P f args out Post :=
  ⟨hfn, fun β RO w vals hw hv => (h fun hn => by
    have hl : i < vals.length := by rw [← hv.1]; exact (List.getElem?_eq_some_iff.1 hi).1
    have hx := hv.2 i _ _ hi (List.getElem?_eq_getElem hl)
    cases hx with
    | t _ _ hx => exact List.map_eq_nil_iff.1 (vt_nil hx hn)).calls β RO w vals hw hv⟩

theorem f96_spec (n1 : Bool) (s : List Int) (hl : s.length ≤ 1000000000) (out : List Fr) : SpecP Try.prog 96 [.ints n1 s] out fun r ro => r = .ints n1 s ∧ ro = [] := by
  refine SpecP.nil_arg (i := 0) rfl (by unfold FnOK; kernel_rfl) fun hnil => ?_
  refine SpecP.close (Post := fun r ro => (n1 = true ∧ r = .t (.sl true 0 []) ∧ ro = []) ∨ (n1 = false ∧ r = .osl (.cur 40) 1 0 (s.map tI).length ∧ ro = [(40, .row 3 1 (s.map tI))])) ?_ ?_
  rotate_left
  · rintro r ro (⟨rfl, rfl, rfl⟩ | ⟨rfl, rfl, rfl⟩)
    · rw [hnil rfl]; exact ⟨_, .nil 0 1, rfl, rfl⟩
    · refine ⟨_, .row 40 3 1 0 _ (s.map tI) (by rw [look_cons, if_pos rfl]) (by simp), ?_, rfl⟩
      rw [← take_all]
  refine spec_body cx_ok [] [] (fn := Try.f96) (by kernel_rfl) rfl (by kernel_rfl) rfl (by unfold FnOK; kernel_rfl) fun hok => ?_
  have hsl : (s.map tI).length = s.length := List.length_map ..
  refine And.intro (fun h => ?_) fun h => ?_
  · exact Exists.intro [] (.inl ⟨h, rfl, rfl⟩)
  refine And.intro rfl (And.intro (by show (s.map tI).length * 8 ≤ _; omega) (And.intro (by show (s.map tI).length ≤ _; omega) ?_))
  exact Exists.intro [40] (.inr ⟨h, rfl, rfl⟩)

def inA (t : Task) (x : Int) : Bool := decide (x < 0) || decide (x ≥ t.acts.length)
def kp104 : Kp := [(2, ([0, 1, 7, 8], []))]
theorem f104_spec (n1 : Bool) (l : List Int) (fc k s : Nat) (p : Int → Bool) (out : List Fr)
    (hc : ∀ x ∈ l, SpecP Try.prog fc [.int x, .ptr (.fr (k + 1) s) 0] ([] :: out) fun r ro => r = .bool (p x) ∧ ro = []) :
    SpecP Try.prog 104 [.ints n1 l, .fn fc [(.fr k s, 0)]] out fun r ro => ∃ j : Int, r = .int j ∧ decide (0 ≤ j) = l.any p ∧ ro = [] := by
  refine spec_body cx_ok kp104 [] (fn := Try.f104) (by kernel_rfl) rfl (by kernel_rfl) rfl (by unfold FnOK; kernel_rfl) fun hok => ?_
  have hmx := le_max hok.1.1
  refine LoopW.mk Nat (fun i => i ≤ l.length ∧ (l.take i).any p = false) (fun i => [(0, .ints n1 l), (1, .fn fc [(.fr k s, 0)]), (7, .int (l.map tI).length), (8, .int i)]) (fun _ => ⟨out, []⟩) (fun i => l.length - i) 0 ⟨Nat.zero_le _, rfl⟩ ⟨rfl, rfl⟩ fun i hI => ?_
  refine And.intro (fun h1 => ?_) fun h1 => ?_
  · have hi := lt_of_dec h1
    refine And.intro (by omega) (Exists.intro _ (And.intro (get_map hi) ?_))
    refine SpecP.mono (hc _ (List.getElem_mem hi)) ?_
    rintro _ _ ⟨rfl, rfl⟩
    refine And.intro trivial (And.intro trivial ?_)
    refine And.intro (fun h2 => ?_) fun h2 => ?_
    · exact Exists.intro [] ⟨_, rfl, by rw [any_true hi h2]; simp, rfl⟩
    · refine And.intro (by omega) (And.intro (by omega) ?_)
      exact Exists.intro (i + 1) (And.intro (by show l.length - (i + 1) < l.length - i; omega) (And.intro ⟨hi, any_step hi hI.2 h2⟩ (And.intro rfl rfl)))
  · exact Exists.intro [] ⟨_, rfl, by rw [any_end (ge_of_dec h1) hI.2]; rfl, rfl⟩
theorem f94_spec (n1 : Bool) (l : List Int) (fc k s : Nat) (p : Int → Bool) (out : List Fr)
    (hc : ∀ x ∈ l, SpecP Try.prog fc [.int x, .ptr (.fr (k + 2) s) 0] ([] :: [] :: out) fun r ro => r = .bool (p x) ∧ ro = []) :
    SpecP Try.prog 94 [.ints n1 l, .fn fc [(.fr k s, 0)]] out fun r ro => r = .bool (l.any p) ∧ ro = [] := by
  refine spec_body cx_ok [] [] (fn := Try.f94) (by kernel_rfl) rfl (by kernel_rfl) rfl (by unfold FnOK; kernel_rfl) fun hok => ?_
  refine SpecP.mono (f104_spec n1 l fc (k + 1) s p _ hc) ?_
  rintro _ _ ⟨j, rfl, hj, rfl⟩
  refine And.intro trivial (And.intro trivial ?_)
  refine And.intro (fun h => ?_) fun h => ?_
  · exact Exists.intro [] (ret_bool (by rw [← hj]; simpa using h) rfl)
  · exact Exists.intro [] (ret_bool (by rw [← hj]; simpa using h) rfl)
theorem f95_spec (t : Task) (x : Int) (fr0 fr1 fr2 : Fr) (out : List Fr) :
    SpecP Try.prog 95 [.int x, .ptr (.fr 2 16) 0] (fr0 :: fr1 :: ((16, .box (cellsTask t)) :: fr2) :: out) fun r ro => r = .bool (inA t x) ∧ ro = [] := by
  refine spec_body cx_ok [] [] (fn := Try.f95) (by kernel_rfl) rfl (by kernel_rfl) rfl (by unfold FnOK; kernel_rfl) fun hok => ?_
  refine And.intro (fun h1 => ?_) fun h1 => ?_
  · exact Exists.intro [] (ret_bool (by rw [inA, h1]; rfl) rfl)
  refine Exists.intro _ (And.intro rfl ?_)
  refine And.intro (fun h2 => ?_) fun h2 => ?_
  · exact Exists.intro [] (ret_bool (by rw [List.length_map] at h2; rw [inA, h1, h2]; rfl) rfl)
  · exact Exists.intro [] (ret_bool (by rw [List.length_map] at h2; rw [inA, h1, h2]; rfl) rfl)
theorem planB_any (t : Task) (p : List Int) : planB t p = (decide (p.length ≤ 10000) && !p.any (inA t)) := by
  have : (p.all fun x => decide (0 ≤ x) && decide (x < t.acts.length)) = !p.any (inA t) := by
    rw [List.not_any_eq_all_not]
    congr 1; funext x
    rw [inA, Bool.eq_iff_iff]; simp
  rw [planB, this]
theorem f78_spec (t : Task) (n2 : Bool) (p : List Int) (out : List Fr) : SpecP Try.prog 78 [.task t, .ints n2 p] out fun r ro => r = .bool (planB t p) ∧ ro = [] := by
  refine spec_body cx_ok [] [] (fn := Try.f78) (by kernel_rfl) rfl (by kernel_rfl) rfl (by unfold FnOK; kernel_rfl) fun hok => ?_
  refine And.intro (fun h1 => ?_) fun h1 => ?_
  · refine SpecP.mono (f94_spec n2 p 95 0 16 (inA t) _ (fun x _ => f95_spec t x [] [] [] out)) ?_
    rintro _ _ ⟨rfl, rfl⟩
    refine And.intro trivial (And.intro trivial ?_)
    rw [List.length_map] at h1
    have h1 := of_decide_eq_true h1
    refine And.intro (fun h => ?_) fun h => ?_
    · exact Exists.intro [] (ret_bool (by rw [planB_any, h]; simp) rfl)
    · exact Exists.intro [] (ret_bool (by rw [planB_any, h]; simp; omega) rfl)
  · rw [List.length_map] at h1
    have h1 := of_decide_eq_false h1
    exact Exists.intro [] (ret_bool (by rw [planB_any]; simp; omega) rfl)

/-! ### The states of a run -/
theorem rising_of {l : List Int} {n : Int} (h : l.Pairwise (· < ·)) (h2 : ∀ x ∈ l, 0 ≤ x ∧ x < n) : risingB l n = true := by
  rw [risingB, List.all_eq_true]
  intro i hi
  have hi : i < l.length := List.mem_range.1 hi
  have h3 := h2 _ (List.getElem_mem hi)
  simp only [chkI, at0_eq hi, Bool.and_eq_true, Bool.or_eq_true, decide_eq_true_eq, beq_iff_eq]
  refine ⟨h3, ?_⟩
  cases i with
  | zero => exact .inl rfl
  | succ i => right; rw [Nat.add_sub_cancel, at0_eq (show i < l.length by omega)]; exact List.pairwise_iff_getElem.1 h i (i + 1) (by omega) hi (by omega)
theorem after_rising (n : Nat) (s : List Int) (l : List Eff) : risingB (afterL n s l) n = true := rising_of (listL_inc _) (after_in n s l)
theorem st_rising {t : Task} {s p : List Int} (hs : risingB s t.facts.length = true) : ∀ i, risingB (stAt t s p i) t.facts.length = true
  | 0 => hs
  | _ + 1 => after_rising ..

/-- Is the state after i actions nil? -/
def stN (n1 : Bool) (t : Task) (s p : List Int) : Nat → Bool
  | 0 => n1
  | i + 1 => (stAt t s p (i + 1)).isEmpty
def tIs (b : Bool) (s : List Int) : T := .sl b 1 (s.map tI)
def stTs (n1 : Bool) (t : Task) (s p : List Int) (k : Nat) : List (List T) := (List.range (k + 1)).map fun j => [tIs (stN n1 t s p j) (stAt t s p j)]
theorem stTs_len (n1 : Bool) (t : Task) (s p : List Int) (k : Nat) : (stTs n1 t s p k).length = k + 1 := by simp [stTs]
theorem stTs_step (n1 : Bool) (t : Task) (s p : List Int) (k : Nat) : stTs n1 t s p (k + 1) = stTs n1 t s p k ++ [[tIs (stN n1 t s p (k + 1)) (stAt t s p (k + 1))]] := by
  rw [stTs, List.range_succ, List.map_append]; rfl
theorem stTs_get {n1 : Bool} {t : Task} {s p : List Int} {k j : Nat} (h : j ≤ k) : (stTs n1 t s p k)[j]? = some [tIs (stN n1 t s p j) (stAt t s p j)] := by
  rw [stTs, List.getElem?_map, List.getElem?_range (by omega)]; rfl

theorem f76i_spec (n1 : Bool) (s : List Int) (a : Actn) (n : Nat) (hs : risingB s n = true) (hn : n ≤ 1000000000) (hf : factsIn n a.effs) (he : a.effs.length ≤ 1000000) (out : List Fr) :
    SpecP Try.prog 76 [.ints n1 s, .act a] out fun r ro => r = .ints (afterL n s a.effs).isEmpty (afterL n s a.effs) ∧ ro = [] :=
  (f76_spec n1 s a n hs hn hf he out).close fun r ro h => by
    obtain ⟨rfl, rfl⟩ := h
    generalize afterL n s a.effs = L
    cases L with
    | nil => exact ⟨_, .nil 0 1, rfl, rfl⟩
    | cons x r => exact ⟨_, .same _, rfl, rfl⟩

end Go.Fw

/- What the program's functions do, part 40: Apply, State, Holds, Applicable. -/
namespace Go.Fw
open Go Go.Proofs
set_option maxRecDepth 10000

theorem f97_spec (t : Task) (n1 n2 : Bool) (s p : List Int) (out : List Fr) : SpecP Try.prog 97 [.task t, .ints n1 s, .ints n2 p] out fun r ro =>
    r = .fn 105 [(.cur 40, 0), (.cur 32, 0), (.cur 24, 0)] ∧ ro = [(24, .box (cellsTask t)), (32, .box [.ints n1 s]), (40, .box [.ints n2 p])] := by
  refine spec_body cx_ok [] [] (fn := Try.f97) (by kernel_rfl) rfl (by kernel_rfl) rfl (by unfold FnOK; kernel_rfl) fun hok => ?_
  exact Exists.intro [24, 32, 40] ⟨rfl, rfl⟩

theorem f40_spec (t : Task) (n1 : Bool) (s : List Int) (out : List Fr) : SpecP Try.prog 40 [.task t, .ints n1 s] out fun r ro => r = .int (fineI t s) ∧ ro = [] := by
  refine spec_body cx_ok [] [] (fn := Try.f40) (by kernel_rfl) rfl (by kernel_rfl) rfl (by unfold FnOK; kernel_rfl) fun hok => ?_
  refine SpecP.mono (f61_spec t []) ?_
  rintro _ _ ⟨rfl, rfl⟩
  refine And.intro (fun h => ?_) fun h => ?_
  rotate_left
  · exact Exists.intro [] ⟨by rw [fineI, h]; rfl, rfl⟩
  refine SpecP.mono (f62_spec t n1 s []) ?_
  rintro _ _ ⟨rfl, rfl⟩
  refine And.intro (fun h2 => ?_) fun h2 => ?_
  · exact Exists.intro [] ⟨by rw [fineI, h, h2]; rfl, rfl⟩
  · exact Exists.intro [] ⟨by rw [fineI, h, h2]; rfl, rfl⟩

def nilV : LV := .t (.sl true 0 [])
theorem fine_no {t : Task} {s : List Int} (h : (!(fineI t s == 0)) = true) : fineI t s ≠ 0 := by simpa using h
theorem fine_yes {t : Task} {s : List Int} (h : (!(fineI t s == 0)) = false) : fineI t s = 0 := by simpa using h
theorem hts_of' {t : Task} {s : List Int} (h : fineI t s = 0) : isB t = true ∧ risingB s t.facts.length = true := hts_of h
def pre_ (t : Task) (a : Int) : List Lit := match t.acts[a.toNat]? with
  | some x => x.pre
  | none => []
def effs_ (t : Task) (a : Int) : List Eff := match t.acts[a.toNat]? with
  | some x => x.effs
  | none => []
theorem pre_get {t : Task} {k : Nat} (h : k < t.acts.length) : pre_ t k = t.acts[k].pre := by simp [pre_, h]
theorem effs_get {t : Task} {k : Nat} (h : k < t.acts.length) : effs_ t k = t.acts[k].effs := by simp [effs_, h]
inductive Applied (t : Task) (s : List Int) (a : Int) : LV → Prop
  | fault (h : fineI t s ≠ 0) : Applied t s a (.tup [nilV, .bool false, .int (fineI t s)])
  | arg (h : fineI t s = 0) (h2 : a < 0 ∨ (t.acts.length : Int) ≤ a) : Applied t s a (.tup [nilV, .bool false, .int 1])
  | no (h : fineI t s = 0) (k : Nat) (hk : a = (k : Int)) (h2 : k < t.acts.length) (h3 : holdsB s t.acts[k].pre = false) : Applied t s a (.tup [nilV, .bool false, .int 0])
  | yes (h : fineI t s = 0) (k : Nat) (hk : a = (k : Int)) (h2 : k < t.acts.length) (h3 : holdsB s t.acts[k].pre = true) :
      Applied t s a (.tup [.ints (afterL t.facts.length s t.acts[k].effs).isEmpty (afterL t.facts.length s t.acts[k].effs), .bool true, .int 0])
theorem f39_spec (t : Task) (n1 : Bool) (s : List Int) (a : Int) (out : List Fr) : SpecP Try.prog 39 [.task t, .ints n1 s, .int a] out fun r ro => Applied t s a r ∧ ro = [] := by
  refine spec_body cx_ok [] [] (fn := Try.f39) (by kernel_rfl) rfl (by kernel_rfl) rfl (by unfold FnOK; kernel_rfl) fun hok => ?_
  refine SpecP.mono (f54_spec t n1 s []) ?_
  rintro _ _ ⟨rfl, rfl⟩
  refine And.intro (fun h => ?_) fun h => ?_
  · exact Exists.intro [] ⟨.fault (fine_no h), rfl⟩
  have h0 := fine_yes h
  obtain ⟨ht, hs⟩ := hts_of h0
  have TK := task_ok ht
  have hN := TK.facts
  refine And.intro (fun h1 => ?_) fun h1 => ?_
  · exact Exists.intro [] ⟨.arg h0 (.inl (of_decide_eq_true h1)), rfl⟩
  have h1 := of_decide_eq_false h1
  refine And.intro (fun h2 => ?_) fun h2 => ?_
  · have h2 := of_decide_eq_true h2
    rw [List.length_map] at h2
    exact Exists.intro [] ⟨.arg h0 (.inr h2), rfl⟩
  have h2 := of_decide_eq_false h2
  rw [List.length_map] at h2
  obtain ⟨k, rfl⟩ : ∃ k : Nat, a = (k : Int) := ⟨a.toNat, by omega⟩
  have hk : k < t.acts.length := by omega
  refine And.intro (by omega) (Exists.intro _ (And.intro (get_map hk) ?_))
  refine SpecP.mono (f56_spec n1 t.acts[k].pn s t.acts[k].pre t.facts.length hs (by omega) []) ?_
  rintro _ _ ⟨rfl, rfl⟩
  refine And.intro (fun h3 => ?_) fun h3 => ?_
  rotate_left
  · exact Exists.intro [] ⟨.no h0 k rfl hk h3, rfl⟩
  refine And.intro (by omega) (Exists.intro _ (And.intro (get_map hk) ?_))
  have hmem : t.acts[k] ∈ t.acts := List.getElem_mem hk
  have hE := TK.effs _ hmem
  refine SpecP.mono (f76i_spec n1 s t.acts[k] t.facts.length hs (by omega) (TK.lit _ hmem) (by omega) []) ?_
  rintro _ _ ⟨rfl, rfl⟩
  exact Exists.intro [] ⟨.yes h0 k rfl hk h3, rfl⟩

theorem f49_spec (t : Task) (n1 : Bool) (s : List Int) (out : List Fr) : SpecP Try.prog 49 [.task t, .ints n1 s] out fun r ro =>
    r = .tup [.bool (fineI t s == 0), .int (if fineI t s = 20 then 0 else fineI t s)] ∧ ro = [] := by
  refine spec_body cx_ok [] [] (fn := Try.f49) (by kernel_rfl) rfl (by kernel_rfl) rfl (by unfold FnOK; kernel_rfl) fun hok => ?_
  refine SpecP.mono (f54_spec t n1 s []) ?_
  rintro _ _ ⟨rfl, rfl⟩
  refine And.intro (fun h => ?_) fun h => ?_
  · have h : fineI t s = 20 := by simpa using h
    exact Exists.intro [] ⟨by rw [h]; rfl, rfl⟩
  · have h : fineI t s ≠ 20 := by simpa using h
    refine And.intro (fun h2 => ?_) fun h2 => ?_
    · exact Exists.intro [] ⟨by rw [if_neg h, h2]; rfl, rfl⟩
    · exact Exists.intro [] ⟨by rw [if_neg h, h2]; rfl, rfl⟩

theorem f50_spec (t : Task) (n1 n2 : Bool) (s : List Int) (l : List Lit) (out : List Fr) : SpecP Try.prog 50 [.task t, .ints n1 s, .lits n2 l] out fun r ro =>
    r = .tup [.bool (fineI t s == 0 && condB l t.facts.length && holdsB s l), .int (if fineI t s = 0 then (if condB l t.facts.length then 0 else 1) else fineI t s)] ∧ ro = [] := by
  refine spec_body cx_ok [] [] (fn := Try.f50) (by kernel_rfl) rfl (by kernel_rfl) rfl (by unfold FnOK; kernel_rfl) fun hok => ?_
  refine SpecP.mono (f54_spec t n1 s []) ?_
  rintro _ _ ⟨rfl, rfl⟩
  refine And.intro (fun h => ?_) fun h => ?_
  · have h := fine_no h
    exact Exists.intro [] ⟨by rw [if_neg h, show (fineI t s == 0) = false by simpa using h]; rfl, rfl⟩
  have h0 := fine_yes h
  obtain ⟨ht, hs⟩ := hts_of h0
  have TK := task_ok ht
  have hN := TK.facts
  refine SpecP.mono (f85_spec n2 l (t.facts.map tS).length []) ?_
  rintro _ _ ⟨rfl, rfl⟩
  rw [List.length_map]
  refine And.intro (fun h1 => ?_) fun h1 => ?_
  rotate_left
  · exact Exists.intro [] ⟨by rw [h0, h1]; rfl, rfl⟩
  refine SpecP.mono (f56_spec n1 n2 s l t.facts.length hs (by omega) []) ?_
  rintro _ _ ⟨rfl, rfl⟩
  refine And.intro (fun h2 => ?_) fun h2 => ?_
  · exact Exists.intro [] ⟨by rw [h0, h1, h2]; rfl, rfl⟩
  · exact Exists.intro [] ⟨by rw [h0, h1, h2]; rfl, rfl⟩

end Go.Fw

/- What the program's functions do, part 41: applicable actions; few. -/
namespace Go.Fw
open Go Go.Proofs
set_option maxRecDepth 10000

def appB (t : Task) (s : List Int) (k : Nat) : Bool := holdsB s (pre_ t k)
def appl (t : Task) (s : List Int) : List Int := selI t.acts.length (appB t s)

def kp51 : Kp := [(3, ([1, 5, 9, 10, 11], [184]))]
theorem f51_spec (t : Task) (n1 : Bool) (s : List Int) (hA : t.acts.length ≤ 1000) (out : List Fr) : SpecP Try.prog 51 [.task t, .ints n1 s] out fun r ro => r = .ints ((appl t s).map tI).isEmpty (appl t s) ∧ ro = [] := by
  refine SpecP.close (Post := fun r ro => r = accV 184 1 ((appl t s).map tI) ∧ ro = accO 184 3 1 ((appl t s).map tI)) ?_ ?_
  rotate_left
  · rintro r ro ⟨rfl, rfl⟩
    exact ⟨_, acc_cls (e := 3) fun x r h => by rw [h]; rfl, rfl, rfl⟩
  refine spec_body cx_ok kp51 [] (fn := Try.f51) (by kernel_rfl) rfl (by kernel_rfl) rfl (by unfold FnOK; kernel_rfl) fun hok => ?_
  have hal : (t.acts.map tAct).length = t.acts.length := List.length_map ..
  refine LoopW.mk (Nat × List Int) (fun p => p.1 ≤ t.acts.length ∧ p.2 = selI p.1 (appB t s)) (fun p => [(1, .ints n1 s), (5, accV 184 1 (p.2.map tI)), (9, .t (.sl t.an 4 (t.acts.map tAct))), (10, .int (t.acts.map tAct).length), (11, .int p.1)])
    (fun p => ⟨out, accO 184 3 1 (p.2.map tI)⟩) (fun p => t.acts.length - p.1) (0, []) ⟨Nat.zero_le _, rfl⟩ ⟨rfl, rfl⟩ ?_
  rintro ⟨i, acc⟩ ⟨hi0, hacc⟩
  simp only at hi0 hacc
  have hst := selI_step i (appB t s)
  have hln : acc.length ≤ i := by rw [hacc]; exact selI_len i _
  cases acc with
  | nil =>
    refine And.intro (fun h1 => ?_) fun h1 => ?_
    · have hi : i < t.acts.length := lt_of_dec h1
      refine And.intro (by omega) (Exists.intro _ (And.intro (get_map hi) ?_))
      refine SpecP.mono (f25_spec n1 t.acts[i].pn s t.acts[i].pre []) ?_
      rintro _ _ ⟨rfl, rfl⟩
      refine And.intro (fun h2 => ?_) fun h2 => ?_
      · have h3 : appB t s i = true := by rw [appB, pre_get hi]; exact h2
        refine And.intro (Nat.le_of_ble_eq_true rfl) (And.intro (Nat.le_of_ble_eq_true rfl) (And.intro (Nat.le_of_ble_eq_true rfl) ?_))
        refine And.intro (by omega) (And.intro (by omega) ?_)
        exact Exists.intro (i + 1, [(i : Int)]) (And.intro (by show t.acts.length - (i + 1) < t.acts.length - i; omega) (And.intro ⟨hi, by show [(i : Int)] = _; rw [hst, ← hacc, h3]; rfl⟩ (And.intro rfl rfl)))
      · have h3 : appB t s i = false := by rw [appB, pre_get hi]; exact h2
        refine And.intro (by omega) (And.intro (by omega) ?_)
        exact Exists.intro (i + 1, []) (And.intro (by show t.acts.length - (i + 1) < t.acts.length - i; omega) (And.intro ⟨hi, by show [] = _; rw [hst, ← hacc, h3]; rfl⟩ (And.intro rfl rfl)))
    · have hi : i = t.acts.length := by have := ge_of_dec h1; omega
      rw [hi] at hacc
      exact Exists.intro [184] ⟨by rw [appl, ← hacc]; rfl, by rw [appl, ← hacc]; rfl⟩
  | cons x r =>
    refine And.intro (fun h1 => ?_) fun h1 => ?_
    · have hi : i < t.acts.length := lt_of_dec h1
      have hln2 : ((tI x :: r.map tI) ++ [tI i]).length ≤ i + 1 := by simp at hln ⊢; omega
      refine And.intro (by omega) (Exists.intro _ (And.intro (get_map hi) ?_))
      refine SpecP.mono (f25_spec n1 t.acts[i].pn s t.acts[i].pre []) ?_
      rintro _ _ ⟨rfl, rfl⟩
      refine And.intro (fun h2 => ?_) fun h2 => ?_
      · have h3 : appB t s i = true := by rw [appB, pre_get hi]; exact h2
        refine And.intro (Nat.le_of_ble_eq_true rfl) (And.intro rfl (And.intro (by show ((tI x :: r.map tI) ++ [tI i]).length * 8 ≤ _; omega) (And.intro (by show ((tI x :: r.map tI) ++ [tI i]).length ≤ _; omega) ?_)))
        refine And.intro (by omega) (And.intro (by omega) ?_)
        have e : (r ++ [(i : Int)]).map tI = r.map tI ++ [tI i] := by simp
        refine Exists.intro (i + 1, x :: (r ++ [(i : Int)])) (And.intro (by show t.acts.length - (i + 1) < t.acts.length - i; omega) (And.intro ⟨hi, by show x :: (r ++ [(i : Int)]) = _; rw [hst, ← hacc, h3]; rfl⟩ ?_))
        simp only [List.map_cons, e]
        exact And.intro rfl rfl
      · have h3 : appB t s i = false := by rw [appB, pre_get hi]; exact h2
        refine And.intro (by omega) (And.intro (by omega) ?_)
        exact Exists.intro (i + 1, x :: r) (And.intro (by show t.acts.length - (i + 1) < t.acts.length - i; omega) (And.intro ⟨hi, by show x :: r = _; rw [hst, ← hacc, h3]; simp⟩ (And.intro rfl rfl)))
    · have hi : i = t.acts.length := by have := ge_of_dec h1; omega
      rw [hi] at hacc
      exact Exists.intro [184] ⟨by rw [appl, ← hacc]; rfl, by rw [appl, ← hacc]; rfl⟩

def kp47 : Kp := [(6, ([1, 7, 17, 18, 19], [248]))]
theorem f47o_spec (t : Task) (n1 : Bool) (s : List Int) (out : List Fr) : SpecP Try.prog 47 [.task t, .ints n1 s] out fun r ro => (fineI t s ≠ 0 ∧ r = .tup [nilV, .int (fineI t s)] ∧ ro = []) ∨
    (fineI t s = 0 ∧ r = .tup [accV 248 1 ((appl t s).map tI), .int 0] ∧ ro = accO 248 3 1 ((appl t s).map tI)) := by
  refine spec_body cx_ok kp47 [] (fn := Try.f47) (by kernel_rfl) rfl (by kernel_rfl) rfl (by unfold FnOK; kernel_rfl) fun hok => ?_
  refine SpecP.mono (f54_spec t n1 s []) ?_
  rintro _ _ ⟨rfl, rfl⟩
  refine And.intro (fun h => ?_) fun h => ?_
  · exact Exists.intro [] (.inl ⟨fine_no h, rfl, rfl⟩)
  have h0 := fine_yes h
  obtain ⟨ht, hs⟩ := hts_of h0
  have TK := task_ok ht
  have hN := TK.facts
  have hA := TK.acts
  have hal : (t.acts.map tAct).length = t.acts.length := List.length_map ..
  refine LoopW.mk (Nat × List Int) (fun p => p.1 ≤ t.acts.length ∧ p.2 = selI p.1 (appB t s)) (fun p => [(1, .ints n1 s), (7, accV 248 1 (p.2.map tI)), (17, .t (.sl t.an 4 (t.acts.map tAct))), (18, .int (t.acts.map tAct).length), (19, .int p.1)])
    (fun p => ⟨out, accO 248 3 1 (p.2.map tI)⟩) (fun p => t.acts.length - p.1) (0, []) ⟨Nat.zero_le _, rfl⟩ ⟨rfl, rfl⟩ ?_
  rintro ⟨i, acc⟩ ⟨hi0, hacc⟩
  simp only at hi0 hacc
  have hst := selI_step i (appB t s)
  have hln : acc.length ≤ i := by rw [hacc]; exact selI_len i _
  cases acc with
  | nil =>
    refine And.intro (fun h1 => ?_) fun h1 => ?_
    · have hi : i < t.acts.length := lt_of_dec h1
      refine And.intro (by omega) (Exists.intro _ (And.intro (get_map hi) ?_))
      refine SpecP.mono (f56_spec n1 t.acts[i].pn s t.acts[i].pre t.facts.length hs (by omega) []) ?_
      rintro _ _ ⟨rfl, rfl⟩
      refine And.intro (fun h2 => ?_) fun h2 => ?_
      · have h3 : appB t s i = true := by rw [appB, pre_get hi]; exact h2
        refine And.intro (Nat.le_of_ble_eq_true rfl) (And.intro (Nat.le_of_ble_eq_true rfl) (And.intro (Nat.le_of_ble_eq_true rfl) ?_))
        refine And.intro (by omega) (And.intro (by omega) ?_)
        exact Exists.intro (i + 1, [(i : Int)]) (And.intro (by show t.acts.length - (i + 1) < t.acts.length - i; omega) (And.intro ⟨hi, by show [(i : Int)] = _; rw [hst, ← hacc, h3]; rfl⟩ (And.intro rfl rfl)))
      · have h3 : appB t s i = false := by rw [appB, pre_get hi]; exact h2
        refine And.intro (by omega) (And.intro (by omega) ?_)
        exact Exists.intro (i + 1, []) (And.intro (by show t.acts.length - (i + 1) < t.acts.length - i; omega) (And.intro ⟨hi, by show [] = _; rw [hst, ← hacc, h3]; rfl⟩ (And.intro rfl rfl)))
    · have hi : i = t.acts.length := by have := ge_of_dec h1; omega
      rw [hi] at hacc
      exact Exists.intro [248] (.inr ⟨h0, by rw [appl, ← hacc]; rfl, by rw [appl, ← hacc]; rfl⟩)
  | cons x r =>
    refine And.intro (fun h1 => ?_) fun h1 => ?_
    · have hi : i < t.acts.length := lt_of_dec h1
      have hln2 : ((tI x :: r.map tI) ++ [tI i]).length ≤ i + 1 := by simp at hln ⊢; omega
      refine And.intro (by omega) (Exists.intro _ (And.intro (get_map hi) ?_))
      refine SpecP.mono (f56_spec n1 t.acts[i].pn s t.acts[i].pre t.facts.length hs (by omega) []) ?_
      rintro _ _ ⟨rfl, rfl⟩
      refine And.intro (fun h2 => ?_) fun h2 => ?_
      · have h3 : appB t s i = true := by rw [appB, pre_get hi]; exact h2
        refine And.intro (Nat.le_of_ble_eq_true rfl) (And.intro rfl (And.intro (by show ((tI x :: r.map tI) ++ [tI i]).length * 8 ≤ _; omega) (And.intro (by show ((tI x :: r.map tI) ++ [tI i]).length ≤ _; omega) ?_)))
        refine And.intro (by omega) (And.intro (by omega) ?_)
        have e : (r ++ [(i : Int)]).map tI = r.map tI ++ [tI i] := by simp
        refine Exists.intro (i + 1, x :: (r ++ [(i : Int)])) (And.intro (by show t.acts.length - (i + 1) < t.acts.length - i; omega) (And.intro ⟨hi, by show x :: (r ++ [(i : Int)]) = _; rw [hst, ← hacc, h3]; rfl⟩ ?_))
        simp only [List.map_cons, e]
        exact And.intro rfl rfl
      · have h3 : appB t s i = false := by rw [appB, pre_get hi]; exact h2
        refine And.intro (by omega) (And.intro (by omega) ?_)
        exact Exists.intro (i + 1, x :: r) (And.intro (by show t.acts.length - (i + 1) < t.acts.length - i; omega) (And.intro ⟨hi, by show x :: r = _; rw [hst, ← hacc, h3]; simp⟩ (And.intro rfl rfl)))
    · have hi : i = t.acts.length := by have := ge_of_dec h1; omega
      rw [hi] at hacc
      exact Exists.intro [248] (.inr ⟨h0, by rw [appl, ← hacc]; rfl, by rw [appl, ← hacc]; rfl⟩)

theorem f47_spec (t : Task) (n1 : Bool) (s : List Int) (out : List Fr) : SpecP Try.prog 47 [.task t, .ints n1 s] out fun r ro => ((fineI t s ≠ 0 ∧ r = .tup [nilV, .int (fineI t s)]) ∨
    (fineI t s = 0 ∧ r = .tup [.ints ((appl t s).map tI).isEmpty (appl t s), .int 0])) ∧ ro = [] :=
  (f47o_spec t n1 s out).close fun r ro h => by
    rcases h with ⟨h, rfl, rfl⟩ | ⟨h, rfl, rfl⟩
    · exact ⟨_, .pair _ _ _ _ (.same _) (.same _), .inl ⟨h, rfl⟩, rfl⟩
    · exact ⟨_, .pair _ _ _ _ (acc_cls (e := 3) fun x r h => by rw [h]; rfl) (.same _), .inr ⟨h, rfl⟩, rfl⟩

def tLs (l : List (Bool × List Int)) : List (List T) := l.map fun p => [tIs p.1 p.2]
def kp37 : Kp := [(2, ([2, 7, 8, 9], [16]))]
theorem f37_spec (t : Task) (b : Bool) (l : List (Bool × List Int)) (hl : l.length ≤ 1000) (out : List Fr) : SpecP Try.prog 37 [.task t, .t (.sl b 1 (tLs l))] out fun r ro => ∃ few : Bool, (few = true → ∀ p ∈ l, p.2.length ≤ 400) ∧ r = .bool few ∧ ro = [] := by
  refine spec_body cx_ok kp37 [] (fn := Try.f37) (by kernel_rfl) rfl (by kernel_rfl) rfl (by unfold FnOK; kernel_rfl) fun hok => ?_
  have hll : (tLs l).length = l.length := List.length_map ..
  refine LoopW.mk Nat (fun i => i ≤ l.length ∧ ∀ p ∈ l.take i, p.2.length ≤ 400) (fun i => [(2, .ptr (.cur 16) 0), (7, .t (.sl b 1 (tLs l))), (8, .int (tLs l).length), (9, .int i)])
    (fun _ => ⟨out, [(16, .box (cellsTask t))]⟩) (fun i => l.length - i) 0 ⟨Nat.zero_le _, by simp⟩ ⟨rfl, rfl⟩ fun i hI => ?_
  refine And.intro (fun h1 => ?_) fun h1 => ?_
  · have hi : i < l.length := by have := of_decide_eq_true h1; omega
    refine And.intro (by omega) (Exists.intro [tIs l[i].1 l[i].2] (And.intro (by rw [Int.toNat_natCast, tLs, List.getElem?_map, List.getElem?_eq_getElem hi]; rfl) ?_))
    refine And.intro (fun h2 => ?_) fun h2 => ?_
    · exact Exists.intro [] ⟨false, fun h => Bool.noConfusion h, rfl, rfl⟩
    · have h2 := of_decide_eq_false h2
      rw [List.length_map] at h2
      refine And.intro (by omega) (And.intro (by omega) ?_)
      refine Exists.intro (i + 1) (And.intro (by show l.length - (i + 1) < l.length - i; omega) (And.intro ⟨hi, fun p hp => ?_⟩ (And.intro rfl rfl)))
      rw [List.take_add_one, List.getElem?_eq_getElem hi, Option.toList_some, List.mem_append, List.mem_singleton] at hp
      rcases hp with hp | rfl
      · exact hI.2 p hp
      · omega
  · have hi : l.length ≤ i := by have := of_decide_eq_false h1; omega
    refine SpecP.mono (f13_spec t 1500 []) ?_
    rintro _ _ ⟨b, rfl, rfl⟩
    refine And.intro (fun _ => ?_) fun _ => ?_
    · exact Exists.intro [] ⟨true, fun _ => by have := hI.2; rwa [List.take_of_length_le hi] at this, rfl, rfl⟩
    · exact Exists.intro [] ⟨false, fun h => Bool.noConfusion h, rfl, rfl⟩

end Go.Fw

/- What the program's functions do, part 42: a plan is executed by a loop over a function. -/
namespace Go.Fw
open Go Go.Proofs
set_option maxRecDepth 10000

/-- How far a list of actions comes. -/
structure Ran (t : Task) (s p : List Int) (k : Nat) (at_ : Int) : Prop where
  le : k ≤ p.length
  ok : ∀ i, i < k → okAt t s p i = true
  stop : (k = p.length ∧ at_ = -1) ∨ (k < p.length ∧ okAt t s p k = false ∧ at_ = (k : Int))

def od105 : Od := [(3, [(0, .pure), (1, .pure), (2, .pure), (3, .pure), (4, .pure), (5, .pure), (6, .pure), (7, .eff), (8, .pure)]), (4, [(0, .pure), (1, .pure), (2, .pure), (3, .pure), (4, .pure), (5, .pure), (6, .eff), (7, .syn)])]
def kp105 : Kp := [(1, ([0, 2, 3, 7, 8, 9, 1000003, 1000005, 1000006, 1000008, 1000009], [24, 40, 48, 64, 72, 112, 153000483, 153000491]))]
def od79 : Od := [(6, [(0, .pure), (1, .pure), (2, .pure), (3, .eff), (4, .eff), (5, .syn), (6, .pure), (7, .syn)]), (7, [(0, .pure), (1, .pure), (2, .pure), (3, .pure), (4, .pure), (5, .pure), (6, .pure), (7, .pure), (8, .pure), (9, .pure), (10, .pure), (11, .pure), (12, .pure), (13, .syn)]), (9, [(0, .pure), (1, .pure), (2, .pure), (3, .pure), (4, .pure), (5, .pure), (6, .pure), (7, .pure), (8, .pure), (9, .pure), (10, .eff), (11, .pure), (12, .syn)]), (12, [(0, .tree (.pure 0 (.pure 1 (.last 2 (.pure 3 .done) [1]))))])]
def kp79 : Kp := []

theorem f79o_spec (t : Task) (n1 n2 : Bool) (s p : List Int) (TK : TaskOK t) (hs : risingB s t.facts.length = true) (hp : planB t p = true) (out : List Fr) :
    SpecP Try.prog 79 [.task t, .ints n1 s, .ints n2 p] out fun r ro => ∃ (k : Nat) (at_ : Int), Ran t s p k at_ ∧
      r = .tup [.agg [.osl (.cur 112) 1 0 (stTs n1 t s p k).length, .int (costAt t p k), .bool (holdsB (stAt t s p k) t.goal)], .int at_] ∧ ro = [(112, .row 23 1 (stTs n1 t s p k))] := by
  refine spec_range cx_ok kp79 od79 kp105 od105 (fn := Try.f79) (by kernel_rfl) rfl (by kernel_rfl) rfl (by unfold FnOK; kernel_rfl) fun hok => ?_
  have hin := rising_in hs
  have hN := TK.facts
  have hsl := rising_len hs (by omega)
  have hpl : p.length ≤ 10000 := by simp only [planB, Bool.and_eq_true, decide_eq_true_eq] at hp; exact hp.1
  refine SpecP.mono (f96_spec n1 s hsl []) ?_
  rintro _ _ ⟨rfl, rfl⟩
  refine SpecP.mono (f97_spec t n1 n2 s p []) ?_
  rintro _ _ ⟨rfl, rfl⟩
  refine ⟨Try.f105, _, rfl, rfl, rfl, by unfold FnOK; kernel_rfl, by kernel_rfl, fun l => ?_⟩
  refine LoopW.mk Nat (fun i => i ≤ p.length ∧ ∀ j, j < i → okAt t s p j = true)
    (fun i => [(0, .t (.v (.func (.yield l) #[] #[]))), (2, .ptr (.cur 153000491) 0), (3, .ptr (.cur 153000483) 0), (7, .ints n2 p), (8, .int (p.map tI).length), (9, .int i),
      (1000003, .ptr (.cur 24) 0), (1000005, .ptr (.cur 40) 0), (1000006, .ptr (.cur 48) 0), (1000008, .ptr (.cur 64) 0), (1000009, .ptr (.cur 72) 0)])
    (fun i => ⟨out, [(24, .box (cellsTask t)), (40, .box [.ints n2 p]), (48, .box [.t (.sl true 0 []), .int 0, .bool false]), (64, .box [.osl (.cur 112) 1 0 (stTs n1 t s p i).length, .int (costAt t p i), .bool false]), (72, .box [.int i]),
      (112, .row 23 1 (stTs n1 t s p i)), (153000483, .box (cellsTask t)), (153000491, .box [.ints (stN n1 t s p i) (stAt t s p i)])]⟩) (fun i => p.length - i) 0 ⟨Nat.zero_le _, fun j hj => by omega⟩ ⟨rfl, rfl⟩ fun i hI => ?_
  have hsi := st_rising (t := t) (p := p) hs i
  have hsil := rising_len hsi (by omega)
  have hlen := stTs_len n1 t s p i
  refine And.intro (fun h1 => ?_) fun h1 => ?_
  · have hi := lt_of_dec h1
    obtain ⟨k, hk1, hk2, hk3, _⟩ := plan_get hp hi
    have hci := costAt_in TK hp i hI.1
    have hc := TK.cost _ (List.getElem_mem hk2)
    have hmem : t.acts[k] ∈ t.acts := List.getElem_mem hk2
    have hE := TK.effs _ hmem
    have hokk : okAt t s p i = holdsB (stAt t s p i) t.acts[k].pre := by rw [okAt, hk3]
    refine And.intro (by omega) (Exists.intro (tI k) (And.intro (by rw [← hk1]; exact get_map hi) ?_))
    refine And.intro (by omega) (Exists.intro _ (And.intro (get_map hk2) ?_))
    refine SpecP.mono (f56_spec (stN n1 t s p i) t.acts[k].pn (stAt t s p i) t.acts[k].pre t.facts.length hsi (by omega) []) ?_
    rintro _ _ ⟨rfl, rfl⟩
    refine And.intro ⟨rfl, rfl, rfl⟩ ?_
    refine And.intro (fun h2 => ?_) fun h2 => ?_
    · refine And.intro (by omega) (Exists.intro _ (And.intro (get_map hk2) ?_))
      refine SpecP.mono (f76i_spec (stN n1 t s p i) (stAt t s p i) t.acts[k] t.facts.length hsi (by omega) (TK.lit _ hmem) (by omega) []) ?_
      rintro _ _ ⟨rfl, rfl⟩
      refine And.intro ⟨rfl, rfl, rfl⟩ ?_
      refine ⟨rfl, rfl, ?_⟩
      have hst : stAt t s p (i + 1) = afterL t.facts.length (stAt t s p i) t.acts[k].effs := by rw [stAt, hk3]
      rw [← hst]
      have hsj := st_rising (t := t) (p := p) hs (i + 1)
      have hsjl := rising_len hsj (by omega)
      refine SpecP.mono (f96_spec (stAt t s p (i + 1)).isEmpty (stAt t s p (i + 1)) hsjl []) ?_
      rintro _ _ ⟨rfl, rfl⟩
      refine And.intro ⟨rfl, rfl, rfl⟩ ?_
      have hrow : stTs n1 t s p i ++ [[tIs (stAt t s p (i + 1)).isEmpty (stAt t s p (i + 1))]] = stTs n1 t s p (i + 1) := by rw [stTs_step]; rfl
      have hl2 : (stTs n1 t s p i ++ [[tIs (stAt t s p (i + 1)).isEmpty (stAt t s p (i + 1))]]).length = i + 2 := by rw [hrow, stTs_len]
      refine And.intro (Nat.le_of_ble_eq_true rfl) (And.intro rfl (And.intro (by show (stTs n1 t s p i ++ [[tIs (stAt t s p (i + 1)).isEmpty (stAt t s p (i + 1))]]).length * 24 ≤ _; omega) (And.intro (by show (stTs n1 t s p i ++ [[tIs (stAt t s p (i + 1)).isEmpty (stAt t s p (i + 1))]]).length ≤ _; omega) ?_)))
      refine And.intro (by omega) (Exists.intro (tI k) (And.intro (by rw [← hk1]; exact get_map hi) ?_))
      refine And.intro (by omega) (Exists.intro _ (And.intro (get_map hk2) ?_))
      refine And.intro (by omega) (And.intro (by omega) ?_)
      refine And.intro (by omega) (And.intro (by omega) ?_)
      refine And.intro (fun _ => ?_) fun h => Bool.noConfusion h
      refine And.intro (by omega) (And.intro (by omega) ?_)
      refine Exists.intro (i + 1) (And.intro (by show p.length - (i + 1) < p.length - i; omega) (And.intro ⟨hi, fun j hj => ?_⟩ ?_))
      · rcases Nat.lt_or_ge j i with h | h
        · exact hI.2 j h
        · rw [show j = i by omega, hokk, h2]
      · have hcost : costAt t p (i + 1) = costAt t p i + t.acts[k].cost := by rw [costAt, hk3]
        simp only [hcost, ← hrow]
        exact And.intro rfl rfl
    refine And.intro (by omega) (And.intro (by omega) ?_)
    refine And.intro (by omega) (And.intro (by omega) (Exists.intro [tIs (stN n1 t s p i) (stAt t s p i)] (And.intro (by rw [show 0 + (((stTs n1 t s p i).length : Int) - 1).toNat = i by omega]; exact stTs_get (Nat.le_refl i)) ?_)))
    refine SpecP.mono (f56_spec (stN n1 t s p i) t.gn (stAt t s p i) t.goal t.facts.length hsi (by omega) []) ?_
    rintro _ _ ⟨rfl, rfl⟩
    refine And.intro ⟨rfl, rfl, rfl⟩ ?_
    refine And.intro (fun h3 => ?_) fun h3 => ?_
    all_goals
      refine And.intro (fun h4 => ?_) fun h4 => ?_
      · have h4 := of_decide_eq_true h4
        rw [List.length_map] at h4
        omega
      · refine And.intro rfl ?_
        exact Exists.intro [112] ⟨i, (i : Int), ⟨hI.1, hI.2, .inr ⟨hi, by rw [hokk, h2], rfl⟩⟩, by rw [h3]; rfl, rfl⟩
  · have hi : i = p.length := by have := hI.1; have := ge_of_dec h1; omega
    refine And.intro (by omega) (And.intro (by omega) ?_)
    refine And.intro (by omega) (And.intro (by omega) (Exists.intro [tIs (stN n1 t s p i) (stAt t s p i)] (And.intro (by rw [show 0 + (((stTs n1 t s p i).length : Int) - 1).toNat = i by omega]; exact stTs_get (Nat.le_refl i)) ?_)))
    refine SpecP.mono (f56_spec (stN n1 t s p i) t.gn (stAt t s p i) t.goal t.facts.length hsi (by omega) []) ?_
    rintro _ _ ⟨rfl, rfl⟩
    refine And.intro ⟨rfl, rfl, rfl⟩ ?_
    refine And.intro (fun h3 => ?_) fun h3 => ?_
    all_goals
      refine And.intro (fun h4 => ?_) fun h4 => ?_
      · refine And.intro rfl ?_
        exact Exists.intro [112] ⟨i, -1, ⟨hI.1, hI.2, .inl ⟨hi, rfl⟩⟩, by rw [h3]; rfl, rfl⟩
      · have h4 := of_decide_eq_false h4
        rw [List.length_map] at h4
        omega

end Go.Fw

/- What the program's functions do, part 43: the example of the laws of Step. -/
namespace Go.Fw
open Go Go.Proofs
set_option maxRecDepth 10000

theorem f75_spec (out : List Fr) : SpecP Try.prog 75 [] out fun r ro => r = .task exTask ∧ ro = [] := by
  refine SpecP.close (Post := fun r ro => r = .agg [.osl (.cur 8) 1 0 2, .osl (.cur 16) 1 0 1, .osl (.cur 32) 2 0 1, .osl (.cur 104) 4 0 1] ∧
    ro = [(8, .row 9 1 [tS sHere, tS sThere]), (16, .row 3 1 [tI 0]), (32, .row 50 2 [tLit ⟨1, false⟩]), (104, .row 79 4 [exActT])]) ?_ ?_
  rotate_left
  · rintro r ro ⟨rfl, rfl⟩
    refine ⟨_, .agg _ [.t (.sl false 1 [tS sHere, tS sThere]), .t (.sl false 1 [tI 0]), .t (.sl false 2 [tLit ⟨1, false⟩]), .t (.sl false 4 [tAct exAct])] rfl fun i x y hx hy => ?_, rfl, rfl⟩
    match i with
    | 0 => simp at hx hy; subst hx hy; exact .row 8 9 1 0 2 [tS sHere, tS sThere] rfl (by simp)
    | 1 => simp at hx hy; subst hx hy; exact .row 16 3 1 0 1 [tI 0] rfl (by simp)
    | 2 => simp at hx hy; subst hx hy; exact .row 32 50 2 0 1 [tLit ⟨1, false⟩] rfl (by simp)
    | 3 => simp at hx hy; subst hx hy; exact .trans _ _ _ (.row 104 79 4 0 1 [exActT] rfl (by simp)) (.un _ _ rfl)
    | i + 4 => simp at hx
  refine spec_body cx_ok [] [] (fn := Try.f75) (by kernel_rfl) rfl (by kernel_rfl) rfl (by unfold FnOK; kernel_rfl) fun hok => ?_
  refine And.intro (Nat.le_of_ble_eq_true rfl) (And.intro (Nat.le_of_ble_eq_true rfl) ?_)
  exact Exists.intro [8, 16, 32, 104] (And.intro rfl rfl)

end Go.Fw

/- What the program's functions do, part 44: Execute, Cost, Plan. -/
namespace Go.Fw
open Go Go.Proofs
set_option maxRecDepth 10000

def runV (n1 : Bool) (t : Task) (s p : List Int) (k : Nat) : LV := .agg [.t (.sl false 1 (stTs n1 t s p k)), .int (costAt t p k), .bool (holdsB (stAt t s p k) t.goal)]
theorem f79_spec (t : Task) (n1 n2 : Bool) (s p : List Int) (TK : TaskOK t) (hs : risingB s t.facts.length = true) (hp : planB t p = true) (out : List Fr) :
    SpecP Try.prog 79 [.task t, .ints n1 s, .ints n2 p] out fun r ro => ∃ (k : Nat) (at_ : Int), Ran t s p k at_ ∧ r = .tup [runV n1 t s p k, .int at_] ∧ ro = [] :=
  (f79o_spec t n1 n2 s p TK hs hp out).close fun r ro h => by
    obtain ⟨k, at_, hr, rfl, rfl⟩ := h
    refine ⟨_, .pair _ _ _ _ (.agg _ [.t (.sl false 1 (stTs n1 t s p k)), .int (costAt t p k), .bool (holdsB (stAt t s p k) t.goal)] rfl fun i x y hx hy => ?_) (.same _), k, at_, hr, rfl, rfl⟩
    match i with
    | 0 =>
      simp at hx hy; subst hx hy
      have h := ClsV.row (ro := [(112, Ob.row 23 1 (stTs n1 t s p k))]) 112 23 1 0 (stTs n1 t s p k).length (stTs n1 t s p k) rfl (by simp)
      rwa [← take_all] at h
    | 1 => simp at hx hy; subst hx hy; exact .same _
    | 2 => simp at hx hy; subst hx hy; exact .same _
    | i + 3 => simp at hx
theorem ran_eq {t : Task} {s p : List Int} {k k' : Nat} {a a' : Int} (h : Ran t s p k a) (h' : Ran t s p k' a') : k = k' ∧ a = a' := by
  have key : ∀ {k k' : Nat} {a a' : Int}, Ran t s p k a → Ran t s p k' a' → k ≤ k' := fun {k k' a a'} h h' => by
    rcases Nat.lt_or_ge k' k with hlt | hge
    · have h1 := h.ok k' hlt
      rcases h'.stop with ⟨h2, _⟩ | ⟨_, h2, _⟩
      · have := h.le; omega
      · rw [h1] at h2; cases h2
    · exact hge
  have hk : k = k' := Nat.le_antisymm (key h h') (key h' h)
  refine ⟨hk, ?_⟩
  rcases h.stop with ⟨h1, h2⟩ | ⟨h1, _, h2⟩ <;> rcases h'.stop with ⟨h3, h4⟩ | ⟨h3, _, h4⟩ <;> omega

inductive Executed (n1 : Bool) (t : Task) (s p : List Int) : LV → Prop
  | fault (h : fineI t s ≠ 0) : Executed n1 t s p (.tup [.agg [nilV, .int 0, .bool false], .int 0, .int (fineI t s)])
  | arg (h : fineI t s = 0) (h2 : planB t p = false) : Executed n1 t s p (.tup [.agg [nilV, .int 0, .bool false], .int 0, .int 1])
  | ran (h : fineI t s = 0) (h2 : planB t p = true) (k : Nat) (at_ : Int) (hr : Ran t s p k at_) : Executed n1 t s p (.tup [runV n1 t s p k, .int at_, .int 0])
theorem f42_spec (t : Task) (n1 n2 : Bool) (s p : List Int) (out : List Fr) : SpecP Try.prog 42 [.task t, .ints n1 s, .ints n2 p] out fun r ro => Executed n1 t s p r ∧ ro = [] := by
  refine spec_body cx_ok [] [] (fn := Try.f42) (by kernel_rfl) rfl (by kernel_rfl) rfl (by unfold FnOK; kernel_rfl) fun hok => ?_
  refine SpecP.mono (f54_spec t n1 s []) ?_
  rintro _ _ ⟨rfl, rfl⟩
  refine And.intro (fun h => ?_) fun h => ?_
  · exact Exists.intro [] ⟨.fault (fine_no h), rfl⟩
  have h0 := fine_yes h
  obtain ⟨ht, hs⟩ := hts_of h0
  have TK := task_ok ht
  refine SpecP.mono (f78_spec t n2 p []) ?_
  rintro _ _ ⟨rfl, rfl⟩
  refine And.intro (fun hp => ?_) fun hp => ?_
  rotate_left
  · exact Exists.intro [] ⟨.arg h0 hp, rfl⟩
  refine SpecP.mono (f79_spec t n1 n2 s p TK hs hp []) ?_
  rintro _ _ ⟨k, at_, hr, rfl, rfl⟩
  exact Exists.intro [] ⟨.ran h0 hp k at_ hr, rfl⟩

inductive Costed (t : Task) (s p : List Int) : LV → Prop
  | no (h : ¬ Valid t s p) : Costed t s p (.tup [.int 0, .bool false])
  | yes (h : Valid t s p) : Costed t s p (.tup [.int (costAt t p p.length), .bool true])
theorem f81_spec (t : Task) (n1 n2 : Bool) (s p : List Int) (TK : TaskOK t) (hs : risingB s t.facts.length = true) (hp : planB t p = true) (out : List Fr) :
    SpecP Try.prog 81 [.task t, .ints n1 s, .ints n2 p] out fun r ro => Costed t s p r ∧ ro = [] := by
  refine spec_body cx_ok [] [] (fn := Try.f81) (by kernel_rfl) rfl (by kernel_rfl) rfl (by unfold FnOK; kernel_rfl) fun hok => ?_
  refine SpecP.mono (f79_spec t n1 n2 s p TK hs hp []) ?_
  rintro _ _ ⟨k, at_, hr, rfl, rfl⟩
  refine And.intro (fun h1 => ?_) fun h1 => ?_
  · have h1 := of_decide_eq_true h1
    rcases hr.stop with ⟨_, h2⟩ | ⟨h2, h3, _⟩
    · omega
    · exact Exists.intro [] ⟨.no fun hv => (by rw [hv.ok k h2] at h3; cases h3), rfl⟩
  have h1 := of_decide_eq_false h1
  rcases hr.stop with ⟨rfl, h2⟩ | ⟨_, _, h2⟩
  rotate_left
  · omega
  refine And.intro (fun h3 => ?_) fun h3 => ?_
  · exact Exists.intro [] ⟨.yes ⟨hp, hr.ok, h3⟩, rfl⟩
  · exact Exists.intro [] ⟨.no fun hv => (by rw [hv.goal] at h3; cases h3), rfl⟩

inductive Planned (t : Task) (p : List Int) : LV → Prop
  | fault (h : isB t = false) : Planned t p (.tup [.int 0, .bool false, .int 10])
  | arg (h : isB t = true) (h2 : planB t p = false) : Planned t p (.tup [.int 0, .bool false, .int 1])
  | no (h : isB t = true) (h2 : planB t p = true) (h3 : ¬ Valid t t.init p) : Planned t p (.tup [.int 0, .bool false, .int 0])
  | yes (h : isB t = true) (h2 : planB t p = true) (h3 : Valid t t.init p) : Planned t p (.tup [.int (costAt t p p.length), .bool true, .int 0])
theorem init_rising {t : Task} (h : isB t = true) : risingB t.init t.facts.length = true := by
  simp only [isB, Bool.and_eq_true] at h
  exact h.1.1.1.1.2
theorem f43_spec (t : Task) (n2 : Bool) (p : List Int) (out : List Fr) : SpecP Try.prog 43 [.task t, .ints n2 p] out fun r ro => Planned t p r ∧ ro = [] := by
  refine spec_body cx_ok [] [] (fn := Try.f43) (by kernel_rfl) rfl (by kernel_rfl) rfl (by unfold FnOK; kernel_rfl) fun hok => ?_
  refine SpecP.mono (f80_spec t []) ?_
  rintro _ _ ⟨rfl, rfl⟩
  refine And.intro (fun ht => ?_) fun ht => ?_
  rotate_left
  · exact Exists.intro [] ⟨.fault ht, rfl⟩
  refine SpecP.mono (f78_spec t n2 p []) ?_
  rintro _ _ ⟨rfl, rfl⟩
  refine And.intro (fun hp => ?_) fun hp => ?_
  rotate_left
  · exact Exists.intro [] ⟨.arg ht hp, rfl⟩
  refine SpecP.mono (f81_spec t t.ni n2 t.init p (task_ok ht) (init_rising ht) hp []) ?_
  rintro _ _ ⟨hc, rfl⟩
  cases hc with
  | no h => 
    refine And.intro (fun h => Bool.noConfusion h) fun _ => ?_
    exact Exists.intro [] ⟨.no ht hp h, rfl⟩
  | yes h =>
    refine And.intro (fun _ => ?_) fun h => Bool.noConfusion h
    exact Exists.intro [] ⟨.yes ht hp h, rfl⟩

end Go.Fw

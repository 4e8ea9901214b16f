/- The functions of the package. -/
import Derived.Test.YtkelfldopopgcaaZN

/- What the program's functions do: projections of tasks and of states, and what they cost. -/
namespace Go.Fw
open Go Go.Proofs
set_option maxRecDepth 10000

abbrev nilV : LV := .t (.sl true 0 [])
theorem posI_in {p : List Int} {x : Int} (h : hasB p x = true) : 0 ≤ posI p x ∧ posI p x < (p.length : Int) := by
  have := posG_lt (hasB_mm.1 h)
  rw [posI, if_pos h]; omega
theorem posI_get {p : List Int} {x : Int} (h : hasB p x = true) : p[(posI p x).toNat]? = some x := by
  rw [posI, if_pos h, Int.toNat_natCast]; exact posG_get (hasB_mm.1 h)
theorem posI_lt {p : List Int} (hp : p.Pairwise (· < ·)) {x y : Int} (hx : hasB p x = true) (hy : hasB p y = true) (h : x < y) : posI p x < posI p y := by
  have h1 := posG_get (hasB_mm.1 hx)
  have h2 := posG_get (hasB_mm.1 hy)
  rw [posI, posI, if_pos hx, if_pos hy]
  rcases Nat.lt_trichotomy (posG p x) (posG p y) with hlt | heq | hgt
  · omega
  · rw [heq, h2] at h1; cases h1; omega
  · obtain ⟨l1, e1⟩ := List.getElem?_eq_some_iff.1 h1
    obtain ⟨l2, e2⟩ := List.getElem?_eq_some_iff.1 h2
    have := List.pairwise_iff_getElem.1 hp _ _ l2 l1 hgt
    omega
theorem rising_le {l : List Int} {n : Nat} (h : risingB l n = true) : l.length ≤ n := by
  have hin := rising_in h
  have hnd : l.Nodup := rising_nodup h
  have := Dij.nodup_sub (S' := (List.range n).map Int.ofNat) hnd fun x hx => by
    have := hin x hx
    exact List.mem_map.2 ⟨x.toNat, List.mem_range.2 (by omega), Int.toNat_of_nonneg this.1⟩
  simpa using this
theorem facts_rising {p s : List Int} {n : Int} (hp : p.Pairwise (· < ·)) (hs : risingB s n = true) : risingB (factsL p s) p.length = true := by
  refine rising_of ?_ fun x hx => ?_
  · refine List.pairwise_map.2 ?_
    refine List.Pairwise.imp_of_mem (fun {a b} ha hb h => ?_) ((rising_inc hs).filter (hasB p))
    exact posI_lt hp (List.mem_filter.1 ha).2 (List.mem_filter.1 hb).2 h
  · obtain ⟨y, hy, rfl⟩ := List.mem_map.1 hx
    exact posI_in (List.mem_filter.1 hy).2
theorem lits_in {p : List Int} {l : List Lit} : ∀ x ∈ litsL p l, litIn p.length x := fun x hx => by
  obtain ⟨y, hy, rfl⟩ := List.mem_map.1 hx
  exact posI_in (List.mem_filter.1 hy).2
theorem projT_ok {t : Task} {p : List Int} (TK : TaskOK t) (hp : risingB p t.facts.length = true) : TaskOK (projT t p) := by
  have hl : (projT t p).facts.length = p.length := List.length_map ..
  have hpl := rising_le hp
  have hf := TK.facts
  have act : ∀ x ∈ (projT t p).acts, ∃ a ∈ t.acts, x = projA p a := fun x hx => by
    obtain ⟨a, ha, rfl⟩ := List.mem_map.1 hx; exact ⟨a, ha, rfl⟩
  have eff : ∀ {a : Actn} {e : Eff}, e ∈ (projA p a).effs → ∃ e0 ∈ a.effs, hasB p e0.lit.fact = true ∧ e = projE p e0 := fun {a e} he => by
    obtain ⟨e0, h0, rfl⟩ := List.mem_map.1 he
    exact ⟨e0, (List.mem_filter.1 h0).1, (List.mem_filter.1 h0).2, rfl⟩
  refine ⟨by rw [hl]; omega, by show (t.acts.map _).length ≤ _; rw [List.length_map]; exact TK.acts, ?_, fun x hx => ?_, fun x hx => ?_, fun x hx => ?_, fun x hx e he => ?_, fun x hx e he => ?_⟩
  · rw [hl]; exact lits_in
  · obtain ⟨a, ha, rfl⟩ := act x hx
    exact Nat.le_trans (projEs_len p a.effs) (TK.effs a ha)
  · obtain ⟨a, ha, rfl⟩ := act x hx
    exact TK.cost a ha
  · obtain ⟨a, ha, rfl⟩ := act x hx
    rw [hl]; exact lits_in
  · obtain ⟨a, ha, rfl⟩ := act x hx
    obtain ⟨e0, _, h1, rfl⟩ := eff he
    rw [hl]; exact posI_in h1
  · obtain ⟨a, ha, rfl⟩ := act x hx
    obtain ⟨e0, _, h1, rfl⟩ := eff he
    rw [hl]; exact lits_in

theorem asks_ok {t : Task} {w : Bool} {l : List (Bool × List Int)} (h : asksI t w l = 0) : isB t = true ∧ ∀ p ∈ l, fineB t w p.2 = true := by
  unfold asksI at h
  split at h
  · rename_i h1
    split at h
    · cases h
    · rename_i h2
      refine ⟨h1, fun p hp => ?_⟩
      have := List.any_eq_false.1 ((Bool.not_eq_true _).mp h2) p hp
      simpa using this
  · cases h
theorem given_ok {t : Task} {s : List Int} {l : List (Bool × List Int)} (h : givenI t s l = 0) : isB t = true ∧ risingB s t.facts.length = true ∧ ∀ p ∈ l, risingB p.2 t.facts.length = true ∧ closedB t p.2 = true := by
  unfold givenI at h
  split at h
  · rename_i h1
    obtain ⟨h2, h3⟩ := asks_ok h
    refine ⟨h2, ?_, fun p hp => ?_⟩
    · unfold fineI at h1
      rw [if_pos h2] at h1
      split at h1
      · assumption
      · cases h1
    · have := h3 p hp
      simpa [fineB] using this
  · contradiction

/-- The projection of a task, or the error. -/
inductive TaskR (t : Task) (n1 : Bool) (p : List Int) : LV → Prop
  | bad (h : asksI t true [(n1, p)] ≠ 0) : TaskR t n1 p (.tup [.agg [.t (.sl true 0 []), .t (.sl true 0 []), .t (.sl true 0 []), .t (.sl true 0 [])], .int (asksI t true [(n1, p)])])
  | ok (h : asksI t true [(n1, p)] = 0) : TaskR t n1 p (.tup [.task (projT t p), .int 0])
theorem f12_spec (t : Task) (n1 : Bool) (p : List Int) (out : List Fr) : SpecP Try.prog 12 [.task t, .ints n1 p] out fun r ro => TaskR t n1 p r ∧ ro = [] := by
  refine spec_body cx_ok [] [] (fn := Try.f12) (by kernel_rfl) rfl (by kernel_rfl) rfl (by unfold FnOK; kernel_rfl) fun hok => ?_
  refine Exists.intro (tLs [(n1, p)]) (And.intro rfl (And.intro (Nat.le_of_ble_eq_true rfl) ?_))
  refine SpecP.mono (f37_spec t true false [(n1, p)] _) ?_
  rintro _ _ ⟨rfl, rfl⟩
  refine And.intro trivial (And.intro trivial ?_)
  refine And.intro (fun h1 => ?_) fun h1 => ?_
  · have h1 : asksI t true [(n1, p)] ≠ 0 := by simpa using h1
    exact Exists.intro [] ⟨.bad h1, rfl⟩
  have h1 : asksI t true [(n1, p)] = 0 := by simpa using h1
  obtain ⟨h2, h3⟩ := asks_ok h1
  have h4 : risingB p t.facts.length = true := by have := h3 _ (List.mem_singleton.2 rfl); simp [fineB] at this; exact this.1
  refine SpecP.mono (f34_spec t n1 p h2 h4 []) ?_
  rintro _ _ ⟨rfl, rfl⟩
  exact Exists.intro [] ⟨.ok h1, rfl⟩

/-- The projection of a state, or the error. -/
inductive StateR (t : Task) (n1 : Bool) (p s : List Int) : LV → Prop
  | bad (h : givenI t s [(n1, p)] ≠ 0) : StateR t n1 p s (.tup [nilV, .int (givenI t s [(n1, p)])])
  | ok (h : givenI t s [(n1, p)] = 0) : StateR t n1 p s (.tup [.ints (factsL p s).isEmpty (factsL p s), .int 0])
theorem f13_spec (t : Task) (n1 n2 : Bool) (p s : List Int) (out : List Fr) : SpecP Try.prog 13 [.task t, .ints n1 p, .ints n2 s] out fun r ro => StateR t n1 p s r ∧ ro = [] := by
  refine spec_body cx_ok [] [] (fn := Try.f13) (by kernel_rfl) rfl (by kernel_rfl) rfl (by unfold FnOK; kernel_rfl) fun hok => ?_
  refine Exists.intro (tLs [(n1, p)]) (And.intro rfl (And.intro (Nat.le_of_ble_eq_true rfl) ?_))
  refine SpecP.mono (f32_spec t n2 false s [(n1, p)] _) ?_
  rintro _ _ ⟨rfl, rfl⟩
  refine And.intro trivial (And.intro trivial ?_)
  refine And.intro (fun h1 => ?_) fun h1 => ?_
  · have h1 : givenI t s [(n1, p)] ≠ 0 := by simpa using h1
    exact Exists.intro [] ⟨.bad h1, rfl⟩
  have h1 : givenI t s [(n1, p)] = 0 := by simpa using h1
  obtain ⟨h2, h3, h4⟩ := given_ok h1
  have h5 := (h4 _ (List.mem_singleton.2 rfl)).1
  have TK := task_ok h2
  refine SpecP.mono (f36_spec n1 p (rising_nodup h5) []) ?_
  rintro _ _ ⟨rfl, rfl⟩
  refine SpecP.mono (f35_spec n2 p s _ (pl 152 48) rfl (rising_len h3 (by have := TK.facts; omega)) _) ?_
  rintro _ _ ⟨rfl, rfl⟩
  exact Exists.intro [] ⟨.ok h1, rfl⟩

/-- The cost of a projection, or the error. -/
inductive CostR (t : Task) (n1 : Bool) (p s : List Int) : LV → Prop
  | bad (h : givenI t s [(n1, p)] ≠ 0) : CostR t n1 p s (.tup [.int 0, .int (givenI t s [(n1, p)])])
  | ok (h : givenI t s [(n1, p)] = 0) (r : LV) (hr : OptR (projT t p) (factsL p s) r) : CostR t n1 p s r
theorem optR_pair {u : Task} {s : List Int} {r : LV} (h : OptR u s r) : ∃ a e : Int, r = .tup [.int a, .int e] := by
  cases h <;> exact ⟨_, _, rfl⟩
theorem f9_spec (t : Task) (n1 n2 : Bool) (p s : List Int) (out : List Fr) : SpecP Try.prog 9 [.task t, .ints n1 p, .ints n2 s] out fun r ro => CostR t n1 p s r ∧ ro = [] := by
  refine spec_body cx_ok [] [] (fn := Try.f9) (by kernel_rfl) rfl (by kernel_rfl) rfl (by unfold FnOK; kernel_rfl) fun hok => ?_
  refine Exists.intro (tLs [(n1, p)]) (And.intro rfl (And.intro (Nat.le_of_ble_eq_true rfl) ?_))
  refine SpecP.mono (f32_spec t n2 false s [(n1, p)] _) ?_
  rintro _ _ ⟨rfl, rfl⟩
  refine And.intro trivial (And.intro trivial ?_)
  refine And.intro (fun h1 => ?_) fun h1 => ?_
  · have h1 : givenI t s [(n1, p)] ≠ 0 := by simpa using h1
    exact Exists.intro [] ⟨.bad h1, rfl⟩
  have h1 : givenI t s [(n1, p)] = 0 := by simpa using h1
  obtain ⟨h2, h3, h4⟩ := given_ok h1
  have h5 := (h4 _ (List.mem_singleton.2 rfl)).1
  have TK := task_ok h2
  refine SpecP.mono (f34_spec t n1 p h2 h5 []) ?_
  rintro _ _ ⟨rfl, rfl⟩
  refine SpecP.mono (f36_spec n1 p (rising_nodup h5) []) ?_
  rintro _ _ ⟨rfl, rfl⟩
  refine SpecP.mono (f35_spec n2 p s _ (pl 176 48) rfl (rising_len h3 (by have := TK.facts; omega)) _) ?_
  rintro _ _ ⟨rfl, rfl⟩
  have hl : (projT t p).facts.length = p.length := List.length_map ..
  refine SpecP.mono (f33_spec (projT t p) (factsL p s) (projT_ok TK h5) (by rw [hl]; exact facts_rising (rising_inc h5) h3) []) ?_
  rintro r _ ⟨hr, rfl⟩
  obtain ⟨a, e, rfl⟩ := optR_pair hr
  exact Exists.intro [] ⟨.ok h1 _ hr, rfl⟩

end Go.Fw

/- What the program's functions do: additive patterns. -/
namespace Go.Fw
open Go Go.Proofs
set_option maxRecDepth 10000

/-- Does an action have an effect on a fact of a pattern? -/
def touchB (a : Actn) (p : List Int) : Bool := a.effs.any fun e => hasB p e.lit.fact
def addB (t : Task) (l : List (Bool × List Int)) : Bool := t.acts.all fun a => decide (l.countP (fun p => touchB a p.2) ≤ 1)

theorem countP_one {α : Type} {q : α → Bool} : ∀ {l : List α}, (∀ i j (hi : i < l.length) (hj : j < l.length), q l[i] = true → q l[j] = true → i = j) → l.countP q ≤ 1
  | [], _ => by simp
  | x :: r, h => by
    rw [List.countP_cons]
    by_cases hx : q x = true
    · have : r.countP q = 0 := by
        rw [List.countP_eq_zero]
        intro y hy hq
        obtain ⟨k, hk, rfl⟩ := List.getElem_of_mem hy
        have := h 0 (k + 1) (by simp) (by simpa using hk) hx hq
        omega
      rw [this, if_pos hx]; exact Nat.le_refl 1
    · rw [if_neg hx]
      have := countP_one (l := r) fun i j hi hj h1 h2 => by
        have := h (i + 1) (j + 1) (by simpa using hi) (by simpa using hj) h1 h2
        omega
      omega
theorem countP_two {α : Type} {q : α → Bool} : ∀ {l : List α} {i j : Nat} (hi : i < l.length) (hj : j < l.length), q l[i] = true → q l[j] = true → i ≠ j → 2 ≤ l.countP q
  | [], i, _, hi, _, _, _, _ => by simp at hi
  | x :: r, 0, 0, _, _, _, _, h => absurd rfl h
  | x :: r, 0, j + 1, _, hj, h1, h2, _ => by
    have : 0 < r.countP q := List.countP_pos_iff.2 ⟨_, List.getElem_mem (by simpa using hj), h2⟩
    have h1 : q x = true := h1
    rw [List.countP_cons, if_pos h1]; omega
  | x :: r, i + 1, 0, hi, _, h1, h2, _ => by
    have : 0 < r.countP q := List.countP_pos_iff.2 ⟨_, List.getElem_mem (by simpa using hi), h1⟩
    have h2 : q x = true := h2
    rw [List.countP_cons, if_pos h2]; omega
  | x :: r, i + 1, j + 1, hi, hj, h1, h2, h => by
    have := countP_two (l := r) (i := i) (j := j) (by simpa using hi) (by simpa using hj) h1 h2 (by omega)
    rw [List.countP_cons]; omega

/-! ### The patterns of each fact -/
def wG (l : List Int) : GR := match l with
  | [] => .nil
  | x :: r => .row ((x :: r).map tI)
def gG (O : List (List Int)) : List GR := O.map wG
/-- The patterns among the first ones, and a part of one more, that contain a fact. -/
def ofP (l : List (Bool × List Int)) (i : Nat) (q : List Int) (f : Nat) : List Int :=
  (((List.range i).filter fun k => match l[k]? with | some p => hasB p.2 (f : Int) | none => false).map Int.ofNat) ++ if hasB q (f : Int) = true then [(i : Int)] else []
def ofL (n : Nat) (l : List (Bool × List Int)) (i : Nat) (q : List Int) : List (List Int) := (List.range n).map (ofP l i q)
theorem ofP_len (l : List (Bool × List Int)) (i : Nat) (q : List Int) (f : Nat) : (ofP l i q f).length ≤ i + 1 := by
  unfold ofP
  rw [List.length_append, List.length_map]
  have := List.length_filter_le (fun k => match l[k]? with | some p => hasB p.2 (f : Int) | none => false) (List.range i)
  rw [List.length_range] at this
  split <;> simp <;> omega
theorem ofP_full {l : List (Bool × List Int)} {i : Nat} (hi : i < l.length) (f : Nat) : ofP l i l[i].2 f = ofP l (i + 1) [] f := by
  unfold ofP
  rw [List.range_succ, List.filter_append, List.map_append]
  simp only [List.filter_cons, List.filter_nil, List.getElem?_eq_getElem hi]
  have : hasB [] (f : Int) = false := rfl
  cases h : hasB l[i].2 (f : Int) <;> simp [this]
theorem ofP_mem {l : List (Bool × List Int)} {i f : Nat} {z : Int} : z ∈ ofP l i [] f ↔ ∃ k : Nat, z = (k : Int) ∧ k < i ∧ ∃ p, l[k]? = some p ∧ hasB p.2 (f : Int) = true := by
  unfold ofP
  have : hasB [] (f : Int) = false := rfl
  rw [this, if_neg (by decide), List.append_nil]
  simp only [List.mem_map, List.mem_filter, List.mem_range]
  constructor
  · rintro ⟨k, ⟨h1, h2⟩, rfl⟩
    split at h2
    · rename_i p hp; exact ⟨k, rfl, h1, p, hp, h2⟩
    · cases h2
  · rintro ⟨k, rfl, h1, p, hp, h2⟩
    exact ⟨k, ⟨h1, by rw [hp]; exact h2⟩, rfl⟩
theorem gG_get {n : Nat} {l : List (Bool × List Int)} {i : Nat} {q : List Int} {f : Nat} (hf : f < n) : (gG (ofL n l i q))[0 + ((f : Nat) : Int).toNat]? = some (wG (ofP l i q f)) := by
  rw [Nat.zero_add, Int.toNat_natCast, gG, ofL, List.getElem?_map, List.getElem?_map, List.getElem?_range hf]; rfl
theorem gG_len (n : Nat) (l : List (Bool × List Int)) (i : Nat) (q : List Int) : (gG (ofL n l i q)).length = n := by simp [gG, ofL]
theorem gG_set {n : Nat} {l : List (Bool × List Int)} {i : Nat} {q : List Int} {f : Nat} {x : Int} (hf : f < n) (hx : x = (f : Int)) (hq : hasB q x = false) :
    (gG (ofL n l i q)).set (0 + ((f : Nat) : Int).toNat) (wG (ofP l i q f ++ [(i : Int)])) = gG (ofL n l i (q ++ [x])) := by
  subst hx
  rw [Nat.zero_add, Int.toNat_natCast]
  refine List.ext_getElem? fun k => ?_
  rw [List.getElem?_set]
  by_cases hk : k < n
  · have e : ∀ q', (gG (ofL n l i q'))[k]? = some (wG (ofP l i q' k)) := fun q' => by have := gG_get (l := l) (i := i) (q := q') hk; rwa [Nat.zero_add, Int.toNat_natCast] at this
    rw [e, e]
    split
    · rename_i hfk
      subst hfk
      rw [if_pos (by rw [gG_len]; exact hf)]
      congr 2
      unfold ofP
      rw [hq, if_neg (by decide), List.append_nil, hasB_snoc, hq]
      simp
    · rename_i hfk
      congr 2
      unfold ofP
      rw [hasB_snoc]
      have : ((f : Int) == (k : Int)) = false := by simp; omega
      rw [this, Bool.or_false]
  · rw [List.getElem?_eq_none (by rw [gG_len]; omega), List.getElem?_eq_none (by rw [gG_len]; omega)]
    split
    · rw [if_neg (by rw [gG_len]; omega)]
    · rfl

/-- The patterns that the first effects of an action touch. -/
def Tch (l : List (Bool × List Int)) (a : Actn) (k : Nat) (i : Nat) : Prop := ∃ (m : Nat) (e : Eff) (p : Bool × List Int), m < k ∧ a.effs[m]? = some e ∧ l[i]? = some p ∧ hasB p.2 e.lit.fact = true
theorem Tch.touch {l : List (Bool × List Int)} {a : Actn} {k i : Nat} (h : Tch l a k i) : ∃ hi : i < l.length, touchB a l[i].2 = true := by
  obtain ⟨m, e, p, _, h2, h3, h4⟩ := h
  obtain ⟨hi, rfl⟩ := List.getElem?_eq_some_iff.1 h3
  exact ⟨hi, List.any_eq_true.2 ⟨e, List.mem_of_getElem? h2, h4⟩⟩
theorem touch_Tch {l : List (Bool × List Int)} {a : Actn} {i : Nat} (hi : i < l.length) (h : touchB a l[i].2 = true) : Tch l a a.effs.length i := by
  obtain ⟨e, he, hb⟩ := List.any_eq_true.1 h
  obtain ⟨m, hm, rfl⟩ := List.getElem_of_mem he
  exact ⟨m, _, _, hm, List.getElem?_eq_getElem hm, List.getElem?_eq_getElem hi, hb⟩
/-- What has been met of an action: the patterns, and how it is kept. -/
def Met (T : Nat → Prop) (m : Int) : Prop := (m = -1 ∧ ∀ i, ¬ T i) ∨ ∃ k : Nat, m = (k : Int) ∧ T k ∧ ∀ i, T i → i = k

def kq48 : Kp := [(3, ([2, 5, 21, 22, 23], [16, 160])), (6, ([2, 5, 6, 21, 22, 23, 28, 29, 30], [16, 160])), (12, ([5, 47, 48, 49], [16, 160])), (16, ([5, 12, 47, 48, 49, 54, 55, 56], [16, 160])), (19, ([5, 12, 47, 48, 49, 54, 55, 56, 65, 66, 67], [16, 160]))]
theorem f48_spec (t : Task) (n1 : Bool) (l : List (Bool × List Int)) (TK : TaskOK t) (hp : ∀ p ∈ l, risingB p.2 t.facts.length = true) (hl : l.length ≤ 1000000000) (out : List Fr) :
    SpecP Try.prog 48 [.task t, .t (.sl n1 1 (tLs l))] out fun r ro => r = .bool (addB t l) ∧ ro = [] := by
  refine spec_body cx_ok kq48 [] (fn := Try.f48) (by kernel_rfl) rfl (by kernel_rfl) rfl (by unfold FnOK; kernel_rfl) fun hok => ?_
  have hN := TK.facts
  have hA := TK.acts
  have hfl : (t.facts.map tS).length = t.facts.length := List.length_map ..
  have hz : gG (ofL (t.facts.map tS).length l 0 []) = List.replicate (t.facts.map tS).length .nil := by
    unfold gG ofL
    rw [List.map_map, ← List.length_range (n := (t.facts.map tS).length), List.eq_replicate_iff]
    refine ⟨by simp, fun b hb => ?_⟩
    obtain ⟨f, _, rfl⟩ := List.mem_map.1 hb
    rfl
  refine And.intro rfl (And.intro (Int.natCast_nonneg _) (And.intro (by show (((t.facts.map tS).length : Nat) : Int) * 24 ≤ _; omega) (And.intro (by omega) ?_)))
  refine LoopW.mk Nat (fun i => i ≤ l.length) (fun i => [(2, .ptr (.cur 16) 0), (5, .osl (.cur 160) 1 0 (t.facts.map tS).length), (21, .t (.sl n1 1 (tLs l))), (22, .int (tLs l).length), (23, .int i)])
    (fun i => ⟨out, [(16, .box (cellsTask t)), (160, .grid 22 3 1 (gG (ofL (t.facts.map tS).length l i [])))]⟩) (fun i => l.length - i) 0 (Nat.zero_le _) ⟨rfl, ?_⟩ fun i hi0 => ?_
  · show _ = (⟨out, [(16, .box (cellsTask t)), (160, .grid 22 3 1 (gG (ofL (t.facts.map tS).length l 0 [])))]⟩ : St)
    rw [hz]; rfl
  refine And.intro (fun h1 => ?_) fun h1 => ?_
  · have hi : i < l.length := by have := of_decide_eq_true h1; rw [tLs_len] at this; omega
    have hpi := hp _ (List.getElem_mem hi)
    have hin := rising_in hpi
    have hpl := rising_len hpi (by omega)
    refine And.intro (by omega) (Exists.intro _ (And.intro (tLs_get hi) ?_))
    refine LoopW.mk Nat (fun k => k ≤ l[i].2.length) (fun k => [(2, .ptr (.cur 16) 0), (5, .osl (.cur 160) 1 0 (t.facts.map tS).length), (6, .int i), (21, .t (.sl n1 1 (tLs l))), (22, .int (tLs l).length), (23, .int i), (28, .ints l[i].1 l[i].2), (29, .int (l[i].2.map tI).length), (30, .int k)])
      (fun k => ⟨out, [(16, .box (cellsTask t)), (160, .grid 22 3 1 (gG (ofL (t.facts.map tS).length l i (l[i].2.take k))))]⟩) (fun k => l[i].2.length - k) 0 (Nat.zero_le _) ⟨rfl, ?_⟩ fun k hk0 => ?_
    · rw [List.take_zero]
    refine And.intro (fun h2 => ?_) fun h2 => ?_
    · have hk : k < l[i].2.length := lt_of_dec h2
      obtain ⟨f, hf⟩ : ∃ f : Nat, l[i].2[k] = (f : Int) := ⟨l[i].2[k].toNat, by have := (hin _ (List.getElem_mem hk)).1; omega⟩
      have hfn : f < (t.facts.map tS).length := by have := (hin _ (List.getElem_mem hk)).2; rw [hf] at this; omega
      have hq : hasB (l[i].2.take k) (f : Int) = false := by
        cases hb : hasB (l[i].2.take k) (f : Int) with
        | false => rfl
        | true =>
          obtain ⟨j, hj, he⟩ := List.getElem_of_mem (hasB_mm.1 hb)
          have hj2 : j < k := by rw [List.length_take] at hj; omega
          rw [List.getElem_take] at he
          exact absurd (he.trans hf.symm) (List.pairwise_iff_getElem.1 (rising_nodup hpi) j k (by omega) hk hj2)
      have hset := gG_set (l := l) (i := i) (q := l[i].2.take k) hfn rfl hq
      have htk : l[i].2.take k ++ [(f : Int)] = l[i].2.take (k + 1) := by rw [List.take_add_one, List.getElem?_eq_getElem hk, hf]; rfl
      rw [htk] at hset
      have hcur := gG_get (l := l) (i := i) (q := l[i].2.take k) hfn
      have hwl := ofP_len l i (l[i].2.take k) f
      refine And.intro (by omega) (Exists.intro (tI f) (And.intro (by rw [← hf]; exact get_map hk) ?_))
      refine And.intro (by omega) (And.intro (by omega) (Exists.intro _ (And.intro hcur ?_)))
      generalize hw : ofP l i (l[i].2.take k) f = w at hset hcur hwl
      cases w with
      | nil =>
        refine And.intro (Nat.le_refl 1) (And.intro (Nat.le_of_ble_eq_true rfl) (And.intro (Nat.le_of_ble_eq_true rfl) ?_))
        refine And.intro (by omega) (And.intro (by omega) (And.intro rfl (And.intro (by rw [gG_len, Nat.zero_add, Int.toNat_natCast]; exact hfn) ?_)))
        refine And.intro (by show (-9223372036854775808 : Int) ≤ (k : Int) + 1; omega) (And.intro (by show (k : Int) + 1 ≤ 9223372036854775807; omega) ?_)
        refine Exists.intro (k + 1) (And.intro (by show l[i].2.length - (k + 1) < l[i].2.length - k; omega) (And.intro hk (And.intro rfl ?_)))
        show _ = (⟨out, [(16, .box (cellsTask t)), (160, .grid 22 3 1 (gG (ofL (t.facts.map tS).length l i (l[i].2.take (k + 1)))))]⟩ : St)
        rw [← hset]; rfl
      | cons y r =>
        refine And.intro (Nat.le_refl 1) (Exists.intro _ (And.intro hcur (And.intro rfl ?_)))
        have hl9 : ∀ X : List T, (((y :: r).map tI) ++ [X]).length ≤ 1000000002 := fun X => by rw [List.length_append, List.length_map]; simp only [List.length_singleton]; omega
        refine And.intro (Nat.le_trans (Nat.mul_le_mul_right _ (hl9 _)) (Nat.le_of_ble_eq_true rfl)) (And.intro (Nat.le_trans (hl9 _) (Nat.le_of_ble_eq_true rfl)) ?_)
        refine And.intro (by omega) (And.intro (by omega) (And.intro rfl ?_))
        refine And.intro (by show 0 + ((f : Nat) : Int).toNat < (List.set _ _ _).length; rw [List.length_set, gG_len, Nat.zero_add, Int.toNat_natCast]; exact hfn) ?_
        refine And.intro (by show (-9223372036854775808 : Int) ≤ (k : Int) + 1; omega) (And.intro (by show (k : Int) + 1 ≤ 9223372036854775807; omega) ?_)
        refine Exists.intro (k + 1) (And.intro (by show l[i].2.length - (k + 1) < l[i].2.length - k; omega) (And.intro hk (And.intro rfl ?_)))
        have e : (y :: r).map tI ++ [tI (i : Int)] = ((y :: r) ++ [(i : Int)]).map tI := by simp
        have hset2 : ((gG (ofL (t.facts.map tS).length l i (l[i].2.take k))).set (0 + ((f : Nat) : Int).toNat) .out).set (0 + ((f : Nat) : Int).toNat) (.row ((y :: r).map tI ++ [tI (i : Int)])) = gG (ofL (t.facts.map tS).length l i (l[i].2.take (k + 1))) := by
          rw [List.set_set, ← hset, e]; rfl
        show _ = (⟨out, [(16, .box (cellsTask t)), (160, .grid 22 3 1 (gG (ofL (t.facts.map tS).length l i (l[i].2.take (k + 1)))))]⟩ : St)
        rw [← hset2]; rfl
    · have hk : k = l[i].2.length := by have := ge_of_dec h2; omega
      refine And.intro (by omega) (And.intro (by omega) ?_)
      refine Exists.intro (i + 1) (And.intro (by show l.length - (i + 1) < l.length - i; omega) (And.intro hi (And.intro rfl ?_)))
      have e : ofL (t.facts.map tS).length l (i + 1) [] = ofL (t.facts.map tS).length l i (l[i].2.take k) := by
        unfold ofL
        rw [hk, List.take_length]
        exact List.map_congr_left fun f _ => (ofP_full hi f).symm
      show _ = (⟨out, [(16, .box (cellsTask t)), (160, .grid 22 3 1 (gG (ofL (t.facts.map tS).length l (i + 1) [])))]⟩ : St)
      rw [e]
  have hi : i = l.length := by have := of_decide_eq_false h1; rw [tLs_len] at this; omega
  subst hi
  clear h1 hi0
  have hlm : (l.length : Int) ≤ 1000000000 := by omega
  refine LoopW.mk Nat (fun i => i ≤ t.acts.length ∧ ∀ k (hk : k < t.acts.length), k < i → l.countP (fun p => touchB t.acts[k] p.2) ≤ 1) (fun i => [(5, .osl (.cur 160) 1 0 (t.facts.map tS).length), (47, .t (.sl t.an 4 (t.acts.map tAct))), (48, .int (t.acts.map tAct).length), (49, .int i)])
    (fun _ => ⟨out, [(16, .box (cellsTask t)), (160, .grid 22 3 1 (gG (ofL (t.facts.map tS).length l l.length [])))]⟩) (fun i => t.acts.length - i) 0 ⟨Nat.zero_le _, fun k _ h => by omega⟩ ⟨rfl, rfl⟩ fun i hI => ?_
  refine And.intro (fun h1 => ?_) fun h1 => ?_
  rotate_left
  · have hi : t.acts.length ≤ i := ge_of_dec h1
    refine Exists.intro [] (ret_bool ?_ rfl)
    refine (List.all_eq_true.2 fun a ha => ?_ : addB t l = true)
    obtain ⟨k, hk, rfl⟩ := List.getElem_of_mem ha
    exact decide_eq_true (hI.2 k hk (by omega))
  have hi := lt_of_dec h1
  have hem : t.acts[i] ∈ t.acts := List.getElem_mem hi
  have hel := TK.effs _ hem
  have no : ∀ x y : Nat, x ≠ y → Tch l t.acts[i] t.acts[i].effs.length x → Tch l t.acts[i] t.acts[i].effs.length y → addB t l = false := fun x y hxy h1 h2 => by
    obtain ⟨hx, tx⟩ := h1.touch
    obtain ⟨hy, ty⟩ := h2.touch
    have := countP_two (q := fun p : Bool × List Int => touchB t.acts[i] p.2) hx hy tx ty hxy
    refine all_false hi ?_
    rw [decide_eq_false_iff_not]; omega
  refine And.intro (by omega) (Exists.intro _ (And.intro (get_map hi) ?_))
  refine LoopW.mk (Nat × Int) (fun u => u.1 ≤ t.acts[i].effs.length ∧ Met (Tch l t.acts[i] u.1) u.2) (fun u => [(5, .osl (.cur 160) 1 0 (t.facts.map tS).length), (12, .int u.2), (47, .t (.sl t.an 4 (t.acts.map tAct))), (48, .int (t.acts.map tAct).length), (49, .int i), (54, .t (.sl t.acts[i].en 3 (t.acts[i].effs.map tEff))), (55, .int (t.acts[i].effs.map tEff).length), (56, .int u.1)])
    (fun _ => ⟨out, [(16, .box (cellsTask t)), (160, .grid 22 3 1 (gG (ofL (t.facts.map tS).length l l.length [])))]⟩) (fun u => t.acts[i].effs.length - u.1) (0, -1) ⟨Nat.zero_le _, .inl ⟨rfl, fun x ⟨m, _, _, h, _⟩ => by omega⟩⟩ ⟨rfl, rfl⟩ ?_
  rintro ⟨k, m⟩ ⟨hk0, hm⟩
  simp only at hk0 hm
  refine And.intro (fun h2 => ?_) fun h2 => ?_
  rotate_left
  · have hk : k = t.acts[i].effs.length := by have := ge_of_dec h2; have : k ≤ t.acts[i].effs.length := hk0; omega
    rw [hk] at hm
    refine And.intro (by omega) (And.intro (by omega) ?_)
    refine Exists.intro (i + 1) (And.intro (by show t.acts.length - (i + 1) < t.acts.length - i; omega) (And.intro ⟨hi, fun k hk hki => ?_⟩ (And.intro rfl rfl)))
    rcases Nat.lt_or_ge k i with h | h
    · exact hI.2 k hk h
    · have : k = i := by omega
      subst this
      refine countP_one fun x y hx hy h1 h2 => ?_
      have e1 := touch_Tch hx h1
      have e2 := touch_Tch hy h2
      rcases hm with ⟨_, hno⟩ | ⟨z, _, _, hz⟩
      · exact absurd e1 (hno x)
      · rw [hz x e1, hz y e2]
  have hk : k < t.acts[i].effs.length := lt_of_dec h2
  have hek : t.acts[i].effs[k] ∈ t.acts[i].effs := List.getElem_mem hk
  have hlit := TK.lit _ hem _ hek
  obtain ⟨f, hf⟩ : ∃ f : Nat, t.acts[i].effs[k].lit.fact = (f : Int) := ⟨t.acts[i].effs[k].lit.fact.toNat, by have := hlit.1; omega⟩
  have hfn : f < (t.facts.map tS).length := by have := hlit.2; rw [hf] at this; omega
  have hcur := gG_get (l := l) (i := l.length) (q := []) hfn
  have hwl := ofP_len l l.length [] f
  have step : ∀ x : Nat, Tch l t.acts[i] (k + 1) x ↔ Tch l t.acts[i] k x ∨ (x : Int) ∈ ofP l l.length [] f := fun x => by
    rw [ofP_mem]
    constructor
    · rintro ⟨q, e, p, g1, g2, g3, g4⟩
      rcases Nat.lt_or_ge q k with h | h
      · exact .inl ⟨q, e, p, h, g2, g3, g4⟩
      · have : q = k := by omega
        subst this
        rw [List.getElem?_eq_getElem hk] at g2
        cases g2
        exact .inr ⟨x, rfl, (List.getElem?_eq_some_iff.1 g3).1, p, g3, by rw [← hf]; exact g4⟩
    · rintro (⟨q, e, p, g1, g2, g3, g4⟩ | ⟨z, g1, g2, p, g3, g4⟩)
      · exact ⟨q, e, p, by omega, g2, g3, g4⟩
      · have : x = z := by omega
        subst this
        exact ⟨k, _, p, by omega, List.getElem?_eq_getElem hk, g3, by rw [hf]; exact g4⟩
  have upto : ∀ x : Nat, Tch l t.acts[i] (k + 1) x → Tch l t.acts[i] t.acts[i].effs.length x := fun x ⟨q, e, p, h1, h2⟩ => ⟨q, e, p, by omega, h2⟩
  refine And.intro (by omega) (Exists.intro _ (And.intro (get_map hk) ?_))
  refine And.intro hlit.1 (And.intro (by rw [hf]; omega) ?_)
  refine Exists.intro _ (And.intro (by rw [hf]; exact hcur) ?_)
  generalize hw : ofP l l.length [] f = w at hcur hwl step
  cases w with
  | nil =>
    refine LoopW.mk Unit (fun _ => True) (fun _ => [(5, .osl (.cur 160) 1 0 (t.facts.map tS).length), (12, .int m), (47, .t (.sl t.an 4 (t.acts.map tAct))), (48, .int (t.acts.map tAct).length), (49, .int i), (54, .t (.sl t.acts[i].en 3 (t.acts[i].effs.map tEff))), (55, .int (t.acts[i].effs.map tEff).length), (56, .int k), (65, .t (.sl true 0 [])), (66, .int 0), (67, .int 0)])
      (fun _ => ⟨out, [(16, .box (cellsTask t)), (160, .grid 22 3 1 (gG (ofL (t.facts.map tS).length l l.length [])))]⟩) (fun _ => 0) () trivial ⟨rfl, rfl⟩ fun _ _ => ?_
    refine And.intro (fun h => Bool.noConfusion h) fun _ => ?_
    refine And.intro (by omega) (And.intro (by omega) ?_)
    refine Exists.intro (k + 1, m) (And.intro (by show t.acts[i].effs.length - (k + 1) < t.acts[i].effs.length - k; omega) (And.intro ⟨hk, ?_⟩ (And.intro rfl rfl)))
    have : ∀ x, Tch l t.acts[i] (k + 1) x ↔ Tch l t.acts[i] k x := fun x => by rw [step]; simp
    show Met (Tch l t.acts[i] (k + 1)) m
    rw [show Tch l t.acts[i] (k + 1) = Tch l t.acts[i] k from funext fun x => propext (this x)]
    exact hm
  | cons y r =>
    refine LoopW.mk (Nat × Int) (fun u => u.1 ≤ (y :: r).length ∧ Met (fun x => Tch l t.acts[i] k x ∨ (x : Int) ∈ (y :: r).take u.1) u.2) (fun u => [(5, .osl (.cur 160) 1 0 (t.facts.map tS).length), (12, .int u.2), (47, .t (.sl t.an 4 (t.acts.map tAct))), (48, .int (t.acts.map tAct).length), (49, .int i), (54, .t (.sl t.acts[i].en 3 (t.acts[i].effs.map tEff))), (55, .int (t.acts[i].effs.map tEff).length), (56, .int k),
        (65, .osl (.sub (.cur 160) (0 + t.acts[i].effs[k].lit.fact.toNat)) 1 0 ((y :: r).map tI).length), (66, .int ((y :: r).map tI).length), (67, .int u.1)])
      (fun _ => ⟨out, [(16, .box (cellsTask t)), (160, .grid 22 3 1 (gG (ofL (t.facts.map tS).length l l.length [])))]⟩) (fun u => (y :: r).length - u.1) (0, m) ⟨Nat.zero_le _, ?_⟩ ⟨rfl, rfl⟩ ?_
    · show Met (fun x => Tch l t.acts[i] k x ∨ (x : Int) ∈ (y :: r).take 0) m
      simpa using hm
    rintro ⟨j, m2⟩ ⟨hj0, hm2⟩
    simp only at hj0 hm2
    refine And.intro (fun h3 => ?_) fun h3 => ?_
    rotate_left
    · have hj : j = (y :: r).length := by have := ge_of_dec h3; have : j ≤ (y :: r).length := hj0; omega
      rw [hj, List.take_length] at hm2
      refine And.intro (by omega) (And.intro (by omega) ?_)
      refine Exists.intro (k + 1, m2) (And.intro (by show t.acts[i].effs.length - (k + 1) < t.acts[i].effs.length - k; omega) (And.intro ⟨hk, ?_⟩ (And.intro rfl rfl)))
      show Met (Tch l t.acts[i] (k + 1)) m2
      rw [show Tch l t.acts[i] (k + 1) = fun x => Tch l t.acts[i] k x ∨ (x : Int) ∈ y :: r from funext fun x => propext (step x)]
      exact hm2
    have hj : j < (y :: r).length := lt_of_dec h3
    have hrow : (gG (ofL (t.facts.map tS).length l l.length []))[0 + t.acts[i].effs[k].lit.fact.toNat]? = some (.row ((y :: r).map tI)) := by rw [hf]; exact hcur
    obtain ⟨x, hx⟩ : ∃ x : Nat, (y :: r)[j] = (x : Int) := by
      have : (y :: r)[j] ∈ ofP l l.length [] f := by rw [hw]; exact List.getElem_mem hj
      obtain ⟨x, h, _⟩ := ofP_mem.1 this
      exact ⟨x, h⟩
    have hgx : ((y :: r).map tI)[0 + ((j : Nat) : Int).toNat]? = some (tI x) := by rw [Nat.zero_add, ← hx]; exact get_map hj
    have htx : Tch l t.acts[i] (k + 1) x := (step x).2 (.inr (by rw [← hx]; exact List.getElem_mem hj))
    have hnew : ∀ z : Nat, (Tch l t.acts[i] k z ∨ (z : Int) ∈ (y :: r).take (j + 1)) ↔ (Tch l t.acts[i] k z ∨ (z : Int) ∈ (y :: r).take j) ∨ z = x := fun z => by
      rw [List.take_add_one, List.getElem?_eq_getElem hj, hx]
      simp only [Option.toList_some, List.mem_append, List.mem_singleton, or_assoc]
      constructor
      · rintro (h | h | h)
        · exact .inl h
        · exact .inr (.inl h)
        · exact .inr (.inr (by omega))
      · rintro (h | h | h)
        · exact .inl h
        · exact .inr (.inl h)
        · exact .inr (.inr (by omega))
    have goon : (∀ z, Tch l t.acts[i] k z ∨ (z : Int) ∈ (y :: r).take j → z = x) → Met (fun z => Tch l t.acts[i] k z ∨ (z : Int) ∈ (y :: r).take (j + 1)) (x : Int) := fun h =>
      .inr ⟨x, rfl, (hnew x).2 (.inr rfl), fun z hz => ((hnew z).1 hz).elim (h z) id⟩
    refine And.intro (by omega) (And.intro (by show (j : Int) < (((y :: r).map tI).length : Nat); rw [List.length_map]; omega) ?_)
    refine Exists.intro _ (And.intro hrow (Exists.intro _ (And.intro hgx ?_)))
    refine And.intro (fun h4 => ?_) fun h4 => ?_
    · have h4 : m2 ≥ 0 := of_decide_eq_true h4
      rcases hm2 with ⟨h, _⟩ | ⟨z, rfl, hz1, hz2⟩
      · omega
      refine And.intro (fun h5 => ?_) fun h5 => ?_
      · have h5 : z ≠ x := fun h => by subst h; simp at h5
        refine Exists.intro [] (ret_bool ?_ rfl)
        refine (no z x h5 (upto z ((step z).2 (hz1.imp id fun h => List.mem_of_mem_take h))) (upto x htx))
      · have h5 : z = x := by have := (bne_eq_false_iff_eq.1 h5); omega
        subst h5
        refine And.intro (by omega) (And.intro (by omega) ?_)
        exact Exists.intro (j + 1, (z : Int)) (And.intro (by show (y :: r).length - (j + 1) < (y :: r).length - j; omega) (And.intro ⟨hj, goon hz2⟩ (And.intro rfl rfl)))
    · have h4 : ¬ m2 ≥ 0 := of_decide_eq_false h4
      rcases hm2 with ⟨_, hno⟩ | ⟨z, rfl, _⟩
      · refine And.intro (by omega) (And.intro (by omega) ?_)
        exact Exists.intro (j + 1, (x : Int)) (And.intro (by show (y :: r).length - (j + 1) < (y :: r).length - j; omega) (And.intro ⟨hj, goon fun z hz => absurd hz (hno z)⟩ (And.intro rfl rfl)))
      · omega

theorem f26_spec (t : Task) (n1 : Bool) (l : List (Bool × List Int)) (hl : asksI t true l = 0 → l.length ≤ 1000000000) (out : List Fr) : SpecP Try.prog 26 [.task t, .t (.sl n1 1 (tLs l))] out fun r ro =>
    r = .tup [.bool (decide (asksI t true l = 0) && addB t l), .int (asksI t true l)] ∧ ro = [] := by
  refine spec_body cx_ok [] [] (fn := Try.f26) (by kernel_rfl) rfl (by kernel_rfl) rfl (by unfold FnOK; kernel_rfl) fun hok => ?_
  refine SpecP.mono (f37_spec t true n1 l []) ?_
  rintro _ _ ⟨rfl, rfl⟩
  refine And.intro (fun h1 => ?_) fun h1 => ?_
  · have h1 : asksI t true l ≠ 0 := by simpa using h1
    exact Exists.intro [] ⟨by rw [decide_eq_false h1]; rfl, rfl⟩
  have h1 : asksI t true l = 0 := by simpa using h1
  obtain ⟨h2, h3⟩ := asks_ok h1
  refine SpecP.mono (f48_spec t n1 l (task_ok h2) (fun p hp => by have := h3 p hp; simp [fineB] at this; exact this.1) (hl h1) []) ?_
  rintro _ _ ⟨rfl, rfl⟩
  rw [h1]
  refine And.intro (fun h2 => ?_) fun h2 => ?_
  · exact Exists.intro [] ⟨by rw [h2]; rfl, rfl⟩
  · exact Exists.intro [] ⟨by rw [h2]; rfl, rfl⟩

end Go.Fw

/- What the program's functions do: what several patterns say together. -/
namespace Go.Fw
open Go Go.Proofs
set_option maxRecDepth 10000

theorem OptR.cost {u : Task} {s : List Int} {c : Int} (h : OptR u s (.tup [.int c, .int 0])) : 0 ≤ c ∧ c ≤ 2000000000 := by
  generalize hr : LV.tup [.int c, .int 0] = r at h
  cases h with
  | space => cases hr
  | none => cases hr
  | ok S hW hl c' h0 hb hc => cases hr; exact ⟨h0, hb⟩

/-- What a pattern of the list says. -/
abbrev SaysR (t : Task) (s : List Int) (p : Bool × List Int) (r : LV) : Prop := OptR (projT t p.2) (factsL p.2 s) r
def maxL (C : List Int) : Int := C.foldl max 0
/-- What several patterns say together, or the error. -/
inductive BestR (t : Task) (s : List Int) (l : List (Bool × List Int)) : LV → Prop
  | bad (h : givenI t s l ≠ 0) : BestR t s l (.tup [.int 0, .int (givenI t s l)])
  | space (h : givenI t s l = 0) (p : Bool × List Int) (hp : p ∈ l) (hr : SaysR t s p (.tup [.int 0, .int 3])) : BestR t s l (.tup [.int 0, .int 3])
  | none (h : givenI t s l = 0) (p : Bool × List Int) (hp : p ∈ l) (hr : SaysR t s p (.tup [.int 0, .int 4])) : BestR t s l (.tup [.int 0, .int 4])
  | ok (h : givenI t s l = 0) (C : List Int) (hl : C.length = l.length) (hC : ∀ (i : Nat) c p, C[i]? = some c → l[i]? = some p → SaysR t s p (.tup [.int c, .int 0])) :
      BestR t s l (.tup [.int (if addB t l then C.sum else maxL C), .int 0])

structure Bst (t : Task) (s : List Int) (l : List (Bool × List Int)) (C : List Int) (no : Bool) : Prop where
  le : C.length ≤ l.length
  nones : no = true → ∃ p ∈ l, SaysR t s p (.tup [.int 0, .int 4])
  yes : no = false → ∀ (i : Nat) c p, C[i]? = some c → l[i]? = some p → SaysR t s p (.tup [.int c, .int 0])
  sum0 : 0 ≤ C.sum
  sum1 : C.sum ≤ 2000000000 * (C.length : Int)

theorem sum_snoc (C : List Int) (c : Int) : (C ++ [c]).sum = C.sum + c := by simp
theorem maxL_snoc (C : List Int) (c : Int) : maxL (C ++ [c]) = max (maxL C) c := by simp [maxL]
theorem Bst.snoc {t : Task} {s : List Int} {l : List (Bool × List Int)} {C : List Int} {no : Bool} (h : Bst t s l C no) (hi : C.length < l.length) {c : Int} (hc : SaysR t s l[C.length] (.tup [.int c, .int 0])) : Bst t s l (C ++ [c]) no := by
  have hb := hc.cost
  have h0 := h.sum0
  have h1 := h.sum1
  refine ⟨by rw [List.length_append]; exact hi, h.nones, fun hn i c' p hg hp => ?_, by rw [sum_snoc]; omega, by rw [sum_snoc, List.length_append, List.length_singleton, Int.natCast_add]; omega⟩
  rw [List.getElem?_append] at hg
  split at hg
  · exact h.yes hn i c' p hg hp
  · rename_i hlt
    obtain ⟨h2, h3⟩ := List.getElem?_eq_some_iff.1 hg
    have : i = C.length := by rw [List.length_singleton] at h2; omega
    subst this
    rw [List.getElem?_eq_getElem hi] at hp
    cases hp
    have : c' = c := by simpa using hg.symm
    rw [this]; exact hc
theorem Bst.none {t : Task} {s : List Int} {l : List (Bool × List Int)} {C : List Int} {no : Bool} (h : Bst t s l C no) (hi : C.length < l.length) (hc : SaysR t s l[C.length] (.tup [.int 0, .int 4])) : Bst t s l (C ++ [0]) true := by
  have h0 := h.sum0
  have h1 := h.sum1
  exact ⟨by rw [List.length_append]; exact hi, fun _ => ⟨_, List.getElem_mem hi, hc⟩, fun h => Bool.noConfusion h, by rw [sum_snoc]; omega, by rw [sum_snoc, List.length_append, List.length_singleton, Int.natCast_add]; omega⟩

abbrev envB (n1 : Bool) (l : List (Bool × List Int)) (n2 : Bool) (s : List Int) (a b : Int) (no : Bool) (n : Int) : Env :=
  [(1, .t (.sl n1 1 (tLs l))), (2, .ints n2 s), (3, .ptr (.cur 24) 0), (9, .int a), (10, .int b), (11, .bool no), (23, .t (.sl n1 1 (tLs l))), (24, .int (tLs l).length), (25, .int n)]
theorem envB_snoc {n1 : Bool} {l : List (Bool × List Int)} {n2 : Bool} {s : List Int} {no : Bool} (C : List Int) (c : Int) :
    envB n1 l n2 s (C.sum + c) (if c > maxL C then c else maxL C) no ((C.length : Int) + 1) = envB n1 l n2 s (C ++ [c]).sum (maxL (C ++ [c])) no ((C ++ [c]).length : Nat) := by
  rw [sum_snoc, maxL_snoc, List.length_append, List.length_singleton, show (if c > maxL C then c else maxL C) = max (maxL C) c by rw [Int.max_def]; split <;> split <;> omega]; rfl
def kq23 : Kp := [(6, ([1, 2, 3, 9, 10, 11, 23, 24, 25], [24]))]
theorem f23_spec (t : Task) (n1 n2 : Bool) (l : List (Bool × List Int)) (s : List Int) (hl : l.length ≤ 1000000000) (out : List Fr) : SpecP Try.prog 23 [.task t, .t (.sl n1 1 (tLs l)), .ints n2 s] out fun r ro => BestR t s l r ∧ ro = [] := by
  refine spec_body cx_ok kq23 [] (fn := Try.f23) (by kernel_rfl) rfl (by kernel_rfl) rfl (by unfold FnOK; kernel_rfl) fun hok => ?_
  refine SpecP.mono (f32_spec t n2 n1 s l _) ?_
  rintro _ _ ⟨rfl, rfl⟩
  refine And.intro (fun h1 => ?_) fun h1 => ?_
  · have h1 : givenI t s l ≠ 0 := by simpa using h1
    exact Exists.intro [] ⟨.bad h1, rfl⟩
  have h1 : givenI t s l = 0 := by simpa using h1
  obtain ⟨h2, h3, h4⟩ := given_ok h1
  have TK := task_ok h2
  refine LoopW.mk (List Int × Bool) (fun u => Bst t s l u.1 u.2) (fun u => envB n1 l n2 s u.1.sum (maxL u.1) u.2 u.1.length)
    (fun _ => ⟨out, [(24, .box (cellsTask t))]⟩) (fun u => l.length - u.1.length) ([], false) ⟨Nat.zero_le _, fun h => Bool.noConfusion h, fun _ i c p h => by simp at h, by simp, by simp⟩ ⟨rfl, rfl⟩ ?_
  rintro ⟨C, no⟩ B
  have B : Bst t s l C no := B
  have B0 := B.sum0
  have B1 := B.sum1
  have B2 := B.le
  refine And.intro (fun h5 => ?_) fun h5 => ?_
  · have hi : C.length < l.length := by have h5 : (C.length : Int) < _ := of_decide_eq_true h5; rw [tLs_len] at h5; omega
    obtain ⟨h6, h7⟩ := h4 _ (List.getElem_mem hi)
    refine And.intro (Int.natCast_nonneg _) (Exists.intro _ (And.intro (tLs_get hi) ?_))
    refine SpecP.mono (f34_spec t l[C.length].1 l[C.length].2 h2 h6 []) ?_
    rintro _ _ ⟨rfl, rfl⟩
    refine SpecP.mono (f36_spec l[C.length].1 l[C.length].2 (rising_nodup h6) []) ?_
    rintro _ _ ⟨rfl, rfl⟩
    refine SpecP.mono (f35_spec n2 l[C.length].2 s _ (pl 280 48) rfl (rising_len h3 (by have := TK.facts; omega)) _) ?_
    rintro _ _ ⟨rfl, rfl⟩
    have hpl : (projT t l[C.length].2).facts.length = l[C.length].2.length := List.length_map ..
    refine SpecP.mono (f33_spec (projT t l[C.length].2) (factsL l[C.length].2 s) (projT_ok TK h6) (by rw [hpl]; exact facts_rising (rising_inc h6) h3) []) ?_
    rintro r _ ⟨hr, rfl⟩
    obtain ⟨a, e, rfl⟩ := optR_pair hr
    generalize hre : LV.tup [.int a, .int e] = r at hr
    have hr0 := hr
    cases hr with
    | space S hn hq hlS =>
      cases hre
      refine And.intro (fun _ => ?_) fun h => Bool.noConfusion h
      exact Exists.intro [] ⟨.space h1 _ (List.getElem_mem hi) hr0, rfl⟩
    | none S hW hlS hg =>
      cases hre
      refine And.intro (fun h => Bool.noConfusion h) fun _ => ?_
      have B' := B.none hi hr0
      cases no with
      | true =>
        refine (And.intro (by show -9223372036854775808 ≤ C.sum + 0; omega) (And.intro (by show C.sum + 0 ≤ 9223372036854775807; omega) (And.intro (by show -9223372036854775808 ≤ (C.length : Int) + 1; omega) (And.intro (by show (C.length : Int) + 1 ≤ 9223372036854775807; omega) ?_))))
        exact Exists.intro (C ++ [0], true) (And.intro (by show l.length - (C ++ [0]).length < l.length - C.length; rw [List.length_append, List.length_singleton]; omega) (And.intro B' (And.intro (envB_snoc C 0) rfl)))
      | false =>
        refine And.intro (fun _ => ?_) fun h => Bool.noConfusion h
        refine (And.intro (by show -9223372036854775808 ≤ C.sum + 0; omega) (And.intro (by show C.sum + 0 ≤ 9223372036854775807; omega) (And.intro (by show -9223372036854775808 ≤ (C.length : Int) + 1; omega) (And.intro (by show (C.length : Int) + 1 ≤ 9223372036854775807; omega) ?_))))
        exact Exists.intro (C ++ [0], true) (And.intro (by show l.length - (C ++ [0]).length < l.length - C.length; rw [List.length_append, List.length_singleton]; omega) (And.intro B' (And.intro (envB_snoc C 0) rfl)))
    | ok S hW hlS c h0 hb hc =>
      cases hre
      refine And.intro (fun h => Bool.noConfusion h) fun _ => ?_
      have B' := B.snoc hi hr0
      cases no with
      | true =>
        refine (And.intro (by show -9223372036854775808 ≤ C.sum + a; omega) (And.intro (by show C.sum + a ≤ 9223372036854775807; omega) (And.intro (by show -9223372036854775808 ≤ (C.length : Int) + 1; omega) (And.intro (by show (C.length : Int) + 1 ≤ 9223372036854775807; omega) ?_))))
        exact Exists.intro (C ++ [a], true) (And.intro (by show l.length - (C ++ [a]).length < l.length - C.length; rw [List.length_append, List.length_singleton]; omega) (And.intro B' (And.intro (envB_snoc C a) rfl)))
      | false =>
        refine And.intro (fun h => Bool.noConfusion h) fun _ => ?_
        refine (And.intro (by show -9223372036854775808 ≤ C.sum + a; omega) (And.intro (by show C.sum + a ≤ 9223372036854775807; omega) (And.intro (by show -9223372036854775808 ≤ (C.length : Int) + 1; omega) (And.intro (by show (C.length : Int) + 1 ≤ 9223372036854775807; omega) ?_))))
        exact Exists.intro (C ++ [a], false) (And.intro (by show l.length - (C ++ [a]).length < l.length - C.length; rw [List.length_append, List.length_singleton]; omega) (And.intro B' (And.intro (envB_snoc C a) rfl)))
  · have hi : C.length = l.length := by have h5 : ¬ (C.length : Int) < _ := of_decide_eq_false h5; rw [tLs_len] at h5; omega
    cases no with
    | true =>
      obtain ⟨p, hp, hr⟩ := B.nones rfl
      exact Exists.intro [] ⟨.none h1 p hp hr, rfl⟩
    | false =>
      refine SpecP.mono (f48_spec t n1 l TK (fun p hp => (h4 p hp).1) hl _) ?_
      rintro _ _ ⟨rfl, rfl⟩
      have hb : BestR t s l (.tup [.int (if addB t l then C.sum else maxL C), .int 0]) := .ok h1 C hi (B.yes rfl)
      refine And.intro (fun h7 => ?_) fun h7 => ?_
      · rw [if_pos h7] at hb
        exact Exists.intro [] ⟨hb, rfl⟩
      · rw [if_neg (by rw [h7]; exact Bool.noConfusion)] at hb
        exact Exists.intro [] ⟨hb, rfl⟩

end Go.Fw

/- What the program's functions do: the smallest closed pattern. -/
namespace Go.Fw
open Go Go.Proofs
set_option maxRecDepth 10000

/-- What a closed pattern with these facts has to contain. -/
inductive InCl (t : Task) (p : List Int) : Int → Prop
  | base {x : Int} (h : hasB p x = true) : InCl t p x
  | step {a : Actn} {e : Eff} {l : Lit} (ha : a ∈ t.acts) (he : e ∈ a.effs) (hl : l ∈ e.when_) (h : InCl t p e.lit.fact) : InCl t p l.fact
theorem InCl.range {t : Task} {p : List Int} (TK : TaskOK t) (hp : risingB p t.facts.length = true) {x : Int} (h : InCl t p x) : 0 ≤ x ∧ x < (t.facts.length : Int) := by
  cases h with
  | base h => exact rising_in hp x (hasB_mem.1 h)
  | step ha he hl _ => exact TK.whn _ ha _ he _ hl
/-- The smallest closed pattern. -/
def ClsOf (t : Task) (p c : List Int) : Prop := c.Pairwise (· < ·) ∧ ∀ x, x ∈ c ↔ InCl t p x
theorem ClsOf.uniq {t : Task} {p a b : List Int} (ha : ClsOf t p a) (hb : ClsOf t p b) : a = b := inc_ext ha.1 hb.1 fun x => (ha.2 x).trans (hb.2 x).symm

/-- Facts that are in the smallest closed pattern, those of the pattern among them. -/
structure ClM (t : Task) (p M : List Int) : Prop where
  base : ∀ x, hasB p x = true → hasB M x = true
  inn : ∀ x, hasB M x = true → InCl t p x
  nod : M.Nodup
def insL (M : List Int) (x : Int) : List Int := if hasB M x = true then M else M ++ [x]
theorem upd_insL (x : Int) (l : List Int) : updKV (.int .i64 x) (.v (.bool true)) (kvI l) = kvI (insL l x) := by
  unfold insL
  induction l with
  | nil => rfl
  | cons z r ih =>
    by_cases h : x = z
    · subst h
      simp only [kvI, List.map_cons, updKV]
      rw [if_pos (show sameK (.int .i64 x) (.int .i64 x) = true by simp [sameK]), if_pos (by simp [hasB])]
      rfl
    · simp only [kvI, List.map_cons, updKV] at ih ⊢
      rw [if_neg (show ¬ sameK (.int .i64 x) (.int .i64 z) = true by simpa [sameK] using h), ih]
      have h2 : (z == x) = false := by simpa using fun hh => h hh.symm
      have e : hasB (z :: r) x = hasB r x := by simp only [hasB, List.any_cons, h2, Bool.false_or]
      rw [e]
      split <;> rfl
theorem ClM.ins {t : Task} {p M : List Int} (h : ClM t p M) {x : Int} (hx : InCl t p x) : ClM t p (insL M x) := by
  unfold insL
  split
  · exact h
  rename_i hn
  refine ⟨fun y hy => by rw [hasB_snoc, h.base y hy]; rfl, fun y hy => ?_, List.nodup_append.2 ⟨h.nod, by simp, fun a ha b hb hab => ?_⟩⟩
  · rw [hasB_snoc, Bool.or_eq_true, beq_iff_eq] at hy
    rcases hy with hy | rfl
    · exact h.inn y hy
    · exact hx
  · simp at hb; subst hb; subst hab
    exact hn (hasB_mem.2 ha)
theorem ClM.len {t : Task} {p M : List Int} (TK : TaskOK t) (hp : risingB p t.facts.length = true) (h : ClM t p M) : M.length ≤ t.facts.length := by
  have := Dij.nodup_sub (S' := (List.range t.facts.length).map Int.ofNat) h.nod fun x hx => by
    have := (h.inn x (hasB_mem.2 hx)).range TK hp
    exact List.mem_map.2 ⟨x.toNat, List.mem_range.2 (by omega), Int.toNat_of_nonneg this.1⟩
  simpa using this
/-- A pass over the actions: if nothing has been added, this holds. -/
structure Pas (t : Task) (p : List Int) (k : Nat) (M : List Int) (R : Prop) : Prop where
  cl : ClM t p M
  le : k ≤ M.length
  same : M.length = k → R
theorem Pas.mono {t : Task} {p M : List Int} {k : Nat} {R R' : Prop} (h : Pas t p k M R) (hr : R → R') : Pas t p k M R' := ⟨h.cl, h.le, fun he => hr (h.same he)⟩
theorem Pas.ins {t : Task} {p M : List Int} {k : Nat} {R R' : Prop} (h : Pas t p k M R) {x : Int} (hx : InCl t p x) (hr : hasB M x = true → R → R') : Pas t p k (insL M x) R' := by
  refine ⟨h.cl.ins hx, ?_, fun he => ?_⟩
  · have := h.le
    unfold insL; split <;> simp <;> omega
  · unfold insL at he
    split at he
    · rename_i hx; exact hr hx (h.same he)
    · have := h.le
      simp at he; omega
/-- Is nothing asked of other facts by the first effects? -/
def clTo (M : List Int) (l : List Eff) (n : Nat) : Prop := ∀ j (hj : j < l.length), j < n → clE M l[j] = true
theorem clE_iff {M : List Int} {e : Eff} : clE M e = true ↔ (hasB M e.lit.fact = true → ∀ l ∈ e.when_, hasB M l.fact = true) := by
  unfold clE
  cases h : hasB M e.lit.fact
  · simp
  · simp
/-- A closed list with all that is needed is the smallest one. -/
theorem ClM.whole {t : Task} {p M : List Int} (h : ClM t p M) (hc : closedB t M = true) : ∀ x, hasB M x = true ↔ InCl t p x := fun x => by
  refine ⟨h.inn x, fun hx => ?_⟩
  induction hx with
  | base hb => exact h.base _ hb
  | step ha he hl _ ih =>
    have := List.all_eq_true.1 (List.all_eq_true.1 hc _ ha) _ he
    exact clE_iff.1 this ih _ hl
def pickL (M : List Int) (n : Nat) : List Int := ((List.range n).filter fun f : Nat => hasB M (f : Int)).map Int.ofNat
theorem pickL_step (M : List Int) (n : Nat) : pickL M (n + 1) = pickL M n ++ if hasB M (n : Int) = true then [(n : Int)] else [] := by
  rw [pickL, List.range_succ, List.filter_append, List.map_append]
  cases h : hasB M (n : Int) <;> simp [h, pickL]
theorem pickL_len (M : List Int) (n : Nat) : (pickL M n).length ≤ n := by
  rw [pickL, List.length_map]; exact Nat.le_trans (List.length_filter_le ..) (by simp)
theorem pickL_cls {t : Task} {p M : List Int} (TK : TaskOK t) (hp : risingB p t.facts.length = true) (h : ∀ x, hasB M x = true ↔ InCl t p x) : ClsOf t p (pickL M t.facts.length) := by
  refine ⟨?_, fun x => ?_⟩
  · rw [pickL, List.pairwise_map]
    exact (List.pairwise_lt_range.filter _).imp fun h => Int.ofNat_lt.2 h
  · rw [← h x, pickL, List.mem_map]
    constructor
    · rintro ⟨f, hf, rfl⟩
      exact (List.mem_filter.1 hf).2
    · intro hx
      have hr := ((h x).1 hx).range TK hp
      exact ⟨x.toNat, List.mem_filter.2 ⟨List.mem_range.2 (by omega), by rw [Int.toNat_of_nonneg hr.1]; exact hx⟩, Int.toNat_of_nonneg hr.1⟩

theorem insL_pos {M : List Int} {x : Int} (h : hasB M x = true) : insL M x = M := if_pos h
abbrev mkJ : Nat := 201000651
/-- The result as it is gathered. -/
abbrev clsO (t : Task) (n1 : Bool) (p : List Int) (r : LV) (ro : Fr) : Prop :=
  (asksI t false [(n1, p)] ≠ 0 ∧ r = .tup [nilV, .int (asksI t false [(n1, p)])] ∧ ro = []) ∨ (asksI t false [(n1, p)] = 0 ∧ ∃ c, ClsOf t p c ∧ r = .tup [accV 608 1 (c.map tI), .int 0] ∧ ro = accO 608 3 1 (c.map tI))
def kq25 : Kp := [(6, ([2, 7, 8], [16, mkJ])), (9, ([2, 7, 8, 33, 34, 35], [16, mkJ])), (12, ([2, 7, 8, 33, 34, 35, 40, 41, 42], [16, mkJ])), (15, ([2, 7, 8, 12, 33, 34, 35, 40, 41, 42, 47, 48, 49], [16, mkJ, 96])), (24, ([7, 15, 66, 67], [mkJ, 608]))]
theorem f25o_spec (t : Task) (n1 : Bool) (p : List Int) (out : List Fr) : SpecP Try.prog 25 [.task t, .ints n1 p] out (clsO t n1 p) := by
  refine spec_body cx_ok kq25 [] (fn := Try.f25) (by kernel_rfl) rfl (by kernel_rfl) rfl (by unfold FnOK; kernel_rfl) fun hok => ?_
  refine Exists.intro (tLs [(n1, p)]) (And.intro rfl (And.intro (Nat.le_of_ble_eq_true rfl) ?_))
  refine SpecP.mono (f37_spec t false false [(n1, p)] _) ?_
  rintro _ _ ⟨rfl, rfl⟩
  refine And.intro trivial (And.intro trivial ?_)
  refine And.intro (fun h1 => ?_) fun h1 => ?_
  · have h1 : asksI t false [(n1, p)] ≠ 0 := by simpa using h1
    exact Exists.intro [] (.inl ⟨h1, rfl, rfl⟩)
  have h1 : asksI t false [(n1, p)] = 0 := by simpa using h1
  obtain ⟨h2, h3⟩ := asks_ok h1
  have h3 : risingB p t.facts.length = true := by have := h3 _ (List.mem_singleton.2 rfl); simpa [fineB] using this
  have TK := task_ok h2
  have hN := TK.facts
  have hA := TK.acts
  refine SpecP.mono (f50_spec n1 p []) ?_
  rintro _ _ ⟨M0, hM, hMn, rfl, rfl⟩
  refine LoopW.mk (List Int × Int) (fun u => ClM t p u.1 ∧ -1 ≤ u.2 ∧ u.2 ≤ u.1.length ∧ (u.2 = u.1.length → closedB t u.1 = true)) (fun u => [(2, .ptr (.cur 16) 0), (7, .mpr (.cur mkJ)), (8, .int u.2)])
    (fun u => ⟨out, [(16, .box (cellsTask t)), (mkJ, .mp (.int .i64) (kvI u.1))]⟩) (fun u => 2 * (t.facts.length - u.1.length) + if u.2 = u.1.length then 0 else 1) (M0, -1)
    ⟨⟨fun x hx => by rw [hM]; exact hx, fun x hx => .base (by rw [← hM]; exact hx), hMn⟩, Int.le_refl _, by show (-1 : Int) ≤ M0.length; omega, fun h => by have h : (-1 : Int) = M0.length := h; omega⟩ ⟨rfl, rfl⟩ ?_
  rintro ⟨M, k⟩ ⟨C, hk0, hk1, hk2⟩
  simp only at C hk0 hk1 hk2
  have hMl := C.len TK h3
  refine And.intro (fun h4 => ?_) fun h4 => ?_
  · have hkM : k ≠ M.length := by have h4 : (k != ((kvI M).length : Nat)) = true := h4; rw [kvI_len] at h4; simpa using h4
    refine LoopW.mk (Nat × List Int) (fun u => u.1 ≤ t.acts.length ∧ Pas t p M.length u.2 (∀ j (hj : j < t.acts.length), j < u.1 → clTo u.2 t.acts[j].effs t.acts[j].effs.length)) (fun u => [(2, .ptr (.cur 16) 0), (7, .mpr (.cur mkJ)), (8, .int (kvI M).length), (33, .t (.sl t.an 4 (t.acts.map tAct))), (34, .int (t.acts.map tAct).length), (35, .int u.1)])
      (fun u => ⟨out, [(16, .box (cellsTask t)), (mkJ, .mp (.int .i64) (kvI u.2))]⟩) (fun u => t.acts.length - u.1) (0, M) ⟨Nat.zero_le _, C, Nat.le_refl _, fun _ j _ h => by cases h⟩ ⟨rfl, rfl⟩ ?_
    rintro ⟨i, M1⟩ ⟨hi0, P1⟩
    have hi0 : i ≤ t.acts.length := hi0
    have P1 : Pas t p M.length M1 (∀ j (hj : j < t.acts.length), j < i → clTo M1 t.acts[j].effs t.acts[j].effs.length) := P1
    refine And.intro (fun h5 => ?_) fun h5 => ?_
    rotate_left
    · have hi : i = t.acts.length := by have := ge_of_dec h5; have : i ≤ t.acts.length := hi0; omega
      have hl1 := P1.cl.len TK h3
      have hle := P1.le
      refine Exists.intro (M1, (M.length : Int)) (And.intro ?_ (And.intro ⟨P1.cl, by show (-1 : Int) ≤ (M.length : Nat); omega, by show ((M.length : Nat) : Int) ≤ M1.length; omega, fun he => ?_⟩ (And.intro ?_ rfl)))
      · show 2 * (t.facts.length - M1.length) + (if ((M.length : Nat) : Int) = M1.length then 0 else 1) < 2 * (t.facts.length - M.length) + (if k = M.length then 0 else 1)
        rw [if_neg hkM]
        split <;> omega
      · have he : ((M.length : Nat) : Int) = M1.length := he
        refine List.all_eq_true.2 fun a ha => List.all_eq_true.2 fun e he2 => ?_
        obtain ⟨j, hj, rfl⟩ := List.getElem_of_mem ha
        obtain ⟨q, hq, rfl⟩ := List.getElem_of_mem he2
        exact P1.same (by omega) j hj (by omega) q hq hq
      · show [(2, LV.ptr (.cur 16) 0), (7, .mpr (.cur mkJ)), (8, .int (kvI M).length)] = _
        rw [kvI_len]
    have hi := lt_of_dec h5
    have hai : t.acts[i] ∈ t.acts := List.getElem_mem hi
    have hel := TK.effs _ hai
    refine And.intro (by omega) (Exists.intro _ (And.intro (get_map hi) ?_))
    refine LoopW.mk (Nat × List Int) (fun u => u.1 ≤ t.acts[i].effs.length ∧ Pas t p M.length u.2 ((∀ j (hj : j < t.acts.length), j < i → clTo u.2 t.acts[j].effs t.acts[j].effs.length) ∧ clTo u.2 t.acts[i].effs u.1)) (fun u => [(2, .ptr (.cur 16) 0), (7, .mpr (.cur mkJ)), (8, .int (kvI M).length), (33, .t (.sl t.an 4 (t.acts.map tAct))), (34, .int (t.acts.map tAct).length), (35, .int i),
        (40, .t (.sl t.acts[i].en 3 (t.acts[i].effs.map tEff))), (41, .int (t.acts[i].effs.map tEff).length), (42, .int u.1)])
      (fun u => ⟨out, [(16, .box (cellsTask t)), (mkJ, .mp (.int .i64) (kvI u.2))]⟩) (fun u => t.acts[i].effs.length - u.1) (0, M1) ⟨Nat.zero_le _, P1.mono fun h => ⟨h, fun j _ h => by cases h⟩⟩ ⟨rfl, rfl⟩ ?_
    rintro ⟨q, M2⟩ ⟨hq0, P2⟩
    have hq0 : q ≤ t.acts[i].effs.length := hq0
    have P2 : Pas t p M.length M2 ((∀ j (hj : j < t.acts.length), j < i → clTo M2 t.acts[j].effs t.acts[j].effs.length) ∧ clTo M2 t.acts[i].effs q) := P2
    refine And.intro (fun h6 => ?_) fun h6 => ?_
    rotate_left
    · have hq : q = t.acts[i].effs.length := by have := ge_of_dec h6; have : q ≤ t.acts[i].effs.length := hq0; omega
      refine And.intro (by omega) (And.intro (by omega) ?_)
      refine Exists.intro (i + 1, M2) (And.intro (by show t.acts.length - (i + 1) < t.acts.length - i; omega) (And.intro ⟨hi, P2.mono fun h j hj hji => ?_⟩ (And.intro rfl rfl)))
      rcases Nat.lt_or_ge j i with hlt | hge
      · exact h.1 j hj hlt
      · have : j = i := by have : j < i + 1 := hji; omega
        subst this
        rw [← hq]; exact h.2
    have hq := lt_of_dec h6
    have hqe : t.acts[i].effs[q] ∈ t.acts[i].effs := List.getElem_mem hq
    have hwl := (task_l h2).whn _ hai _ hqe
    refine And.intro (by omega) (Exists.intro _ (And.intro (get_map hq) ?_))
    refine LoopW.mk (Nat × List Int) (fun u => u.1 ≤ t.acts[i].effs[q].when_.length ∧ Pas t p M.length u.2 (((∀ j (hj : j < t.acts.length), j < i → clTo u.2 t.acts[j].effs t.acts[j].effs.length) ∧ clTo u.2 t.acts[i].effs q) ∧ (hasB u.2 t.acts[i].effs[q].lit.fact = true → ∀ v (hv : v < t.acts[i].effs[q].when_.length), v < u.1 → hasB u.2 t.acts[i].effs[q].when_[v].fact = true))) (fun u => [(2, .ptr (.cur 16) 0), (7, .mpr (.cur mkJ)), (8, .int (kvI M).length), (12, .ptr (.cur 96) 0), (33, .t (.sl t.an 4 (t.acts.map tAct))), (34, .int (t.acts.map tAct).length), (35, .int i),
        (40, .t (.sl t.acts[i].en 3 (t.acts[i].effs.map tEff))), (41, .int (t.acts[i].effs.map tEff).length), (42, .int q),
        (47, .t (.sl t.acts[i].effs[q].nil 2 (t.acts[i].effs[q].when_.map tLit))), (48, .int (t.acts[i].effs[q].when_.map tLit).length), (49, .int u.1)])
      (fun u => ⟨out, [(16, .box (cellsTask t)), (mkJ, .mp (.int .i64) (kvI u.2)), (96, .box (cellsEff t.acts[i].effs[q]))]⟩) (fun u => t.acts[i].effs[q].when_.length - u.1) (0, M2) ⟨Nat.zero_le _, P2.mono fun h => ⟨h, fun _ v _ h => by cases h⟩⟩ ⟨rfl, rfl⟩ ?_
    rintro ⟨w, M3⟩ ⟨hw0, P3⟩
    have hw0 : w ≤ t.acts[i].effs[q].when_.length := hw0
    have P3 : Pas t p M.length M3 (((∀ j (hj : j < t.acts.length), j < i → clTo M3 t.acts[j].effs t.acts[j].effs.length) ∧ clTo M3 t.acts[i].effs q) ∧ (hasB M3 t.acts[i].effs[q].lit.fact = true → ∀ v (hv : v < t.acts[i].effs[q].when_.length), v < w → hasB M3 t.acts[i].effs[q].when_[v].fact = true)) := P3
    refine And.intro (fun h7 => ?_) fun h7 => ?_
    rotate_left
    · have hw : w = t.acts[i].effs[q].when_.length := by have := ge_of_dec h7; have : w ≤ t.acts[i].effs[q].when_.length := hw0; omega
      refine And.intro (by omega) (And.intro (by omega) ?_)
      refine Exists.intro (q + 1, M3) (And.intro (by show t.acts[i].effs.length - (q + 1) < t.acts[i].effs.length - q; omega) (And.intro ⟨hq, P3.mono fun h => ⟨h.1.1, fun j hj hjq => ?_⟩⟩ (And.intro rfl rfl)))
      rcases Nat.lt_or_ge j q with hlt | hge
      · exact h.1.2 j hj hlt
      · have : j = q := by have : j < q + 1 := hjq; omega
        subst this
        refine clE_iff.2 fun hb l hl => ?_
        obtain ⟨v, hv, rfl⟩ := List.getElem_of_mem hl
        exact h.2 hb v hv (by omega)
    have hw := lt_of_dec h7
    refine And.intro (by omega) (Exists.intro _ (And.intro (get_map hw) ?_))
    refine Exists.intro _ (And.intro (look_kvI _ _) ?_)
    refine And.intro (fun h8 => ?_) fun h8 => ?_
    · have hin : InCl t p t.acts[i].effs[q].when_[w].fact := .step hai hqe (List.getElem_mem hw) (P3.cl.inn _ h8)
      refine And.intro (by omega) (And.intro (by omega) ?_)
      refine Exists.intro (w + 1, insL M3 t.acts[i].effs[q].when_[w].fact) (And.intro (by show t.acts[i].effs[q].when_.length - (w + 1) < t.acts[i].effs[q].when_.length - w; omega) (And.intro ⟨hw, P3.ins hin fun hb h => ?_⟩ (And.intro rfl ?_)))
      · rw [insL_pos hb]
        refine ⟨h.1, fun he v hv hvw => ?_⟩
        rcases Nat.lt_or_ge v w with hlt | hge
        · exact h.2 he v hv hlt
        · have : v = w := by have : v < w + 1 := hvw; omega
          subst this; exact hb
      · show (⟨out, [(16, .box (cellsTask t)), (mkJ, .mp (.int .i64) (updKV (.int .i64 t.acts[i].effs[q].when_[w].fact) (.v (.bool true)) (kvI M3))), (96, .box (cellsEff t.acts[i].effs[q]))]⟩ : St) = _
        rw [upd_insL]
    · refine And.intro (by omega) (And.intro (by omega) ?_)
      refine Exists.intro (w + 1, M3) (And.intro (by show t.acts[i].effs[q].when_.length - (w + 1) < t.acts[i].effs[q].when_.length - w; omega) (And.intro ⟨hw, P3.mono fun h => ⟨h.1, fun he => ?_⟩⟩ (And.intro rfl rfl)))
      have h8 : hasB M3 t.acts[i].effs[q].lit.fact = false := h8
      have he : hasB M3 t.acts[i].effs[q].lit.fact = true := he
      rw [h8] at he; cases he
  · have hkM : k = M.length := by have h4 : (k != ((kvI M).length : Nat)) = false := h4; rw [kvI_len] at h4; simpa using h4
    have hc := pickL_cls TK h3 (C.whole (hk2 hkM))
    refine LoopW.mk (Nat × List Int) (fun u => u.1 ≤ t.facts.length ∧ u.2 = pickL M u.1) (fun u => [(7, .mpr (.cur mkJ)), (15, accV 608 1 (u.2.map tI)), (66, .int (t.facts.map tS).length), (67, .int u.1)])
      (fun u => ⟨out, (mkJ, .mp (.int .i64) (kvI M)) :: accO 608 3 1 (u.2.map tI)⟩) (fun u => t.facts.length - u.1) (0, []) ⟨Nat.zero_le _, rfl⟩ ⟨rfl, rfl⟩ ?_
    rintro ⟨i, L⟩ ⟨hi0, hL⟩
    simp only at hi0 hL
    have hLl : L.length ≤ 1000000000 := by rw [hL]; have := pickL_len M i; omega
    cases L
    case' nil => let O : List Int := []
    case' cons y r => let O : List Int := y :: r
    all_goals
      refine And.intro (fun h5 => ?_) fun h5 => ?_
      rotate_left
      · have hi : i = t.facts.length := by have := ge_of_dec h5; have : i ≤ t.facts.length := hi0; omega
        have hL' : O = pickL M t.facts.length := by rw [← hi]; exact hL
        rw [← hL'] at hc
        exact Exists.intro [608] (.inr ⟨h1, O, hc, rfl, rfl⟩)
      have hi := lt_of_dec h5
      have stp := pickL_step M i
      rw [← hL] at stp
      refine Exists.intro _ (And.intro (look_kvI _ _) ?_)
      refine And.intro (fun h6 => ?_) fun h6 => ?_
      · rw [if_pos h6] at stp
        have hl4 : ∀ X : List T, ((O.map tI) ++ [X]).length ≤ 1000000001 := fun X => by
          have : O.length ≤ 1000000000 := hLl
          rw [List.length_append, List.length_map, List.length_singleton]; omega
        repeat first
          | refine And.intro (Nat.le_of_ble_eq_true rfl) ?_
          | refine And.intro rfl ?_
          | refine And.intro (Nat.le_trans (Nat.mul_le_mul_right _ (hl4 _)) (Nat.le_of_ble_eq_true rfl)) ?_
          | refine And.intro (Nat.le_trans (hl4 _) (Nat.le_of_ble_eq_true rfl)) ?_
        refine And.intro (by show (-9223372036854775808 : Int) ≤ (i : Int) + 1; omega) (And.intro (by show (i : Int) + 1 ≤ 9223372036854775807; omega) ?_)
        first
          | exact Exists.intro (i + 1, [(i : Int)]) (And.intro (by show t.facts.length - (i + 1) < t.facts.length - i; omega) (And.intro ⟨hi, stp.symm⟩ (And.intro rfl rfl)))
          | (refine Exists.intro (i + 1, y :: (r ++ [(i : Int)])) (And.intro (by show t.facts.length - (i + 1) < t.facts.length - i; omega) (And.intro ⟨hi, stp.symm⟩ ?_))
             have e : (r ++ [(i : Int)]).map tI = r.map tI ++ [tI (i : Int)] := by simp
             simp only [List.map_cons, e]
             exact And.intro rfl rfl)
      · rw [if_neg (by simp [h6]), List.append_nil] at stp
        refine And.intro (by show (-9223372036854775808 : Int) ≤ (i : Int) + 1; omega) (And.intro (by show (i : Int) + 1 ≤ 9223372036854775807; omega) ?_)
        exact Exists.intro (i + 1, O) (And.intro (by show t.facts.length - (i + 1) < t.facts.length - i; omega) (And.intro ⟨hi, stp.symm⟩ (And.intro rfl rfl)))

/-- The smallest closed pattern, or the error. -/
abbrev ClsR (t : Task) (n1 : Bool) (p : List Int) (r : LV) : Prop :=
  (asksI t false [(n1, p)] ≠ 0 ∧ r = .tup [nilV, .int (asksI t false [(n1, p)])]) ∨ (asksI t false [(n1, p)] = 0 ∧ ∃ c, ClsOf t p c ∧ r = .tup [.ints c.isEmpty c, .int 0])
theorem f25_spec (t : Task) (n1 : Bool) (p : List Int) (out : List Fr) : SpecP Try.prog 25 [.task t, .ints n1 p] out fun r ro => ClsR t n1 p r ∧ ro = [] :=
  (f25o_spec t n1 p out).close fun r ro h => by
    rcases h with ⟨h1, rfl, rfl⟩ | ⟨h1, c, hc, rfl, rfl⟩
    · exact ⟨_, .pair _ _ _ _ (.same _) (.same _), .inl ⟨h1, rfl⟩, rfl⟩
    · refine ⟨_, .pair _ _ _ _ (acc_cls (e := 3) fun x r h => by rw [h]; exact look_cons .. |>.trans (if_pos rfl)) (.same _), .inr ⟨h1, c, hc, ?_⟩, rfl⟩
      rw [show (c.map tI).isEmpty = c.isEmpty by cases c <;> rfl]; rfl

end Go.Fw

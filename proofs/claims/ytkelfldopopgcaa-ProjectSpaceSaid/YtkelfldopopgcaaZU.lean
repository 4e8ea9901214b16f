/- Costs that add up. -/
import Derived.Test.YtkelfldopopgcaaZT

/- What the reference's functions do: digits. -/
namespace Go.Fw
open Go Go.Proofs
set_option maxRecDepth 10000

/-- The digits of a number, gathered from behind. -/
def runD : Nat → Int → ByteArray → ByteArray
  | 0, _, s => s
  | k + 1, x, s => if x.tdiv 10 = 0 then strOfNums [48 + x.tmod 10] ++ s else runD k (x.tdiv 10) (strOfNums [48 + x.tmod 10] ++ s)
theorem someW_mk {o : Option LV} {x : LV} {K' : LV → Prop} (h : o = some x) (hk : K' x) : someW o K' := by rw [h]; exact hk
def kq8 : Kp := [(2, ([0, 3], []))]
theorem f8_spec (x : Int) (h0 : 0 ≤ x) (h1 : x ≤ 99) (out : List Fr) : SpecP Try.prog 8 [.int x] out fun r ro => r = .t (.v (.string (runD 3 x ⟨#[]⟩))) ∧ ro = [] := by
  refine spec_body cx_ok kq8 [] (fn := Try.f8) (by kernel_rfl) rfl (by kernel_rfl) rfl (by unfold FnOK; kernel_rfl) fun hok => ?_
  refine LoopW.mk (Nat × Int × ByteArray) (fun u => 0 ≤ u.2.1 ∧ u.2.1 < 10 ^ u.1 ∧ 1 ≤ u.1 ∧ u.2.2.size + u.1 ≤ 3 ∧ runD u.1 u.2.1 u.2.2 = runD 3 x ⟨#[]⟩) (fun u => [(0, .int u.2.1), (3, .t (.v (.string u.2.2)))]) (fun _ => ⟨out, []⟩) (fun u => u.1) (3, x, ⟨#[]⟩)
    ⟨h0, by show x < 10 ^ 3; omega, show 1 ≤ 3 by decide, Nat.le_refl _, rfl⟩ ⟨rfl, rfl⟩ ?_
  rintro ⟨k, y, s⟩ ⟨hy0, hy1, hk, hs, hr⟩
  have hy0 : 0 ≤ y := hy0
  have hs : s.size + k ≤ 3 := hs
  have hk : 1 ≤ k := hk
  have hr : runD k y s = runD 3 x ⟨#[]⟩ := hr
  have hm : y.tmod 10 = y % 10 := Int.tmod_eq_emod_of_nonneg hy0
  have hd : y.tdiv 10 = y / 10 := Int.tdiv_eq_ediv_of_nonneg hy0
  refine And.intro (by decide) (And.intro (by show -9223372036854775808 ≤ 48 + y.tmod 10; omega) (And.intro (by show 48 + y.tmod 10 ≤ 9223372036854775807; omega) (And.intro (by show 0 ≤ 48 + y.tmod 10; omega) (And.intro (by show 48 + y.tmod 10 ≤ 255; omega) ?_))))
  refine And.intro (Nat.le_of_ble_eq_true rfl) (Exists.intro [48 + y.tmod 10] (And.intro rfl ?_))
  have hone : (strOfNums [48 + y.tmod 10]).size = 1 := rfl
  have hcat : ∀ t, binL cx .add t (.t (.v (.string (strOfNums [48 + y.tmod 10])))) (.t (.v (.string s))) = some (.t (.v (.string (strOfNums [48 + y.tmod 10] ++ s)))) := fun t => by
    have h : (((strOfNums [48 + y.tmod 10]).size + s.size : Nat) : Int) ≤ 9223372036854775807 := by omega
    simp only [binL, binV]
    rw [if_pos h]
  refine someW_mk (hcat _) ?_
  obtain ⟨k, rfl⟩ : ∃ m, k = m + 1 := ⟨k - 1, by omega⟩
  have hy1 : y < 10 ^ (k + 1) := hy1
  have hy2 : y < 1000 := by
    have hk2 : k = 0 ∨ k = 1 ∨ k = 2 := by omega
    rcases hk2 with rfl | rfl | rfl
    · have : y < 10 := by simpa using hy1
      omega
    · have : y < 100 := by simpa using hy1
      omega
    · simpa using hy1
  refine And.intro (by decide) (And.intro (by show -9223372036854775808 ≤ y.tdiv 10; omega) (And.intro (by show y.tdiv 10 ≤ 9223372036854775807; omega) ?_))
  refine And.intro (fun h2 => ?_) fun h2 => ?_
  · have h2 : y.tdiv 10 = 0 := by simpa using h2
    rw [← hr, runD, if_pos h2]
    exact Exists.intro [] ⟨rfl, rfl⟩
  · have h2 : y.tdiv 10 ≠ 0 := by simpa using h2
    rw [runD, if_neg h2] at hr
    have hp : (10 : Int) ^ (k + 1) = 10 ^ k * 10 := Int.pow_succ ..
    refine Exists.intro (k, y.tdiv 10, strOfNums [48 + y.tmod 10] ++ s) (And.intro (Nat.lt_succ_self k) (And.intro ⟨by show 0 ≤ y.tdiv 10; omega, by show y.tdiv 10 < 10 ^ k; omega, ?_, ?_, hr⟩ (And.intro rfl rfl)))
    · show 1 ≤ k
      cases k with
      | zero => exfalso; rw [Nat.zero_add, Int.pow_one] at hy1; omega
      | succ k => omega
    · show (strOfNums [48 + y.tmod 10] ++ s).size + k ≤ 3
      rw [ByteArray.size_append, hone]; omega

/-- The facts' names. -/
def nameS (f : Nat) : ByteArray := ⟨#[102]⟩ ++ runD 3 f ⟨#[]⟩
theorem names_ok : ∀ n ≤ 17, namesB ((List.range n).map nameS) = true := by decide +kernel

end Go.Fw

/- Tasks whose actions make one fact true each: the plain law. -/
namespace Go.Fw
open Go Go.Proofs
set_option maxRecDepth 10000

/-! ### Picked numbers -/
theorem pickF_has {q : Nat → Bool} {n f : Nat} (hf : f < n) : hasB (pickF q n) (f : Int) = q f := by
  rw [Bool.eq_iff_iff, hasB_mem, pickF, List.mem_map]
  constructor
  · rintro ⟨g, hg, he⟩
    have : g = f := Int.ofNat.inj he
    subst this
    exact (List.mem_filter.1 hg).2
  · intro h
    exact ⟨f, List.mem_filter.2 ⟨List.mem_range.2 hf, h⟩, rfl⟩
theorem pickF_rising (q : Nat → Bool) (n : Nat) : risingB (pickF q n) n = true := by
  refine rising_of ?_ fun x hx => ?_
  · rw [pickF, List.pairwise_map]
    exact (List.pairwise_lt_range.filter _).imp fun h => Int.ofNat_lt.2 h
  · obtain ⟨f, hf, rfl⟩ := List.mem_map.1 hx
    have := List.mem_range.1 (List.mem_filter.1 hf).1
    exact ⟨Int.natCast_nonneg _, Int.ofNat_lt.2 this⟩
theorem rising_ext {n : Nat} {a b : List Int} (ha : risingB a n = true) (hb : risingB b n = true) (h : ∀ f : Nat, f < n → hasB a (f : Int) = hasB b (f : Int)) : a = b := by
  refine inc_ext (rising_inc ha) (rising_inc hb) fun x => ?_
  constructor
  · intro hx
    have hr := rising_in ha x hx
    have := h x.toNat (by omega)
    rw [Int.toNat_of_nonneg hr.1] at this
    exact hasB_mem.1 (this ▸ hasB_mem.2 hx)
  · intro hx
    have hr := rising_in hb x hx
    have := h x.toNat (by omega)
    rw [Int.toNat_of_nonneg hr.1] at this
    exact hasB_mem.1 (this.symm ▸ hasB_mem.2 hx)
def wh (n : Nat) : List Int := (List.range n).map Int.ofNat
theorem wh_pick (n : Nat) : wh n = pickF (fun _ => true) n := by
  rw [wh, pickF, List.filter_eq_self.2 fun _ _ => rfl]
theorem wh_len (n : Nat) : (wh n).length = n := by simp [wh]
theorem wh_rising (n : Nat) : risingB (wh n) n = true := by rw [wh_pick]; exact pickF_rising ..
theorem wh_has {n f : Nat} (hf : f < n) : hasB (wh n) (f : Int) = true := by rw [wh_pick, pickF_has hf]
theorem wh_pos {n f : Nat} (hf : f < n) : posI (wh n) (f : Int) = (f : Int) := by
  have h1 := wh_has hf
  have h2 := posI_in h1
  have h3 := posI_get h1
  rw [wh_len] at h2
  have hlt : (posI (wh n) (f : Int)).toNat < n := by omega
  generalize hP : posI (wh n) (f : Int) = P at *
  rw [wh, List.getElem?_map, List.getElem?_range hlt] at h3
  have : ((P.toNat : Nat) : Int) = (f : Int) := Option.some.inj h3
  omega
theorem wh_facts {n : Nat} {s : List Int} (hs : risingB s n = true) : factsL (wh n) s = s := by
  have h := facts_rising (rising_inc (wh_rising n)) hs
  rw [wh_len] at h
  refine rising_ext h hs fun f hf => ?_
  have := facts_has' (s := s) (rising_inc (wh_rising n)) (wh_has hf)
  rwa [wh_pos hf] at this

/-! ### The task -/
def effS (f : Nat) : Eff := ⟨true, [], ⟨(f : Int), false⟩⟩
def actS (c : Nat → Int) (f : Nat) : Actn := ⟨nameS f, c f, true, [], false, [effS f]⟩
def taskS (c : Nat → Int) (q : Nat → Bool) (n : Nat) : Task := ⟨false, (List.range n).map nameS, (pickF q n).isEmpty, pickF q n, false, (List.range n).map fun f : Nat => ⟨(f : Int), false⟩, false, (List.range n).map (actS c)⟩
theorem taskS_is {c : Nat → Int} {q : Nat → Bool} {n : Nat} (hn : n ≤ 17) (hc : ∀ f, 0 ≤ c f ∧ c f ≤ 100000) : isB (taskS c q n) = true := by
  have hl : (taskS c q n).facts.length = n := by simp [taskS]
  refine isB_parts.2 ⟨by rw [hl]; omega, names_ok n hn, by rw [hl]; exact pickF_rising .., ?_, by show ((List.range n).map (actS c)).length ≤ 1000; rw [List.length_map, List.length_range]; omega, fun a ha => ?_, ?_⟩
  · rw [hl, condB, show (taskS c q n).goal.map (·.fact) = wh n by show ((List.range n).map _).map _ = _; rw [List.map_map]; rfl]
    exact wh_rising n
  · obtain ⟨f, hf, rfl⟩ := List.mem_map.1 ha
    have hf := List.mem_range.1 hf
    have h0 := hc f
    have e0 : condB [] ((taskS c q n).facts.length : Int) = true := rfl
    simp only [actB, actS, Bool.and_eq_true, List.all_eq_true]
    refine ⟨⟨⟨⟨decide_eq_true h0.1, decide_eq_true h0.2⟩, e0⟩, decide_eq_true (by simp)⟩, fun e he => ?_⟩
    rw [List.mem_singleton] at he
    subst he
    simp only [effB, effS, Bool.and_eq_true]
    rw [hl]
    exact ⟨⟨rfl, decide_eq_true (Int.natCast_nonneg _)⟩, decide_eq_true (Int.ofNat_lt.2 hf)⟩
  · rw [show (taskS c q n).acts.map (·.name) = (List.range n).map nameS by show ((List.range n).map _).map _ = _; rw [List.map_map]; rfl]
    exact names_ok n hn
theorem taskS_closed {c : Nat → Int} {q : Nat → Bool} {n : Nat} (p : List Int) : closedB (taskS c q n) p = true := by
  refine List.all_eq_true.2 fun a ha => List.all_eq_true.2 fun e he => clE_iff.2 fun _ l hl => ?_
  obtain ⟨f, _, rfl⟩ := List.mem_map.1 ha
  rw [show (actS c f).effs = [effS f] from rfl, List.mem_singleton] at he
  subst he
  cases hl
def addF (n : Nat) (s : List Int) (f : Nat) : List Int := afterL n s [effS f]
theorem addF_has {n : Nat} {s : List Int} {f y : Nat} (hs : risingB s n = true) (hf : f < n) (hy : y < n) : hasB (addF n s f) (y : Int) = (hasB s (y : Int) || decide (f = y)) := by
  rw [addF, after_get (fun e he => by rw [List.mem_singleton] at he; subst he; exact ⟨Int.natCast_nonneg _, Int.ofNat_lt.2 hf⟩) (rising_in hs) hy]
  have e1 : negB s [effS f] (y : Int) = false := by simp [negB, effS]
  have e2 : posB s [effS f] (y : Int) = decide (f = y) := by
    simp only [posB, effS, List.any_cons, List.any_nil, holdsB, List.all_nil, Bool.not_false, Bool.and_true, Bool.true_and, Bool.or_false]
    rw [Bool.eq_iff_iff, beq_iff_eq, decide_eq_true_eq]; omega
  rw [e1, e2]; simp
theorem succ_wh {c : Nat → Int} {q : Nat → Bool} {n : Nat} (s : List Int) : succ (projT (taskS c q n) (wh n)) s = (List.range n).map fun f => (c f, addF n s f) := by
  have hl : (projT (taskS c q n) (wh n)).facts.length = n := by show ((wh n).map _).length = n; rw [List.length_map, wh_len]
  have ha : (projT (taskS c q n) (wh n)).acts = (List.range n).map (actS c) := by
    show ((List.range n).map (actS c)).map (projA (wh n)) = _
    rw [List.map_map]
    refine List.map_congr_left fun f hf => ?_
    have hf := List.mem_range.1 hf
    have e : projEs (wh n) [effS f] = [effS f] := by
      rw [projEs, List.filter_eq_self.2 fun e he => by rw [List.mem_singleton] at he; subst he; exact wh_has hf]
      show [projE (wh n) (effS f)] = _
      rw [projE, show posI (wh n) (effS f).lit.fact = (f : Int) from wh_pos hf]; rfl
    show projA (wh n) (actS c f) = actS c f
    rw [projA, show (actS c f).effs = [effS f] from rfl, e]; rfl
  rw [succ, succA, hl, ha, List.filter_eq_self.2 fun a hm => ?_, List.map_map]
  · rfl
  · obtain ⟨f, _, rfl⟩ := List.mem_map.1 hm; rfl
theorem goal_wh {c : Nat → Int} {q : Nat → Bool} {n : Nat} {s : List Int} : holdsB s (projT (taskS c q n) (wh n)).goal = true ↔ ∀ f, f < n → hasB s (f : Int) = true := by
  have e : (projT (taskS c q n) (wh n)).goal = (List.range n).map fun f : Nat => ⟨(f : Int), false⟩ := by
    show litsL (wh n) ((List.range n).map fun f : Nat => ⟨(f : Int), false⟩) = _
    rw [litsL, List.filter_eq_self.2 fun x hx => ?_, List.map_map]
    · refine List.map_congr_left fun f hf => ?_
      show (⟨posI (wh n) (f : Int), false⟩ : Lit) = _
      rw [wh_pos (List.mem_range.1 hf)]
    · obtain ⟨f, hf, rfl⟩ := List.mem_map.1 hx
      exact wh_has (List.mem_range.1 hf)
  rw [e, holdsB, List.all_eq_true]
  constructor
  · intro h f hf
    have := h _ (List.mem_map.2 ⟨f, List.mem_range.2 hf, rfl⟩)
    simpa using this
  · intro h x hx
    obtain ⟨f, hf, rfl⟩ := List.mem_map.1 hx
    simpa using h f (List.mem_range.1 hf)

end Go.Fw

/- Tasks whose actions make one fact true each: what they cost, how many states there are. -/
namespace Go.Fw
open Go Go.Proofs
set_option maxRecDepth 10000

/-- What the facts cost that are not yet true. -/
def wq (c : Nat → Int) (q : Nat → Bool) : Nat → Int
  | 0 => 0
  | k + 1 => wq c q k + if q k = true then 0 else c k
theorem wq_congr {c : Nat → Int} {q r : Nat → Bool} : ∀ k, (∀ f, f < k → q f = r f) → wq c q k = wq c r k
  | 0, _ => rfl
  | k + 1, h => by rw [wq, wq, wq_congr k fun f hf => h f (by omega), h k (by omega)]
theorem wq_step {c : Nat → Int} (hc : ∀ f, 0 ≤ c f) {q r : Nat → Bool} {f : Nat} : ∀ k, (∀ g, g < k → r g = (q g || decide (f = g))) → wq c q k ≤ (if f < k then c f else 0) + wq c r k
  | 0, _ => by simp [wq]
  | k + 1, h => by
    have ih := wq_step hc (f := f) k fun g hg => h g (by omega)
    have h0 := hc k
    rw [wq, wq, h k (by omega)]
    by_cases hfk : f = k
    · subst hfk
      rw [if_neg (Nat.lt_irrefl f)] at ih
      rw [if_pos (Nat.lt_succ_self f), decide_eq_true rfl, Bool.or_true, if_pos rfl]
      cases q f
      · rw [if_neg Bool.noConfusion]; omega
      · rw [if_pos rfl]; omega
    · rw [show decide (f = k) = false by simpa using hfk, Bool.or_false]
      generalize (if q k = true then 0 else c k) = m
      by_cases h1 : f < k
      · rw [if_pos h1] at ih
        rw [if_pos (by omega)]; omega
      · rw [if_neg h1] at ih
        rw [if_neg (by omega)]; omega
abbrev EW (c : Nat → Int) (n : Nat) (s : List Int) : List (Int × List Int) := (List.range n).map fun f => (c f, addF n s f)
theorem ew_rising {c : Nat → Int} {n : Nat} {s s' : List Int} {d : Int} (hs : risingB s n = true) (p : Dij.Pth (EW c n) s d s') : risingB s' n = true := by
  induction p with
  | nil => exact hs
  | cons h _ ih =>
    obtain ⟨f, _, he⟩ := List.mem_map.1 h
    cases he
    exact ih (after_rising ..)
/-- No way is cheaper. -/
theorem ew_low {c : Nat → Int} (hc : ∀ f, 0 ≤ c f) {n : Nat} {s s' : List Int} {d : Int} (hs : risingB s n = true) (p : Dij.Pth (EW c n) s d s') : wq c (fun f => hasB s (f : Int)) n ≤ d + wq c (fun f => hasB s' (f : Int)) n := by
  induction p with
  | nil => omega
  | cons h _ ih =>
    obtain ⟨f, hf, he⟩ := List.mem_map.1 h
    have hf := List.mem_range.1 hf
    cases he
    have ih := ih (after_rising ..)
    have := wq_step hc (f := f) n fun g hg => addF_has hs hf hg
    rw [if_pos hf] at this
    omega
theorem ew_grow {c : Nat → Int} {n : Nat} {s s' : List Int} {d : Int} (hs : risingB s n = true) (p : Dij.Pth (EW c n) s d s') : ∀ f : Nat, f < n → hasB s (f : Int) = true → hasB s' (f : Int) = true := by
  induction p with
  | nil => exact fun _ _ h => h
  | cons h _ ih =>
    obtain ⟨f, hf, he⟩ := List.mem_map.1 h
    have hf := List.mem_range.1 hf
    cases he
    exact fun g hg hh => ih (after_rising ..) g hg (by rw [addF_has hs hf hg, hh]; rfl)
/-- A way to each state with more facts. -/
theorem ew_way {c : Nat → Int} {n : Nat} {s l : List Int} (hs : risingB s n = true) : ∀ k, k ≤ n → Dij.Pth (EW c n) s (wq c (fun f => hasB s (f : Int) || !hasB l (f : Int)) k) (pickF (fun f => hasB s (f : Int) || (decide (f < k) && hasB l (f : Int))) n)
  | 0, _ => by
    have e : pickF (fun f => hasB s (f : Int) || (decide (f < 0) && hasB l (f : Int))) n = s := rising_ext (pickF_rising ..) hs fun f hf => by rw [pickF_has hf]; simp
    rw [e]; exact .nil _
  | k + 1, hk => by
    have ih := ew_way (c := c) (l := l) hs k (by omega)
    have hr := pickF_rising (fun f => hasB s (f : Int) || (decide (f < k) && hasB l (f : Int))) n
    rw [wq]
    cases h : (hasB s (k : Int) || !hasB l (k : Int)) with
    | true =>
      rw [if_pos rfl, Int.add_zero]
      have e : pickF (fun f => hasB s (f : Int) || (decide (f < k + 1) && hasB l (f : Int))) n = pickF (fun f => hasB s (f : Int) || (decide (f < k) && hasB l (f : Int))) n := rising_ext (pickF_rising ..) hr fun f hf => by
        rw [pickF_has hf, pickF_has hf]
        by_cases hfk : f = k
        · subst hfk
          revert h; cases hasB s (f : Int) <;> cases hasB l (f : Int) <;> simp
        · rw [show decide (f < k + 1) = decide (f < k) by simp; omega]
      rw [e]; exact ih
    | false =>
      rw [if_neg Bool.noConfusion]
      refine ih.snoc (List.mem_map.2 ⟨k, List.mem_range.2 (by omega), ?_⟩)
      have e : addF n (pickF (fun f => hasB s (f : Int) || (decide (f < k) && hasB l (f : Int))) n) k = pickF (fun f => hasB s (f : Int) || (decide (f < k + 1) && hasB l (f : Int))) n := rising_ext (after_rising ..) (pickF_rising ..) fun f hf => by
        rw [addF_has hr (by omega) hf, pickF_has hf, pickF_has hf]
        by_cases hfk : k = f
        · subst hfk
          revert h; cases hasB s (k : Int) <;> cases hasB l (k : Int) <;> simp
        · rw [show decide (k = f) = false by simpa using hfk, show decide (f < k + 1) = decide (f < k) by simp; omega, Bool.or_false]
      rw [e]
theorem ew_reach {c : Nat → Int} {n : Nat} {s l : List Int} (hs : risingB s n = true) (hl : risingB l n = true) (h : ∀ f : Nat, f < n → hasB s (f : Int) = true → hasB l (f : Int) = true) : Dij.Pth (EW c n) s (wq c (fun f => hasB s (f : Int) || !hasB l (f : Int)) n) l := by
  have := ew_way (c := c) (l := l) hs n (Nat.le_refl _)
  have e : pickF (fun f => hasB s (f : Int) || (decide (f < n) && hasB l (f : Int))) n = l := rising_ext (pickF_rising ..) hl fun f hf => by
    rw [pickF_has hf, decide_eq_true hf, Bool.true_and]
    cases h1 : hasB s (f : Int) with
    | false => rfl
    | true => rw [h f hf h1]; rfl
  rwa [e] at this

/-! ### How many -/
def cnt (q : Nat → Bool) : Nat → Nat
  | 0 => 1
  | k + 1 => if q k = true then cnt q k else cnt q k * 2
def supR (q : Nat → Bool) : Nat → List (List Int)
  | 0 => [[]]
  | k + 1 => (if q k = true then [] else supR q k) ++ (supR q k).map fun l => l ++ [(k : Int)]
theorem supR_len (q : Nat → Bool) : ∀ k, (supR q k).length = cnt q k
  | 0 => rfl
  | k + 1 => by
    rw [supR, cnt, List.length_append, List.length_map, supR_len q k]
    split <;> simp [supR_len q k] <;> omega
theorem supR_in (q : Nat → Bool) : ∀ k, ∀ l ∈ supR q k, l.Pairwise (· < ·) ∧ (∀ x ∈ l, 0 ≤ x ∧ x < (k : Int)) ∧ ∀ f : Nat, f < k → q f = true → (f : Int) ∈ l
  | 0, l, h => by
    rw [supR, List.mem_singleton] at h
    subst h
    exact ⟨.nil, (fun x hx => by cases hx), fun f hf => by omega⟩
  | k + 1, l, h => by
    rw [supR, List.mem_append] at h
    rcases h with h | h
    · split at h
      · cases h
      · rename_i hq
        obtain ⟨h1, h2, h3⟩ := supR_in q k l h
        refine ⟨h1, fun x hx => ⟨(h2 x hx).1, by have := (h2 x hx).2; omega⟩, fun f hf hqf => ?_⟩
        by_cases hfk : f = k
        · subst hfk; exact absurd hqf hq
        · exact h3 f (by omega) hqf
    · obtain ⟨l', h', rfl⟩ := List.mem_map.1 h
      obtain ⟨h1, h2, h3⟩ := supR_in q k l' h'
      refine ⟨List.pairwise_append.2 ⟨h1, List.pairwise_singleton .., fun a ha b hb => ?_⟩, fun x hx => ?_, fun f hf hqf => ?_⟩
      · rw [List.mem_singleton] at hb; subst hb; exact (h2 a ha).2
      · rcases List.mem_append.1 hx with hx | hx
        · have := h2 x hx; omega
        · rw [List.mem_singleton] at hx; subst hx; omega
      · by_cases hfk : f = k
        · subst hfk; simp
        · exact List.mem_append.2 (.inl (h3 f (by omega) hqf))
theorem supR_nodup (q : Nat → Bool) : ∀ k, (supR q k).Nodup
  | 0 => by simp [supR]
  | k + 1 => by
    have ih := supR_nodup q k
    rw [supR]
    refine List.nodup_append.2 ⟨by split <;> simp [ih], ?_, fun a ha b hb hab => ?_⟩
    · refine List.pairwise_map.2 (ih.imp fun {x y} hxy h => hxy ?_)
      exact List.append_cancel_right h
    · subst hab
      obtain ⟨l, _, rfl⟩ := List.mem_map.1 hb
      split at ha
      · cases ha
      · have := (supR_in q k _ ha).2.1 (k : Int) (by simp)
        omega
theorem supR_mem (q : Nat → Bool) : ∀ (k : Nat) (l : List Int), l.Pairwise (· < ·) → (∀ x ∈ l, 0 ≤ x ∧ x < (k : Int)) → (∀ f : Nat, f < k → q f = true → (f : Int) ∈ l) → l ∈ supR q k
  | 0, l, _, h, _ => by
    cases l with
    | nil => exact List.mem_cons_self ..
    | cons x r => have := h x (List.mem_cons_self ..); omega
  | k + 1, l, hi, h, hq => by
    rw [supR, List.mem_append]
    by_cases hk : (k : Int) ∈ l
    · right
      rcases List.eq_nil_or_concat l with rfl | ⟨l', x, rfl⟩
      · cases hk
      rw [List.concat_eq_append] at hi h hq hk ⊢
      obtain ⟨h1, _, h3⟩ := List.pairwise_append.1 hi
      have hx := h x (by simp)
      have hl : ∀ y ∈ l', 0 ≤ y ∧ y < x := fun y hy => ⟨(h y (by simp [hy])).1, h3 y hy x (by simp)⟩
      have hxk : x = (k : Int) := by
        rcases List.mem_append.1 hk with hk | hk
        · have := hl _ hk; omega
        · simp at hk; exact hk.symm
      subst hxk
      refine List.mem_map.2 ⟨l', supR_mem q k l' h1 hl fun f hf hqf => ?_, rfl⟩
      rcases List.mem_append.1 (hq f (by omega) hqf) with h5 | h5
      · exact h5
      · simp at h5; omega
    · left
      rw [if_neg fun hqk => hk (hq k (by omega) hqk)]
      refine supR_mem q k l hi (fun x hx => ?_) fun f hf hqf => hq f (by omega) hqf
      have := h x hx
      by_cases hxk : x = (k : Int)
      · subst hxk; exact absurd hx hk
      · omega

/-- What the search finds. -/
theorem space_law {c : Nat → Int} {q : Nat → Bool} {n : Nat} (hc : ∀ f, 0 ≤ c f) {r : LV} (h : OptR (projT (taskS c q n) (wh n)) (factsL (wh n) (pickF q n)) r) :
    (20000 < cnt q n → r = .tup [.int 0, .int 3]) ∧ (cnt q n ≤ 20000 → r = .tup [.int (wq c q n), .int 0]) := by
  have hs := pickF_rising q n
  rw [wh_facts hs] at h
  have hE : succ (projT (taskS c q n) (wh n)) = EW c n := funext fun s => succ_wh s
  have reach : ∀ x ∈ supR q n, ∃ d, Dij.Pth (EW c n) (pickF q n) d x := fun x hx => by
    obtain ⟨h1, h2, h3⟩ := supR_in q n x hx
    exact ⟨_, ew_reach hs (rising_of h1 h2) fun f hf hh => by rw [pickF_has hf] at hh; exact hasB_mem.2 (h3 f hf hh)⟩
  have inn : ∀ x d, Dij.Pth (EW c n) (pickF q n) d x → x ∈ supR q n := fun x d p => by
    have hr := ew_rising hs p
    exact supR_mem q n x (rising_inc hr) (rising_in hr) fun f hf hq => hasB_mem.1 (ew_grow hs p f hf (by rw [pickF_has hf]; exact hq))
  have w := ew_reach (c := c) hs (wh_rising n) fun f hf _ => wh_has hf
  have g : holdsB (wh n) (projT (taskS c q n) (wh n)).goal = true := goal_wh.2 fun f hf => wh_has hf
  have ew : wq c (fun f => hasB (pickF q n) (f : Int) || !hasB (wh n) (f : Int)) n = wq c q n := wq_congr n fun f hf => by rw [pickF_has hf, wh_has hf]; simp
  rw [ew] at w
  cases h with
  | space S hn hr hl =>
    refine ⟨fun _ => rfl, fun hle => ?_⟩
    simp only [Way, hE] at hr
    have := Dij.nodup_sub (S' := supR q n) hn fun x hx => by obtain ⟨d, p⟩ := hr x hx; exact inn x d p
    rw [supR_len] at this
    omega
  | none S hW hl hg =>
    rw [hE] at hW
    have := hg _ (hW.mem w)
    rw [g] at this; cases this
  | ok S hW hl k h0 hb hO =>
    rw [hE] at hW hO
    refine ⟨fun hlt => ?_, fun _ => ?_⟩
    · have := hW.most (supR_nodup q n) reach
      rw [supR_len] at this
      omega
    · have h1 := hO.2 _ _ g w
      obtain ⟨s', hg', p⟩ := hO.1
      have h2 := ew_low hc hs p
      have e1 : wq c (fun f => hasB (pickF q n) (f : Int)) n = wq c q n := wq_congr n fun f hf => pickF_has hf
      have e2 : wq c (fun f => hasB s' (f : Int)) n = 0 := by
        have : ∀ m, m ≤ n → wq c (fun f => hasB s' (f : Int)) m = 0 := fun m => by
          induction m with
          | zero => intro _; rfl
          | succ m ih => intro hm; rw [wq, ih (by omega), if_pos (goal_wh.1 hg' m (by omega))]; rfl
        exact this n (Nat.le_refl _)
      rw [e1, e2] at h2
      rw [show k = wq c q n by omega]

end Go.Fw

/- The law of costs that add up. -/
namespace Go.Fw
open Go Go.Proofs
set_option maxRecDepth 10000

/-- Numbers may be turned into each other. -/
def cxn : Ctx := { cx with num := true }
theorem cxn_ok : cxn.OK Try.prog := ⟨cx_ok.mixed, cx_ok.tys, cx_ok.eqs, cx_ok.exts, cx_ok.srt⟩
def tActS (c : Nat → Int) (f : Nat) : List T := [.v (.string (nameS f)), .v (.int .i64 (c f)), .sl true 0 [], .sl false 3 [[.sl true 0 [], .v (.int .i64 (f : Int)), .v (.bool false)]]]
def tF (i : Nat) : List (List T) := (List.range i).map fun f => tS (nameS f)
def tG (i : Nat) : List (List T) := (List.range i).map fun f : Nat => tLit ⟨(f : Int), false⟩
def tA (c : Nat → Int) (i : Nat) : List (List T) := (List.range i).map (tActS c)
def tW (i : Nat) : List (List T) := (List.range i).map fun f : Nat => tI (f : Int)

def cst (x : Int) : Int := IntKind.i64.wrap ((IntKind.u64.wrap x).tmod 100001)
def bitX (x : Int) (f : Nat) : Bool := IntKind.i64.wrap (((BitVec.ofInt IntKind.i64.bits (x.fdiv (2 ^ min ((f : Int)).toNat IntKind.i64.bits)) &&& BitVec.ofInt IntKind.i64.bits 1).toNat : Nat) : Int) == 1
theorem cst_in (x : Int) : 0 ≤ cst x ∧ cst x ≤ 100000 := by
  have h0 : 0 ≤ IntKind.u64.wrap x := by
    unfold IntKind.wrap
    simp [IntKind.signed, IntKind.bits]
    omega
  have h1 : (IntKind.u64.wrap x).tmod 100001 = IntKind.u64.wrap x % 100001 := Int.tmod_eq_emod_of_nonneg h0
  unfold cst
  rw [h1, wrap64 (by omega) (by omega)]
  omega
theorem wq_in {c : Nat → Int} {q : Nat → Bool} (hc : ∀ f, 0 ≤ c f ∧ c f ≤ 100000) : ∀ k : Nat, 0 ≤ wq c q k ∧ wq c q k ≤ 100000 * (k : Int)
  | 0 => ⟨Int.le_refl _, Int.le_refl _⟩
  | k + 1 => by
    have ih := wq_in (q := q) hc k
    have := hc k
    rw [wq]; split <;> omega
theorem cnt_in (q : Nat → Bool) : ∀ k : Nat, cnt q k ≤ 2 ^ k
  | 0 => Nat.le_refl _
  | k + 1 => by
    have := cnt_in q k
    rw [cnt, Nat.pow_succ]; split <;> omega
theorem tF_step (i : Nat) : tF (i + 1) = tF i ++ [tS (nameS i)] := by rw [tF, List.range_succ, List.map_append]; rfl
theorem tG_step (i : Nat) : tG (i + 1) = tG i ++ [tLit ⟨(i : Int), false⟩] := by rw [tG, List.range_succ, List.map_append]; rfl
theorem tA_step (c : Nat → Int) (i : Nat) : tA c (i + 1) = tA c i ++ [tActS c i] := by rw [tA, List.range_succ, List.map_append]; rfl
theorem tW_step (i : Nat) : tW (i + 1) = tW i ++ [tI (i : Int)] := by rw [tW, List.range_succ, List.map_append]; rfl
theorem pI_step (q : Nat → Bool) (i : Nat) : (pickF q (i + 1)).map tI = (pickF q i).map tI ++ if q i = true then [tI (i : Int)] else [] := by
  rw [pickF_step, List.map_append]; split <;> rfl
theorem run_small : ∀ i : Nat, i ≤ 17 → (runD 3 (i : Int) ⟨#[]⟩).size ≤ 3 := by decide +kernel
theorem cat_name {i : Nat} (hi : i ≤ 17) (t : Nat) : binL cxn .add t (.t (.v (.string ⟨#[102]⟩))) (.t (.v (.string (runD 3 (i : Int) ⟨#[]⟩)))) = some (.t (.v (.string (nameS i)))) := by
  have h := run_small i hi
  have h : ((((⟨#[102]⟩ : ByteArray).size + (runD 3 (i : Int) ⟨#[]⟩).size : Nat) : Int)) ≤ 9223372036854775807 := by
    have : (⟨#[102]⟩ : ByteArray).size = 1 := rfl
    omega
  simp only [binL, binV]
  rw [if_pos h]; rfl
theorem un_actS (c : Nat → Int) : ∀ l : List Nat, T.un.unEs ((l.map (actS c)).map tAct) = T.un.unEs (l.map (tActS c))
  | [] => rfl
  | f :: r => by
    have ih := un_actS c r
    simp only [List.map_cons, T.un.unEs, ih]
    rfl
theorem un_init {q : Nat → Bool} {n : Nat} {I : List (List T)} (hI : I = (pickF q n).map tI) : (T.sl I.isEmpty (if I.isEmpty then 0 else 1) I).un = (T.sl (pickF q n).isEmpty 1 ((pickF q n).map tI)).un := by
  subst hI
  cases pickF q n <;> rfl
theorem vl_un {β : K → Nat} {RO : Nat → Prop} {w : World} {x y : T} {v : Value} (h : VL β RO w (.t x) v) (e : y.un = x.un) : VL β RO w (.t y) v := by
  cases h with
  | t _ _ h => exact .t _ _ (h.un _ e)
theorem f9s_spec (c : Nat → Int) (q : Nat → Bool) (n : Nat) (F G A W : List (List T)) (O : T) (hF : F = tF n) (hG : G = tG n) (hA : A = tA c n) (hW : W = tW n) (hO : O.un = (T.sl (pickF q n).isEmpty 1 ((pickF q n).map tI)).un) (out : List Fr) :
    SpecP Try.prog 9 [.agg [.t (.sl false 1 F), .t O, .t (.sl false 2 G), .t (.sl false 4 A)], .t (.sl false 1 W), .t O] out fun r ro => CostR (taskS c q n) false (wh n) (pickF q n) r ∧ ro = [] :=
  SpecP.conv (args' := [.task (taskS c q n), .ints false (wh n), .ints (pickF q n).isEmpty (pickF q n)]) (fun β RO w vals hv => ⟨hv.1, fun i z v hz hvz => by
    subst hF hG hA hW
    match i with
    | 0 =>
      simp only [List.getElem?_cons_zero, Option.some.injEq] at hz; subst hz
      have h0 := hv.2 0 _ v rfl hvz
      cases h0 with
      | agg _ vs hl hc h1 =>
      refine .agg _ vs hl (fun j x u hx hu => ?_) h1
      match j with
      | 0 => simp only [List.getElem?_cons_zero, Option.some.injEq] at hx; subst hx; refine vl_un (hc 0 _ u rfl hu) ?_; show (T.sl false 1 (((List.range n).map nameS).map tS)).un = (T.sl false 1 (tF n)).un; rw [List.map_map]; rfl
      | 1 => simp only [List.getElem?_cons_succ, List.getElem?_cons_zero, Option.some.injEq] at hx; subst hx; exact vl_un (hc 1 _ u rfl hu) hO.symm
      | 2 => simp only [List.getElem?_cons_succ, List.getElem?_cons_zero, Option.some.injEq] at hx; subst hx; refine vl_un (hc 2 _ u rfl hu) ?_; show (T.sl false 2 (((List.range n).map fun f : Nat => (⟨(f : Int), false⟩ : Lit)).map tLit)).un = (T.sl false 2 (tG n)).un; rw [List.map_map]; rfl
      | 3 => simp only [List.getElem?_cons_succ, List.getElem?_cons_zero, Option.some.injEq] at hx; subst hx; refine vl_un (hc 3 _ u rfl hu) ?_; show (T.sl false 4 (((List.range n).map (actS c)).map tAct)).un = (T.sl false 4 (tA c n)).un; rw [un_sl, un_sl, un_actS]; rfl
      | j + 4 => simp at hx
    | 1 => simp only [List.getElem?_cons_succ, List.getElem?_cons_zero, Option.some.injEq] at hz; subst hz; refine vl_un (hv.2 1 _ v rfl hvz) ?_; show (T.sl false 1 ((wh n).map tI)).un = (T.sl false 1 (tW n)).un; rw [wh, List.map_map]; rfl
    | 2 => simp only [List.getElem?_cons_succ, List.getElem?_cons_zero, Option.some.injEq] at hz; subst hz; exact vl_un (hv.2 2 _ v rfl hvz) hO.symm
    | i + 3 => simp at hz⟩) (f9_spec (taskS c q n) false (pickF q n).isEmpty (wh n) (pickF q n) out)
def kq3 : Kp := [(7, ([1, 5, 6, 7, 8, 23, 24, 25], [40, 328, 384, 480, 520, 600]))]
set_option maxHeartbeats 2000000 in
theorem f3_spec (n1 : Bool) (l : List Int) (init : Int) (out : List Fr) : SpecP Try.prog 3 [.ints n1 l, .int init] out fun r ro => r = .bool true ∧ ro = [] := by
  let c : Nat → Int := fun f => cst (l.getD f 0)
  let q : Nat → Bool := fun f => bitX init f
  refine spec_body cxn_ok kq3 [] (fn := Try.f3) (by kernel_rfl) rfl (by kernel_rfl) rfl (by unfold FnOK; kernel_rfl) fun hok => ?_
  refine And.intro (fun _ => ?_) fun h1 => ?_
  · refine SpecP.mono (f7_spec _) ?_
    rintro _ _ ⟨rfl, rfl⟩
    exact And.intro (fun _ => Exists.intro [] (ret_bool rfl rfl)) fun h => Bool.noConfusion h
  refine And.intro (fun _ => ?_) fun h2 => ?_
  · refine SpecP.mono (f7_spec _) ?_
    rintro _ _ ⟨rfl, rfl⟩
    exact And.intro (fun _ => Exists.intro [] (ret_bool rfl rfl)) fun h => Bool.noConfusion h
  have h1 : 1 ≤ l.length := by have h1 : ¬ ((l.map tI).length : Int) < 1 := of_decide_eq_false h1; rw [List.length_map] at h1; omega
  have h2 : l.length ≤ 17 := by have h2 : ¬ ((l.map tI).length : Int) > 17 := of_decide_eq_false h2; rw [List.length_map] at h2; omega
  refine LoopW.mk (Nat × List (List T) × List (List T) × List (List T) × List (List T) × List (List T)) (fun u => u.1 ≤ l.length ∧ u.2.1 = tF u.1 ∧ u.2.2.1 = tG u.1 ∧ u.2.2.2.1 = tA c u.1 ∧ u.2.2.2.2.1 = tW u.1 ∧ u.2.2.2.2.2 = (pickF q u.1).map tI) (fun u => [(1, .int init), (5, .ptr (.cur 40) 0), (6, accV 520 1 u.2.2.2.2.1), (7, .int (wq c q u.1)), (8, .int (cnt q u.1)), (23, .ints n1 l), (24, .int (l.map tI).length), (25, .int u.1)])
    (fun u => ⟨out, [(40, .box [accV 328 1 u.2.1, accV 600 1 u.2.2.2.2.2, accV 384 2 u.2.2.1, accV 480 4 u.2.2.2.1])] ++ accO 328 9 1 u.2.1 ++ accO 384 32 2 u.2.2.1 ++ accO 480 37 4 u.2.2.2.1 ++ accO 520 3 1 u.2.2.2.2.1 ++ accO 600 3 1 u.2.2.2.2.2⟩) (fun u => l.length - u.1) (0, [], [], [], [], []) ⟨Nat.zero_le _, rfl, rfl, rfl, rfl, rfl⟩ ⟨rfl, rfl⟩ ?_
  rintro ⟨i, F, G, A, W, I⟩ ⟨hi0, hF, hG, hA, hW, hI⟩
  simp only at hi0 hF hG hA hW hI
  cases F with
  | nil =>
    have hi00 : i = 0 := by
      have := congrArg List.length hF
      simpa [tF] using this.symm
    subst hi00
    obtain rfl : G = [] := hG
    obtain rfl : A = [] := hA
    obtain rfl : W = [] := hW
    obtain rfl : I = [] := hI
    refine And.intro (fun h3 => ?_) fun h3 => ?_
    · have hi : 0 < l.length := h1
      refine And.intro (by omega) (Exists.intro _ (And.intro (get_map hi) ?_))
      intro m1 hm1
      refine And.intro (by decide) ?_
      intro m2 hm2
      refine SpecP.mono (f8_spec ((0 : Nat) : Int) (by omega) (by omega) _) ?_
      rintro _ _ ⟨rfl, rfl⟩
      repeat first
        | refine And.intro (Nat.le_of_ble_eq_true rfl) ?_
        | refine And.intro rfl ?_
      have hc0 := cst_in (l.getD 0 0)
      have hm : m2 = c 0 := by rw [hm2, hm1]; show _ = cst (l.getD 0 0); rw [List.getD_eq_getElem?_getD, List.getElem?_eq_getElem hi]; rfl
      subst hm
      refine And.intro (Int.le_refl 0) ?_
      refine And.intro (fun h4 => ?_) fun h4 => ?_
      · have h4 : q 0 = true := h4
        have e7 : wq c q 1 = 0 := by show (0 : Int) + _ = _; rw [if_pos h4]; rfl
        have e8 : cnt q 1 = 1 := by show (if q 0 = true then 1 else _) = _; rw [if_pos h4]
        have e9 := pI_step q 0
        rw [if_pos h4] at e9
        repeat first
          | refine And.intro (Nat.le_of_ble_eq_true rfl) ?_
          | refine And.intro rfl ?_
        refine And.intro (by decide) (And.intro (by decide) ?_)
        refine Exists.intro (1, tF 1, tG 1, tA c 1, tW 1, [tI 0]) (And.intro (by show l.length - 1 < l.length - 0; omega) (And.intro ⟨hi, rfl, rfl, rfl, rfl, e9.symm⟩ (And.intro ?_ rfl)))
        simp only [e7, e8]; rfl
      · have h4 : q 0 = false := h4
        have e7 : wq c q 1 = 0 + c 0 := by show (0 : Int) + _ = _; rw [if_neg (by rw [h4]; exact Bool.noConfusion)]
        have e8 : cnt q 1 = 2 := by show (if q 0 = true then 1 else 1 * 2) = _; rw [if_neg (by rw [h4]; exact Bool.noConfusion)]
        have e9 := pI_step q 0
        rw [if_neg (by rw [h4]; exact Bool.noConfusion)] at e9
        refine And.intro (by show -9223372036854775808 ≤ (0 : Int) + cst (l.getD 0 0); omega) (And.intro (by show (0 : Int) + cst (l.getD 0 0) ≤ 9223372036854775807; omega) ?_)
        refine And.intro (by show -9223372036854775808 ≤ (((1 : Nat) : Int)) * 2; decide) (And.intro (by show (((1 : Nat) : Int)) * 2 ≤ 9223372036854775807; decide) ?_)
        refine And.intro (by show -9223372036854775808 ≤ (((0 : Nat) : Int)) + 1; decide) (And.intro (by show (((0 : Nat) : Int)) + 1 ≤ 9223372036854775807; decide) ?_)
        refine Exists.intro (1, tF 1, tG 1, tA c 1, tW 1, []) (And.intro (by show l.length - 1 < l.length - 0; omega) (And.intro ⟨hi, rfl, rfl, rfl, rfl, e9.symm⟩ (And.intro ?_ rfl)))
        simp only [e7, e8]; rfl
    · have h3 : ¬ ((0 : Nat) : Int) < ((l.map tI).length : Nat) := of_decide_eq_false h3
      rw [List.length_map] at h3; omega
  | cons x r =>
    have hlen : r.length + 1 = i := by
      have := congrArg List.length hF
      simpa [tF] using this
    have hGl : G.length = i := by rw [hG, tG, List.length_map, List.length_range]
    have hAl : A.length = i := by rw [hA, tA, List.length_map, List.length_range]
    have hWl : W.length = i := by rw [hW, tW, List.length_map, List.length_range]
    have hIl : I.length ≤ i := by rw [hI, List.length_map]; exact pickF_len ..
    cases G with
    | nil => simp at hGl; omega
    | cons g G =>
    cases A with
    | nil => simp at hAl; omega
    | cons a A =>
    cases W with
    | nil => simp at hWl; omega
    | cons w W =>
    have hwq := wq_in (q := q) (c := c) (fun f => cst_in _) i
    have hcn := cnt_in q i
    have hcn2 : cnt q i ≤ 131072 := Nat.le_trans hcn (Nat.le_trans (Nat.pow_le_pow_right (by decide) (by omega : i ≤ 17)) (by decide))
    rw [List.length_cons] at hGl hAl hWl
    cases I
    case' nil => let O : List (List T) := []
    case' cons y z => let O : List (List T) := y :: z
    all_goals
      refine And.intro (fun h3 => ?_) fun h3 => ?_
      rotate_left
      · have hi : i = l.length := by have h3 : ¬ (i : Int) < ((l.map tI).length : Nat) := of_decide_eq_false h3; rw [List.length_map] at h3; have hi0 : i ≤ l.length := hi0; omega
        have hcb : ∀ f, 0 ≤ c f ∧ c f ≤ 100000 := fun f => cst_in _
        have hg : givenI (taskS c q i) (pickF q i) [(false, wh i)] = 0 := by
          have hl : (taskS c q i).facts.length = i := by simp [taskS]
          have hti := taskS_is (q := q) (n := i) (by omega) hcb
          have e1 : fineI (taskS c q i) (pickF q i) = 0 := by rw [fineI, if_pos hti, hl, if_pos (pickF_rising q i)]
          have e2 : fineB (taskS c q i) true (wh i) = true := by rw [fineB, hl, wh_rising, taskS_closed]; rfl
          rw [givenI, if_pos e1, asksI, if_pos hti]
          simp [e2]
        refine Exists.intro (x :: r) (And.intro take_all (And.intro (Nat.le_of_eq (Nat.zero_add _)) ?_))
        first
          | refine Exists.intro (y :: z) (And.intro take_all (And.intro (Nat.le_of_eq (Nat.zero_add _)) ?_))
          | skip
        refine Exists.intro (g :: G) (And.intro take_all (And.intro (Nat.le_of_eq (Nat.zero_add _)) ?_))
        refine Exists.intro (a :: A) (And.intro take_all (And.intro (Nat.le_of_eq (Nat.zero_add _)) ?_))
        refine Exists.intro (w :: W) (And.intro take_all (And.intro (Nat.le_of_eq (Nat.zero_add _)) ?_))
        first
          | refine Exists.intro (y :: z) (And.intro take_all (And.intro (Nat.le_of_eq (Nat.zero_add _)) ?_))
          | skip
        refine SpecP.mono (f9s_spec c q i _ _ _ _ _ hF hG hA hW (un_init hI) _) ?_
        rintro r9 _ ⟨hr, rfl⟩
        cases hr with
        | bad h => exact absurd hg h
        | ok _ r9 ho =>
        obtain ⟨hsp, hok9⟩ := space_law (fun f => (hcb f).1) ho
        rcases Nat.lt_or_ge 20000 (cnt q i) with hlt | hge
        · obtain rfl := hsp hlt
          refine And.intro ⟨trivial, trivial, trivial⟩ (And.intro trivial ?_)
          refine And.intro (fun _ => ?_) fun h => absurd (of_decide_eq_false h) (by show ¬ ¬ ((cnt q i : Nat) : Int) > 20000; omega)
          repeat' first
            | refine And.intro (fun _ => ?_) fun h => Bool.noConfusion h
            | (refine SpecP.mono (f7_spec _) ?_; rintro _ _ ⟨rfl, rfl⟩)
            | exact Exists.intro [] (ret_bool rfl rfl)
        · obtain rfl := hok9 hge
          refine And.intro ⟨trivial, trivial, trivial⟩ (And.intro trivial ?_)
          refine And.intro (fun h => absurd (of_decide_eq_true h) (by show ¬ ((cnt q i : Nat) : Int) > 20000; omega)) fun _ => ?_
          refine And.intro (fun _ => ?_) fun h => Bool.noConfusion h
          refine And.intro (fun _ => ?_) fun h => absurd h (by show ¬ (wq c q i == wq c q i) = false; simp)
          repeat' first
            | refine And.intro (fun _ => ?_) fun h => Bool.noConfusion h
            | (refine SpecP.mono (f7_spec _) ?_; rintro _ _ ⟨rfl, rfl⟩)
            | exact Exists.intro [] (ret_bool rfl rfl)
      have hi : i < l.length := lt_of_dec h3
      have hc0 := cst_in (l.getD i 0)
      refine And.intro (by omega) (Exists.intro _ (And.intro (get_map hi) ?_))
      intro m1 hm1
      refine And.intro (by decide) ?_
      intro m2 hm2
      refine SpecP.mono (f8_spec (i : Int) (by omega) (by omega) _) ?_
      rintro _ _ ⟨rfl, rfl⟩
      refine someW_mk (cat_name (i := i) (by omega) _) ?_
      have hm : m2 = c i := by rw [hm2, hm1]; show _ = cst (l.getD i 0); rw [List.getD_eq_getElem?_getD, List.getElem?_eq_getElem hi]; rfl
      subst hm
      have lx : ∀ X : List T, ((x :: r) ++ [X]).length ≤ 18 := fun X => by rw [List.length_append, List.length_cons, List.length_singleton]; omega
      have lg : ∀ X : List T, ((g :: G) ++ [X]).length ≤ 18 := fun X => by rw [List.length_append, List.length_cons, List.length_singleton]; omega
      have la : ∀ X : List T, ((a :: A) ++ [X]).length ≤ 18 := fun X => by rw [List.length_append, List.length_cons, List.length_singleton]; omega
      have lw : ∀ X : List T, ((w :: W) ++ [X]).length ≤ 18 := fun X => by rw [List.length_append, List.length_cons, List.length_singleton]; omega
      have lo : ∀ X : List T, (O ++ [X]).length ≤ 18 := fun X => by
        have : O.length ≤ i := hIl
        rw [List.length_append, List.length_singleton]; omega
      have eF : x :: (r ++ [tS (nameS i)]) = tF (i + 1) := by rw [tF_step, ← hF]; rfl
      have eG : g :: (G ++ [tLit ⟨(i : Int), false⟩]) = tG (i + 1) := by rw [tG_step, ← hG]; rfl
      have eA : a :: (A ++ [tActS c i]) = tA c (i + 1) := by rw [tA_step, ← hA]; rfl
      have eW : w :: (W ++ [tI (i : Int)]) = tW (i + 1) := by rw [tW_step, ← hW]; rfl
      have eI := pI_step q i
      rw [← hI] at eI
      repeat first
        | refine And.intro (Nat.le_of_ble_eq_true rfl) ?_
        | refine And.intro rfl ?_
        | refine And.intro (Nat.le_trans (Nat.mul_le_mul_right _ (lx _)) (Nat.le_of_ble_eq_true rfl)) ?_
        | refine And.intro (Nat.le_trans (lx _) (Nat.le_of_ble_eq_true rfl)) ?_
        | refine And.intro (Nat.le_trans (Nat.mul_le_mul_right _ (lg _)) (Nat.le_of_ble_eq_true rfl)) ?_
        | refine And.intro (Nat.le_trans (lg _) (Nat.le_of_ble_eq_true rfl)) ?_
        | refine And.intro (Nat.le_trans (Nat.mul_le_mul_right _ (la _)) (Nat.le_of_ble_eq_true rfl)) ?_
        | refine And.intro (Nat.le_trans (la _) (Nat.le_of_ble_eq_true rfl)) ?_
        | refine And.intro (Nat.le_trans (Nat.mul_le_mul_right _ (lw _)) (Nat.le_of_ble_eq_true rfl)) ?_
        | refine And.intro (Nat.le_trans (lw _) (Nat.le_of_ble_eq_true rfl)) ?_
      refine And.intro (Int.natCast_nonneg _) ?_
      refine And.intro (fun h4 => ?_) fun h4 => ?_
      · have h4 : q i = true := h4
        have e7 : wq c q (i + 1) = wq c q i := by rw [wq, if_pos h4, Int.add_zero]
        have e8 : cnt q (i + 1) = cnt q i := by rw [cnt, if_pos h4]
        rw [if_pos h4] at eI
        repeat first
          | refine And.intro (Nat.le_of_ble_eq_true rfl) ?_
          | refine And.intro rfl ?_
          | refine And.intro (Nat.le_trans (Nat.mul_le_mul_right _ (lo _)) (Nat.le_of_ble_eq_true rfl)) ?_
          | refine And.intro (Nat.le_trans (lo _) (Nat.le_of_ble_eq_true rfl)) ?_
        refine And.intro (by show (-9223372036854775808 : Int) ≤ (i : Int) + 1; omega) (And.intro (by show (i : Int) + 1 ≤ 9223372036854775807; omega) ?_)
        first
          | (refine Exists.intro (i + 1, x :: (r ++ [tS (nameS i)]), g :: (G ++ [tLit ⟨(i : Int), false⟩]), a :: (A ++ [tActS c i]), w :: (W ++ [tI (i : Int)]), [tI (i : Int)]) (And.intro (by show l.length - (i + 1) < l.length - i; omega) (And.intro ⟨hi, eF, eG, eA, eW, eI.symm⟩ (And.intro ?_ rfl)))
             simp only [e7, e8]; rfl)
          | (refine Exists.intro (i + 1, x :: (r ++ [tS (nameS i)]), g :: (G ++ [tLit ⟨(i : Int), false⟩]), a :: (A ++ [tActS c i]), w :: (W ++ [tI (i : Int)]), y :: (z ++ [tI (i : Int)])) (And.intro (by show l.length - (i + 1) < l.length - i; omega) (And.intro ⟨hi, eF, eG, eA, eW, eI.symm⟩ (And.intro ?_ rfl)))
             simp only [e7, e8]; rfl)
      · have h4 : q i = false := h4
        have e7 : wq c q (i + 1) = wq c q i + c i := by rw [wq, if_neg (by rw [h4]; exact Bool.noConfusion)]
        have e8 : ((cnt q (i + 1) : Nat) : Int) = (cnt q i : Nat) * 2 := by rw [cnt, if_neg (by rw [h4]; exact Bool.noConfusion)]; omega
        rw [if_neg (by rw [h4]; exact Bool.noConfusion), List.append_nil] at eI
        refine And.intro (by show -9223372036854775808 ≤ wq c q i + cst (l.getD i 0); omega) (And.intro (by show wq c q i + cst (l.getD i 0) ≤ 9223372036854775807; omega) ?_)
        refine And.intro (by show -9223372036854775808 ≤ ((cnt q i : Nat) : Int) * 2; omega) (And.intro (by show ((cnt q i : Nat) : Int) * 2 ≤ 9223372036854775807; omega) ?_)
        refine And.intro (by show (-9223372036854775808 : Int) ≤ (i : Int) + 1; omega) (And.intro (by show (i : Int) + 1 ≤ 9223372036854775807; omega) ?_)
        refine Exists.intro (i + 1, x :: (r ++ [tS (nameS i)]), g :: (G ++ [tLit ⟨(i : Int), false⟩]), a :: (A ++ [tActS c i]), w :: (W ++ [tI (i : Int)]), O) (And.intro (by show l.length - (i + 1) < l.length - i; omega) (And.intro ⟨hi, eF, eG, eA, eW, eI.symm⟩ (And.intro ?_ rfl)))
        simp only [e7, e8]; rfl

end Go.Fw

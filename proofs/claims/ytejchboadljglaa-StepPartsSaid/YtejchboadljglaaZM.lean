/- Steps: states after actions, lists of actions that are executed. -/
import Derived.Test.YtejchboadljglaaZL
import Derived.Test.YtejchboadljglaaZQ

/- The state after an action: the plain law. -/
namespace Go.Fw
open Go Go.Proofs

theorem perm_eraseIdx {α : Type} {a : α} : ∀ {l : List α} {i : Nat}, l[i]? = some a → l.Perm (a :: l.eraseIdx i)
  | [], i, h => by simp at h
  | x :: r, 0, h => by simp at h; subst h; exact List.Perm.refl _
  | x :: r, i + 1, h => by
    have ih := perm_eraseIdx (l := r) (i := i) (by simpa using h)
    rw [List.eraseIdx_cons_succ]
    exact (ih.cons x).trans (List.Perm.swap _ _ _)

theorem inc_ext : ∀ {l m : List Int}, l.Pairwise (· < ·) → m.Pairwise (· < ·) → (∀ x, x ∈ l ↔ x ∈ m) → l = m
  | [], [], _, _, _ => rfl
  | [], b :: m, _, _, h => by have := (h b).2 (List.mem_cons_self ..); cases this
  | a :: l, [], _, _, h => by have := (h a).1 (List.mem_cons_self ..); cases this
  | a :: l, b :: m, hl, hm, h => by
    obtain ⟨hl1, hl2⟩ := List.pairwise_cons.1 hl
    obtain ⟨hm1, hm2⟩ := List.pairwise_cons.1 hm
    have hab : a = b := by
      rcases List.mem_cons.1 ((h a).1 (List.mem_cons_self ..)) with h1 | h1
      · exact h1
      · rcases List.mem_cons.1 ((h b).2 (List.mem_cons_self ..)) with h2 | h2
        · exact h2.symm
        · have := hm1 a h1; have := hl1 b h2; omega
    subst hab
    rw [inc_ext hl2 hm2 fun x => ?_]
    constructor
    · intro hx
      rcases List.mem_cons.1 ((h x).1 (List.mem_cons_of_mem _ hx)) with h1 | h1
      · have := hl1 x hx; omega
      · exact h1
    · intro hx
      rcases List.mem_cons.1 ((h x).2 (List.mem_cons_of_mem _ hx)) with h1 | h1
      · have := hm1 x hx; omega
      · exact h1

theorem listFrom_inc : ∀ (b : List Bool) (k : Nat), (listFrom k b).Pairwise (· < ·) ∧ ∀ x ∈ listFrom k b, (k : Int) ≤ x
  | [], k => ⟨.nil, by simp [listFrom]⟩
  | b :: r, k => by
    obtain ⟨h1, h2⟩ := listFrom_inc r (k + 1)
    cases b with
    | false => exact ⟨by simpa [listFrom] using h1, fun x hx => by have := h2 x (by simpa [listFrom] using hx); omega⟩
    | true =>
      have e : listFrom k (true :: r) = (k : Int) :: listFrom (k + 1) r := rfl
      rw [e]
      refine ⟨List.pairwise_cons.2 ⟨fun x hx => by have := h2 x hx; omega, h1⟩, fun x hx => ?_⟩
      rcases List.mem_cons.1 hx with rfl | hx
      · omega
      · have := h2 x hx; omega
theorem listL_inc (b : List Bool) : (listL b).Pairwise (· < ·) := (listFrom_inc b 0).1

theorem rising_inc {l : List Int} {n : Int} (h : risingB l n = true) : l.Pairwise (· < ·) := List.pairwise_iff_getElem.2 fun i j _ hj hij => rising_lt h j i hj hij
theorem inc_nodup {l : List Int} (h : l.Pairwise (· < ·)) : l.Nodup := h.imp fun hab => by omega
theorem hasB_mem {l : List Int} {x : Int} : hasB l x = true ↔ x ∈ l := by simp [hasB, List.any_eq_true]

theorem sort_inc {L M : List Int} (hn : L.Nodup) (hM : M.Pairwise (· < ·)) (h : ∀ x, x ∈ L ↔ x ∈ M) : (L.mergeSort fun x y => decide (x ≤ y)) = M := by
  have hp := List.mergeSort_perm L fun x y => decide (x ≤ y)
  have hs := List.pairwise_mergeSort (le := fun x y : Int => decide (x ≤ y)) (fun a b c h1 h2 => by simp at *; omega) (fun a b => by simp; omega) L
  have hn' := hp.nodup_iff.2 hn
  refine inc_ext ((hs.and hn').imp fun ⟨h1, h2⟩ => by simp at h1; omega) hM fun x => ?_
  rw [hp.mem_iff]; exact h x

def posB (s : List Int) (l : List Eff) (x : Int) : Bool := l.any fun e => (!e.lit.neg && holdsB s e.when_) && e.lit.fact == x
def negB (s : List Int) (l : List Eff) (x : Int) : Bool := l.any fun e => (e.lit.neg && holdsB s e.when_) && e.lit.fact == x

theorem neg_get {s : List Int} {n f : Nat} : ∀ {l : List Eff} {b : List Bool}, factsIn n l → b.length = n → (l.foldl (negStep s) b).getD f false = (b.getD f false && !negB s l (f : Int))
  | [], b, _, _ => by simp [negB]
  | e :: r, b, hl, hb => by
    have hin := hl e (List.mem_cons_self ..)
    rw [List.foldl_cons, neg_get (fun x hx => hl x (List.mem_cons_of_mem _ hx)) (by rw [neg_len, hb])]
    have e1 : negB s (e :: r) (f : Int) = (((e.lit.neg && holdsB s e.when_) && e.lit.fact == (f : Int)) || negB s r (f : Int)) := rfl
    rw [e1]
    unfold negStep
    split
    · rename_i hc
      rw [hc, getD_set (by have := hin.1; have := hin.2; omega)]
      by_cases hf : e.lit.fact.toNat = f
      · rw [if_pos hf]
        have : (e.lit.fact == (f : Int)) = true := by simp; have := hin.1; omega
        simp [this]
      · rw [if_neg hf]
        have : (e.lit.fact == (f : Int)) = false := by simp; intro h; exact hf (by omega)
        simp [this]
    · rename_i hc
      have hc : (e.lit.neg && holdsB s e.when_) = false := by simpa using hc
      rw [hc]; simp
theorem pos_get {s : List Int} {n f : Nat} : ∀ {l : List Eff} {b : List Bool}, factsIn n l → b.length = n → (l.foldl (posStep s) b).getD f false = (b.getD f false || posB s l (f : Int))
  | [], b, _, _ => by simp [posB]
  | e :: r, b, hl, hb => by
    have hin := hl e (List.mem_cons_self ..)
    rw [List.foldl_cons, pos_get (fun x hx => hl x (List.mem_cons_of_mem _ hx)) (by rw [pos_len, hb])]
    have e1 : posB s (e :: r) (f : Int) = (((!e.lit.neg && holdsB s e.when_) && e.lit.fact == (f : Int)) || posB s r (f : Int)) := rfl
    rw [e1]
    unfold posStep
    split
    · rename_i hc
      rw [hc, getD_set (by have := hin.1; have := hin.2; omega)]
      by_cases hf : e.lit.fact.toNat = f
      · rw [if_pos hf]
        have : (e.lit.fact == (f : Int)) = true := by simp; have := hin.1; omega
        simp [this]
      · rw [if_neg hf]
        have : (e.lit.fact == (f : Int)) = false := by simp; intro h; exact hf (by omega)
        simp [this]
    · rename_i hc
      have hc : (!e.lit.neg && holdsB s e.when_) = false := by simpa using hc
      rw [hc]; simp
theorem after_get {n : Nat} {s : List Int} {l : List Eff} {f : Nat} (hl : factsIn n l) (hs : ∀ x ∈ s, 0 ≤ x ∧ x < (n : Int)) (hf : f < n) : hasB (afterL n s l) (f : Int) = ((hasB s (f : Int) && !negB s l (f : Int)) || posB s l (f : Int)) := by
  rw [afterL, hasB_listL, afterBits, pos_get hl (by rw [negAll, foldl_len (neg_len s), bitsL_length]), negAll, neg_get hl (bitsL_length _ _), bits_get hs hf]

/-- What the program gathers, sorted, is the state after the action. -/
theorem after_sort {n : Nat} {s : List Int} {l : List Eff} {A A' D : List Int} (hl : factsIn n l) (hs : risingB s n = true) (hA : ∀ x, hasB A x = posB s l x) (hD : ∀ x, hasB D x = negB s l x) (hn : A.Nodup) (hp : A'.Perm A) :
    ((s.filter (fun x => !hasB D x || hasB A x) ++ A'.filter fun x => !hasB s x).mergeSort fun x y => decide (x ≤ y)) = afterL n s l := by
  have hin := rising_in hs
  have hns := inc_nodup (rising_inc hs)
  refine sort_inc ?_ (listL_inc _) fun x => ?_
  · refine List.nodup_append.2 ⟨hns.filter _, (hp.nodup_iff.2 hn).filter _, fun a ha b hb hab => ?_⟩
    subst hab
    have h1 := (List.mem_filter.1 ha).1
    have h2 := (List.mem_filter.1 hb).2
    rw [hasB_mem.2 h1] at h2; cases h2
  · have key : ∀ f : Nat, f < n → ((f : Int) ∈ (s.filter (fun x => !hasB D x || hasB A x) ++ A'.filter fun x => !hasB s x) ↔ hasB (afterL n s l) (f : Int) = true) := by
      intro f hf
      rw [after_get hl hin hf, List.mem_append, List.mem_filter, List.mem_filter, hp.mem_iff, ← hasB_mem (l := s), ← hasB_mem (l := A), hA, hD]
      cases hasB s (f : Int) <;> cases negB s l (f : Int) <;> cases posB s l (f : Int) <;> simp
    have hmemA : ∀ x ∈ A, 0 ≤ x ∧ x < (n : Int) := fun x hx => by
      have := hasB_mem.2 hx
      rw [hA, posB, List.any_eq_true] at this
      obtain ⟨e, he, h⟩ := this
      simp only [Bool.and_eq_true, beq_iff_eq] at h
      rw [← h.2]; exact hl e he
    constructor
    · intro hx
      have hr : 0 ≤ x ∧ x < (n : Int) := by
        rcases List.mem_append.1 hx with h | h
        · exact hin x (List.mem_filter.1 h).1
        · exact hmemA x (hp.mem_iff.1 (List.mem_filter.1 h).1)
      obtain ⟨f, rfl⟩ : ∃ f : Nat, x = (f : Int) := ⟨x.toNat, by omega⟩
      exact hasB_mem.1 ((key f (by omega)).1 hx)
    · intro hx
      have hr := after_in n s l x hx
      obtain ⟨f, rfl⟩ : ∃ f : Nat, x = (f : Int) := ⟨x.toNat, by omega⟩
      exact (key f (by omega)).2 (hasB_mem.2 hx)

theorem upd_kvN (x : Int) {l : List Int} (hn : l.Nodup) : ∃ m, updKV (.int .i64 x) (.v (.bool true)) (kvI l) = kvI m ∧ (∀ y, hasB m y = (hasB l y || x == y)) ∧ m.Nodup ∧ m.length ≤ l.length + 1 := by
  have key : ∀ l : List Int, updKV (.int .i64 x) (.v (.bool true)) (kvI l) = kvI (if hasB l x = true then l else l ++ [x]) := by
    intro l
    induction l with
    | nil => rfl
    | cons z r ih =>
      by_cases h : x = z
      · subst h
        simp only [kvI, List.map_cons, updKV]
        rw [if_pos (show sameK (.int .i64 x) (.int .i64 x) = true by simp [sameK]), if_pos (by simp [hasB])]
        rfl
      · simp only [kvI, List.map_cons, updKV] at ih ⊢
        rw [if_neg (show ¬ sameK (.int .i64 x) (.int .i64 z) = true by simpa [sameK] using h), ih]
        have h2 : (z == x) = false := by simpa using fun hh => h hh.symm
        have e : hasB (z :: r) x = hasB r x := by simp only [hasB, List.any_cons, h2, Bool.false_or]
        rw [e]
        split <;> rfl
  refine ⟨_, key l, fun y => ?_, ?_, ?_⟩
  · split
    · rename_i hx
      by_cases hxy : x = y
      · subst hxy; rw [hx]; simp
      · have : (x == y) = false := by simpa using hxy
        rw [this, Bool.or_false]
    · exact hasB_snoc l x y
  · split
    · exact hn
    · rename_i hx
      refine List.nodup_append.2 ⟨hn, by simp, fun a ha b hb hab => ?_⟩
      simp at hb; subst hb; subst hab
      exact hx (hasB_mem.2 ha)
  · split <;> simp

end Go.Fw

/- What the program's functions do, part 38: the state after an action. -/
namespace Go.Fw
open Go Go.Proofs
set_option maxRecDepth 10000

theorem accV_ne {σ sz : Nat} {es : List (List T)} (h : es ≠ []) : accV σ sz es = .osl (.cur σ) sz 0 es.length := by
  cases es with
  | nil => exact absurd rfl h
  | cons x r => rfl
theorem accO_ne {σ e sz : Nat} {es : List (List T)} (h : es ≠ []) : accO σ e sz es = [(σ, .row e sz es)] := by
  cases es with
  | nil => exact absurd rfl h
  | cons x r => rfl
theorem kvI_erase : ∀ (R : List Int) (i : Nat), (kvI R).eraseIdx i = kvI (R.eraseIdx i)
  | [], _ => rfl
  | _ :: _, 0 => rfl
  | _ :: r, i + 1 => congrArg (_ :: ·) (kvI_erase r i)
theorem kvI_get {R : List Int} {i : Nat} {p : Value × T} (h : (kvI R)[i]? = some p) : ∃ x, R[i]? = some x ∧ p = (.int .i64 x, .v (.bool true)) := by
  rw [kvI, List.getElem?_map] at h
  cases hx : R[i]? with
  | none => rw [hx] at h; cases h
  | some x => rw [hx] at h; cases h; exact ⟨x, rfl, rfl⟩
theorem posB_step {s : List Int} {l : List Eff} {i : Nat} (hi : i < l.length) (x : Int) : posB s (l.take (i + 1)) x = (posB s (l.take i) x || ((!l[i].lit.neg && holdsB s l[i].when_) && l[i].lit.fact == x)) := by
  rw [posB, List.take_add_one, List.getElem?_eq_getElem hi, Option.toList_some, List.any_append]; simp [posB]
theorem negB_step {s : List Int} {l : List Eff} {i : Nat} (hi : i < l.length) (x : Int) : negB s (l.take (i + 1)) x = (negB s (l.take i) x || ((l[i].lit.neg && holdsB s l[i].when_) && l[i].lit.fact == x)) := by
  rw [negB, List.take_add_one, List.getElem?_eq_getElem hi, Option.toList_some, List.any_append]; simp [negB]
theorem filter_step {l : List Int} {p : Int → Bool} {i : Nat} (hi : i < l.length) : (l.take (i + 1)).filter p = (l.take i).filter p ++ if p l[i] then [l[i]] else [] := by
  rw [List.take_add_one, List.getElem?_eq_getElem hi, Option.toList_some, List.filter_append]
  cases h : p l[i] <;> simp [h]
theorem filter_len {l : List Int} {p : Int → Bool} : (l.filter p).length ≤ l.length := List.length_filter_le ..

def kp76 : Kp := [(3, ([0, 5, 6, 16, 17, 18], [104, 112])), (12, ([0, 5, 6, 9, 38, 39, 40], [104, 112, 448])), (18, ([0, 9, 59], [472, 448, 568]))]
theorem f76_spec (n1 : Bool) (s : List Int) (a : Actn) (n : Nat) (hs : risingB s n = true) (hn : n ≤ 1000000000) (hf : factsIn n a.effs) (he : a.effs.length ≤ 1000000) (out : List Fr) :
    SpecP Try.prog 76 [.ints n1 s, .act a] out fun r ro => r = .t (sT (afterL n s a.effs)) ∧ ro = [] := by
  refine SpecP.close (Post := fun r ro => ∃ σ, r = accV σ 1 ((afterL n s a.effs).map tI) ∧ ro = accO σ 3 1 ((afterL n s a.effs).map tI)) ?_ ?_
  rotate_left
  · rintro r ro ⟨σ, rfl, rfl⟩
    generalize afterL n s a.effs = L
    cases L with
    | nil => exact ⟨_, .same _, rfl, rfl⟩
    | cons x r =>
      refine ⟨_, .row σ 3 1 0 _ ((x :: r).map tI) (by show look [(σ, _)] σ = _; rw [look_cons, if_pos rfl]; rfl) (by simp), ?_, rfl⟩
      show LV.t (.sl false 1 ((((x :: r).map tI).drop 0).take ((x :: r).map tI).length)) = _
      rw [← take_all]; rfl
  refine spec_body cx_ok kp76 [] (fn := Try.f76) (by kernel_rfl) rfl (by kernel_rfl) rfl (by unfold FnOK; kernel_rfl) fun hok => ?_
  have hsl := rising_len hs (by omega)
  refine LoopW.mk (Nat × List Int × List Int) (fun u => u.1 ≤ a.effs.length ∧ (∀ x, hasB u.2.1 x = posB s (a.effs.take u.1) x) ∧ (∀ x, hasB u.2.2 x = negB s (a.effs.take u.1) x) ∧ u.2.1.Nodup ∧ u.2.2.Nodup ∧ u.2.1.length ≤ u.1)
    (fun u => [(0, .ints n1 s), (5, .mpr (.cur 104)), (6, .mpr (.cur 112)), (16, .t (.sl a.en 3 (a.effs.map tEff))), (17, .int (a.effs.map tEff).length), (18, .int u.1)])
    (fun u => ⟨out, [(104, .mp (.int .i64) (kvI u.2.1)), (112, .mp (.int .i64) (kvI u.2.2))]⟩) (fun u => a.effs.length - u.1) (0, [], []) ⟨Nat.zero_le _, fun _ => rfl, fun _ => rfl, .nil, .nil, Nat.le_refl _⟩ ⟨rfl, rfl⟩ ?_
  rintro ⟨i, A, D⟩ ⟨hi0, hA, hD, hAn, hDn, hAl⟩
  simp only at hi0 hA hD hAn hDn hAl
  refine And.intro (fun h1 => ?_) fun h1 => ?_
  · have hi := lt_of_dec h1
    refine And.intro (by omega) (Exists.intro _ (And.intro (get_map hi) ?_))
    refine SpecP.mono (f56_spec n1 a.effs[i].nil s a.effs[i].when_ n hs (by omega) []) ?_
    rintro _ _ ⟨rfl, rfl⟩
    have fin : ∀ (A' D' : List Int), (∀ x, hasB A' x = (hasB A x || ((!a.effs[i].lit.neg && holdsB s a.effs[i].when_) && a.effs[i].lit.fact == x))) → (∀ x, hasB D' x = (hasB D x || ((a.effs[i].lit.neg && holdsB s a.effs[i].when_) && a.effs[i].lit.fact == x))) → A'.Nodup → D'.Nodup → A'.length ≤ i + 1 →
        (i + 1 ≤ a.effs.length ∧ (∀ x, hasB A' x = posB s (a.effs.take (i + 1)) x) ∧ (∀ x, hasB D' x = negB s (a.effs.take (i + 1)) x) ∧ A'.Nodup ∧ D'.Nodup ∧ A'.length ≤ i + 1) := fun A' D' h1 h2 h3 h4 h5 =>
      ⟨hi, fun x => by rw [h1, posB_step hi, hA], fun x => by rw [h2, negB_step hi, hD], h3, h4, h5⟩
    refine And.intro (fun h2 => ?_) fun h2 => ?_
    · refine And.intro (fun h3 => ?_) fun h3 => ?_
      · obtain ⟨m, g1, g2, g3, _⟩ := upd_kvN a.effs[i].lit.fact hDn
        refine And.intro (by omega) (And.intro (by omega) ?_)
        refine Exists.intro (i + 1, A, m) (And.intro (by show a.effs.length - (i + 1) < a.effs.length - i; omega) (And.intro (fin A m (fun x => by rw [h3]; simp) (fun x => by rw [g2, h2, h3]; simp) hAn g3 (by omega)) (And.intro rfl ?_)))
        show (⟨out, [(104, .mp (.int .i64) (kvI A)), (112, .mp (.int .i64) (updKV (.int .i64 a.effs[i].lit.fact) (.v (.bool true)) (kvI D)))]⟩ : St) = _
        rw [g1]
      · obtain ⟨m, g1, g2, g3, g4⟩ := upd_kvN a.effs[i].lit.fact hAn
        refine And.intro (by omega) (And.intro (by omega) ?_)
        refine Exists.intro (i + 1, m, D) (And.intro (by show a.effs.length - (i + 1) < a.effs.length - i; omega) (And.intro (fin m D (fun x => by rw [g2, h2, h3]; simp) (fun x => by rw [h3]; simp) g3 hDn (by omega)) (And.intro rfl ?_)))
        show (⟨out, [(104, .mp (.int .i64) (updKV (.int .i64 a.effs[i].lit.fact) (.v (.bool true)) (kvI A))), (112, .mp (.int .i64) (kvI D))]⟩ : St) = _
        rw [g1]
    · refine And.intro (by omega) (And.intro (by omega) ?_)
      exact Exists.intro (i + 1, A, D) (And.intro (by show a.effs.length - (i + 1) < a.effs.length - i; omega) (And.intro (fin A D (fun x => by rw [h2]; simp) (fun x => by rw [h2]; simp) hAn hDn (by omega)) (And.intro rfl rfl)))
  have hi : a.effs.length ≤ i := ge_of_dec h1
  rw [List.take_of_length_le hi] at hA hD
  have hAl : A.length ≤ 1000000 := by omega
  clear h1 hi hi0
  -- what stays
  refine LoopW.mk (Nat × List Int) (fun u => u.1 ≤ s.length ∧ u.2 = (s.take u.1).filter (fun x => !hasB D x || hasB A x)) (fun u => [(0, .ints n1 s), (5, .mpr (.cur 104)), (6, .mpr (.cur 112)), (9, accV 448 1 (u.2.map tI)), (38, .ints n1 s), (39, .int (s.map tI).length), (40, .int u.1)])
    (fun u => ⟨out, (104, .mp (.int .i64) (kvI A)) :: (112, .mp (.int .i64) (kvI D)) :: accO 448 3 1 (u.2.map tI)⟩) (fun u => s.length - u.1) (0, []) ⟨Nat.zero_le _, rfl⟩ ⟨rfl, rfl⟩ ?_
  rintro ⟨j, L⟩ ⟨hj0, hL⟩
  simp only at hj0 hL
  have hLl : L.length ≤ s.length := by rw [hL]; exact Nat.le_trans filter_len (by simp; omega)
  have hpl : ∀ {x : Int}, (!hasB D x || hasB A x) = false → hasB D x = true ∧ hasB A x = false := fun {x} h => by
    cases h1 : hasB D x <;> cases h2 : hasB A x <;> simp [h1, h2] at h ⊢
  rcases L with _ | ⟨y, r⟩
  all_goals
    refine And.intro (fun h1 => ?_) fun h1 => ?_
    · have hj := lt_of_dec h1
      have stp := filter_step (l := s) (p := fun x => !hasB D x || hasB A x) hj
      rw [← hL] at stp
      have hlen := hok.1.1
      refine And.intro (by omega) (Exists.intro _ (And.intro (get_map hj) ?_))
      refine Exists.intro _ (And.intro (look_kvI _ _) ?_)
      refine And.intro (fun h2 => ?_) fun h2 => ?_
      · refine Exists.intro _ (And.intro (look_kvI _ _) ?_)
        refine And.intro (fun h3 => ?_) fun h3 => ?_
        · have hp : (!hasB D s[j] || hasB A s[j]) = true := by rw [h2, h3]; rfl
          simp only [hp, if_true] at stp
          first
            | (refine And.intro (Nat.le_of_ble_eq_true rfl) (And.intro (Nat.le_of_ble_eq_true rfl) (And.intro (Nat.le_of_ble_eq_true rfl) ?_))
               refine And.intro (by omega) (And.intro (by omega) ?_)
               exact Exists.intro (j + 1, [s[j]]) (And.intro (by show s.length - (j + 1) < s.length - j; omega) (And.intro ⟨hj, stp.symm⟩ (And.intro rfl rfl))))
            | (have hl2 : ((tI y :: r.map tI) ++ [tI s[j]]).length ≤ s.length + 1 := by simp at hLl ⊢; omega
               refine And.intro (Nat.le_of_ble_eq_true rfl) (And.intro rfl (And.intro (by show ((tI y :: r.map tI) ++ [tI s[j]]).length * 8 ≤ _; omega) (And.intro (by show ((tI y :: r.map tI) ++ [tI s[j]]).length ≤ _; omega) ?_)))
               refine And.intro (by omega) (And.intro (by omega) ?_)
               have e : (r ++ [s[j]]).map tI = r.map tI ++ [tI s[j]] := by simp
               refine Exists.intro (j + 1, y :: (r ++ [s[j]])) (And.intro (by show s.length - (j + 1) < s.length - j; omega) (And.intro ⟨hj, stp.symm⟩ ?_))
               simp only [List.map_cons, e]
               exact And.intro rfl rfl)
        · have hp : (!hasB D s[j] || hasB A s[j]) = false := by rw [h2, h3]; rfl
          simp only [hp, Bool.false_eq_true, if_false, List.append_nil] at stp
          refine And.intro (by omega) (And.intro (by omega) ?_)
          exact Exists.intro (j + 1, _) (And.intro (by show s.length - (j + 1) < s.length - j; omega) (And.intro ⟨hj, stp.symm⟩ (And.intro rfl rfl)))
      · have hp : (!hasB D s[j] || hasB A s[j]) = true := by rw [h2]; rfl
        simp only [hp, if_true] at stp
        first
          | (refine And.intro (Nat.le_of_ble_eq_true rfl) (And.intro (Nat.le_of_ble_eq_true rfl) (And.intro (Nat.le_of_ble_eq_true rfl) ?_))
             refine And.intro (by omega) (And.intro (by omega) ?_)
             exact Exists.intro (j + 1, [s[j]]) (And.intro (by show s.length - (j + 1) < s.length - j; omega) (And.intro ⟨hj, stp.symm⟩ (And.intro rfl rfl))))
          | (have hl2 : ((tI y :: r.map tI) ++ [tI s[j]]).length ≤ s.length + 1 := by simp at hLl ⊢; omega
             refine And.intro (Nat.le_of_ble_eq_true rfl) (And.intro rfl (And.intro (by show ((tI y :: r.map tI) ++ [tI s[j]]).length * 8 ≤ _; omega) (And.intro (by show ((tI y :: r.map tI) ++ [tI s[j]]).length ≤ _; omega) ?_)))
             refine And.intro (by omega) (And.intro (by omega) ?_)
             have e : (r ++ [s[j]]).map tI = r.map tI ++ [tI s[j]] := by simp
             refine Exists.intro (j + 1, y :: (r ++ [s[j]])) (And.intro (by show s.length - (j + 1) < s.length - j; omega) (And.intro ⟨hj, stp.symm⟩ ?_))
             simp only [List.map_cons, e]
             exact And.intro rfl rfl)
    have hj : s.length ≤ j := ge_of_dec h1
    rw [List.take_of_length_le hj] at hL
    have hbig : ∀ {L1 Pd R : List Int}, L1.length ≤ s.length → (Pd ++ R).Perm A → (L1 ++ Pd.filter fun x => !hasB s x).length ≤ 1001000000 := fun {L1 Pd R} h1 h2 => by
      have h3 := h2.length_eq
      have h4 := filter_len (l := Pd) (p := fun x => !hasB s x)
      rw [List.length_append] at h3 ⊢; omega
    first
      | refine LoopW.mk ((Value × T) × List Int × List Int) (fun u => ∃ Pd, (Pd ++ u.2.1).Perm A ∧ u.2.2 = [] ++ Pd.filter fun x => !hasB s x) (fun u => [(0, .ints n1 s), (9, accV 568 1 (u.2.2.map tI)), (59, .ptr (.cur 472) 0)])
          (fun u => ⟨out, (472, .mit (.cur 104) (u.1 :: kvI u.2.1)) :: accO 568 3 1 (u.2.2.map tI)⟩) (fun u => u.2.1.length) ((.slice none 0 0, .v (.bool false)), A, []) ⟨[], List.Perm.refl _, rfl⟩ ⟨rfl, rfl⟩ ?_
      | refine LoopW.mk ((Value × T) × List Int × List Int) (fun u => ∃ Pd, (Pd ++ u.2.1).Perm A ∧ u.2.2 = (y :: r) ++ Pd.filter fun x => !hasB s x) (fun u => [(0, .ints n1 s), (9, accV 448 1 (u.2.2.map tI)), (59, .ptr (.cur 472) 0)])
          (fun u => ⟨out, (472, .mit (.cur 104) (u.1 :: kvI u.2.1)) :: accO 448 3 1 (u.2.2.map tI)⟩) (fun u => u.2.1.length) ((.slice none 0 0, .v (.bool false)), A, y :: r) ⟨[], List.Perm.refl _, by simp⟩ ⟨rfl, rfl⟩ ?_
    rintro ⟨c, R, L⟩ ⟨Pd, hP, hL3⟩
    simp only at hP hL3
    have hLl3 : L.length ≤ 1001000000 := by rw [hL3]; exact hbig hLl hP
    rcases L with _ | ⟨z, q⟩
    all_goals
      first
        | (exfalso; simp at hL3; done)
        | (refine And.intro (fun hz => ?_) fun i p hp => ?_
           · have hR : R = [] := by
               cases R with
               | nil => rfl
               | cons _ _ => cases hz
             rw [hR, List.append_nil] at hP
             have hS := after_sort (n := n) (l := a.effs) (A' := Pd) (D := D) hf hs hA hD hAn hP
             rw [← hL, ← hL3] at hS
             refine And.intro (fun h => Bool.noConfusion h) fun _ => ?_
             first
               | (have hS0 : afterL n s a.effs = [] := by rw [← hS]; exact List.mergeSort_nil ..
                  exact Exists.intro [568] ⟨568, by rw [hS0]; rfl, by rw [hS0]; rfl⟩)
               | (refine Exists.intro (z :: q) (And.intro rfl (And.intro (by simp) (And.intro (by omega) ?_)))
                  have hlm : ((z :: q).mergeSort fun x y => decide (x ≤ y)).length = (z :: q).length := List.length_mergeSort ..
                  have hne : (afterL n s a.effs).map tI ≠ [] := fun h => by
                    rw [← hS] at h
                    have := congrArg List.length h
                    rw [List.length_map, hlm] at this
                    simp at this
                  have hln : ((afterL n s a.effs).map tI).length = ((z :: q).map tI).length := by rw [← hS]; simp
                  first
                    | (refine Exists.intro [568] ⟨568, ?_, ?_⟩
                       · rw [accV_ne hne, hln]; rfl
                       · rw [accO_ne hne, ← hS]; rfl)
                    | (refine Exists.intro [448] ⟨448, ?_, ?_⟩
                       · rw [accV_ne hne, hln]; rfl
                       · rw [accO_ne hne, ← hS]; rfl))
           · obtain ⟨x, hx, rfl⟩ := kvI_get hp
             have hil : i < R.length := (List.getElem?_eq_some_iff.1 hx).1
             have hms : (R.eraseIdx i).length < R.length := by rw [List.length_eraseIdx_of_lt hil]; omega
             have hP' : ((Pd ++ [x]) ++ R.eraseIdx i).Perm A := by
               rw [List.append_assoc]
               exact ((perm_eraseIdx hx).symm.append_left Pd).trans hP
             refine And.intro (fun _ => ?_) fun h => Bool.noConfusion h
             refine SpecP.mono (f88_spec n1 s n x hs (by omega) []) ?_
             rintro _ _ ⟨rfl, rfl⟩
             refine And.intro (fun h3 => ?_) fun h3 => ?_
             · first
                 | (refine Exists.intro ((.int .i64 x, .v (.bool true)), R.eraseIdx i, []) (And.intro hms (And.intro ⟨Pd ++ [x], hP', ?_⟩ (And.intro rfl ?_)))
                    · show _ = _ ++ (Pd ++ [x]).filter fun x => !hasB s x
                      rw [show (Pd ++ [x]).filter (fun x => !hasB s x) = Pd.filter fun x => !hasB s x by rw [List.filter_append]; simp [h3]]; exact hL3
                    · simp only [← kvI_erase]; rfl)
                 | (refine Exists.intro ((.int .i64 x, .v (.bool true)), R.eraseIdx i, z :: q) (And.intro hms (And.intro ⟨Pd ++ [x], hP', ?_⟩ (And.intro rfl ?_)))
                    · show _ = _ ++ (Pd ++ [x]).filter fun x => !hasB s x
                      rw [show (Pd ++ [x]).filter (fun x => !hasB s x) = Pd.filter fun x => !hasB s x by rw [List.filter_append]; simp [h3]]; exact hL3
                    · simp only [← kvI_erase]; rfl)
             · have hfx : (Pd ++ [x]).filter (fun x => !hasB s x) = (Pd.filter fun x => !hasB s x) ++ [x] := by rw [List.filter_append]; simp [h3]
               first
                 | (refine And.intro (Nat.le_of_ble_eq_true rfl) (And.intro (Nat.le_of_ble_eq_true rfl) (And.intro (Nat.le_of_ble_eq_true rfl) ?_))
                    refine Exists.intro ((.int .i64 x, .v (.bool true)), R.eraseIdx i, [x]) (And.intro hms (And.intro ⟨Pd ++ [x], hP', ?_⟩ (And.intro rfl ?_)))
                    · show [x] = _ ++ (Pd ++ [x]).filter fun x => !hasB s x
                      rw [hfx, ← List.append_assoc, ← hL3]; rfl
                    · simp only [← kvI_erase]; rfl)
                 | (have hl2 : ((tI z :: q.map tI) ++ [tI x]).length ≤ 1001000001 := by simp at hLl3 ⊢; omega
                    refine And.intro (Nat.le_of_ble_eq_true rfl) (And.intro rfl (And.intro (by show ((tI z :: q.map tI) ++ [tI x]).length * 8 ≤ _; omega) (And.intro (by show ((tI z :: q.map tI) ++ [tI x]).length ≤ _; omega) ?_)))
                    have e : (q ++ [x]).map tI = q.map tI ++ [tI x] := by simp
                    refine Exists.intro ((.int .i64 x, .v (.bool true)), R.eraseIdx i, z :: (q ++ [x])) (And.intro hms (And.intro ⟨Pd ++ [x], hP', ?_⟩ ?_))
                    · show z :: (q ++ [x]) = _ ++ (Pd ++ [x]).filter fun x => !hasB s x
                      rw [hfx, ← List.append_assoc, ← hL3]; rfl
                    · simp only [List.map_cons, e, ← kvI_erase]
                      exact And.intro rfl rfl))

end Go.Fw

/- What the program's functions do, part 39: copies of lists, lists of actions. -/
namespace Go.Fw
open Go Go.Proofs
set_option maxRecDepth 10000

theorem vt_nil {RO : Nat → Prop} {w : World} {v : Value} {b : Bool} {sz : Nat} {es : List (List T)} (h : VT RO w (.sl b sz es) v) : b = true → es = [] := fun hb => by
  cases h <;> first | rfl | cases hb
/-- A nil argument has no elements. -/
theorem SpecP.nil_arg {P : Program} {f : Nat} {args : List LV} {out : List Fr} {Post : LV → Fr → Prop} {i : Nat} {n1 : Bool} {s : List Int} (hi : args[i]? = some (.ints n1 s)) (hfn : FnOK P f) (h : (n1 = true → s = []) → SpecP P f args out Post) : SpecP P f args out Post :=
  ⟨hfn, fun β RO w vals hw hv => (h fun hn => by
    have hl : i < vals.length := by rw [← hv.1]; exact (List.getElem?_eq_some_iff.1 hi).1
    have hx := hv.2 i _ _ hi (List.getElem?_eq_getElem hl)
    cases hx with
    | t _ _ hx => exact List.map_eq_nil_iff.1 (vt_nil hx hn)).calls β RO w vals hw hv⟩

theorem f96_spec (n1 : Bool) (s : List Int) (hl : s.length ≤ 1000000000) (out : List Fr) : SpecP Try.prog 96 [.ints n1 s] out fun r ro => r = .ints n1 s ∧ ro = [] := by
  refine SpecP.nil_arg (i := 0) rfl (by unfold FnOK; kernel_rfl) fun hnil => ?_
  refine SpecP.close (Post := fun r ro => (n1 = true ∧ r = .t (.sl true 0 []) ∧ ro = []) ∨ (n1 = false ∧ r = .osl (.cur 40) 1 0 (s.map tI).length ∧ ro = [(40, .row 3 1 (s.map tI))])) ?_ ?_
  rotate_left
  · rintro r ro (⟨rfl, rfl, rfl⟩ | ⟨rfl, rfl, rfl⟩)
    · rw [hnil rfl]; exact ⟨_, .nil 0 1, rfl, rfl⟩
    · refine ⟨_, .row 40 3 1 0 _ (s.map tI) (by rw [look_cons, if_pos rfl]) (by simp), ?_, rfl⟩
      rw [← take_all]
  refine spec_body cx_ok [] [] (fn := Try.f96) (by kernel_rfl) rfl (by kernel_rfl) rfl (by unfold FnOK; kernel_rfl) fun hok => ?_
  have hsl : (s.map tI).length = s.length := List.length_map ..
  refine And.intro (fun h => ?_) fun h => ?_
  · exact Exists.intro [] (.inl ⟨h, rfl, rfl⟩)
  refine And.intro rfl (And.intro (by show (s.map tI).length * 8 ≤ _; omega) (And.intro (by show (s.map tI).length ≤ _; omega) ?_))
  exact Exists.intro [40] (.inr ⟨h, rfl, rfl⟩)

def inA (t : Task) (x : Int) : Bool := decide (x < 0) || decide (x ≥ t.acts.length)
def kp104 : Kp := [(2, ([0, 1, 7, 8], []))]
theorem f104_spec (n1 : Bool) (l : List Int) (fc k s : Nat) (p : Int → Bool) (out : List Fr)
    (hc : ∀ x ∈ l, SpecP Try.prog fc [.int x, .ptr (.fr (k + 1) s) 0] ([] :: out) fun r ro => r = .bool (p x) ∧ ro = []) :
    SpecP Try.prog 104 [.ints n1 l, .fn fc [(.fr k s, 0)]] out fun r ro => ∃ j : Int, r = .int j ∧ decide (0 ≤ j) = l.any p ∧ ro = [] := by
  refine spec_body cx_ok kp104 [] (fn := Try.f104) (by kernel_rfl) rfl (by kernel_rfl) rfl (by unfold FnOK; kernel_rfl) fun hok => ?_
  have hmx := le_max hok.1.1
  refine LoopW.mk Nat (fun i => i ≤ l.length ∧ (l.take i).any p = false) (fun i => [(0, .ints n1 l), (1, .fn fc [(.fr k s, 0)]), (7, .int (l.map tI).length), (8, .int i)]) (fun _ => ⟨out, []⟩) (fun i => l.length - i) 0 ⟨Nat.zero_le _, rfl⟩ ⟨rfl, rfl⟩ fun i hI => ?_
  refine And.intro (fun h1 => ?_) fun h1 => ?_
  · have hi := lt_of_dec h1
    refine And.intro (by omega) (Exists.intro _ (And.intro (get_map hi) ?_))
    refine SpecP.mono (hc _ (List.getElem_mem hi)) ?_
    rintro _ _ ⟨rfl, rfl⟩
    refine And.intro trivial (And.intro trivial ?_)
    refine And.intro (fun h2 => ?_) fun h2 => ?_
    · exact Exists.intro [] ⟨_, rfl, by rw [any_true hi h2]; simp, rfl⟩
    · refine And.intro (by omega) (And.intro (by omega) ?_)
      exact Exists.intro (i + 1) (And.intro (by show l.length - (i + 1) < l.length - i; omega) (And.intro ⟨hi, any_step hi hI.2 h2⟩ (And.intro rfl rfl)))
  · exact Exists.intro [] ⟨_, rfl, by rw [any_end (ge_of_dec h1) hI.2]; rfl, rfl⟩
theorem f94_spec (n1 : Bool) (l : List Int) (fc k s : Nat) (p : Int → Bool) (out : List Fr)
    (hc : ∀ x ∈ l, SpecP Try.prog fc [.int x, .ptr (.fr (k + 2) s) 0] ([] :: [] :: out) fun r ro => r = .bool (p x) ∧ ro = []) :
    SpecP Try.prog 94 [.ints n1 l, .fn fc [(.fr k s, 0)]] out fun r ro => r = .bool (l.any p) ∧ ro = [] := by
  refine spec_body cx_ok [] [] (fn := Try.f94) (by kernel_rfl) rfl (by kernel_rfl) rfl (by unfold FnOK; kernel_rfl) fun hok => ?_
  refine SpecP.mono (f104_spec n1 l fc (k + 1) s p _ hc) ?_
  rintro _ _ ⟨j, rfl, hj, rfl⟩
  refine And.intro trivial (And.intro trivial ?_)
  refine And.intro (fun h => ?_) fun h => ?_
  · exact Exists.intro [] (ret_bool (by rw [← hj]; simpa using h) rfl)
  · exact Exists.intro [] (ret_bool (by rw [← hj]; simpa using h) rfl)
theorem f95_spec (t : Task) (x : Int) (fr0 fr1 fr2 : Fr) (out : List Fr) :
    SpecP Try.prog 95 [.int x, .ptr (.fr 2 16) 0] (fr0 :: fr1 :: ((16, .box (cellsTask t)) :: fr2) :: out) fun r ro => r = .bool (inA t x) ∧ ro = [] := by
  refine spec_body cx_ok [] [] (fn := Try.f95) (by kernel_rfl) rfl (by kernel_rfl) rfl (by unfold FnOK; kernel_rfl) fun hok => ?_
  refine And.intro (fun h1 => ?_) fun h1 => ?_
  · exact Exists.intro [] (ret_bool (by rw [inA, h1]; rfl) rfl)
  refine Exists.intro _ (And.intro rfl ?_)
  refine And.intro (fun h2 => ?_) fun h2 => ?_
  · exact Exists.intro [] (ret_bool (by rw [List.length_map] at h2; rw [inA, h1, h2]; rfl) rfl)
  · exact Exists.intro [] (ret_bool (by rw [List.length_map] at h2; rw [inA, h1, h2]; rfl) rfl)
theorem planB_any (t : Task) (p : List Int) : planB t p = (decide (p.length ≤ 10000) && !p.any (inA t)) := by
  have : (p.all fun x => decide (0 ≤ x) && decide (x < t.acts.length)) = !p.any (inA t) := by
    rw [List.not_any_eq_all_not]
    congr 1; funext x
    rw [inA, Bool.eq_iff_iff]; simp
  rw [planB, this]
theorem f78_spec (t : Task) (n2 : Bool) (p : List Int) (out : List Fr) : SpecP Try.prog 78 [.task t, .ints n2 p] out fun r ro => r = .bool (planB t p) ∧ ro = [] := by
  refine spec_body cx_ok [] [] (fn := Try.f78) (by kernel_rfl) rfl (by kernel_rfl) rfl (by unfold FnOK; kernel_rfl) fun hok => ?_
  refine And.intro (fun h1 => ?_) fun h1 => ?_
  · refine SpecP.mono (f94_spec n2 p 95 0 16 (inA t) _ (fun x _ => f95_spec t x [] [] [] out)) ?_
    rintro _ _ ⟨rfl, rfl⟩
    refine And.intro trivial (And.intro trivial ?_)
    rw [List.length_map] at h1
    have h1 := of_decide_eq_true h1
    refine And.intro (fun h => ?_) fun h => ?_
    · exact Exists.intro [] (ret_bool (by rw [planB_any, h]; simp) rfl)
    · exact Exists.intro [] (ret_bool (by rw [planB_any, h]; simp; omega) rfl)
  · rw [List.length_map] at h1
    have h1 := of_decide_eq_false h1
    exact Exists.intro [] (ret_bool (by rw [planB_any]; simp; omega) rfl)

/-! ### The states of a run -/
theorem rising_of {l : List Int} {n : Int} (h : l.Pairwise (· < ·)) (h2 : ∀ x ∈ l, 0 ≤ x ∧ x < n) : risingB l n = true := by
  rw [risingB, List.all_eq_true]
  intro i hi
  have hi : i < l.length := List.mem_range.1 hi
  have h3 := h2 _ (List.getElem_mem hi)
  simp only [chkI, at0_eq hi, Bool.and_eq_true, Bool.or_eq_true, decide_eq_true_eq, beq_iff_eq]
  refine ⟨h3, ?_⟩
  cases i with
  | zero => exact .inl rfl
  | succ i => right; rw [Nat.add_sub_cancel, at0_eq (show i < l.length by omega)]; exact List.pairwise_iff_getElem.1 h i (i + 1) (by omega) hi (by omega)
theorem after_rising (n : Nat) (s : List Int) (l : List Eff) : risingB (afterL n s l) n = true := rising_of (listL_inc _) (after_in n s l)
theorem st_rising {t : Task} {s p : List Int} (hs : risingB s t.facts.length = true) : ∀ i, risingB (stAt t s p i) t.facts.length = true
  | 0 => hs
  | _ + 1 => after_rising ..

/-- Is the state after i actions nil? -/
def stN (n1 : Bool) (t : Task) (s p : List Int) : Nat → Bool
  | 0 => n1
  | i + 1 => (stAt t s p (i + 1)).isEmpty
def tIs (b : Bool) (s : List Int) : T := .sl b 1 (s.map tI)
def stTs (n1 : Bool) (t : Task) (s p : List Int) (k : Nat) : List (List T) := (List.range (k + 1)).map fun j => [tIs (stN n1 t s p j) (stAt t s p j)]
theorem stTs_len (n1 : Bool) (t : Task) (s p : List Int) (k : Nat) : (stTs n1 t s p k).length = k + 1 := by simp [stTs]
theorem stTs_step (n1 : Bool) (t : Task) (s p : List Int) (k : Nat) : stTs n1 t s p (k + 1) = stTs n1 t s p k ++ [[tIs (stN n1 t s p (k + 1)) (stAt t s p (k + 1))]] := by
  rw [stTs, List.range_succ, List.map_append]; rfl
theorem stTs_get {n1 : Bool} {t : Task} {s p : List Int} {k j : Nat} (h : j ≤ k) : (stTs n1 t s p k)[j]? = some [tIs (stN n1 t s p j) (stAt t s p j)] := by
  rw [stTs, List.getElem?_map, List.getElem?_range (by omega)]; rfl

theorem f76i_spec (n1 : Bool) (s : List Int) (a : Actn) (n : Nat) (hs : risingB s n = true) (hn : n ≤ 1000000000) (hf : factsIn n a.effs) (he : a.effs.length ≤ 1000000) (out : List Fr) :
    SpecP Try.prog 76 [.ints n1 s, .act a] out fun r ro => r = .ints (afterL n s a.effs).isEmpty (afterL n s a.effs) ∧ ro = [] :=
  (f76_spec n1 s a n hs hn hf he out).close fun r ro h => by
    obtain ⟨rfl, rfl⟩ := h
    generalize afterL n s a.effs = L
    cases L with
    | nil => exact ⟨_, .nil 0 1, rfl, rfl⟩
    | cons x r => exact ⟨_, .same _, rfl, rfl⟩

end Go.Fw

/- What the program's functions do, part 40: Apply, State, Holds, Applicable. -/
namespace Go.Fw
open Go Go.Proofs
set_option maxRecDepth 10000

theorem f97_spec (t : Task) (n1 n2 : Bool) (s p : List Int) (out : List Fr) : SpecP Try.prog 97 [.task t, .ints n1 s, .ints n2 p] out fun r ro =>
    r = .fn 105 [(.cur 40, 0), (.cur 32, 0), (.cur 24, 0)] ∧ ro = [(24, .box (cellsTask t)), (32, .box [.ints n1 s]), (40, .box [.ints n2 p])] := by
  refine spec_body cx_ok [] [] (fn := Try.f97) (by kernel_rfl) rfl (by kernel_rfl) rfl (by unfold FnOK; kernel_rfl) fun hok => ?_
  exact Exists.intro [24, 32, 40] ⟨rfl, rfl⟩

theorem f40_spec (t : Task) (n1 : Bool) (s : List Int) (out : List Fr) : SpecP Try.prog 40 [.task t, .ints n1 s] out fun r ro => r = .int (fineI t s) ∧ ro = [] := by
  refine spec_body cx_ok [] [] (fn := Try.f40) (by kernel_rfl) rfl (by kernel_rfl) rfl (by unfold FnOK; kernel_rfl) fun hok => ?_
  refine SpecP.mono (f61_spec t []) ?_
  rintro _ _ ⟨rfl, rfl⟩
  refine And.intro (fun h => ?_) fun h => ?_
  rotate_left
  · exact Exists.intro [] ⟨by rw [fineI, h]; rfl, rfl⟩
  refine SpecP.mono (f62_spec t n1 s []) ?_
  rintro _ _ ⟨rfl, rfl⟩
  refine And.intro (fun h2 => ?_) fun h2 => ?_
  · exact Exists.intro [] ⟨by rw [fineI, h, h2]; rfl, rfl⟩
  · exact Exists.intro [] ⟨by rw [fineI, h, h2]; rfl, rfl⟩

def nilV : LV := .t (.sl true 0 [])
theorem fine_no {t : Task} {s : List Int} (h : (!(fineI t s == 0)) = true) : fineI t s ≠ 0 := by simpa using h
theorem fine_yes {t : Task} {s : List Int} (h : (!(fineI t s == 0)) = false) : fineI t s = 0 := by simpa using h
theorem hts_of' {t : Task} {s : List Int} (h : fineI t s = 0) : isB t = true ∧ risingB s t.facts.length = true := hts_of h
def pre_ (t : Task) (a : Int) : List Lit := match t.acts[a.toNat]? with
  | some x => x.pre
  | none => []
def effs_ (t : Task) (a : Int) : List Eff := match t.acts[a.toNat]? with
  | some x => x.effs
  | none => []
theorem pre_get {t : Task} {k : Nat} (h : k < t.acts.length) : pre_ t k = t.acts[k].pre := by simp [pre_, h]
theorem effs_get {t : Task} {k : Nat} (h : k < t.acts.length) : effs_ t k = t.acts[k].effs := by simp [effs_, h]
inductive Applied (t : Task) (s : List Int) (a : Int) : LV → Prop
  | fault (h : fineI t s ≠ 0) : Applied t s a (.tup [nilV, .bool false, .int (fineI t s)])
  | arg (h : fineI t s = 0) (h2 : a < 0 ∨ (t.acts.length : Int) ≤ a) : Applied t s a (.tup [nilV, .bool false, .int 1])
  | no (h : fineI t s = 0) (k : Nat) (hk : a = (k : Int)) (h2 : k < t.acts.length) (h3 : holdsB s t.acts[k].pre = false) : Applied t s a (.tup [nilV, .bool false, .int 0])
  | yes (h : fineI t s = 0) (k : Nat) (hk : a = (k : Int)) (h2 : k < t.acts.length) (h3 : holdsB s t.acts[k].pre = true) :
      Applied t s a (.tup [.ints (afterL t.facts.length s t.acts[k].effs).isEmpty (afterL t.facts.length s t.acts[k].effs), .bool true, .int 0])
theorem f39_spec (t : Task) (n1 : Bool) (s : List Int) (a : Int) (out : List Fr) : SpecP Try.prog 39 [.task t, .ints n1 s, .int a] out fun r ro => Applied t s a r ∧ ro = [] := by
  refine spec_body cx_ok [] [] (fn := Try.f39) (by kernel_rfl) rfl (by kernel_rfl) rfl (by unfold FnOK; kernel_rfl) fun hok => ?_
  refine SpecP.mono (f54_spec t n1 s []) ?_
  rintro _ _ ⟨rfl, rfl⟩
  refine And.intro (fun h => ?_) fun h => ?_
  · exact Exists.intro [] ⟨.fault (fine_no h), rfl⟩
  have h0 := fine_yes h
  obtain ⟨ht, hs⟩ := hts_of h0
  have TK := task_ok ht
  have hN := TK.facts
  refine And.intro (fun h1 => ?_) fun h1 => ?_
  · exact Exists.intro [] ⟨.arg h0 (.inl (of_decide_eq_true h1)), rfl⟩
  have h1 := of_decide_eq_false h1
  refine And.intro (fun h2 => ?_) fun h2 => ?_
  · have h2 := of_decide_eq_true h2
    rw [List.length_map] at h2
    exact Exists.intro [] ⟨.arg h0 (.inr h2), rfl⟩
  have h2 := of_decide_eq_false h2
  rw [List.length_map] at h2
  obtain ⟨k, rfl⟩ : ∃ k : Nat, a = (k : Int) := ⟨a.toNat, by omega⟩
  have hk : k < t.acts.length := by omega
  refine And.intro (by omega) (Exists.intro _ (And.intro (get_map hk) ?_))
  refine SpecP.mono (f56_spec n1 t.acts[k].pn s t.acts[k].pre t.facts.length hs (by omega) []) ?_
  rintro _ _ ⟨rfl, rfl⟩
  refine And.intro (fun h3 => ?_) fun h3 => ?_
  rotate_left
  · exact Exists.intro [] ⟨.no h0 k rfl hk h3, rfl⟩
  refine And.intro (by omega) (Exists.intro _ (And.intro (get_map hk) ?_))
  have hmem : t.acts[k] ∈ t.acts := List.getElem_mem hk
  have hE := TK.effs _ hmem
  refine SpecP.mono (f76i_spec n1 s t.acts[k] t.facts.length hs (by omega) (TK.lit _ hmem) (by omega) []) ?_
  rintro _ _ ⟨rfl, rfl⟩
  exact Exists.intro [] ⟨.yes h0 k rfl hk h3, rfl⟩

theorem f49_spec (t : Task) (n1 : Bool) (s : List Int) (out : List Fr) : SpecP Try.prog 49 [.task t, .ints n1 s] out fun r ro =>
    r = .tup [.bool (fineI t s == 0), .int (if fineI t s = 20 then 0 else fineI t s)] ∧ ro = [] := by
  refine spec_body cx_ok [] [] (fn := Try.f49) (by kernel_rfl) rfl (by kernel_rfl) rfl (by unfold FnOK; kernel_rfl) fun hok => ?_
  refine SpecP.mono (f54_spec t n1 s []) ?_
  rintro _ _ ⟨rfl, rfl⟩
  refine And.intro (fun h => ?_) fun h => ?_
  · have h : fineI t s = 20 := by simpa using h
    exact Exists.intro [] ⟨by rw [h]; rfl, rfl⟩
  · have h : fineI t s ≠ 20 := by simpa using h
    refine And.intro (fun h2 => ?_) fun h2 => ?_
    · exact Exists.intro [] ⟨by rw [if_neg h, h2]; rfl, rfl⟩
    · exact Exists.intro [] ⟨by rw [if_neg h, h2]; rfl, rfl⟩

theorem f50_spec (t : Task) (n1 n2 : Bool) (s : List Int) (l : List Lit) (out : List Fr) : SpecP Try.prog 50 [.task t, .ints n1 s, .lits n2 l] out fun r ro =>
    r = .tup [.bool (fineI t s == 0 && condB l t.facts.length && holdsB s l), .int (if fineI t s = 0 then (if condB l t.facts.length then 0 else 1) else fineI t s)] ∧ ro = [] := by
  refine spec_body cx_ok [] [] (fn := Try.f50) (by kernel_rfl) rfl (by kernel_rfl) rfl (by unfold FnOK; kernel_rfl) fun hok => ?_
  refine SpecP.mono (f54_spec t n1 s []) ?_
  rintro _ _ ⟨rfl, rfl⟩
  refine And.intro (fun h => ?_) fun h => ?_
  · have h := fine_no h
    exact Exists.intro [] ⟨by rw [if_neg h, show (fineI t s == 0) = false by simpa using h]; rfl, rfl⟩
  have h0 := fine_yes h
  obtain ⟨ht, hs⟩ := hts_of h0
  have TK := task_ok ht
  have hN := TK.facts
  refine SpecP.mono (f85_spec n2 l (t.facts.map tS).length []) ?_
  rintro _ _ ⟨rfl, rfl⟩
  rw [List.length_map]
  refine And.intro (fun h1 => ?_) fun h1 => ?_
  rotate_left
  · exact Exists.intro [] ⟨by rw [h0, h1]; rfl, rfl⟩
  refine SpecP.mono (f56_spec n1 n2 s l t.facts.length hs (by omega) []) ?_
  rintro _ _ ⟨rfl, rfl⟩
  refine And.intro (fun h2 => ?_) fun h2 => ?_
  · exact Exists.intro [] ⟨by rw [h0, h1, h2]; rfl, rfl⟩
  · exact Exists.intro [] ⟨by rw [h0, h1, h2]; rfl, rfl⟩

end Go.Fw

/- What the program's functions do, part 41: applicable actions; few. -/
namespace Go.Fw
open Go Go.Proofs
set_option maxRecDepth 10000

def appB (t : Task) (s : List Int) (k : Nat) : Bool := holdsB s (pre_ t k)
def appl (t : Task) (s : List Int) : List Int := selI t.acts.length (appB t s)

def kp51 : Kp := [(3, ([1, 5, 9, 10, 11], [184]))]
theorem f51_spec (t : Task) (n1 : Bool) (s : List Int) (hA : t.acts.length ≤ 1000) (out : List Fr) : SpecP Try.prog 51 [.task t, .ints n1 s] out fun r ro => r = .ints ((appl t s).map tI).isEmpty (appl t s) ∧ ro = [] := by
  refine SpecP.close (Post := fun r ro => r = accV 184 1 ((appl t s).map tI) ∧ ro = accO 184 3 1 ((appl t s).map tI)) ?_ ?_
  rotate_left
  · rintro r ro ⟨rfl, rfl⟩
    exact ⟨_, acc_cls (e := 3) fun x r h => by rw [h]; rfl, rfl, rfl⟩
  refine spec_body cx_ok kp51 [] (fn := Try.f51) (by kernel_rfl) rfl (by kernel_rfl) rfl (by unfold FnOK; kernel_rfl) fun hok => ?_
  have hal : (t.acts.map tAct).length = t.acts.length := List.length_map ..
  refine LoopW.mk (Nat × List Int) (fun p => p.1 ≤ t.acts.length ∧ p.2 = selI p.1 (appB t s)) (fun p => [(1, .ints n1 s), (5, accV 184 1 (p.2.map tI)), (9, .t (.sl t.an 4 (t.acts.map tAct))), (10, .int (t.acts.map tAct).length), (11, .int p.1)])
    (fun p => ⟨out, accO 184 3 1 (p.2.map tI)⟩) (fun p => t.acts.length - p.1) (0, []) ⟨Nat.zero_le _, rfl⟩ ⟨rfl, rfl⟩ ?_
  rintro ⟨i, acc⟩ ⟨hi0, hacc⟩
  simp only at hi0 hacc
  have hst := selI_step i (appB t s)
  have hln : acc.length ≤ i := by rw [hacc]; exact selI_len i _
  cases acc with
  | nil =>
    refine And.intro (fun h1 => ?_) fun h1 => ?_
    · have hi : i < t.acts.length := lt_of_dec h1
      refine And.intro (by omega) (Exists.intro _ (And.intro (get_map hi) ?_))
      refine SpecP.mono (f25_spec n1 t.acts[i].pn s t.acts[i].pre []) ?_
      rintro _ _ ⟨rfl, rfl⟩
      refine And.intro (fun h2 => ?_) fun h2 => ?_
      · have h3 : appB t s i = true := by rw [appB, pre_get hi]; exact h2
        refine And.intro (Nat.le_of_ble_eq_true rfl) (And.intro (Nat.le_of_ble_eq_true rfl) (And.intro (Nat.le_of_ble_eq_true rfl) ?_))
        refine And.intro (by omega) (And.intro (by omega) ?_)
        exact Exists.intro (i + 1, [(i : Int)]) (And.intro (by show t.acts.length - (i + 1) < t.acts.length - i; omega) (And.intro ⟨hi, by show [(i : Int)] = _; rw [hst, ← hacc, h3]; rfl⟩ (And.intro rfl rfl)))
      · have h3 : appB t s i = false := by rw [appB, pre_get hi]; exact h2
        refine And.intro (by omega) (And.intro (by omega) ?_)
        exact Exists.intro (i + 1, []) (And.intro (by show t.acts.length - (i + 1) < t.acts.length - i; omega) (And.intro ⟨hi, by show [] = _; rw [hst, ← hacc, h3]; rfl⟩ (And.intro rfl rfl)))
    · have hi : i = t.acts.length := by have := ge_of_dec h1; omega
      rw [hi] at hacc
      exact Exists.intro [184] ⟨by rw [appl, ← hacc]; rfl, by rw [appl, ← hacc]; rfl⟩
  | cons x r =>
    refine And.intro (fun h1 => ?_) fun h1 => ?_
    · have hi : i < t.acts.length := lt_of_dec h1
      have hln2 : ((tI x :: r.map tI) ++ [tI i]).length ≤ i + 1 := by simp at hln ⊢; omega
      refine And.intro (by omega) (Exists.intro _ (And.intro (get_map hi) ?_))
      refine SpecP.mono (f25_spec n1 t.acts[i].pn s t.acts[i].pre []) ?_
      rintro _ _ ⟨rfl, rfl⟩
      refine And.intro (fun h2 => ?_) fun h2 => ?_
      · have h3 : appB t s i = true := by rw [appB, pre_get hi]; exact h2
        refine And.intro (Nat.le_of_ble_eq_true rfl) (And.intro rfl (And.intro (by show ((tI x :: r.map tI) ++ [tI i]).length * 8 ≤ _; omega) (And.intro (by show ((tI x :: r.map tI) ++ [tI i]).length ≤ _; omega) ?_)))
        refine And.intro (by omega) (And.intro (by omega) ?_)
        have e : (r ++ [(i : Int)]).map tI = r.map tI ++ [tI i] := by simp
        refine Exists.intro (i + 1, x :: (r ++ [(i : Int)])) (And.intro (by show t.acts.length - (i + 1) < t.acts.length - i; omega) (And.intro ⟨hi, by show x :: (r ++ [(i : Int)]) = _; rw [hst, ← hacc, h3]; rfl⟩ ?_))
        simp only [List.map_cons, e]
        exact And.intro rfl rfl
      · have h3 : appB t s i = false := by rw [appB, pre_get hi]; exact h2
        refine And.intro (by omega) (And.intro (by omega) ?_)
        exact Exists.intro (i + 1, x :: r) (And.intro (by show t.acts.length - (i + 1) < t.acts.length - i; omega) (And.intro ⟨hi, by show x :: r = _; rw [hst, ← hacc, h3]; simp⟩ (And.intro rfl rfl)))
    · have hi : i = t.acts.length := by have := ge_of_dec h1; omega
      rw [hi] at hacc
      exact Exists.intro [184] ⟨by rw [appl, ← hacc]; rfl, by rw [appl, ← hacc]; rfl⟩

def kp47 : Kp := [(6, ([1, 7, 17, 18, 19], [248]))]
theorem f47o_spec (t : Task) (n1 : Bool) (s : List Int) (out : List Fr) : SpecP Try.prog 47 [.task t, .ints n1 s] out fun r ro => (fineI t s ≠ 0 ∧ r = .tup [nilV, .int (fineI t s)] ∧ ro = []) ∨
    (fineI t s = 0 ∧ r = .tup [accV 248 1 ((appl t s).map tI), .int 0] ∧ ro = accO 248 3 1 ((appl t s).map tI)) := by
  refine spec_body cx_ok kp47 [] (fn := Try.f47) (by kernel_rfl) rfl (by kernel_rfl) rfl (by unfold FnOK; kernel_rfl) fun hok => ?_
  refine SpecP.mono (f54_spec t n1 s []) ?_
  rintro _ _ ⟨rfl, rfl⟩
  refine And.intro (fun h => ?_) fun h => ?_
  · exact Exists.intro [] (.inl ⟨fine_no h, rfl, rfl⟩)
  have h0 := fine_yes h
  obtain ⟨ht, hs⟩ := hts_of h0
  have TK := task_ok ht
  have hN := TK.facts
  have hA := TK.acts
  have hal : (t.acts.map tAct).length = t.acts.length := List.length_map ..
  refine LoopW.mk (Nat × List Int) (fun p => p.1 ≤ t.acts.length ∧ p.2 = selI p.1 (appB t s)) (fun p => [(1, .ints n1 s), (7, accV 248 1 (p.2.map tI)), (17, .t (.sl t.an 4 (t.acts.map tAct))), (18, .int (t.acts.map tAct).length), (19, .int p.1)])
    (fun p => ⟨out, accO 248 3 1 (p.2.map tI)⟩) (fun p => t.acts.length - p.1) (0, []) ⟨Nat.zero_le _, rfl⟩ ⟨rfl, rfl⟩ ?_
  rintro ⟨i, acc⟩ ⟨hi0, hacc⟩
  simp only at hi0 hacc
  have hst := selI_step i (appB t s)
  have hln : acc.length ≤ i := by rw [hacc]; exact selI_len i _
  cases acc with
  | nil =>
    refine And.intro (fun h1 => ?_) fun h1 => ?_
    · have hi : i < t.acts.length := lt_of_dec h1
      refine And.intro (by omega) (Exists.intro _ (And.intro (get_map hi) ?_))
      refine SpecP.mono (f56_spec n1 t.acts[i].pn s t.acts[i].pre t.facts.length hs (by omega) []) ?_
      rintro _ _ ⟨rfl, rfl⟩
      refine And.intro (fun h2 => ?_) fun h2 => ?_
      · have h3 : appB t s i = true := by rw [appB, pre_get hi]; exact h2
        refine And.intro (Nat.le_of_ble_eq_true rfl) (And.intro (Nat.le_of_ble_eq_true rfl) (And.intro (Nat.le_of_ble_eq_true rfl) ?_))
        refine And.intro (by omega) (And.intro (by omega) ?_)
        exact Exists.intro (i + 1, [(i : Int)]) (And.intro (by show t.acts.length - (i + 1) < t.acts.length - i; omega) (And.intro ⟨hi, by show [(i : Int)] = _; rw [hst, ← hacc, h3]; rfl⟩ (And.intro rfl rfl)))
      · have h3 : appB t s i = false := by rw [appB, pre_get hi]; exact h2
        refine And.intro (by omega) (And.intro (by omega) ?_)
        exact Exists.intro (i + 1, []) (And.intro (by show t.acts.length - (i + 1) < t.acts.length - i; omega) (And.intro ⟨hi, by show [] = _; rw [hst, ← hacc, h3]; rfl⟩ (And.intro rfl rfl)))
    · have hi : i = t.acts.length := by have := ge_of_dec h1; omega
      rw [hi] at hacc
      exact Exists.intro [248] (.inr ⟨h0, by rw [appl, ← hacc]; rfl, by rw [appl, ← hacc]; rfl⟩)
  | cons x r =>
    refine And.intro (fun h1 => ?_) fun h1 => ?_
    · have hi : i < t.acts.length := lt_of_dec h1
      have hln2 : ((tI x :: r.map tI) ++ [tI i]).length ≤ i + 1 := by simp at hln ⊢; omega
      refine And.intro (by omega) (Exists.intro _ (And.intro (get_map hi) ?_))
      refine SpecP.mono (f56_spec n1 t.acts[i].pn s t.acts[i].pre t.facts.length hs (by omega) []) ?_
      rintro _ _ ⟨rfl, rfl⟩
      refine And.intro (fun h2 => ?_) fun h2 => ?_
      · have h3 : appB t s i = true := by rw [appB, pre_get hi]; exact h2
        refine And.intro (Nat.le_of_ble_eq_true rfl) (And.intro rfl (And.intro (by show ((tI x :: r.map tI) ++ [tI i]).length * 8 ≤ _; omega) (And.intro (by show ((tI x :: r.map tI) ++ [tI i]).length ≤ _; omega) ?_)))
        refine And.intro (by omega) (And.intro (by omega) ?_)
        have e : (r ++ [(i : Int)]).map tI = r.map tI ++ [tI i] := by simp
        refine Exists.intro (i + 1, x :: (r ++ [(i : Int)])) (And.intro (by show t.acts.length - (i + 1) < t.acts.length - i; omega) (And.intro ⟨hi, by show x :: (r ++ [(i : Int)]) = _; rw [hst, ← hacc, h3]; rfl⟩ ?_))
        simp only [List.map_cons, e]
        exact And.intro rfl rfl
      · have h3 : appB t s i = false := by rw [appB, pre_get hi]; exact h2
        refine And.intro (by omega) (And.intro (by omega) ?_)
        exact Exists.intro (i + 1, x :: r) (And.intro (by show t.acts.length - (i + 1) < t.acts.length - i; omega) (And.intro ⟨hi, by show x :: r = _; rw [hst, ← hacc, h3]; simp⟩ (And.intro rfl rfl)))
    · have hi : i = t.acts.length := by have := ge_of_dec h1; omega
      rw [hi] at hacc
      exact Exists.intro [248] (.inr ⟨h0, by rw [appl, ← hacc]; rfl, by rw [appl, ← hacc]; rfl⟩)

theorem f47_spec (t : Task) (n1 : Bool) (s : List Int) (out : List Fr) : SpecP Try.prog 47 [.task t, .ints n1 s] out fun r ro => ((fineI t s ≠ 0 ∧ r = .tup [nilV, .int (fineI t s)]) ∨
    (fineI t s = 0 ∧ r = .tup [.ints ((appl t s).map tI).isEmpty (appl t s), .int 0])) ∧ ro = [] :=
  (f47o_spec t n1 s out).close fun r ro h => by
    rcases h with ⟨h, rfl, rfl⟩ | ⟨h, rfl, rfl⟩
    · exact ⟨_, .pair _ _ _ _ (.same _) (.same _), .inl ⟨h, rfl⟩, rfl⟩
    · exact ⟨_, .pair _ _ _ _ (acc_cls (e := 3) fun x r h => by rw [h]; rfl) (.same _), .inr ⟨h, rfl⟩, rfl⟩

def tLs (l : List (Bool × List Int)) : List (List T) := l.map fun p => [tIs p.1 p.2]
def kp37 : Kp := [(2, ([2, 7, 8, 9], [16]))]
theorem f37_spec (t : Task) (b : Bool) (l : List (Bool × List Int)) (hl : l.length ≤ 1000) (out : List Fr) : SpecP Try.prog 37 [.task t, .t (.sl b 1 (tLs l))] out fun r ro => ∃ few : Bool, (few = true → ∀ p ∈ l, p.2.length ≤ 400) ∧ r = .bool few ∧ ro = [] := by
  refine spec_body cx_ok kp37 [] (fn := Try.f37) (by kernel_rfl) rfl (by kernel_rfl) rfl (by unfold FnOK; kernel_rfl) fun hok => ?_
  have hll : (tLs l).length = l.length := List.length_map ..
  refine LoopW.mk Nat (fun i => i ≤ l.length ∧ ∀ p ∈ l.take i, p.2.length ≤ 400) (fun i => [(2, .ptr (.cur 16) 0), (7, .t (.sl b 1 (tLs l))), (8, .int (tLs l).length), (9, .int i)])
    (fun _ => ⟨out, [(16, .box (cellsTask t))]⟩) (fun i => l.length - i) 0 ⟨Nat.zero_le _, by simp⟩ ⟨rfl, rfl⟩ fun i hI => ?_
  refine And.intro (fun h1 => ?_) fun h1 => ?_
  · have hi : i < l.length := by have := of_decide_eq_true h1; omega
    refine And.intro (by omega) (Exists.intro [tIs l[i].1 l[i].2] (And.intro (by rw [Int.toNat_natCast, tLs, List.getElem?_map, List.getElem?_eq_getElem hi]; rfl) ?_))
    refine And.intro (fun h2 => ?_) fun h2 => ?_
    · exact Exists.intro [] ⟨false, fun h => Bool.noConfusion h, rfl, rfl⟩
    · have h2 := of_decide_eq_false h2
      rw [List.length_map] at h2
      refine And.intro (by omega) (And.intro (by omega) ?_)
      refine Exists.intro (i + 1) (And.intro (by show l.length - (i + 1) < l.length - i; omega) (And.intro ⟨hi, fun p hp => ?_⟩ (And.intro rfl rfl)))
      rw [List.take_add_one, List.getElem?_eq_getElem hi, Option.toList_some, List.mem_append, List.mem_singleton] at hp
      rcases hp with hp | rfl
      · exact hI.2 p hp
      · omega
  · have hi : l.length ≤ i := by have := of_decide_eq_false h1; omega
    refine SpecP.mono (f13_spec t 1500 []) ?_
    rintro _ _ ⟨b, rfl, rfl⟩
    refine And.intro (fun _ => ?_) fun _ => ?_
    · exact Exists.intro [] ⟨true, fun _ => by have := hI.2; rwa [List.take_of_length_le hi] at this, rfl, rfl⟩
    · exact Exists.intro [] ⟨false, fun h => Bool.noConfusion h, rfl, rfl⟩

end Go.Fw

/- What the program's functions do, part 42: a plan is executed by a loop over a function. -/
namespace Go.Fw
open Go Go.Proofs
set_option maxRecDepth 10000

/-- How far a list of actions comes. -/
structure Ran (t : Task) (s p : List Int) (k : Nat) (at_ : Int) : Prop where
  le : k ≤ p.length
  ok : ∀ i, i < k → okAt t s p i = true
  stop : (k = p.length ∧ at_ = -1) ∨ (k < p.length ∧ okAt t s p k = false ∧ at_ = (k : Int))

def od105 : Od := [(3, [(0, .pure), (1, .pure), (2, .pure), (3, .pure), (4, .pure), (5, .pure), (6, .pure), (7, .eff), (8, .pure)]), (4, [(0, .pure), (1, .pure), (2, .pure), (3, .pure), (4, .pure), (5, .pure), (6, .eff), (7, .syn)])]
def kp105 : Kp := [(1, ([0, 2, 3, 7, 8, 9, 1000003, 1000005, 1000006, 1000008, 1000009], [24, 40, 48, 64, 72, 112, 153000483, 153000491]))]
def od79 : Od := [(6, [(0, .pure), (1, .pure), (2, .pure), (3, .eff), (4, .eff), (5, .syn), (6, .pure), (7, .syn)]), (7, [(0, .pure), (1, .pure), (2, .pure), (3, .pure), (4, .pure), (5, .pure), (6, .pure), (7, .pure), (8, .pure), (9, .pure), (10, .pure), (11, .pure), (12, .pure), (13, .syn)]), (9, [(0, .pure), (1, .pure), (2, .pure), (3, .pure), (4, .pure), (5, .pure), (6, .pure), (7, .pure), (8, .pure), (9, .pure), (10, .eff), (11, .pure), (12, .syn)]), (12, [(0, .tree (.pure 0 (.pure 1 (.last 2 (.pure 3 .done) [1]))))])]
def kp79 : Kp := []

theorem f79o_spec (t : Task) (n1 n2 : Bool) (s p : List Int) (TK : TaskOK t) (hs : risingB s t.facts.length = true) (hp : planB t p = true) (out : List Fr) :
    SpecP Try.prog 79 [.task t, .ints n1 s, .ints n2 p] out fun r ro => ∃ (k : Nat) (at_ : Int), Ran t s p k at_ ∧
      r = .tup [.agg [.osl (.cur 112) 1 0 (stTs n1 t s p k).length, .int (costAt t p k), .bool (holdsB (stAt t s p k) t.goal)], .int at_] ∧ ro = [(112, .row 23 1 (stTs n1 t s p k))] := by
  refine spec_range cx_ok kp79 od79 kp105 od105 (fn := Try.f79) (by kernel_rfl) rfl (by kernel_rfl) rfl (by unfold FnOK; kernel_rfl) fun hok => ?_
  have hin := rising_in hs
  have hN := TK.facts
  have hsl := rising_len hs (by omega)
  have hpl : p.length ≤ 10000 := by simp only [planB, Bool.and_eq_true, decide_eq_true_eq] at hp; exact hp.1
  refine SpecP.mono (f96_spec n1 s hsl []) ?_
  rintro _ _ ⟨rfl, rfl⟩
  refine SpecP.mono (f97_spec t n1 n2 s p []) ?_
  rintro _ _ ⟨rfl, rfl⟩
  refine ⟨Try.f105, _, rfl, rfl, rfl, by unfold FnOK; kernel_rfl, by kernel_rfl, fun l => ?_⟩
  refine LoopW.mk Nat (fun i => i ≤ p.length ∧ ∀ j, j < i → okAt t s p j = true)
    (fun i => [(0, .t (.v (.func (.yield l) #[] #[]))), (2, .ptr (.cur 153000491) 0), (3, .ptr (.cur 153000483) 0), (7, .ints n2 p), (8, .int (p.map tI).length), (9, .int i),
      (1000003, .ptr (.cur 24) 0), (1000005, .ptr (.cur 40) 0), (1000006, .ptr (.cur 48) 0), (1000008, .ptr (.cur 64) 0), (1000009, .ptr (.cur 72) 0)])
    (fun i => ⟨out, [(24, .box (cellsTask t)), (40, .box [.ints n2 p]), (48, .box [.t (.sl true 0 []), .int 0, .bool false]), (64, .box [.osl (.cur 112) 1 0 (stTs n1 t s p i).length, .int (costAt t p i), .bool false]), (72, .box [.int i]),
      (112, .row 23 1 (stTs n1 t s p i)), (153000483, .box (cellsTask t)), (153000491, .box [.ints (stN n1 t s p i) (stAt t s p i)])]⟩) (fun i => p.length - i) 0 ⟨Nat.zero_le _, fun j hj => by omega⟩ ⟨rfl, rfl⟩ fun i hI => ?_
  have hsi := st_rising (t := t) (p := p) hs i
  have hsil := rising_len hsi (by omega)
  have hlen := stTs_len n1 t s p i
  refine And.intro (fun h1 => ?_) fun h1 => ?_
  · have hi := lt_of_dec h1
    obtain ⟨k, hk1, hk2, hk3, _⟩ := plan_get hp hi
    have hci := costAt_in TK hp i hI.1
    have hc := TK.cost _ (List.getElem_mem hk2)
    have hmem : t.acts[k] ∈ t.acts := List.getElem_mem hk2
    have hE := TK.effs _ hmem
    have hokk : okAt t s p i = holdsB (stAt t s p i) t.acts[k].pre := by rw [okAt, hk3]
    refine And.intro (by omega) (Exists.intro (tI k) (And.intro (by rw [← hk1]; exact get_map hi) ?_))
    refine And.intro (by omega) (Exists.intro _ (And.intro (get_map hk2) ?_))
    refine SpecP.mono (f56_spec (stN n1 t s p i) t.acts[k].pn (stAt t s p i) t.acts[k].pre t.facts.length hsi (by omega) []) ?_
    rintro _ _ ⟨rfl, rfl⟩
    refine And.intro ⟨rfl, rfl, rfl⟩ ?_
    refine And.intro (fun h2 => ?_) fun h2 => ?_
    · refine And.intro (by omega) (Exists.intro _ (And.intro (get_map hk2) ?_))
      refine SpecP.mono (f76i_spec (stN n1 t s p i) (stAt t s p i) t.acts[k] t.facts.length hsi (by omega) (TK.lit _ hmem) (by omega) []) ?_
      rintro _ _ ⟨rfl, rfl⟩
      refine And.intro ⟨rfl, rfl, rfl⟩ ?_
      refine ⟨rfl, rfl, ?_⟩
      have hst : stAt t s p (i + 1) = afterL t.facts.length (stAt t s p i) t.acts[k].effs := by rw [stAt, hk3]
      rw [← hst]
      have hsj := st_rising (t := t) (p := p) hs (i + 1)
      have hsjl := rising_len hsj (by omega)
      refine SpecP.mono (f96_spec (stAt t s p (i + 1)).isEmpty (stAt t s p (i + 1)) hsjl []) ?_
      rintro _ _ ⟨rfl, rfl⟩
      refine And.intro ⟨rfl, rfl, rfl⟩ ?_
      have hrow : stTs n1 t s p i ++ [[tIs (stAt t s p (i + 1)).isEmpty (stAt t s p (i + 1))]] = stTs n1 t s p (i + 1) := by rw [stTs_step]; rfl
      have hl2 : (stTs n1 t s p i ++ [[tIs (stAt t s p (i + 1)).isEmpty (stAt t s p (i + 1))]]).length = i + 2 := by rw [hrow, stTs_len]
      refine And.intro (Nat.le_of_ble_eq_true rfl) (And.intro rfl (And.intro (by show (stTs n1 t s p i ++ [[tIs (stAt t s p (i + 1)).isEmpty (stAt t s p (i + 1))]]).length * 24 ≤ _; omega) (And.intro (by show (stTs n1 t s p i ++ [[tIs (stAt t s p (i + 1)).isEmpty (stAt t s p (i + 1))]]).length ≤ _; omega) ?_)))
      refine And.intro (by omega) (Exists.intro (tI k) (And.intro (by rw [← hk1]; exact get_map hi) ?_))
      refine And.intro (by omega) (Exists.intro _ (And.intro (get_map hk2) ?_))
      refine And.intro (by omega) (And.intro (by omega) ?_)
      refine And.intro (by omega) (And.intro (by omega) ?_)
      refine And.intro (fun _ => ?_) fun h => Bool.noConfusion h
      refine And.intro (by omega) (And.intro (by omega) ?_)
      refine Exists.intro (i + 1) (And.intro (by show p.length - (i + 1) < p.length - i; omega) (And.intro ⟨hi, fun j hj => ?_⟩ ?_))
      · rcases Nat.lt_or_ge j i with h | h
        · exact hI.2 j h
        · rw [show j = i by omega, hokk, h2]
      · have hcost : costAt t p (i + 1) = costAt t p i + t.acts[k].cost := by rw [costAt, hk3]
        simp only [hcost, ← hrow]
        exact And.intro rfl rfl
    refine And.intro (by omega) (And.intro (by omega) ?_)
    refine And.intro (by omega) (And.intro (by omega) (Exists.intro [tIs (stN n1 t s p i) (stAt t s p i)] (And.intro (by rw [show 0 + (((stTs n1 t s p i).length : Int) - 1).toNat = i by omega]; exact stTs_get (Nat.le_refl i)) ?_)))
    refine SpecP.mono (f56_spec (stN n1 t s p i) t.gn (stAt t s p i) t.goal t.facts.length hsi (by omega) []) ?_
    rintro _ _ ⟨rfl, rfl⟩
    refine And.intro ⟨rfl, rfl, rfl⟩ ?_
    refine And.intro (fun h3 => ?_) fun h3 => ?_
    all_goals
      refine And.intro (fun h4 => ?_) fun h4 => ?_
      · have h4 := of_decide_eq_true h4
        rw [List.length_map] at h4
        omega
      · refine And.intro rfl ?_
        exact Exists.intro [112] ⟨i, (i : Int), ⟨hI.1, hI.2, .inr ⟨hi, by rw [hokk, h2], rfl⟩⟩, by rw [h3]; rfl, rfl⟩
  · have hi : i = p.length := by have := hI.1; have := ge_of_dec h1; omega
    refine And.intro (by omega) (And.intro (by omega) ?_)
    refine And.intro (by omega) (And.intro (by omega) (Exists.intro [tIs (stN n1 t s p i) (stAt t s p i)] (And.intro (by rw [show 0 + (((stTs n1 t s p i).length : Int) - 1).toNat = i by omega]; exact stTs_get (Nat.le_refl i)) ?_)))
    refine SpecP.mono (f56_spec (stN n1 t s p i) t.gn (stAt t s p i) t.goal t.facts.length hsi (by omega) []) ?_
    rintro _ _ ⟨rfl, rfl⟩
    refine And.intro ⟨rfl, rfl, rfl⟩ ?_
    refine And.intro (fun h3 => ?_) fun h3 => ?_
    all_goals
      refine And.intro (fun h4 => ?_) fun h4 => ?_
      · refine And.intro rfl ?_
        exact Exists.intro [112] ⟨i, -1, ⟨hI.1, hI.2, .inl ⟨hi, rfl⟩⟩, by rw [h3]; rfl, rfl⟩
      · have h4 := of_decide_eq_false h4
        rw [List.length_map] at h4
        omega

end Go.Fw

/- What the program's functions do, part 43: the example of the laws of Step. -/
namespace Go.Fw
open Go Go.Proofs
set_option maxRecDepth 10000

theorem f75_spec (out : List Fr) : SpecP Try.prog 75 [] out fun r ro => r = .task exTask ∧ ro = [] := by
  refine SpecP.close (Post := fun r ro => r = .agg [.osl (.cur 8) 1 0 2, .osl (.cur 16) 1 0 1, .osl (.cur 32) 2 0 1, .osl (.cur 104) 4 0 1] ∧
    ro = [(8, .row 9 1 [tS sHere, tS sThere]), (16, .row 3 1 [tI 0]), (32, .row 50 2 [tLit ⟨1, false⟩]), (104, .row 79 4 [exActT])]) ?_ ?_
  rotate_left
  · rintro r ro ⟨rfl, rfl⟩
    refine ⟨_, .agg _ [.t (.sl false 1 [tS sHere, tS sThere]), .t (.sl false 1 [tI 0]), .t (.sl false 2 [tLit ⟨1, false⟩]), .t (.sl false 4 [tAct exAct])] rfl fun i x y hx hy => ?_, rfl, rfl⟩
    match i with
    | 0 => simp at hx hy; subst hx hy; exact .row 8 9 1 0 2 [tS sHere, tS sThere] rfl (by simp)
    | 1 => simp at hx hy; subst hx hy; exact .row 16 3 1 0 1 [tI 0] rfl (by simp)
    | 2 => simp at hx hy; subst hx hy; exact .row 32 50 2 0 1 [tLit ⟨1, false⟩] rfl (by simp)
    | 3 => simp at hx hy; subst hx hy; exact .trans _ _ _ (.row 104 79 4 0 1 [exActT] rfl (by simp)) (.un _ _ rfl)
    | i + 4 => simp at hx
  refine spec_body cx_ok [] [] (fn := Try.f75) (by kernel_rfl) rfl (by kernel_rfl) rfl (by unfold FnOK; kernel_rfl) fun hok => ?_
  refine And.intro (Nat.le_of_ble_eq_true rfl) (And.intro (Nat.le_of_ble_eq_true rfl) ?_)
  exact Exists.intro [8, 16, 32, 104] (And.intro rfl rfl)

end Go.Fw

/- What the program's functions do, part 44: Execute, Cost, Plan. -/
namespace Go.Fw
open Go Go.Proofs
set_option maxRecDepth 10000

def runV (n1 : Bool) (t : Task) (s p : List Int) (k : Nat) : LV := .agg [.t (.sl false 1 (stTs n1 t s p k)), .int (costAt t p k), .bool (holdsB (stAt t s p k) t.goal)]
theorem f79_spec (t : Task) (n1 n2 : Bool) (s p : List Int) (TK : TaskOK t) (hs : risingB s t.facts.length = true) (hp : planB t p = true) (out : List Fr) :
    SpecP Try.prog 79 [.task t, .ints n1 s, .ints n2 p] out fun r ro => ∃ (k : Nat) (at_ : Int), Ran t s p k at_ ∧ r = .tup [runV n1 t s p k, .int at_] ∧ ro = [] :=
  (f79o_spec t n1 n2 s p TK hs hp out).close fun r ro h => by
    obtain ⟨k, at_, hr, rfl, rfl⟩ := h
    refine ⟨_, .pair _ _ _ _ (.agg _ [.t (.sl false 1 (stTs n1 t s p k)), .int (costAt t p k), .bool (holdsB (stAt t s p k) t.goal)] rfl fun i x y hx hy => ?_) (.same _), k, at_, hr, rfl, rfl⟩
    match i with
    | 0 =>
      simp at hx hy; subst hx hy
      have h := ClsV.row (ro := [(112, Ob.row 23 1 (stTs n1 t s p k))]) 112 23 1 0 (stTs n1 t s p k).length (stTs n1 t s p k) rfl (by simp)
      rwa [← take_all] at h
    | 1 => simp at hx hy; subst hx hy; exact .same _
    | 2 => simp at hx hy; subst hx hy; exact .same _
    | i + 3 => simp at hx
theorem ran_eq {t : Task} {s p : List Int} {k k' : Nat} {a a' : Int} (h : Ran t s p k a) (h' : Ran t s p k' a') : k = k' ∧ a = a' := by
  have key : ∀ {k k' : Nat} {a a' : Int}, Ran t s p k a → Ran t s p k' a' → k ≤ k' := fun {k k' a a'} h h' => by
    rcases Nat.lt_or_ge k' k with hlt | hge
    · have h1 := h.ok k' hlt
      rcases h'.stop with ⟨h2, _⟩ | ⟨_, h2, _⟩
      · have := h.le; omega
      · rw [h1] at h2; cases h2
    · exact hge
  have hk : k = k' := Nat.le_antisymm (key h h') (key h' h)
  refine ⟨hk, ?_⟩
  rcases h.stop with ⟨h1, h2⟩ | ⟨h1, _, h2⟩ <;> rcases h'.stop with ⟨h3, h4⟩ | ⟨h3, _, h4⟩ <;> omega

inductive Executed (n1 : Bool) (t : Task) (s p : List Int) : LV → Prop
  | fault (h : fineI t s ≠ 0) : Executed n1 t s p (.tup [.agg [nilV, .int 0, .bool false], .int 0, .int (fineI t s)])
  | arg (h : fineI t s = 0) (h2 : planB t p = false) : Executed n1 t s p (.tup [.agg [nilV, .int 0, .bool false], .int 0, .int 1])
  | ran (h : fineI t s = 0) (h2 : planB t p = true) (k : Nat) (at_ : Int) (hr : Ran t s p k at_) : Executed n1 t s p (.tup [runV n1 t s p k, .int at_, .int 0])
theorem f42_spec (t : Task) (n1 n2 : Bool) (s p : List Int) (out : List Fr) : SpecP Try.prog 42 [.task t, .ints n1 s, .ints n2 p] out fun r ro => Executed n1 t s p r ∧ ro = [] := by
  refine spec_body cx_ok [] [] (fn := Try.f42) (by kernel_rfl) rfl (by kernel_rfl) rfl (by unfold FnOK; kernel_rfl) fun hok => ?_
  refine SpecP.mono (f54_spec t n1 s []) ?_
  rintro _ _ ⟨rfl, rfl⟩
  refine And.intro (fun h => ?_) fun h => ?_
  · exact Exists.intro [] ⟨.fault (fine_no h), rfl⟩
  have h0 := fine_yes h
  obtain ⟨ht, hs⟩ := hts_of h0
  have TK := task_ok ht
  refine SpecP.mono (f78_spec t n2 p []) ?_
  rintro _ _ ⟨rfl, rfl⟩
  refine And.intro (fun hp => ?_) fun hp => ?_
  rotate_left
  · exact Exists.intro [] ⟨.arg h0 hp, rfl⟩
  refine SpecP.mono (f79_spec t n1 n2 s p TK hs hp []) ?_
  rintro _ _ ⟨k, at_, hr, rfl, rfl⟩
  exact Exists.intro [] ⟨.ran h0 hp k at_ hr, rfl⟩

inductive Costed (t : Task) (s p : List Int) : LV → Prop
  | no (h : ¬ Valid t s p) : Costed t s p (.tup [.int 0, .bool false])
  | yes (h : Valid t s p) : Costed t s p (.tup [.int (costAt t p p.length), .bool true])
theorem f81_spec (t : Task) (n1 n2 : Bool) (s p : List Int) (TK : TaskOK t) (hs : risingB s t.facts.length = true) (hp : planB t p = true) (out : List Fr) :
    SpecP Try.prog 81 [.task t, .ints n1 s, .ints n2 p] out fun r ro => Costed t s p r ∧ ro = [] := by
  refine spec_body cx_ok [] [] (fn := Try.f81) (by kernel_rfl) rfl (by kernel_rfl) rfl (by unfold FnOK; kernel_rfl) fun hok => ?_
  refine SpecP.mono (f79_spec t n1 n2 s p TK hs hp []) ?_
  rintro _ _ ⟨k, at_, hr, rfl, rfl⟩
  refine And.intro (fun h1 => ?_) fun h1 => ?_
  · have h1 := of_decide_eq_true h1
    rcases hr.stop with ⟨_, h2⟩ | ⟨h2, h3, _⟩
    · omega
    · exact Exists.intro [] ⟨.no fun hv => (by rw [hv.ok k h2] at h3; cases h3), rfl⟩
  have h1 := of_decide_eq_false h1
  rcases hr.stop with ⟨rfl, h2⟩ | ⟨_, _, h2⟩
  rotate_left
  · omega
  refine And.intro (fun h3 => ?_) fun h3 => ?_
  · exact Exists.intro [] ⟨.yes ⟨hp, hr.ok, h3⟩, rfl⟩
  · exact Exists.intro [] ⟨.no fun hv => (by rw [hv.goal] at h3; cases h3), rfl⟩

inductive Planned (t : Task) (p : List Int) : LV → Prop
  | fault (h : isB t = false) : Planned t p (.tup [.int 0, .bool false, .int 10])
  | arg (h : isB t = true) (h2 : planB t p = false) : Planned t p (.tup [.int 0, .bool false, .int 1])
  | no (h : isB t = true) (h2 : planB t p = true) (h3 : ¬ Valid t t.init p) : Planned t p (.tup [.int 0, .bool false, .int 0])
  | yes (h : isB t = true) (h2 : planB t p = true) (h3 : Valid t t.init p) : Planned t p (.tup [.int (costAt t p p.length), .bool true, .int 0])
theorem init_rising {t : Task} (h : isB t = true) : risingB t.init t.facts.length = true := by
  simp only [isB, Bool.and_eq_true] at h
  exact h.1.1.1.1.2
theorem f43_spec (t : Task) (n2 : Bool) (p : List Int) (out : List Fr) : SpecP Try.prog 43 [.task t, .ints n2 p] out fun r ro => Planned t p r ∧ ro = [] := by
  refine spec_body cx_ok [] [] (fn := Try.f43) (by kernel_rfl) rfl (by kernel_rfl) rfl (by unfold FnOK; kernel_rfl) fun hok => ?_
  refine SpecP.mono (f80_spec t []) ?_
  rintro _ _ ⟨rfl, rfl⟩
  refine And.intro (fun ht => ?_) fun ht => ?_
  rotate_left
  · exact Exists.intro [] ⟨.fault ht, rfl⟩
  refine SpecP.mono (f78_spec t n2 p []) ?_
  rintro _ _ ⟨rfl, rfl⟩
  refine And.intro (fun hp => ?_) fun hp => ?_
  rotate_left
  · exact Exists.intro [] ⟨.arg ht hp, rfl⟩
  refine SpecP.mono (f81_spec t t.ni n2 t.init p (task_ok ht) (init_rising ht) hp []) ?_
  rintro _ _ ⟨hc, rfl⟩
  cases hc with
  | no h => 
    refine And.intro (fun h => Bool.noConfusion h) fun _ => ?_
    exact Exists.intro [] ⟨.no ht hp h, rfl⟩
  | yes h =>
    refine And.intro (fun _ => ?_) fun h => Bool.noConfusion h
    exact Exists.intro [] ⟨.yes ht hp h, rfl⟩

end Go.Fw

/- What the program's functions do, part 45: the calls of the laws of Step that do not depend on the input. -/
namespace Go.Fw
open Go Go.Proofs
set_option maxRecDepth 10000

/-- The context of the laws of Step: rows given to these functions are given away for ever. -/
def cxs : Ctx := { cx with frz := [(39, 1), (42, 1), (47, 1)] }
theorem cxs_ok : cxs.OK Try.prog := ⟨cx_ok.mixed, cx_ok.tys, cx_ok.eqs, cx_ok.exts, cx_ok.srt⟩

theorem ex_hold0 : holdsB [0] exTask.acts[0].pre = true := by decide
theorem ex_hold1 : holdsB [1] exTask.acts[0].pre = false := by decide
theorem ex_fine1 : fineI exTask [1] = 0 := by decide
theorem ex_fine2 : fineI exTask [0, 1] = 0 := by decide
theorem ex_after : afterL exTask.facts.length [0] exTask.acts[0].effs = [1] := by decide
theorem ex_appl : appl exTask [0, 1] = [0] := by decide
theorem ex_ran : Ran exTask [0] [0, 0] 1 1 := ⟨by decide, fun i hi => by
  have : i = 0 := by omega
  subst this; decide, .inr ⟨by decide, by decide, rfl⟩⟩
theorem ex_valid : Valid exTask exTask.init [0] := ⟨by decide, fun i hi => by
  have : i = 0 := by simp at hi; omega
  subst this; decide, by decide⟩
theorem ex_applied0 {r : LV} (h : Applied exTask [0] 0 r) : r = .tup [.ints false [1], .bool true, .int 0] := by
  cases h with
  | fault h => exact absurd ex_fine h
  | arg h h2 => exact absurd h2 (by decide)
  | no h k hk h2 h3 =>
    have : k = 0 := by omega
    subst this; rw [ex_hold0] at h3; cases h3
  | yes h k hk h2 h3 =>
    have : k = 0 := by omega
    subst this; rw [ex_after]; rfl
theorem ex_applied1 {r : LV} (h : Applied exTask [1] 0 r) : r = .tup [nilV, .bool false, .int 0] := by
  cases h with
  | fault h => exact absurd ex_fine1 h
  | arg h h2 => exact absurd h2 (by decide)
  | no h k hk h2 h3 => rfl
  | yes h k hk h2 h3 =>
    have : k = 0 := by omega
    subst this; rw [ex_hold1] at h3; cases h3
theorem ex_executed {r : LV} (h : Executed false exTask [0] [0, 0] r) : r = .tup [.agg [.t (.sl false 1 [[tIs false [0]], [tIs false [1]]]), .int 2, .bool true], .int 1, .int 0] := by
  cases h with
  | fault h => exact absurd ex_fine h
  | arg h h2 => exact absurd h2 (by decide)
  | ran h h2 k at_ hr =>
    obtain ⟨rfl, rfl⟩ := ran_eq hr ex_ran
    have h1 : stAt exTask [0] [0, 0] 1 = [1] := by decide
    have h3 : costAt exTask [0, 0] 1 = 2 := by decide
    have h4 : holdsB [1] exTask.goal = true := by decide
    have h5 : stTs false exTask [0] [0, 0] 1 = [[tIs false [0]], [tIs false [1]]] := by
      rw [stTs_step, stN, h1]; rfl
    rw [runV, h1, h3, h4, h5]
theorem ex_planned {r : LV} (h : Planned exTask [0] r) : r = .tup [.int 2, .bool true, .int 0] := by
  cases h with
  | fault h => exact absurd h (by decide)
  | arg h h2 => exact absurd h2 (by decide)
  | no h h2 h3 => exact absurd ex_valid h3
  | yes h h2 h3 =>
    have h3 : costAt exTask [0] 1 = 2 := by decide
    show LV.tup [.int (costAt exTask [0] 1), _, _] = _
    rw [h3]

theorem f38_spec (out : List Fr) : SpecP Try.prog 38 [] out fun r ro => r = .bool true ∧ ro = [] := by
  refine spec_body cxs_ok [] [] (fn := Try.f38) (by kernel_rfl) rfl (by kernel_rfl) rfl (by unfold FnOK; kernel_rfl) fun hok => ?_
  refine SpecP.mono (f75_spec []) ?_
  rintro _ _ ⟨rfl, rfl⟩
  refine Exists.intro [tI 0] (And.intro rfl (And.intro (Nat.le_of_ble_eq_true rfl) ?_))
  refine Exists.intro [tI 0] (And.intro rfl (And.intro (Nat.le_of_ble_eq_true rfl) ?_))
  refine SpecP.mono (f39_spec exTask false [0] 0 _) ?_
  rintro _ _ ⟨hr, rfl⟩
  rw [ex_applied0 hr]
  refine And.intro (fun _ => ?_) fun h => Bool.noConfusion h
  refine Exists.intro [tI 1] (And.intro rfl (And.intro (Nat.le_of_ble_eq_true rfl) ?_))
  refine Exists.intro [tI 1] (And.intro rfl (And.intro (Nat.le_of_ble_eq_true rfl) ?_))
  refine SpecP.mono (f39_spec exTask false [1] 0 _) ?_
  rintro _ _ ⟨hr, rfl⟩
  rw [ex_applied1 hr]
  refine And.intro (fun h => Bool.noConfusion h) fun _ => ?_
  refine Exists.intro [tI 0] (And.intro rfl (And.intro (Nat.le_of_ble_eq_true rfl) ?_))
  refine Exists.intro [tI 0] (And.intro rfl (And.intro (Nat.le_of_ble_eq_true rfl) ?_))
  refine Exists.intro [tI 0, tI 0] (And.intro rfl (And.intro (Nat.le_of_ble_eq_true rfl) ?_))
  refine Exists.intro [tI 0, tI 0] (And.intro rfl (And.intro (Nat.le_of_ble_eq_true rfl) ?_))
  refine SpecP.mono (f42_spec exTask false false [0] [0, 0] _) ?_
  rintro _ _ ⟨hr, rfl⟩
  rw [ex_executed hr]
  refine Exists.intro [tI 0] (And.intro rfl (And.intro (Nat.le_of_ble_eq_true rfl) ?_))
  refine SpecP.mono (f43_spec exTask false [0] _) ?_
  rintro _ _ ⟨hr, rfl⟩
  rw [ex_planned hr]
  refine And.intro ⟨trivial, trivial, trivial, trivial⟩ (And.intro trivial ?_)
  refine And.intro (fun _ => ?_) fun h => Bool.noConfusion h
  refine Exists.intro [tI 0, tI 1] (And.intro rfl (And.intro (Nat.le_of_ble_eq_true rfl) ?_))
  refine Exists.intro [tI 0, tI 1] (And.intro rfl (And.intro (Nat.le_of_ble_eq_true rfl) ?_))
  refine SpecP.mono (f47_spec exTask false [0, 1] _) ?_
  rintro _ _ ⟨hr, rfl⟩
  rcases hr with ⟨h, _⟩ | ⟨_, rfl⟩
  · exact absurd ex_fine2 h
  rw [ex_appl]
  refine And.intro (fun _ => ?_) fun h => absurd h (by decide)
  refine Exists.intro [tI 1] (And.intro rfl (And.intro (Nat.le_of_ble_eq_true rfl) ?_))
  refine SpecP.mono (f20_spec false false [1] [1] _) ?_
  rintro _ _ ⟨rfl, rfl⟩
  refine And.intro trivial (And.intro trivial ?_)
  refine And.intro (fun _ => ?_) fun h => absurd h (by decide)
  refine And.intro (fun _ => ?_) fun h => absurd h (by decide)
  refine And.intro (fun _ => ?_) fun h => absurd h (by decide)
  refine And.intro (fun _ => ?_) fun h => absurd h (by decide)
  refine And.intro (fun _ => ?_) fun h => absurd h (by decide)
  refine And.intro (fun _ => ?_) fun h => absurd h (by decide)
  refine And.intro (fun _ => ?_) fun h => absurd h (by decide)
  refine And.intro (fun _ => ?_) fun h => absurd h (by decide)
  refine And.intro (fun _ => ?_) fun h => absurd h (by decide)
  refine And.intro (fun _ => ?_) fun h => absurd h (by decide)
  refine And.intro (fun _ => ?_) fun h => absurd h (by decide)
  exact Exists.intro [] (And.intro rfl rfl)

end Go.Fw

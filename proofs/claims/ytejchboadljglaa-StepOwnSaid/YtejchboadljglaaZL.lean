/- Texts that lead to the law, part 12. -/
import Derived.Test.YtejchboadljglaaZK
import Derived.Test.YtejchboadljglaaZG

/- What the program's functions do, part 45: the calls of the laws of Step that do not depend on the input. -/
namespace Go.Fw
open Go Go.Proofs
set_option maxRecDepth 10000

/-- The context of the laws of Step: rows given to these functions are given away for ever. -/
def cxs : Ctx := { cx with frz := [(39, 1), (42, 1), (47, 1)] }
theorem cxs_ok : cxs.OK Try.prog := ⟨cx_ok.mixed, cx_ok.tys, cx_ok.eqs, cx_ok.exts, cx_ok.srt⟩

theorem ex_hold0 : holdsB [0] exTask.acts[0].pre = true := by decide
theorem ex_hold1 : holdsB [1] exTask.acts[0].pre = false := by decide
theorem ex_fine1 : fineI exTask [1] = 0 := by decide
theorem ex_fine2 : fineI exTask [0, 1] = 0 := by decide
theorem ex_after : afterL exTask.facts.length [0] exTask.acts[0].effs = [1] := by decide
theorem ex_appl : appl exTask [0, 1] = [0] := by decide
theorem ex_ran : Ran exTask [0] [0, 0] 1 1 := ⟨by decide, fun i hi => by
  have : i = 0 := by omega
  subst this; decide, .inr ⟨by decide, by decide, rfl⟩⟩
theorem ex_valid : Valid exTask exTask.init [0] := ⟨by decide, fun i hi => by
  have : i = 0 := by simp at hi; omega
  subst this; decide, by decide⟩
theorem ex_applied0 {r : LV} (h : Applied exTask [0] 0 r) : r = .tup [.ints false [1], .bool true, .int 0] := by
  cases h with
  | fault h => exact absurd ex_fine h
  | arg h h2 => exact absurd h2 (by decide)
  | no h k hk h2 h3 =>
    have : k = 0 := by omega
    subst this; rw [ex_hold0] at h3; cases h3
  | yes h k hk h2 h3 =>
    have : k = 0 := by omega
    subst this; rw [ex_after]; rfl
theorem ex_applied1 {r : LV} (h : Applied exTask [1] 0 r) : r = .tup [nilV, .bool false, .int 0] := by
  cases h with
  | fault h => exact absurd ex_fine1 h
  | arg h h2 => exact absurd h2 (by decide)
  | no h k hk h2 h3 => rfl
  | yes h k hk h2 h3 =>
    have : k = 0 := by omega
    subst this; rw [ex_hold1] at h3; cases h3
theorem ex_executed {r : LV} (h : Executed false exTask [0] [0, 0] r) : r = .tup [.agg [.t (.sl false 1 [[tIs false [0]], [tIs false [1]]]), .int 2, .bool true], .int 1, .int 0] := by
  cases h with
  | fault h => exact absurd ex_fine h
  | arg h h2 => exact absurd h2 (by decide)
  | ran h h2 k at_ hr =>
    obtain ⟨rfl, rfl⟩ := ran_eq hr ex_ran
    have h1 : stAt exTask [0] [0, 0] 1 = [1] := by decide
    have h3 : costAt exTask [0, 0] 1 = 2 := by decide
    have h4 : holdsB [1] exTask.goal = true := by decide
    have h5 : stTs false exTask [0] [0, 0] 1 = [[tIs false [0]], [tIs false [1]]] := by
      rw [stTs_step, stN, h1]; rfl
    rw [runV, h1, h3, h4, h5]
theorem ex_planned {r : LV} (h : Planned exTask [0] r) : r = .tup [.int 2, .bool true, .int 0] := by
  cases h with
  | fault h => exact absurd h (by decide)
  | arg h h2 => exact absurd h2 (by decide)
  | no h h2 h3 => exact absurd ex_valid h3
  | yes h h2 h3 =>
    have h3 : costAt exTask [0] 1 = 2 := by decide
    show LV.tup [.int (costAt exTask [0] 1), _, _] = _
    rw [h3]

theorem f38_spec (out : List Fr) : SpecP Try.prog 38 [] out fun r ro => r = .bool true ∧ ro = [] := by
  refine spec_body cxs_ok [] [] (fn := Try.f38) (by kernel_rfl) rfl (by kernel_rfl) rfl (by unfold FnOK; kernel_rfl) fun hok => ?_
  refine SpecP.mono (f75_spec []) ?_
  rintro _ _ ⟨rfl, rfl⟩
  refine Exists.intro [tI 0] (And.intro rfl (And.intro (Nat.le_of_ble_eq_true rfl) ?_))
  refine Exists.intro [tI 0] (And.intro rfl (And.intro (Nat.le_of_ble_eq_true rfl) ?_))
  refine SpecP.mono (f39_spec exTask false [0] 0 _) ?_
  rintro _ _ ⟨hr, rfl⟩
  rw [ex_applied0 hr]
  refine And.intro (fun _ => ?_) fun h => Bool.noConfusion h
  refine Exists.intro [tI 1] (And.intro rfl (And.intro (Nat.le_of_ble_eq_true rfl) ?_))
  refine Exists.intro [tI 1] (And.intro rfl (And.intro (Nat.le_of_ble_eq_true rfl) ?_))
  refine SpecP.mono (f39_spec exTask false [1] 0 _) ?_
  rintro _ _ ⟨hr, rfl⟩
  rw [ex_applied1 hr]
  refine And.intro (fun h => Bool.noConfusion h) fun _ => ?_
  refine Exists.intro [tI 0] (And.intro rfl (And.intro (Nat.le_of_ble_eq_true rfl) ?_))
  refine Exists.intro [tI 0] (And.intro rfl (And.intro (Nat.le_of_ble_eq_true rfl) ?_))
  refine Exists.intro [tI 0, tI 0] (And.intro rfl (And.intro (Nat.le_of_ble_eq_true rfl) ?_))
  refine Exists.intro [tI 0, tI 0] (And.intro rfl (And.intro (Nat.le_of_ble_eq_true rfl) ?_))
  refine SpecP.mono (f42_spec exTask false false [0] [0, 0] _) ?_
  rintro _ _ ⟨hr, rfl⟩
  rw [ex_executed hr]
  refine Exists.intro [tI 0] (And.intro rfl (And.intro (Nat.le_of_ble_eq_true rfl) ?_))
  refine SpecP.mono (f43_spec exTask false [0] _) ?_
  rintro _ _ ⟨hr, rfl⟩
  rw [ex_planned hr]
  refine And.intro ⟨trivial, trivial, trivial, trivial⟩ (And.intro trivial ?_)
  refine And.intro (fun _ => ?_) fun h => Bool.noConfusion h
  refine Exists.intro [tI 0, tI 1] (And.intro rfl (And.intro (Nat.le_of_ble_eq_true rfl) ?_))
  refine Exists.intro [tI 0, tI 1] (And.intro rfl (And.intro (Nat.le_of_ble_eq_true rfl) ?_))
  refine SpecP.mono (f47_spec exTask false [0, 1] _) ?_
  rintro _ _ ⟨hr, rfl⟩
  rcases hr with ⟨h, _⟩ | ⟨_, rfl⟩
  · exact absurd ex_fine2 h
  rw [ex_appl]
  refine And.intro (fun _ => ?_) fun h => absurd h (by decide)
  refine Exists.intro [tI 1] (And.intro rfl (And.intro (Nat.le_of_ble_eq_true rfl) ?_))
  refine SpecP.mono (f20_spec false false [1] [1] _) ?_
  rintro _ _ ⟨rfl, rfl⟩
  refine And.intro trivial (And.intro trivial ?_)
  refine And.intro (fun _ => ?_) fun h => absurd h (by decide)
  refine And.intro (fun _ => ?_) fun h => absurd h (by decide)
  refine And.intro (fun _ => ?_) fun h => absurd h (by decide)
  refine And.intro (fun _ => ?_) fun h => absurd h (by decide)
  refine And.intro (fun _ => ?_) fun h => absurd h (by decide)
  refine And.intro (fun _ => ?_) fun h => absurd h (by decide)
  refine And.intro (fun _ => ?_) fun h => absurd h (by decide)
  refine And.intro (fun _ => ?_) fun h => absurd h (by decide)
  refine And.intro (fun _ => ?_) fun h => absurd h (by decide)
  refine And.intro (fun _ => ?_) fun h => absurd h (by decide)
  refine And.intro (fun _ => ?_) fun h => absurd h (by decide)
  exact Exists.intro [] (And.intro rfl rfl)

end Go.Fw

/- Heaps of items in lists: what 'up' and 'down' of the standard heap do. -/
namespace Go.Fw.Heap

abbrev Item := Int × Int

def at_ (l : List Item) (j : Nat) : Item := l.getD j (0, 0)
def vl (l : List Item) (j : Nat) : Int := (at_ l j).2
def swapL (l : List Item) (i j : Nat) : List Item := (l.set i (at_ l j)).set j (at_ l i)

theorem at_get {l : List Item} {j : Nat} (h : j < l.length) : l[j]? = some (at_ l j) := by simp [at_, h]
theorem swapL_length (l : List Item) (i j : Nat) : (swapL l i j).length = l.length := by simp [swapL]
theorem at_swap {l : List Item} {i j : Nat} (hi : i < l.length) (hj : j < l.length) (k : Nat) : at_ (swapL l i j) k = if k = j then at_ l i else if k = i then at_ l j else at_ l k := by
  unfold swapL at_
  simp only [List.getD_eq_getElem?_getD, List.getElem?_set]
  by_cases h1 : j = k
  · subst h1; simp [hj]
  · rw [if_neg h1, if_neg (Ne.symm h1)]
    by_cases h2 : i = k
    · subst h2; simp [hi]
    · rw [if_neg h2, if_neg (Ne.symm h2)]
theorem vl_swap {l : List Item} {i j : Nat} (hi : i < l.length) (hj : j < l.length) (k : Nat) : vl (swapL l i j) k = if k = j then vl l i else if k = i then vl l j else vl l k := by
  unfold vl; rw [at_swap hi hj]; split
  · rfl
  · split <;> rfl

theorem swapL_perm {l : List Item} {i j : Nat} (hi : i < l.length) (hj : j < l.length) : (swapL l i j).Perm l := by
  classical
  have key : ∀ (l : List Item) (i : Nat) (x : Item), i < l.length → (l.set i x).Perm (x :: l.eraseIdx i) := by
    intro l
    induction l with
    | nil => intro i x h; simp at h
    | cons y r ih =>
      intro i x h
      cases i with
      | zero => simp
      | succ i =>
        simp only [List.set_cons_succ, List.eraseIdx_cons_succ]
        exact ((ih i x (by simpa using h)).cons y).trans (List.Perm.swap _ _ _)
  by_cases hij : i = j
  · subst hij
    have : swapL l i i = l := by
      unfold swapL at_
      apply List.ext_getElem?
      intro k
      simp only [List.getElem?_set, List.length_set]
      by_cases h : i = k
      · subst h; simp [hi]
      · simp [h]
    rw [this]
  · refine List.perm_iff_count.2 fun a => ?_
    unfold swapL
    have h1 := (key (l.set i (at_ l j)) j (at_ l i) (by simpa using hj)).count_eq a
    have h3 : (l.set i (at_ l j)).Perm (at_ l j :: l.eraseIdx i) := key l i _ hi
    have h4 : l.Perm (at_ l i :: l.eraseIdx i) := by
      have := key l i (at_ l i) hi
      have e : l.set i (at_ l i) = l := by
        apply List.ext_getElem?
        intro k
        simp only [List.getElem?_set, at_]
        by_cases h : i = k
        · subst h; simp [hi]
        · simp [h]
      rwa [e] at this
    have h5 : (l.set i (at_ l j)).Perm (at_ l j :: (l.set i (at_ l j)).eraseIdx j) := by
      have := key (l.set i (at_ l j)) j (at_ l j) (by simpa using hj)
      have e : (l.set i (at_ l j)).set j (at_ l j) = l.set i (at_ l j) := by
        apply List.ext_getElem?
        intro k
        simp only [List.getElem?_set, List.length_set, at_]
        by_cases h : j = k
        · subst h; simp [hj, hij]
        · simp [h]
      rwa [e] at this
    have c3 := h3.count_eq a
    have c4 := h4.count_eq a
    have c5 := h5.count_eq a
    simp only [List.count_cons] at h1 c3 c4 c5 ⊢
    omega

def upL (l : List Item) (j : Nat) : List Item :=
  if _h : j = 0 then l else if vl l j < vl l ((j - 1) / 2) then upL (swapL l ((j - 1) / 2) j) ((j - 1) / 2) else l
termination_by j
decreasing_by omega

def kid (l : List Item) (i n : Nat) : Nat := if 2 * i + 2 < n ∧ vl l (2 * i + 2) < vl l (2 * i + 1) then 2 * i + 2 else 2 * i + 1
theorem kid_gt (l : List Item) (i n : Nat) : i < kid l i n := by unfold kid; split <;> omega
theorem kid_lt {l : List Item} {i n : Nat} (h : 2 * i + 1 < n) : kid l i n < n := by unfold kid; split <;> omega
def downL (l : List Item) (i n : Nat) : List Item :=
  if _h : 2 * i + 1 < n then if vl l (kid l i n) < vl l i then downL (swapL l i (kid l i n)) (kid l i n) n else l else l
termination_by n - i
decreasing_by have := kid_gt l i n; have := kid_lt (l := l) ‹2 * i + 1 < n›; omega

def HP (l : List Item) (n : Nat) : Prop := ∀ j, 0 < j → j < n → vl l ((j - 1) / 2) ≤ vl l j

theorem up_spec : ∀ (j : Nat) (l : List Item), j < l.length → (upL l j).Perm l ∧ (upL l j).length = l.length ∧
    ((∀ k, 0 < k → k < l.length → k ≠ j → vl l ((k - 1) / 2) ≤ vl l k) → (∀ k, 0 < k → k < l.length → (k - 1) / 2 = j → 0 < j → vl l ((j - 1) / 2) ≤ vl l k) → HP (upL l j) l.length) := by
  intro j
  induction j using Nat.strongRecOn with
  | _ j ih =>
  intro l hj
  unfold upL
  split
  · rename_i h0
    subst h0
    exact ⟨.refl _, rfl, fun h1 _ k hk hl => h1 k hk hl (by omega)⟩
  · rename_i h0
    split
    · rename_i hlt
      have hp : (j - 1) / 2 < l.length := by omega
      obtain ⟨a, b, c⟩ := ih ((j - 1) / 2) (by omega) (swapL l ((j - 1) / 2) j) (by rw [swapL_length]; exact hp)
      rw [swapL_length] at b c
      refine ⟨a.trans (swapL_perm hp hj), b, fun h1 h2 => c ?_ ?_⟩
      · intro k hk hl hne
        rw [vl_swap hp hj, vl_swap hp hj]
        by_cases e1 : k = j
        · subst e1
          rw [if_neg (by omega), if_pos rfl, if_pos rfl]; omega
        · rw [if_neg e1, if_neg hne]
          by_cases e2 : (k - 1) / 2 = j
          · rw [if_pos e2]; exact h2 k hk hl e2 (by omega)
          · rw [if_neg e2]
            by_cases e3 : (k - 1) / 2 = (j - 1) / 2
            · rw [if_pos e3]
              have := h1 k hk hl e1
              rw [e3] at this; omega
            · rw [if_neg e3]; exact h1 k hk hl e1
      · intro k hk hl he h0'
        rw [vl_swap hp hj, vl_swap hp hj]
        rw [if_neg (by omega), if_neg (by omega)]
        have hpp := h1 ((j - 1) / 2) h0' hp (by omega)
        by_cases e1 : k = j
        · rw [if_pos e1]; exact hpp
        · rw [if_neg e1]
          by_cases e2 : k = (j - 1) / 2
          · omega
          · rw [if_neg e2]
            have := h1 k hk hl e1
            rw [he] at this; omega
    · rename_i hge
      refine ⟨.refl _, rfl, fun h1 _ k hk hl => ?_⟩
      by_cases e : k = j
      · subst e; omega
      · exact h1 k hk hl e

theorem down_spec : ∀ (d : Nat) (n i : Nat) (l : List Item), n - i = d → n ≤ l.length → i < l.length → (downL l i n).Perm l ∧ (downL l i n).length = l.length ∧ (∀ k, n ≤ k → at_ (downL l i n) k = at_ l k) ∧
    ((∀ k, 0 < k → k < n → (k - 1) / 2 ≠ i → vl l ((k - 1) / 2) ≤ vl l k) → (∀ k, 0 < k → k < n → (k - 1) / 2 = i → 0 < i → vl l ((i - 1) / 2) ≤ vl l k) → HP (downL l i n) n) := by
  intro d
  induction d using Nat.strongRecOn with
  | _ d ih =>
  intro n i l hd hn hi
  unfold downL
  split
  · rename_i h0
    have hkn := kid_lt (l := l) h0
    have hki := kid_gt l i n
    have hkp : (kid l i n - 1) / 2 = i := by unfold kid; split <;> omega
    have hkl : kid l i n < l.length := by omega
    have hmin : ∀ k, 0 < k → k < n → (k - 1) / 2 = i → vl l (kid l i n) ≤ vl l k := by
      intro k hk hl he
      have : k = 2 * i + 1 ∨ k = 2 * i + 2 := by omega
      unfold kid
      split
      · rename_i h
        rcases this with rfl | rfl
        · omega
        · exact Int.le_refl _
      · rename_i h
        rcases this with rfl | rfl
        · exact Int.le_refl _
        · by_cases h3 : vl l (2 * i + 2) < vl l (2 * i + 1)
          · exact absurd ⟨hl, h3⟩ h
          · omega
    split
    · rename_i hlt
      obtain ⟨a, b, c, e⟩ := ih (n - kid l i n) (by omega) n (kid l i n) (swapL l i (kid l i n)) rfl (by rw [swapL_length]; exact hn) (by rw [swapL_length]; exact hkl)
      rw [swapL_length] at b
      refine ⟨a.trans (swapL_perm hi hkl), b, fun k hk => ?_, fun h1 h2 => e ?_ ?_⟩
      · rw [c k hk, at_swap hi hkl, if_neg (by omega), if_neg (by omega)]
      · intro k hk hl hne
        rw [vl_swap hi hkl, vl_swap hi hkl]
        rw [if_neg hne]
        by_cases e1 : k = kid l i n
        · rw [if_pos e1, if_pos (by omega)]; omega
        · rw [if_neg e1]
          by_cases e2 : (k - 1) / 2 = i
          · rw [if_pos e2, if_neg (by omega)]; exact hmin k hk hl e2
          · rw [if_neg e2]
            by_cases e3 : k = i
            · rw [if_pos e3, e3]
              exact h2 _ (by omega) hkn hkp (by omega)
            · rw [if_neg e3]; exact h1 k hk hl e2
      · intro k hk hl he h0'
        rw [vl_swap hi hkl, vl_swap hi hkl]
        rw [hkp, if_neg (by omega), if_pos rfl, if_neg (by omega), if_neg (by omega)]
        have := h1 k hk hl (by omega)
        rw [he] at this; exact this
    · rename_i hge
      refine ⟨.refl _, rfl, fun _ _ => rfl, fun h1 h2 k hk hl => ?_⟩
      by_cases e : (k - 1) / 2 = i
      · have := hmin k hk hl e; rw [e]; omega
      · exact h1 k hk hl e
  · rename_i h0
    exact ⟨.refl _, rfl, fun _ _ => rfl, fun h1 h2 k hk hl => h1 k hk hl (by omega)⟩

theorem HP.root {l : List Item} {n : Nat} (h : HP l n) : ∀ j, j < n → vl l 0 ≤ vl l j := by
  intro j
  induction j using Nat.strongRecOn with
  | _ j ih =>
  intro hj
  by_cases h0 : j = 0
  · subst h0; exact Int.le_refl _
  · have := ih ((j - 1) / 2) (by omega) (by omega)
    have := h j (by omega) hj
    omega

/-- What 'Push' leaves. -/
def pushL (l : List Item) (x : Item) : List Item := upL (l ++ [x]) l.length
theorem push_spec {l : List Item} {x : Item} (h : HP l l.length) : (pushL l x).Perm (x :: l) ∧ (pushL l x).length = l.length + 1 ∧ HP (pushL l x) (pushL l x).length := by
  obtain ⟨a, b, c⟩ := up_spec l.length (l ++ [x]) (by simp)
  have hv : ∀ k, k < l.length → vl (l ++ [x]) k = vl l k := fun k hk => by simp [vl, at_, List.getElem?_append_left hk]
  have hp : (pushL l x).Perm (x :: l) := a.trans List.perm_append_comm
  have hl : (pushL l x).length = l.length + 1 := b.trans (by simp)
  refine ⟨hp, hl, ?_⟩
  rw [hl]
  have := c (fun k hk hl hne => ?_) (fun k hk hl he h0 => ?_)
  · rw [List.length_append, List.length_singleton] at this; exact this
  · simp only [List.length_append, List.length_singleton] at hl
    rw [hv _ (by omega), hv _ (by omega)]; exact h k hk (by omega)
  · simp only [List.length_append, List.length_singleton] at hl; omega

/-- What 'Pop' leaves in the row ahead of the last step: the least item is the last one. -/
def popL (l : List Item) : List Item := downL (swapL l 0 (l.length - 1)) 0 (l.length - 1)
theorem pop_spec {l : List Item} (h : HP l l.length) (h0 : 0 < l.length) : (popL l).length = l.length ∧ at_ (popL l) (l.length - 1) = at_ l 0 ∧
    l.Perm (at_ l 0 :: (popL l).take (l.length - 1)) ∧ HP ((popL l).take (l.length - 1)) (l.length - 1) ∧ ∀ x ∈ l, (at_ l 0).2 ≤ x.2 := by
  have hs : l.length - 1 < l.length := by omega
  obtain ⟨a, b, c, d⟩ := down_spec _ (l.length - 1) 0 (swapL l 0 (l.length - 1)) rfl (by rw [swapL_length]; omega) (by rw [swapL_length]; exact h0)
  rw [swapL_length] at b
  have hlast : at_ (popL l) (l.length - 1) = at_ l 0 := by
    unfold popL
    rw [c _ (Nat.le_refl _), at_swap h0 hs, if_pos rfl]
  have hlen : (popL l).length = l.length := b
  have hperm : (popL l).Perm l := a.trans (swapL_perm h0 hs)
  have hsplit : popL l = (popL l).take (l.length - 1) ++ [at_ l 0] := by
    apply List.ext_getElem?
    intro k
    by_cases hk : k < l.length - 1
    · rw [List.getElem?_append_left (by simp [hlen]; omega), List.getElem?_take, if_pos hk]
    · rw [List.getElem?_append_right (by simp [hlen]; omega)]
      simp only [List.length_take, hlen]
      by_cases hk2 : k = l.length - 1
      · subst hk2
        rw [Nat.min_eq_left (by omega), Nat.sub_self, at_get (by omega), hlast]; rfl
      · rw [List.getElem?_eq_none (by omega), List.getElem?_eq_none (by simp; omega)]
  refine ⟨hlen, hlast, ?_, ?_, ?_⟩
  · refine hperm.symm.trans ?_
    conv => lhs; rw [hsplit]
    exact List.perm_append_comm
  · have hd : HP (popL l) (l.length - 1) := d (fun k hk hl hne => ?_) (fun k hk hl he h => absurd h (Nat.lt_irrefl 0))
    · intro k hk hl
      have e : ∀ k, k < l.length - 1 → vl ((popL l).take (l.length - 1)) k = vl (popL l) k := fun k hk => by simp [vl, at_, hk]
      rw [e _ hl, e _ (by omega)]; exact hd k hk hl
    · rw [vl_swap h0 hs, vl_swap h0 hs, if_neg (by omega), if_neg (by omega), if_neg (by omega), if_neg (by omega)]
      exact h k hk (by omega)
  · intro x hx
    obtain ⟨j, hj, rfl⟩ := List.getElem_of_mem hx
    have := h.root j hj
    simpa [vl, at_, hj] using this

end Go.Fw.Heap

/- What the program's functions do: a plan is executed, the states as rows of our own. -/
namespace Go.Fw
open Go Go.Proofs
set_option maxRecDepth 10000

def cxg : Ctx := { cx with grd := [(43, 1)], frz := [] }
theorem cxg_ok : cxg.OK Try.prog := ⟨cx_ok.mixed, cx_ok.tys, cx_ok.eqs, cx_ok.exts, cx_ok.srt⟩

theorem f96o_spec (n1 : Bool) (s : List Int) (hl : s.length ≤ 1000000000) (out : List Fr) : SpecP Try.prog 96 [.ints n1 s] out fun r ro =>
    (n1 = true ∧ r = .t (.sl true 0 []) ∧ ro = []) ∨ (n1 = false ∧ r = .osl (.cur 40) 1 0 (s.map tI).length ∧ ro = [(40, .row 3 1 (s.map tI))]) := by
  refine SpecP.nil_arg (i := 0) rfl (by unfold FnOK; kernel_rfl) fun hnil => ?_
  refine spec_body cx_ok [] [] (fn := Try.f96) (by kernel_rfl) rfl (by kernel_rfl) rfl (by unfold FnOK; kernel_rfl) fun hok => ?_
  have hsl : (s.map tI).length = s.length := List.length_map ..
  refine And.intro (fun h => ?_) fun h => ?_
  · exact Exists.intro [] (.inl ⟨h, rfl, rfl⟩)
  refine And.intro rfl (And.intro (by show (s.map tI).length * 8 ≤ _; omega) (And.intro (by show (s.map tI).length ≤ _; omega) ?_))
  exact Exists.intro [40] (.inr ⟨h, rfl, rfl⟩)

/-- A state as a row of our own, or none. -/
def rowG (b : Bool) (l : List Int) : GR := match b with
  | true => .nil
  | false => .row (l.map tI)
def stGs (n1 : Bool) (t : Task) (s p : List Int) (k : Nat) : List GR := (List.range (k + 1)).map fun j => rowG (stN n1 t s p j) (stAt t s p j)
theorem stGs_len (n1 : Bool) (t : Task) (s p : List Int) (k : Nat) : (stGs n1 t s p k).length = k + 1 := by simp [stGs]
theorem stGs_step (n1 : Bool) (t : Task) (s p : List Int) (k : Nat) : stGs n1 t s p (k + 1) = stGs n1 t s p k ++ [rowG (stN n1 t s p (k + 1)) (stAt t s p (k + 1))] := by
  rw [stGs, List.range_succ, List.map_append]; rfl
theorem stGs_get {n1 : Bool} {t : Task} {s p : List Int} {k j : Nat} (h : j ≤ k) : (stGs n1 t s p k)[j]? = some (rowG (stN n1 t s p j) (stAt t s p j)) := by
  rw [stGs, List.getElem?_map, List.getElem?_range (by omega)]; rfl

def odG79 : Od := [(6, [(0, .tree (.pure 0 (.pure 1 (.pure 2 (.last 3 (.last 4 (.last 5 (.pure 6 (.last 7 .done [])) []) [0, 1]) [0, 1])))))]), (7, [(0, .pure), (1, .pure), (2, .pure), (3, .pure), (4, .pure), (5, .pure), (6, .pure), (7, .pure), (8, .pure), (9, .pure), (10, .pure), (11, .pure), (12, .pure), (13, .syn)]), (9, [(0, .pure), (1, .pure), (2, .pure), (3, .pure), (4, .pure), (5, .pure), (6, .pure), (7, .pure), (8, .pure), (9, .pure), (10, .eff), (11, .pure), (12, .syn)]), (12, [(0, .tree (.pure 0 (.pure 1 (.last 2 (.pure 3 .done) [1]))))])]
theorem f79g_spec (t : Task) (n1 n2 : Bool) (s p : List Int) (TK : TaskOK t) (hs : risingB s t.facts.length = true) (hp : planB t p = true) (out : List Fr) :
    SpecP Try.prog 79 [.task t, .ints n1 s, .ints n2 p] out fun r ro => ∃ (k : Nat) (at_ : Int), Ran t s p k at_ ∧
      r = .tup [.agg [.osl (.cur 112) 1 0 (stGs n1 t s p k).length, .int (costAt t p k), .bool (holdsB (stAt t s p k) t.goal)], .int at_] ∧ ro = [(112, .grid 23 3 1 (stGs n1 t s p k))] := by
  refine SpecP.nil_arg (i := 1) rfl (by unfold FnOK; kernel_rfl) fun hnil => ?_
  refine spec_range cxg_ok kp79 odG79 kp105 od105 (fn := Try.f79) (by kernel_rfl) rfl (by kernel_rfl) rfl (by unfold FnOK; kernel_rfl) fun hok => ?_
  have hin := rising_in hs
  have hN := TK.facts
  have hsl := rising_len hs (by omega)
  have hpl : p.length ≤ 10000 := by simp only [planB, Bool.and_eq_true, decide_eq_true_eq] at hp; exact hp.1
  have m56 : ∀ i, stN n1 t s p i = true → ∀ out, SpecP Try.prog 56 [.t (.sl true 0 []), .lits t.gn t.goal] out fun r ro => r = .bool (holdsB (stAt t s p i) t.goal) ∧ ro = [] := fun i h out => by
    have h0 : stAt t s p i = [] := by
      cases i with
      | zero => exact hnil h
      | succ i => exact List.isEmpty_iff.1 h
    have hsi := st_rising (t := t) (p := p) hs i
    refine SpecP.conv (args' := [.ints true (stAt t s p i), .lits t.gn t.goal]) (fun β RO w vals hv => ⟨hv.1, fun i z v hz hvz => ?_⟩) (f56_spec true t.gn (stAt t s p i) t.goal t.facts.length hsi (by omega) out)
    match i with
    | 0 => simp [h0] at hz; subst hz; exact nil_sz _ _ _ _ (hv.2 0 _ v rfl hvz)
    | 1 => exact hv.2 1 z v hz hvz
    | i + 2 => simp at hz
  clear hnil
  cases n1
  case' true =>
    refine SpecP.mono (f96o_spec true s hsl []) ?_
    rintro _ _ (⟨hn1, rfl, rfl⟩ | ⟨hn1, rfl, rfl⟩)
    rotate_left
    · cases hn1
    let n1 : Bool := true
  case' false =>
    refine SpecP.mono (f96o_spec false s hsl []) ?_
    rintro _ _ (⟨hn1, rfl, rfl⟩ | ⟨hn1, rfl, rfl⟩)
    · cases hn1
    let n1 : Bool := false
    refine And.intro rfl ?_
  all_goals
    clear hn1
    refine SpecP.mono (f97_spec t n1 n2 s p []) ?_
    rintro _ _ ⟨rfl, rfl⟩
    refine ⟨Try.f105, _, rfl, rfl, rfl, by unfold FnOK; kernel_rfl, by kernel_rfl, fun l => ?_⟩
    refine LoopW.mk Nat (fun i => i ≤ p.length ∧ ∀ j, j < i → okAt t s p j = true)
      (fun i => [(0, .t (.v (.func (.yield l) #[] #[]))), (2, .ptr (.cur 153000491) 0), (3, .ptr (.cur 153000483) 0), (7, .ints n2 p), (8, .int (p.map tI).length), (9, .int i),
        (1000003, .ptr (.cur 24) 0), (1000005, .ptr (.cur 40) 0), (1000006, .ptr (.cur 48) 0), (1000008, .ptr (.cur 64) 0), (1000009, .ptr (.cur 72) 0)])
      (fun i => ⟨out, [(24, .box (cellsTask t)), (40, .box [.ints n2 p]), (48, .box [.t (.sl true 0 []), .int 0, .bool false]), (64, .box [.osl (.cur 112) 1 0 (stGs n1 t s p i).length, .int (costAt t p i), .bool false]), (72, .box [.int i]),
        (112, .grid 23 3 1 (stGs n1 t s p i)), (153000483, .box (cellsTask t)), (153000491, .box [.ints (stN n1 t s p i) (stAt t s p i)])]⟩) (fun i => p.length - i) 0 ⟨Nat.zero_le _, fun j hj => by omega⟩ ⟨rfl, rfl⟩ fun i hI => ?_
    have hsi := st_rising (t := t) (p := p) hs i
    have hsil := rising_len hsi (by omega)
    have hlen := stGs_len n1 t s p i
    refine And.intro (fun h1 => ?_) fun h1 => ?_
    · have hi := lt_of_dec h1
      obtain ⟨k, hk1, hk2, hk3, _⟩ := plan_get hp hi
      have hci := costAt_in TK hp i hI.1
      have hc := TK.cost _ (List.getElem_mem hk2)
      have hmem : t.acts[k] ∈ t.acts := List.getElem_mem hk2
      have hE := TK.effs _ hmem
      have hokk : okAt t s p i = holdsB (stAt t s p i) t.acts[k].pre := by rw [okAt, hk3]
      refine And.intro (by omega) (Exists.intro (tI k) (And.intro (by rw [← hk1]; exact get_map hi) ?_))
      refine And.intro (by omega) (Exists.intro _ (And.intro (get_map hk2) ?_))
      refine SpecP.mono (f56_spec (stN n1 t s p i) t.acts[k].pn (stAt t s p i) t.acts[k].pre t.facts.length hsi (by omega) []) ?_
      rintro _ _ ⟨rfl, rfl⟩
      refine And.intro ⟨rfl, rfl, rfl⟩ ?_
      refine And.intro (fun h2 => ?_) fun h2 => ?_
      · refine And.intro (by omega) (Exists.intro _ (And.intro (get_map hk2) ?_))
        refine SpecP.mono (f76i_spec (stN n1 t s p i) (stAt t s p i) t.acts[k] t.facts.length hsi (by omega) (TK.lit _ hmem) (by omega) []) ?_
        rintro _ _ ⟨rfl, rfl⟩
        refine And.intro ⟨rfl, rfl, rfl⟩ ?_
        refine ⟨rfl, rfl, ?_⟩
        have hst : stAt t s p (i + 1) = afterL t.facts.length (stAt t s p i) t.acts[k].effs := by rw [stAt, hk3]
        rw [← hst]
        have hsj := st_rising (t := t) (p := p) hs (i + 1)
        have hsjl := rising_len hsj (by omega)
        have hcost : costAt t p (i + 1) = costAt t p i + t.acts[k].cost := by rw [costAt, hk3]
        have hok2 : ∀ j, j < i + 1 → okAt t s p j = true := fun j hj => by
          rcases Nat.lt_or_ge j i with h | h
          · exact hI.2 j h
          · rw [show j = i by omega, hokk, h2]
        cases hb : (stAt t s p (i + 1)).isEmpty
        case' true =>
          have hbN : stN n1 t s p (i + 1) = true := hb
          have hstep : stGs n1 t s p (i + 1) = stGs n1 t s p i ++ [.nil] := by rw [stGs_step, hbN]; rfl
          refine SpecP.mono (f96o_spec true (stAt t s p (i + 1)) hsjl []) ?_
          rintro _ _ (⟨hn1, rfl, rfl⟩ | ⟨hn1, rfl, rfl⟩)
          rotate_left
          · cases hn1
          refine And.intro rfl (And.intro rfl (And.intro rfl (And.intro rfl ?_)))
        case' false =>
          have hbN : stN n1 t s p (i + 1) = false := hb
          have hstep : stGs n1 t s p (i + 1) = stGs n1 t s p i ++ [.row ((stAt t s p (i + 1)).map tI)] := by rw [stGs_step, hbN]; rfl
          refine SpecP.mono (f96o_spec false (stAt t s p (i + 1)) hsjl []) ?_
          rintro _ _ (⟨hn1, rfl, rfl⟩ | ⟨hn1, rfl, rfl⟩)
          · cases hn1
          refine And.intro rfl (And.intro rfl (And.intro rfl (And.intro rfl (And.intro rfl ?_))))
        all_goals
          clear hn1
          refine And.intro rfl (And.intro (by show ((stGs n1 t s p i).length + 1) * 24 ≤ _; omega) (And.intro (by show (stGs n1 t s p i).length + 1 ≤ _; omega) ?_))
          refine And.intro (by omega) (Exists.intro (tI k) (And.intro (by rw [← hk1]; exact get_map hi) ?_))
          refine And.intro (by omega) (Exists.intro _ (And.intro (get_map hk2) ?_))
          refine And.intro (by omega) (And.intro (by omega) ?_)
          refine And.intro (by omega) (And.intro (by omega) ?_)
          refine And.intro (fun _ => ?_) fun h => Bool.noConfusion h
          refine And.intro (by omega) (And.intro (by omega) ?_)
          refine Exists.intro (i + 1) (And.intro (by show p.length - (i + 1) < p.length - i; omega) (And.intro ⟨hi, hok2⟩ ?_))
          simp only [hcost, hstep, hbN, List.length_append, List.length_singleton]
          exact And.intro rfl rfl
      · refine And.intro (by omega) (And.intro (by omega) ?_)
        refine And.intro (by omega) (And.intro (by omega) (Exists.intro _ (And.intro (by rw [show 0 + (((stGs n1 t s p i).length : Int) - 1).toNat = i by omega]; exact stGs_get (Nat.le_refl i)) ?_)))
        have hb := stGs_get (n1 := n1) (t := t) (s := s) (p := p) (Nat.le_refl i)
        cases hbN : stN n1 t s p i
        case' true => refine SpecP.mono (m56 i hbN []) ?_
        case' false =>
          rw [hbN] at hb
          refine Exists.intro _ (And.intro (by rw [show 0 + (((stGs n1 t s p i).length : Int) - 1).toNat = i by omega]; exact hb) (Exists.intro _ (And.intro take_all (And.intro (by rw [Nat.zero_add]; exact Nat.le_refl _) ?_))))
          refine SpecP.mono (f56_spec false t.gn (stAt t s p i) t.goal t.facts.length hsi (by omega) _) ?_
        all_goals
          rintro _ _ ⟨rfl, rfl⟩
          try refine And.intro trivial (And.intro trivial ?_)
          refine And.intro ⟨rfl, rfl, rfl⟩ ?_
          refine And.intro (fun h3 => ?_) fun h3 => ?_
          all_goals
            refine And.intro (fun h4 => ?_) fun h4 => ?_
            · have h4 := of_decide_eq_true h4
              rw [List.length_map] at h4
              omega
            · refine And.intro rfl ?_
              exact Exists.intro [112] ⟨i, (i : Int), ⟨hI.1, hI.2, .inr ⟨hi, by rw [hokk, h2], rfl⟩⟩, by rw [h3]; rfl, rfl⟩
    · have hi : i = p.length := by have := hI.1; have := ge_of_dec h1; omega
      refine And.intro (by omega) (And.intro (by omega) ?_)
      refine And.intro (by omega) (And.intro (by omega) (Exists.intro _ (And.intro (by rw [show 0 + (((stGs n1 t s p i).length : Int) - 1).toNat = i by omega]; exact stGs_get (Nat.le_refl i)) ?_)))
      have hb := stGs_get (n1 := n1) (t := t) (s := s) (p := p) (Nat.le_refl i)
      cases hbN : stN n1 t s p i
      case' true => refine SpecP.mono (m56 i hbN []) ?_
      case' false =>
        rw [hbN] at hb
        refine Exists.intro _ (And.intro (by rw [show 0 + (((stGs n1 t s p i).length : Int) - 1).toNat = i by omega]; exact hb) (Exists.intro _ (And.intro take_all (And.intro (by rw [Nat.zero_add]; exact Nat.le_refl _) ?_))))
        refine SpecP.mono (f56_spec false t.gn (stAt t s p i) t.goal t.facts.length hsi (by omega) _) ?_
      all_goals
        rintro _ _ ⟨rfl, rfl⟩
        try refine And.intro trivial (And.intro trivial ?_)
        refine And.intro ⟨rfl, rfl, rfl⟩ ?_
        refine And.intro (fun h3 => ?_) fun h3 => ?_
        all_goals
          refine And.intro (fun h4 => ?_) fun h4 => ?_
          · refine And.intro rfl ?_
            exact Exists.intro [112] ⟨i, -1, ⟨hI.1, hI.2, .inl ⟨hi, rfl⟩⟩, by rw [h3]; rfl, rfl⟩
          · have h4 := of_decide_eq_false h4
            rw [List.length_map] at h4
            omega

/-- What Execute hands back, its states rows of our own. -/
inductive ExecG (n1 : Bool) (t : Task) (s p : List Int) : LV → Fr → Prop
  | fault (h : fineI t s ≠ 0) : ExecG n1 t s p (.tup [.agg [nilV, .int 0, .bool false], .int 0, .int (fineI t s)]) []
  | arg (h : fineI t s = 0) (h2 : planB t p = false) : ExecG n1 t s p (.tup [.agg [nilV, .int 0, .bool false], .int 0, .int 1]) []
  | ran (h : fineI t s = 0) (h2 : planB t p = true) (k : Nat) (at_ : Int) (hr : Ran t s p k at_) : ExecG n1 t s p (.tup [.agg [.osl (.cur 225000787) 1 0 (stGs n1 t s p k).length, .int (costAt t p k), .bool (holdsB (stAt t s p k) t.goal)], .int at_, .int 0]) [(225000787, .grid 23 3 1 (stGs n1 t s p k))]
theorem f42g_spec (t : Task) (n1 n2 : Bool) (s p : List Int) (out : List Fr) : SpecP Try.prog 42 [.task t, .ints n1 s, .ints n2 p] out fun r ro => ExecG n1 t s p r ro := by
  refine spec_body cxg_ok [] [] (fn := Try.f42) (by kernel_rfl) rfl (by kernel_rfl) rfl (by unfold FnOK; kernel_rfl) fun hok => ?_
  refine SpecP.mono (f54_spec t n1 s []) ?_
  rintro _ _ ⟨rfl, rfl⟩
  refine And.intro (fun h => ?_) fun h => ?_
  · exact Exists.intro [] (.fault (fine_no h))
  have h0 := fine_yes h
  obtain ⟨ht, hs⟩ := hts_of h0
  have TK := task_ok ht
  refine SpecP.mono (f78_spec t n2 p []) ?_
  rintro _ _ ⟨rfl, rfl⟩
  refine And.intro (fun hp => ?_) fun hp => ?_
  rotate_left
  · exact Exists.intro [] (.arg h0 hp)
  refine SpecP.mono (f79g_spec t n1 n2 s p TK hs hp []) ?_
  rintro _ _ ⟨k, at_, hr, rfl, rfl⟩
  exact Exists.intro [225000787] (.ran h0 hp k at_ hr)

end Go.Fw

/- The value logic, part 28: functions that write objects of their caller. -/
namespace Go.Fw
open Go

/-! ### Objects under other names -/
section
variable {β : K → Nat} {RO : Nat → Prop} {w w' : World}
theorem VL.unmap {g : K → K} : ∀ {x : LV} {v : Value}, VL β RO w (mapV g x) v → VL (fun k => β (g k)) RO w x v := by
  intro x
  induction x using LV.rec (motive_2 := fun cs => ∀ (i : Nat) (y : LV) (v : Value), cs[i]? = some y → VL β RO w (mapV g y) v → VL (fun k => β (g k)) RO w y v) with
  | bad => intro v _; exact .bad v
  | t x => intro v h; simp only [mapV] at h; cases h with | t _ _ h => exact .t _ _ h
  | osl k sz off len => intro v h; simp only [mapV] at h; cases h with | osl _ _ _ _ cap e n a b c d => exact .osl (β := fun k => β (g k)) k sz off len cap e n a b c d
  | ptr k c => intro v h; simp only [mapV] at h; cases h; exact .ptr (β := fun k => β (g k)) k c
  | pel k sz i j => intro v h; simp only [mapV] at h; cases h; exact .pel (β := fun k => β (g k)) k sz i j
  | ipt cs => intro v h; simp only [mapV] at h; cases h with | ipt _ b off u a b c => exact .ipt cs _ _ u a b c
  | fn f cap =>
    intro v h
    simp only [mapV] at h
    cases h
    have : ((mapC g cap).map fun p => Value.pointer (some ⟨β p.1, p.2, none⟩)) = cap.map fun p => Value.pointer (some ⟨(fun k => β (g k)) p.1, p.2, none⟩) := by
      rw [mapC_eq, List.map_map]; rfl
    rw [this]
    exact .fn (β := fun k => β (g k)) f cap
  | mpr k => intro v h; simp only [mapV] at h; cases h; exact .mpr (β := fun k => β (g k)) k
  | ifc t x ih => intro v h; simp only [mapV] at h; cases h with | ifc _ _ v h => exact .ifc t x v (ih h)
  | agg cs ih =>
    intro v h
    simp only [mapV, mapL_eq] at h
    cases h with
    | agg _ vs hl hv h1 => exact .agg cs vs (by simpa using hl) (fun i x v hx hvx => ih i x v hx (hv i _ v (by rw [List.getElem?_map, hx]; rfl) hvx)) h1
  | tup cs ih =>
    intro v h
    simp only [mapV, mapL_eq] at h
    cases h with
    | tup _ vs hl hv => exact .tup cs vs (by simpa using hl) fun i x v hx hvx => ih i x v hx (hv i _ v (by rw [List.getElem?_map, hx]; rfl) hvx)
  | nil => rename_i h _; simp at h
  | cons x r ihx ihr =>
    rename_i i y v h hv
    cases i with
    | zero => simp at h; subst h; exact ihx hv
    | succ i => simp at h; exact ihr i y v h hv

theorem ObOK.unmap {g : K → K} (hsub : ∀ k i, g (.sub k i) = .sub (g k) i) {k : K} {o : Ob} (h : ObOK β RO w (g k) (mapO g o)) : ObOK (fun k => β (g k)) RO w k o := by
  cases o with
  | row e sz es => exact h
  | box cs =>
    obtain ⟨vs, ety, h1, h2, h3, h4⟩ := h
    simp only [mapL_eq] at h2 h3
    exact ⟨vs, ety, h1, by simpa using h2, fun i x v hx hv => (h3 i _ v (by rw [List.getElem?_map, hx]; rfl) hv).unmap, h4⟩
  | grid eo e sz rs =>
    obtain ⟨us, cap, h1, h2⟩ := h
    refine ⟨us, cap, h1, fun i r u hi hu => ?_⟩
    have := h2 i r u hi hu
    cases r with
    | nil => exact this
    | out => trivial
    | row es =>
      simp only at this ⊢
      rw [← hsub] at this
      exact VL.unmap (g := g) (x := .osl (.sub k i) sz 0 es.length) this
  | mp kd kv => exact h
  | mit m left => exact h

/-- A value stands as it stood, where blocks keep their numbers of cells. -/
theorem VL.mono2 {β' : K → Nat} {RO' : Nat → Prop} (hro : ∀ b, RO b → RO' b) (hw : ∀ b, RO b → w'.heap[b]? = w.heap[b]?)
    {x : LV} {v : Value} (h : VL β RO w x v) (S : K → Prop) (hS : ∀ k, S k → β' k = β k ∧ ∀ e n, w.shape? (β k) = some (e, n) → ∃ e', w'.shape? (β k) = some (e', n))
    (hx : ∀ k, LV.has k x = true → S k) : VL β' RO' w' x v := by
  have self : ∀ k : K, K.under k k = true := K.under_self
  induction h with
  | bad x => exact .bad x
  | t x v h => exact .t x v (h.mono hro hw)
  | osl k sz off len cap e n h hs hn hm =>
    obtain ⟨e1, e2⟩ := hS k (hx k (self k))
    obtain ⟨e', he'⟩ := e2 _ _ hs
    rw [← e1]; exact .osl k sz off len cap e' n h (by rw [e1]; exact he') hn hm
  | ptr k c => obtain ⟨e1, _⟩ := hS k (hx k (self k)); rw [← e1]; exact .ptr k c
  | pel k sz i j => obtain ⟨e1, _⟩ := hS k (hx k (self k)); rw [← e1]; exact .pel k sz i j
  | ipt cs b off u hb hcell hv => exact .ipt cs b off u (hro b hb) (fun j x hj => (World.cell?_of_block (hw b hb)).trans (hcell j x hj)) fun j x hj => (hv j x hj).mono hro hw
  | fn f cap =>
    have : (cap.map fun p => Value.pointer (some ⟨β p.1, p.2, none⟩)) = cap.map fun p => Value.pointer (some ⟨β' p.1, p.2, none⟩) := by
      refine List.map_congr_left fun p hp => ?_
      rw [(hS p.1 (hx p.1 (List.any_eq_true.2 ⟨p, hp, self p.1⟩))).1]
    rw [this]; exact .fn f cap
  | mpr k => obtain ⟨e1, _⟩ := hS k (hx k (self k)); rw [← e1]; exact .mpr k
  | ifc t x v _ ih => exact .ifc t x v (ih hx)
  | agg cs vs hl _ h1 ih =>
    refine .agg cs vs hl (fun i x v hi hv => ih i x v hi hv fun k hk => hx k ?_) h1
    simp only [LV.has]
    cases hc : LV.has.hasL k cs with
    | true => rfl
    | false => rw [hasL_mem hc x (List.mem_of_getElem? hi)] at hk; cases hk
  | tup cs vs hl _ ih =>
    refine .tup cs vs hl fun i x v hi hv => ih i x v hi hv fun k hk => hx k ?_
    simp only [LV.has]
    cases hc : LV.has.hasL k cs with
    | true => rfl
    | false => rw [hasL_mem hc x (List.mem_of_getElem? hi)] at hk; cases hk
end

/-! ### What is said of a function that writes -/
/-- What the call may change: the blocks of the objects that it is handed. -/
def entM (β : K → Nat) (RO : Nat → Prop) (w : World) (fr : Fr) : Ent := { w0 := w, RO0 := RO, Wr := fun b => ∃ k o, St.get ⟨[], fr⟩ k = some o ∧ b = β k, β0 := β, mv := fun _ => False, fz := true }

/-- The call comes back; of what was there only the objects 'fr' are written; those listed as pins stay where they lie. -/
structure SpecM (P : Program) (f : Nat) (args : List LV) (fr : Fr) (pins : List (Nat × Nat)) (Post : LV → Fr → Prop) : Prop where
  fn : FnOK P f
  calls : ∀ (β : K → Nat) (RO : Nat → Prop) (w : World) (vals : List Value), WR (entM β RO w fr) β RO ⟨[], fr⟩ w → Vals β RO w args vals →
    Calls P f vals.toArray w fun e w' => ∃ v r ro out' β' RO', e = .returned v ∧ Post r ro ∧ WR (entM β RO w fr) β' RO' ⟨out', ro⟩ w' ∧ VL β' RO' w' r v ∧
      ∀ s sz, look pins s = some sz → β' (.cur s) = β (.cur s) ∧ ∀ e n, w.shape? (β (.cur s)) = some (e, n) → ∃ e', w'.shape? (β (.cur s)) = some (e', n)

theorem SpecM.mono {P : Program} {f : Nat} {args : List LV} {fr : Fr} {pins : List (Nat × Nat)} {Post Post' : LV → Fr → Prop} (h : SpecM P f args fr pins Post) (hp : ∀ r ro, Post r ro → Post' r ro) : SpecM P f args fr pins Post' :=
  ⟨h.1, fun β RO w vals hw hv => (h.2 β RO w vals hw hv).mono fun _ _ ⟨v, r, ro, out', β', RO', h1, h2, h3⟩ => ⟨v, r, ro, out', β', RO', h1, hp _ _ h2, h3⟩⟩

/-- The slots that watch what stays. -/
def pinE : List (Nat × Nat) → Env
  | [] => []
  | p :: r => (1000000 + p.1, .osl (.cur p.1) p.2 0 0) :: pinE r
def pinB (env : Env) : List (Nat × Nat) → Bool
  | [] => true
  | p :: r => match look env (1000000 + p.1) with
    | some (.osl (.cur s) sz 0 0) => match Nat.beq s p.1, Nat.beq sz p.2 with
      | true, true => pinB env r
      | _, _ => false
    | _ => false
/-- The objects that are to stay are boxes and rows, of elements so wide. -/
def pinO (fr : Fr) : List (Nat × Nat) → Bool
  | [] => true
  | p :: r => (match look fr p.1 with
    | some (.row _ sz _) => Nat.beq sz p.2
    | some (.box cs) => Nat.beq 1 p.2 && Nat.ble cs.length 1000000
    | some (.grid _ _ _ _) => Nat.beq 1 p.2
    | _ => false) && pinO fr r

noncomputable def pinG (β : K → Nat) (w : World) (pins : List (Nat × Nat)) (n : Nat) : Option Value := match look pins (n - 1000000) with
  | some sz => some (.slice (some ⟨β (.cur (n - 1000000)), 0, none⟩) 0 (match w.shape? (β (.cur (n - 1000000))) with | some (_, m) => m / sz | none => 0))
  | none => none

/-- What is asked where the call comes back. -/
def retM (C : Ctx) (rs : List ResultVar) (pins : List (Nat × Nat)) (Post : LV → Fr → Prop) (e : Exit) (env : Env) (st : St) : Prop := match e with
  | .ret | .normal => match resL C env st rs with
    | some l => pinB env pins = true ∧ ∃ cs, keepW cs st.cur (Post (resV l))
    | none => False
  | _ => False

section
variable {C : Ctx} {P : Program} {E : Ent} {N : Nat} {β : K → Nat} {RO : Nat → Prop} {env : Env} {st : St} {a : Act} {w w' : World}

theorem pinO_look {fr : Fr} : ∀ {pins : List (Nat × Nat)}, pinO fr pins = true → ∀ {s sz : Nat}, look pins s = some sz → (∃ e es, look fr s = some (.row e sz es)) ∨ (∃ cs, look fr s = some (.box cs) ∧ sz = 1 ∧ cs.length ≤ 1000000) ∨ (∃ a b c d, look fr s = some (.grid a b c d) ∧ sz = 1)
  | [], _, s, sz, h => by simp [look] at h
  | p :: r, hp, s, sz, h => by
    simp only [pinO, Bool.and_eq_true] at hp
    rw [look_cons] at h
    split at h
    · rename_i he
      subst he; cases h
      have h1 := hp.1
      split at h1
      · rename_i e sz es hl
        have := Nat.eq_of_beq_eq_true h1
        subst this
        exact .inl ⟨_, _, hl⟩
      · rename_i cs hl
        simp only [Bool.and_eq_true] at h1
        exact .inr (.inl ⟨cs, hl, (Nat.eq_of_beq_eq_true h1.1).symm, Nat.le_of_ble_eq_true h1.2⟩)
      · rename_i hl
        exact .inr (.inr ⟨_, _, _, _, hl, (Nat.eq_of_beq_eq_true h1).symm⟩)
      · cases h1
    · exact pinO_look hp.2 h

theorem pinB_look {env : Env} : ∀ {pins : List (Nat × Nat)}, pinB env pins = true → ∀ {s sz : Nat}, look pins s = some sz → look env (1000000 + s) = some (.osl (.cur s) sz 0 0)
  | [], _, s, sz, h => by simp [look] at h
  | p :: r, hp, s, sz, h => by
    simp only [pinB] at hp
    split at hp
    rotate_left
    · cases hp
    rename_i s' sz' hl
    split at hp
    rotate_left
    · cases hp
    rename_i h1 h2
    have h1 := Nat.eq_of_beq_eq_true h1
    have h2 := Nat.eq_of_beq_eq_true h2
    subst h1; subst h2
    rw [look_cons] at h
    split at h
    · rename_i he
      cases h
      rw [← he]; exact hl
    · exact pinB_look hp h

theorem look_pinE : ∀ {pins : List (Nat × Nat)} {n : Nat} {x : LV}, look (pinE pins) n = some x → 1000000 ≤ n ∧ ∃ sz, look pins (n - 1000000) = some sz ∧ x = .osl (.cur (n - 1000000)) sz 0 0
  | [], n, x, h => by simp [pinE, look] at h
  | p :: r, n, x, h => by
    simp only [pinE] at h
    rw [look_cons] at h
    split at h
    · rename_i he
      subst he; cases h
      have : 1000000 + p.1 - 1000000 = p.1 := by omega
      refine ⟨by omega, p.2, ?_, ?_⟩
      · rw [this, look_cons, if_pos rfl]
      · rw [this]
    · rename_i he
      obtain ⟨h1, sz, h2, h3⟩ := look_pinE h
      refine ⟨h1, sz, ?_, h3⟩
      rw [look_cons, if_neg (by omega)]; exact h2

/-- A function that writes objects of its caller is right where its body is. -/
theorem specM_walk (hC : C.OK P) {f : Nat} {fn : Func} {c : Code} {args : List LV} {fr : Fr} {pins : List (Nat × Nat)} {Post : LV → Fr → Prop} {H : HW} (hH : HOK P H) (kp : Kp) (od : Od) (hf : P.funcs[f]? = some fn) (hb : fn.body = some c)
    (hk : (Nat.ble fn.ntmps 1000000 && codeYOK fn.ntmps od c) = true) (hn : Nat.ble args.length fn.ntmps = true) (hfn : FnOK P f) (hp : pinO fr pins = true)
    (hW : LV.ok.okL args → wpcX C P noY H 0 kp od c (argE 0 args ++ pinE pins) ⟨[], fr⟩ (retM C fn.results.toList pins Post)) : SpecM P f args fr pins Post := by
  simp only [Bool.and_eq_true] at hk
  obtain ⟨hq, hk⟩ := hk
  have hq : fn.ntmps ≤ 1000000 := by simpa using hq
  have hn : args.length ≤ fn.ntmps := by simpa using hn
  refine ⟨hfn, fun β RO w vals hw hv => calls_out (r := none) (n := 0) ?_⟩
  have hlen : vals.length = args.length := hv.1.symm
  obtain ⟨E5, hE5⟩ : ∃ E5 : Ent, E5 = { entM β RO w fr with gh := pinG β w pins, dfs := [] } := ⟨_, rfl⟩
  have hsame : E5 = { entM β RO w fr with gh := E5.gh, dfs := E5.dfs } := by rw [hE5]
  have hback : entM β RO w fr = { E5 with gh := (entM β RO w fr).gh, dfs := (entM β RO w fr).dfs } := by rw [hE5]
  have hgh : ∀ (a : Act) (n : Nat), 1000000 ≤ n → tmpAt E5 a n = pinG β w pins n := fun a n hn => by
    unfold tmpAt
    rw [show Nat.blt n 1000000 = false by rw [Bool.eq_false_iff]; intro hb; rw [Nat.blt_eq] at hb; omega, hE5]
  -- what lies where a pin is
  have hpin : ∀ s sz, look pins s = some sz → ∃ e m, w.shape? (β (.cur s)) = some (e, m) ∧ m = (m / sz) * sz ∧ m / sz ≤ maxLen := by
    intro s sz hs
    rcases pinO_look hp hs with ⟨e, es, hl⟩ | ⟨cs, hl, rfl, hcl⟩ | ⟨eo, e, sz', rs, hl, rfl⟩
    · obtain ⟨us, cap, hown, _⟩ := hw.obj (.cur s) _ hl
      rcases hown.2 with ⟨h0, _⟩ | ⟨g, cap', cur, hgv, _, hh, hnc, hcm, hcs, _⟩
      · cases h0
      cases hgv
      refine ⟨e, cur.size, by simp only [World.shape?, hh], ?_⟩
      rcases Nat.eq_zero_or_pos sz with hz | hz
      · subst hz; simp at hcs; simp [hcs]
      · rw [hcs, Nat.mul_div_cancel _ hz]; exact ⟨rfl, hcm⟩
    · obtain ⟨vs, ety, hh, hl2, _⟩ := hw.obj (.cur s) _ hl
      exact ⟨ety, vs.length, by simp only [World.shape?, hh]; simp, by simp, by simp [maxLen]; omega⟩
    · obtain ⟨us, cap, hown, _⟩ := hw.obj (.cur s) _ hl
      rcases hown.2 with ⟨h0, _⟩ | ⟨g, cap', cur, hgv, _, hh, hnc, hcm, hcs, _⟩
      · cases h0
      cases hgv
      refine ⟨eo, cur.size, by simp only [World.shape?, hh], ?_⟩
      rw [hcs, Nat.mul_div_cancel _ Nat.one_pos]; exact ⟨rfl, hcm⟩
  have hs : SR E5 fn.ntmps β RO (argE 0 args ++ pinE pins) ⟨[], fr⟩ { tmps := vals.toArray ++ Array.replicate (fn.ntmps - vals.toArray.size) undef, defers := [] } w := by
    refine ⟨wr_same hw hsame, ⟨by simp; omega, hq⟩, by rw [hE5], fun n x hx => ?_⟩
    rcases look_app hx with hx | ⟨_, hx⟩
    · obtain ⟨_, h2⟩ := argE_look hx
      simp only [Nat.sub_zero] at h2
      have hlt : n < vals.length := by rw [hlen]; exact (List.getElem?_eq_some_iff.1 h2).1
      refine ⟨vals[n], ?_, hv.2 n x _ h2 (List.getElem?_eq_getElem hlt)⟩
      rw [tmpAt_lt (by omega), Array.getElem?_append_left (by simpa using hlt)]
      simp [hlt]
    · obtain ⟨h1, sz, h2, rfl⟩ := look_pinE hx
      obtain ⟨e, m, h3, h4, h5⟩ := hpin _ _ h2
      refine ⟨.slice (some ⟨β (.cur (n - 1000000)), 0, none⟩) 0 (m / sz), ?_, ?_⟩
      · rw [hgh _ n h1]; simp only [pinG, h2, h3]
      · have := VL.osl (β := β) (RO := RO) (w := w) (.cur (n - 1000000)) sz 0 0 (m / sz) e m (Nat.zero_le _) h3 (by rw [Nat.zero_add]; exact h4) (by omega)
        rw [Nat.zero_mul] at this; exact this
  refine callsIn_of_wp hf hb trivial (wpIn_mono (wpcX_in hC noY_ok hH c hk β RO _ _ _ w _ hs (hW hv.ok)) ?_)
  have fin : ∀ {env : Env} {st : St} {β' : K → Nat} {RO' : Nat → Prop} {a : Act} {w' : World}, (match resL C env st fn.results.toList with | some l => pinB env pins = true ∧ ∃ cs, keepW cs st.cur (Post (resV l)) | none => False) → SR E5 fn.ntmps β' RO' env st a w' →
      a.defers = [] ∧ ∃ v, (results fn a.tmps).run P w' = .ok v w' ∧ ∃ v' r ro out' β' RO', Ending.returned v = .returned v' ∧ Post r ro ∧ WR (entM β RO w fr) β' RO' ⟨out', ro⟩ w' ∧ VL β' RO' w' r v' ∧
        ∀ s sz, look pins s = some sz → β' (.cur s) = β (.cur s) ∧ ∀ e n, w.shape? (β (.cur s)) = some (e, n) → ∃ e', w'.shape? (β (.cur s)) = some (e', n) := by
    intro env st β' RO' a w' hq hs
    split at hq
    rotate_left
    · cases hq
    rename_i l hl
    obtain ⟨hpb, cs, hpo⟩ := hq
    obtain ⟨cur', hpo, hless⟩ := keepW_gives hpo
    obtain ⟨v, h1, h2⟩ := res_run hC hs hl
    refine ⟨by rw [hs.defers, hE5], v, h1, v, resV l, cur', st.out, β', RO', rfl, hpo, (wr_same hs.wr hback).less (fun k o hk => get_less hless k o hk), h2, fun s sz hps => ?_⟩
    obtain ⟨u, g1, g2⟩ := hs.env _ _ (pinB_look hpb hps)
    have e1 : 1000000 + s - 1000000 = s := by omega
    rw [hgh _ _ (by omega)] at g1
    obtain ⟨e, m, h3, h4, h5⟩ := hpin _ _ hps
    simp only [pinG, e1, hps, h3, Option.some.injEq] at g1
    subst g1
    generalize hb' : β (.cur s) = b0 at *
    have inv : ∀ u, VL β' RO' w' (.osl (.cur s) sz 0 0) u → u = .slice (some ⟨b0, 0, none⟩) 0 (m / sz) → β' (.cur s) = b0 ∧ ∃ e', w'.shape? b0 = some (e', m) := by
      intro u hu he
      cases hu with
      | osl _ _ _ _ cap e n a b c d =>
        rw [Nat.zero_mul, Nat.zero_add] at *
        injection he with he1 _ he3
        injection he1 with he1
        injection he1 with he1 _ _
        subst he1; subst he3
        exact ⟨rfl, e, by rw [h4, ← c]; exact b⟩
    obtain ⟨i1, e', i2⟩ := inv _ g2 rfl
    refine ⟨i1, fun e2 n2 he2 => ⟨e', ?_⟩⟩
    rw [h3] at he2
    cases he2
    exact i2
  rintro e a' w' ⟨env, st, β', RO', hq, hs⟩
  cases e with
  | normal => exact fin hq hs
  | ret => exact fin hq hs
  | _ => exact hq.elim

end
end Go.Fw

/- The value logic, part 29: a call of a function that writes objects of its caller. -/
namespace Go.Fw
open Go

/-! ### The names of the objects that are handed on -/
abbrev Ren := List (Nat × Nat)
def bk : Ren → Nat → Option Nat
  | [], _ => none
  | p :: r, n => match Nat.beq p.2 n with
    | true => some p.1
    | false => bk r n
def renK (ρ : Ren) : K → K
  | .cur s => match look ρ s with
    | some n => .cur n
    | none => .cur s
  | .fr i s => .fr i s
  | .sub k i => .sub (renK ρ k) i
def domK (ρ : Ren) : K → Bool
  | .cur s => match look ρ s with
    | some _ => true
    | none => false
  | .fr _ _ => false
  | .sub k _ => domK ρ k
def unK (ρ : Ren) : K → Option K
  | .cur n => match bk ρ n with
    | some s => some (.cur s)
    | none => none
  | .fr _ _ => none
  | .sub k i => match unK ρ k with
    | some k0 => some (.sub k0 i)
    | none => none
def rhoB (ρ0 : Ren) : Ren → Bool
  | [] => true
  | p :: r => (match look ρ0 p.1 with | some n => Nat.beq n p.2 | none => false) && ((match bk ρ0 p.2 with | some s => Nat.beq s p.1 | none => false) && rhoB ρ0 r)
def domF (ρ : Ren) : Fr → Bool
  | [] => true
  | p :: r => domK ρ (.cur p.1) && (p.2.allK (domK ρ) && domF ρ r)
def modO (ρ : Ren) (cur : Fr) : Fr → Prop
  | [] => True
  | p :: r => (match look ρ p.1 with | some n => look cur n = some (mapO (renK ρ) p.2) | none => False) ∧ modO ρ cur r
/-- Does what the name stands for lie where it lay? -/
def livK (ρ : Ren) (pins : List (Nat × Nat)) (st : St) : K → Bool
  | .cur n => match bk ρ n with
    | some s => match look pins s with
      | some _ => true
      | none => false
    | none => match look st.cur n with
      | some _ => true
      | none => false
  | .fr _ _ => false
  | .sub _ _ => false
def livV (ρ : Ren) (pins : List (Nat × Nat)) (st : St) (x : LV) : LV := match x.allK (livK ρ pins st) with
  | true => x
  | false => .bad
def livL (ρ : Ren) (pins : List (Nat × Nat)) (st : St) : List LV → List LV
  | [] => []
  | x :: r => livV ρ pins st x :: livL ρ pins st r
def livO (ρ : Ren) (pins : List (Nat × Nat)) (st : St) : Ob → Ob
  | .box cs => .box (livL ρ pins st cs)
  | o => o
def livE (ρ : Ren) (pins : List (Nat × Nat)) (st : St) : Env → Env
  | [] => []
  | (n, x) :: r => (n, livV ρ pins st x) :: livE ρ pins st r
def modC (ρ : Ren) (pins : List (Nat × Nat)) (st : St) (ro : Fr) : Fr → Fr
  | [] => []
  | (n, o) :: r => match bk ρ n with
    | some s => match look ro s with
      | some o' => (n, mapO (renK ρ) o') :: modC ρ pins st ro r
      | none => modC ρ pins st ro r
    | none => (n, livO ρ pins st o) :: modC ρ pins st ro r
/-- Do iterators stand over maps that are not handed on? -/
def mitB (ρ : Ren) : Fr → Bool
  | [] => true
  | p :: r => match p.2 with
    | .mit m _ => match unK ρ m with
      | some _ => false
      | none => mitB ρ r
    | _ => mitB ρ r

/-- What is asked behind the call. -/
def backW (ρ : Ren) (pins : List (Nat × Nat)) (r : LV) (ro : Fr) (env : Env) (st : St) (K' : LV → Env → St → Prop) : Prop :=
  (r.allK (domK ρ) && domF ρ ro) = true ∧ K' (mapV (renK ρ) r) (livE ρ pins st env) ⟨[], modC ρ pins st ro st.cur⟩

/-- Slots that show rows of a row of rows that is not handed on: they stand as they stood. -/
def exP (ρ : Ren) (st : St) (env : Env) : Env → Prop
  | [] => True
  | p :: r => (look env p.1 = some p.2 ∧ ∃ n i sz off len o, p.2 = .osl (.sub (.cur n) i) sz off len ∧ bk ρ n = none ∧ st.get (.sub (.cur n) i) = some o) ∧ exP ρ st env r
def backX (ρ : Ren) (pins : List (Nat × Nat)) (ex : Env) (r : LV) (ro : Fr) (env : Env) (st : St) (K' : LV → Env → St → Prop) : Prop :=
  (r.allK (domK ρ) && domF ρ ro) = true ∧ K' (mapV (renK ρ) r) (ex ++ livE ρ pins st env) ⟨[], modC ρ pins st ro st.cur⟩
/-- A call of a function that writes: which of the own objects it is handed. -/
inductive ModH (P : Program) (f : Nat) (args : List LV) (env : Env) (st : St) (K' : LV → Env → St → Prop) : Prop
  | mk (ρ : Ren) {margs : List LV} {fr : Fr} {pins : List (Nat × Nat)} {Post : LV → Fr → Prop} (hs : SpecM P f margs fr pins Post) (ha : args = mapV.mapL (renK ρ) margs)
      (hk : (rhoB ρ ρ && (LV.allK.allL (domK ρ) margs && (domF ρ fr && mitB ρ st.cur))) = true) (ho : modO ρ st.cur fr) (hK : ∀ r ro, Post r ro → backW ρ pins r ro env st K')
  | mkx (ρ : Ren) (ex : Env) {margs : List LV} {fr : Fr} {pins : List (Nat × Nat)} {Post : LV → Fr → Prop} (hs : SpecM P f margs fr pins Post) (ha : args = mapV.mapL (renK ρ) margs)
      (hk : (rhoB ρ ρ && (LV.allK.allL (domK ρ) margs && (domF ρ fr && mitB ρ st.cur))) = true) (ho : modO ρ st.cur fr) (hex : exP ρ st env ex) (hK : ∀ r ro, Post r ro → backX ρ pins ex r ro env st K')

section
variable {P : Program} {E : Ent} {N : Nat} {β β' : K → Nat} {RO RO' : Nat → Prop} {env : Env} {st : St} {a : Act} {w w' : World} {ρ : Ren}

theorem look_mem {α : Type} : ∀ {l : List (Nat × α)} {n : Nat} {x : α}, look l n = some x → (n, x) ∈ l
  | [], n, x, h => by simp [look] at h
  | p :: r, n, x, h => by
    rw [look_cons] at h
    split at h
    · rename_i he; cases h; subst he; exact List.mem_cons_self ..
    · exact List.mem_cons_of_mem _ (look_mem h)
theorem bk_mem : ∀ {l : Ren} {n s : Nat}, bk l n = some s → (s, n) ∈ l
  | [], n, s, h => by simp [bk] at h
  | p :: r, n, s, h => by
    simp only [bk] at h
    split at h
    · rename_i he
      cases h
      have := Nat.eq_of_beq_eq_true he
      subst this; exact List.mem_cons_self ..
    · exact List.mem_cons_of_mem _ (bk_mem h)
theorem rhoB_mem {ρ0 : Ren} : ∀ {l : Ren}, rhoB ρ0 l = true → ∀ {s n : Nat}, (s, n) ∈ l → look ρ0 s = some n ∧ bk ρ0 n = some s
  | [], _, s, n, h => by cases h
  | p :: r, h, s, n, hm => by
    simp only [rhoB, Bool.and_eq_true] at h
    obtain ⟨h1, h2, h3⟩ := h
    rcases List.mem_cons.1 hm with he | hm
    · subst he
      split at h1
      · rename_i n' hn
        have := Nat.eq_of_beq_eq_true h1
        subst this
        split at h2
        · rename_i s' hs'
          have := Nat.eq_of_beq_eq_true h2
          subst this
          exact ⟨hn, hs'⟩
        · cases h2
      · cases h1
    · exact rhoB_mem h3 hm

theorem un_ren (hρ : rhoB ρ ρ = true) : ∀ {k : K}, domK ρ k = true → unK ρ (renK ρ k) = some k
  | .cur s, h => by
    simp only [domK] at h
    split at h
    · rename_i n hn
      obtain ⟨_, h2⟩ := rhoB_mem hρ (look_mem hn)
      simp only [renK, hn, unK, h2]
    · cases h
  | .fr _ _, h => by cases h
  | .sub k i, h => by simp only [renK, unK, un_ren (k := k) hρ h]
theorem ren_un (hρ : rhoB ρ ρ = true) : ∀ {k k0 : K}, unK ρ k = some k0 → renK ρ k0 = k ∧ domK ρ k0 = true ∧ k.isFr = false
  | .cur n, k0, h => by
    simp only [unK] at h
    split at h
    · rename_i s hs
      cases h
      obtain ⟨h1, _⟩ := rhoB_mem hρ (bk_mem hs)
      simp only [renK, h1, domK]; exact ⟨trivial, trivial, rfl⟩
    · cases h
  | .fr _ _, _, h => by cases h
  | .sub k i, k0, h => by
    simp only [unK] at h
    split at h
    · rename_i k1 h1
      cases h
      obtain ⟨g1, g2, g3⟩ := ren_un hρ h1
      exact ⟨by simp only [renK, g1], g2, g3⟩
    · cases h
theorem ren_inj (hρ : rhoB ρ ρ = true) {k k' : K} (h : domK ρ k = true) (h' : domK ρ k' = true) (he : renK ρ k = renK ρ k') : k = k' := by
  have h1 := un_ren hρ h
  rw [he, un_ren hρ h'] at h1
  exact (Option.some.inj h1).symm
theorem ren_fr : ∀ {k : K}, domK ρ k = true → (renK ρ k).isFr = false ∧ k.isFr = false
  | .cur s, h => by
    simp only [domK] at h
    split at h
    · rename_i n hn; simp only [renK, hn]; exact ⟨rfl, rfl⟩
    · cases h
  | .fr _ _, h => by cases h
  | .sub k i, h => ren_fr (k := k) h

theorem modO_look {cur : Fr} : ∀ {fr : Fr}, modO ρ cur fr → ∀ {s : Nat} {o : Ob}, look fr s = some o → ∃ n, look ρ s = some n ∧ look cur n = some (mapO (renK ρ) o)
  | [], _, s, o, h => by simp [look] at h
  | p :: r, h, s, o, hl => by
    obtain ⟨h1, h2⟩ := h
    rw [look_cons] at hl
    split at hl
    · rename_i he
      subst he; cases hl
      split at h1
      · rename_i n hn; exact ⟨n, hn, h1⟩
      · cases h1
    · exact modO_look h2 hl
theorem domF_look : ∀ {fr : Fr}, domF ρ fr = true → ∀ {s : Nat} {o : Ob}, look fr s = some o → domK ρ (.cur s) = true ∧ o.allK (domK ρ) = true
  | [], _, s, o, h => by simp [look] at h
  | p :: r, h, s, o, hl => by
    simp only [domF, Bool.and_eq_true] at h
    rw [look_cons] at hl
    split at hl
    · rename_i he
      subst he; cases hl; exact ⟨h.1, h.2.1⟩
    · exact domF_look h.2.2 hl

theorem get_no_fr {fr : Fr} {i s : Nat} {o : Ob} (h : St.get ⟨[], fr⟩ (.fr i s) = some o) : False := by simp [St.get] at h
theorem frag_get {fr : Fr} (ho : modO ρ st.cur fr) {k : K} {o : Ob} (h : St.get ⟨[], fr⟩ k = some o) : domK ρ k = true ∧ st.get (renK ρ k) = some (mapO (renK ρ) o) := by
  have root : ∀ s o, St.get ⟨[], fr⟩ (.cur s) = some o → domK ρ (.cur s) = true ∧ st.get (renK ρ (.cur s)) = some (mapO (renK ρ) o) := fun s o h => by
    obtain ⟨n, h1, h2⟩ := modO_look ho (s := s) (o := o) h
    exact ⟨by simp only [domK, h1], by simp only [renK, h1]; exact h2⟩
  cases k with
  | cur s => exact root s o h
  | fr i s => exact (get_no_fr h).elim
  | sub k i =>
    obtain ⟨eo, e, sz, rs, es, hg, hi, rfl⟩ := St.get_sub h
    cases k with
    | cur s =>
      obtain ⟨g1, g2⟩ := root s _ hg
      exact ⟨g1, by simp only [renK] at g2 ⊢; simp only [St.get] at g2 ⊢; simp only [g2, mapO, hi]⟩
    | fr j s => exact (get_no_fr hg).elim
    | sub k2 j => have := St.root_of_get_grid hg; cases this

theorem look_modC {pins : List (Nat × Nat)} {ro : Fr} : ∀ {cur : Fr} {n : Nat} {o : Ob}, look (modC ρ pins st ro cur) n = some o →
    (∃ s o', bk ρ n = some s ∧ look ro s = some o' ∧ o = mapO (renK ρ) o') ∨ (bk ρ n = none ∧ ∃ o0, look cur n = some o0 ∧ o = livO ρ pins st o0)
  | [], n, o, h => by simp [modC, look] at h
  | (m, x) :: r, n, o, h => by
    simp only [modC] at h
    have step : look (modC ρ pins st ro r) n = some o → m ≠ n ∨ bk ρ m ≠ none → (∃ s o', bk ρ n = some s ∧ look ro s = some o' ∧ o = mapO (renK ρ) o') ∨ (bk ρ n = none ∧ ∃ o0, look ((m, x) :: r) n = some o0 ∧ o = livO ρ pins st o0) := fun h hne => by
      rcases look_modC h with h | ⟨h1, o0, h2, h3⟩
      · exact .inl h
      · refine .inr ⟨h1, o0, ?_, h3⟩
        rw [look_cons, if_neg]
        · exact h2
        · rintro rfl
          rcases hne with h | h
          · exact h rfl
          · exact h h1
    split at h
    · rename_i s hs
      split at h
      · rename_i o' ho'
        rw [look_cons] at h
        split at h
        · rename_i he
          subst he; cases h; exact .inl ⟨s, o', hs, ho', rfl⟩
        · rename_i he; exact step h (.inl he)
      · exact step h (.inr (by rw [hs]; simp))
    · rename_i hs
      rw [look_cons] at h
      split at h
      · rename_i he
        subst he; cases h; exact .inr ⟨hs, x, by rw [look_cons, if_pos rfl], rfl⟩
      · rename_i he; exact step h (.inl he)
theorem look_livE {pins : List (Nat × Nat)} : ∀ {env : Env} {n : Nat} {x : LV}, look (livE ρ pins st env) n = some x → ∃ y, look env n = some y ∧ x = livV ρ pins st y
  | [], n, x, h => by simp [livE, look] at h
  | (m, y) :: r, n, x, h => by
    simp only [livE] at h
    rw [look_cons] at h
    split at h
    · rename_i he; subst he; cases h; exact ⟨y, by rw [look_cons, if_pos rfl], rfl⟩
    · rename_i he
      obtain ⟨z, h1, h2⟩ := look_livE h
      exact ⟨z, by rw [look_cons, if_neg he]; exact h1, h2⟩
theorem livL_eq {pins : List (Nat × Nat)} : ∀ cs : List LV, livL ρ pins st cs = cs.map (livV ρ pins st)
  | [] => rfl
  | x :: r => by simp only [livL, livL_eq r, List.map_cons]
theorem mapO_grid {g : K → K} {o : Ob} {eo e sz : Nat} {rs : List GR} (h : mapO g o = .grid eo e sz rs) : o = .grid eo e sz rs := by
  cases o <;> simp only [mapO, reduceCtorEq] at h
  exact h
theorem livO_grid {pins : List (Nat × Nat)} {o : Ob} {eo e sz : Nat} {rs : List GR} (h : livO ρ pins st o = .grid eo e sz rs) : o = .grid eo e sz rs := by
  cases o <;> simp only [livO, reduceCtorEq] at h
  exact h

theorem mitB_look : ∀ {cur : Fr}, mitB ρ cur = true → ∀ {n : Nat} {m : K} {l : List (Value × T)}, look cur n = some (.mit m l) → unK ρ m = none
  | [], _, n, m, l, h => by simp [look] at h
  | p :: r, hb, n, m, l, h => by
    have hr : mitB ρ r = true ∧ ∀ m l, p.2 = .mit m l → unK ρ m = none := by
      simp only [mitB] at hb
      split at hb
      · rename_i m' l' he
        split at hb
        · cases hb
        · rename_i hu
          exact ⟨hb, fun m l h => by rw [he] at h; cases h; exact hu⟩
      · rename_i hne
        exact ⟨hb, fun m l h => absurd h (hne m l)⟩
    rw [look_cons] at h
    split at h
    · exact hr.2 _ _ (Option.some.inj h)
    · exact mitB_look hr.1 h
theorem mod_get {pins : List (Nat × Nat)} {ro : Fr} {out' : List Fr} {k : K} {o : Ob} (h : St.get ⟨[], modC ρ pins st ro st.cur⟩ k = some o) :
    (∃ k0 o0, unK ρ k = some k0 ∧ St.get ⟨out', ro⟩ k0 = some o0 ∧ o = mapO (renK ρ) o0 ∧ k0.isFr = false) ∨ (unK ρ k = none ∧ k.isFr = false ∧ ∃ o0, st.get k = some o0 ∧ o = livO ρ pins st o0) := by
  have root : ∀ n o, St.get ⟨[], modC ρ pins st ro st.cur⟩ (.cur n) = some o → (∃ s o0, bk ρ n = some s ∧ St.get ⟨out', ro⟩ (.cur s) = some o0 ∧ o = mapO (renK ρ) o0) ∨ (bk ρ n = none ∧ ∃ o0, st.get (.cur n) = some o0 ∧ o = livO ρ pins st o0) := fun n o h => look_modC (o := o) h
  cases k with
  | cur n =>
    rcases root n o h with ⟨s, o0, h1, h2, h3⟩ | ⟨h1, o0, h2, h3⟩
    · exact .inl ⟨.cur s, o0, by simp only [unK, h1], h2, h3, rfl⟩
    · exact .inr ⟨by simp only [unK, h1], rfl, o0, h2, h3⟩
  | fr i n => exact (get_no_fr h).elim
  | sub k i =>
    obtain ⟨eo, e, sz, rs, es, hg, hi, rfl⟩ := St.get_sub h
    cases k with
    | cur n =>
      rcases root n _ hg with ⟨s, o0, h1, h2, h3⟩ | ⟨h1, o0, h2, h3⟩
      · have := mapO_grid h3.symm
        subst this
        refine .inl ⟨.sub (.cur s) i, .row e sz es, by simp only [unK, h1], ?_, rfl, rfl⟩
        simp only [St.get] at h2 ⊢
        simp only [h2, hi]
      · have := livO_grid h3.symm
        subst this
        refine .inr ⟨by simp only [unK, h1], rfl, .row e sz es, ?_, rfl⟩
        simp only [St.get] at h2 ⊢
        simp only [h2, hi]
    | fr j n => exact (get_no_fr hg).elim
    | sub k2 q => have := St.root_of_get_grid hg; cases this

/-- A value stands as it stood, where each of its names does. -/
theorem VL.mono3 {p : K → Bool} (hro : ∀ b, RO b → RO' b) (hw : ∀ b, RO b → w'.heap[b]? = w.heap[b]?)
    (hS : ∀ k, p k = true → β' k = β k ∧ ∀ e n, w.shape? (β k) = some (e, n) → ∃ e', w'.shape? (β k) = some (e', n)) {x : LV} {v : Value} (h : VL β RO w x v) : x.allK p = true → VL β' RO' w' x v := by
  induction h with
  | bad x => intro _; exact .bad x
  | t x v h => intro _; exact .t x v (h.mono hro hw)
  | osl k sz off len cap e n h hs hn hm =>
    intro hp
    obtain ⟨e1, e2⟩ := hS k hp
    obtain ⟨e', he'⟩ := e2 _ _ hs
    rw [← e1]; exact .osl k sz off len cap e' n h (by rw [e1]; exact he') hn hm
  | ptr k c => intro hp; obtain ⟨e1, _⟩ := hS k hp; rw [← e1]; exact .ptr k c
  | pel k sz i j => intro hp; obtain ⟨e1, _⟩ := hS k hp; rw [← e1]; exact .pel k sz i j
  | ipt cs b off u hb hcell hv => intro _; exact .ipt cs b off u (hro b hb) (fun j x hj => (World.cell?_of_block (hw b hb)).trans (hcell j x hj)) fun j x hj => (hv j x hj).mono hro hw
  | fn f cap =>
    intro hp
    have hall : ∀ {cap : List (K × Nat)}, LV.allK.allC p cap = true → ∀ q ∈ cap, p q.1 = true := by
      intro cap
      induction cap with
      | nil => intro _ q hq; cases hq
      | cons y r ih =>
        intro h q hq
        simp only [LV.allK.allC, Bool.and_eq_true] at h
        rcases List.mem_cons.1 hq with rfl | hq
        · exact h.1
        · exact ih h.2 q hq
    have : (cap.map fun p => Value.pointer (some ⟨β p.1, p.2, none⟩)) = cap.map fun p => Value.pointer (some ⟨β' p.1, p.2, none⟩) := by
      refine List.map_congr_left fun q hq => ?_
      rw [(hS q.1 (hall hp q hq)).1]
    rw [this]; exact .fn f cap
  | mpr k => intro hp; obtain ⟨e1, _⟩ := hS k hp; rw [← e1]; exact .mpr k
  | ifc t x v _ ih => intro hp; exact .ifc t x v (ih hp)
  | agg cs vs hl _ h1 ih => intro hp; exact .agg cs vs hl (fun i x v hi hv => ih i x v hi hv (allL_mem hp x (List.mem_of_getElem? hi))) h1
  | tup cs vs hl _ ih => intro hp; exact .tup cs vs hl fun i x v hi hv => ih i x v hi hv (allL_mem hp x (List.mem_of_getElem? hi))

theorem exP_look {st : St} {env : Env} : ∀ {ex : Env}, exP ρ st env ex → ∀ {n : Nat} {x : LV}, look ex n = some x → look env n = some x ∧ ∃ q i sz off len o, x = .osl (.sub (.cur q) i) sz off len ∧ bk ρ q = none ∧ st.get (.sub (.cur q) i) = some o
  | [], _, n, x, h => by simp [look] at h
  | p :: r, hp, n, x, h => by
    rw [look_cons] at h
    split at h
    · rename_i he; cases h; subst he; exact hp.1
    · exact exP_look hp.2 h
theorem modH_core (ρ : Ren) (ex : Env) {f : Nat} {N : Nat} {a : Act} {w : World} {E : Ent} {β : K → Nat} {RO : Nat → Prop} {vals : List Value} {env : Env} {st : St} {K' : LV → Env → St → Prop} {margs : List LV} {fr : Fr} {pins : List (Nat × Nat)} {Post : LV → Fr → Prop} (h : SR E N β RO env st a w) (hs : SpecM P f margs fr pins Post) (hv : Vals β RO w (mapV.mapL (renK ρ) margs) vals)
    (hk : (rhoB ρ ρ && (LV.allK.allL (domK ρ) margs && (domF ρ fr && mitB ρ st.cur))) = true) (ho : modO ρ st.cur fr) (hex : exP ρ st env ex) (hK : ∀ r ro, Post r ro → backX ρ pins ex r ro env st K') :
    FnOK P f ∧ Calls P f vals.toArray w fun e w' => ∃ v x env' st' β' RO', e = .returned v ∧ K' x env' st' ∧ SR E N β' RO' env' st' a w' ∧ VL β' RO' w' x v := by
  simp only [Bool.and_eq_true] at hk
  obtain ⟨hρ, hda, hdf, hmit⟩ := hk
  have hcan : ∀ {k : K}, domK ρ k = true → E.can (renK ρ k) := fun hd h => by rw [(ren_fr hd).1] at h; cases h
  have hWr : ∀ b, (entM (fun k => β (renK ρ k)) RO w fr).Wr b → ∃ k o, st.get (renK ρ k) = some o ∧ domK ρ k = true ∧ b = β (renK ρ k) := fun b ⟨k, o, hg, hb⟩ => by
    obtain ⟨g1, g2⟩ := frag_get ho hg
    exact ⟨k, _, g2, g1, hb⟩
  have hwr : WR (entM (fun k => β (renK ρ k)) RO w fr) (fun k => β (renK ρ k)) RO ⟨[], fr⟩ w := by
    refine ⟨rfl, rfl, rfl, Nat.le_refl _, fun _ _ _ => rfl, h.wr.roLt, fun _ h => h, fun _ h => .inl h, fun k o hg => ?_, fun k o hg _ => .inl ⟨k, o, hg, rfl⟩, fun k k' o o' hg hg' _ _ he => ?_, fun k o hg _ => ?_, fun k o hg hc => ?_, fun _ _ _ => rfl⟩
    · obtain ⟨g1, g2⟩ := frag_get ho hg
      exact ObOK.unmap (fun _ _ => rfl) (h.wr.obj _ _ g2)
    · obtain ⟨g1, g2⟩ := frag_get ho hg
      obtain ⟨f1, f2⟩ := frag_get ho hg'
      exact ren_inj hρ g1 f1 (h.wr.inj _ _ _ _ g2 f2 (hcan g1) (hcan f1) he)
    · obtain ⟨g1, g2⟩ := frag_get ho hg
      exact h.wr.sep _ _ g2 (hcan g1)
    · obtain ⟨g1, g2⟩ := frag_get ho hg
      exact absurd (fun h => by rw [(ren_fr g1).2] at h; cases h) hc
  have hvals : Vals (fun k => β (renK ρ k)) RO w margs vals := by
    refine ⟨by have := hv.1; rw [mapL_eq] at this; simpa using this, fun i x v hx hvx => ?_⟩
    exact VL.unmap (hv.2 i _ v (by rw [mapL_eq, List.getElem?_map, hx]; rfl) hvx)
  refine ⟨hs.fn, (hs.calls _ RO w vals hwr hvals).mono ?_⟩
  rintro e w' ⟨v, r, ro, out', β', RO', rfl, hpost, hw', hr, hpin⟩
  obtain ⟨hd, hK'⟩ := hK r ro hpost
  simp only [Bool.and_eq_true] at hd
  obtain ⟨hdr, hdro⟩ := hd
  let β2 : K → Nat := fun k => match unK ρ k with | some k0 => β' k0 | none => β k
  have hβn : ∀ k, domK ρ k = true → β2 (renK ρ k) = β' k := fun k hd => by simp only [β2, un_ren hρ hd]
  have hβo : ∀ k, unK ρ k = none → β2 k = β k := fun k hu => by simp only [β2, hu]
  have hout : ∀ {k : K} {o : Ob}, unK ρ k = none → st.get k = some o → ¬ (entM (fun k => β (renK ρ k)) RO w fr).Wr (β k) := by
    intro k o hu hg hb
    obtain ⟨k1, o1, g1, g2, g3⟩ := hWr _ hb
    by_cases hc : E.can k
    · have := h.wr.inj _ _ _ _ hg g1 hc (hcan g2) g3
      rw [this, un_ren hρ g2] at hu; cases hu
    · exact h.wr.sep _ _ g1 (hcan g2) (g3 ▸ h.wr.fzRO k o hg hc)
  have hsame : ∀ {k : K} {o : Ob}, unK ρ k = none → st.get k = some o → w'.heap[β k]? = w.heap[β k]? := fun hu hg => hw'.keep _ (h.wr.obj _ _ hg).lt (hout hu hg)
  have hroW : ∀ b, RO b → w'.heap[b]? = w.heap[b]? := fun b hb => hw'.keep b (h.wr.roLt b hb) fun hbw => by
    obtain ⟨k1, o1, g1, g2, g3⟩ := hWr _ hbw
    exact h.wr.sep _ _ g1 (hcan g2) (g3 ▸ hb)
  have hro : ∀ b, RO b → RO' b := fun b hb => hw'.ro0 b hb
  have hliv : ∀ k, livK ρ pins st k = true → β2 k = β k ∧ ∀ e n, w.shape? (β k) = some (e, n) → ∃ e', w'.shape? (β k) = some (e', n) := by
    intro k hk
    cases k with
    | cur n =>
      simp only [livK] at hk
      split at hk
      · rename_i s hs'
        split at hk
        · rename_i sz hp
          obtain ⟨g1, g2⟩ := hpin s sz hp
          obtain ⟨f1, f2⟩ := rhoB_mem hρ (bk_mem hs')
          have e1 : renK ρ (.cur s) = .cur n := by simp only [renK, f1]
          simp only [e1] at g1 g2
          exact ⟨by show (match unK ρ (.cur n) with | some k0 => β' k0 | none => β (.cur n)) = _; simp only [unK, hs']; exact g1, g2⟩
        · cases hk
      · rename_i hs'
        have hu : unK ρ (.cur n) = none := by simp only [unK, hs']
        split at hk
        · rename_i o hl
          refine ⟨hβo _ hu, fun e m he => ⟨e, ?_⟩⟩
          rw [shape_of_block (hsame hu (k := .cur n) (o := o) hl)]; exact he
        · cases hk
    | fr => cases hk
    | sub => cases hk
  have hval : ∀ {x : LV} {u : Value}, VL β RO w x u → VL β2 RO' w' (livV ρ pins st x) u := by
    intro x u hx
    unfold livV
    split
    · rename_i hl; exact VL.mono3 hro hroW hliv hx hl
    · exact .bad u
  refine ⟨v, mapV (renK ρ) r, ex ++ livE ρ pins st env, ⟨[], modC ρ pins st ro st.cur⟩, β2, RO', rfl, hK', ⟨⟨hw'.os.trans h.wr.os, hw'.tape.trans h.wr.tape, hw'.output.trans h.wr.output, Nat.le_trans h.wr.size hw'.size, fun b hlt hnw => ?_, hw'.roLt, fun b hb => hro b (h.wr.ro0 b hb), fun b hb => ?_, fun k o hg => ?_, fun k o hg hc => ?_, fun k k' o o' hg hg' hc hc' heq => ?_, fun k o hg hc => ?_, fun k o hg hc => ?_, fun k hf hnm => ?_⟩, h.size, h.defers, fun n x hx => ?_⟩, ?_⟩
  · rw [hw'.keep b (Nat.lt_of_lt_of_le hlt h.wr.size) fun hb => ?_]
    · exact h.wr.keep b hlt hnw
    · obtain ⟨k1, o1, g1, g2, rfl⟩ := hWr _ hb
      rcases h.wr.objNew _ _ g1 (hcan g2) with h1 | h1
      · exact hnw h1
      · omega
  · rcases hw'.roNew b hb with h1 | h1 | h1
    · exact h.wr.roNew b h1
    · exact .inr (.inl (Nat.le_trans h.wr.size h1))
    · obtain ⟨k1, o1, g1, g2, rfl⟩ := hWr _ h1
      rcases h.wr.objNew _ _ g1 (hcan g2) with h2 | h2
      · exact .inr (.inr h2)
      · exact .inr (.inl h2)
  · rcases mod_get (out' := out') hg with ⟨k0, o0, h1, h2, rfl, h3⟩ | ⟨h1, hnf, o0, h2, rfl⟩
    · obtain ⟨g1, g2, _⟩ := ren_un hρ h1
      rw [← g1]
      have hok := hw'.obj k0 o0 h2
      refine ObOK.map (p := domK ρ) (β2 := β2) (fun k hk => hβn k hk) (fun _ _ => rfl) g2 (fun _ => g2) hok ?_
      cases k0 with
      | cur s => exact (domF_look hdro h2).2
      | fr i s => cases h3
      | sub k i => obtain ⟨_, _, _, _, _, _, _, rfl⟩ := St.get_sub h2; rfl
    · have hok := h.wr.obj k o0 h2
      have hrest : (∀ cs, o0 ≠ .box cs) → ObOK β2 RO' w' k o0 := fun hnb => by
        refine hok.keep hro hroW (hβo k h1) (hsame h1 h2) (fun cs hcs => absurd hcs (hnb cs)) (fun eo e sz rs ho1 i es hi => ?_) fun m l ho1 => ?_
        · have hus : unK ρ (.sub k i) = none := by simp only [unK, h1]
          have hgs : st.get (.sub k i) = some (.row e sz es) := by
            rw [ho1] at h2
            simp only [St.get, h2, hi]
          exact ⟨hβo _ hus, fun r hr => by rw [shape_of_block (hsame hus hgs)]; exact hr⟩
        · have hm : unK ρ m = none := by
            subst ho1
            cases k with
            | cur n => exact mitB_look hmit h2
            | fr i n => cases hnf
            | sub k i => obtain ⟨_, _, _, _, _, _, _, h6⟩ := St.get_sub h2; cases h6
          rw [ho1] at hok
          obtain ⟨seen, ents, clock, _, hm2, hm3, _⟩ := hok
          exact ⟨hβo _ hm, hroW _ hm3⟩
      cases o0 with
      | box cs =>
        obtain ⟨vs, ety, g1, g2, g3, g4⟩ := hok
        refine ⟨vs, ety, by rw [hβo k h1, hsame h1 h2]; exact g1, by simp only [livL_eq]; simpa using g2, fun i x v hx hvx => ?_, g4⟩
        rw [livL_eq, List.getElem?_map] at hx
        cases hc : cs[i]? with
        | none => simp [hc] at hx
        | some y => simp [hc] at hx; rw [← hx]; exact hval (g3 i y v hc hvx)
      | row e sz es => exact hrest fun cs hcs => by cases hcs
      | grid eo e sz rs => exact hrest fun cs hcs => by cases hcs
      | mp kd kv => exact hrest fun cs hcs => by cases hcs
      | mit m l => exact hrest fun cs hcs => by cases hcs
  · rcases mod_get (out' := out') hg with ⟨k0, o0, h1, h2, _, h3⟩ | ⟨h1, _, o0, h2, _⟩
    · obtain ⟨g1, g2, _⟩ := ren_un hρ h1
      rw [← g1, hβn k0 g2]
      rcases hw'.objNew k0 o0 h2 (fun hf => by rw [h3] at hf; cases hf) with h4 | h4
      · obtain ⟨k1, o1, f1, f2, f3⟩ := hWr _ h4
        rw [f3]; exact h.wr.objNew _ _ f1 (hcan f2)
      · exact .inr (Nat.le_trans h.wr.size h4)
    · rw [hβo k h1]; exact h.wr.objNew k o0 h2 hc
  · have key : ∀ {k k' : K} {k0 : K} {o0 o0' : Ob}, unK ρ k = some k0 → St.get ⟨out', ro⟩ k0 = some o0 → k0.isFr = false → unK ρ k' = none → st.get k' = some o0' → β2 k = β2 k' → False := by
      intro k k' k0 o0 o0' h1 h2 h3 f1 f2 he
      obtain ⟨g1, g2, _⟩ := ren_un hρ h1
      rw [← g1, hβn k0 g2, hβo k' f1] at he
      rcases hw'.objNew k0 o0 h2 (fun hf => by rw [h3] at hf; cases hf) with h4 | h4
      · rw [he] at h4; exact hout f1 f2 h4
      · have := (h.wr.obj k' o0' f2).lt
        rw [← he] at this
        exact absurd (Nat.lt_of_lt_of_le this h4) (Nat.lt_irrefl _)
    rcases mod_get (out' := out') hg with ⟨k0, o0, h1, h2, _, h3⟩ | ⟨h1, _, o0, h2, _⟩ <;> rcases mod_get (out' := out') hg' with ⟨k0', o0', f1, f2, _, f3⟩ | ⟨f1, _, o0', f2, _⟩
    · obtain ⟨g1, g2, _⟩ := ren_un hρ h1
      obtain ⟨g1', g2', _⟩ := ren_un hρ f1
      have he : β' k0 = β' k0' := by
        have := heq
        simp only [β2, h1, f1] at this
        exact this
      rw [← g1, ← g1', hw'.inj k0 k0' o0 o0' h2 f2 (fun hf => by rw [h3] at hf; cases hf) (fun hf => by rw [f3] at hf; cases hf) he]
    · exact (key h1 h2 h3 f1 f2 heq).elim
    · exact (key f1 f2 f3 h1 h2 heq.symm).elim
    · exact h.wr.inj k k' o0 o0' h2 f2 hc hc' (by rw [← hβo k h1, ← hβo k' f1]; exact heq)
  · rcases mod_get (out' := out') hg with ⟨k0, o0, h1, h2, _, h3⟩ | ⟨h1, _, o0, h2, _⟩
    · obtain ⟨g1, g2, _⟩ := ren_un hρ h1
      rw [← g1, hβn k0 g2]
      exact hw'.sep k0 o0 h2 (fun hf => by rw [h3] at hf; cases hf)
    · rw [hβo k h1]
      intro hb
      rcases hw'.roNew _ hb with h4 | h4 | h4
      · exact h.wr.sep k o0 h2 hc h4
      · exact absurd (Nat.lt_of_lt_of_le (h.wr.obj k o0 h2).lt h4) (Nat.lt_irrefl _)
      · exact hout h1 h2 h4
  · rcases mod_get (out' := out') hg with ⟨k0, o0, h1, h2, _, h3⟩ | ⟨h1, _, o0, h2, _⟩
    · obtain ⟨g1, g2, g3⟩ := ren_un hρ h1
      exact absurd (fun hf => by rw [g3] at hf; cases hf) hc
    · rw [hβo k h1]; exact hro _ (h.wr.fzRO k o0 h2 hc)
  · have hu : unK ρ k = none := by
      cases hu : unK ρ k with
      | none => rfl
      | some k0 => rw [(ren_un hρ hu).2.2] at hf; cases hf
    rw [hβo k hu]; exact h.wr.stay k hf hnm
  · rcases look_app hx with hx | ⟨_, hx⟩
    · obtain ⟨hy, q, i, sz, off, len, o, rfl, hq1, hq2⟩ := exP_look hex hx
      obtain ⟨u, g1, g2⟩ := h.env n _ hy
      refine ⟨u, g1, ?_⟩
      have hu : unK ρ (.sub (.cur q) i) = none := by simp only [unK, hq1]
      cases g2 with
      | osl _ _ _ _ cap e n a b c d =>
        rw [← hβo _ hu]
        exact .osl _ _ _ _ cap e n a (by rw [hβo _ hu, shape_of_block (hsame hu hq2)]; exact b) c d
    · obtain ⟨y, hy, rfl⟩ := look_livE hx
      obtain ⟨u, g1, g2⟩ := h.env n y hy
      exact ⟨u, g1, hval g2⟩
  · exact VL.map (p := domK ρ) (β2 := β2) (fun k hk => hβn k hk) hr hdr

theorem modH_ok : HOK P fun f args _ env st K' => ModH P f args env st K' := by
  intro E N f s args vals env st K' β RO a w h hv hW
  cases hW with
  | mk ρ hs ha hk ho hK =>
    subst ha
    exact modH_core ρ [] h hs hv hk ho trivial hK
  | mkx ρ ex hs ha hk ho hex hK =>
    subst ha
    exact modH_core ρ ex h hs hv hk ho hex hK

/-- Less is told of a row that comes back. -/
theorem SpecM.trunc {f : Nat} {args : List LV} {fr : Fr} {pins : List (Nat × Nat)} {Post Post' : LV → Fr → Prop} (h : SpecM P f args fr pins Post)
    (hp : ∀ r ro, Post r ro → ∃ s e sz es n, look ro s = some (.row e sz es) ∧ Post' r (setCur ro s (.row e sz (es.take n)))) : SpecM P f args fr pins Post' := by
  refine ⟨h.fn, fun β RO w vals hw hv => (h.calls β RO w vals hw hv).mono ?_⟩
  rintro e w' ⟨v, r, ro, out', β', RO', he, h1, h2, h3, h4⟩
  obtain ⟨s, e, sz, es, n, g1, g2⟩ := hp r ro h1
  have hsr : SR (entM β RO w fr) 0 β' RO' [] ⟨out', ro⟩ { tmps := #[], defers := (entM β RO w fr).dfs } w' := ⟨h2, ⟨rfl, Nat.zero_le _⟩, rfl, fun n x hx => by simp [look] at hx⟩
  exact ⟨v, r, _, out', β', RO', he, g2, (hsr.trunc (n := n) g1).wr, h3, h4⟩

end
end Go.Fw

/- The value logic, part 30: a function that calls functions that write its own objects. -/
namespace Go.Fw
open Go

section
variable {C : Ctx} {P : Program} {E : Ent} {N : Nat} {β : K → Nat} {RO : Nat → Prop} {env : Env} {st : St} {a : Act} {w : World}

/-- A function is right where its body is, its calls as they are told. -/
theorem spec_walkH (hC : C.OK P) {f : Nat} {fn : Func} {c : Code} {args : List LV} {out : List Fr} {Post : LV → Fr → Prop} {H : HW} (hH : HOK P H) (kp : Kp) (od : Od) (hf : P.funcs[f]? = some fn) (hb : fn.body = some c) (hk : (Nat.ble fn.ntmps 1000000 && codeYOK fn.ntmps od c) = true) (hn : Nat.ble args.length fn.ntmps = true) (hfn : FnOK P f)
    (hW : LV.ok.okL args → wpcX C P noY H 0 kp od c (argE 0 args) ⟨out, []⟩ (retW C fn.results.toList Post)) : SpecP P f args out Post := by
  simp only [Bool.and_eq_true] at hk
  obtain ⟨hq, hk⟩ := hk
  have hq : fn.ntmps ≤ 1000000 := by simpa using hq
  have hn : args.length ≤ fn.ntmps := by simpa using hn
  refine ⟨hfn, fun β RO w vals hw hv => calls_out (r := none) (n := 0) ?_⟩
  have hlen : vals.length = args.length := hv.1.symm
  have hs : SR (entP β RO w) fn.ntmps β RO (argE 0 args) ⟨out, []⟩ { tmps := vals.toArray ++ Array.replicate (fn.ntmps - vals.toArray.size) undef, defers := [] } w := by
    refine ⟨hw, ⟨by simp; omega, hq⟩, rfl, fun n x hx => ?_⟩
    obtain ⟨_, h2⟩ := argE_look hx
    simp only [Nat.sub_zero] at h2
    have hlt : n < vals.length := by rw [hlen]; exact (List.getElem?_eq_some_iff.1 h2).1
    refine ⟨vals[n], ?_, hv.2 n x _ h2 (List.getElem?_eq_getElem hlt)⟩
    rw [tmpAt_lt (by omega), Array.getElem?_append_left (by simpa using hlt)]
    simp [hlt]
  refine callsIn_of_wp hf hb trivial (wpIn_mono (wpcX_in hC noY_ok hH c hk β RO _ _ _ w _ hs (hW hv.ok)) ?_)
  have fin : ∀ {env : Env} {st : St} {β' : K → Nat} {RO' : Nat → Prop} {a : Act} {w' : World}, (match resL C env st fn.results.toList with | some l => ∃ cs, keepW cs st.cur (Post (resV l)) | none => False) → SR (entP β RO w) fn.ntmps β' RO' env st a w' →
      a.defers = [] ∧ ∃ v, (results fn a.tmps).run P w' = .ok v w' ∧ ∃ v' r ro out' β' RO', Ending.returned v = .returned v' ∧ Post r ro ∧ WR (entP β RO w) β' RO' ⟨out', ro⟩ w' ∧ VL β' RO' w' r v' := by
    intro env st β' RO' a w' hq hs
    split at hq
    rotate_left
    · cases hq
    rename_i l hl
    obtain ⟨cs, hp⟩ := hq
    obtain ⟨cur', hp, hless⟩ := keepW_gives hp
    obtain ⟨v, h1, h2⟩ := res_run hC hs hl
    exact ⟨hs.defers, v, h1, v, resV l, cur', st.out, β', RO', rfl, hp, hs.wr.less (fun k o hk => get_less hless k o hk), h2⟩
  rintro e a w' ⟨env, st, β', RO', hq, hs⟩
  cases e with
  | normal => exact fin hq hs
  | ret => exact fin hq hs
  | _ => exact hq.elim

end
end Go.Fw

/- Functions that write objects of their callers; tails of code. -/
namespace Go.Fw
open Go Go.Proofs
set_option maxRecDepth 10000

abbrev modH (P : Program) : HW := fun f args _ env st K' => ModH P f args env st K'
theorem mH_ok {P : Program} : HOK P (modH P) := modH_ok
def tailC : Nat → Code → Code
  | n + 1, .seq _ b => tailC n b
  | _, c => c

end Go.Fw

/- What the reference's functions do: copies. -/
namespace Go.Fw
open Go Go.Proofs
set_option maxRecDepth 10000

abbrev cellsAct (a : Actn) : List LV := [.t (.v (.string a.name)), .t (.v (.int .i64 a.cost)), .t (.sl a.pn 2 (a.pre.map tLit)), .t (.sl a.en 3 (a.effs.map tEff))]

theorem f82o_spec (n1 : Bool) (l : List Lit) (hl : l.length ≤ 8796093021952) (out : List Fr) : SpecP Try.prog 82 [.lits n1 l] out fun r ro => r = accV 32 2 (l.map tLit) ∧ ro = accO 32 50 2 (l.map tLit) := by
  refine spec_body cx_ok [] [] (fn := Try.f82) (by kernel_rfl) rfl (by kernel_rfl) rfl (by unfold FnOK; kernel_rfl) fun hok => ?_
  cases l with
  | nil => exact Exists.intro [] ⟨rfl, rfl⟩
  | cons x r =>
    refine And.intro (by simp at hl ⊢; omega) (And.intro (by simp at hl ⊢; omega) ?_)
    exact Exists.intro [32] ⟨rfl, rfl⟩
theorem f82_spec (n1 : Bool) (l : List Lit) (hl : l.length ≤ 8796093021952) (out : List Fr) : SpecP Try.prog 82 [.lits n1 l] out fun r ro => r = .lits l.isEmpty l ∧ ro = [] :=
  (f82o_spec n1 l hl out).close fun r ro ⟨h1, h2⟩ => by
    refine ⟨_, ?_, rfl, rfl⟩
    rw [h1]
    have := acc_cls (s := 32) (e := 50) (sz := 2) (es := l.map tLit) (ro := ro) fun x r he => by rw [h2, he]; exact look_cons .. |>.trans (if_pos rfl)
    rw [show l.isEmpty = (l.map tLit).isEmpty by cases l <;> rfl]
    exact this

/-! ### An action -/
def copyE (e : Eff) : Eff := { e with nil := e.when_.isEmpty }
def copyA (a : Actn) : Actn := { a with pn := a.pre.isEmpty, en := a.effs.isEmpty, effs := a.effs.map copyE }
def kp83 : Kp := [(4, ([1, 2, 3, 11, 12, 13], [8, 16, 200]))]
def od83 : Od := [(6, [(0, .tree (.pure 0 (.pure 1 (.pure 2 (.pure 4 (.pure 5 (.last 3 (.pure 6 (.eff 7 (.last 8 (.last 9 .done []) [4]))) [0, 4, 5])))))))])]
theorem f83o_spec (a : Actn) (hp : a.pre.length ≤ 8796093021952) (he : a.effs.length ≤ 3518437208780) (hw : ∀ e ∈ a.effs, e.when_.length ≤ 8796093021952) (out : List Fr) :
    SpecP Try.prog 83 [.act a] out fun r ro => r = .agg [.t (.v (.string a.name)), .int a.cost, .lits a.pre.isEmpty a.pre, accV 200 3 ((a.effs.map copyE).map tEff)] ∧ ro = accO 200 98 3 ((a.effs.map copyE).map tEff) := by
  refine spec_body cx_ok kp83 od83 (fn := Try.f83) (by kernel_rfl) rfl (by kernel_rfl) rfl (by unfold FnOK; kernel_rfl) fun hok => ?_
  refine SpecP.mono (f82_spec a.pn a.pre hp []) ?_
  rintro _ _ ⟨rfl, rfl⟩
  refine LoopW.mk (Nat × List Eff) (fun q => q.1 ≤ a.effs.length ∧ q.2 = (a.effs.take q.1).map copyE) (fun q => [(1, .ptr (.cur 8) 0), (2, .ptr (.cur 16) 0), (3, accV 200 3 (q.2.map tEff)), (11, .t (.sl a.en 3 (a.effs.map tEff))), (12, .int (a.effs.map tEff).length), (13, .int q.1)])
    (fun q => ⟨out, (8, .box [.t (.v (.string a.name)), .int a.cost, .lits a.pre.isEmpty a.pre, .t (.sl a.en 3 (a.effs.map tEff))]) :: (16, .box [.t (.v (.string ⟨#[]⟩)), .int 0, .t (.sl true 0 []), .t (.sl true 0 [])]) :: accO 200 98 3 (q.2.map tEff)⟩) (fun q => a.effs.length - q.1) (0, []) ⟨Nat.zero_le _, rfl⟩ ⟨rfl, rfl⟩ ?_
  rintro ⟨i, M⟩ ⟨hi0, hM⟩
  simp only at hi0 hM
  have hMl : M.length ≤ 3518437208780 := by rw [hM, List.length_map, List.length_take]; omega
  cases M
  case' nil => let M2 : List Eff := []
  case' cons x r => let M2 : List Eff := x :: r
  all_goals
    refine And.intro (fun h1 => ?_) fun h1 => ?_
    rotate_left
    · have hi : i = a.effs.length := by have := ge_of_dec h1; have : i ≤ a.effs.length := hi0; omega
      rw [hi, List.take_length] at hM
      have hM' : M2 = a.effs.map copyE := hM
      exact Exists.intro [200] ⟨congrArg (fun z : List Eff => LV.agg [.t (.v (.string a.name)), .int a.cost, .lits a.pre.isEmpty a.pre, accV 200 3 (z.map tEff)]) hM', congrArg (fun z : List Eff => accO 200 98 3 (z.map tEff)) hM'⟩
    have hi : i < a.effs.length := lt_of_dec h1
    have hem : a.effs[i] ∈ a.effs := List.getElem_mem hi
    refine And.intro (by omega) (Exists.intro _ (And.intro (get_map hi) ?_))
    refine SpecP.mono (f82_spec a.effs[i].nil a.effs[i].when_ (hw _ hem) _) ?_
    rintro _ _ ⟨rfl, rfl⟩
    have hl4 : ∀ X : List T, ((M2.map tEff) ++ [X]).length ≤ 3518437208781 := fun X => by
      have : M2.length ≤ 3518437208780 := hMl
      rw [List.length_append, List.length_map, List.length_singleton]; omega
    have hnew : M2 ++ [copyE a.effs[i]] = (a.effs.take (i + 1)).map copyE := by
      rw [List.take_add_one, List.getElem?_eq_getElem hi, List.map_append, ← hM]; rfl
    repeat first
      | refine And.intro (Nat.le_of_ble_eq_true rfl) ?_
      | refine And.intro rfl ?_
      | refine And.intro (Nat.le_trans (Nat.mul_le_mul_right _ (hl4 _)) (Nat.le_of_ble_eq_true rfl)) ?_
      | refine And.intro (Nat.le_trans (hl4 _) (Nat.le_of_ble_eq_true rfl)) ?_
    refine And.intro (by show (-9223372036854775808 : Int) ≤ (i : Int) + 1; omega) (And.intro (by show (i : Int) + 1 ≤ 9223372036854775807; omega) ?_)
    first
      | exact Exists.intro (i + 1, [copyE a.effs[i]]) (And.intro (by show a.effs.length - (i + 1) < a.effs.length - i; omega) (And.intro ⟨hi, hnew⟩ (And.intro rfl rfl)))
      | (refine Exists.intro (i + 1, x :: (r ++ [copyE a.effs[i]])) (And.intro (by show a.effs.length - (i + 1) < a.effs.length - i; omega) (And.intro ⟨hi, hnew⟩ ?_))
         have e : (r ++ [copyE a.effs[i]]).map tEff = r.map tEff ++ [tEff (copyE a.effs[i])] := by simp
         simp only [List.map_cons, e]
         exact And.intro rfl rfl)

theorem f83_spec (a : Actn) (hp : a.pre.length ≤ 8796093021952) (he : a.effs.length ≤ 3518437208780) (hw : ∀ e ∈ a.effs, e.when_.length ≤ 8796093021952) (out : List Fr) : SpecP Try.prog 83 [.act a] out fun r ro => r = .act (copyA a) ∧ ro = [] :=
  (f83o_spec a hp he hw out).close fun r ro ⟨h1, h2⟩ => by
    refine ⟨_, ?_, rfl, rfl⟩
    rw [h1]
    have := acc_cls (s := 200) (e := 98) (sz := 3) (es := (a.effs.map copyE).map tEff) (ro := ro) fun x r he => by rw [h2, he]; exact look_cons .. |>.trans (if_pos rfl)
    refine .agg _ [.t (.v (.string a.name)), .int a.cost, .lits a.pre.isEmpty a.pre, .t (.sl a.effs.isEmpty 3 ((a.effs.map copyE).map tEff))] rfl fun i x y hx hy => ?_
    match i with
    | 0 => simp at hx hy; subst hx hy; exact .same _
    | 1 => simp at hx hy; subst hx hy; exact .same _
    | 2 => simp at hx hy; subst hx hy; exact .same _
    | 3 =>
      simp at hx hy; subst hx hy
      have e : ((a.effs.map copyE).map tEff).isEmpty = a.effs.isEmpty := by cases a.effs <;> rfl
      rw [e] at this
      rw [List.map_map] at this; exact this
    | i + 4 => simp at hx

/-! ### A copy is the same -/
def kp84 : Kp := [(4, ([3, 37, 38, 39], [24]))]
def od84 : Od := [(6, [(0, .pure), (1, .pure), (2, .pure), (3, .pure), (4, .pure), (5, .pure), (6, .pure), (7, .pure), (8, .pure), (9, .pure), (10, .pure), (11, .pure), (12, .pure), (13, .pure), (14, .pure), (15, .pure), (16, .pure), (17, .pure), (18, .eff), (19, .pure), (20, .pure)])]
theorem f84_spec (a : Actn) (out : List Fr) : SpecP Try.prog 84 [.act (copyA a), .act a] out fun r ro => r = .bool true ∧ ro = [] := by
  refine spec_body cx_ok kp84 od84 (fn := Try.f84) (by kernel_rfl) rfl (by kernel_rfl) rfl (by unfold FnOK; kernel_rfl) fun hok => ?_
  have hmx := le_max hok.2.1.2.2.2.1.1
  refine And.intro (fun h => absurd h (by simp [copyA])) fun _ => ?_
  refine And.intro (fun h => absurd h (by simp [copyA])) fun _ => ?_
  refine SpecP.mono (f18_spec a.pre.isEmpty a.pn a.pre a.pre []) ?_
  rintro _ _ ⟨rfl, rfl⟩
  refine And.intro (fun _ => ?_) fun h => absurd h (by simp)
  refine And.intro (fun h => absurd h (by simp [copyA])) fun _ => ?_
  refine LoopW.mk Nat (fun i => i ≤ a.effs.length) (fun i => [(3, .ptr (.cur 24) 0), (37, .t (.sl a.effs.isEmpty 3 ((a.effs.map copyE).map tEff))), (38, .int ((a.effs.map copyE).map tEff).length), (39, .int i)])
    (fun _ => ⟨out, [(24, .box (cellsAct a))]⟩) (fun i => a.effs.length - i) 0 (Nat.zero_le _) ⟨rfl, rfl⟩ fun i hi0 => ?_
  have hcl : ((a.effs.map copyE).map tEff).length = a.effs.length := by simp
  refine And.intro (fun h1 => ?_) fun h1 => ?_
  · have hi : i < a.effs.length := by
      have h1' : (i : Int) < (((a.effs.map copyE).map tEff).length : Int) := of_decide_eq_true h1
      omega
    have hg1 : ((a.effs.map copyE).map tEff)[((i : Nat) : Int).toNat]? = some (tEff (copyE a.effs[i])) := by
      rw [Int.toNat_natCast, List.getElem?_map, List.getElem?_map, List.getElem?_eq_getElem hi]; rfl
    refine And.intro (by omega) (Exists.intro _ (And.intro hg1 ?_))
    refine And.intro (by omega) (Exists.intro _ (And.intro (get_map hi) ?_))
    refine And.intro (fun h => absurd h (by simp [copyE])) fun _ => ?_
    refine And.intro (by omega) (Exists.intro _ (And.intro (get_map hi) ?_))
    refine SpecP.mono (f18_spec a.effs[i].when_.isEmpty a.effs[i].nil a.effs[i].when_ a.effs[i].when_ []) ?_
    rintro _ _ ⟨rfl, rfl⟩
    refine And.intro ⟨rfl, rfl, rfl⟩ ?_
    refine And.intro (fun _ => ?_) fun h => absurd h (by simp)
    refine And.intro (by omega) (And.intro (by omega) ?_)
    exact Exists.intro (i + 1) (And.intro (by show a.effs.length - (i + 1) < a.effs.length - i; omega) (And.intro hi (And.intro rfl rfl)))
  · exact Exists.intro [] ⟨rfl, rfl⟩

end Go.Fw

/- What the reference's functions do: a copied task is the same. -/
namespace Go.Fw
open Go Go.Proofs
set_option maxRecDepth 10000

def copyT (t : Task) : Task := { t with fn := t.facts.isEmpty, ni := t.init.isEmpty, gn := t.goal.isEmpty, an := t.acts.isEmpty, acts := t.acts.map copyA }
def kp48 : Kp := [(4, ([2, 3, 42, 43, 44], [16, 24])), (10, ([3, 58, 59, 60], [24]))]
def od48 : Od := [(12, [(0, .pure), (1, .pure), (2, .pure), (3, .pure), (4, .pure), (5, .pure), (6, .eff), (7, .pure)])]
theorem f48_spec (t : Task) (out : List Fr) : SpecP Try.prog 48 [.task (copyT t), .task t] out fun r ro => r = .bool true ∧ ro = [] := by
  refine spec_body cx_ok kp48 od48 (fn := Try.f48) (by kernel_rfl) rfl (by kernel_rfl) rfl (by unfold FnOK; kernel_rfl) fun hok => ?_
  have hmf := le_max hok.2.1.1.1
  have hma := le_max hok.2.1.2.2.2.1.1
  refine And.intro (fun h => absurd h (by simp [copyT])) fun _ => ?_
  refine SpecP.mono (f20_spec t.init.isEmpty t.ni t.init t.init []) ?_
  rintro _ _ ⟨rfl, rfl⟩
  refine And.intro (fun _ => ?_) fun h => absurd h (by simp)
  refine SpecP.mono (f18_spec t.goal.isEmpty t.gn t.goal t.goal []) ?_
  rintro _ _ ⟨rfl, rfl⟩
  refine And.intro (fun _ => ?_) fun h => absurd h (by simp)
  refine And.intro (fun h => absurd h (by simp [copyT])) fun _ => ?_
  refine LoopW.mk Nat (fun i => i ≤ t.facts.length) (fun i => [(2, .ptr (.cur 16) 0), (3, .ptr (.cur 24) 0), (42, .t (.sl t.facts.isEmpty 1 (t.facts.map tS))), (43, .int (t.facts.map tS).length), (44, .int i)])
    (fun _ => ⟨out, [(16, .box (cellsTask (copyT t))), (24, .box (cellsTask t))]⟩) (fun i => t.facts.length - i) 0 (Nat.zero_le _) ⟨rfl, rfl⟩ fun i hi0 => ?_
  refine And.intro (fun h1 => ?_) fun h1 => ?_
  · have hi : i < t.facts.length := lt_of_dec h1
    refine And.intro (by omega) (Exists.intro _ (And.intro (get_map hi) ?_))
    refine And.intro (by omega) (Exists.intro _ (And.intro (get_map hi) ?_))
    refine And.intro (fun h => absurd h (by simp)) fun _ => ?_
    refine And.intro (by omega) (And.intro (by omega) ?_)
    exact Exists.intro (i + 1) (And.intro (by show t.facts.length - (i + 1) < t.facts.length - i; omega) (And.intro hi (And.intro rfl rfl)))
  refine LoopW.mk Nat (fun i => i ≤ t.acts.length) (fun i => [(3, .ptr (.cur 24) 0), (58, .t (.sl t.acts.isEmpty 4 ((t.acts.map copyA).map tAct))), (59, .int ((t.acts.map copyA).map tAct).length), (60, .int i)])
    (fun _ => ⟨out, [(24, .box (cellsTask t))]⟩) (fun i => t.acts.length - i) 0 (Nat.zero_le _) ⟨rfl, rfl⟩ fun i hi0 => ?_
  have hcl : ((t.acts.map copyA).map tAct).length = t.acts.length := by simp
  refine And.intro (fun h1 => ?_) fun h1 => ?_
  · have hi : i < t.acts.length := by
      have h1' : (i : Int) < (((t.acts.map copyA).map tAct).length : Int) := of_decide_eq_true h1
      omega
    have hg1 : ((t.acts.map copyA).map tAct)[((i : Nat) : Int).toNat]? = some (tAct (copyA t.acts[i])) := by
      rw [Int.toNat_natCast, List.getElem?_map, List.getElem?_map, List.getElem?_eq_getElem hi]; rfl
    refine And.intro (by omega) (Exists.intro _ (And.intro hg1 ?_))
    refine And.intro (by omega) (Exists.intro _ (And.intro (get_map hi) ?_))
    refine SpecP.mono (f84_spec t.acts[i] []) ?_
    rintro _ _ ⟨rfl, rfl⟩
    refine And.intro ⟨rfl, rfl, rfl⟩ ?_
    refine And.intro (fun _ => ?_) fun h => absurd h (by decide)
    refine And.intro (by omega) (And.intro (by omega) ?_)
    exact Exists.intro (i + 1) (And.intro (by show t.acts.length - (i + 1) < t.acts.length - i; omega) (And.intro hi (And.intro rfl rfl)))
  · exact Exists.intro [] ⟨rfl, rfl⟩

end Go.Fw

/- What the reference's functions do: a task is copied. -/
namespace Go.Fw
open Go Go.Proofs
set_option maxRecDepth 10000

def kp46 : Kp := [(2, ([1, 2, 3], [0, 8, 16, 24, 64, 88])), (3, ([2, 3, 17, 18, 19], [16, 24, 64, 88, 224]))]
def od46 : Od := [(1, [(0, .tree (.pure 0 (.pure 1 (.pure 3 (.pure 4 (.pure 6 (.pure 7 (.fork 2 (.fork 5 (.fork 8 (.pure 9 (.eff 10 (.last 11 .done []))) [0] (.last 10 (.last 8 (.pure 9 (.last 11 .done [])) [0]) [0, 1, 3, 4, 6, 7])) [6, 7] (.last 10 (.last 5 (.last 8 (.pure 9 (.last 11 .done [])) [0]) [6, 7]) [0, 1, 3, 4, 6, 7])) [3, 4, 6, 7] (.last 10 (.last 2 (.last 5 (.last 8 (.pure 9 (.last 11 .done [])) [0]) [6, 7]) [3, 4, 6, 7]) [0, 1, 3, 4, 6, 7])))))))))]), (5, [(0, .tree (.pure 0 (.pure 1 (.pure 2 (.last 3 (.eff 4 (.last 5 (.pure 6 (.last 7 .done [])) [])) [0, 1])))))])]
abbrev rest21 (k : Nat) (env : Env) (st : St) (Q : Exit → Env → St → Prop) : Prop := CutX (fun env st => wpcX cx Try.prog noY (modH Try.prog) 0 kp46 od46 (tailC k (Try.f46.body.get!)) env st Q) env st
/-- Where the copies of the facts and of the initial state lie. -/
abbrev resO (t : Task) (M : List Actn) : LV → Fr → Prop := fun r ro => r = .agg [accV 64 1 (t.facts.map tS), accV 88 1 (t.init.map tI), .lits t.goal.isEmpty t.goal, accV 224 4 (M.map tAct)] ∧ ro = accO 64 9 1 (t.facts.map tS) ++ (accO 88 3 1 (t.init.map tI) ++ accO 224 79 4 (M.map tAct))
/-- The lists are not longer than what may be read. -/
structure TaskS (t : Task) : Prop where
  facts : t.facts.length ≤ 8796093021952
  init : t.init.length ≤ 17592186043904
  goal : t.goal.length ≤ 8796093021952
  acts : t.acts.length ≤ 1954687338211
  pre : ∀ a ∈ t.acts, a.pre.length ≤ 8796093021952
  effs : ∀ a ∈ t.acts, a.effs.length ≤ 3518437208780
  whn : ∀ a ∈ t.acts, ∀ e ∈ a.effs, e.when_.length ≤ 8796093021952
set_option maxHeartbeats 2000000 in
theorem f46o_spec (t : Task) (S : TaskS t) (out : List Fr) : SpecP Try.prog 46 [.task t] out (resO t (t.acts.map copyA)) := by
  refine spec_walkH cx_ok mH_ok kp46 od46 (fn := Try.f46) (by kernel_rfl) rfl (by kernel_rfl) rfl (by unfold FnOK; kernel_rfl) fun hok => ?_
  obtain ⟨fn, facts, ni, init, gn, goal, an, acts⟩ := t
  have s1 : facts.length ≤ 8796093021952 := S.facts
  have s2 : init.length ≤ 17592186043904 := S.init
  have s3 : goal.length ≤ 8796093021952 := S.goal
  have rest : rest21 2 [(1, .ptr (.cur 8) 0), (2, .ptr (.cur 16) 0), (3, .ptr (.cur 24) 0)]
      ⟨out, [(8, .box (cellsTask ⟨fn, facts, ni, init, gn, goal, an, acts⟩)), (16, .box [.t (.sl true 0 []), .t (.sl true 0 []), .t (.sl true 0 []), .t (.sl true 0 [])]), (24, .box [accV 64 1 (facts.map tS), accV 88 1 (init.map tI), .lits goal.isEmpty goal, .t (.sl true 0 [])])] ++ (accO 64 9 1 (facts.map tS) ++ accO 88 3 1 (init.map tI))⟩
      (retW cx Try.f46.results.toList (resO ⟨fn, facts, ni, init, gn, goal, an, acts⟩ (acts.map copyA))) := by
    have hac : acts.length ≤ 1954687338211 := S.acts
    refine CutX.mk ?_
    cases facts
    case' nil => let Fs : List ByteArray := []
    case' cons x r => let Fs : List ByteArray := x :: r
    all_goals
      cases init
      case' nil => let Is : List Int := []
      case' cons y q => let Is : List Int := y :: q
      all_goals
        refine LoopX.mk (Nat × List Actn) (fun q => q.1 ≤ acts.length ∧ q.2 = (acts.take q.1).map copyA) (fun q => [(2, .ptr (.cur 16) 0), (3, .ptr (.cur 24) 0), (17, .t (.sl an 4 (acts.map tAct))), (18, .int (acts.map tAct).length), (19, .int q.1)])
          (fun q => ⟨out, [(16, .box [.t (.sl true 0 []), .t (.sl true 0 []), .t (.sl true 0 []), .t (.sl true 0 [])]), (24, .box [accV 64 1 (Fs.map tS), accV 88 1 (Is.map tI), .lits goal.isEmpty goal, accV 224 4 (q.2.map tAct)])] ++ (accO 64 9 1 (Fs.map tS) ++ (accO 88 3 1 (Is.map tI) ++ accO 224 79 4 (q.2.map tAct)))⟩) (fun q => acts.length - q.1) (0, []) ⟨Nat.zero_le _, rfl⟩ ⟨rfl, rfl⟩ ?_
        rintro ⟨i, M⟩ ⟨hi0, hM⟩
        simp only at hi0 hM
        have hMl : M.length ≤ 1954687338211 := by rw [hM, List.length_map, List.length_take]; omega
        cases M
        case' nil => let M2 : List Actn := []
        case' cons z w => let M2 : List Actn := z :: w
        all_goals
          refine And.intro (fun h1 => ?_) fun h1 => ?_
          rotate_left
          · have hi : i = acts.length := by have := ge_of_dec h1; have : i ≤ acts.length := hi0; omega
            rw [hi, List.take_length] at hM
            have hM' : M2 = acts.map copyA := hM
            show _
            rw [← hM']
            exact Exists.intro [64, 88, 224] ⟨rfl, rfl⟩
          have hi : i < acts.length := lt_of_dec h1
          have hem : acts[i] ∈ acts := List.getElem_mem hi
          refine And.intro (by omega) (Exists.intro _ (And.intro (get_map hi) ?_))
          refine SpecP.mono (f83_spec acts[i] (S.pre _ hem) (S.effs _ hem) (S.whn _ hem) _) ?_
          rintro _ _ ⟨rfl, rfl⟩
          have hl4 : ∀ X : List T, ((M2.map tAct) ++ [X]).length ≤ 1954687338212 := fun X => by
            have : M2.length ≤ 1954687338211 := hMl
            rw [List.length_append, List.length_map, List.length_singleton]; omega
          have hnew : M2 ++ [copyA acts[i]] = (acts.take (i + 1)).map copyA := by
            rw [List.take_add_one, List.getElem?_eq_getElem hi, List.map_append, ← hM]; rfl
          repeat first
            | refine And.intro (Nat.le_of_ble_eq_true rfl) ?_
            | refine And.intro rfl ?_
            | refine And.intro (Nat.le_trans (Nat.mul_le_mul_right _ (hl4 _)) (Nat.le_of_ble_eq_true rfl)) ?_
            | refine And.intro (Nat.le_trans (hl4 _) (Nat.le_of_ble_eq_true rfl)) ?_
          refine And.intro (by show (-9223372036854775808 : Int) ≤ (i : Int) + 1; omega) (And.intro (by show (i : Int) + 1 ≤ 9223372036854775807; omega) ?_)
          first
            | exact Exists.intro (i + 1, [copyA acts[i]]) (And.intro (by show acts.length - (i + 1) < acts.length - i; omega) (And.intro ⟨hi, hnew⟩ (And.intro rfl rfl)))
            | (refine Exists.intro (i + 1, z :: (w ++ [copyA acts[i]])) (And.intro (by show acts.length - (i + 1) < acts.length - i; omega) (And.intro ⟨hi, hnew⟩ ?_))
               have e : (w ++ [copyA acts[i]]).map tAct = w.map tAct ++ [tAct (copyA acts[i])] := by simp
               simp only [List.map_cons, e]
               exact And.intro rfl rfl)
  cases facts
  all_goals
    cases init
    all_goals
      simp only [List.length_cons, List.length_nil] at s1 s2
      repeat' first
        | refine And.intro rfl ?_
        | refine And.intro (by simp; omega) ?_
        | (refine SpecP.mono (f82_spec gn goal s3 _) ?_; rintro _ _ ⟨rfl, rfl⟩)
        | refine And.intro ?_ ?_
        | exact rest

theorem look_acc {σ e sz : Nat} {es : List (List T)} {R : Fr} {k : Nat} (h : σ ≠ k) : look (accO σ e sz es ++ R) k = look R k := by
  cases es with
  | nil => rfl
  | cons x r => exact (look_cons ..).trans (if_neg (fun he => h he))
theorem f46_spec (t : Task) (S : TaskS t) (out : List Fr) : SpecP Try.prog 46 [.task t] out fun r ro => r = .task (copyT t) ∧ ro = [] :=
  (f46o_spec t S out).close fun r ro ⟨h1, h2⟩ => by
    refine ⟨_, ?_, rfl, rfl⟩
    rw [h1]
    have a1 := acc_cls (s := 64) (e := 9) (sz := 1) (es := t.facts.map tS) (ro := ro) fun x r he => by rw [h2, he]; exact look_cons .. |>.trans (if_pos rfl)
    have a2 := acc_cls (s := 88) (e := 3) (sz := 1) (es := t.init.map tI) (ro := ro) fun x r he => by rw [h2, look_acc (by decide), he]; exact look_cons .. |>.trans (if_pos rfl)
    have a3 := acc_cls (s := 224) (e := 79) (sz := 4) (es := (t.acts.map copyA).map tAct) (ro := ro) fun x r he => by rw [h2, look_acc (by decide), look_acc (by decide), he]; exact look_cons .. |>.trans (if_pos rfl)
    rw [show (t.facts.map tS).isEmpty = t.facts.isEmpty by cases t.facts <;> rfl] at a1
    rw [show (t.init.map tI).isEmpty = t.init.isEmpty by cases t.init <;> rfl] at a2
    rw [show ((t.acts.map copyA).map tAct).isEmpty = t.acts.isEmpty by cases t.acts <;> rfl] at a3
    refine .agg _ [.t (.sl t.facts.isEmpty 1 (t.facts.map tS)), .t (.sl t.init.isEmpty 1 (t.init.map tI)), .lits t.goal.isEmpty t.goal, .t (.sl t.acts.isEmpty 4 ((t.acts.map copyA).map tAct))] rfl fun i x y hx hy => ?_
    match i with
    | 0 => simp at hx hy; subst hx hy; exact a1
    | 1 => simp at hx hy; subst hx hy; exact a2
    | 2 => simp at hx hy; subst hx hy; exact .same _
    | 3 => simp at hx hy; subst hx hy; rw [List.map_map] at a3; exact a3
    | i + 4 => simp at hx

end Go.Fw

/- What the program's functions do: Apply, its result our own. -/
namespace Go.Fw
open Go Go.Proofs
set_option maxRecDepth 10000

theorem f39o_spec (t : Task) (n1 : Bool) (s : List Int) (a : Int) (out : List Fr) : SpecP Try.prog 39 [.task t, .ints n1 s, .int a] out fun r ro =>
    ∃ (σ : Nat) (L : List Int) (b : Bool) (e : Int), (σ = 321001411 ∨ σ = 321001531) ∧ L.length ≤ 1000000000 ∧ r = .tup [accV σ 1 (L.map tI), .bool b, .int e] ∧ ro = accO σ 3 1 (L.map tI) := by
  refine spec_body cx_ok [] [] (fn := Try.f39) (by kernel_rfl) rfl (by kernel_rfl) rfl (by unfold FnOK; kernel_rfl) fun hok => ?_
  refine SpecP.mono (f54_spec t n1 s []) ?_
  rintro _ _ ⟨rfl, rfl⟩
  refine And.intro (fun h => ?_) fun h => ?_
  · exact Exists.intro [] ⟨321001411, [], _, _, .inl rfl, Nat.zero_le _, rfl, rfl⟩
  have h0 := fine_yes h
  obtain ⟨ht, hs⟩ := hts_of h0
  have TK := task_ok ht
  have hN := TK.facts
  refine And.intro (fun h1 => ?_) fun h1 => ?_
  · exact Exists.intro [] ⟨321001411, [], _, _, .inl rfl, Nat.zero_le _, rfl, rfl⟩
  have h1 := of_decide_eq_false h1
  refine And.intro (fun h2 => ?_) fun h2 => ?_
  · exact Exists.intro [] ⟨321001411, [], _, _, .inl rfl, Nat.zero_le _, rfl, rfl⟩
  have h2 := of_decide_eq_false h2
  rw [List.length_map] at h2
  obtain ⟨k, rfl⟩ : ∃ k : Nat, a = (k : Int) := ⟨a.toNat, by omega⟩
  have hk : k < t.acts.length := by omega
  refine And.intro (by omega) (Exists.intro _ (And.intro (get_map hk) ?_))
  refine SpecP.mono (f56_spec n1 t.acts[k].pn s t.acts[k].pre t.facts.length hs (by omega) []) ?_
  rintro _ _ ⟨rfl, rfl⟩
  refine And.intro (fun h3 => ?_) fun h3 => ?_
  rotate_left
  · exact Exists.intro [] ⟨321001411, [], _, _, .inl rfl, Nat.zero_le _, rfl, rfl⟩
  refine And.intro (by omega) (Exists.intro _ (And.intro (get_map hk) ?_))
  have hmem : t.acts[k] ∈ t.acts := List.getElem_mem hk
  have hE := TK.effs _ hmem
  have hL : (afterL t.facts.length s t.acts[k].effs).length ≤ 1000000000 := by
    have := rising_len (after_rising t.facts.length s t.acts[k].effs) (by omega)
    exact this
  refine SpecP.mono (f76o_spec n1 s t.acts[k] t.facts.length hs (by omega) (TK.lit _ hmem) (by omega) []) ?_
  generalize afterL t.facts.length s t.acts[k].effs = L at hL
  rintro _ _ ⟨σ, hσ, rfl, rfl⟩
  cases L with
  | nil => exact Exists.intro [] ⟨321001411, [], _, _, .inl rfl, Nat.zero_le _, rfl, rfl⟩
  | cons x l =>
    rcases hσ with rfl | rfl
    · exact Exists.intro [321001411] ⟨321001411, x :: l, _, _, .inl rfl, hL, rfl, rfl⟩
    · exact Exists.intro [321001531] ⟨321001531, x :: l, _, _, .inr rfl, hL, rfl, rfl⟩

end Go.Fw

/- The law StepOwn: its end. -/

namespace Go.Fw
open Go Go.Proofs
set_option maxRecDepth 10000

def cxo : Ctx := { cx with frz := [] }
theorem cxo_ok : cxo.OK Try.prog := ⟨cx_ok.mixed, cx_ok.tys, cx_ok.eqs, cx_ok.exts, cx_ok.srt⟩

/-- How many states Execute hands back, and its error. -/
inductive ExK (n1 : Bool) (t : Task) (s p : List Int) : Option Nat → Int → Prop
  | fault (h : fineI t s ≠ 0) : ExK n1 t s p none (fineI t s)
  | arg (h : fineI t s = 0) (h2 : planB t p = false) : ExK n1 t s p none 1
  | ran (h : fineI t s = 0) (h2 : planB t p = true) (k : Nat) (at_ : Int) (hr : Ran t s p k at_) : ExK n1 t s p (some (k + 1)) 0
theorem ExK.two {n1 t s p o e o' e'} (h : ExK n1 t s p o e) (h' : ExK n1 t s p o' e') : o' = o ∧ e' = e := by
  cases h with
  | fault h => cases h' with
    | fault _ => exact ⟨rfl, rfl⟩
    | arg h1 _ => exact absurd h1 h
    | ran h1 => exact absurd h1 h
  | arg h h2 => cases h' with
    | fault h1 => exact absurd h h1
    | arg _ _ => exact ⟨rfl, rfl⟩
    | ran _ h3 => rw [h2] at h3; cases h3
  | ran h h2 k a hr => cases h' with
    | fault h1 => exact absurd h h1
    | arg _ h3 => rw [h2] at h3; cases h3
    | ran _ _ k' a' hr' => obtain ⟨rfl, _⟩ := ran_eq hr hr'; exact ⟨rfl, rfl⟩
theorem ExK.zero {n1 t s p m e} (h : ExK n1 t s p (some m) e) : e = 0 := by
  generalize ho : some m = o at h
  cases h <;> first | rfl | cases ho
theorem ExK.non {n1 t s p e} (h : ExK n1 t s p none e) : e ≠ 0 := by
  generalize ho : (none : Option Nat) = o at h
  cases h with
  | fault h => exact h
  | arg => decide
  | ran => cases ho
/-- The states as they lie. -/
def gV (q : Nat) (o : Option (List GR)) : LV := match o with
  | none => .t (.sl true 0 [])
  | some R => .osl (.cur q) 1 0 R.length
def gO (q : Nat) (o : Option (List GR)) : Fr := match o with
  | none => []
  | some R => [(q, .grid 23 3 1 R)]
theorem ExecG.form {n1 t s p r ro} (h : ExecG n1 t s p r ro) : ∃ (o : Option (List GR)) (c : Int) (g : Bool) (a e : Int), ExK n1 t s p (o.map List.length) e ∧ (∀ R, o = some R → R.length ≤ 10001 ∧ R[0]? = some (rowG n1 s) ∧ ∀ (i : Nat) (x : GR), R[i]? = some x → ∃ (b : Bool) (l : List Int), x = rowG b l ∧ l.length ≤ 1000000000) ∧
    r = .tup [.agg [gV 225000787 o, .int c, .bool g], .int a, .int e] ∧ ro = gO 225000787 o := by
  cases h with
  | fault h => exact ⟨none, _, _, _, _, .fault h, (fun R h => by cases h), rfl, rfl⟩
  | arg h h2 => exact ⟨none, _, _, _, _, .arg h h2, (fun R h => by cases h), rfl, rfl⟩
  | ran h h2 k a hr =>
    have hlen := stGs_len n1 t s p k
    have hk := hr.le
    have hpl : p.length ≤ 10000 := by simp only [planB, Bool.and_eq_true, decide_eq_true_eq] at h2; exact h2.1
    obtain ⟨ht, hs⟩ := hts_of h
    have TK := task_ok ht
    have hN := TK.facts
    refine ⟨some (stGs n1 t s p k), _, _, _, _, by rw [Option.map_some, hlen]; exact .ran h h2 k a hr, fun R h => ?_, rfl, rfl⟩
    cases h
    refine ⟨by omega, stGs_get (Nat.zero_le k), fun i x hx => ?_⟩
    have hi : i < (stGs n1 t s p k).length := (List.getElem?_eq_some_iff.1 hx).1
    rw [stGs_get (by omega)] at hx
    cases hx
    exact ⟨_, _, rfl, rising_len (st_rising (t := t) (p := p) hs i) (by omega)⟩

theorem f43w_spec (t : Task) (n2 : Bool) (p : List Int) (out : List Fr) : SpecP Try.prog 43 [.task t, .ints n2 p] out fun r ro => ∃ (a : Int) (b : Bool) (e : Int), r = .tup [.int a, .bool b, .int e] ∧ ro = [] :=
  (f43_spec t n2 p out).mono fun r ro ⟨h, h2⟩ => by cases h <;> exact ⟨_, _, _, rfl, h2⟩
theorem getJ {l : List Int} {i : Nat} (hi : i < l.length) : (l.map tI)[0 + ((i : Nat) : Int).toNat]? = some [.v (.int .i64 l[i])] := by
  rw [Nat.zero_add, Int.toNat_natCast, List.getElem?_map, List.getElem?_eq_getElem hi]; rfl
theorem setI {l : List Int} {i : Nat} {v : Int} : (l.set i v).map tI = (l.map tI).set (0 + ((i : Nat) : Int).toNat) [.v (.int .i64 v)] := by
  rw [Nat.zero_add, Int.toNat_natCast, List.map_set]; rfl

def kp11 : Kp := [(6, ([1, 2, 3, 7, 8, 9, 10, 12, 48, 49, 50], [24, 56, 288, 304, 80, 570001822])), (9, ([1, 2, 3, 7, 8, 9, 10, 12, 14, 48, 49, 50, 55, 56], [24, 56, 288, 304, 80, 570001822])),
  (14, ([1, 2, 3, 7, 8, 9, 10, 12], [0, 24, 56, 288, 304, 80, 570001822])),
  (16, ([1, 2, 3, 7, 8, 9, 10, 12, 16, 71, 72], [24, 56, 288, 304, 80, 570001822, 537001859])), (20, ([1, 2, 3, 7, 8, 9, 10, 12], [0, 24, 56, 288, 304, 80, 570001822])),
  (23, ([1, 2, 3, 7, 8, 9, 10, 12, 19, 93, 94], [24, 56, 288, 304, 80, 570001822, 1026003526, 1026003646])), (27, ([1, 2, 3, 7, 8, 9, 10, 12], [0, 24, 56, 288, 304, 80, 570001822]))]
def od11 : Od := [(21, [(0, .pure), (1, .pure), (2, .pure), (3, .pure), (4, .pure), (5, .eff), (6, .pure), (7, .pure), (8, .pure), (9, .pure), (10, .pure), (11, .pure), (12, .pure)])]
abbrev rest11 (k : Nat) (env : Env) (st : St) (Q : Exit → Env → St → Prop) : Prop := CutX (fun env st => wpcX cxo Try.prog noY (modH Try.prog) 0 kp11 od11 (tailC k (Try.f11.body.get!)) env st Q) env st
abbrev env11 (n1 n2 : Bool) (s p : List Int) (e : Int) : Env := [(1, .ints n1 s), (2, .ints n2 p), (3, .ptr (.cur 24) 0), (7, .ptr (.cur 56) 0), (8, accV 288 1 (s.map tI)), (9, accV 304 1 (p.map tI)), (10, .ptr (.cur 80) 0), (12, .int e)]
abbrev st11 (t : Task) (s p : List Int) (o : Option (List GR)) (c : Int) (g : Bool) : Fr := (24, .box (cellsTask t)) :: (56, .box (cellsTask (copyT t))) :: (accO 288 3 1 (s.map tI) ++ (accO 304 3 1 (p.map tI) ++ (80, .box [gV 570001822 o, .int c, .bool g]) :: gO 570001822 o))

set_option maxHeartbeats 2000000 in
theorem f11_end (t : Task) (n1 n2 : Bool) (s p : List Int) (hn1 : n1 = true → s = []) (hsl : s.length ≤ 400) (hpl : p.length ≤ 400) (o : Option (List GR)) (c e : Int) (g : Bool) (hE : ExK n1 t s p (o.map List.length) e) (out : List Fr) :
    rest11 8 (env11 n1 n2 s p e) ⟨out, st11 t s p o c g⟩ (retW cxo Try.f11.results.toList fun r ro => r = .bool true ∧ ro = []) := by
  refine CutX.mk ?_
  have m43 := f43w_spec t n2 p
  have m42 := f42g_spec t n1 n2 s p
  have m20 := f20_spec false n1 s s
  have m20p := f20_spec false n2 p p
  have m20n : ∀ l : List Int, l = [] → ∀ n out, SpecP Try.prog 20 [.t (.sl true 0 []), .ints n l] out fun r ro => r = .bool (l == l) ∧ ro = [] := fun l h n out => SpecP.conv (args' := [.ints true l, .ints n l]) (fun β RO w vals hv => ⟨hv.1, fun i z v hz hvz => by
    match i with
    | 0 => simp [h] at hz; subst hz; exact nil_sz _ _ _ _ (hv.2 0 _ v rfl hvz)
    | 1 => exact hv.2 1 z v hz hvz
    | i + 2 => simp at hz⟩) (f20_spec true n l l out)
  rw [beq_self_eq_true s] at m20
  rw [beq_self_eq_true p] at m20p
  cases s
  case' nil => let Sx : List Int := []
  case' cons x0 r0 => let Sx : List Int := x0 :: r0
  all_goals
    cases p
    case' nil => let Px : List Int := []
    case' cons x1 r1 => let Px : List Int := x1 :: r1
    all_goals
      cases o
      case' none => let Ox : Option (List GR) := none
      case' some R => let Ox : Option (List GR) := some R
      all_goals
        refine SpecP.mono (m43 _) ?_
        rintro _ _ ⟨_, _, _, rfl, rfl⟩
        refine SpecP.mono (m42 _) ?_
        intro r ro hP
        obtain ⟨o', c', g', a', e', hE', hR, rfl, rfl⟩ := hP.form
        obtain ⟨ho, rfl⟩ := hE.two hE'
        cases o'
        all_goals
          first
            | (simp at ho; done)
            | skip
        all_goals
          refine SpecP.mono (f48_spec t _) ?_
          rintro _ _ ⟨rfl, rfl⟩
          refine And.intro (fun _ => ?_) fun h => Bool.noConfusion h
          first
            | refine SpecP.mono (m20n [] rfl _ _) ?_
            | (refine Exists.intro _ (And.intro take_all (And.intro (Nat.le_of_eq (Nat.zero_add _)) ?_))
               refine SpecP.mono (m20 _) ?_)
          rintro _ _ ⟨rfl, rfl⟩
          try refine And.intro (by repeat' constructor) (And.intro trivial ?_)
          refine And.intro (fun _ => ?_) fun h => Bool.noConfusion h
          first
            | refine SpecP.mono (m20n [] rfl _ _) ?_
            | (refine Exists.intro _ (And.intro take_all (And.intro (Nat.le_of_eq (Nat.zero_add _)) ?_))
               refine SpecP.mono (m20p _) ?_)
          rintro _ _ ⟨rfl, rfl⟩
          try refine And.intro (by repeat' constructor) (And.intro trivial ?_)
          refine And.intro (fun _ => ?_) fun h => Bool.noConfusion h
          refine And.intro (fun _ => ?_) fun h => Bool.noConfusion (h.symm.trans (beq_self_eq_true _))
          first
            | (have he := hE.zero
               subst he
               have hlen : _ = R.length := Option.some.inj ho
               obtain ⟨hR1, hR2, _⟩ := hR _ rfl
               have hpos := (List.getElem?_eq_some_iff.1 hR2).1
               refine And.intro (fun _ => ?_) fun h => absurd (hlen ▸ rfl) (ne_of_beq_false h)
               refine And.intro (fun h => Bool.noConfusion h) fun _ => ?_
               refine And.intro (fun _ => ?_) fun h => absurd (Int.ofNat_lt.2 hpos) (of_decide_eq_false h)
               refine And.intro (Int.le_refl 0) (And.intro (Int.ofNat_lt.2 hpos) (Exists.intro _ (And.intro hR2 ?_)))
               cases n1)
            | (have he := hE.non
               refine And.intro (fun _ => ?_) fun h => Bool.noConfusion h
               refine And.intro (fun _ => ?_) fun h => absurd (by simpa using h) he)
          all_goals
            first
              | cases hn1 rfl
              | skip
          all_goals
            first
              | (refine SpecP.mono (m20n [] rfl _ _) ?_
                 rintro _ _ ⟨rfl, rfl⟩
                 refine And.intro (fun _ => ?_) fun h => Bool.noConfusion h)
              | (refine Exists.intro _ (And.intro hR2 (Exists.intro _ (And.intro take_all (And.intro (Nat.le_of_eq (Nat.zero_add _)) ?_))))
                 refine SpecP.mono (m20 _) ?_
                 rintro _ _ ⟨rfl, rfl⟩
                 refine And.intro (by repeat' constructor) (And.intro trivial ?_)
                 refine And.intro (fun _ => ?_) fun h => Bool.noConfusion h)
              | skip
            refine SpecP.mono (f38_spec _) ?_
            rintro _ _ ⟨rfl, rfl⟩
            exact And.intro (fun _ => Exists.intro [] (ret_bool rfl rfl)) fun h => Bool.noConfusion h

end Go.Fw

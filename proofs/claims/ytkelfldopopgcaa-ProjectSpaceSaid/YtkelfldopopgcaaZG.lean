/- Heaps. -/
import Derived.Test.YtkelfldopopgcaaZF

/- Heaps of items in lists: what 'up' and 'down' of the standard heap do. -/
namespace Go.Fw.Heap

abbrev Item := Int × Int

def at_ (l : List Item) (j : Nat) : Item := l.getD j (0, 0)
def vl (l : List Item) (j : Nat) : Int := (at_ l j).2
def swapL (l : List Item) (i j : Nat) : List Item := (l.set i (at_ l j)).set j (at_ l i)

theorem at_get {l : List Item} {j : Nat} (h : j < l.length) : l[j]? = some (at_ l j) := by simp [at_, h]
theorem swapL_length (l : List Item) (i j : Nat) : (swapL l i j).length = l.length := by simp [swapL]
theorem at_swap {l : List Item} {i j : Nat} (hi : i < l.length) (hj : j < l.length) (k : Nat) : at_ (swapL l i j) k = if k = j then at_ l i else if k = i then at_ l j else at_ l k := by
  unfold swapL at_
  simp only [List.getD_eq_getElem?_getD, List.getElem?_set]
  by_cases h1 : j = k
  · subst h1; simp [hj]
  · rw [if_neg h1, if_neg (Ne.symm h1)]
    by_cases h2 : i = k
    · subst h2; simp [hi]
    · rw [if_neg h2, if_neg (Ne.symm h2)]
theorem vl_swap {l : List Item} {i j : Nat} (hi : i < l.length) (hj : j < l.length) (k : Nat) : vl (swapL l i j) k = if k = j then vl l i else if k = i then vl l j else vl l k := by
  unfold vl; rw [at_swap hi hj]; split
  · rfl
  · split <;> rfl

theorem swapL_perm {l : List Item} {i j : Nat} (hi : i < l.length) (hj : j < l.length) : (swapL l i j).Perm l := by
  classical
  have key : ∀ (l : List Item) (i : Nat) (x : Item), i < l.length → (l.set i x).Perm (x :: l.eraseIdx i) := by
    intro l
    induction l with
    | nil => intro i x h; simp at h
    | cons y r ih =>
      intro i x h
      cases i with
      | zero => simp
      | succ i =>
        simp only [List.set_cons_succ, List.eraseIdx_cons_succ]
        exact ((ih i x (by simpa using h)).cons y).trans (List.Perm.swap _ _ _)
  by_cases hij : i = j
  · subst hij
    have : swapL l i i = l := by
      unfold swapL at_
      apply List.ext_getElem?
      intro k
      simp only [List.getElem?_set, List.length_set]
      by_cases h : i = k
      · subst h; simp [hi]
      · simp [h]
    rw [this]
  · refine List.perm_iff_count.2 fun a => ?_
    unfold swapL
    have h1 := (key (l.set i (at_ l j)) j (at_ l i) (by simpa using hj)).count_eq a
    have h3 : (l.set i (at_ l j)).Perm (at_ l j :: l.eraseIdx i) := key l i _ hi
    have h4 : l.Perm (at_ l i :: l.eraseIdx i) := by
      have := key l i (at_ l i) hi
      have e : l.set i (at_ l i) = l := by
        apply List.ext_getElem?
        intro k
        simp only [List.getElem?_set, at_]
        by_cases h : i = k
        · subst h; simp [hi]
        · simp [h]
      rwa [e] at this
    have h5 : (l.set i (at_ l j)).Perm (at_ l j :: (l.set i (at_ l j)).eraseIdx j) := by
      have := key (l.set i (at_ l j)) j (at_ l j) (by simpa using hj)
      have e : (l.set i (at_ l j)).set j (at_ l j) = l.set i (at_ l j) := by
        apply List.ext_getElem?
        intro k
        simp only [List.getElem?_set, List.length_set, at_]
        by_cases h : j = k
        · subst h; simp [hj, hij]
        · simp [h]
      rwa [e] at this
    have c3 := h3.count_eq a
    have c4 := h4.count_eq a
    have c5 := h5.count_eq a
    simp only [List.count_cons] at h1 c3 c4 c5 ⊢
    omega

def upL (l : List Item) (j : Nat) : List Item :=
  if _h : j = 0 then l else if vl l j < vl l ((j - 1) / 2) then upL (swapL l ((j - 1) / 2) j) ((j - 1) / 2) else l
termination_by j
decreasing_by omega

def kid (l : List Item) (i n : Nat) : Nat := if 2 * i + 2 < n ∧ vl l (2 * i + 2) < vl l (2 * i + 1) then 2 * i + 2 else 2 * i + 1
theorem kid_gt (l : List Item) (i n : Nat) : i < kid l i n := by unfold kid; split <;> omega
theorem kid_lt {l : List Item} {i n : Nat} (h : 2 * i + 1 < n) : kid l i n < n := by unfold kid; split <;> omega
def downL (l : List Item) (i n : Nat) : List Item :=
  if _h : 2 * i + 1 < n then if vl l (kid l i n) < vl l i then downL (swapL l i (kid l i n)) (kid l i n) n else l else l
termination_by n - i
decreasing_by have := kid_gt l i n; have := kid_lt (l := l) ‹2 * i + 1 < n›; omega

def HP (l : List Item) (n : Nat) : Prop := ∀ j, 0 < j → j < n → vl l ((j - 1) / 2) ≤ vl l j

theorem up_spec : ∀ (j : Nat) (l : List Item), j < l.length → (upL l j).Perm l ∧ (upL l j).length = l.length ∧
    ((∀ k, 0 < k → k < l.length → k ≠ j → vl l ((k - 1) / 2) ≤ vl l k) → (∀ k, 0 < k → k < l.length → (k - 1) / 2 = j → 0 < j → vl l ((j - 1) / 2) ≤ vl l k) → HP (upL l j) l.length) := by
  intro j
  induction j using Nat.strongRecOn with
  | _ j ih =>
  intro l hj
  unfold upL
  split
  · rename_i h0
    subst h0
    exact ⟨.refl _, rfl, fun h1 _ k hk hl => h1 k hk hl (by omega)⟩
  · rename_i h0
    split
    · rename_i hlt
      have hp : (j - 1) / 2 < l.length := by omega
      obtain ⟨a, b, c⟩ := ih ((j - 1) / 2) (by omega) (swapL l ((j - 1) / 2) j) (by rw [swapL_length]; exact hp)
      rw [swapL_length] at b c
      refine ⟨a.trans (swapL_perm hp hj), b, fun h1 h2 => c ?_ ?_⟩
      · intro k hk hl hne
        rw [vl_swap hp hj, vl_swap hp hj]
        by_cases e1 : k = j
        · subst e1
          rw [if_neg (by omega), if_pos rfl, if_pos rfl]; omega
        · rw [if_neg e1, if_neg hne]
          by_cases e2 : (k - 1) / 2 = j
          · rw [if_pos e2]; exact h2 k hk hl e2 (by omega)
          · rw [if_neg e2]
            by_cases e3 : (k - 1) / 2 = (j - 1) / 2
            · rw [if_pos e3]
              have := h1 k hk hl e1
              rw [e3] at this; omega
            · rw [if_neg e3]; exact h1 k hk hl e1
      · intro k hk hl he h0'
        rw [vl_swap hp hj, vl_swap hp hj]
        rw [if_neg (by omega), if_neg (by omega)]
        have hpp := h1 ((j - 1) / 2) h0' hp (by omega)
        by_cases e1 : k = j
        · rw [if_pos e1]; exact hpp
        · rw [if_neg e1]
          by_cases e2 : k = (j - 1) / 2
          · omega
          · rw [if_neg e2]
            have := h1 k hk hl e1
            rw [he] at this; omega
    · rename_i hge
      refine ⟨.refl _, rfl, fun h1 _ k hk hl => ?_⟩
      by_cases e : k = j
      · subst e; omega
      · exact h1 k hk hl e

theorem down_spec : ∀ (d : Nat) (n i : Nat) (l : List Item), n - i = d → n ≤ l.length → i < l.length → (downL l i n).Perm l ∧ (downL l i n).length = l.length ∧ (∀ k, n ≤ k → at_ (downL l i n) k = at_ l k) ∧
    ((∀ k, 0 < k → k < n → (k - 1) / 2 ≠ i → vl l ((k - 1) / 2) ≤ vl l k) → (∀ k, 0 < k → k < n → (k - 1) / 2 = i → 0 < i → vl l ((i - 1) / 2) ≤ vl l k) → HP (downL l i n) n) := by
  intro d
  induction d using Nat.strongRecOn with
  | _ d ih =>
  intro n i l hd hn hi
  unfold downL
  split
  · rename_i h0
    have hkn := kid_lt (l := l) h0
    have hki := kid_gt l i n
    have hkp : (kid l i n - 1) / 2 = i := by unfold kid; split <;> omega
    have hkl : kid l i n < l.length := by omega
    have hmin : ∀ k, 0 < k → k < n → (k - 1) / 2 = i → vl l (kid l i n) ≤ vl l k := by
      intro k hk hl he
      have : k = 2 * i + 1 ∨ k = 2 * i + 2 := by omega
      unfold kid
      split
      · rename_i h
        rcases this with rfl | rfl
        · omega
        · exact Int.le_refl _
      · rename_i h
        rcases this with rfl | rfl
        · exact Int.le_refl _
        · by_cases h3 : vl l (2 * i + 2) < vl l (2 * i + 1)
          · exact absurd ⟨hl, h3⟩ h
          · omega
    split
    · rename_i hlt
      obtain ⟨a, b, c, e⟩ := ih (n - kid l i n) (by omega) n (kid l i n) (swapL l i (kid l i n)) rfl (by rw [swapL_length]; exact hn) (by rw [swapL_length]; exact hkl)
      rw [swapL_length] at b
      refine ⟨a.trans (swapL_perm hi hkl), b, fun k hk => ?_, fun h1 h2 => e ?_ ?_⟩
      · rw [c k hk, at_swap hi hkl, if_neg (by omega), if_neg (by omega)]
      · intro k hk hl hne
        rw [vl_swap hi hkl, vl_swap hi hkl]
        rw [if_neg hne]
        by_cases e1 : k = kid l i n
        · rw [if_pos e1, if_pos (by omega)]; omega
        · rw [if_neg e1]
          by_cases e2 : (k - 1) / 2 = i
          · rw [if_pos e2, if_neg (by omega)]; exact hmin k hk hl e2
          · rw [if_neg e2]
            by_cases e3 : k = i
            · rw [if_pos e3, e3]
              exact h2 _ (by omega) hkn hkp (by omega)
            · rw [if_neg e3]; exact h1 k hk hl e2
      · intro k hk hl he h0'
        rw [vl_swap hi hkl, vl_swap hi hkl]
        rw [hkp, if_neg (by omega), if_pos rfl, if_neg (by omega), if_neg (by omega)]
        have := h1 k hk hl (by omega)
        rw [he] at this; exact this
    · rename_i hge
      refine ⟨.refl _, rfl, fun _ _ => rfl, fun h1 h2 k hk hl => ?_⟩
      by_cases e : (k - 1) / 2 = i
      · have := hmin k hk hl e; rw [e]; omega
      · exact h1 k hk hl e
  · rename_i h0
    exact ⟨.refl _, rfl, fun _ _ => rfl, fun h1 h2 k hk hl => h1 k hk hl (by omega)⟩

theorem HP.root {l : List Item} {n : Nat} (h : HP l n) : ∀ j, j < n → vl l 0 ≤ vl l j := by
  intro j
  induction j using Nat.strongRecOn with
  | _ j ih =>
  intro hj
  by_cases h0 : j = 0
  · subst h0; exact Int.le_refl _
  · have := ih ((j - 1) / 2) (by omega) (by omega)
    have := h j (by omega) hj
    omega

/-- What 'Push' leaves. -/
def pushL (l : List Item) (x : Item) : List Item := upL (l ++ [x]) l.length
theorem push_spec {l : List Item} {x : Item} (h : HP l l.length) : (pushL l x).Perm (x :: l) ∧ (pushL l x).length = l.length + 1 ∧ HP (pushL l x) (pushL l x).length := by
  obtain ⟨a, b, c⟩ := up_spec l.length (l ++ [x]) (by simp)
  have hv : ∀ k, k < l.length → vl (l ++ [x]) k = vl l k := fun k hk => by simp [vl, at_, List.getElem?_append_left hk]
  have hp : (pushL l x).Perm (x :: l) := a.trans List.perm_append_comm
  have hl : (pushL l x).length = l.length + 1 := b.trans (by simp)
  refine ⟨hp, hl, ?_⟩
  rw [hl]
  have := c (fun k hk hl hne => ?_) (fun k hk hl he h0 => ?_)
  · rw [List.length_append, List.length_singleton] at this; exact this
  · simp only [List.length_append, List.length_singleton] at hl
    rw [hv _ (by omega), hv _ (by omega)]; exact h k hk (by omega)
  · simp only [List.length_append, List.length_singleton] at hl; omega

/-- What 'Pop' leaves in the row ahead of the last step: the least item is the last one. -/
def popL (l : List Item) : List Item := downL (swapL l 0 (l.length - 1)) 0 (l.length - 1)
theorem pop_spec {l : List Item} (h : HP l l.length) (h0 : 0 < l.length) : (popL l).length = l.length ∧ at_ (popL l) (l.length - 1) = at_ l 0 ∧
    l.Perm (at_ l 0 :: (popL l).take (l.length - 1)) ∧ HP ((popL l).take (l.length - 1)) (l.length - 1) ∧ ∀ x ∈ l, (at_ l 0).2 ≤ x.2 := by
  have hs : l.length - 1 < l.length := by omega
  obtain ⟨a, b, c, d⟩ := down_spec _ (l.length - 1) 0 (swapL l 0 (l.length - 1)) rfl (by rw [swapL_length]; omega) (by rw [swapL_length]; exact h0)
  rw [swapL_length] at b
  have hlast : at_ (popL l) (l.length - 1) = at_ l 0 := by
    unfold popL
    rw [c _ (Nat.le_refl _), at_swap h0 hs, if_pos rfl]
  have hlen : (popL l).length = l.length := b
  have hperm : (popL l).Perm l := a.trans (swapL_perm h0 hs)
  have hsplit : popL l = (popL l).take (l.length - 1) ++ [at_ l 0] := by
    apply List.ext_getElem?
    intro k
    by_cases hk : k < l.length - 1
    · rw [List.getElem?_append_left (by simp [hlen]; omega), List.getElem?_take, if_pos hk]
    · rw [List.getElem?_append_right (by simp [hlen]; omega)]
      simp only [List.length_take, hlen]
      by_cases hk2 : k = l.length - 1
      · subst hk2
        rw [Nat.min_eq_left (by omega), Nat.sub_self, at_get (by omega), hlast]; rfl
      · rw [List.getElem?_eq_none (by omega), List.getElem?_eq_none (by simp; omega)]
  refine ⟨hlen, hlast, ?_, ?_, ?_⟩
  · refine hperm.symm.trans ?_
    conv => lhs; rw [hsplit]
    exact List.perm_append_comm
  · have hd : HP (popL l) (l.length - 1) := d (fun k hk hl hne => ?_) (fun k hk hl he h => absurd h (Nat.lt_irrefl 0))
    · intro k hk hl
      have e : ∀ k, k < l.length - 1 → vl ((popL l).take (l.length - 1)) k = vl (popL l) k := fun k hk => by simp [vl, at_, hk]
      rw [e _ hl, e _ (by omega)]; exact hd k hk hl
    · rw [vl_swap h0 hs, vl_swap h0 hs, if_neg (by omega), if_neg (by omega), if_neg (by omega), if_neg (by omega)]
      exact h k hk (by omega)
  · intro x hx
    obtain ⟨j, hj, rfl⟩ := List.getElem_of_mem hx
    have := h.root j hj
    simpa [vl, at_, hj] using this

end Go.Fw.Heap

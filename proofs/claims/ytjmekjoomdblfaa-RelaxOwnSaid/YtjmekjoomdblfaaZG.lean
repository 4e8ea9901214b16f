/- Heaps; estimates: the least solution. -/
import Derived.Test.YtjmekjoomdblfaaZF

/- Heaps of items in lists: what 'up' and 'down' of the standard heap do. -/
namespace Go.Fw.Heap

abbrev Item := Int × Int

def at_ (l : List Item) (j : Nat) : Item := l.getD j (0, 0)
def vl (l : List Item) (j : Nat) : Int := (at_ l j).2
def swapL (l : List Item) (i j : Nat) : List Item := (l.set i (at_ l j)).set j (at_ l i)

theorem at_get {l : List Item} {j : Nat} (h : j < l.length) : l[j]? = some (at_ l j) := by simp [at_, h]
theorem swapL_length (l : List Item) (i j : Nat) : (swapL l i j).length = l.length := by simp [swapL]
theorem at_swap {l : List Item} {i j : Nat} (hi : i < l.length) (hj : j < l.length) (k : Nat) : at_ (swapL l i j) k = if k = j then at_ l i else if k = i then at_ l j else at_ l k := by
  unfold swapL at_
  simp only [List.getD_eq_getElem?_getD, List.getElem?_set]
  by_cases h1 : j = k
  · subst h1; simp [hj]
  · rw [if_neg h1, if_neg (Ne.symm h1)]
    by_cases h2 : i = k
    · subst h2; simp [hi]
    · rw [if_neg h2, if_neg (Ne.symm h2)]
theorem vl_swap {l : List Item} {i j : Nat} (hi : i < l.length) (hj : j < l.length) (k : Nat) : vl (swapL l i j) k = if k = j then vl l i else if k = i then vl l j else vl l k := by
  unfold vl; rw [at_swap hi hj]; split
  · rfl
  · split <;> rfl

theorem swapL_perm {l : List Item} {i j : Nat} (hi : i < l.length) (hj : j < l.length) : (swapL l i j).Perm l := by
  classical
  have key : ∀ (l : List Item) (i : Nat) (x : Item), i < l.length → (l.set i x).Perm (x :: l.eraseIdx i) := by
    intro l
    induction l with
    | nil => intro i x h; simp at h
    | cons y r ih =>
      intro i x h
      cases i with
      | zero => simp
      | succ i =>
        simp only [List.set_cons_succ, List.eraseIdx_cons_succ]
        exact ((ih i x (by simpa using h)).cons y).trans (List.Perm.swap _ _ _)
  by_cases hij : i = j
  · subst hij
    have : swapL l i i = l := by
      unfold swapL at_
      apply List.ext_getElem?
      intro k
      simp only [List.getElem?_set, List.length_set]
      by_cases h : i = k
      · subst h; simp [hi]
      · simp [h]
    rw [this]
  · refine List.perm_iff_count.2 fun a => ?_
    unfold swapL
    have h1 := (key (l.set i (at_ l j)) j (at_ l i) (by simpa using hj)).count_eq a
    have h3 : (l.set i (at_ l j)).Perm (at_ l j :: l.eraseIdx i) := key l i _ hi
    have h4 : l.Perm (at_ l i :: l.eraseIdx i) := by
      have := key l i (at_ l i) hi
      have e : l.set i (at_ l i) = l := by
        apply List.ext_getElem?
        intro k
        simp only [List.getElem?_set, at_]
        by_cases h : i = k
        · subst h; simp [hi]
        · simp [h]
      rwa [e] at this
    have h5 : (l.set i (at_ l j)).Perm (at_ l j :: (l.set i (at_ l j)).eraseIdx j) := by
      have := key (l.set i (at_ l j)) j (at_ l j) (by simpa using hj)
      have e : (l.set i (at_ l j)).set j (at_ l j) = l.set i (at_ l j) := by
        apply List.ext_getElem?
        intro k
        simp only [List.getElem?_set, List.length_set, at_]
        by_cases h : j = k
        · subst h; simp [hj, hij]
        · simp [h]
      rwa [e] at this
    have c3 := h3.count_eq a
    have c4 := h4.count_eq a
    have c5 := h5.count_eq a
    simp only [List.count_cons] at h1 c3 c4 c5 ⊢
    omega

def upL (l : List Item) (j : Nat) : List Item :=
  if _h : j = 0 then l else if vl l j < vl l ((j - 1) / 2) then upL (swapL l ((j - 1) / 2) j) ((j - 1) / 2) else l
termination_by j
decreasing_by omega

def kid (l : List Item) (i n : Nat) : Nat := if 2 * i + 2 < n ∧ vl l (2 * i + 2) < vl l (2 * i + 1) then 2 * i + 2 else 2 * i + 1
theorem kid_gt (l : List Item) (i n : Nat) : i < kid l i n := by unfold kid; split <;> omega
theorem kid_lt {l : List Item} {i n : Nat} (h : 2 * i + 1 < n) : kid l i n < n := by unfold kid; split <;> omega
def downL (l : List Item) (i n : Nat) : List Item :=
  if _h : 2 * i + 1 < n then if vl l (kid l i n) < vl l i then downL (swapL l i (kid l i n)) (kid l i n) n else l else l
termination_by n - i
decreasing_by have := kid_gt l i n; have := kid_lt (l := l) ‹2 * i + 1 < n›; omega

def HP (l : List Item) (n : Nat) : Prop := ∀ j, 0 < j → j < n → vl l ((j - 1) / 2) ≤ vl l j

theorem up_spec : ∀ (j : Nat) (l : List Item), j < l.length → (upL l j).Perm l ∧ (upL l j).length = l.length ∧
    ((∀ k, 0 < k → k < l.length → k ≠ j → vl l ((k - 1) / 2) ≤ vl l k) → (∀ k, 0 < k → k < l.length → (k - 1) / 2 = j → 0 < j → vl l ((j - 1) / 2) ≤ vl l k) → HP (upL l j) l.length) := by
  intro j
  induction j using Nat.strongRecOn with
  | _ j ih =>
  intro l hj
  unfold upL
  split
  · rename_i h0
    subst h0
    exact ⟨.refl _, rfl, fun h1 _ k hk hl => h1 k hk hl (by omega)⟩
  · rename_i h0
    split
    · rename_i hlt
      have hp : (j - 1) / 2 < l.length := by omega
      obtain ⟨a, b, c⟩ := ih ((j - 1) / 2) (by omega) (swapL l ((j - 1) / 2) j) (by rw [swapL_length]; exact hp)
      rw [swapL_length] at b c
      refine ⟨a.trans (swapL_perm hp hj), b, fun h1 h2 => c ?_ ?_⟩
      · intro k hk hl hne
        rw [vl_swap hp hj, vl_swap hp hj]
        by_cases e1 : k = j
        · subst e1
          rw [if_neg (by omega), if_pos rfl, if_pos rfl]; omega
        · rw [if_neg e1, if_neg hne]
          by_cases e2 : (k - 1) / 2 = j
          · rw [if_pos e2]; exact h2 k hk hl e2 (by omega)
          · rw [if_neg e2]
            by_cases e3 : (k - 1) / 2 = (j - 1) / 2
            · rw [if_pos e3]
              have := h1 k hk hl e1
              rw [e3] at this; omega
            · rw [if_neg e3]; exact h1 k hk hl e1
      · intro k hk hl he h0'
        rw [vl_swap hp hj, vl_swap hp hj]
        rw [if_neg (by omega), if_neg (by omega)]
        have hpp := h1 ((j - 1) / 2) h0' hp (by omega)
        by_cases e1 : k = j
        · rw [if_pos e1]; exact hpp
        · rw [if_neg e1]
          by_cases e2 : k = (j - 1) / 2
          · omega
          · rw [if_neg e2]
            have := h1 k hk hl e1
            rw [he] at this; omega
    · rename_i hge
      refine ⟨.refl _, rfl, fun h1 _ k hk hl => ?_⟩
      by_cases e : k = j
      · subst e; omega
      · exact h1 k hk hl e

theorem down_spec : ∀ (d : Nat) (n i : Nat) (l : List Item), n - i = d → n ≤ l.length → i < l.length → (downL l i n).Perm l ∧ (downL l i n).length = l.length ∧ (∀ k, n ≤ k → at_ (downL l i n) k = at_ l k) ∧
    ((∀ k, 0 < k → k < n → (k - 1) / 2 ≠ i → vl l ((k - 1) / 2) ≤ vl l k) → (∀ k, 0 < k → k < n → (k - 1) / 2 = i → 0 < i → vl l ((i - 1) / 2) ≤ vl l k) → HP (downL l i n) n) := by
  intro d
  induction d using Nat.strongRecOn with
  | _ d ih =>
  intro n i l hd hn hi
  unfold downL
  split
  · rename_i h0
    have hkn := kid_lt (l := l) h0
    have hki := kid_gt l i n
    have hkp : (kid l i n - 1) / 2 = i := by unfold kid; split <;> omega
    have hkl : kid l i n < l.length := by omega
    have hmin : ∀ k, 0 < k → k < n → (k - 1) / 2 = i → vl l (kid l i n) ≤ vl l k := by
      intro k hk hl he
      have : k = 2 * i + 1 ∨ k = 2 * i + 2 := by omega
      unfold kid
      split
      · rename_i h
        rcases this with rfl | rfl
        · omega
        · exact Int.le_refl _
      · rename_i h
        rcases this with rfl | rfl
        · exact Int.le_refl _
        · by_cases h3 : vl l (2 * i + 2) < vl l (2 * i + 1)
          · exact absurd ⟨hl, h3⟩ h
          · omega
    split
    · rename_i hlt
      obtain ⟨a, b, c, e⟩ := ih (n - kid l i n) (by omega) n (kid l i n) (swapL l i (kid l i n)) rfl (by rw [swapL_length]; exact hn) (by rw [swapL_length]; exact hkl)
      rw [swapL_length] at b
      refine ⟨a.trans (swapL_perm hi hkl), b, fun k hk => ?_, fun h1 h2 => e ?_ ?_⟩
      · rw [c k hk, at_swap hi hkl, if_neg (by omega), if_neg (by omega)]
      · intro k hk hl hne
        rw [vl_swap hi hkl, vl_swap hi hkl]
        rw [if_neg hne]
        by_cases e1 : k = kid l i n
        · rw [if_pos e1, if_pos (by omega)]; omega
        · rw [if_neg e1]
          by_cases e2 : (k - 1) / 2 = i
          · rw [if_pos e2, if_neg (by omega)]; exact hmin k hk hl e2
          · rw [if_neg e2]
            by_cases e3 : k = i
            · rw [if_pos e3, e3]
              exact h2 _ (by omega) hkn hkp (by omega)
            · rw [if_neg e3]; exact h1 k hk hl e2
      · intro k hk hl he h0'
        rw [vl_swap hi hkl, vl_swap hi hkl]
        rw [hkp, if_neg (by omega), if_pos rfl, if_neg (by omega), if_neg (by omega)]
        have := h1 k hk hl (by omega)
        rw [he] at this; exact this
    · rename_i hge
      refine ⟨.refl _, rfl, fun _ _ => rfl, fun h1 h2 k hk hl => ?_⟩
      by_cases e : (k - 1) / 2 = i
      · have := hmin k hk hl e; rw [e]; omega
      · exact h1 k hk hl e
  · rename_i h0
    exact ⟨.refl _, rfl, fun _ _ => rfl, fun h1 h2 k hk hl => h1 k hk hl (by omega)⟩

theorem HP.root {l : List Item} {n : Nat} (h : HP l n) : ∀ j, j < n → vl l 0 ≤ vl l j := by
  intro j
  induction j using Nat.strongRecOn with
  | _ j ih =>
  intro hj
  by_cases h0 : j = 0
  · subst h0; exact Int.le_refl _
  · have := ih ((j - 1) / 2) (by omega) (by omega)
    have := h j (by omega) hj
    omega

/-- What 'Push' leaves. -/
def pushL (l : List Item) (x : Item) : List Item := upL (l ++ [x]) l.length
theorem push_spec {l : List Item} {x : Item} (h : HP l l.length) : (pushL l x).Perm (x :: l) ∧ (pushL l x).length = l.length + 1 ∧ HP (pushL l x) (pushL l x).length := by
  obtain ⟨a, b, c⟩ := up_spec l.length (l ++ [x]) (by simp)
  have hv : ∀ k, k < l.length → vl (l ++ [x]) k = vl l k := fun k hk => by simp [vl, at_, List.getElem?_append_left hk]
  have hp : (pushL l x).Perm (x :: l) := a.trans List.perm_append_comm
  have hl : (pushL l x).length = l.length + 1 := b.trans (by simp)
  refine ⟨hp, hl, ?_⟩
  rw [hl]
  have := c (fun k hk hl hne => ?_) (fun k hk hl he h0 => ?_)
  · rw [List.length_append, List.length_singleton] at this; exact this
  · simp only [List.length_append, List.length_singleton] at hl
    rw [hv _ (by omega), hv _ (by omega)]; exact h k hk (by omega)
  · simp only [List.length_append, List.length_singleton] at hl; omega

/-- What 'Pop' leaves in the row ahead of the last step: the least item is the last one. -/
def popL (l : List Item) : List Item := downL (swapL l 0 (l.length - 1)) 0 (l.length - 1)
theorem pop_spec {l : List Item} (h : HP l l.length) (h0 : 0 < l.length) : (popL l).length = l.length ∧ at_ (popL l) (l.length - 1) = at_ l 0 ∧
    l.Perm (at_ l 0 :: (popL l).take (l.length - 1)) ∧ HP ((popL l).take (l.length - 1)) (l.length - 1) ∧ ∀ x ∈ l, (at_ l 0).2 ≤ x.2 := by
  have hs : l.length - 1 < l.length := by omega
  obtain ⟨a, b, c, d⟩ := down_spec _ (l.length - 1) 0 (swapL l 0 (l.length - 1)) rfl (by rw [swapL_length]; omega) (by rw [swapL_length]; exact h0)
  rw [swapL_length] at b
  have hlast : at_ (popL l) (l.length - 1) = at_ l 0 := by
    unfold popL
    rw [c _ (Nat.le_refl _), at_swap h0 hs, if_pos rfl]
  have hlen : (popL l).length = l.length := b
  have hperm : (popL l).Perm l := a.trans (swapL_perm h0 hs)
  have hsplit : popL l = (popL l).take (l.length - 1) ++ [at_ l 0] := by
    apply List.ext_getElem?
    intro k
    by_cases hk : k < l.length - 1
    · rw [List.getElem?_append_left (by simp [hlen]; omega), List.getElem?_take, if_pos hk]
    · rw [List.getElem?_append_right (by simp [hlen]; omega)]
      simp only [List.length_take, hlen]
      by_cases hk2 : k = l.length - 1
      · subst hk2
        rw [Nat.min_eq_left (by omega), Nat.sub_self, at_get (by omega), hlast]; rfl
      · rw [List.getElem?_eq_none (by omega), List.getElem?_eq_none (by simp; omega)]
  refine ⟨hlen, hlast, ?_, ?_, ?_⟩
  · refine hperm.symm.trans ?_
    conv => lhs; rw [hsplit]
    exact List.perm_append_comm
  · have hd : HP (popL l) (l.length - 1) := d (fun k hk hl hne => ?_) (fun k hk hl he h => absurd h (Nat.lt_irrefl 0))
    · intro k hk hl
      have e : ∀ k, k < l.length - 1 → vl ((popL l).take (l.length - 1)) k = vl (popL l) k := fun k hk => by simp [vl, at_, hk]
      rw [e _ hl, e _ (by omega)]; exact hd k hk hl
    · rw [vl_swap h0 hs, vl_swap h0 hs, if_neg (by omega), if_neg (by omega), if_neg (by omega), if_neg (by omega)]
      exact h k hk (by omega)
  · intro x hx
    obtain ⟨j, hj, rfl⟩ := List.getElem_of_mem hx
    have := h.root j hj
    simpa [vl, at_, hj] using this

end Go.Fw.Heap

/- Estimates: the least solution, that it is unique; how it is closed up. -/
namespace Go.Fw
open Go

/-- What a sum counts as at most. -/
def farI : Int := 1099511627777

/-- The estimate of a literal; below 0: not reached. -/
def ev (e : List Int) (k : Nat) : Int := e.getD k (-1)
def pos (n : Int) : Int := if 0 ≤ n then n else 0

/-- What some literals are worth together; those without a value count as nothing. -/
def comb (add : Bool) (e : List Int) : List Nat → Int
  | [] => 0
  | x :: r => if add then min farI (pos (ev e x) + comb add e r) else max (pos (ev e x)) (comb add e r)

structure Rule where
  act : Nat
  to : Nat
  frm : List Nat
  cost : Int

/-- The task, as far as estimates look at it. -/
structure EP where
  n : Nat
  holds : Nat → Bool
  rules : List Rule
structure EP.OK (P : EP) : Prop where
  to : ∀ r ∈ P.rules, r.to < P.n
  frm : ∀ r ∈ P.rules, ∀ x ∈ r.frm, x < P.n
  nodup : ∀ r ∈ P.rules, r.frm.Nodup
  cost : ∀ r ∈ P.rules, 0 ≤ r.cost ∧ r.cost ≤ 100000

def got (e : List Int) (l : List Nat) : Prop := ∀ x ∈ l, 0 ≤ ev e x
def rval (add : Bool) (e : List Int) (r : Rule) : Int := min farI (comb add e r.frm + r.cost)

/-- Nothing can be made less by one rule. -/
structure PF (P : EP) (add : Bool) (e : List Int) : Prop where
  ini : ∀ k, k < P.n → P.holds k = true → 0 ≤ ev e k ∧ ev e k ≤ 0
  rul : ∀ r ∈ P.rules, got e r.frm → 0 ≤ ev e r.to ∧ ev e r.to ≤ rval add e r

/-- A value that no solution is above. -/
def Jus (P : EP) (add : Bool) (k : Nat) (v : Int) : Prop := ∀ p, PF P add p → 0 ≤ ev p k ∧ ev p k ≤ v
structure IsE (P : EP) (add : Bool) (e : List Int) : Prop where
  len : e.length = P.n
  low : ∀ k, -1 ≤ ev e k
  pf : PF P add e
  jus : ∀ k, 0 ≤ ev e k → Jus P add k (ev e k)

theorem IsE.unique {P : EP} {add : Bool} {e e' : List Int} (h : IsE P add e) (h' : IsE P add e') : e = e' := by
  refine List.ext_getElem (by rw [h.len, h'.len]) fun k hk hk' => ?_
  have e1 : ev e k = e[k] := by simp [ev, hk]
  have e2 : ev e' k = e'[k] := by simp [ev, hk']
  rw [← e1, ← e2]
  have l1 := h.low k
  have l2 := h'.low k
  by_cases h0 : 0 ≤ ev e k
  · obtain ⟨a, b⟩ := h.jus k h0 e' h'.pf
    obtain ⟨c, d⟩ := h'.jus k a e h.pf
    omega
  · by_cases h1 : 0 ≤ ev e' k
    · have := (h'.jus k h1 e h.pf).1; omega
    · omega

theorem pos_of {n : Int} (h : 0 ≤ n) : pos n = n := if_pos h
theorem pos_nonneg (n : Int) : 0 ≤ pos n := by unfold pos; split <;> omega
theorem comb_nonneg (add : Bool) (e : List Int) : ∀ l : List Nat, 0 ≤ comb add e l
  | [] => Int.le_refl _
  | x :: r => by
    have := comb_nonneg add e r
    have := pos_nonneg (ev e x)
    unfold comb farI
    split <;> omega
theorem comb_le_far {add : Bool} {e : List Int} (he : ∀ k, ev e k ≤ farI) : ∀ l : List Nat, comb add e l ≤ farI
  | [] => by unfold comb farI; omega
  | x :: r => by
    have := comb_le_far (add := add) he r
    have h1 := he x
    have h2 : pos (ev e x) ≤ farI := by unfold pos; split <;> (unfold farI at *; omega)
    unfold comb
    split <;> omega
theorem comb_mono {add : Bool} {p e : List Int} : ∀ {l : List Nat}, (∀ x ∈ l, pos (ev p x) ≤ pos (ev e x)) → comb add p l ≤ comb add e l
  | [], _ => Int.le_refl _
  | x :: r, h => by
    have h1 := h x (List.mem_cons_self ..)
    have h2 := comb_mono (add := add) (l := r) fun y hy => h y (List.mem_cons_of_mem _ hy)
    unfold comb
    split <;> omega
theorem comb_ge {add : Bool} {e : List Int} {x : Nat} (hx : ev e x ≤ farI) : ∀ {l : List Nat}, x ∈ l → ev e x ≤ comb add e l
  | y :: r, h => by
    have hn := comb_nonneg add e r
    have hp := pos_nonneg (ev e y)
    have hxx : ev e x ≤ pos (ev e x) := by unfold pos; split <;> omega
    rcases List.mem_cons.1 h with rfl | h
    · unfold comb; split <;> omega
    · have := comb_ge (add := add) hx h
      unfold comb; split <;> omega
theorem comb_congr {add : Bool} {p e : List Int} {l : List Nat} (h : ∀ x ∈ l, ev p x = ev e x) : comb add p l = comb add e l :=
  Int.le_antisymm (comb_mono fun x hx => by rw [h x hx]; exact Int.le_refl _) (comb_mono fun x hx => by rw [h x hx]; exact Int.le_refl _)

theorem Jus.rule {P : EP} {add : Bool} {e : List Int} {r : Rule} (hr : r ∈ P.rules) (hj : ∀ x ∈ r.frm, 0 ≤ ev e x ∧ Jus P add x (ev e x)) : Jus P add r.to (rval add e r) := by
  intro p hp
  have hg : got p r.frm := fun x hx => ((hj x hx).2 p hp).1
  obtain ⟨h1, h2⟩ := hp.rul r hr hg
  refine ⟨h1, Int.le_trans h2 ?_⟩
  have := comb_mono (add := add) (p := p) (e := e) (l := r.frm) fun x hx => by
    have h3 := (hj x hx).2 p hp
    rw [pos_of h3.1, pos_of (hj x hx).1]; exact h3.2
  unfold rval; omega
theorem Jus.ini {P : EP} {add : Bool} {k : Nat} (hk : k < P.n) (h : P.holds k = true) : Jus P add k 0 := fun _ hp => hp.ini k hk h
theorem Jus.le {P : EP} {add : Bool} {k : Nat} {v u : Int} (h : Jus P add k v) (hvu : v ≤ u) : Jus P add k u := fun p hp => ⟨(h p hp).1, Int.le_trans (h p hp).2 hvu⟩
theorem rval_nonneg {P : EP} (hP : P.OK) {add : Bool} {e : List Int} {r : Rule} (hr : r ∈ P.rules) : 0 ≤ rval add e r := by
  have := comb_nonneg add e r.frm
  have := (hP.cost r hr).1
  unfold rval farI; omega
theorem rval_le (add : Bool) (e : List Int) (r : Rule) : rval add e r ≤ farI := by unfold rval; omega

/-! ### One more value -/
theorem ev_set {e : List Int} {i k : Nat} {v : Int} (hi : i < e.length) : ev (e.set i v) k = if i = k then v else ev e k := by
  unfold ev
  simp only [List.getD_eq_getElem?_getD, List.getElem?_set]
  by_cases h : i = k
  · subst h; simp [hi]
  · simp [h]
theorem comb_set {add : Bool} {e : List Int} {i : Nat} {v : Int} (hi : i < e.length) (hv : 0 ≤ v) (h0 : ev e i < 0) : ∀ {l : List Nat}, l.Nodup → i ∈ l → comb add (e.set i v) l = if add then min farI (comb add e l + v) else max (comb add e l) v
  | x :: r, hn, hm => by
    have hp0 : pos (ev e i) = 0 := by unfold pos; rw [if_neg (by omega)]
    have hs : pos (ev (e.set i v) i) = v := by rw [ev_set hi, if_pos rfl, pos_of hv]
    have hcn := comb_nonneg add e r
    have hpx := pos_nonneg (ev e x)
    obtain ⟨h1, h2⟩ := List.nodup_cons.1 hn
    rcases List.mem_cons.1 hm with rfl | hm2
    · have hrest : comb add (e.set i v) r = comb add e r := comb_congr fun y hy => by
        rw [ev_set hi, if_neg]; rintro rfl; exact h1 hy
      unfold comb
      rw [hs, hrest, hp0]
      cases add <;> simp <;> omega
    · have ih := comb_set (add := add) hi hv h0 h2 hm2
      have hx : ev (e.set i v) x = ev e x := by
        rw [ev_set hi, if_neg]; intro he; exact h1 (he ▸ hm2)
      unfold comb
      rw [hx, ih]
      cases add <;> simp <;> omega

/-- How many literals still lack a value. -/
def lack (e : List Int) (l : List Nat) : Nat := l.countP fun x => decide (ev e x < 0)
theorem lack_set {e : List Int} {i : Nat} {v : Int} (hi : i < e.length) (hv : 0 ≤ v) (h0 : ev e i < 0) : ∀ {l : List Nat}, l.Nodup → i ∈ l → lack (e.set i v) l + 1 = lack e l
  | x :: r, hn, hm => by
    obtain ⟨h1, h2⟩ := List.nodup_cons.1 hn
    unfold lack
    rw [List.countP_cons, List.countP_cons]
    rcases List.mem_cons.1 hm with rfl | hm2
    · have hrest : List.countP (fun x => decide (ev (e.set i v) x < 0)) r = List.countP (fun x => decide (ev e x < 0)) r := List.countP_congr fun y hy => by
        rw [ev_set hi, if_neg]; rintro rfl; exact h1 hy
      rw [hrest, ev_set hi, if_pos rfl]
      simp [h0]; omega
    · have ih := lack_set hi hv h0 h2 hm2
      unfold lack at ih
      have hx : ev (e.set i v) x = ev e x := by
        rw [ev_set hi, if_neg]; intro he; exact h1 (he ▸ hm2)
      rw [hx]; omega
theorem lack_other {e : List Int} {i : Nat} {v : Int} (hi : i < e.length) {l : List Nat} (h : i ∉ l) : lack (e.set i v) l = lack e l := List.countP_congr fun y hy => by
  rw [ev_set hi, if_neg]; rintro rfl; exact h hy
theorem comb_other {add : Bool} {e : List Int} {i : Nat} {v : Int} (hi : i < e.length) {l : List Nat} (h : i ∉ l) : comb add (e.set i v) l = comb add e l := comb_congr fun y hy => by
  rw [ev_set hi, if_neg]; rintro rfl; exact h hy
theorem lack_zero {e : List Int} {l : List Nat} : lack e l = 0 ↔ got e l := by
  unfold lack got
  rw [List.countP_eq_zero]
  constructor
  · intro h x hx; have := h x hx; simpa using this
  · intro h x hx; have := h x hx; simpa using this

end Go.Fw

/- Estimates: the search by a heap finds the least solution. -/
namespace Go.Fw
open Go Heap

structure Dj where
  v : List Int
  by_ : List Int
  best : List Int
  order : List Int
  op : List Int
  sm : List Int
  q : List Heap.Item

def offerB (d : Dj) (k : Nat) (u : Int) : Bool := decide (ev d.v k < 0) && (decide (ev d.best k < 0) || decide (u < ev d.best k))
def offer (d : Dj) (k : Nat) (u b : Int) : Dj := match offerB d k u with
  | true => { d with best := d.best.set k u, by_ := d.by_.set k b, q := pushL d.q ((k : Int), u) }
  | false => d

def Tgt (d : Dj) (k : Nat) (u : Int) : Prop := (0 ≤ ev d.v k ∧ ev d.v k ≤ u) ∨ (ev d.v k < 0 ∧ 0 ≤ ev d.best k ∧ ev d.best k ≤ u)
def Why (P : EP) (b : Int) (k : Nat) (l : List Int) : Prop := (b = -1 ∧ P.holds k = true) ∨ ∃ (i : Nat) (r : Rule), P.rules[i]? = some r ∧ b = (i : Int) ∧ r.to = k ∧ ∀ x ∈ r.frm, ((x : Nat) : Int) ∈ l

structure Inv (P : EP) (add : Bool) (m : Int) (vs : Nat → List Int) (pr : Nat → Prop) (d : Dj) : Prop where
  lv : d.v.length = P.n
  lby : d.by_.length = P.n
  lb : d.best.length = P.n
  lop : d.op.length = P.rules.length
  lsm : d.sm.length = P.rules.length
  m0 : 0 ≤ m
  low : ∀ k, -1 ≤ ev d.v k ∧ ev d.v k ≤ farI
  vm : ∀ k, 0 ≤ ev d.v k → ev d.v k ≤ m ∧ Jus P add k (ev d.v k)
  lowB : ∀ k, -1 ≤ ev d.best k ∧ ev d.best k ≤ farI
  q1 : ∀ x ∈ d.q, ∃ k : Nat, x.1 = (k : Int) ∧ k < P.n ∧ m ≤ x.2 ∧ x.2 ≤ farI ∧ Jus P add k x.2 ∧ 0 ≤ ev d.best k
  q2 : ∀ k, 0 ≤ ev d.best k → ev d.v k < 0 → ((k : Int), ev d.best k) ∈ d.q
  hp : HP d.q d.q.length
  cnt : ∀ (i : Nat) (r : Rule), P.rules[i]? = some r → pr i → d.op[i]? = some ((lack (vs i) r.frm : Nat) : Int) ∧ d.sm[i]? = some (comb add (vs i) r.frm)
  fired : ∀ (i : Nat) (r : Rule), P.rules[i]? = some r → pr i → lack (vs i) r.frm = 0 → Tgt d r.to (rval add (vs i) r)
  b1 : ∀ (j : Nat) (x : Int), d.order[j]? = some x → ∃ k : Nat, x = (k : Int) ∧ k < P.n ∧ Why P (ev d.by_ k) k (d.order.take j)
  b2 : ∀ k, ev d.v k < 0 → 0 ≤ ev d.best k → Why P (ev d.by_ k) k d.order
  b3 : ∀ k : Nat, ((k : Int) ∈ d.order ↔ 0 ≤ ev d.v k)
  nd : d.order.Nodup

theorem Why.mono {P : EP} {b : Int} {k : Nat} {l l' : List Int} (h : Why P b k l) (hl : ∀ x ∈ l, x ∈ l') : Why P b k l' := by
  rcases h with h | ⟨i, r, h1, h2, h3, h4⟩
  · exact .inl h
  · exact .inr ⟨i, r, h1, h2, h3, fun x hx => hl _ (h4 x hx)⟩

section
variable {P : EP} {add : Bool} {m : Int} {vs : Nat → List Int} {pr : Nat → Prop} {d : Dj}

theorem ev_lt {e : List Int} {k : Nat} (h : 0 ≤ ev e k) : k < e.length := by
  rcases Nat.lt_or_ge k e.length with h' | h'
  · exact h'
  · unfold ev at h; rw [List.getD_eq_getElem?_getD, List.getElem?_eq_none h'] at h; simp at h

theorem offer_v (d : Dj) (k : Nat) (u b : Int) : (offer d k u b).v = d.v ∧ (offer d k u b).order = d.order ∧ (offer d k u b).op = d.op ∧ (offer d k u b).sm = d.sm := by
  unfold offer; split <;> exact ⟨rfl, rfl, rfl, rfl⟩

theorem offer_inv (h : Inv P add m vs pr d) {k : Nat} {u b : Int} (hk : k < P.n) (hj : Jus P add k u) (hm : m ≤ u) (hu : u ≤ farI) (hw : Why P b k d.order) :
    Inv P add m vs pr (offer d k u b) ∧ Tgt (offer d k u b) k u ∧ ∀ j x, Tgt d j x → Tgt (offer d k u b) j x := by
  have h0 : 0 ≤ u := Int.le_trans h.m0 hm
  have hkb : k < d.best.length := by rw [h.lb]; exact hk
  have hky : k < d.by_.length := by rw [h.lby]; exact hk
  cases hb : offerB d k u with
  | false =>
    have e : offer d k u b = d := by unfold offer; rw [hb]
    rw [e]
    refine ⟨h, ?_, fun _ _ h => h⟩
    by_cases hv : ev d.v k < 0
    · right
      simp only [offerB, hv, decide_true, Bool.true_and, Bool.or_eq_false_iff, decide_eq_false_iff_not] at hb
      exact ⟨hv, by omega, by omega⟩
    · left
      have := (h.vm k (by omega)).1
      exact ⟨by omega, by omega⟩
  | true =>
    have e : offer d k u b = { d with best := d.best.set k u, by_ := d.by_.set k b, q := pushL d.q ((k : Int), u) } := by unfold offer; rw [hb]
    rw [e]
    simp only [offerB, Bool.and_eq_true, Bool.or_eq_true, decide_eq_true_eq] at hb
    obtain ⟨hv, hbb⟩ := hb
    obtain ⟨p1, p2, p3⟩ := push_spec (x := ((k : Int), u)) h.hp
    have hbs : ∀ j, ev (d.best.set k u) j = if k = j then u else ev d.best j := fun j => ev_set hkb
    have hys : ∀ j, ev (d.by_.set k b) j = if k = j then b else ev d.by_ j := fun j => ev_set hky
    have htg : ∀ j x, Tgt d j x → Tgt { d with best := d.best.set k u, by_ := d.by_.set k b, q := pushL d.q ((k : Int), u) } j x := by
      intro j x ht
      rcases ht with ht | ⟨h1, h2, h3⟩
      · exact .inl ht
      · right
        refine ⟨h1, ?_⟩
        simp only [hbs]
        split
        · rename_i he; subst he; omega
        · exact ⟨h2, h3⟩
    refine ⟨⟨h.lv, by simpa using h.lby, by simpa using h.lb, h.lop, h.lsm, h.m0, h.low, h.vm, fun j => ?_, fun x hx => ?_, fun j h1 h2 => ?_, p3, h.cnt, fun i r hi hpr hl => htg _ _ (h.fired i r hi hpr hl), fun j x hx => ?_, fun j h1 h2 => ?_, h.b3, h.nd⟩, ?_, htg⟩
    · simp only [hbs]
      split
      · omega
      · exact h.lowB j
    · rcases List.mem_cons.1 (p1.mem_iff.1 hx) with rfl | hx
      · exact ⟨k, rfl, hk, hm, hu, hj, by simp only [hbs, if_true]; exact h0⟩
      · obtain ⟨j, g1, g2, g3, g4, g5, g6⟩ := h.q1 x hx
        refine ⟨j, g1, g2, g3, g4, g5, ?_⟩
        simp only [hbs]
        split
        · exact h0
        · exact g6
    · simp only [hbs] at h1 ⊢
      refine p1.mem_iff.2 ?_
      split
      · rename_i he; subst he; exact List.mem_cons_self ..
      · rename_i he
        rw [if_neg he] at h1
        exact List.mem_cons_of_mem _ (h.q2 j h1 h2)
    · obtain ⟨j', g1, g2, g3⟩ := h.b1 j x hx
      refine ⟨j', g1, g2, ?_⟩
      simp only [hys]
      rw [if_neg]
      · exact g3
      · intro he
        subst he
        have := (h.b3 k).1 (g1 ▸ List.mem_of_getElem? hx)
        omega
    · simp only [hbs, hys] at h1 h2 ⊢
      split
      · rename_i he; subst he; exact hw
      · rename_i he
        rw [if_neg he] at h2
        exact h.b2 j h1 h2
    · right
      have := hbs k
      rw [if_pos rfl] at this
      exact ⟨hv, by rw [show ev _ k = u from this]; exact h0, by rw [show ev _ k = u from this]; exact Int.le_refl _⟩

/-- The number of literals without a value, and what is together, of a rule, are written anew. -/
def upd (d : Dj) (i : Nat) (o s : Int) : Dj := { d with op := d.op.set i o, sm := d.sm.set i s }

theorem upd_inv (h : Inv P add m vs pr d) {i : Nat} {r : Rule} {e : List Int} (hi : P.rules[i]? = some r) (hlack : lack e r.frm ≠ 0) :
    Inv P add m (fun j => if j = i then e else vs j) (fun j => j = i ∨ pr j) (upd d i ((lack e r.frm : Nat) : Int) (comb add e r.frm)) := by
  have hlt : i < P.rules.length := (List.getElem?_eq_some_iff.1 hi).1
  refine ⟨h.lv, h.lby, h.lb, by simpa [upd] using h.lop, by simpa [upd] using h.lsm, h.m0, h.low, h.vm, h.lowB, h.q1, h.q2, h.hp, fun j r' hj hp => ?_, fun j r' hj hp hl => ?_, h.b1, h.b2, h.b3, h.nd⟩
  · simp only [upd, List.getElem?_set]
    by_cases he : i = j
    · subst he
      rw [hi] at hj; cases hj
      simp [h.lop, h.lsm, hlt]
    · rw [if_neg he, if_neg he, if_neg (Ne.symm he)]
      rcases hp with hp | hp
      · exact absurd hp.symm he
      · exact h.cnt j r' hj hp
  · by_cases he : i = j
    · subst he
      rw [hi] at hj; cases hj
      simp only [if_true] at hl
      exact absurd hl hlack
    · rw [if_neg (Ne.symm he)] at hl ⊢
      rcases hp with hp | hp
      · exact absurd hp.symm he
      · exact h.fired j r' hj hp hl

/-- A rule all of whose literals have a value offers its own. -/
theorem fire_inv (hP : P.OK) (h : Inv P add m vs pr d) {i : Nat} {r : Rule} {e : List Int} (hi : P.rules[i]? = some r) (hlack : lack e r.frm = 0) (he : ∀ x ∈ r.frm, ev e x = ev d.v x) (hm : m ≤ rval add e r) :
    Inv P add m (fun j => if j = i then e else vs j) (fun j => j = i ∨ pr j) (offer (upd d i 0 (comb add e r.frm)) r.to (rval add e r) (i : Int)) := by
  have hlt : i < P.rules.length := (List.getElem?_eq_some_iff.1 hi).1
  have hr : r ∈ P.rules := List.mem_of_getElem? hi
  have hgot := lack_zero.1 hlack
  have hfin : ∀ x ∈ r.frm, 0 ≤ ev e x ∧ Jus P add x (ev e x) := fun x hx => by
    have := hgot x hx
    refine ⟨this, ?_⟩
    rw [he x hx] at this ⊢
    exact (h.vm x this).2
  -- ahead of the offer the rule is not yet held to be done
  have h1 : Inv P add m vs (fun j => j ≠ i ∧ pr j) (upd d i 0 (comb add e r.frm)) := by
    refine ⟨h.lv, h.lby, h.lb, by simpa [upd] using h.lop, by simpa [upd] using h.lsm, h.m0, h.low, h.vm, h.lowB, h.q1, h.q2, h.hp, fun j r' hj hp => ?_, fun j r' hj hp hl => h.fired j r' hj hp.2 hl, h.b1, h.b2, h.b3, h.nd⟩
    simp only [upd, List.getElem?_set]
    rw [if_neg (Ne.symm hp.1), if_neg (Ne.symm hp.1)]
    exact h.cnt j r' hj hp.2
  have hw : Why P (i : Int) r.to (upd d i 0 (comb add e r.frm)).order := .inr ⟨i, r, hi, rfl, rfl, fun x hx => (h.b3 x).2 (by rw [← he x hx]; exact hgot x hx)⟩
  obtain ⟨h2, h3, h4⟩ := offer_inv h1 (hP.to r hr) (Jus.rule hr hfin) hm (rval_le ..) hw
  obtain ⟨_, _, e3, e4⟩ := offer_v (upd d i 0 (comb add e r.frm)) r.to (rval add e r) (i : Int)
  refine ⟨h2.lv, h2.lby, h2.lb, h2.lop, h2.lsm, h2.m0, h2.low, h2.vm, h2.lowB, h2.q1, h2.q2, h2.hp, fun j r' hj hp => ?_, fun j r' hj hp hl => ?_, h2.b1, h2.b2, h2.b3, h2.nd⟩
  · by_cases hij : j = i
    · subst hij
      rw [hi] at hj; cases hj
      rw [e3, e4]
      simp only [upd, if_true, hlack]
      simp [h.lop, h.lsm, hlt]
    · rw [if_neg hij]
      rcases hp with hp | hp
      · exact absurd hp hij
      · exact h2.cnt j r' hj ⟨hij, hp⟩
  · by_cases hij : j = i
    · subst hij
      rw [hi] at hj; cases hj
      rw [if_pos rfl]; exact h3
    · rw [if_neg hij] at hl ⊢
      rcases hp with hp | hp
      · exact absurd hp hij
      · exact h2.fired j r' hj ⟨hij, hp⟩ hl

/-- The least item is taken: it has come late. -/
theorem pop_late (h : Inv P add m vs pr d) {q' : List Heap.Item} {x : Heap.Item} (hp : d.q.Perm (x :: q')) (hq : HP q' q'.length) (hx : ∀ y ∈ d.q, x.2 ≤ y.2) {k : Nat} (hk : x.1 = (k : Int)) (hv : 0 ≤ ev d.v k) :
    Inv P add x.2 vs pr { d with q := q' } := by
  have hxm : x ∈ d.q := hp.mem_iff.2 (List.mem_cons_self ..)
  have hmx : m ≤ x.2 := by obtain ⟨_, _, _, g, _⟩ := h.q1 x hxm; exact g
  refine ⟨h.lv, h.lby, h.lb, h.lop, h.lsm, Int.le_trans h.m0 hmx, h.low, fun j hj => ⟨Int.le_trans (h.vm j hj).1 hmx, (h.vm j hj).2⟩, h.lowB, fun y hy => ?_, fun j h1 h2 => ?_, hq, h.cnt, h.fired, h.b1, h.b2, h.b3, h.nd⟩
  · have hyq : y ∈ d.q := hp.mem_iff.2 (List.mem_cons_of_mem _ hy)
    obtain ⟨j, g1, g2, g3, g4, g5, g6⟩ := h.q1 y hyq
    exact ⟨j, g1, g2, hx y hyq, g4, g5, g6⟩
  · rcases List.mem_cons.1 (hp.mem_iff.1 (h.q2 j h1 h2)) with he | hm
    · exfalso
      have : x.1 = (j : Int) := by rw [← he]
      rw [hk] at this
      have : k = j := by omega
      subst this; exact absurd hv (Int.not_le.2 h2)
    · exact hm

/-- The least item is taken: a literal has its value. -/
theorem pop_new (h : Inv P add m vs pr d) {q' : List Heap.Item} {x : Heap.Item} (hp : d.q.Perm (x :: q')) (hq : HP q' q'.length) (hx : ∀ y ∈ d.q, x.2 ≤ y.2) {k : Nat} (hk : x.1 = (k : Int)) (hv : ev d.v k < 0)
    (hvs : ∀ i, vs i = d.v) :
    Inv P add x.2 (fun i => match P.rules[i]? with | some r => if k ∈ r.frm then d.v else d.v.set k x.2 | none => d.v) pr { d with q := q', v := d.v.set k x.2, order := d.order ++ [(k : Int)] } := by
  have hxm : x ∈ d.q := hp.mem_iff.2 (List.mem_cons_self ..)
  obtain ⟨k', g1, g2, g3, g4, g5, g6⟩ := h.q1 x hxm
  have : k' = k := by rw [hk] at g1; omega
  subst this
  have hkl : k' < d.v.length := by rw [h.lv]; exact g2
  have hs : ∀ j, ev (d.v.set k' x.2) j = if k' = j then x.2 else ev d.v j := fun j => ev_set hkl
  have h0 : 0 ≤ x.2 := Int.le_trans h.m0 g3
  have htg : ∀ j u, Tgt d j u → Tgt { d with q := q', v := d.v.set k' x.2, order := d.order ++ [(k' : Int)] } j u := by
    intro j u ht
    unfold Tgt
    simp only [hs]
    by_cases he : k' = j
    · subst he
      left
      rw [if_pos rfl]
      rcases ht with ⟨h1, _⟩ | ⟨_, h2, h3⟩
      · omega
      · have := hx _ (h.q2 k' h2 hv)
        simp only at this
        exact ⟨h0, by omega⟩
    · rw [if_neg he]; exact ht
  refine ⟨by simpa using h.lv, h.lby, h.lb, h.lop, h.lsm, h0, fun j => ?_, fun j hj => ?_, h.lowB, fun y hy => ?_, fun j h1 h2 => ?_, hq, fun i r hi hpr => ?_, fun i r hi hpr hl => ?_, fun j y hy => ?_, fun j h1 h2 => ?_, fun j => ?_, ?_⟩
  · simp only [hs]
    split
    · omega
    · exact h.low j
  · simp only [hs] at hj ⊢
    split
    · rename_i he; subst he; exact ⟨Int.le_refl _, g5⟩
    · rename_i he
      rw [if_neg he] at hj
      exact ⟨Int.le_trans (h.vm j hj).1 g3, (h.vm j hj).2⟩
  · have hyq : y ∈ d.q := hp.mem_iff.2 (List.mem_cons_of_mem _ hy)
    obtain ⟨j, f1, f2, f3, f4, f5, f6⟩ := h.q1 y hyq
    exact ⟨j, f1, f2, hx y hyq, f4, f5, f6⟩
  · simp only [hs] at h2
    by_cases he : k' = j
    · subst he; rw [if_pos rfl] at h2; omega
    · rw [if_neg he] at h2
      rcases List.mem_cons.1 (hp.mem_iff.1 (h.q2 j h1 h2)) with he2 | hm
      · exfalso
        have : x.1 = (j : Int) := by rw [← he2]
        rw [hk] at this; omega
      · exact hm
  · obtain ⟨c1, c2⟩ := h.cnt i r hi hpr
    rw [hvs] at c1 c2
    simp only [hi]
    split
    · exact ⟨c1, c2⟩
    · rename_i hno
      rw [lack_other hkl hno, comb_other hkl hno]; exact ⟨c1, c2⟩
  · simp only [hi] at hl ⊢
    have hf := h.fired i r hi hpr
    rw [hvs] at hf
    split at hl
    · rename_i hin
      have := lack_zero.1 hl k' hin
      omega
    · rename_i hno
      rw [lack_other hkl hno] at hl
      have := htg _ _ (hf hl)
      unfold rval at this ⊢
      rw [if_neg hno, comb_other hkl hno]; exact this
  · simp only [List.getElem?_append] at hy
    split at hy
    · rename_i hlt
      obtain ⟨j', f1, f2, f3⟩ := h.b1 j y hy
      exact ⟨j', f1, f2, by rw [List.take_append_of_le_length (by omega)]; exact f3⟩
    · rename_i hge
      have hj : j = d.order.length := by
        rcases Nat.lt_or_ge (j - d.order.length) 1 with h' | h'
        · omega
        · rw [List.getElem?_eq_none (by simpa using h')] at hy; cases hy
      subst hj
      simp at hy
      refine ⟨k', hy.symm, g2, ?_⟩
      rw [List.take_append_of_le_length (Nat.le_refl _), List.take_length]
      exact h.b2 k' hv g6
  · simp only [hs] at h1
    by_cases he : k' = j
    · subst he; rw [if_pos rfl] at h1; omega
    · rw [if_neg he] at h1
      exact (h.b2 j h1 h2).mono fun y hy => List.mem_append_left _ hy
  · simp only [hs, List.mem_append, List.mem_singleton]
    rw [h.b3 j]
    by_cases he : k' = j
    · subst he; rw [if_pos rfl]; constructor
      · intro _; exact h0
      · intro _; exact .inr rfl
    · rw [if_neg he]
      constructor
      · rintro (h | h)
        · exact h
        · omega
      · exact .inl
  · rw [List.nodup_append]
    refine ⟨h.nd, by simp, ?_⟩
    intro a ha b hb hab
    simp at hb
    subst hb; subst hab
    have := (h.b3 k').1 ha
    omega

/-- The rules that wait for a literal, of the first ones. -/
def waitsOf (P : EP) (n : Nat) (k : Nat) : List Nat := (List.range n).filter fun i => match P.rules[i]? with
  | some r => r.frm.contains k
  | none => false
theorem mem_waitsOf {n k i : Nat} : i ∈ waitsOf P n k ↔ i < n ∧ ∃ r, P.rules[i]? = some r ∧ k ∈ r.frm := by
  unfold waitsOf
  rw [List.mem_filter, List.mem_range]
  cases h : P.rules[i]? with
  | none => simp
  | some r => simp

/-- Where nothing is left, the values are the estimates. -/
theorem end_isE (h : Inv P add m vs (fun _ => True) d) (hq : d.q = []) (hvs : ∀ i, vs i = d.v) (hini : ∀ k, k < P.n → P.holds k = true → Tgt d k 0) : IsE P add d.v := by
  have hno : ∀ j u, Tgt d j u → 0 ≤ ev d.v j ∧ ev d.v j ≤ u := by
    intro j u ht
    rcases ht with ht | ⟨h1, h2, _⟩
    · exact ht
    · have := h.q2 j h2 h1
      rw [hq] at this; cases this
  refine ⟨h.lv, fun k => (h.low k).1, ⟨fun k hk hh => hno k 0 (hini k hk hh), fun r hr hg => ?_⟩, fun k hk => (h.vm k hk).2⟩
  obtain ⟨i, hi⟩ := List.mem_iff_getElem?.1 hr
  have := h.fired i r hi trivial (by rw [hvs]; exact lack_zero.2 hg)
  rw [hvs] at this
  exact hno _ _ this

end
end Go.Fw

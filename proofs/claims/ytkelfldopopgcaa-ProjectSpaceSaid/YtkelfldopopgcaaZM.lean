/- Cheapest ways; what the search keeps. -/
import Derived.Test.YtkelfldopopgcaaZG
import Derived.Test.YtkelfldopopgcaaZL

/- Cheapest ways in graphs: what a search with a queue keeps, and what it ends with. -/
namespace Go.Fw.Dij
open Go.Fw.Heap Go.Fw

variable {α : Type} {E : α → List (Int × α)}

/-- A way and what it costs. -/
inductive Pth (E : α → List (Int × α)) : α → Int → α → Prop
  | nil (s : α) : Pth E s 0 s
  | cons {s s' s'' : α} {c d : Int} (h : (c, s') ∈ E s) (p : Pth E s' d s'') : Pth E s (c + d) s''

theorem Pth.snoc {s s' s'' : α} {d c : Int} (p : Pth E s d s') (h : (c, s'') ∈ E s') : Pth E s (d + c) s'' := by
  induction p with
  | nil s => have := Pth.cons h (.nil s''); rwa [Int.add_comm] at this
  | cons h0 _ ih => have := Pth.cons h0 (ih h); rwa [← Int.add_assoc] at this
theorem Pth.trans {s s' s'' : α} {d c : Int} (p : Pth E s d s') (q : Pth E s' c s'') : Pth E s (d + c) s'' := by
  induction p with
  | nil s => rwa [Int.zero_add]
  | cons h0 _ ih => have := Pth.cons h0 (ih q); rwa [← Int.add_assoc] at this
theorem Pth.nonneg (hc : ∀ s, ∀ e ∈ E s, 0 ≤ e.1) {s s' : α} {d : Int} (p : Pth E s d s') : 0 ≤ d := by
  induction p with
  | nil s => exact Int.le_refl 0
  | cons h0 _ ih => have := hc _ _ h0; simp only at this; omega

/-- The nodes that are reached from one are listed, each once. -/
structure Whole (E : α → List (Int × α)) (s0 : α) (S : List α) : Prop where
  nodup : S.Nodup
  root : s0 ∈ S
  reach : ∀ s ∈ S, ∃ d, Pth E s0 d s
  closed : ∀ s ∈ S, ∀ e ∈ E s, e.2 ∈ S

theorem Whole.mem {s0 : α} {S : List α} (h : Whole E s0 S) {s : α} {d : Int} (p : Pth E s0 d s) : s ∈ S := by
  have : ∀ {a b : α} {d : Int}, Pth E a d b → a ∈ S → b ∈ S := by
    intro a b d p
    induction p with
    | nil s => exact id
    | cons h0 _ ih => exact fun ha => ih (h.closed _ ha _ h0)
  exact this p h.root
theorem Whole.perm {s0 : α} {S S' : List α} (h : Whole E s0 S) (h' : Whole E s0 S') : S.Perm S' := by
  classical
  refine (List.perm_ext_iff_of_nodup h.nodup h'.nodup).2 fun s => ⟨fun hs => ?_, fun hs => ?_⟩
  · obtain ⟨d, p⟩ := h.reach s hs; exact h'.mem p
  · obtain ⟨d, p⟩ := h'.reach s hs; exact h.mem p
theorem nodup_sub {S S' : List α} (hS : S.Nodup) (h : ∀ s ∈ S, s ∈ S') : S.length ≤ S'.length := by
  classical
  induction S generalizing S' with
  | nil => exact Nat.zero_le _
  | cons x r ih =>
    obtain ⟨h1, h2⟩ := List.nodup_cons.1 hS
    have hx := h x (List.mem_cons_self ..)
    have := ih (S' := S'.erase x) h2 fun s hs => by
      have hne : s ≠ x := by rintro rfl; exact h1 hs
      exact (List.mem_erase_of_ne hne).2 (h s (List.mem_cons_of_mem _ hs))
    rw [List.length_erase_of_mem hx] at this
    have := List.length_pos_of_mem hx
    simp only [List.length_cons]; omega
theorem Whole.most {s0 : α} {S S' : List α} (h : Whole E s0 S) (hn : S'.Nodup) (hr : ∀ s ∈ S', ∃ d, Pth E s0 d s) : S'.length ≤ S.length :=
  nodup_sub hn fun s hs => let ⟨_, p⟩ := hr s hs; h.mem p

/-- The least cost of a way to a goal. -/
def Opt (E : α → List (Int × α)) (goal : α → Bool) (s0 : α) (c : Int) : Prop := (∃ s, goal s = true ∧ Pth E s0 c s) ∧ ∀ s d, goal s = true → Pth E s0 d s → c ≤ d
theorem Opt.uniq {goal : α → Bool} {s0 : α} {c c' : Int} (h : Opt E goal s0 c) (h' : Opt E goal s0 c') : c = c' := by
  obtain ⟨⟨s, g, p⟩, m⟩ := h
  obtain ⟨⟨s', g', p'⟩, m'⟩ := h'
  have := m _ _ g' p'; have := m' _ _ g p; omega

/-- What the search keeps: nodes S with what they are known to cost F, the queue Q, the nodes that are done, the last cost m, the best cost. -/
structure Inv (E : α → List (Int × α)) (goal : α → Bool) (C : Int) (s0 : α) (i0 : Option Nat) (ed : List (Int × α)) (S : List α) (F : List Int) (Q : List Heap.Item) (dn : List Nat) (m best : Int) : Prop where
  nodup : S.Nodup
  len : F.length = S.length
  root : S[0]? = some s0
  root0 : F[0]? = some 0
  real : ∀ (i : Nat) (s : α) (f : Int), S[i]? = some s → F[i]? = some f → Pth E s0 f s
  qok : ∀ x ∈ Q, ∃ (n : Nat) (f : Int), x.1 = n ∧ F[n]? = some f ∧ f ≤ x.2 ∧ m ≤ x.2 ∧ x.2 ≤ C * dn.length ∧ (n ∈ dn → f < x.2)
  qnd : Q.Nodup
  cover : ∀ (i : Nat) (f : Int), F[i]? = some f → i ∈ dn ∨ ((i : Int), f) ∈ Q
  dnlt : ∀ i ∈ dn, ∃ f, F[i]? = some f ∧ f ≤ m
  dnnd : dn.Nodup
  closed : ∀ i ∈ dn, ∀ (s : α) (f : Int), S[i]? = some s → F[i]? = some f → ∀ e ∈ (if some i = i0 then ed else E s), ∃ (j : Nat) (g : Int), S[j]? = some e.2 ∧ F[j]? = some g ∧ g ≤ f + e.1
  small : ∀ f ∈ F, f ≤ C * dn.length
  mpos : 0 ≤ m
  best : (best = -1 ∧ ∀ (i : Nat) (s : α), S[i]? = some s → goal s = true → i ∉ dn) ∨
    (0 ≤ best ∧ best ≤ m ∧ (∃ s, goal s = true ∧ Pth E s0 best s) ∧ ∀ (i : Nat) (s : α) (f : Int), S[i]? = some s → F[i]? = some f → goal s = true → best ≤ f)

section
variable {goal : α → Bool} {C : Int} {s0 : α} {i0 : Option Nat} {ed : List (Int × α)} {S : List α} {F : List Int} {Q Q' : List Heap.Item} {dn : List Nat} {m best : Int}

theorem Inv.perm (h : Inv E goal C s0 i0 ed S F Q dn m best) (p : Q.Perm Q') : Inv E goal C s0 i0 ed S F Q' dn m best :=
  { h with
    qok := fun x hx => h.qok x (p.mem_iff.2 hx)
    qnd := p.nodup_iff.1 h.qnd
    cover := fun i f hf => (h.cover i f hf).imp id p.mem_iff.1 }

theorem Inv.start : Inv E goal C s0 none [] [s0] [0] [(0, 0)] [] 0 (-1) where
  nodup := by simp
  len := rfl
  root := rfl
  root0 := rfl
  real := fun i s f hs hf => by
    cases i with
    | zero => simp at hs hf; subst hs; subst hf; exact .nil _
    | succ i => simp at hs
  qok := fun x hx => by simp at hx; subst hx; exact ⟨0, 0, rfl, rfl, Int.le_refl _, Int.le_refl _, by simp, fun h => by simp at h⟩
  qnd := by simp
  cover := fun i f hf => by
    cases i with
    | zero => simp at hf; subst hf; exact .inr (by simp)
    | succ i => simp at hf
  dnlt := fun i hi => by simp at hi
  dnnd := by simp
  closed := fun i hi => by simp at hi
  small := fun f hf => by simp at hf; subst hf; simp
  mpos := Int.le_refl _
  best := .inl ⟨rfl, fun i s _ _ h => by simp at h⟩

/-- An item that says more than is known is dropped. -/
theorem Inv.stale {x : Heap.Item} (h : Inv E goal C s0 none ed S F (x :: Q) dn m best) (hm : ∀ y ∈ Q, x.2 ≤ y.2) {n : Nat} {f : Int} (hn : x.1 = n) (hf : F[n]? = some f) (hlt : f < x.2) : Inv E goal C s0 none ed S F Q dn x.2 best := by
  obtain ⟨n', f', e1, e2, e3, e4, e5, e6⟩ := h.qok x (List.mem_cons_self ..)
  refine { h with
    qok := fun y hy => ?_
    qnd := (List.nodup_cons.1 h.qnd).2
    cover := fun i g hg => ?_
    dnlt := fun i hi => ?_
    mpos := Int.le_trans h.mpos e4
    best := ?_ }
  · obtain ⟨k, g, a1, a2, a3, a4, a5, a6⟩ := h.qok y (List.mem_cons_of_mem _ hy)
    exact ⟨k, g, a1, a2, a3, hm y hy, a5, a6⟩
  · rcases h.cover i g hg with h1 | h1
    · exact .inl h1
    · rcases List.mem_cons.1 h1 with h1 | h1
      · exfalso
        rw [← h1] at hn hlt
        simp only at hn hlt
        have : i = n := by omega
        subst this
        rw [hf] at hg; cases hg; omega
      · exact .inr h1
  · obtain ⟨g, a1, a2⟩ := h.dnlt i hi
    exact ⟨g, a1, Int.le_trans a2 e4⟩
  · rcases h.best with h1 | ⟨h1, h2, h3⟩
    · exact .inl h1
    · exact .inr ⟨h1, Int.le_trans h2 e4, h3⟩

/-- A node is taken out of the queue. -/
theorem Inv.live {x : Heap.Item} (hC : 0 ≤ C) (h : Inv E goal C s0 none ed S F (x :: Q) dn m best) (hm : ∀ y ∈ Q, x.2 ≤ y.2) {n : Nat} {f : Int} {s : α} (hn : x.1 = n) (hs : S[n]? = some s) (hf : F[n]? = some f) (hge : ¬ f < x.2) :
    f = x.2 ∧ n ∉ dn ∧ x.2 ≤ C * dn.length ∧ Inv E goal C s0 (some n) [] S F Q (n :: dn) x.2 (if best < 0 ∧ goal s = true then x.2 else best) := by
  obtain ⟨n', f', e1, e2, e3, e4, e5, e6⟩ := h.qok x (List.mem_cons_self ..)
  have hnn : n' = n := by omega
  subst hnn
  rw [hf] at e2
  cases e2
  have hfx : f = x.2 := by omega
  have hnd : n' ∉ dn := fun hd => by have := e6 hd; omega
  have hx : x = ((n' : Int), f) := by rw [← hn, hfx]
  have hnq : x ∉ Q := (List.nodup_cons.1 h.qnd).1
  have hle : C * dn.length ≤ C * ((n' :: dn).length : Nat) := Int.mul_le_mul_of_nonneg_left (by simp; omega) hC
  refine ⟨hfx, hnd, e5, { h with
    qok := fun y hy => ?_
    qnd := (List.nodup_cons.1 h.qnd).2
    cover := fun i g hg => ?_
    dnlt := fun i hi => ?_
    dnnd := List.nodup_cons.2 ⟨hnd, h.dnnd⟩
    closed := fun i hi s f h1 h2 e he => ?_
    small := fun f hf => Int.le_trans (h.small f hf) hle
    mpos := Int.le_trans h.mpos e4
    best := ?_ }⟩
  · obtain ⟨k, g, a1, a2, a3, a4, a5, a6⟩ := h.qok y (List.mem_cons_of_mem _ hy)
    refine ⟨k, g, a1, a2, a3, hm y hy, Int.le_trans a5 hle, fun hk => ?_⟩
    rcases List.mem_cons.1 hk with rfl | hk
    · rw [hf] at a2
      cases a2
      rcases Int.lt_or_eq_of_le a3 with h1 | h1
      · exact h1
      · exact absurd hy (by rw [show y = x by rw [hx, ← a1, h1]]; exact hnq)
    · exact a6 hk
  · rcases h.cover i g hg with h1 | h1
    · exact .inl (List.mem_cons_of_mem _ h1)
    · rcases List.mem_cons.1 h1 with h1 | h1
      · refine .inl ?_
        rw [← h1] at hn
        simp only at hn
        have : i = n' := by omega
        subst this; exact List.mem_cons_self ..
      · exact .inr h1
  · rcases List.mem_cons.1 hi with rfl | hi
    · exact ⟨f, hf, by omega⟩
    · obtain ⟨g, a1, a2⟩ := h.dnlt i hi
      exact ⟨g, a1, Int.le_trans a2 e4⟩
  · split at he
    · cases he
    · rename_i hne
      rcases List.mem_cons.1 hi with rfl | hi
      · exact absurd rfl hne
      · exact h.closed i hi s f h1 h2 e (by rw [if_neg (by simp)]; exact he)
  · have hx0 : 0 ≤ x.2 := Int.le_trans h.mpos e4
    split
    · rename_i hb
      rcases h.best with ⟨h1, h2⟩ | ⟨h1, _⟩
      · refine .inr ⟨hx0, Int.le_refl _, ⟨s, hb.2, by rw [← hfx]; exact h.real _ _ _ hs hf⟩, fun i s' g a1 a2 a3 => ?_⟩
        have hid := h2 i s' a1 a3
        rcases h.cover i g a2 with h3 | h3
        · exact absurd h3 hid
        · rcases List.mem_cons.1 h3 with h3 | h3
          · rw [← h3]; exact Int.le_refl _
          · have := hm _ h3; simpa using this
      · omega
    · rename_i hb
      rcases h.best with ⟨h1, h2⟩ | ⟨h1, h2, h3⟩
      · refine .inl ⟨h1, fun i s' a1 a3 hi => ?_⟩
        rcases List.mem_cons.1 hi with rfl | hi
        · rw [hs] at a1; cases a1
          exact hb ⟨by omega, a3⟩
        · exact h2 i s' a1 a3 hi
      · exact .inr ⟨h1, Int.le_trans h2 e4, h3⟩

variable {n : Nat} {s s' : α} {x c : Int}

/-- An edge leads to a new node. -/
theorem Inv.fresh (hc : 0 ≤ c) (h : Inv E goal C s0 (some n) ed S F Q dn x best) (hs : S[n]? = some s) (hf : F[n]? = some x) (he : (c, s') ∈ E s) (hx : x + c ≤ C * dn.length) (hnew : s' ∉ S) :
    Inv E goal C s0 (some n) (ed ++ [(c, s')]) (S ++ [s']) (F ++ [x + c]) (((S.length : Nat), x + c) :: Q) dn x best := by
  have hSl : ∀ (i : Nat) (g : Int), F[i]? = some g → i < S.length := fun i g hg => by rw [← h.len]; exact (List.getElem?_eq_some_iff.1 hg).1
  have hF : ∀ (i : Nat) (g : Int), F[i]? = some g → (F ++ [x + c])[i]? = some g := fun i g hg => by rw [List.getElem?_append_left (List.getElem?_eq_some_iff.1 hg).1]; exact hg
  have hS : ∀ (i : Nat) (g : α), S[i]? = some g → (S ++ [s'])[i]? = some g := fun i g hg => by rw [List.getElem?_append_left (List.getElem?_eq_some_iff.1 hg).1]; exact hg
  have hdl : ∀ i ∈ dn, i < S.length := fun i hi => let ⟨g, a1, _⟩ := h.dnlt i hi; hSl i g a1
  have hlast : (S ++ [s'])[S.length]? = some s' := by simp
  have hlastF : (F ++ [x + c])[S.length]? = some (x + c) := by rw [← h.len]; simp
  have inv : ∀ (i : Nat) (s2 : α) (f2 : Int), (S ++ [s'])[i]? = some s2 → (F ++ [x + c])[i]? = some f2 → (S[i]? = some s2 ∧ F[i]? = some f2) ∨ (i = S.length ∧ s2 = s' ∧ f2 = x + c) := by
    intro i s2 f2 h1 h2
    rcases Nat.lt_trichotomy i S.length with hi | hi | hi
    · rw [List.getElem?_append_left hi] at h1
      rw [List.getElem?_append_left (by rw [h.len]; exact hi)] at h2
      exact .inl ⟨h1, h2⟩
    · subst hi
      rw [hlast] at h1; rw [hlastF] at h2
      cases h1; cases h2
      exact .inr ⟨rfl, rfl, rfl⟩
    · rw [List.getElem?_eq_none (by simp; omega)] at h1; cases h1
  have hp := h.real n s x hs hf
  refine { h with
    nodup := ?_
    len := by simp [h.len]
    root := hS _ _ h.root
    root0 := hF _ _ h.root0
    real := fun i s2 f2 h1 h2 => ?_
    qok := fun y hy => ?_
    qnd := ?_
    cover := fun i f2 hf2 => ?_
    dnlt := fun i hi => let ⟨g, a1, a2⟩ := h.dnlt i hi; ⟨g, hF _ _ a1, a2⟩
    closed := fun i hi s2 f2 h1 h2 e2 he2 => ?_
    small := fun f2 hf2 => ?_
    best := ?_ }
  · rw [List.nodup_append]
    exact ⟨h.nodup, by simp, fun a ha b hb => by simp at hb; subst hb; rintro rfl; exact hnew ha⟩
  · rcases inv i s2 f2 h1 h2 with ⟨g1, g2⟩ | ⟨_, rfl, rfl⟩
    · exact h.real i s2 f2 g1 g2
    · exact hp.snoc he
  · rcases List.mem_cons.1 hy with rfl | hy
    · exact ⟨S.length, x + c, rfl, hlastF, Int.le_refl _, by simp; omega, hx, fun hd => absurd (hdl _ hd) (Nat.lt_irrefl _)⟩
    · obtain ⟨k, g, a1, a2, a3⟩ := h.qok y hy
      exact ⟨k, g, a1, hF _ _ a2, a3⟩
  · refine List.nodup_cons.2 ⟨fun hq => ?_, h.qnd⟩
    obtain ⟨k, g, a1, a2, _⟩ := h.qok _ hq
    have := hSl k g a2
    simp only at a1
    omega
  · rcases Nat.lt_or_ge i S.length with hi | hi
    · rw [List.getElem?_append_left (by rw [h.len]; exact hi)] at hf2
      exact (h.cover i f2 hf2).imp id (List.mem_cons_of_mem _)
    · have hil : i < (F ++ [x + c]).length := (List.getElem?_eq_some_iff.1 hf2).1
      simp [h.len] at hil
      have : i = S.length := by omega
      subst this
      rw [hlastF] at hf2; cases hf2
      exact .inr (List.mem_cons_self ..)
  · have hil := hdl i hi
    have g1 : S[i]? = some s2 := by rwa [List.getElem?_append_left hil] at h1
    have g2 : F[i]? = some f2 := by rwa [List.getElem?_append_left (by rw [h.len]; exact hil)] at h2
    split at he2
    · rename_i hin
      rcases List.mem_append.1 he2 with he2 | he2
      · obtain ⟨j, g, a1, a2, a3⟩ := h.closed i hi s2 f2 g1 g2 e2 (by rw [if_pos hin]; exact he2)
        exact ⟨j, g, hS _ _ a1, hF _ _ a2, a3⟩
      · simp at he2
        subst he2
        cases hin
        rw [hf] at g2; cases g2
        exact ⟨S.length, x + c, hlast, hlastF, Int.le_refl _⟩
    · rename_i hin
      obtain ⟨j, g, a1, a2, a3⟩ := h.closed i hi s2 f2 g1 g2 e2 (by rw [if_neg hin]; exact he2)
      exact ⟨j, g, hS _ _ a1, hF _ _ a2, a3⟩
  · rcases List.mem_append.1 hf2 with hf2 | hf2
    · exact h.small f2 hf2
    · simp at hf2; subst hf2; exact hx
  · rcases h.best with ⟨h1, h2⟩ | ⟨h1, h2, h3, h4⟩
    · refine .inl ⟨h1, fun i s2 a1 a2 hi => ?_⟩
      exact h2 i s2 (by rwa [List.getElem?_append_left (hdl i hi)] at a1) a2 hi
    · refine .inr ⟨h1, h2, h3, fun i s2 f2 a1 a2 a3 => ?_⟩
      rcases inv i s2 f2 a1 a2 with ⟨g1, g2⟩ | ⟨_, rfl, rfl⟩
      · exact h4 i s2 f2 g1 g2 a3
      · omega

/-- An edge leads to a node that is known to be as cheap. -/
theorem Inv.skip (h : Inv E goal C s0 (some n) ed S F Q dn x best) (hf : F[n]? = some x) {j : Nat} {g : Int} (hj : S[j]? = some s') (hg : F[j]? = some g) (hle : g ≤ x + c) :
    Inv E goal C s0 (some n) (ed ++ [(c, s')]) S F Q dn x best := by
  refine { h with closed := fun i hi s2 f2 h1 h2 e2 he2 => ?_ }
  split at he2
  · rename_i hin
    rcases List.mem_append.1 he2 with he2 | he2
    · exact h.closed i hi s2 f2 h1 h2 e2 (by rw [if_pos hin]; exact he2)
    · simp at he2
      subst he2
      cases hin
      rw [hf] at h2; cases h2
      exact ⟨j, g, hj, hg, hle⟩
  · rename_i hin
    exact h.closed i hi s2 f2 h1 h2 e2 (by rw [if_neg hin]; exact he2)

/-- An edge makes a node cheaper. -/
theorem Inv.less (hc : 0 ≤ c) (hE : ∀ s, ∀ e ∈ E s, 0 ≤ e.1) (h : Inv E goal C s0 (some n) ed S F Q dn x best) (hs : S[n]? = some s) (hf : F[n]? = some x) (he : (c, s') ∈ E s) (hx : x + c ≤ C * dn.length)
    {j : Nat} {g : Int} (hj : S[j]? = some s') (hg : F[j]? = some g) (hlt : x + c < g) :
    Inv E goal C s0 (some n) (ed ++ [(c, s')]) S (F.set j (x + c)) ((((j : Nat) : Int), x + c) :: Q) dn x best := by
  have hjl : j < F.length := (List.getElem?_eq_some_iff.1 hg).1
  have hjd : j ∉ dn := fun hd => by
    obtain ⟨f, a1, a2⟩ := h.dnlt j hd
    rw [hg] at a1; cases a1; omega
  have hne : n ≠ j := by rintro rfl; rw [hf] at hg; cases hg; omega
  have hF : ∀ (i : Nat), i ≠ j → (F.set j (x + c))[i]? = F[i]? := fun i hi => by rw [List.getElem?_set_ne (Ne.symm hi)]
  have hFj : (F.set j (x + c))[j]? = some (x + c) := by rw [List.getElem?_set_self hjl]
  have hp := h.real n s x hs hf
  have hdj : ∀ i ∈ dn, i ≠ j := fun i hi hij => hjd (hij ▸ hi)
  have down : ∀ (i : Nat) (f : Int), F[i]? = some f → ∃ f', (F.set j (x + c))[i]? = some f' ∧ f' ≤ f := fun i f hfi => by
    by_cases hij : i = j
    · subst hij; rw [hg] at hfi; cases hfi; exact ⟨_, hFj, by omega⟩
    · exact ⟨f, by rw [hF i hij]; exact hfi, Int.le_refl _⟩
  refine { h with
    len := by simp [h.len]
    root0 := ?_
    real := fun i s2 f2 h1 h2 => ?_
    qok := fun y hy => ?_
    qnd := ?_
    cover := fun i f2 hf2 => ?_
    dnlt := fun i hi => let ⟨g, a1, a2⟩ := h.dnlt i hi; ⟨g, by rw [hF i (hdj i hi)]; exact a1, a2⟩
    closed := fun i hi s2 f2 h1 h2 e2 he2 => ?_
    small := fun f2 hf2 => ?_
    best := ?_ }
  · by_cases h0 : 0 = j
    · subst h0
      have := h.root0
      rw [hg] at this; cases this
      have := (hp.nonneg hE); omega
    · rw [hF 0 h0]; exact h.root0
  · by_cases hij : i = j
    · subst hij
      rw [hFj] at h2; cases h2
      rw [hj] at h1; cases h1
      exact hp.snoc he
    · rw [hF i hij] at h2; exact h.real i s2 f2 h1 h2
  · rcases List.mem_cons.1 hy with rfl | hy
    · exact ⟨j, x + c, rfl, hFj, Int.le_refl _, by simp; omega, hx, fun hd => absurd hd hjd⟩
    · obtain ⟨k, f, a1, a2, a3, a4, a5, a6⟩ := h.qok y hy
      by_cases hkj : k = j
      · subst hkj
        rw [hg] at a2; cases a2
        exact ⟨k, x + c, a1, hFj, by omega, a4, a5, fun hd => absurd hd hjd⟩
      · exact ⟨k, f, a1, by rw [hF k hkj]; exact a2, a3, a4, a5, a6⟩
  · refine List.nodup_cons.2 ⟨fun hq => ?_, h.qnd⟩
    obtain ⟨k, f, a1, a2, a3, _⟩ := h.qok _ hq
    simp only at a1 a3
    have : k = j := by omega
    subst this
    rw [hg] at a2; cases a2; omega
  · by_cases hij : i = j
    · subst hij; rw [hFj] at hf2; cases hf2; exact .inr (List.mem_cons_self ..)
    · rw [hF i hij] at hf2
      exact (h.cover i f2 hf2).imp id (List.mem_cons_of_mem _)
  · rw [hF i (hdj i hi)] at h2
    split at he2
    · rename_i hin
      rcases List.mem_append.1 he2 with he2 | he2
      · obtain ⟨k, g2, a1, a2, a3⟩ := h.closed i hi s2 f2 h1 h2 e2 (by rw [if_pos hin]; exact he2)
        obtain ⟨g3, b1, b2⟩ := down k g2 a2
        exact ⟨k, g3, a1, b1, by omega⟩
      · simp at he2
        subst he2
        cases hin
        rw [hf] at h2; cases h2
        exact ⟨j, x + c, hj, hFj, Int.le_refl _⟩
    · rename_i hin
      obtain ⟨k, g2, a1, a2, a3⟩ := h.closed i hi s2 f2 h1 h2 e2 (by rw [if_neg hin]; exact he2)
      obtain ⟨g3, b1, b2⟩ := down k g2 a2
      exact ⟨k, g3, a1, b1, by omega⟩
  · rcases List.mem_or_eq_of_mem_set hf2 with hf2 | rfl
    · exact h.small f2 hf2
    · exact hx
  · rcases h.best with ⟨h1, h2⟩ | ⟨h1, h2, h3, h4⟩
    · exact .inl ⟨h1, h2⟩
    · refine .inr ⟨h1, h2, h3, fun i s2 f2 a1 a2 a3 => ?_⟩
      by_cases hij : i = j
      · subst hij; rw [hFj] at a2; cases a2; omega
      · rw [hF i hij] at a2; exact h4 i s2 f2 a1 a2 a3

/-- All edges of a node have been looked at. -/
theorem Inv.shut (h : Inv E goal C s0 (some n) ed S F Q dn x best) (hs : S[n]? = some s) (he : ed = E s) : Inv E goal C s0 none [] S F Q dn x best := by
  refine { h with closed := fun i hi s2 f2 h1 h2 e2 he2 => ?_ }
  rw [if_neg (by simp)] at he2
  refine h.closed i hi s2 f2 h1 h2 e2 ?_
  split
  · rename_i hin
    cases hin
    rw [hs] at h1; cases h1
    rw [he]; exact he2
  · exact he2

theorem Inv.dn_le (h : Inv E goal C s0 i0 ed S F Q dn m best) : dn.length ≤ S.length := by
  have : dn.length ≤ (List.range S.length).length := nodup_sub h.dnnd fun i hi => by
    obtain ⟨f, a1, _⟩ := h.dnlt i hi
    rw [List.mem_range, ← h.len]; exact (List.getElem?_eq_some_iff.1 a1).1
  simpa using this

theorem Inv.reach (h : Inv E goal C s0 i0 ed S F Q dn m best) : ∀ s ∈ S, ∃ d, Pth E s0 d s := fun s hs => by
  obtain ⟨i, hi, rfl⟩ := List.getElem_of_mem hs
  have hiF : i < F.length := by rw [h.len]; exact hi
  exact ⟨_, h.real i _ _ (List.getElem?_eq_getElem hi) (List.getElem?_eq_getElem hiF)⟩

/-- The queue is empty: all nodes are known, and the best cost is the least one. -/
theorem Inv.done (h : Inv E goal C s0 none [] S F [] dn m best) : Whole E s0 S ∧ ((best = -1 ∧ ∀ s ∈ S, goal s = false) ∨ (0 ≤ best ∧ Opt E goal s0 best)) := by
  have hdn : ∀ i, i < S.length → i ∈ dn := fun i hi => by
    have hiF : i < F.length := by rw [h.len]; exact hi
    rcases h.cover i _ (List.getElem?_eq_getElem hiF) with h1 | h1
    · exact h1
    · cases h1
  have hcl : ∀ (i : Nat) (s : α) (f : Int), S[i]? = some s → F[i]? = some f → ∀ e ∈ E s, ∃ (j : Nat) (g : Int), S[j]? = some e.2 ∧ F[j]? = some g ∧ g ≤ f + e.1 := fun i s f h1 h2 e he =>
    h.closed i (hdn i (List.getElem?_eq_some_iff.1 h1).1) s f h1 h2 e (by rw [if_neg (by simp)]; exact he)
  have hW : Whole E s0 S := by
    refine ⟨h.nodup, List.mem_of_getElem? h.root, h.reach, fun s hs e he => ?_⟩
    obtain ⟨i, hi, rfl⟩ := List.getElem_of_mem hs
    have hiF : i < F.length := by rw [h.len]; exact hi
    obtain ⟨j, g, a1, _⟩ := hcl i _ _ (List.getElem?_eq_getElem hi) (List.getElem?_eq_getElem hiF) e he
    exact List.mem_of_getElem? a1
  refine ⟨hW, ?_⟩
  rcases h.best with ⟨h1, h2⟩ | ⟨h1, h2, h3, h4⟩
  · refine .inl ⟨h1, fun s hs => ?_⟩
    obtain ⟨i, hi, rfl⟩ := List.getElem_of_mem hs
    cases hg : goal S[i] with
    | false => rfl
    | true => exact absurd (hdn i hi) (h2 i _ (List.getElem?_eq_getElem hi) hg)
  · refine .inr ⟨h1, h3, fun s d hg p => ?_⟩
    have low : ∀ {a b : α} {d : Int}, Pth E a d b → ∀ (i : Nat) (f : Int), S[i]? = some a → F[i]? = some f → ∃ (j : Nat) (g : Int), S[j]? = some b ∧ F[j]? = some g ∧ g ≤ f + d := by
      intro a b d p
      induction p with
      | nil s => intro i f a1 a2; exact ⟨i, f, a1, a2, by omega⟩
      | cons h0 _ ih =>
        intro i f a1 a2
        obtain ⟨j, g, b1, b2, b3⟩ := hcl i _ f a1 a2 _ h0
        obtain ⟨k, g2, c1, c2, c3⟩ := ih j g b1 b2
        exact ⟨k, g2, c1, c2, by simp only at b3; omega⟩
    obtain ⟨j, g, a1, a2, a3⟩ := low p 0 0 h.root h.root0
    have := h4 j s g a1 a2 hg
    omega
end
end Go.Fw.Dij

/- What the search of a projection keeps: keys, states, edges. -/
namespace Go.Fw
open Go Go.Proofs Heap
set_option maxRecDepth 10000

/-! ### Keys -/
def inU (l : List Int) : Prop := ∀ x ∈ l, 0 ≤ x ∧ x ≤ 255
theorem strNums_inj : ∀ {a b : List Int}, inU a → inU b → a.map (fun n => UInt8.ofNat n.toNat) = b.map (fun n => UInt8.ofNat n.toNat) → a = b
  | [], [], _, _, _ => rfl
  | [], _ :: _, _, _, h => by simp at h
  | _ :: _, [], _, _, h => by simp at h
  | x :: r, y :: q, ha, hb, h => by
    simp only [List.map_cons, List.cons.injEq] at h
    have h1 := ha x (List.mem_cons_self ..)
    have h2 := hb y (List.mem_cons_self ..)
    have e : x = y := by
      have := congrArg UInt8.toNat h.1
      rw [UInt8.toNat_ofNat_of_lt' (show x.toNat < UInt8.size by show x.toNat < 256; omega), UInt8.toNat_ofNat_of_lt' (show y.toNat < UInt8.size by show y.toNat < 256; omega)] at this
      omega
    rw [e, strNums_inj (fun z hz => ha z (List.mem_cons_of_mem _ hz)) (fun z hz => hb z (List.mem_cons_of_mem _ hz)) h.2]
abbrev keyV (s : List Int) : Value := .string (strOfNums s)
theorem same_key {a b : List Int} (ha : inU a) (hb : inU b) : sameK (keyV a) (keyV b) = decide (a = b) := by
  have : (strOfNums a == strOfNums b) = decide (a = b) := by
    rw [Bool.eq_iff_iff, decide_eq_true_eq]
    constructor
    · intro h
      have h := (MapKept.bytes_beq _ _).1 h
      have := congrArg (fun b : ByteArray => b.data.toList) h
      simp only [strOfNums_data] at this
      exact strNums_inj ha hb this
    · rintro rfl; exact (MapKept.bytes_beq _ _).2 rfl
  exact this
theorem rising_u {s : List Int} {n : Nat} (h : risingB s n = true) (hn : n ≤ 200) : inU s := fun x hx => by have := rising_in h x hx; omega

/-! ### The search -/
abbrev tSt (s : List Int) : List T := [tIs s.isEmpty s]
abbrev kvT (S : List (List Int)) : List (Value × T) := kvG keyV 0 S
/-- Where the actions lead. -/
def succA (n : Nat) (s : List Int) (l : List Actn) : List (Int × List Int) := (l.filter fun a => holdsB s a.pre).map fun a => (a.cost, afterL n s a.effs)
def succ (u : Task) (s : List Int) : List (Int × List Int) := succA u.facts.length s u.acts
abbrev Way (u : Task) : List Int → Int → List Int → Prop := Dij.Pth (succ u)
theorem succA_step {n : Nat} {s : List Int} {l : List Actn} {i : Nat} (hi : i < l.length) : succA n s (l.take (i + 1)) = succA n s (l.take i) ++ if holdsB s l[i].pre = true then [(l[i].cost, afterL n s l[i].effs)] else [] := by
  rw [succA, List.take_add_one, List.getElem?_eq_getElem hi, Option.toList_some, List.filter_append, List.map_append]
  simp only [succA]
  cases h : holdsB s l[i].pre <;> simp [h]
theorem succ_mem {u : Task} {s : List Int} {i : Nat} (hi : i < u.acts.length) (h : holdsB s u.acts[i].pre = true) : (u.acts[i].cost, afterL u.facts.length s u.acts[i].effs) ∈ succ u s :=
  List.mem_map.2 ⟨u.acts[i], List.mem_filter.2 ⟨List.getElem_mem hi, h⟩, rfl⟩
theorem succ_nonneg {u : Task} (TK : TaskOK u) : ∀ s, ∀ e ∈ succ u s, 0 ≤ e.1 := fun s e he => by
  obtain ⟨a, ha, rfl⟩ := List.mem_map.1 he
  exact (TK.cost _ (List.mem_filter.1 ha).1).1
theorem succ_rising {u : Task} {s : List Int} : ∀ e ∈ succ u s, risingB e.2 u.facts.length = true := fun e he => by
  obtain ⟨a, ha, rfl⟩ := List.mem_map.1 he
  exact after_rising ..

/-- The optimal cost, or why there is none. -/
inductive OptR (u : Task) (s : List Int) : LV → Prop
  | space (S : List (List Int)) (hn : S.Nodup) (hr : ∀ x ∈ S, ∃ d, Way u s d x) (hl : 20000 < S.length) : OptR u s (.tup [.int 0, .int 3])
  | none (S : List (List Int)) (hW : Dij.Whole (succ u) s S) (hl : S.length ≤ 20000) (hg : ∀ x ∈ S, holdsB x u.goal = false) : OptR u s (.tup [.int 0, .int 4])
  | ok (S : List (List Int)) (hW : Dij.Whole (succ u) s S) (hl : S.length ≤ 20000) (c : Int) (h0 : 0 ≤ c) (hb : c ≤ 2000000000) (hc : Dij.Opt (succ u) (fun x => holdsB x u.goal) s c) : OptR u s (.tup [.int c, .int 0])

/-- What the search keeps. -/
structure Sea (u : Task) (s : List Int) (i0 : Option Nat) (ed : List (Int × List Int)) (S : List (List Int)) (F : List Int) (Q : List Heap.Item) (dn : List Nat) (m best : Int) : Prop where
  inv : Dij.Inv (succ u) (fun x => holdsB x u.goal) 100000 s i0 ed S F Q dn m best
  heap : HP Q Q.length
  rise : ∀ x ∈ S, risingB x u.facts.length = true
  few : S.length ≤ 20000
  bst : best ≤ 2000000000

theorem Sea.start {u : Task} {s : List Int} (hs : risingB s u.facts.length = true) : Sea u s none [] [s] [0] [(0, 0)] [] 0 (-1) :=
  ⟨Dij.Inv.start, fun j h0 h1 => by simp at h1; omega, fun x hx => by simp at hx; rw [hx]; exact hs, by simp, by decide⟩

end Go.Fw

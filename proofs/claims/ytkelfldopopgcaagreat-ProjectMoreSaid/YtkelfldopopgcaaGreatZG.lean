/- Texts that lead to the law, part 7. -/
import Derived.Test.YtkelfldopopgcaaGreatZF
import Derived.Test.YtkelfldopopgcaaGreatProg
import Derived.Test.YtkelfldopopgcaaGreatZE
import Derived.KernelRfl
import Derived.Shelf.Sort.AssemblyIn
import Derived.Shelf.Slices.In.SortNone
import Derived.Sort.EveryDepth

/- The value logic, part 29: a call of a function that writes objects of its caller. -/
namespace Go.Fw
open Go

/-! ### The names of the objects that are handed on -/
abbrev Ren := List (Nat × Nat)
def bk : Ren → Nat → Option Nat
  | [], _ => none
  | p :: r, n => match Nat.beq p.2 n with
    | true => some p.1
    | false => bk r n
def renK (ρ : Ren) : K → K
  | .cur s => match look ρ s with
    | some n => .cur n
    | none => .cur s
  | .fr i s => .fr i s
  | .sub k i => .sub (renK ρ k) i
def domK (ρ : Ren) : K → Bool
  | .cur s => match look ρ s with
    | some _ => true
    | none => false
  | .fr _ _ => false
  | .sub k _ => domK ρ k
def unK (ρ : Ren) : K → Option K
  | .cur n => match bk ρ n with
    | some s => some (.cur s)
    | none => none
  | .fr _ _ => none
  | .sub k i => match unK ρ k with
    | some k0 => some (.sub k0 i)
    | none => none
def rhoB (ρ0 : Ren) : Ren → Bool
  | [] => true
  | p :: r => (match look ρ0 p.1 with | some n => Nat.beq n p.2 | none => false) && ((match bk ρ0 p.2 with | some s => Nat.beq s p.1 | none => false) && rhoB ρ0 r)
def domF (ρ : Ren) : Fr → Bool
  | [] => true
  | p :: r => domK ρ (.cur p.1) && (p.2.allK (domK ρ) && domF ρ r)
def modO (ρ : Ren) (cur : Fr) : Fr → Prop
  | [] => True
  | p :: r => (match look ρ p.1 with | some n => look cur n = some (mapO (renK ρ) p.2) | none => False) ∧ modO ρ cur r
/-- Does what the name stands for lie where it lay? -/
def livK (ρ : Ren) (pins : List (Nat × Nat)) (st : St) : K → Bool
  | .cur n => match bk ρ n with
    | some s => match look pins s with
      | some _ => true
      | none => false
    | none => match look st.cur n with
      | some _ => true
      | none => false
  | .fr _ _ => false
  | .sub _ _ => false
def livV (ρ : Ren) (pins : List (Nat × Nat)) (st : St) (x : LV) : LV := match x.allK (livK ρ pins st) with
  | true => x
  | false => .bad
def livL (ρ : Ren) (pins : List (Nat × Nat)) (st : St) : List LV → List LV
  | [] => []
  | x :: r => livV ρ pins st x :: livL ρ pins st r
def livO (ρ : Ren) (pins : List (Nat × Nat)) (st : St) : Ob → Ob
  | .box cs => .box (livL ρ pins st cs)
  | o => o
def livE (ρ : Ren) (pins : List (Nat × Nat)) (st : St) : Env → Env
  | [] => []
  | (n, x) :: r => (n, livV ρ pins st x) :: livE ρ pins st r
def modC (ρ : Ren) (pins : List (Nat × Nat)) (st : St) (ro : Fr) : Fr → Fr
  | [] => []
  | (n, o) :: r => match bk ρ n with
    | some s => match look ro s with
      | some o' => (n, mapO (renK ρ) o') :: modC ρ pins st ro r
      | none => modC ρ pins st ro r
    | none => (n, livO ρ pins st o) :: modC ρ pins st ro r
/-- Do iterators stand over maps that are not handed on? -/
def mitB (ρ : Ren) : Fr → Bool
  | [] => true
  | p :: r => match p.2 with
    | .mit m _ => match unK ρ m with
      | some _ => false
      | none => mitB ρ r
    | _ => mitB ρ r

/-- What is asked behind the call. -/
def backW (ρ : Ren) (pins : List (Nat × Nat)) (r : LV) (ro : Fr) (env : Env) (st : St) (K' : LV → Env → St → Prop) : Prop :=
  (r.allK (domK ρ) && domF ρ ro) = true ∧ K' (mapV (renK ρ) r) (livE ρ pins st env) ⟨[], modC ρ pins st ro st.cur⟩

/-- Slots that show rows of a row of rows that is not handed on: they stand as they stood. -/
def exP (ρ : Ren) (st : St) (env : Env) : Env → Prop
  | [] => True
  | p :: r => (look env p.1 = some p.2 ∧ ∃ n i sz off len o, p.2 = .osl (.sub (.cur n) i) sz off len ∧ bk ρ n = none ∧ st.get (.sub (.cur n) i) = some o) ∧ exP ρ st env r
def backX (ρ : Ren) (pins : List (Nat × Nat)) (ex : Env) (r : LV) (ro : Fr) (env : Env) (st : St) (K' : LV → Env → St → Prop) : Prop :=
  (r.allK (domK ρ) && domF ρ ro) = true ∧ K' (mapV (renK ρ) r) (ex ++ livE ρ pins st env) ⟨[], modC ρ pins st ro st.cur⟩
/-- A call of a function that writes: which of the own objects it is handed. -/
inductive ModH (P : Program) (f : Nat) (args : List LV) (env : Env) (st : St) (K' : LV → Env → St → Prop) : Prop
  | mk (ρ : Ren) {margs : List LV} {fr : Fr} {pins : List (Nat × Nat)} {Post : LV → Fr → Prop} (hs : SpecM P f margs fr pins Post) (ha : args = mapV.mapL (renK ρ) margs)
      (hk : (rhoB ρ ρ && (LV.allK.allL (domK ρ) margs && (domF ρ fr && mitB ρ st.cur))) = true) (ho : modO ρ st.cur fr) (hK : ∀ r ro, Post r ro → backW ρ pins r ro env st K')
  | mkx (ρ : Ren) (ex : Env) {margs : List LV} {fr : Fr} {pins : List (Nat × Nat)} {Post : LV → Fr → Prop} (hs : SpecM P f margs fr pins Post) (ha : args = mapV.mapL (renK ρ) margs)
      (hk : (rhoB ρ ρ && (LV.allK.allL (domK ρ) margs && (domF ρ fr && mitB ρ st.cur))) = true) (ho : modO ρ st.cur fr) (hex : exP ρ st env ex) (hK : ∀ r ro, Post r ro → backX ρ pins ex r ro env st K')

section
variable {P : Program} {E : Ent} {N : Nat} {β β' : K → Nat} {RO RO' : Nat → Prop} {env : Env} {st : St} {a : Act} {w w' : World} {ρ : Ren}

theorem look_mem {α : Type} : ∀ {l : List (Nat × α)} {n : Nat} {x : α}, look l n = some x → (n, x) ∈ l
  | [], n, x, h => by simp [look] at h
  | p :: r, n, x, h => by
    rw [look_cons] at h
    split at h
    · rename_i he; cases h; subst he; exact List.mem_cons_self ..
    · exact List.mem_cons_of_mem _ (look_mem h)
theorem bk_mem : ∀ {l : Ren} {n s : Nat}, bk l n = some s → (s, n) ∈ l
  | [], n, s, h => by simp [bk] at h
  | p :: r, n, s, h => by
    simp only [bk] at h
    split at h
    · rename_i he
      cases h
      have := Nat.eq_of_beq_eq_true he
      subst this; exact List.mem_cons_self ..
    · exact List.mem_cons_of_mem _ (bk_mem h)
theorem rhoB_mem {ρ0 : Ren} : ∀ {l : Ren}, rhoB ρ0 l = true → ∀ {s n : Nat}, (s, n) ∈ l → look ρ0 s = some n ∧ bk ρ0 n = some s
  | [], _, s, n, h => by cases h
  | p :: r, h, s, n, hm => by
    simp only [rhoB, Bool.and_eq_true] at h
    obtain ⟨h1, h2, h3⟩ := h
    rcases List.mem_cons.1 hm with he | hm
    · subst he
      split at h1
      · rename_i n' hn
        have := Nat.eq_of_beq_eq_true h1
        subst this
        split at h2
        · rename_i s' hs'
          have := Nat.eq_of_beq_eq_true h2
          subst this
          exact ⟨hn, hs'⟩
        · cases h2
      · cases h1
    · exact rhoB_mem h3 hm

theorem un_ren (hρ : rhoB ρ ρ = true) : ∀ {k : K}, domK ρ k = true → unK ρ (renK ρ k) = some k
  | .cur s, h => by
    simp only [domK] at h
    split at h
    · rename_i n hn
      obtain ⟨_, h2⟩ := rhoB_mem hρ (look_mem hn)
      simp only [renK, hn, unK, h2]
    · cases h
  | .fr _ _, h => by cases h
  | .sub k i, h => by simp only [renK, unK, un_ren (k := k) hρ h]
theorem ren_un (hρ : rhoB ρ ρ = true) : ∀ {k k0 : K}, unK ρ k = some k0 → renK ρ k0 = k ∧ domK ρ k0 = true ∧ k.isFr = false
  | .cur n, k0, h => by
    simp only [unK] at h
    split at h
    · rename_i s hs
      cases h
      obtain ⟨h1, _⟩ := rhoB_mem hρ (bk_mem hs)
      simp only [renK, h1, domK]; exact ⟨trivial, trivial, rfl⟩
    · cases h
  | .fr _ _, _, h => by cases h
  | .sub k i, k0, h => by
    simp only [unK] at h
    split at h
    · rename_i k1 h1
      cases h
      obtain ⟨g1, g2, g3⟩ := ren_un hρ h1
      exact ⟨by simp only [renK, g1], g2, g3⟩
    · cases h
theorem ren_inj (hρ : rhoB ρ ρ = true) {k k' : K} (h : domK ρ k = true) (h' : domK ρ k' = true) (he : renK ρ k = renK ρ k') : k = k' := by
  have h1 := un_ren hρ h
  rw [he, un_ren hρ h'] at h1
  exact (Option.some.inj h1).symm
theorem ren_fr : ∀ {k : K}, domK ρ k = true → (renK ρ k).isFr = false ∧ k.isFr = false
  | .cur s, h => by
    simp only [domK] at h
    split at h
    · rename_i n hn; simp only [renK, hn]; exact ⟨rfl, rfl⟩
    · cases h
  | .fr _ _, h => by cases h
  | .sub k i, h => ren_fr (k := k) h

theorem modO_look {cur : Fr} : ∀ {fr : Fr}, modO ρ cur fr → ∀ {s : Nat} {o : Ob}, look fr s = some o → ∃ n, look ρ s = some n ∧ look cur n = some (mapO (renK ρ) o)
  | [], _, s, o, h => by simp [look] at h
  | p :: r, h, s, o, hl => by
    obtain ⟨h1, h2⟩ := h
    rw [look_cons] at hl
    split at hl
    · rename_i he
      subst he; cases hl
      split at h1
      · rename_i n hn; exact ⟨n, hn, h1⟩
      · cases h1
    · exact modO_look h2 hl
theorem domF_look : ∀ {fr : Fr}, domF ρ fr = true → ∀ {s : Nat} {o : Ob}, look fr s = some o → domK ρ (.cur s) = true ∧ o.allK (domK ρ) = true
  | [], _, s, o, h => by simp [look] at h
  | p :: r, h, s, o, hl => by
    simp only [domF, Bool.and_eq_true] at h
    rw [look_cons] at hl
    split at hl
    · rename_i he
      subst he; cases hl; exact ⟨h.1, h.2.1⟩
    · exact domF_look h.2.2 hl

theorem get_no_fr {fr : Fr} {i s : Nat} {o : Ob} (h : St.get ⟨[], fr⟩ (.fr i s) = some o) : False := by simp [St.get] at h
theorem frag_get {fr : Fr} (ho : modO ρ st.cur fr) {k : K} {o : Ob} (h : St.get ⟨[], fr⟩ k = some o) : domK ρ k = true ∧ st.get (renK ρ k) = some (mapO (renK ρ) o) := by
  have root : ∀ s o, St.get ⟨[], fr⟩ (.cur s) = some o → domK ρ (.cur s) = true ∧ st.get (renK ρ (.cur s)) = some (mapO (renK ρ) o) := fun s o h => by
    obtain ⟨n, h1, h2⟩ := modO_look ho (s := s) (o := o) h
    exact ⟨by simp only [domK, h1], by simp only [renK, h1]; exact h2⟩
  cases k with
  | cur s => exact root s o h
  | fr i s => exact (get_no_fr h).elim
  | sub k i =>
    obtain ⟨eo, e, sz, rs, es, hg, hi, rfl⟩ := St.get_sub h
    cases k with
    | cur s =>
      obtain ⟨g1, g2⟩ := root s _ hg
      exact ⟨g1, by simp only [renK] at g2 ⊢; simp only [St.get] at g2 ⊢; simp only [g2, mapO, hi]⟩
    | fr j s => exact (get_no_fr hg).elim
    | sub k2 j => have := St.root_of_get_grid hg; cases this

theorem look_modC {pins : List (Nat × Nat)} {ro : Fr} : ∀ {cur : Fr} {n : Nat} {o : Ob}, look (modC ρ pins st ro cur) n = some o →
    (∃ s o', bk ρ n = some s ∧ look ro s = some o' ∧ o = mapO (renK ρ) o') ∨ (bk ρ n = none ∧ ∃ o0, look cur n = some o0 ∧ o = livO ρ pins st o0)
  | [], n, o, h => by simp [modC, look] at h
  | (m, x) :: r, n, o, h => by
    simp only [modC] at h
    have step : look (modC ρ pins st ro r) n = some o → m ≠ n ∨ bk ρ m ≠ none → (∃ s o', bk ρ n = some s ∧ look ro s = some o' ∧ o = mapO (renK ρ) o') ∨ (bk ρ n = none ∧ ∃ o0, look ((m, x) :: r) n = some o0 ∧ o = livO ρ pins st o0) := fun h hne => by
      rcases look_modC h with h | ⟨h1, o0, h2, h3⟩
      · exact .inl h
      · refine .inr ⟨h1, o0, ?_, h3⟩
        rw [look_cons, if_neg]
        · exact h2
        · rintro rfl
          rcases hne with h | h
          · exact h rfl
          · exact h h1
    split at h
    · rename_i s hs
      split at h
      · rename_i o' ho'
        rw [look_cons] at h
        split at h
        · rename_i he
          subst he; cases h; exact .inl ⟨s, o', hs, ho', rfl⟩
        · rename_i he; exact step h (.inl he)
      · exact step h (.inr (by rw [hs]; simp))
    · rename_i hs
      rw [look_cons] at h
      split at h
      · rename_i he
        subst he; cases h; exact .inr ⟨hs, x, by rw [look_cons, if_pos rfl], rfl⟩
      · rename_i he; exact step h (.inl he)
theorem look_livE {pins : List (Nat × Nat)} : ∀ {env : Env} {n : Nat} {x : LV}, look (livE ρ pins st env) n = some x → ∃ y, look env n = some y ∧ x = livV ρ pins st y
  | [], n, x, h => by simp [livE, look] at h
  | (m, y) :: r, n, x, h => by
    simp only [livE] at h
    rw [look_cons] at h
    split at h
    · rename_i he; subst he; cases h; exact ⟨y, by rw [look_cons, if_pos rfl], rfl⟩
    · rename_i he
      obtain ⟨z, h1, h2⟩ := look_livE h
      exact ⟨z, by rw [look_cons, if_neg he]; exact h1, h2⟩
theorem livL_eq {pins : List (Nat × Nat)} : ∀ cs : List LV, livL ρ pins st cs = cs.map (livV ρ pins st)
  | [] => rfl
  | x :: r => by simp only [livL, livL_eq r, List.map_cons]
theorem mapO_grid {g : K → K} {o : Ob} {eo e sz : Nat} {rs : List GR} (h : mapO g o = .grid eo e sz rs) : o = .grid eo e sz rs := by
  cases o <;> simp only [mapO, reduceCtorEq] at h
  exact h
theorem livO_grid {pins : List (Nat × Nat)} {o : Ob} {eo e sz : Nat} {rs : List GR} (h : livO ρ pins st o = .grid eo e sz rs) : o = .grid eo e sz rs := by
  cases o <;> simp only [livO, reduceCtorEq] at h
  exact h

theorem mitB_look : ∀ {cur : Fr}, mitB ρ cur = true → ∀ {n : Nat} {m : K} {l : List (Value × T)}, look cur n = some (.mit m l) → unK ρ m = none
  | [], _, n, m, l, h => by simp [look] at h
  | p :: r, hb, n, m, l, h => by
    have hr : mitB ρ r = true ∧ ∀ m l, p.2 = .mit m l → unK ρ m = none := by
      simp only [mitB] at hb
      split at hb
      · rename_i m' l' he
        split at hb
        · cases hb
        · rename_i hu
          exact ⟨hb, fun m l h => by rw [he] at h; cases h; exact hu⟩
      · rename_i hne
        exact ⟨hb, fun m l h => absurd h (hne m l)⟩
    rw [look_cons] at h
    split at h
    · exact hr.2 _ _ (Option.some.inj h)
    · exact mitB_look hr.1 h
theorem mod_get {pins : List (Nat × Nat)} {ro : Fr} {out' : List Fr} {k : K} {o : Ob} (h : St.get ⟨[], modC ρ pins st ro st.cur⟩ k = some o) :
    (∃ k0 o0, unK ρ k = some k0 ∧ St.get ⟨out', ro⟩ k0 = some o0 ∧ o = mapO (renK ρ) o0 ∧ k0.isFr = false) ∨ (unK ρ k = none ∧ k.isFr = false ∧ ∃ o0, st.get k = some o0 ∧ o = livO ρ pins st o0) := by
  have root : ∀ n o, St.get ⟨[], modC ρ pins st ro st.cur⟩ (.cur n) = some o → (∃ s o0, bk ρ n = some s ∧ St.get ⟨out', ro⟩ (.cur s) = some o0 ∧ o = mapO (renK ρ) o0) ∨ (bk ρ n = none ∧ ∃ o0, st.get (.cur n) = some o0 ∧ o = livO ρ pins st o0) := fun n o h => look_modC (o := o) h
  cases k with
  | cur n =>
    rcases root n o h with ⟨s, o0, h1, h2, h3⟩ | ⟨h1, o0, h2, h3⟩
    · exact .inl ⟨.cur s, o0, by simp only [unK, h1], h2, h3, rfl⟩
    · exact .inr ⟨by simp only [unK, h1], rfl, o0, h2, h3⟩
  | fr i n => exact (get_no_fr h).elim
  | sub k i =>
    obtain ⟨eo, e, sz, rs, es, hg, hi, rfl⟩ := St.get_sub h
    cases k with
    | cur n =>
      rcases root n _ hg with ⟨s, o0, h1, h2, h3⟩ | ⟨h1, o0, h2, h3⟩
      · have := mapO_grid h3.symm
        subst this
        refine .inl ⟨.sub (.cur s) i, .row e sz es, by simp only [unK, h1], ?_, rfl, rfl⟩
        simp only [St.get] at h2 ⊢
        simp only [h2, hi]
      · have := livO_grid h3.symm
        subst this
        refine .inr ⟨by simp only [unK, h1], rfl, .row e sz es, ?_, rfl⟩
        simp only [St.get] at h2 ⊢
        simp only [h2, hi]
    | fr j n => exact (get_no_fr hg).elim
    | sub k2 q => have := St.root_of_get_grid hg; cases this

/-- A value stands as it stood, where each of its names does. -/
theorem VL.mono3 {p : K → Bool} (hro : ∀ b, RO b → RO' b) (hw : ∀ b, RO b → w'.heap[b]? = w.heap[b]?)
    (hS : ∀ k, p k = true → β' k = β k ∧ ∀ e n, w.shape? (β k) = some (e, n) → ∃ e', w'.shape? (β k) = some (e', n)) {x : LV} {v : Value} (h : VL β RO w x v) : x.allK p = true → VL β' RO' w' x v := by
  induction h with
  | bad x => intro _; exact .bad x
  | t x v h => intro _; exact .t x v (h.mono hro hw)
  | osl k sz off len cap e n h hs hn hm =>
    intro hp
    obtain ⟨e1, e2⟩ := hS k hp
    obtain ⟨e', he'⟩ := e2 _ _ hs
    rw [← e1]; exact .osl k sz off len cap e' n h (by rw [e1]; exact he') hn hm
  | ptr k c => intro hp; obtain ⟨e1, _⟩ := hS k hp; rw [← e1]; exact .ptr k c
  | pel k sz i j => intro hp; obtain ⟨e1, _⟩ := hS k hp; rw [← e1]; exact .pel k sz i j
  | ipt cs b off u hb hcell hv => intro _; exact .ipt cs b off u (hro b hb) (fun j x hj => (World.cell?_of_block (hw b hb)).trans (hcell j x hj)) fun j x hj => (hv j x hj).mono hro hw
  | fn f cap =>
    intro hp
    have hall : ∀ {cap : List (K × Nat)}, LV.allK.allC p cap = true → ∀ q ∈ cap, p q.1 = true := by
      intro cap
      induction cap with
      | nil => intro _ q hq; cases hq
      | cons y r ih =>
        intro h q hq
        simp only [LV.allK.allC, Bool.and_eq_true] at h
        rcases List.mem_cons.1 hq with rfl | hq
        · exact h.1
        · exact ih h.2 q hq
    have : (cap.map fun p => Value.pointer (some ⟨β p.1, p.2, none⟩)) = cap.map fun p => Value.pointer (some ⟨β' p.1, p.2, none⟩) := by
      refine List.map_congr_left fun q hq => ?_
      rw [(hS q.1 (hall hp q hq)).1]
    rw [this]; exact .fn f cap
  | mpr k => intro hp; obtain ⟨e1, _⟩ := hS k hp; rw [← e1]; exact .mpr k
  | ifc t x v _ ih => intro hp; exact .ifc t x v (ih hp)
  | agg cs vs hl _ h1 ih => intro hp; exact .agg cs vs hl (fun i x v hi hv => ih i x v hi hv (allL_mem hp x (List.mem_of_getElem? hi))) h1
  | tup cs vs hl _ ih => intro hp; exact .tup cs vs hl fun i x v hi hv => ih i x v hi hv (allL_mem hp x (List.mem_of_getElem? hi))

theorem exP_look {st : St} {env : Env} : ∀ {ex : Env}, exP ρ st env ex → ∀ {n : Nat} {x : LV}, look ex n = some x → look env n = some x ∧ ∃ q i sz off len o, x = .osl (.sub (.cur q) i) sz off len ∧ bk ρ q = none ∧ st.get (.sub (.cur q) i) = some o
  | [], _, n, x, h => by simp [look] at h
  | p :: r, hp, n, x, h => by
    rw [look_cons] at h
    split at h
    · rename_i he; cases h; subst he; exact hp.1
    · exact exP_look hp.2 h
theorem modH_core (ρ : Ren) (ex : Env) {f : Nat} {N : Nat} {a : Act} {w : World} {E : Ent} {β : K → Nat} {RO : Nat → Prop} {vals : List Value} {env : Env} {st : St} {K' : LV → Env → St → Prop} {margs : List LV} {fr : Fr} {pins : List (Nat × Nat)} {Post : LV → Fr → Prop} (h : SR E N β RO env st a w) (hs : SpecM P f margs fr pins Post) (hv : Vals β RO w (mapV.mapL (renK ρ) margs) vals)
    (hk : (rhoB ρ ρ && (LV.allK.allL (domK ρ) margs && (domF ρ fr && mitB ρ st.cur))) = true) (ho : modO ρ st.cur fr) (hex : exP ρ st env ex) (hK : ∀ r ro, Post r ro → backX ρ pins ex r ro env st K') :
    FnOK P f ∧ Calls P f vals.toArray w fun e w' => ∃ v x env' st' β' RO', e = .returned v ∧ K' x env' st' ∧ SR E N β' RO' env' st' a w' ∧ VL β' RO' w' x v := by
  simp only [Bool.and_eq_true] at hk
  obtain ⟨hρ, hda, hdf, hmit⟩ := hk
  have hcan : ∀ {k : K}, domK ρ k = true → E.can (renK ρ k) := fun hd h => by rw [(ren_fr hd).1] at h; cases h
  have hWr : ∀ b, (entM (fun k => β (renK ρ k)) RO w fr).Wr b → ∃ k o, st.get (renK ρ k) = some o ∧ domK ρ k = true ∧ b = β (renK ρ k) := fun b ⟨k, o, hg, hb⟩ => by
    obtain ⟨g1, g2⟩ := frag_get ho hg
    exact ⟨k, _, g2, g1, hb⟩
  have hwr : WR (entM (fun k => β (renK ρ k)) RO w fr) (fun k => β (renK ρ k)) RO ⟨[], fr⟩ w := by
    refine ⟨rfl, rfl, rfl, Nat.le_refl _, fun _ _ _ => rfl, h.wr.roLt, fun _ h => h, fun _ h => .inl h, fun k o hg => ?_, fun k o hg _ => .inl ⟨k, o, hg, rfl⟩, fun k k' o o' hg hg' _ _ he => ?_, fun k o hg _ => ?_, fun k o hg hc => ?_, fun _ _ _ => rfl⟩
    · obtain ⟨g1, g2⟩ := frag_get ho hg
      exact ObOK.unmap (fun _ _ => rfl) (h.wr.obj _ _ g2)
    · obtain ⟨g1, g2⟩ := frag_get ho hg
      obtain ⟨f1, f2⟩ := frag_get ho hg'
      exact ren_inj hρ g1 f1 (h.wr.inj _ _ _ _ g2 f2 (hcan g1) (hcan f1) he)
    · obtain ⟨g1, g2⟩ := frag_get ho hg
      exact h.wr.sep _ _ g2 (hcan g1)
    · obtain ⟨g1, g2⟩ := frag_get ho hg
      exact absurd (fun h => by rw [(ren_fr g1).2] at h; cases h) hc
  have hvals : Vals (fun k => β (renK ρ k)) RO w margs vals := by
    refine ⟨by have := hv.1; rw [mapL_eq] at this; simpa using this, fun i x v hx hvx => ?_⟩
    exact VL.unmap (hv.2 i _ v (by rw [mapL_eq, List.getElem?_map, hx]; rfl) hvx)
  refine ⟨hs.fn, (hs.calls _ RO w vals hwr hvals).mono ?_⟩
  rintro e w' ⟨v, r, ro, out', β', RO', rfl, hpost, hw', hr, hpin⟩
  obtain ⟨hd, hK'⟩ := hK r ro hpost
  simp only [Bool.and_eq_true] at hd
  obtain ⟨hdr, hdro⟩ := hd
  let β2 : K → Nat := fun k => match unK ρ k with | some k0 => β' k0 | none => β k
  have hβn : ∀ k, domK ρ k = true → β2 (renK ρ k) = β' k := fun k hd => by simp only [β2, un_ren hρ hd]
  have hβo : ∀ k, unK ρ k = none → β2 k = β k := fun k hu => by simp only [β2, hu]
  have hout : ∀ {k : K} {o : Ob}, unK ρ k = none → st.get k = some o → ¬ (entM (fun k => β (renK ρ k)) RO w fr).Wr (β k) := by
    intro k o hu hg hb
    obtain ⟨k1, o1, g1, g2, g3⟩ := hWr _ hb
    by_cases hc : E.can k
    · have := h.wr.inj _ _ _ _ hg g1 hc (hcan g2) g3
      rw [this, un_ren hρ g2] at hu; cases hu
    · exact h.wr.sep _ _ g1 (hcan g2) (g3 ▸ h.wr.fzRO k o hg hc)
  have hsame : ∀ {k : K} {o : Ob}, unK ρ k = none → st.get k = some o → w'.heap[β k]? = w.heap[β k]? := fun hu hg => hw'.keep _ (h.wr.obj _ _ hg).lt (hout hu hg)
  have hroW : ∀ b, RO b → w'.heap[b]? = w.heap[b]? := fun b hb => hw'.keep b (h.wr.roLt b hb) fun hbw => by
    obtain ⟨k1, o1, g1, g2, g3⟩ := hWr _ hbw
    exact h.wr.sep _ _ g1 (hcan g2) (g3 ▸ hb)
  have hro : ∀ b, RO b → RO' b := fun b hb => hw'.ro0 b hb
  have hliv : ∀ k, livK ρ pins st k = true → β2 k = β k ∧ ∀ e n, w.shape? (β k) = some (e, n) → ∃ e', w'.shape? (β k) = some (e', n) := by
    intro k hk
    cases k with
    | cur n =>
      simp only [livK] at hk
      split at hk
      · rename_i s hs'
        split at hk
        · rename_i sz hp
          obtain ⟨g1, g2⟩ := hpin s sz hp
          obtain ⟨f1, f2⟩ := rhoB_mem hρ (bk_mem hs')
          have e1 : renK ρ (.cur s) = .cur n := by simp only [renK, f1]
          simp only [e1] at g1 g2
          exact ⟨by show (match unK ρ (.cur n) with | some k0 => β' k0 | none => β (.cur n)) = _; simp only [unK, hs']; exact g1, g2⟩
        · cases hk
      · rename_i hs'
        have hu : unK ρ (.cur n) = none := by simp only [unK, hs']
        split at hk
        · rename_i o hl
          refine ⟨hβo _ hu, fun e m he => ⟨e, ?_⟩⟩
          rw [shape_of_block (hsame hu (k := .cur n) (o := o) hl)]; exact he
        · cases hk
    | fr => cases hk
    | sub => cases hk
  have hval : ∀ {x : LV} {u : Value}, VL β RO w x u → VL β2 RO' w' (livV ρ pins st x) u := by
    intro x u hx
    unfold livV
    split
    · rename_i hl; exact VL.mono3 hro hroW hliv hx hl
    · exact .bad u
  refine ⟨v, mapV (renK ρ) r, ex ++ livE ρ pins st env, ⟨[], modC ρ pins st ro st.cur⟩, β2, RO', rfl, hK', ⟨⟨hw'.os.trans h.wr.os, hw'.tape.trans h.wr.tape, hw'.output.trans h.wr.output, Nat.le_trans h.wr.size hw'.size, fun b hlt hnw => ?_, hw'.roLt, fun b hb => hro b (h.wr.ro0 b hb), fun b hb => ?_, fun k o hg => ?_, fun k o hg hc => ?_, fun k k' o o' hg hg' hc hc' heq => ?_, fun k o hg hc => ?_, fun k o hg hc => ?_, fun k hf hnm => ?_⟩, h.size, h.defers, fun n x hx => ?_⟩, ?_⟩
  · rw [hw'.keep b (Nat.lt_of_lt_of_le hlt h.wr.size) fun hb => ?_]
    · exact h.wr.keep b hlt hnw
    · obtain ⟨k1, o1, g1, g2, rfl⟩ := hWr _ hb
      rcases h.wr.objNew _ _ g1 (hcan g2) with h1 | h1
      · exact hnw h1
      · omega
  · rcases hw'.roNew b hb with h1 | h1 | h1
    · exact h.wr.roNew b h1
    · exact .inr (.inl (Nat.le_trans h.wr.size h1))
    · obtain ⟨k1, o1, g1, g2, rfl⟩ := hWr _ h1
      rcases h.wr.objNew _ _ g1 (hcan g2) with h2 | h2
      · exact .inr (.inr h2)
      · exact .inr (.inl h2)
  · rcases mod_get (out' := out') hg with ⟨k0, o0, h1, h2, rfl, h3⟩ | ⟨h1, hnf, o0, h2, rfl⟩
    · obtain ⟨g1, g2, _⟩ := ren_un hρ h1
      rw [← g1]
      have hok := hw'.obj k0 o0 h2
      refine ObOK.map (p := domK ρ) (β2 := β2) (fun k hk => hβn k hk) (fun _ _ => rfl) g2 (fun _ => g2) hok ?_
      cases k0 with
      | cur s => exact (domF_look hdro h2).2
      | fr i s => cases h3
      | sub k i => obtain ⟨_, _, _, _, _, _, _, rfl⟩ := St.get_sub h2; rfl
    · have hok := h.wr.obj k o0 h2
      have hrest : (∀ cs, o0 ≠ .box cs) → ObOK β2 RO' w' k o0 := fun hnb => by
        refine hok.keep hro hroW (hβo k h1) (hsame h1 h2) (fun cs hcs => absurd hcs (hnb cs)) (fun eo e sz rs ho1 i es hi => ?_) fun m l ho1 => ?_
        · have hus : unK ρ (.sub k i) = none := by simp only [unK, h1]
          have hgs : st.get (.sub k i) = some (.row e sz es) := by
            rw [ho1] at h2
            simp only [St.get, h2, hi]
          exact ⟨hβo _ hus, fun r hr => by rw [shape_of_block (hsame hus hgs)]; exact hr⟩
        · have hm : unK ρ m = none := by
            subst ho1
            cases k with
            | cur n => exact mitB_look hmit h2
            | fr i n => cases hnf
            | sub k i => obtain ⟨_, _, _, _, _, _, _, h6⟩ := St.get_sub h2; cases h6
          rw [ho1] at hok
          obtain ⟨seen, ents, clock, _, hm2, hm3, _⟩ := hok
          exact ⟨hβo _ hm, hroW _ hm3⟩
      cases o0 with
      | box cs =>
        obtain ⟨vs, ety, g1, g2, g3, g4⟩ := hok
        refine ⟨vs, ety, by rw [hβo k h1, hsame h1 h2]; exact g1, by simp only [livL_eq]; simpa using g2, fun i x v hx hvx => ?_, g4⟩
        rw [livL_eq, List.getElem?_map] at hx
        cases hc : cs[i]? with
        | none => simp [hc] at hx
        | some y => simp [hc] at hx; rw [← hx]; exact hval (g3 i y v hc hvx)
      | row e sz es => exact hrest fun cs hcs => by cases hcs
      | grid eo e sz rs => exact hrest fun cs hcs => by cases hcs
      | mp kd kv => exact hrest fun cs hcs => by cases hcs
      | mit m l => exact hrest fun cs hcs => by cases hcs
  · rcases mod_get (out' := out') hg with ⟨k0, o0, h1, h2, _, h3⟩ | ⟨h1, _, o0, h2, _⟩
    · obtain ⟨g1, g2, _⟩ := ren_un hρ h1
      rw [← g1, hβn k0 g2]
      rcases hw'.objNew k0 o0 h2 (fun hf => by rw [h3] at hf; cases hf) with h4 | h4
      · obtain ⟨k1, o1, f1, f2, f3⟩ := hWr _ h4
        rw [f3]; exact h.wr.objNew _ _ f1 (hcan f2)
      · exact .inr (Nat.le_trans h.wr.size h4)
    · rw [hβo k h1]; exact h.wr.objNew k o0 h2 hc
  · have key : ∀ {k k' : K} {k0 : K} {o0 o0' : Ob}, unK ρ k = some k0 → St.get ⟨out', ro⟩ k0 = some o0 → k0.isFr = false → unK ρ k' = none → st.get k' = some o0' → β2 k = β2 k' → False := by
      intro k k' k0 o0 o0' h1 h2 h3 f1 f2 he
      obtain ⟨g1, g2, _⟩ := ren_un hρ h1
      rw [← g1, hβn k0 g2, hβo k' f1] at he
      rcases hw'.objNew k0 o0 h2 (fun hf => by rw [h3] at hf; cases hf) with h4 | h4
      · rw [he] at h4; exact hout f1 f2 h4
      · have := (h.wr.obj k' o0' f2).lt
        rw [← he] at this
        exact absurd (Nat.lt_of_lt_of_le this h4) (Nat.lt_irrefl _)
    rcases mod_get (out' := out') hg with ⟨k0, o0, h1, h2, _, h3⟩ | ⟨h1, _, o0, h2, _⟩ <;> rcases mod_get (out' := out') hg' with ⟨k0', o0', f1, f2, _, f3⟩ | ⟨f1, _, o0', f2, _⟩
    · obtain ⟨g1, g2, _⟩ := ren_un hρ h1
      obtain ⟨g1', g2', _⟩ := ren_un hρ f1
      have he : β' k0 = β' k0' := by
        have := heq
        simp only [β2, h1, f1] at this
        exact this
      rw [← g1, ← g1', hw'.inj k0 k0' o0 o0' h2 f2 (fun hf => by rw [h3] at hf; cases hf) (fun hf => by rw [f3] at hf; cases hf) he]
    · exact (key h1 h2 h3 f1 f2 heq).elim
    · exact (key f1 f2 f3 h1 h2 heq.symm).elim
    · exact h.wr.inj k k' o0 o0' h2 f2 hc hc' (by rw [← hβo k h1, ← hβo k' f1]; exact heq)
  · rcases mod_get (out' := out') hg with ⟨k0, o0, h1, h2, _, h3⟩ | ⟨h1, _, o0, h2, _⟩
    · obtain ⟨g1, g2, _⟩ := ren_un hρ h1
      rw [← g1, hβn k0 g2]
      exact hw'.sep k0 o0 h2 (fun hf => by rw [h3] at hf; cases hf)
    · rw [hβo k h1]
      intro hb
      rcases hw'.roNew _ hb with h4 | h4 | h4
      · exact h.wr.sep k o0 h2 hc h4
      · exact absurd (Nat.lt_of_lt_of_le (h.wr.obj k o0 h2).lt h4) (Nat.lt_irrefl _)
      · exact hout h1 h2 h4
  · rcases mod_get (out' := out') hg with ⟨k0, o0, h1, h2, _, h3⟩ | ⟨h1, _, o0, h2, _⟩
    · obtain ⟨g1, g2, g3⟩ := ren_un hρ h1
      exact absurd (fun hf => by rw [g3] at hf; cases hf) hc
    · rw [hβo k h1]; exact hro _ (h.wr.fzRO k o0 h2 hc)
  · have hu : unK ρ k = none := by
      cases hu : unK ρ k with
      | none => rfl
      | some k0 => rw [(ren_un hρ hu).2.2] at hf; cases hf
    rw [hβo k hu]; exact h.wr.stay k hf hnm
  · rcases look_app hx with hx | ⟨_, hx⟩
    · obtain ⟨hy, q, i, sz, off, len, o, rfl, hq1, hq2⟩ := exP_look hex hx
      obtain ⟨u, g1, g2⟩ := h.env n _ hy
      refine ⟨u, g1, ?_⟩
      have hu : unK ρ (.sub (.cur q) i) = none := by simp only [unK, hq1]
      cases g2 with
      | osl _ _ _ _ cap e n a b c d =>
        rw [← hβo _ hu]
        exact .osl _ _ _ _ cap e n a (by rw [hβo _ hu, shape_of_block (hsame hu hq2)]; exact b) c d
    · obtain ⟨y, hy, rfl⟩ := look_livE hx
      obtain ⟨u, g1, g2⟩ := h.env n y hy
      exact ⟨u, g1, hval g2⟩
  · exact VL.map (p := domK ρ) (β2 := β2) (fun k hk => hβn k hk) hr hdr

theorem modH_ok : HOK P fun f args _ env st K' => ModH P f args env st K' := by
  intro E N f s args vals env st K' β RO a w h hv hW
  cases hW with
  | mk ρ hs ha hk ho hK =>
    subst ha
    exact modH_core ρ [] h hs hv hk ho trivial hK
  | mkx ρ ex hs ha hk ho hex hK =>
    subst ha
    exact modH_core ρ ex h hs hv hk ho hex hK

/-- Less is told of a row that comes back. -/
theorem SpecM.trunc {f : Nat} {args : List LV} {fr : Fr} {pins : List (Nat × Nat)} {Post Post' : LV → Fr → Prop} (h : SpecM P f args fr pins Post)
    (hp : ∀ r ro, Post r ro → ∃ s e sz es n, look ro s = some (.row e sz es) ∧ Post' r (setCur ro s (.row e sz (es.take n)))) : SpecM P f args fr pins Post' := by
  refine ⟨h.fn, fun β RO w vals hw hv => (h.calls β RO w vals hw hv).mono ?_⟩
  rintro e w' ⟨v, r, ro, out', β', RO', he, h1, h2, h3, h4⟩
  obtain ⟨s, e, sz, es, n, g1, g2⟩ := hp r ro h1
  have hsr : SR (entM β RO w fr) 0 β' RO' [] ⟨out', ro⟩ { tmps := #[], defers := (entM β RO w fr).dfs } w' := ⟨h2, ⟨rfl, Nat.zero_le _⟩, rfl, fun n x hx => by simp [look] at hx⟩
  exact ⟨v, r, _, out', β', RO', he, g2, (hsr.trunc (n := n) g1).wr, h3, h4⟩

end
end Go.Fw

/- The value logic, part 30: a function that calls functions that write its own objects. -/
namespace Go.Fw
open Go

section
variable {C : Ctx} {P : Program} {E : Ent} {N : Nat} {β : K → Nat} {RO : Nat → Prop} {env : Env} {st : St} {a : Act} {w : World}

/-- A function is right where its body is, its calls as they are told. -/
theorem spec_walkH (hC : C.OK P) {f : Nat} {fn : Func} {c : Code} {args : List LV} {out : List Fr} {Post : LV → Fr → Prop} {H : HW} (hH : HOK P H) (kp : Kp) (od : Od) (hf : P.funcs[f]? = some fn) (hb : fn.body = some c) (hk : (Nat.ble fn.ntmps 1000000 && codeYOK fn.ntmps od c) = true) (hn : Nat.ble args.length fn.ntmps = true) (hfn : FnOK P f)
    (hW : LV.ok.okL args → wpcX C P noY H 0 kp od c (argE 0 args) ⟨out, []⟩ (retW C fn.results.toList Post)) : SpecP P f args out Post := by
  simp only [Bool.and_eq_true] at hk
  obtain ⟨hq, hk⟩ := hk
  have hq : fn.ntmps ≤ 1000000 := by simpa using hq
  have hn : args.length ≤ fn.ntmps := by simpa using hn
  refine ⟨hfn, fun β RO w vals hw hv => calls_out (r := none) (n := 0) ?_⟩
  have hlen : vals.length = args.length := hv.1.symm
  have hs : SR (entP β RO w) fn.ntmps β RO (argE 0 args) ⟨out, []⟩ { tmps := vals.toArray ++ Array.replicate (fn.ntmps - vals.toArray.size) undef, defers := [] } w := by
    refine ⟨hw, ⟨by simp; omega, hq⟩, rfl, fun n x hx => ?_⟩
    obtain ⟨_, h2⟩ := argE_look hx
    simp only [Nat.sub_zero] at h2
    have hlt : n < vals.length := by rw [hlen]; exact (List.getElem?_eq_some_iff.1 h2).1
    refine ⟨vals[n], ?_, hv.2 n x _ h2 (List.getElem?_eq_getElem hlt)⟩
    rw [tmpAt_lt (by omega), Array.getElem?_append_left (by simpa using hlt)]
    simp [hlt]
  refine callsIn_of_wp hf hb trivial (wpIn_mono (wpcX_in hC noY_ok hH c hk β RO _ _ _ w _ hs (hW hv.ok)) ?_)
  have fin : ∀ {env : Env} {st : St} {β' : K → Nat} {RO' : Nat → Prop} {a : Act} {w' : World}, (match resL C env st fn.results.toList with | some l => ∃ cs, keepW cs st.cur (Post (resV l)) | none => False) → SR (entP β RO w) fn.ntmps β' RO' env st a w' →
      a.defers = [] ∧ ∃ v, (results fn a.tmps).run P w' = .ok v w' ∧ ∃ v' r ro out' β' RO', Ending.returned v = .returned v' ∧ Post r ro ∧ WR (entP β RO w) β' RO' ⟨out', ro⟩ w' ∧ VL β' RO' w' r v' := by
    intro env st β' RO' a w' hq hs
    split at hq
    rotate_left
    · cases hq
    rename_i l hl
    obtain ⟨cs, hp⟩ := hq
    obtain ⟨cur', hp, hless⟩ := keepW_gives hp
    obtain ⟨v, h1, h2⟩ := res_run hC hs hl
    exact ⟨hs.defers, v, h1, v, resV l, cur', st.out, β', RO', rfl, hp, hs.wr.less (fun k o hk => get_less hless k o hk), h2⟩
  rintro e a w' ⟨env, st, β', RO', hq, hs⟩
  cases e with
  | normal => exact fin hq hs
  | ret => exact fin hq hs
  | _ => exact hq.elim

end
end Go.Fw

/- Printed by wip/tys.py: what the value logic is told of the types. -/
namespace Go.Fw
open Go Go.Proofs

def tys : List (Nat × TI) := [
  (3, ⟨.int .i64, 1, 8, [.int .i64 (0)]⟩),
  (23, ⟨.slice 3, 1, 24, [.slice none 0 0]⟩),
  (27, ⟨.struct [(0, 22), (1, 23), (2, 24), (3, 25)], 4, 96, [.slice none 0 0, .slice none 0 0, .slice none 0 0, .slice none 0 0]⟩),
  (53, ⟨.struct [(0, 9), (1, 3), (2, 24), (3, 51)], 4, 72, [.string ⟨#[]⟩, .int .i64 (0), .slice none 0 0, .slice none 0 0]⟩),
  (4, ⟨.bool, 1, 1, [.bool false]⟩),
  (57, ⟨.struct [(0, 24), (1, 55)], 3, 40, [.slice none 0 0, .int .i64 (0), .bool false]⟩),
  (55, ⟨.struct [(0, 3), (1, 4)], 2, 16, [.int .i64 (0), .bool false]⟩),
  (24, ⟨.slice 55, 1, 24, [.slice none 0 0]⟩),
  (25, ⟨.slice 53, 1, 24, [.slice none 0 0]⟩),
  (51, ⟨.slice 57, 1, 24, [.slice none 0 0]⟩),
  (22, ⟨.slice 9, 1, 24, [.slice none 0 0]⟩),
  (9, ⟨.str, 1, 16, [.string ⟨#[]⟩]⟩),
  (33, ⟨.int .i64, 1, 8, [.int .i64 (0)]⟩),
  (28, ⟨.slice 23, 1, 24, [.slice none 0 0]⟩),
  (83, ⟨.struct [(0, 3), (1, 3)], 2, 16, [.int .i64 (0), .int .i64 (0)]⟩),
  (146, ⟨.int .u64, 1, 8, [.int .u64 (0)]⟩),
  (85, ⟨.slice 83, 1, 24, [.slice none 0 0]⟩),
  (5, ⟨.int .u8, 1, 1, [.int .u8 (0)]⟩),
  (116, ⟨.map 3 4, 1, 8, [.map none]⟩),
  (73, ⟨.map 9 4, 1, 8, [.map none]⟩),
  (40, ⟨.slice 4, 1, 24, [.slice none 0 0]⟩),
  (106, ⟨.struct [(0, 3), (1, 3), (2, 3)], 3, 24, [.int .i64 (0), .int .i64 (0), .int .i64 (0)]⟩),
  (87, ⟨.struct [(0, 85)], 1, 24, [.slice none 0 0]⟩),
  (80, ⟨.map 9 3, 1, 8, [.map none]⟩),
  (130, ⟨.int .u64, 1, 8, [.int .u64 (0)]⟩),
  (145, ⟨.int .u64, 1, 8, [.int .u64 (0)]⟩),
  (63, ⟨.map 3 3, 1, 8, [.map none]⟩),
  (143, ⟨.int .u32, 1, 4, [.int .u32 (0)]⟩),
  (108, ⟨.slice 5, 1, 24, [.slice none 0 0]⟩),
  (77, ⟨.slice 106, 1, 24, [.slice none 0 0]⟩),
  (81, ⟨.ptr 87, 1, 8, [.pointer none]⟩),
  (136, ⟨.int .i64, 1, 8, [.int .i64 (0)]⟩),
  (1, ⟨.other, 1, 8, [.nilFunc]⟩),
  (2, ⟨.int .i64, 1, 8, [.int .i64 (0)]⟩),
  (6, ⟨.int .u8, 1, 1, [.int .u8 (0)]⟩),
  (7, ⟨.struct [(0, 2), (1, 3), (2, 4), (3, 6)], 4, 24, [.int .i64 (0), .int .i64 (0), .bool false, .int .u8 (0)]⟩),
  (8, ⟨.struct [(0, 2), (1, 3), (2, 4), (3, 6)], 4, 24, [.int .i64 (0), .int .i64 (0), .bool false, .int .u8 (0)]⟩),
  (10, ⟨.str, 1, 16, [.string ⟨#[]⟩]⟩),
  (11, ⟨.str, 1, 16, [.string ⟨#[]⟩]⟩),
  (12, ⟨.int .u64, 1, 8, [.int .u64 (0)]⟩),
  (13, ⟨.struct [(0, 9), (1, 12)], 2, 24, [.string ⟨#[]⟩, .int .u64 (0)]⟩),
  (14, ⟨.struct [(0, 9), (1, 12)], 2, 24, [.string ⟨#[]⟩, .int .u64 (0)]⟩),
  (15, ⟨.ptr 157, 1, 8, [.pointer none]⟩),
  (16, ⟨.ptr 160, 1, 8, [.pointer none]⟩),
  (17, ⟨.ptr 168, 1, 8, [.pointer none]⟩),
  (18, ⟨.struct [(0, 17)], 1, 8, [.pointer none]⟩),
  (19, ⟨.struct [(0, 17)], 1, 8, [.pointer none]⟩),
  (20, ⟨.other, 1, 16, [.nilIface]⟩),
  (21, ⟨.int .i32, 1, 4, [.int .i32 (0)]⟩),
  (26, ⟨.struct [(0, 22), (1, 23), (2, 24), (3, 25)], 4, 96, [.slice none 0 0, .slice none 0 0, .slice none 0 0, .slice none 0 0]⟩),
  (29, ⟨.other, 1, 8, [.nilFunc]⟩),
  (30, ⟨.other, 1, 8, [.nilFunc]⟩),
  (31, ⟨.other, 1, 8, [.nilFunc]⟩),
  (32, ⟨.other, 1, 8, [.nilFunc]⟩),
  (35, ⟨.other, 1, 8, [.nilFunc]⟩),
  (36, ⟨.other, 1, 8, [.nilFunc]⟩),
  (37, ⟨.other, 1, 8, [.nilFunc]⟩),
  (38, ⟨.other, 1, 8, [.nilFunc]⟩),
  (39, ⟨.other, 1, 8, [.nilFunc]⟩),
  (41, ⟨.other, 1, 8, [.nilFunc]⟩),
  (42, ⟨.other, 1, 8, [.nilFunc]⟩),
  (43, ⟨.other, 1, 8, [.nilFunc]⟩),
  (45, ⟨.other, 1, 8, [.nilFunc]⟩),
  (46, ⟨.other, 1, 8, [.nilFunc]⟩),
  (48, ⟨.other, 1, 8, [.nilFunc]⟩),
  (49, ⟨.other, 1, 8, [.nilFunc]⟩),
  (50, ⟨.other, 1, 8, [.nilFunc]⟩),
  (52, ⟨.struct [(0, 9), (1, 3), (2, 24), (3, 51)], 4, 72, [.string ⟨#[]⟩, .int .i64 (0), .slice none 0 0, .slice none 0 0]⟩),
  (54, ⟨.struct [(0, 3), (1, 4)], 2, 16, [.int .i64 (0), .bool false]⟩),
  (56, ⟨.struct [(0, 24), (1, 55)], 3, 40, [.slice none 0 0, .int .i64 (0), .bool false]⟩),
  (58, ⟨.other, 1, 8, [.nilFunc]⟩),
  (59, ⟨.other, 1, 8, [.nilFunc]⟩),
  (60, ⟨.other, 1, 8, [.nilFunc]⟩),
  (61, ⟨.other, 1, 8, [.nilFunc]⟩),
  (62, ⟨.other, 1, 8, [.nilFunc]⟩),
  (64, ⟨.other, 1, 8, [.nilFunc]⟩),
  (65, ⟨.other, 1, 8, [.nilFunc]⟩),
  (66, ⟨.other, 1, 8, [.nilFunc]⟩),
  (67, ⟨.other, 1, 8, [.nilFunc]⟩),
  (68, ⟨.other, 1, 8, [.nilFunc]⟩),
  (69, ⟨.other, 1, 8, [.nilFunc]⟩),
  (70, ⟨.other, 1, 8, [.nilFunc]⟩),
  (71, ⟨.other, 1, 8, [.nilFunc]⟩),
  (72, ⟨.other, 1, 8, [.nilFunc]⟩),
  (74, ⟨.other, 1, 8, [.nilFunc]⟩),
  (75, ⟨.other, 1, 8, [.nilFunc]⟩),
  (76, ⟨.other, 1, 8, [.nilFunc]⟩),
  (78, ⟨.other, 1, 8, [.nilFunc]⟩),
  (79, ⟨.other, 1, 8, [.nilFunc]⟩),
  (82, ⟨.struct [(0, 3), (1, 3)], 2, 16, [.int .i64 (0), .int .i64 (0)]⟩),
  (84, ⟨.slice 83, 1, 24, [.slice none 0 0]⟩),
  (86, ⟨.struct [(0, 85)], 1, 24, [.slice none 0 0]⟩),
  (88, ⟨.other, 1, 8, [.nilFunc]⟩),
  (90, ⟨.other, 1, 8, [.nilFunc]⟩),
  (91, ⟨.other, 1, 8, [.nilFunc]⟩),
  (92, ⟨.other, 1, 8, [.nilFunc]⟩),
  (94, ⟨.other, 1, 8, [.nilFunc]⟩),
  (95, ⟨.other, 1, 8, [.nilFunc]⟩),
  (96, ⟨.other, 1, 8, [.nilFunc]⟩),
  (97, ⟨.other, 1, 8, [.nilFunc]⟩),
  (98, ⟨.other, 1, 8, [.nilFunc]⟩),
  (99, ⟨.other, 1, 8, [.nilFunc]⟩),
  (100, ⟨.other, 1, 8, [.nilFunc]⟩),
  (101, ⟨.other, 1, 8, [.nilFunc]⟩),
  (102, ⟨.other, 1, 8, [.nilFunc]⟩),
  (103, ⟨.other, 1, 8, [.nilFunc]⟩),
  (104, ⟨.other, 1, 8, [.nilFunc]⟩),
  (105, ⟨.struct [(0, 3), (1, 3), (2, 3)], 3, 24, [.int .i64 (0), .int .i64 (0), .int .i64 (0)]⟩),
  (107, ⟨.other, 1, 8, [.nilFunc]⟩),
  (109, ⟨.other, 1, 16, [.nilIface]⟩),
  (110, ⟨.other, 1, 16, [.nilIface]⟩),
  (111, ⟨.other, 1, 8, [.nilFunc]⟩),
  (112, ⟨.other, 1, 8, [.nilFunc]⟩),
  (113, ⟨.other, 1, 8, [.nilFunc]⟩),
  (114, ⟨.other, 1, 8, [.nilFunc]⟩),
  (115, ⟨.other, 1, 8, [.nilFunc]⟩),
  (117, ⟨.other, 1, 8, [.nilFunc]⟩),
  (118, ⟨.other, 1, 8, [.nilFunc]⟩),
  (119, ⟨.other, 1, 8, [.nilFunc]⟩),
  (120, ⟨.other, 1, 8, [.nilFunc]⟩),
  (121, ⟨.other, 1, 8, [.nilFunc]⟩),
  (122, ⟨.other, 1, 8, [.nilFunc]⟩),
  (123, ⟨.other, 1, 8, [.nilFunc]⟩),
  (124, ⟨.other, 1, 8, [.nilFunc]⟩),
  (125, ⟨.other, 1, 8, [.nilFunc]⟩),
  (126, ⟨.other, 1, 8, [.nilFunc]⟩),
  (127, ⟨.other, 1, 8, [.nilFunc]⟩),
  (128, ⟨.other, 1, 8, [.nilFunc]⟩),
  (129, ⟨.other, 1, 8, [.nilFunc]⟩),
  (131, ⟨.other, 1, 8, [.nilFunc]⟩),
  (132, ⟨.other, 1, 8, [.nilFunc]⟩),
  (133, ⟨.other, 1, 8, [.nilFunc]⟩),
  (134, ⟨.other, 1, 8, [.nilFunc]⟩),
  (135, ⟨.other, 1, 8, [.nilFunc]⟩),
  (138, ⟨.other, 1, 8, [.nilFunc]⟩),
  (139, ⟨.other, 1, 8, [.nilFunc]⟩),
  (140, ⟨.other, 1, 8, [.nilFunc]⟩),
  (141, ⟨.other, 1, 8, [.nilFunc]⟩),
  (142, ⟨.other, 1, 8, [.nilFunc]⟩),
  (144, ⟨.other, 1, 8, [.nilFunc]⟩),
  (147, ⟨.other, 1, 8, [.nilFunc]⟩),
  (148, ⟨.other, 1, 8, [.nilFunc]⟩),
  (149, ⟨.other, 1, 8, [.nilFunc]⟩),
  (150, ⟨.ptr 3, 1, 8, [.pointer none]⟩),
  (151, ⟨.other, 1, 8, [.nilFunc]⟩),
  (152, ⟨.ptr 146, 1, 8, [.pointer none]⟩),
  (154, ⟨.other, 1, 8, [.nilFunc]⟩),
  (155, ⟨.other, 1, 8, [.nilFunc]⟩),
  (156, ⟨.struct [(0, 17), (1, 17), (2, 17), (3, 9)], 4, 40, [.pointer none, .pointer none, .pointer none, .string ⟨#[]⟩]⟩),
  (157, ⟨.struct [(0, 17), (1, 17), (2, 17), (3, 9)], 4, 40, [.pointer none, .pointer none, .pointer none, .string ⟨#[]⟩]⟩),
  (158, ⟨.arr 0 16, 0, 0, []⟩),
  (159, ⟨.struct [(0, 158)], 0, 0, []⟩),
  (160, ⟨.struct [(0, 158)], 0, 0, []⟩),
  (161, ⟨.int .u8, 1, 1, [.int .u8 (0)]⟩),
  (162, ⟨.int .u8, 1, 1, [.int .u8 (0)]⟩),
  (163, ⟨.other, 1, 8, [.nilFunc]⟩),
  (164, ⟨.ptr 5, 1, 8, [.pointer none]⟩),
  (165, ⟨.int .i32, 1, 4, [.int .i32 (0)]⟩),
  (166, ⟨.int .i32, 1, 4, [.int .i32 (0)]⟩),
  (167, ⟨.struct [(0, 12), (1, 12), (2, 143), (3, 161), (4, 5), (5, 5), (6, 162), (7, 163), (8, 164), (9, 165), (10, 166)], 11, 48, [.int .u64 (0), .int .u64 (0), .int .u32 (0), .int .u8 (0), .int .u8 (0), .int .u8 (0), .int .u8 (0), .nilFunc, .pointer none, .int .i32 (0), .int .i32 (0)]⟩),
  (168, ⟨.struct [(0, 12), (1, 12), (2, 143), (3, 161), (4, 5), (5, 5), (6, 162), (7, 163), (8, 164), (9, 165), (10, 166)], 11, 48, [.int .u64 (0), .int .u64 (0), .int .u32 (0), .int .u8 (0), .int .u8 (0), .int .u8 (0), .int .u8 (0), .nilFunc, .pointer none, .int .i32 (0), .int .i32 (0)]⟩),
  (169, ⟨.other, 1, 8, [.pointer none]⟩)]

theorem tys_ok : TysOK Tryz.prog tys := ⟨
  ⟨by kernel_rfl, by kernel_rfl, by kernel_rfl, by kernel_rfl⟩,
  ⟨by kernel_rfl, by kernel_rfl, by kernel_rfl, by kernel_rfl⟩,
  ⟨by kernel_rfl, by kernel_rfl, by kernel_rfl, by kernel_rfl⟩,
  ⟨by kernel_rfl, by kernel_rfl, by kernel_rfl, by kernel_rfl⟩,
  ⟨by kernel_rfl, by kernel_rfl, by kernel_rfl, by kernel_rfl⟩,
  ⟨by kernel_rfl, by kernel_rfl, by kernel_rfl, by kernel_rfl⟩,
  ⟨by kernel_rfl, by kernel_rfl, by kernel_rfl, by kernel_rfl⟩,
  ⟨by kernel_rfl, by kernel_rfl, by kernel_rfl, by kernel_rfl⟩,
  ⟨by kernel_rfl, by kernel_rfl, by kernel_rfl, by kernel_rfl⟩,
  ⟨by kernel_rfl, by kernel_rfl, by kernel_rfl, by kernel_rfl⟩,
  ⟨by kernel_rfl, by kernel_rfl, by kernel_rfl, by kernel_rfl⟩,
  ⟨by kernel_rfl, by kernel_rfl, by kernel_rfl, by kernel_rfl⟩,
  ⟨by kernel_rfl, by kernel_rfl, by kernel_rfl, by kernel_rfl⟩,
  ⟨by kernel_rfl, by kernel_rfl, by kernel_rfl, by kernel_rfl⟩,
  ⟨by kernel_rfl, by kernel_rfl, by kernel_rfl, by kernel_rfl⟩,
  ⟨by kernel_rfl, by kernel_rfl, by kernel_rfl, by kernel_rfl⟩,
  ⟨by kernel_rfl, by kernel_rfl, by kernel_rfl, by kernel_rfl⟩,
  ⟨by kernel_rfl, by kernel_rfl, by kernel_rfl, by kernel_rfl⟩,
  ⟨by kernel_rfl, by kernel_rfl, by kernel_rfl, by kernel_rfl⟩,
  ⟨by kernel_rfl, by kernel_rfl, by kernel_rfl, by kernel_rfl⟩,
  ⟨by kernel_rfl, by kernel_rfl, by kernel_rfl, by kernel_rfl⟩,
  ⟨by kernel_rfl, by kernel_rfl, by kernel_rfl, by kernel_rfl⟩,
  ⟨by kernel_rfl, by kernel_rfl, by kernel_rfl, by kernel_rfl⟩,
  ⟨by kernel_rfl, by kernel_rfl, by kernel_rfl, by kernel_rfl⟩,
  ⟨by kernel_rfl, by kernel_rfl, by kernel_rfl, by kernel_rfl⟩,
  ⟨by kernel_rfl, by kernel_rfl, by kernel_rfl, by kernel_rfl⟩,
  ⟨by kernel_rfl, by kernel_rfl, by kernel_rfl, by kernel_rfl⟩,
  ⟨by kernel_rfl, by kernel_rfl, by kernel_rfl, by kernel_rfl⟩,
  ⟨by kernel_rfl, by kernel_rfl, by kernel_rfl, by kernel_rfl⟩,
  ⟨by kernel_rfl, by kernel_rfl, by kernel_rfl, by kernel_rfl⟩,
  ⟨by kernel_rfl, by kernel_rfl, by kernel_rfl, by kernel_rfl⟩,
  ⟨by kernel_rfl, by kernel_rfl, by kernel_rfl, by kernel_rfl⟩,
  ⟨by kernel_rfl, by kernel_rfl, by kernel_rfl, by kernel_rfl⟩,
  ⟨by kernel_rfl, by kernel_rfl, by kernel_rfl, by kernel_rfl⟩,
  ⟨by kernel_rfl, by kernel_rfl, by kernel_rfl, by kernel_rfl⟩,
  ⟨by kernel_rfl, by kernel_rfl, by kernel_rfl, by kernel_rfl⟩,
  ⟨by kernel_rfl, by kernel_rfl, by kernel_rfl, by kernel_rfl⟩,
  ⟨by kernel_rfl, by kernel_rfl, by kernel_rfl, by kernel_rfl⟩,
  ⟨by kernel_rfl, by kernel_rfl, by kernel_rfl, by kernel_rfl⟩,
  ⟨by kernel_rfl, by kernel_rfl, by kernel_rfl, by kernel_rfl⟩,
  ⟨by kernel_rfl, by kernel_rfl, by kernel_rfl, by kernel_rfl⟩,
  ⟨by kernel_rfl, by kernel_rfl, by kernel_rfl, by kernel_rfl⟩,
  ⟨by kernel_rfl, by kernel_rfl, by kernel_rfl, by kernel_rfl⟩,
  ⟨by kernel_rfl, by kernel_rfl, by kernel_rfl, by kernel_rfl⟩,
  ⟨by kernel_rfl, by kernel_rfl, by kernel_rfl, by kernel_rfl⟩,
  ⟨by kernel_rfl, by kernel_rfl, by kernel_rfl, by kernel_rfl⟩,
  ⟨by kernel_rfl, by kernel_rfl, by kernel_rfl, by kernel_rfl⟩,
  ⟨by kernel_rfl, by kernel_rfl, by kernel_rfl, by kernel_rfl⟩,
  ⟨by kernel_rfl, by kernel_rfl, by kernel_rfl, by kernel_rfl⟩,
  ⟨by kernel_rfl, by kernel_rfl, by kernel_rfl, by kernel_rfl⟩,
  ⟨by kernel_rfl, by kernel_rfl, by kernel_rfl, by kernel_rfl⟩,
  ⟨by kernel_rfl, by kernel_rfl, by kernel_rfl, by kernel_rfl⟩,
  ⟨by kernel_rfl, by kernel_rfl, by kernel_rfl, by kernel_rfl⟩,
  ⟨by kernel_rfl, by kernel_rfl, by kernel_rfl, by kernel_rfl⟩,
  ⟨by kernel_rfl, by kernel_rfl, by kernel_rfl, by kernel_rfl⟩,
  ⟨by kernel_rfl, by kernel_rfl, by kernel_rfl, by kernel_rfl⟩,
  ⟨by kernel_rfl, by kernel_rfl, by kernel_rfl, by kernel_rfl⟩,
  ⟨by kernel_rfl, by kernel_rfl, by kernel_rfl, by kernel_rfl⟩,
  ⟨by kernel_rfl, by kernel_rfl, by kernel_rfl, by kernel_rfl⟩,
  ⟨by kernel_rfl, by kernel_rfl, by kernel_rfl, by kernel_rfl⟩,
  ⟨by kernel_rfl, by kernel_rfl, by kernel_rfl, by kernel_rfl⟩,
  ⟨by kernel_rfl, by kernel_rfl, by kernel_rfl, by kernel_rfl⟩,
  ⟨by kernel_rfl, by kernel_rfl, by kernel_rfl, by kernel_rfl⟩,
  ⟨by kernel_rfl, by kernel_rfl, by kernel_rfl, by kernel_rfl⟩,
  ⟨by kernel_rfl, by kernel_rfl, by kernel_rfl, by kernel_rfl⟩,
  ⟨by kernel_rfl, by kernel_rfl, by kernel_rfl, by kernel_rfl⟩,
  ⟨by kernel_rfl, by kernel_rfl, by kernel_rfl, by kernel_rfl⟩,
  ⟨by kernel_rfl, by kernel_rfl, by kernel_rfl, by kernel_rfl⟩,
  ⟨by kernel_rfl, by kernel_rfl, by kernel_rfl, by kernel_rfl⟩,
  ⟨by kernel_rfl, by kernel_rfl, by kernel_rfl, by kernel_rfl⟩,
  ⟨by kernel_rfl, by kernel_rfl, by kernel_rfl, by kernel_rfl⟩,
  ⟨by kernel_rfl, by kernel_rfl, by kernel_rfl, by kernel_rfl⟩,
  ⟨by kernel_rfl, by kernel_rfl, by kernel_rfl, by kernel_rfl⟩,
  ⟨by kernel_rfl, by kernel_rfl, by kernel_rfl, by kernel_rfl⟩,
  ⟨by kernel_rfl, by kernel_rfl, by kernel_rfl, by kernel_rfl⟩,
  ⟨by kernel_rfl, by kernel_rfl, by kernel_rfl, by kernel_rfl⟩,
  ⟨by kernel_rfl, by kernel_rfl, by kernel_rfl, by kernel_rfl⟩,
  ⟨by kernel_rfl, by kernel_rfl, by kernel_rfl, by kernel_rfl⟩,
  ⟨by kernel_rfl, by kernel_rfl, by kernel_rfl, by kernel_rfl⟩,
  ⟨by kernel_rfl, by kernel_rfl, by kernel_rfl, by kernel_rfl⟩,
  ⟨by kernel_rfl, by kernel_rfl, by kernel_rfl, by kernel_rfl⟩,
  ⟨by kernel_rfl, by kernel_rfl, by kernel_rfl, by kernel_rfl⟩,
  ⟨by kernel_rfl, by kernel_rfl, by kernel_rfl, by kernel_rfl⟩,
  ⟨by kernel_rfl, by kernel_rfl, by kernel_rfl, by kernel_rfl⟩,
  ⟨by kernel_rfl, by kernel_rfl, by kernel_rfl, by kernel_rfl⟩,
  ⟨by kernel_rfl, by kernel_rfl, by kernel_rfl, by kernel_rfl⟩,
  ⟨by kernel_rfl, by kernel_rfl, by kernel_rfl, by kernel_rfl⟩,
  ⟨by kernel_rfl, by kernel_rfl, by kernel_rfl, by kernel_rfl⟩,
  ⟨by kernel_rfl, by kernel_rfl, by kernel_rfl, by kernel_rfl⟩,
  ⟨by kernel_rfl, by kernel_rfl, by kernel_rfl, by kernel_rfl⟩,
  ⟨by kernel_rfl, by kernel_rfl, by kernel_rfl, by kernel_rfl⟩,
  ⟨by kernel_rfl, by kernel_rfl, by kernel_rfl, by kernel_rfl⟩,
  ⟨by kernel_rfl, by kernel_rfl, by kernel_rfl, by kernel_rfl⟩,
  ⟨by kernel_rfl, by kernel_rfl, by kernel_rfl, by kernel_rfl⟩,
  ⟨by kernel_rfl, by kernel_rfl, by kernel_rfl, by kernel_rfl⟩,
  ⟨by kernel_rfl, by kernel_rfl, by kernel_rfl, by kernel_rfl⟩,
  ⟨by kernel_rfl, by kernel_rfl, by kernel_rfl, by kernel_rfl⟩,
  ⟨by kernel_rfl, by kernel_rfl, by kernel_rfl, by kernel_rfl⟩,
  ⟨by kernel_rfl, by kernel_rfl, by kernel_rfl, by kernel_rfl⟩,
  ⟨by kernel_rfl, by kernel_rfl, by kernel_rfl, by kernel_rfl⟩,
  ⟨by kernel_rfl, by kernel_rfl, by kernel_rfl, by kernel_rfl⟩,
  ⟨by kernel_rfl, by kernel_rfl, by kernel_rfl, by kernel_rfl⟩,
  ⟨by kernel_rfl, by kernel_rfl, by kernel_rfl, by kernel_rfl⟩,
  ⟨by kernel_rfl, by kernel_rfl, by kernel_rfl, by kernel_rfl⟩,
  ⟨by kernel_rfl, by kernel_rfl, by kernel_rfl, by kernel_rfl⟩,
  ⟨by kernel_rfl, by kernel_rfl, by kernel_rfl, by kernel_rfl⟩,
  ⟨by kernel_rfl, by kernel_rfl, by kernel_rfl, by kernel_rfl⟩,
  ⟨by kernel_rfl, by kernel_rfl, by kernel_rfl, by kernel_rfl⟩,
  ⟨by kernel_rfl, by kernel_rfl, by kernel_rfl, by kernel_rfl⟩,
  ⟨by kernel_rfl, by kernel_rfl, by kernel_rfl, by kernel_rfl⟩,
  ⟨by kernel_rfl, by kernel_rfl, by kernel_rfl, by kernel_rfl⟩,
  ⟨by kernel_rfl, by kernel_rfl, by kernel_rfl, by kernel_rfl⟩,
  ⟨by kernel_rfl, by kernel_rfl, by kernel_rfl, by kernel_rfl⟩,
  ⟨by kernel_rfl, by kernel_rfl, by kernel_rfl, by kernel_rfl⟩,
  ⟨by kernel_rfl, by kernel_rfl, by kernel_rfl, by kernel_rfl⟩,
  ⟨by kernel_rfl, by kernel_rfl, by kernel_rfl, by kernel_rfl⟩,
  ⟨by kernel_rfl, by kernel_rfl, by kernel_rfl, by kernel_rfl⟩,
  ⟨by kernel_rfl, by kernel_rfl, by kernel_rfl, by kernel_rfl⟩,
  ⟨by kernel_rfl, by kernel_rfl, by kernel_rfl, by kernel_rfl⟩,
  ⟨by kernel_rfl, by kernel_rfl, by kernel_rfl, by kernel_rfl⟩,
  ⟨by kernel_rfl, by kernel_rfl, by kernel_rfl, by kernel_rfl⟩,
  ⟨by kernel_rfl, by kernel_rfl, by kernel_rfl, by kernel_rfl⟩,
  ⟨by kernel_rfl, by kernel_rfl, by kernel_rfl, by kernel_rfl⟩,
  ⟨by kernel_rfl, by kernel_rfl, by kernel_rfl, by kernel_rfl⟩,
  ⟨by kernel_rfl, by kernel_rfl, by kernel_rfl, by kernel_rfl⟩,
  ⟨by kernel_rfl, by kernel_rfl, by kernel_rfl, by kernel_rfl⟩,
  ⟨by kernel_rfl, by kernel_rfl, by kernel_rfl, by kernel_rfl⟩,
  ⟨by kernel_rfl, by kernel_rfl, by kernel_rfl, by kernel_rfl⟩,
  ⟨by kernel_rfl, by kernel_rfl, by kernel_rfl, by kernel_rfl⟩,
  ⟨by kernel_rfl, by kernel_rfl, by kernel_rfl, by kernel_rfl⟩,
  ⟨by kernel_rfl, by kernel_rfl, by kernel_rfl, by kernel_rfl⟩,
  ⟨by kernel_rfl, by kernel_rfl, by kernel_rfl, by kernel_rfl⟩,
  ⟨by kernel_rfl, by kernel_rfl, by kernel_rfl, by kernel_rfl⟩,
  ⟨by kernel_rfl, by kernel_rfl, by kernel_rfl, by kernel_rfl⟩,
  ⟨by kernel_rfl, by kernel_rfl, by kernel_rfl, by kernel_rfl⟩,
  ⟨by kernel_rfl, by kernel_rfl, by kernel_rfl, by kernel_rfl⟩,
  ⟨by kernel_rfl, by kernel_rfl, by kernel_rfl, by kernel_rfl⟩,
  ⟨by kernel_rfl, by kernel_rfl, by kernel_rfl, by kernel_rfl⟩,
  ⟨by kernel_rfl, by kernel_rfl, by kernel_rfl, by kernel_rfl⟩,
  ⟨by kernel_rfl, by kernel_rfl, by kernel_rfl, by kernel_rfl⟩,
  ⟨by kernel_rfl, by kernel_rfl, by kernel_rfl, by kernel_rfl⟩,
  ⟨by kernel_rfl, by kernel_rfl, by kernel_rfl, by kernel_rfl⟩,
  ⟨by kernel_rfl, by kernel_rfl, by kernel_rfl, by kernel_rfl⟩,
  ⟨by kernel_rfl, by kernel_rfl, by kernel_rfl, by kernel_rfl⟩,
  ⟨by kernel_rfl, by kernel_rfl, by kernel_rfl, by kernel_rfl⟩,
  ⟨by kernel_rfl, by kernel_rfl, by kernel_rfl, by kernel_rfl⟩,
  ⟨by kernel_rfl, by kernel_rfl, by kernel_rfl, by kernel_rfl⟩,
  ⟨by kernel_rfl, by kernel_rfl, by kernel_rfl, by kernel_rfl⟩,
  ⟨by kernel_rfl, by kernel_rfl, by kernel_rfl, by kernel_rfl⟩,
  ⟨by kernel_rfl, by kernel_rfl, by kernel_rfl, by kernel_rfl⟩,
  ⟨by kernel_rfl, by kernel_rfl, by kernel_rfl, by kernel_rfl⟩,
  ⟨by kernel_rfl, by kernel_rfl, by kernel_rfl, by kernel_rfl⟩,
  ⟨by kernel_rfl, by kernel_rfl, by kernel_rfl, by kernel_rfl⟩,
  ⟨by kernel_rfl, by kernel_rfl, by kernel_rfl, by kernel_rfl⟩,
  ⟨by kernel_rfl, by kernel_rfl, by kernel_rfl, by kernel_rfl⟩,
  ⟨by kernel_rfl, by kernel_rfl, by kernel_rfl, by kernel_rfl⟩,
  ⟨by kernel_rfl, by kernel_rfl, by kernel_rfl, by kernel_rfl⟩,
  ⟨by kernel_rfl, by kernel_rfl, by kernel_rfl, by kernel_rfl⟩,
  ⟨by kernel_rfl, by kernel_rfl, by kernel_rfl, by kernel_rfl⟩,
  ⟨by kernel_rfl, by kernel_rfl, by kernel_rfl, by kernel_rfl⟩,
  ⟨by kernel_rfl, by kernel_rfl, by kernel_rfl, by kernel_rfl⟩,
  ⟨by kernel_rfl, by kernel_rfl, by kernel_rfl, by kernel_rfl⟩,
  trivial⟩

end Go.Fw

/- slices.Sort sorts a row of numbers where it lies. -/
namespace Go.Proofs
open Go Go.Shelf Go.Sort Go.RowKit
def Tryz.laysSort_ren : Go.Shelf.Ren := ⟨fun | 189 => 71 | 125 => 82 | 257 => 81 | 128 => 99 | 129 => 100 | 294 => 91 | 295 => 92 | 296 => 93 | 297 => 94 | 298 => 95 | 299 => 96 | 216 => 89 | 300 => 97 | 301 => 98 | 328 => 103 | 329 => 104 | 330 => 105 | 331 => 106 | 332 => 107 | 215 => 102 | 343 => 109 | n => n, fun | 28 => 23 | 3 => 3 | 46 => 130 | 0 => 0 | 51 => 143 | 53 => 145 | 4 => 4 | 183 => 137 | 182 => 136 | 131 => 93 | 5 => 5 | 9 => 9 | 218 => 146 | 222 => 150 | 228 => 152 | 229 => 153 | n => n, fun | n => n⟩
theorem Tryz.laysSort : Go.Proofs.Lays.n189 Tryz.prog Tryz.laysSort_ren where
  mixed := by kernel_rfl
  f125 := Tryz.func82.trans (congrArg some (by kernel_rfl))
  f128 := Tryz.func99.trans (congrArg some (by kernel_rfl))
  f129 := Tryz.func100.trans (congrArg some (by kernel_rfl))
  f189 := Tryz.func71.trans (congrArg some (by kernel_rfl))
  f215 := Tryz.func102.trans (congrArg some (by kernel_rfl))
  f216 := Tryz.func89.trans (congrArg some (by kernel_rfl))
  f257 := Tryz.func81.trans (congrArg some (by kernel_rfl))
  f294 := Tryz.func91.trans (congrArg some (by kernel_rfl))
  f295 := Tryz.func92.trans (congrArg some (by kernel_rfl))
  f296 := Tryz.func93.trans (congrArg some (by kernel_rfl))
  f297 := Tryz.func94.trans (congrArg some (by kernel_rfl))
  f298 := Tryz.func95.trans (congrArg some (by kernel_rfl))
  f299 := Tryz.func96.trans (congrArg some (by kernel_rfl))
  f300 := Tryz.func97.trans (congrArg some (by kernel_rfl))
  f301 := Tryz.func98.trans (congrArg some (by kernel_rfl))
  f328 := Tryz.func103.trans (congrArg some (by kernel_rfl))
  f329 := Tryz.func104.trans (congrArg some (by kernel_rfl))
  f330 := Tryz.func105.trans (congrArg some (by kernel_rfl))
  f331 := Tryz.func106.trans (congrArg some (by kernel_rfl))
  f332 := Tryz.func107.trans (congrArg some (by kernel_rfl))
  f343 := Tryz.func109.trans (congrArg some (by kernel_rfl))
  t0 := Tryz.underlying0
  a0 := Tryz.isAgg0
  z0 := Tryz.sizeOf0
  v0 := Tryz.zeroValue0
  t3 := Tryz.underlying3
  a3 := Tryz.isAgg3
  z3 := Tryz.sizeOf3
  v3 := Tryz.zeroValue3
  t4 := Tryz.underlying4
  a4 := Tryz.isAgg4
  z4 := Tryz.sizeOf4
  v4 := Tryz.zeroValue4
  t5 := Tryz.underlying5
  a5 := Tryz.isAgg5
  z5 := Tryz.sizeOf5
  v5 := Tryz.zeroValue5
  t9 := Tryz.underlying9
  a9 := Tryz.isAgg9
  z9 := Tryz.sizeOf9
  v9 := Tryz.zeroValue9
  t28 := Tryz.underlying23
  a28 := Tryz.isAgg23
  z28 := Tryz.sizeOf23
  v28 := Tryz.zeroValue23
  t46 := Tryz.underlying130
  a46 := Tryz.isAgg130
  z46 := Tryz.sizeOf130
  v46 := Tryz.zeroValue130
  t51 := Tryz.underlying143
  a51 := Tryz.isAgg143
  z51 := Tryz.sizeOf143
  v51 := Tryz.zeroValue143
  t53 := Tryz.underlying145
  a53 := Tryz.isAgg145
  z53 := Tryz.sizeOf145
  v53 := Tryz.zeroValue145
  t131 := Tryz.underlying93
  a131 := Tryz.isAgg93
  z131 := Tryz.sizeOf93
  v131 := Tryz.zeroValue93
  t182 := Tryz.underlying136
  a182 := Tryz.isAgg136
  z182 := Tryz.sizeOf136
  v182 := Tryz.zeroValue136
  t183 := Tryz.underlying137
  a183 := Tryz.isAgg137
  z183 := Tryz.sizeOf137
  v183 := Tryz.zeroValue137
  t218 := Tryz.underlying146
  a218 := Tryz.isAgg146
  z218 := Tryz.sizeOf146
  v218 := Tryz.zeroValue146
  t222 := Tryz.underlying150
  a222 := Tryz.isAgg150
  z222 := Tryz.sizeOf150
  v222 := Tryz.zeroValue150
  t228 := Tryz.underlying152
  a228 := Tryz.isAgg152
  z228 := Tryz.sizeOf152
  v228 := Tryz.zeroValue152
  t229 := Tryz.underlying153
  a229 := Tryz.isAgg153
  z229 := Tryz.sizeOf153
  v229 := Tryz.zeroValue153
theorem try_sort : Fw.SortOK Tryz.prog 71 := by
  refine ⟨by kernel_rfl, fun w => ?_, fun w g cap ty zs cur hg hc hl => ?_⟩
  · refine (calls_of_every_depth fun D => AnyS.slices_Sort_int_none_in Tryz.laysSort D none 0 w).mono ?_
    rintro e w' ⟨rfl, rfl⟩
    exact ⟨rfl, rfl, rfl, rfl, Nat.le_refl _, fun _ _ => rfl⟩
  · have hlen : zs.length ≤ cur.size := by
      have := congrArg List.length hc
      simp at this; omega
    have hget : ∀ j, j < zs.length → cur[j]? = some (.int .i64 zs[j]!) := fun j hj => by
      have h1 : (cur.toList.take zs.length)[j]? = (zs.map (Value.int .i64))[j]? := by rw [hc]
      rw [List.getElem?_take, if_pos hj, List.getElem?_map] at h1
      simpa [hj] using h1
    have hH : Holds (Value.int .i64) w g 0 zs.toArray := by
      intro j hj
      have hj : j < zs.length := by simpa using hj
      have hgj := hget j hj
      refine ⟨?_, ?_⟩
      · simp only [World.cell?, hg, Nat.zero_add]
        simpa [hj] using hgj
      · simp [World.frozen?, hg]
    refine (calls_of_every_depth fun D => AnyS.slices_Sort_int_in Tryz.laysSort D g 0 cap zs w hH (Array.getElem?_eq_some_iff.1 hg).1 (by omega)).mono ?_
    rintro e w' ⟨rfl, n, os, rfl⟩
    have hb : ∀ b, b < w.heap.size → (grow (putRow (Value.int .i64) (Sort.ahead w n) g 0 (zs.mergeSort fun x y => decide (x ≤ y)).toArray) os).heap[b]? = (putRow (Value.int .i64) w g 0 (zs.mergeSort fun x y => decide (x ≤ y)).toArray).heap[b]? := fun b hb => by
      show ((putRow (Value.int .i64) (Sort.ahead w n) g 0 (zs.mergeSort fun x y => decide (x ≤ y)).toArray).heap ++ os)[b]? = _
      rw [Array.getElem?_append_left (by simpa [putRow, mapBlock, Sort.ahead] using hb)]
      rfl
    have hglt : g < w.heap.size := (Array.getElem?_eq_some_iff.1 hg).1
    have hms : (zs.mergeSort fun x y => decide (x ≤ y)).length = zs.length := List.length_mergeSort ..
    refine ⟨rfl, rfl, rfl, rfl, ?_, fun b hlt hne => ?_, putCells (Value.int .i64) 0 (zs.mergeSort fun x y => decide (x ≤ y)).toArray cur, ?_, ?_, ?_⟩
    · show w.heap.size ≤ ((putRow (Value.int .i64) (Sort.ahead w n) g 0 (zs.mergeSort fun x y => decide (x ≤ y)).toArray).heap ++ os).size
      rw [Array.size_append]
      have : (putRow (Value.int .i64) (Sort.ahead w n) g 0 (zs.mergeSort fun x y => decide (x ≤ y)).toArray).heap.size = w.heap.size := by simp [putRow, mapBlock, Sort.ahead]
      omega
    · rw [hb b hlt]
      simp [putRow, mapBlock, Array.getElem?_modify, Ne.symm hne]
    · rw [hb g hglt]
      simp [putRow, mapBlock, Array.getElem?_modify, hg]
      rfl
    · simp [putCells]
    · refine List.ext_getElem? fun i => ?_
      rw [List.getElem?_take, List.getElem?_map]
      split
      · rename_i hi
        have hgi := hget i hi
        simp only [putCells, Array.getElem?_toList, Array.getElem?_mapIdx, hgi, Option.map_some]
        rw [if_pos ⟨by omega, by simp [hms]; omega⟩]
        have hi' : i < (zs.mergeSort fun x y => decide (x ≤ y)).length := by omega
        simp only [List.getElem!_toArray, Nat.sub_zero, List.getElem!_eq_getElem?_getD, List.getElem?_eq_getElem hi', Option.getD_some, Option.map_some]
      · rw [List.getElem?_eq_none (by omega)]; rfl

end Go.Proofs

/- What is told of the program. -/
namespace Go.Fw
open Go Go.Proofs

/-! ### The context -/
def cx : Ctx := { tys := tys, eqs := [(55, [.int .i64, .bool])], exts := [(108, 1)], srt := [(71, 1)] }
theorem ext108 (s : ByteArray) (c : Int) (w : World) : (callFunc 108 #[.string s, .int .u8 c]).run Tryz.prog w = .ok (.value (.int .i64 (Lib.indexByte s.data.toList c.toNat.toUInt8))) w := by
  rw [run_callFunc_extern (P := Tryz.prog) (f := 108) (fn := Tryz.f108) (e := Extern.BytealgIndexByte.indexByte) (by kernel_rfl) (by kernel_rfl) (by kernel_rfl) (by kernel_rfl) (by kernel_rfl), Lib.run_indexByteString]
  rfl
theorem cx_eqs : ∀ t ds, look cx.eqs t = some ds → Tryz.prog.eqGuardType Tryz.prog.depth t = false ∧
    ∀ (w : World) (xs ys : List Value) (r : Bool), eqVs ds xs ys = some r → (Op.equalIn 10000 t (.agg xs.toArray) (.agg ys.toArray)).run Tryz.prog w = .ok r w := fun t n h => by
  simp only [cx, look] at h
  split at h
  · rename_i ht
    cases h
    have : t = 55 := by have := Nat.eq_of_beq_eq_true ht; exact this.symm
    subst this
    exact ⟨by kernel_rfl, eqs_fields tys_ok (by kernel_rfl) (by kernel_rfl) (by kernel_rfl)⟩
  · cases h
theorem cx_exts : ∀ f k, look cx.exts f = some k → ∀ (s : ByteArray) (c : Int) (w : World), (callFunc f #[.string s, .int .u8 c]).run Tryz.prog w = .ok (.value (.int .i64 (Lib.indexByte s.data.toList c.toNat.toUInt8))) w := fun f k h => by
  simp only [cx, look] at h
  split at h
  · rename_i ht
    have : f = 108 := by have := Nat.eq_of_beq_eq_true ht; exact this.symm
    subst this
    exact ext108
  · cases h
theorem cx_srt : ∀ f k, look cx.srt f = some k → SortOK Tryz.prog f := fun f k h => by
  simp only [cx, look] at h
  split at h
  · rename_i ht
    have : f = 71 := by have := Nat.eq_of_beq_eq_true ht; exact this.symm
    subst this
    exact try_sort
  · cases h
theorem cx_ok : cx.OK Tryz.prog := ⟨by kernel_rfl, tys_ok, cx_eqs, cx_exts, cx_srt⟩
/-- The same, where sums may wrap. -/
def cxw : Ctx := { cx with wrap := true }
theorem cxw_ok : cxw.OK Tryz.prog := ⟨cx_ok.mixed, cx_ok.tys, cx_ok.eqs, cx_ok.exts, cx_ok.srt⟩
/-- The same, for functions that write objects of their callers: these are called by what is said of them. -/
def cxm : Ctx := { cx with slz := true, inl := [(48, 1), (49, 1), (52, 1), (67, 1), (72, 1), (126, 1), (127, 1), (128, 1), (129, 1)] }
theorem cxm_ok : cxm.OK Tryz.prog := ⟨cx_ok.mixed, cx_ok.tys, cx_ok.eqs, cx_ok.exts, cx_ok.srt⟩
abbrev modH (P : Program) : HW := fun f args _ env st K' => ModH P f args env st K'
theorem mH_ok {P : Program} : HOK P (modH P) := modH_ok

end Go.Fw

/- What the program's functions do, part 1: lists of numbers and literals. -/
namespace Go.Fw
open Go Go.Proofs
set_option maxRecDepth 10000

def od37 : Od := [(6, [(0, .pure), (1, .pure), (2, .pure), (3, .pure), (4, .pure), (5, .pure), (6, .pure), (7, .pure), (8, .pure)])]
def kp37 : Kp := [(4, ([0, 1, 12, 13], []))]

theorem f37_spec (n1 n2 : Bool) (l m : List Int) (out : List Fr) : SpecP Tryz.prog 37 [.ints n1 l, .ints n2 m] out fun r ro => r = .bool (l == m) ∧ ro = [] := by
  refine spec_body cx_ok kp37 od37 (fn := Tryz.f37) (by kernel_rfl) rfl (by kernel_rfl) rfl (by unfold FnOK; kernel_rfl) fun hok => ?_
  refine And.intro (fun h => ?_) fun h => ?_
  · refine Exists.intro [] (And.intro ?_ rfl)
    have : l ≠ m := by rintro rfl; simp at h
    show LV.t (.v (.bool false)) = .t (.v (.bool (l == m)))
    simp [this]
  · have hlen : l.length = m.length := by simp at h; omega
    have hmx := le_max hok.1.1
    refine LoopW.mk Nat (fun i => i ≤ l.length ∧ l.take i = m.take i) (fun i => [(0, .ints n1 l), (1, .ints n2 m), (12, .int (l.map tI).length), (13, .int i)]) (fun _ => ⟨out, []⟩) (fun i => l.length - i) 0 ⟨Nat.zero_le _, rfl⟩ ⟨rfl, rfl⟩ fun i hI => ?_
    refine And.intro (fun h1 => ?_) fun h1 => ?_
    · have hi := lt_of_dec h1
      have hi2 : i < m.length := by omega
      refine And.intro (by omega) (Exists.intro _ (And.intro (get_map hi) ?_))
      refine And.intro (by omega) (Exists.intro _ (And.intro (get_map hi2) ?_))
      refine And.intro (fun h2 => ?_) fun h2 => ?_
      · refine Exists.intro [] (And.intro ?_ rfl)
        have : l ≠ m := by rintro rfl; simp at h2
        show LV.t (.v (.bool false)) = .t (.v (.bool (l == m)))
        simp [this]
      · have h3 : l[i] = m[i] := by simpa using h2
        refine And.intro (by omega) (And.intro (by omega) ?_)
        refine Exists.intro (i + 1) (And.intro (by show l.length - (i + 1) < l.length - i; omega) (And.intro ⟨hi, ?_⟩ (And.intro rfl rfl)))
        rw [List.take_add_one, List.take_add_one, hI.2]; simp [hi, hi2, h3]
    · have hi : i = l.length := by have := hI.1; have := ge_of_dec h1; omega
      refine Exists.intro [] (And.intro ?_ rfl)
      have : l = m := by have := hI.2; rw [hi, List.take_length, hlen, List.take_length] at this; exact this
      show LV.t (.v (.bool true)) = .t (.v (.bool (l == m)))
      simp [this]

/-! ### Has, Holds -/
def hasB (l : List Int) (x : Int) : Bool := l.any (· == x)
def od16 : Od := []
def kp16 : Kp := [(2, ([1, 7, 8, 9], []))]
theorem f16_spec (n1 : Bool) (l : List Int) (x : Int) (out : List Fr) : SpecP Tryz.prog 16 [.ints n1 l, .int x] out fun r ro => r = .bool (hasB l x) ∧ ro = [] := by
  refine spec_body cx_ok kp16 od16 (fn := Tryz.f16) (by kernel_rfl) rfl (by kernel_rfl) rfl (by unfold FnOK; kernel_rfl) fun hok => ?_
  have hmx := le_max hok.1.1
  refine LoopW.mk Nat (fun i => i ≤ l.length ∧ (l.take i).any (· == x) = false) (fun i => [(1, .int x), (7, .ints n1 l), (8, .int (l.map tI).length), (9, .int i)]) (fun _ => ⟨out, []⟩) (fun i => l.length - i) 0 ⟨Nat.zero_le _, rfl⟩ ⟨rfl, rfl⟩ fun i hI => ?_
  refine And.intro (fun h1 => ?_) fun h1 => ?_
  · have hi := lt_of_dec h1
    refine And.intro (by omega) (Exists.intro _ (And.intro (get_map hi) ?_))
    refine And.intro (fun h2 => ?_) fun h2 => ?_
    · refine Exists.intro [] (And.intro ?_ rfl)
      have : hasB l x = true := List.any_eq_true.2 ⟨l[i], List.getElem_mem hi, h2⟩
      rw [this]; rfl
    · refine And.intro (by omega) (And.intro (by omega) ?_)
      refine Exists.intro (i + 1) (And.intro (by show l.length - (i + 1) < l.length - i; omega) (And.intro ⟨hi, ?_⟩ (And.intro rfl rfl)))
      rw [List.take_add_one, List.any_append, hI.2]; simpa [hi] using h2
  · have hi : i = l.length := by have := hI.1; have := ge_of_dec h1; omega
    refine Exists.intro [] (And.intro ?_ rfl)
    have : hasB l x = false := by have := hI.2; rw [hi, List.take_length] at this; exact this
    rw [this]; rfl

def holdsB (s : List Int) (l : List Lit) : Bool := l.all fun x => hasB s x.fact != x.neg
def od64 : Od := [(4, [(0, .pure), (1, .pure), (2, .pure), (4, .pure), (5, .pure), (3, .eff), (6, .pure)])]
def kp64 : Kp := [(2, ([0, 7, 8, 9], []))]
theorem f64_spec (n1 n2 : Bool) (s : List Int) (l : List Lit) (out : List Fr) : SpecP Tryz.prog 64 [.ints n1 s, .lits n2 l] out fun r ro => r = .bool (holdsB s l) ∧ ro = [] := by
  refine spec_body cx_ok kp64 od64 (fn := Tryz.f64) (by kernel_rfl) rfl (by kernel_rfl) rfl (by unfold FnOK; kernel_rfl) fun hok => ?_
  have hmx := le_max hok.2.1.1
  refine LoopW.mk Nat (fun i => i ≤ l.length ∧ (l.take i).all (fun x => hasB s x.fact != x.neg) = true) (fun i => [(0, .ints n1 s), (7, .lits n2 l), (8, .int (l.map tLit).length), (9, .int i)]) (fun _ => ⟨out, []⟩) (fun i => l.length - i) 0 ⟨Nat.zero_le _, rfl⟩ ⟨rfl, rfl⟩ fun i hI => ?_
  refine And.intro (fun h1 => ?_) fun h1 => ?_
  · have hi := lt_of_dec h1
    refine And.intro (by omega) (Exists.intro _ (And.intro (get_map hi) ?_))
    refine And.intro (fun h2 => ?_) fun h2 => ?_
    · refine SpecP.mono (f16_spec n1 s l[i].fact []) ?_
      rintro r ro ⟨rfl, rfl⟩
      refine And.intro ⟨rfl, rfl, rfl⟩ (And.intro (fun h3 => ?_) fun h3 => ?_)
      · refine And.intro (fun _ => ?_) fun h => Bool.noConfusion h
        exact Exists.intro [] (ret_bool (all_false hi (by simp [h2, h3])) rfl)
      · refine And.intro (fun h => Bool.noConfusion h) fun _ => ?_
        refine And.intro (by omega) (And.intro (by omega) ?_)
        exact Exists.intro (i + 1) (And.intro (by show l.length - (i + 1) < l.length - i; omega) (And.intro ⟨hi, all_step hi hI.2 (by simp [h2, h3])⟩ (And.intro rfl rfl)))
    · refine SpecP.mono (f16_spec n1 s l[i].fact []) ?_
      rintro r ro ⟨rfl, rfl⟩
      refine And.intro ⟨rfl, rfl, rfl⟩ (And.intro (fun h3 => ?_) fun h3 => ?_)
      · refine And.intro (fun h => Bool.noConfusion h) fun _ => ?_
        refine And.intro (by omega) (And.intro (by omega) ?_)
        exact Exists.intro (i + 1) (And.intro (by show l.length - (i + 1) < l.length - i; omega) (And.intro ⟨hi, all_step hi hI.2 (by simp [h2, h3])⟩ (And.intro rfl rfl)))
      · refine And.intro (fun _ => ?_) fun h => Bool.noConfusion h
        exact Exists.intro [] (ret_bool (all_false hi (by simp [h2, h3])) rfl)
  · have hi : i = l.length := by have := hI.1; have := ge_of_dec h1; omega
    refine Exists.intro [] (And.intro ?_ rfl)
    have : holdsB s l = true := by have := hI.2; rw [hi, List.take_length] at this; exact this
    rw [this]; rfl

end Go.Fw

/- What the program's functions do, part 2: codes of literals; lists that rise. -/
namespace Go.Fw
open Go Go.Proofs
set_option maxRecDepth 10000

def codeI (l : Lit) : Int := if l.neg then 2 * l.fact + 1 else 2 * l.fact
def litI (n : Int) : Lit := ⟨n.tdiv 2, n.tmod 2 == 1⟩
def big (n : Int) : Prop := -4611686018427387000 ≤ n ∧ n ≤ 4611686018427387000

def od38 : Od := [(6, [(0, .pure), (1, .pure), (2, .pure), (3, .pure), (4, .pure), (5, .pure), (6, .pure), (7, .pure), (8, .pure)])]
def kp38 : Kp := [(4, ([0, 1, 12, 13], []))]
theorem f38_spec (n1 n2 : Bool) (l m : List Lit) (out : List Fr) : SpecP Tryz.prog 38 [.lits n1 l, .lits n2 m] out fun r ro => r = .bool (decide (l = m)) ∧ ro = [] := by
  refine spec_body cx_ok kp38 od38 (fn := Tryz.f38) (by kernel_rfl) rfl (by kernel_rfl) rfl (by unfold FnOK; kernel_rfl) fun hok => ?_
  refine And.intro (fun h => ?_) fun h => ?_
  · have : l ≠ m := by rintro rfl; simp at h
    exact Exists.intro [] (ret_bool (by simp [this]) rfl)
  · have hlen : l.length = m.length := by simp at h; omega
    have hmx := le_max hok.1.1
    refine LoopW.mk Nat (fun i => i ≤ l.length ∧ l.take i = m.take i) (fun i => [(0, .lits n1 l), (1, .lits n2 m), (12, .int (l.map tLit).length), (13, .int i)]) (fun _ => ⟨out, []⟩) (fun i => l.length - i) 0 ⟨Nat.zero_le _, rfl⟩ ⟨rfl, rfl⟩ fun i hI => ?_
    refine And.intro (fun h1 => ?_) fun h1 => ?_
    · have hi := lt_of_dec h1
      have hi2 : i < m.length := by omega
      refine And.intro (by omega) (Exists.intro _ (And.intro (get_map hi) ?_))
      refine And.intro (by omega) (Exists.intro _ (And.intro (get_map hi2) ?_))
      refine And.intro (fun h2 => ?_) fun h2 => ?_
      · have : l ≠ m := by rintro rfl; simp at h2
        exact Exists.intro [] (ret_bool (by simp [this]) rfl)
      · have h3 : l[i] = m[i] := by
          have h4 : l[i].fact = m[i].fact ∧ l[i].neg = m[i].neg := by simpa using h2
          cases hl : l[i]; cases hm : m[i]; simp [hl, hm] at h4; simp [h4]
        refine And.intro (by omega) (And.intro (by omega) ?_)
        refine Exists.intro (i + 1) (And.intro (by show l.length - (i + 1) < l.length - i; omega) (And.intro ⟨hi, ?_⟩ (And.intro rfl rfl)))
        rw [List.take_add_one, List.take_add_one, hI.2]; simp [hi, hi2, h3]
    · have hi : i = l.length := by have := hI.1; have := ge_of_dec h1; omega
      have : l = m := by have := hI.2; rw [hi, List.take_length, hlen, List.take_length] at this; exact this
      exact Exists.intro [] (ret_bool (by simp [this]) rfl)

/-! ### Rising lists -/
def at0 (l : List Int) (i : Nat) : Int := l.getD i 0
def chkI (l : List Int) (n : Int) (i : Nat) : Bool := decide (0 ≤ at0 l i) && decide (at0 l i < n) && (i == 0 || decide (at0 l (i - 1) < at0 l i))
def risingB (l : List Int) (n : Int) : Bool := (List.range l.length).all (chkI l n)
theorem range_step {p : Nat → Bool} {i : Nat} (h : (List.range i).all p = true) (h2 : p i = true) : (List.range (i + 1)).all p = true := by
  rw [List.range_succ, List.all_append, h]; simp [h2]
theorem range_false {p : Nat → Bool} {i n : Nat} (hi : i < n) (h : p i = false) : (List.range n).all p = false := by
  cases hh : (List.range n).all p with
  | false => rfl
  | true => rw [List.all_eq_true.1 hh i (List.mem_range.2 hi)] at h; cases h
theorem at0_eq {l : List Int} {i : Nat} (h : i < l.length) : at0 l i = l[i] := by simp [at0, h]
theorem get_pred {α β : Type} {l : List α} {f : α → β} {i : Nat} (h : i < l.length) (h0 : 0 < i) : (l.map f)[((i : Int) - 1).toNat]? = some (f (l[i - 1]'(by omega))) := by
  have : ((i : Int) - 1).toNat = i - 1 := by omega
  rw [this]; simp [show i - 1 < l.length by omega]

def kp23 : Kp := [(2, ([0, 1, 7, 8, 9], []))]
theorem f23_spec (n1 : Bool) (l : List Int) (n : Int) (out : List Fr) : SpecP Tryz.prog 23 [.ints n1 l, .int n] out fun r ro => r = .bool (risingB l n) ∧ ro = [] := by
  refine spec_body cx_ok kp23 [] (fn := Tryz.f23) (by kernel_rfl) rfl (by kernel_rfl) rfl (by unfold FnOK; kernel_rfl) fun hok => ?_
  have hmx := le_max hok.1.1
  refine LoopW.mk Nat (fun i => i ≤ l.length ∧ (List.range i).all (chkI l n) = true) (fun i => [(0, .ints n1 l), (1, .int n), (7, .ints n1 l), (8, .int (l.map tI).length), (9, .int i)]) (fun _ => ⟨out, []⟩) (fun i => l.length - i) 0 ⟨Nat.zero_le _, rfl⟩ ⟨rfl, rfl⟩ fun i hI => ?_
  refine And.intro (fun h1 => ?_) fun h1 => ?_
  · have hi := lt_of_dec h1
    have ha := at0_eq hi
    refine And.intro (by omega) (Exists.intro _ (And.intro (get_map hi) ?_))
    refine And.intro (fun h2 => ?_) fun h2 => ?_
    · exact Exists.intro [] (ret_bool (range_false hi (by simp [chkI, ha]; simp at h2; omega)) rfl)
    · refine And.intro (fun h3 => ?_) fun h3 => ?_
      · exact Exists.intro [] (ret_bool (range_false hi (by simp [chkI, ha]; simp at h2 h3; omega)) rfl)
      · refine And.intro (fun h4 => ?_) fun h4 => ?_
        · have h0 : 0 < i := by simp at h4; omega
          have hp := at0_eq (l := l) (i := i - 1) (by omega)
          refine And.intro (by omega) (And.intro (by omega) (And.intro (by omega) (Exists.intro _ (And.intro (get_pred hi h0) ?_))))
          refine And.intro (fun h5 => ?_) fun h5 => ?_
          · exact Exists.intro [] (ret_bool (range_false hi (by simp [chkI, ha, hp]; simp at h2 h3 h5; omega)) rfl)
          · refine And.intro (by omega) (And.intro (by omega) ?_)
            exact Exists.intro (i + 1) (And.intro (by show l.length - (i + 1) < l.length - i; omega) (And.intro ⟨hi, range_step hI.2 (by simp [chkI, ha, hp]; simp at h2 h3 h5; omega)⟩ (And.intro rfl rfl)))
        · have h0 : i = 0 := by simp at h4; omega
          refine And.intro (by omega) (And.intro (by omega) ?_)
          exact Exists.intro (i + 1) (And.intro (by show l.length - (i + 1) < l.length - i; omega) (And.intro ⟨hi, range_step hI.2 (by simp [chkI, ha]; simp at h2 h3; omega)⟩ (And.intro rfl rfl)))
  · have hi : i = l.length := by have := hI.1; have := ge_of_dec h1; omega
    exact Exists.intro [] (ret_bool (by have := hI.2; rw [hi] at this; exact this) rfl)

end Go.Fw

/- What the program's functions do, part 3: names. -/
namespace Go.Fw
open Go Go.Proofs
set_option maxRecDepth 10000

abbrev LV.str (s : ByteArray) : LV := .t (.v (.string s))
abbrev LV.byte (c : Int) : LV := .t (.v (.int .u8 c))
def byAt (s : ByteArray) (i : Nat) : Int := ((s.data[i]?.getD 0).toNat : Int)
theorem byAt_get {s : ByteArray} {i : Nat} (h : i < s.size) : s.data[((i : Int)).toNat]? = some (s.data[i]?.getD 0) := by
  have : i < s.data.size := h
  simp only [Int.toNat_natCast]
  rw [Array.getElem?_eq_getElem this]; rfl

def letterB (c : Int) : Bool := (decide (97 ≤ c) && decide (c ≤ 122)) || (decide (65 ≤ c) && decide (c ≤ 90))
def digitB (c : Int) : Bool := decide (48 ≤ c) && decide (c ≤ 57)
def withinB (s : ByteArray) (c : Int) : Bool := (List.range s.size).any fun i => byAt s i == c
def punct : ByteArray := ⟨#[45, 95, 40, 41, 44]⟩
def okB (c : Int) : Bool := letterB c || digitB c || withinB punct c
def nameB (s : ByteArray) : Bool := decide (1 ≤ s.size) && decide (s.size ≤ 40) && letterB (byAt s 0) && (List.range s.size).all fun i => okB (byAt s i)

theorem f83_spec (c : Int) (out : List Fr) : SpecP Tryz.prog 83 [.byte c] out fun r ro => r = .bool (letterB c) ∧ ro = [] := by
  refine spec_body cx_ok [] [] (fn := Tryz.f83) (by kernel_rfl) rfl (by kernel_rfl) rfl (by unfold FnOK; kernel_rfl) fun hok => ?_
  refine And.intro (fun h1 => ?_) fun h1 => ?_
  · refine And.intro (fun h2 => ?_) fun h2 => ?_
    · exact Exists.intro [] (ret_bool (by simp [letterB]; simp at h1 h2; omega) rfl)
    · refine And.intro (fun h3 => ?_) fun h3 => ?_
      · refine And.intro (fun h4 => ?_) fun h4 => ?_
        · exact Exists.intro [] (ret_bool (by simp [letterB]; simp at h1 h2 h3 h4; omega) rfl)
        · exact Exists.intro [] (ret_bool (by simp [letterB]; simp at h1 h2 h3 h4; omega) rfl)
      · exact Exists.intro [] (ret_bool (by simp [letterB]; simp at h1 h2 h3; omega) rfl)
  · refine And.intro (fun h3 => ?_) fun h3 => ?_
    · refine And.intro (fun h4 => ?_) fun h4 => ?_
      · exact Exists.intro [] (ret_bool (by simp [letterB]; simp at h1 h3 h4; omega) rfl)
      · exact Exists.intro [] (ret_bool (by simp [letterB]; simp at h1 h3 h4; omega) rfl)
    · exact Exists.intro [] (ret_bool (by simp [letterB]; simp at h1 h3; omega) rfl)

theorem f84_spec (c : Int) (out : List Fr) : SpecP Tryz.prog 84 [.byte c] out fun r ro => r = .bool (digitB c) ∧ ro = [] := by
  refine spec_body cx_ok [] [] (fn := Tryz.f84) (by kernel_rfl) rfl (by kernel_rfl) rfl (by unfold FnOK; kernel_rfl) fun hok => ?_
  refine And.intro (fun h1 => ?_) fun h1 => ?_
  · refine And.intro (fun h2 => ?_) fun h2 => ?_
    · exact Exists.intro [] (ret_bool (by simp [digitB]; simp at h1 h2; omega) rfl)
    · exact Exists.intro [] (ret_bool (by simp [digitB]; simp at h1 h2; omega) rfl)
  · exact Exists.intro [] (ret_bool (by simp [digitB]; simp at h1; omega) rfl)

theorem rany_true {p : Nat → Bool} {i n : Nat} (hi : i < n) (h : p i = true) : (List.range n).any p = true := List.any_eq_true.2 ⟨i, List.mem_range.2 hi, h⟩
theorem rany_step {p : Nat → Bool} {i : Nat} (h : (List.range i).any p = false) (h2 : p i = false) : (List.range (i + 1)).any p = false := by
  rw [List.range_succ, List.any_append, h]; simp [h2]

def kp85 : Kp := [(2, ([0, 1, 7, 8], []))]
theorem f85_spec (s : ByteArray) (c : Int) (hs : s.size ≤ 1000) (out : List Fr) : SpecP Tryz.prog 85 [.str s, .byte c] out fun r ro => r = .bool (withinB s c) ∧ ro = [] := by
  refine spec_body cx_ok kp85 [] (fn := Tryz.f85) (by kernel_rfl) rfl (by kernel_rfl) rfl (by unfold FnOK; kernel_rfl) fun hok => ?_
  refine LoopW.mk Nat (fun i => i ≤ s.size ∧ (List.range i).any (fun i => byAt s i == c) = false) (fun i => [(0, .str s), (1, .byte c), (7, .int s.size), (8, .int i)]) (fun _ => ⟨out, []⟩) (fun i => s.size - i) 0 ⟨Nat.zero_le _, rfl⟩ ⟨rfl, rfl⟩ fun i hI => ?_
  refine And.intro (fun h1 => ?_) fun h1 => ?_
  · have hi : i < s.size := by simpa using h1
    refine And.intro (by omega) (Exists.intro _ (And.intro (byAt_get hi) ?_))
    refine And.intro (fun h2 => ?_) fun h2 => ?_
    · exact Exists.intro [] (ret_bool (rany_true hi h2) rfl)
    · refine And.intro (by omega) (And.intro (by omega) ?_)
      exact Exists.intro (i + 1) (And.intro (by show s.size - (i + 1) < s.size - i; omega) (And.intro ⟨hi, rany_step hI.2 h2⟩ (And.intro rfl rfl)))
  · have hi : i = s.size := by have := hI.1; simp at h1; omega
    exact Exists.intro [] (ret_bool (by have := hI.2; rw [hi] at this; exact this) rfl)

def kp73 : Kp := [(4, ([0, 19, 20], []))]
theorem f73_spec (s : ByteArray) (out : List Fr) : SpecP Tryz.prog 73 [.str s] out fun r ro => r = .bool (nameB s) ∧ ro = [] := by
  refine spec_body cx_ok kp73 [] (fn := Tryz.f73) (by kernel_rfl) rfl (by kernel_rfl) rfl (by unfold FnOK; kernel_rfl) fun hok => ?_
  refine And.intro (fun h1 => ?_) fun h1 => ?_
  · exact Exists.intro [] (ret_bool (by simp [nameB]; simp at h1; omega) rfl)
  refine And.intro (fun h2 => ?_) fun h2 => ?_
  · exact Exists.intro [] (ret_bool (by simp [nameB]; simp at h2; omega) rfl)
  have hs : 1 ≤ s.size ∧ s.size ≤ 40 := by simp at h1 h2; omega
  refine And.intro (by decide) (Exists.intro _ (And.intro (byAt_get (i := 0) hs.1) ?_))
  refine SpecP.mono (f83_spec (byAt s 0) []) ?_
  rintro r ro ⟨rfl, rfl⟩
  refine And.intro (fun h3 => ?_) fun h3 => ?_
  · refine LoopW.mk Nat (fun i => i ≤ s.size ∧ (List.range i).all (fun i => okB (byAt s i)) = true) (fun i => [(0, .str s), (19, .int s.size), (20, .int i)]) (fun _ => ⟨out, []⟩) (fun i => s.size - i) 0 ⟨Nat.zero_le _, rfl⟩ ⟨rfl, rfl⟩ fun i hI => ?_
    refine And.intro (fun h4 => ?_) fun h4 => ?_
    · have hi : i < s.size := by simpa using h4
      refine And.intro (by omega) (Exists.intro _ (And.intro (byAt_get hi) ?_))
      refine SpecP.mono (f83_spec (byAt s i) []) ?_
      rintro r ro ⟨rfl, rfl⟩
      refine And.intro (fun h5 => ?_) fun h5 => ?_
      · refine And.intro (by omega) (And.intro (by omega) ?_)
        exact Exists.intro (i + 1) (And.intro (by show s.size - (i + 1) < s.size - i; omega) (And.intro ⟨hi, range_step hI.2 (by simp [okB, h5])⟩ (And.intro rfl rfl)))
      · refine And.intro (by omega) (Exists.intro _ (And.intro (byAt_get hi) ?_))
        refine SpecP.mono (f84_spec (byAt s i) []) ?_
        rintro r ro ⟨rfl, rfl⟩
        refine And.intro (fun h6 => ?_) fun h6 => ?_
        · refine And.intro (by omega) (And.intro (by omega) ?_)
          exact Exists.intro (i + 1) (And.intro (by show s.size - (i + 1) < s.size - i; omega) (And.intro ⟨hi, range_step hI.2 (by simp [okB, h6])⟩ (And.intro rfl rfl)))
        · refine And.intro (by omega) (Exists.intro _ (And.intro (byAt_get hi) ?_))
          refine SpecP.mono (f85_spec punct (byAt s i) (by decide) []) ?_
          rintro r ro ⟨rfl, rfl⟩
          refine And.intro (fun h7 => ?_) fun h7 => ?_
          · refine And.intro (by omega) (And.intro (by omega) ?_)
            exact Exists.intro (i + 1) (And.intro (by show s.size - (i + 1) < s.size - i; omega) (And.intro ⟨hi, range_step hI.2 (by simp [okB, h7])⟩ (And.intro rfl rfl)))
          · exact Exists.intro [] (ret_bool (by rw [nameB, range_false hi (by simp [okB, h5, h6, h7])]; simp) rfl)
    · have hi : i = s.size := by have := hI.1; simp at h4; omega
      have h5 := hI.2
      rw [hi] at h5
      exact Exists.intro [] (ret_bool (by rw [nameB, h5, h3]; simp; omega) rfl)
  · exact Exists.intro [] (ret_bool (by simp [nameB, h3]) rfl)

/-! ### Sets of names -/
def kvS (l : List ByteArray) : List (Value × T) := l.map fun s => (.string s, .v (.bool true))
theorem look_kvS (s : ByteArray) : ∀ l : List ByteArray, lookKV (.string s) (.v (.bool false)) (kvS l) = .v (.bool (l.any (s == ·)))
  | [] => rfl
  | x :: r => by
    have ih := look_kvS s r
    simp only [kvS, List.map_cons, lookKV, List.any_cons] at ih ⊢
    by_cases h : (s == x) = true
    · rw [if_pos (show sameK (.string s) (.string x) = true from h), h]; rfl
    · rw [if_neg (show ¬ sameK (.string s) (.string x) = true from h), ih]; simp [h]
theorem upd_kvS (s : ByteArray) : ∀ l : List ByteArray, l.any (s == ·) = false → updKV (.string s) (.v (.bool true)) (kvS l) = kvS (l ++ [s])
  | [], _ => rfl
  | x :: r, h => by
    simp only [List.any_cons, Bool.or_eq_false_iff] at h
    have ih := upd_kvS s r h.2
    simp only [kvS, List.map_cons, updKV, List.cons_append] at ih ⊢
    rw [if_neg (show ¬ sameK (.string s) (.string x) = true by show ¬ (s == x) = true; rw [h.1]; simp), ih]

def atS (l : List ByteArray) (i : Nat) : ByteArray := l[i]?.getD ⟨#[]⟩
def chkS (l : List ByteArray) (i : Nat) : Bool := nameB (atS l i) && !((l.take i).any (atS l i == ·))
def namesB (l : List ByteArray) : Bool := (List.range l.length).all (chkS l)
def kp54 : Kp := [(3, ([3, 7, 8, 9], [48]))]
theorem f54_spec (n1 : Bool) (l : List ByteArray) (out : List Fr) : SpecP Tryz.prog 54 [.t (.sl n1 1 (l.map tS))] out fun r ro => r = .bool (namesB l) ∧ ro = [] := by
  refine spec_body cx_ok kp54 [] (fn := Tryz.f54) (by kernel_rfl) rfl (by kernel_rfl) rfl (by unfold FnOK; kernel_rfl) fun hok => ?_
  have hmx := le_max hok.1.1
  refine LoopW.mk Nat (fun i => i ≤ l.length ∧ (List.range i).all (chkS l) = true) (fun i => [(3, .mpr (.cur 48)), (7, .t (.sl n1 1 (l.map tS))), (8, .int (l.map tS).length), (9, .int i)]) (fun i => ⟨out, [(48, .mp .str (kvS (l.take i)))]⟩) (fun i => l.length - i) 0 ⟨Nat.zero_le _, rfl⟩ ⟨rfl, rfl⟩ fun i hI => ?_
  refine And.intro (fun h1 => ?_) fun h1 => ?_
  · have hi := lt_of_dec h1
    have ha : atS l i = l[i] := by simp [atS, hi]
    refine And.intro (by omega) (Exists.intro _ (And.intro (get_map hi) ?_))
    refine SpecP.mono (f73_spec l[i] []) ?_
    rintro r ro ⟨rfl, rfl⟩
    refine And.intro (fun h2 => ?_) fun h2 => ?_
    · refine Exists.intro _ (And.intro (look_kvS _ _) ?_)
      refine And.intro (fun h3 => ?_) fun h3 => ?_
      · exact Exists.intro [] (ret_bool (range_false hi (by simp only [chkS, ha, h3]; simp)) rfl)
      · refine And.intro (by omega) (And.intro (by omega) ?_)
        refine Exists.intro (i + 1) (And.intro (by show l.length - (i + 1) < l.length - i; omega) (And.intro ⟨hi, range_step hI.2 (by simp only [chkS, ha, h2, h3]; simp)⟩ (And.intro rfl ?_)))
        have e : updKV (.string l[i]) (.v (.bool true)) (kvS (l.take i)) = kvS (l.take (i + 1)) := by
          rw [upd_kvS _ _ h3, List.take_add_one]; simp [hi]
        show (⟨out, [(48, .mp .str (updKV (.string l[i]) (.v (.bool true)) (kvS (l.take i))))]⟩ : St) = _
        rw [e]
    · exact Exists.intro [] (ret_bool (range_false hi (by simp only [chkS, ha, h2]; simp)) rfl)
  · have hi : i = l.length := by have := hI.1; have := ge_of_dec h1; omega
    exact Exists.intro [] (ret_bool (by have := hI.2; rw [hi] at this; exact this) rfl)

end Go.Fw

/- What the program's functions do, part 4: conditions; valid tasks. -/
namespace Go.Fw
open Go Go.Proofs
set_option maxRecDepth 10000

def condB (l : List Lit) (n : Int) : Bool := risingB (l.map (·.fact)) n
def effB (n : Int) (e : Eff) : Bool := condB e.when_ n && decide (0 ≤ e.lit.fact) && decide (e.lit.fact < n)
def actB (n : Int) (a : Actn) : Bool := decide (0 ≤ a.cost) && decide (a.cost ≤ 100000) && condB a.pre n && decide (a.effs.length ≤ 100) && a.effs.all (effB n)
def isB (t : Task) : Bool := decide (t.facts.length ≤ 200) && namesB t.facts && risingB t.init t.facts.length && condB t.goal t.facts.length && decide (t.acts.length ≤ 1000) &&
  t.acts.all (actB t.facts.length) && namesB (t.acts.map (·.name))

theorem atF_eq {l : List Lit} {i : Nat} (h : i < l.length) : at0 (l.map (·.fact)) i = l[i].fact := by simp [at0, h]

def od55 : Od := [(4, [(0, .pure), (1, .pure), (2, .pure), (3, .pure), (4, .pure), (5, .pure), (6, .pure), (7, .pure), (8, .pure), (9, .pure), (10, .pure), (11, .pure), (12, .pure), (13, .pure), (14, .pure), (15, .pure), (16, .pure), (17, .pure), (18, .pure), (19, .pure), (20, .pure), (21, .pure), (22, .pure), (23, .pure)])]
def kp55 : Kp := [(2, ([0, 1, 7, 8, 9], []))]
theorem f55_spec (n1 : Bool) (l : List Lit) (n : Int) (out : List Fr) : SpecP Tryz.prog 55 [.lits n1 l, .int n] out fun r ro => r = .bool (condB l n) ∧ ro = [] := by
  refine spec_body cx_ok kp55 od55 (fn := Tryz.f55) (by kernel_rfl) rfl (by kernel_rfl) rfl (by unfold FnOK; kernel_rfl) fun hok => ?_
  have hmx := le_max hok.1.1
  have hlen : (l.map (·.fact)).length = l.length := List.length_map ..
  refine LoopW.mk Nat (fun i => i ≤ l.length ∧ (List.range i).all (chkI (l.map (·.fact)) n) = true) (fun i => [(0, .lits n1 l), (1, .int n), (7, .lits n1 l), (8, .int (l.map tLit).length), (9, .int i)]) (fun _ => ⟨out, []⟩) (fun i => l.length - i) 0 ⟨Nat.zero_le _, rfl⟩ ⟨rfl, rfl⟩ fun i hI => ?_
  refine And.intro (fun h1 => ?_) fun h1 => ?_
  · have hi := lt_of_dec h1
    have hi' : i < (l.map (·.fact)).length := by rw [hlen]; exact hi
    have ha := atF_eq hi
    refine And.intro (by omega) (Exists.intro _ (And.intro (get_map hi) ?_))
    refine And.intro (fun h2 => ?_) fun h2 => ?_
    · exact Exists.intro [] (ret_bool (range_false hi' (by simp [chkI, ha]; simp at h2; omega)) rfl)
    · refine And.intro (fun h3 => ?_) fun h3 => ?_
      · exact Exists.intro [] (ret_bool (range_false hi' (by simp [chkI, ha]; simp at h2 h3; omega)) rfl)
      · refine And.intro (fun h4 => ?_) fun h4 => ?_
        · have h0 : 0 < i := by simp at h4; omega
          have hp := atF_eq (l := l) (i := i - 1) (by omega)
          refine And.intro (by omega) (And.intro (by omega) (And.intro (by omega) (Exists.intro _ (And.intro (get_pred hi h0) ?_))))
          refine And.intro (fun h5 => ?_) fun h5 => ?_
          · exact Exists.intro [] (ret_bool (range_false hi' (by simp [chkI, ha, hp]; simp at h2 h3 h5; omega)) rfl)
          · refine And.intro (by omega) (And.intro (by omega) ?_)
            exact Exists.intro (i + 1) (And.intro (by show l.length - (i + 1) < l.length - i; omega) (And.intro ⟨hi, range_step hI.2 (by simp [chkI, ha, hp]; simp at h2 h3 h5; omega)⟩ (And.intro rfl rfl)))
        · have h0 : i = 0 := by simp at h4; omega
          refine And.intro (by omega) (And.intro (by omega) ?_)
          exact Exists.intro (i + 1) (And.intro (by show l.length - (i + 1) < l.length - i; omega) (And.intro ⟨hi, range_step hI.2 (by simp [chkI, ha]; simp at h2 h3; omega)⟩ (And.intro rfl rfl)))
  · have hi : i = l.length := by have := hI.1; have := ge_of_dec h1; omega
    exact Exists.intro [] (ret_bool (by have := hI.2; rw [hi, ← hlen] at this; exact this) rfl)

end Go.Fw

/- What the program's functions do, part 5: valid tasks. -/
namespace Go.Fw
open Go Go.Proofs
set_option maxRecDepth 10000

/-! ### Lists that are gathered -/
def accV (s sz : Nat) (es : List (List T)) : LV := match es with
  | [] => .t (.sl true 0 [])
  | x :: r => .osl (.cur s) sz 0 (x :: r).length
def accO (s e sz : Nat) (es : List (List T)) : Fr := match es with
  | [] => []
  | x :: r => [(s, .row e sz (x :: r))]

def kp30 : Kp := [(6, ([3, 4, 41, 42, 43], [784])), (11, ([3, 4, 6, 41, 42, 43, 69, 70, 71], [48, 784]))]
theorem f30_spec (t : Task) (out : List Fr) : SpecP Tryz.prog 30 [.task t] out fun r ro => r = .bool (isB t) ∧ ro = [] := by
  refine spec_body cx_ok kp30 [] (fn := Tryz.f30) (by kernel_rfl) rfl (by kernel_rfl) rfl (by unfold FnOK; kernel_rfl) fun hok => ?_
  have hfm := le_max hok.1.1.1
  have ham := le_max hok.1.2.2.2.1.1
  refine And.intro (fun h1 => ?_) fun h1 => ?_
  · exact Exists.intro [] (ret_bool (by simp at h1; simp [isB]; omega) rfl)
  refine SpecP.mono (f54_spec t.fn t.facts []) ?_
  rintro r ro ⟨rfl, rfl⟩
  refine And.intro (fun h2 => ?_) fun h2 => ?_
  rotate_left
  · exact Exists.intro [] (ret_bool (by simp [isB, h2]) rfl)
  refine SpecP.mono (f23_spec t.ni t.init (t.facts.map tS).length []) ?_
  rintro r ro ⟨rfl, rfl⟩
  rw [List.length_map]
  refine And.intro (fun h3 => ?_) fun h3 => ?_
  rotate_left
  · exact Exists.intro [] (ret_bool (by simp [isB, h3]) rfl)
  refine SpecP.mono (f55_spec t.gn t.goal t.facts.length []) ?_
  rintro r ro ⟨rfl, rfl⟩
  refine And.intro (fun h4 => ?_) fun h4 => ?_
  rotate_left
  · exact Exists.intro [] (ret_bool (by simp [isB, h4]) rfl)
  refine And.intro (fun h5 => ?_) fun h5 => ?_
  · exact Exists.intro [] (ret_bool (by simp at h5; simp [isB]; omega) rfl)
  have hl1 : t.facts.length ≤ 200 := by simp at h1; omega
  have hl2 : t.acts.length ≤ 1000 := by simp at h5; omega
  refine LoopW.mk (Nat × List ByteArray) (fun p => p.1 ≤ t.acts.length ∧ p.2 = (t.acts.take p.1).map (·.name) ∧ (t.acts.take p.1).all (actB t.facts.length) = true)
    (fun p => [(3, .int t.facts.length), (4, accV 784 1 (p.2.map tS)), (41, .t (.sl t.an 4 (t.acts.map tAct))), (42, .int (t.acts.map tAct).length), (43, .int p.1)])
    (fun p => ⟨out, accO 784 9 1 (p.2.map tS)⟩) (fun p => t.acts.length - p.1) (0, []) ⟨Nat.zero_le _, rfl, rfl⟩ ⟨rfl, rfl⟩ ?_
  rintro ⟨i, nm⟩ ⟨hi0, hnm, hall⟩
  simp only at hi0 hnm hall
  cases nm with
  | nil =>
    refine And.intro (fun h6 => ?_) fun h6 => ?_
    · have hi : i < t.acts.length := lt_of_dec h6
      have hact : ∀ (h : actB t.facts.length t.acts[i] = false), isB t = false := fun h => by simp [isB, all_false hi h]
      refine And.intro (by omega) (Exists.intro _ (And.intro (get_map hi) ?_))
      refine And.intro (fun h7 => ?_) fun h7 => ?_
      · exact Exists.intro [] (ret_bool (hact (by simp at h7; simp [actB]; omega)) rfl)
      refine And.intro (fun h8 => ?_) fun h8 => ?_
      · exact Exists.intro [] (ret_bool (hact (by simp at h8; simp [actB]; omega)) rfl)
      refine SpecP.mono (f55_spec t.acts[i].pn t.acts[i].pre t.facts.length []) ?_
      rintro _ _ ⟨rfl, rfl⟩
      refine And.intro (fun h9 => ?_) fun h9 => ?_
      rotate_left
      · exact Exists.intro [] (ret_bool (hact (by simp [actB, h9])) rfl)
      refine And.intro (fun h10 => ?_) fun h10 => ?_
      · exact Exists.intro [] (ret_bool (hact (by simp at h10; simp [actB]; omega)) rfl)
      have hel : t.acts[i].effs.length ≤ 100 := by simp at h10; omega
      refine LoopW.mk Nat (fun j => j ≤ t.acts[i].effs.length ∧ (t.acts[i].effs.take j).all (effB t.facts.length) = true)
        (fun j => [(3, .int t.facts.length), (4, .t (.sl true 0 [])), (6, .ptr (.cur 48) 0), (41, .t (.sl t.an 4 (t.acts.map tAct))), (42, .int (t.acts.map tAct).length), (43, .int i), (69, .t (.sl t.acts[i].en 3 (t.acts[i].effs.map tEff))), (70, .int (t.acts[i].effs.map tEff).length), (71, .int j)])
        (fun j => ⟨out, (48, .box [.t (.v (.string t.acts[i].name)), .t (.v (.int .i64 t.acts[i].cost)), .t (.sl t.acts[i].pn 2 (t.acts[i].pre.map tLit)), .t (.sl t.acts[i].en 3 (t.acts[i].effs.map tEff))]) :: []⟩) (fun j => t.acts[i].effs.length - j) 0 ⟨Nat.zero_le _, rfl⟩ ⟨rfl, rfl⟩ fun j hJ => ?_
      refine And.intro (fun k1 => ?_) fun k1 => ?_
      · have hj : j < t.acts[i].effs.length := lt_of_dec k1
        have heff : ∀ (h : effB t.facts.length t.acts[i].effs[j] = false), isB t = false := fun h => hact (by simp [actB, all_false hj h])
        refine And.intro (by omega) (Exists.intro _ (And.intro (get_map hj) ?_))
        refine SpecP.mono (f55_spec t.acts[i].effs[j].nil t.acts[i].effs[j].when_ t.facts.length []) ?_
        rintro _ _ ⟨rfl, rfl⟩
        refine And.intro (fun k2 => ?_) fun k2 => ?_
        rotate_left
        · exact Exists.intro [] (ret_bool (heff (by simp [effB, k2])) rfl)
        refine And.intro (fun k3 => ?_) fun k3 => ?_
        · exact Exists.intro [] (ret_bool (heff (by simp at k3; simp [effB]; omega)) rfl)
        refine And.intro (fun k4 => ?_) fun k4 => ?_
        · exact Exists.intro [] (ret_bool (heff (by simp at k4; simp [effB]; omega)) rfl)
        refine And.intro (by omega) (And.intro (by omega) ?_)
        exact Exists.intro (j + 1) (And.intro (by show t.acts[i].effs.length - (j + 1) < t.acts[i].effs.length - j; omega) (And.intro ⟨hj, all_step hj hJ.2 (by simp at k3 k4; simp [effB, k2]; omega)⟩ (And.intro rfl rfl)))
      · have he : t.acts[i].effs.all (effB t.facts.length) = true := all_end (ge_of_dec k1) hJ.2
        have ha : actB t.facts.length t.acts[i] = true := by simp at h7 h8 h10; simp [actB, h9, he]; omega
        refine And.intro (Nat.le_of_ble_eq_true rfl) (And.intro (Nat.le_of_ble_eq_true rfl) (And.intro (Nat.le_of_ble_eq_true rfl) ?_))
        refine And.intro (by omega) (And.intro (by omega) ?_)
        exact Exists.intro (i + 1, [t.acts[i].name]) (And.intro (by show t.acts.length - (i + 1) < t.acts.length - i; omega) (And.intro ⟨hi, by show [t.acts[i].name] = _; rw [List.take_add_one, List.map_append, ← hnm]; simp [hi], all_step hi hall ha⟩ (And.intro rfl rfl)))
    · have hi : i = t.acts.length := by have := ge_of_dec h6; omega
      have hbase : isB t = namesB (t.acts.map (·.name)) := by
        rw [hi, List.take_length] at hall
        simp [isB, h2, h3, h4, hl1, hl2, hall]
      have hnm2 : [] = t.acts.map (·.name) := by rw [hnm, hi, List.take_length]
      refine SpecP.conv1 nil_sz (SpecP.mono (f54_spec true [] []) ?_)
      rintro _ _ ⟨rfl, rfl⟩
      refine And.intro (fun h => ?_) fun h => ?_
      · exact Exists.intro [] (ret_bool (by rw [hbase, ← hnm2]; exact h) rfl)
      · exact Exists.intro [] (ret_bool (by rw [hbase, ← hnm2]; exact h) rfl)
  | cons x r =>
    refine And.intro (fun h6 => ?_) fun h6 => ?_
    · have hi : i < t.acts.length := lt_of_dec h6
      have hact : ∀ (h : actB t.facts.length t.acts[i] = false), isB t = false := fun h => by simp [isB, all_false hi h]
      refine And.intro (by omega) (Exists.intro _ (And.intro (get_map hi) ?_))
      refine And.intro (fun h7 => ?_) fun h7 => ?_
      · exact Exists.intro [] (ret_bool (hact (by simp at h7; simp [actB]; omega)) rfl)
      refine And.intro (fun h8 => ?_) fun h8 => ?_
      · exact Exists.intro [] (ret_bool (hact (by simp at h8; simp [actB]; omega)) rfl)
      refine SpecP.mono (f55_spec t.acts[i].pn t.acts[i].pre t.facts.length []) ?_
      rintro _ _ ⟨rfl, rfl⟩
      refine And.intro (fun h9 => ?_) fun h9 => ?_
      rotate_left
      · exact Exists.intro [] (ret_bool (hact (by simp [actB, h9])) rfl)
      refine And.intro (fun h10 => ?_) fun h10 => ?_
      · exact Exists.intro [] (ret_bool (hact (by simp at h10; simp [actB]; omega)) rfl)
      have hel : t.acts[i].effs.length ≤ 100 := by simp at h10; omega
      refine LoopW.mk Nat (fun j => j ≤ t.acts[i].effs.length ∧ (t.acts[i].effs.take j).all (effB t.facts.length) = true)
        (fun j => [(3, .int t.facts.length), (4, .osl (.cur 784) 1 0 ((x :: r).map tS).length), (6, .ptr (.cur 48) 0), (41, .t (.sl t.an 4 (t.acts.map tAct))), (42, .int (t.acts.map tAct).length), (43, .int i), (69, .t (.sl t.acts[i].en 3 (t.acts[i].effs.map tEff))), (70, .int (t.acts[i].effs.map tEff).length), (71, .int j)])
        (fun j => ⟨out, (48, .box [.t (.v (.string t.acts[i].name)), .t (.v (.int .i64 t.acts[i].cost)), .t (.sl t.acts[i].pn 2 (t.acts[i].pre.map tLit)), .t (.sl t.acts[i].en 3 (t.acts[i].effs.map tEff))]) :: [(784, .row 9 1 ((x :: r).map tS))]⟩) (fun j => t.acts[i].effs.length - j) 0 ⟨Nat.zero_le _, rfl⟩ ⟨rfl, rfl⟩ fun j hJ => ?_
      refine And.intro (fun k1 => ?_) fun k1 => ?_
      · have hj : j < t.acts[i].effs.length := lt_of_dec k1
        have heff : ∀ (h : effB t.facts.length t.acts[i].effs[j] = false), isB t = false := fun h => hact (by simp [actB, all_false hj h])
        refine And.intro (by omega) (Exists.intro _ (And.intro (get_map hj) ?_))
        refine SpecP.mono (f55_spec t.acts[i].effs[j].nil t.acts[i].effs[j].when_ t.facts.length []) ?_
        rintro _ _ ⟨rfl, rfl⟩
        refine And.intro (fun k2 => ?_) fun k2 => ?_
        rotate_left
        · exact Exists.intro [] (ret_bool (heff (by simp [effB, k2])) rfl)
        refine And.intro (fun k3 => ?_) fun k3 => ?_
        · exact Exists.intro [] (ret_bool (heff (by simp at k3; simp [effB]; omega)) rfl)
        refine And.intro (fun k4 => ?_) fun k4 => ?_
        · exact Exists.intro [] (ret_bool (heff (by simp at k4; simp [effB]; omega)) rfl)
        refine And.intro (by omega) (And.intro (by omega) ?_)
        exact Exists.intro (j + 1) (And.intro (by show t.acts[i].effs.length - (j + 1) < t.acts[i].effs.length - j; omega) (And.intro ⟨hj, all_step hj hJ.2 (by simp at k3 k4; simp [effB, k2]; omega)⟩ (And.intro rfl rfl)))
      · have he : t.acts[i].effs.all (effB t.facts.length) = true := all_end (ge_of_dec k1) hJ.2
        have ha : actB t.facts.length t.acts[i] = true := by simp at h7 h8 h10; simp [actB, h9, he]; omega
        have hln : (x :: r).length = i := by rw [hnm]; simp; omega
        have hln2 : ((tS x :: r.map tS) ++ [tS t.acts[i].name]).length = i + 1 := by simp at hln ⊢; omega
        refine And.intro (Nat.le_of_ble_eq_true rfl) (And.intro rfl (And.intro (by show ((tS x :: r.map tS) ++ [tS t.acts[i].name]).length * 16 ≤ _; rw [hln2]; omega) (And.intro (by show ((tS x :: r.map tS) ++ [tS t.acts[i].name]).length ≤ _; rw [hln2]; omega) ?_)))
        refine And.intro (by omega) (And.intro (by omega) ?_)
        have e : (r ++ [t.acts[i].name]).map tS = r.map tS ++ [tS t.acts[i].name] := by simp
        refine Exists.intro (i + 1, x :: (r ++ [t.acts[i].name])) (And.intro (by show t.acts.length - (i + 1) < t.acts.length - i; omega) (And.intro ⟨hi, by show x :: (r ++ [t.acts[i].name]) = _; rw [List.take_add_one, List.map_append, ← hnm]; simp [hi], all_step hi hall ha⟩ ?_))
        simp only [List.map_cons, e]
        exact And.intro rfl rfl
    · have hi : i = t.acts.length := by have := ge_of_dec h6; omega
      have hbase : isB t = namesB (t.acts.map (·.name)) := by
        rw [hi, List.take_length] at hall
        simp [isB, h2, h3, h4, hl1, hl2, hall]
      have hnm2 : x :: r = t.acts.map (·.name) := by rw [hnm, hi, List.take_length]
      refine Exists.intro ((x :: r).map tS) (And.intro (by show _ = List.take _ (List.drop 0 _); rw [List.drop_zero, List.take_of_length_le (Nat.le_refl _)]; rfl) (And.intro (by simp) ?_))
      refine SpecP.mono (f54_spec false (x :: r) _) ?_
      rintro _ _ ⟨rfl, rfl⟩
      refine And.intro trivial (And.intro trivial ?_)
      refine And.intro (fun h => ?_) fun h => ?_
      · exact Exists.intro [] (ret_bool (by rw [hbase, ← hnm2]; exact h) rfl)
      · exact Exists.intro [] (ret_bool (by rw [hbase, ← hnm2]; exact h) rfl)

end Go.Fw

/- What the program's functions do, part 6: states and their bits. -/
namespace Go.Fw
open Go Go.Proofs
set_option maxRecDepth 10000

theorem f31_spec (t : Task) (n1 : Bool) (s : List Int) (out : List Fr) : SpecP Tryz.prog 31 [.task t, .ints n1 s] out fun r ro => r = .bool (risingB s t.facts.length) ∧ ro = [] := by
  refine spec_body cx_ok [] [] (fn := Tryz.f31) (by kernel_rfl) rfl (by kernel_rfl) rfl (by unfold FnOK; kernel_rfl) fun hok => ?_
  refine SpecP.mono (f23_spec n1 s (t.facts.map tS).length []) ?_
  rintro _ _ ⟨rfl, rfl⟩
  rw [List.length_map]
  refine And.intro (fun h => ?_) fun h => ?_
  · exact Exists.intro [] (ret_bool h rfl)
  · exact Exists.intro [] (ret_bool h rfl)

def bitsL (n : Nat) (l : List Int) : List Bool := l.foldl (fun b x => b.set x.toNat true) (List.replicate n false)
theorem bitsL_length (n : Nat) (l : List Int) : (bitsL n l).length = n := by
  have : ∀ (l : List Int) (b : List Bool), (l.foldl (fun b x => b.set x.toNat true) b).length = b.length := by
    intro l
    induction l with
    | nil => intro b; rfl
    | cons x r ih => intro b; rw [List.foldl_cons, ih]; simp
  rw [bitsL, this]; simp
theorem bitsL_step {n : Nat} {l : List Int} {i : Nat} (h : i < l.length) : bitsL n (l.take (i + 1)) = (bitsL n (l.take i)).set l[i].toNat true := by
  rw [bitsL, List.take_add_one, List.foldl_append]; simp [h, bitsL]
theorem map_set' {b : List Bool} {i : Nat} {x : Bool} : (b.map tB).set i (tB x) = (b.set i x).map tB := by rw [List.map_set]

def kp15 : Kp := [(3, ([5, 10, 11, 12], [72]))]
theorem f15_spec (n : Nat) (n1 : Bool) (l : List Int) (hn : n ≤ 140737488355328) (hl : ∀ x ∈ l, 0 ≤ x ∧ x < n) (out : List Fr) :
    SpecP Tryz.prog 15 [.int n, .ints n1 l] out fun r ro => r = .osl (.cur 72) 1 0 n ∧ ro = [(72, .row 4 1 ((bitsL n l).map tB))] := by
  refine spec_body cx_ok kp15 [] (fn := Tryz.f15) (by kernel_rfl) rfl (by kernel_rfl) rfl (by unfold FnOK; kernel_rfl) fun hok => ?_
  have hmx := le_max hok.2.1.1
  refine And.intro rfl (And.intro (by omega) (And.intro (by show (n : Int) * (1 : Nat) ≤ _; omega) (And.intro (by omega) ?_)))
  refine LoopW.mk Nat (fun i => i ≤ l.length) (fun i => [(5, .osl (.cur 72) 1 0 n), (10, .ints n1 l), (11, .int (l.map tI).length), (12, .int i)]) (fun i => ⟨out, [(72, .row 4 1 ((bitsL n (l.take i)).map tB))]⟩) (fun i => l.length - i) 0 (Nat.zero_le _) ⟨rfl, ?_⟩ fun i hI => ?_
  · show (⟨out, [(72, .row 4 1 (List.replicate n (tB false)))]⟩ : St) = _
    simp [bitsL]
  refine And.intro (fun h1 => ?_) fun h1 => ?_
  · have hi := lt_of_dec h1
    have hx := hl l[i] (List.getElem_mem hi)
    have hb : l[i].toNat < (bitsL n (l.take i)).length := by rw [bitsL_length]; omega
    refine And.intro (by omega) (Exists.intro _ (And.intro (get_map hi) ?_))
    refine And.intro hx.1 (And.intro hx.2 ?_)
    refine Exists.intro (tB (bitsL n (l.take i))[l[i].toNat]) (And.intro (by rw [Nat.zero_add, List.getElem?_map, List.getElem?_eq_getElem hb]; rfl) (And.intro (Nat.le_refl 1) ?_))
    refine And.intro (by omega) (And.intro (by omega) ?_)
    refine Exists.intro (i + 1) (And.intro (by show l.length - (i + 1) < l.length - i; omega) (And.intro hi (And.intro rfl ?_)))
    show (⟨out, [(72, .row 4 1 (((bitsL n (l.take i)).map tB).set (0 + l[i].toNat) (tB true)))]⟩ : St) = _
    rw [Nat.zero_add, map_set', ← bitsL_step hi]
  · have hi : i = l.length := by have := ge_of_dec h1; omega
    refine Exists.intro [72] (And.intro rfl ?_)
    show [(72, Ob.row 4 1 ((bitsL n (l.take i)).map tB))] = _
    rw [hi, List.take_length]

end Go.Fw

/- What the program's functions do, part 7: the list of bits. -/
namespace Go.Fw
open Go Go.Proofs
set_option maxRecDepth 10000

def listFrom : Nat → List Bool → List Int
  | _, [] => []
  | k, b :: r => (if b then [(k : Int)] else []) ++ listFrom (k + 1) r
def listL (b : List Bool) : List Int := listFrom 0 b
theorem listFrom_snoc (b : Bool) : ∀ (l : List Bool) (k : Nat), listFrom k (l ++ [b]) = listFrom k l ++ if b then [((k + l.length : Nat) : Int)] else []
  | [], k => by simp [listFrom]
  | c :: r, k => by
    rw [List.cons_append, listFrom, listFrom_snoc b r (k + 1), listFrom, List.append_assoc]
    simp only [List.length_cons]
    rw [show k + 1 + r.length = k + (r.length + 1) by omega]
theorem listL_step {l : List Bool} {i : Nat} (h : i < l.length) : listL (l.take (i + 1)) = listL (l.take i) ++ if l[i] then [(i : Int)] else [] := by
  rw [List.take_add_one]
  simp only [h, List.getElem?_eq_getElem, Option.toList_some]
  rw [listL, listFrom_snoc, listL]
  have : (l.take i).length = i := by simp; omega
  rw [this, Nat.zero_add]
theorem listL_len (l : List Bool) (i : Nat) : (listL (l.take i)).length ≤ i := by
  have : ∀ (l : List Bool) (k : Nat), (listFrom k l).length ≤ l.length := by
    intro l
    induction l with
    | nil => intro k; simp [listFrom]
    | cons b r ih => intro k; have := ih (k + 1); cases b <;> simp [listFrom] <;> omega
  exact Nat.le_trans (this _ 0) (by simp; omega)

def kp17 : Kp := [(3, ([3, 6, 7, 8], [136]))]
theorem f17_spec (n1 : Bool) (b : List Bool) (hb : b.length ≤ 1000000000) (out : List Fr) :
    SpecP Tryz.prog 17 [.bools n1 b] out fun r ro => r = accV 136 1 ((listL b).map tI) ∧ ro = accO 136 3 1 ((listL b).map tI) := by
  refine spec_body cx_ok kp17 [] (fn := Tryz.f17) (by kernel_rfl) rfl (by kernel_rfl) rfl (by unfold FnOK; kernel_rfl) fun hok => ?_
  refine LoopW.mk (Nat × List Int) (fun p => p.1 ≤ b.length ∧ p.2 = listL (b.take p.1)) (fun p => [(3, accV 136 1 (p.2.map tI)), (6, .bools n1 b), (7, .int (b.map tB).length), (8, .int p.1)]) (fun p => ⟨out, accO 136 3 1 (p.2.map tI)⟩) (fun p => b.length - p.1) (0, []) ⟨Nat.zero_le _, rfl⟩ ⟨rfl, rfl⟩ ?_
  rintro ⟨i, acc⟩ ⟨hi0, hacc⟩
  simp only at hi0 hacc
  cases acc with
  | nil =>
    refine And.intro (fun h1 => ?_) fun h1 => ?_
    · have hi : i < b.length := lt_of_dec h1
      have hs := listL_step hi
      refine And.intro (by omega) (Exists.intro _ (And.intro (get_map hi) ?_))
      refine And.intro (fun h2 => ?_) fun h2 => ?_
      · refine And.intro (Nat.le_of_ble_eq_true rfl) (And.intro (Nat.le_of_ble_eq_true rfl) (And.intro (Nat.le_of_ble_eq_true rfl) ?_))
        refine And.intro (by omega) (And.intro (by omega) ?_)
        exact Exists.intro (i + 1, [(i : Int)]) (And.intro (by show b.length - (i + 1) < b.length - i; omega) (And.intro ⟨hi, by show [(i : Int)] = _; rw [hs, ← hacc, h2]; rfl⟩ (And.intro rfl rfl)))
      · refine And.intro (by omega) (And.intro (by omega) ?_)
        exact Exists.intro (i + 1, []) (And.intro (by show b.length - (i + 1) < b.length - i; omega) (And.intro ⟨hi, by show [] = _; rw [hs, ← hacc, h2]; rfl⟩ (And.intro rfl rfl)))
    · have hi : i = b.length := by have := ge_of_dec h1; omega
      rw [hi, List.take_length] at hacc
      refine Exists.intro [136] (And.intro ?_ ?_)
      · show LV.t (.sl true 0 []) = _
        rw [← hacc]; rfl
      · rw [← hacc]; rfl
  | cons x r =>
    refine And.intro (fun h1 => ?_) fun h1 => ?_
    · have hi : i < b.length := lt_of_dec h1
      have hs := listL_step hi
      have hln : (x :: r).length ≤ i := by rw [hacc]; exact listL_len b i
      have hln2 : ((tI x :: r.map tI) ++ [tI i]).length ≤ i + 1 := by simp at hln ⊢; omega
      refine And.intro (by omega) (Exists.intro _ (And.intro (get_map hi) ?_))
      refine And.intro (fun h2 => ?_) fun h2 => ?_
      · refine And.intro (Nat.le_of_ble_eq_true rfl) (And.intro rfl (And.intro (by show ((tI x :: r.map tI) ++ [tI i]).length * 8 ≤ _; omega) (And.intro (by show ((tI x :: r.map tI) ++ [tI i]).length ≤ _; omega) ?_)))
        refine And.intro (by omega) (And.intro (by omega) ?_)
        have e : (r ++ [(i : Int)]).map tI = r.map tI ++ [tI i] := by simp
        refine Exists.intro (i + 1, x :: (r ++ [(i : Int)])) (And.intro (by show b.length - (i + 1) < b.length - i; omega) (And.intro ⟨hi, by show x :: (r ++ [(i : Int)]) = _; rw [hs, ← hacc, h2]; rfl⟩ ?_))
        simp only [List.map_cons, e]
        exact And.intro rfl rfl
      · refine And.intro (by omega) (And.intro (by omega) ?_)
        exact Exists.intro (i + 1, x :: r) (And.intro (by show b.length - (i + 1) < b.length - i; omega) (And.intro ⟨hi, by show x :: r = _; rw [hs, ← hacc, h2]; simp⟩ (And.intro rfl rfl)))
    · have hi : i = b.length := by have := ge_of_dec h1; omega
      rw [hi, List.take_length] at hacc
      refine Exists.intro [136] (And.intro ?_ ?_)
      · show LV.osl (.cur 136) 1 0 ((x :: r).map tI).length = _
        rw [← hacc]; rfl
      · rw [← hacc]; rfl

end Go.Fw

/- What the program's functions do, part 8: sets of literals. -/
namespace Go.Fw
open Go Go.Proofs
set_option maxRecDepth 10000

def setHas (b : List Bool) (l : List Lit) : Bool := l.all fun x => b.getD (codeI x).toNat false
def od32 : Od := []
def kp32 : Kp := [(2, ([0, 7, 8, 9], []))]
end Go.Fw

/- What the program's functions do, part 9: the list of a set of literals. -/
namespace Go.Fw
open Go Go.Proofs
set_option maxRecDepth 10000

def kp28 : Kp := [(3, ([3, 6, 7, 8], [176]))]
end Go.Fw

/- What the program's functions do, part 10: rising lists and conditions of package task. -/
namespace Go.Fw
open Go Go.Proofs
set_option maxRecDepth 10000

def kp66 : Kp := [(2, ([0, 1, 7, 8, 9], []))]
theorem f66_spec (n1 : Bool) (l : List Int) (n : Int) (out : List Fr) : SpecP Tryz.prog 66 [.int n, .ints n1 l] out fun r ro => r = .bool (risingB l n) ∧ ro = [] := by
  refine spec_body cx_ok kp66 [] (fn := Tryz.f66) (by kernel_rfl) rfl (by kernel_rfl) rfl (by unfold FnOK; kernel_rfl) fun hok => ?_
  have hmx := le_max hok.2.1.1
  refine LoopW.mk Nat (fun i => i ≤ l.length ∧ (List.range i).all (chkI l n) = true) (fun i => [(0, .int n), (1, .ints n1 l), (7, .ints n1 l), (8, .int (l.map tI).length), (9, .int i)]) (fun _ => ⟨out, []⟩) (fun i => l.length - i) 0 ⟨Nat.zero_le _, rfl⟩ ⟨rfl, rfl⟩ fun i hI => ?_
  refine And.intro (fun h1 => ?_) fun h1 => ?_
  · have hi := lt_of_dec h1
    have ha := at0_eq hi
    refine And.intro (by omega) (Exists.intro _ (And.intro (get_map hi) ?_))
    refine And.intro (fun h2 => ?_) fun h2 => ?_
    · exact Exists.intro [] (ret_bool (range_false hi (by simp [chkI, ha]; simp at h2; omega)) rfl)
    · refine And.intro (fun h3 => ?_) fun h3 => ?_
      · exact Exists.intro [] (ret_bool (range_false hi (by simp [chkI, ha]; simp at h2 h3; omega)) rfl)
      · refine And.intro (fun h4 => ?_) fun h4 => ?_
        · have h0 : 0 < i := by simp at h4; omega
          have hp := at0_eq (l := l) (i := i - 1) (by omega)
          refine And.intro (by omega) (And.intro (by omega) (And.intro (by omega) (Exists.intro _ (And.intro (get_pred hi h0) ?_))))
          refine And.intro (fun h5 => ?_) fun h5 => ?_
          · exact Exists.intro [] (ret_bool (range_false hi (by simp [chkI, ha, hp]; simp at h2 h3 h5; omega)) rfl)
          · refine And.intro (by omega) (And.intro (by omega) ?_)
            exact Exists.intro (i + 1) (And.intro (by show l.length - (i + 1) < l.length - i; omega) (And.intro ⟨hi, range_step hI.2 (by simp [chkI, ha, hp]; simp at h2 h3 h5; omega)⟩ (And.intro rfl rfl)))
        · have h0 : i = 0 := by simp at h4; omega
          refine And.intro (by omega) (And.intro (by omega) ?_)
          exact Exists.intro (i + 1) (And.intro (by show l.length - (i + 1) < l.length - i; omega) (And.intro ⟨hi, range_step hI.2 (by simp [chkI, ha]; simp at h2 h3; omega)⟩ (And.intro rfl rfl)))
  · have hi : i = l.length := by have := hI.1; have := ge_of_dec h1; omega
    exact Exists.intro [] (ret_bool (by have := hI.2; rw [hi] at this; exact this) rfl)

def od74 : Od := [(4, [(0, .pure), (1, .pure), (2, .pure), (3, .pure), (4, .pure), (5, .pure), (6, .pure), (7, .pure), (8, .pure), (9, .pure), (10, .pure), (11, .pure), (12, .pure), (13, .pure), (14, .pure), (15, .pure), (16, .pure), (17, .pure), (18, .pure), (19, .pure), (20, .pure), (21, .pure), (22, .pure), (23, .pure)])]
def kp74 : Kp := [(2, ([0, 1, 7, 8, 9], []))]
theorem f74_spec (n1 : Bool) (l : List Lit) (n : Int) (out : List Fr) : SpecP Tryz.prog 74 [.int n, .lits n1 l] out fun r ro => r = .bool (condB l n) ∧ ro = [] := by
  refine spec_body cx_ok kp74 od74 (fn := Tryz.f74) (by kernel_rfl) rfl (by kernel_rfl) rfl (by unfold FnOK; kernel_rfl) fun hok => ?_
  have hmx := le_max hok.2.1.1
  have hlen : (l.map (·.fact)).length = l.length := List.length_map ..
  refine LoopW.mk Nat (fun i => i ≤ l.length ∧ (List.range i).all (chkI (l.map (·.fact)) n) = true) (fun i => [(0, .int n), (1, .lits n1 l), (7, .lits n1 l), (8, .int (l.map tLit).length), (9, .int i)]) (fun _ => ⟨out, []⟩) (fun i => l.length - i) 0 ⟨Nat.zero_le _, rfl⟩ ⟨rfl, rfl⟩ fun i hI => ?_
  refine And.intro (fun h1 => ?_) fun h1 => ?_
  · have hi := lt_of_dec h1
    have hi' : i < (l.map (·.fact)).length := by rw [hlen]; exact hi
    have ha := atF_eq hi
    refine And.intro (by omega) (Exists.intro _ (And.intro (get_map hi) ?_))
    refine And.intro (fun h2 => ?_) fun h2 => ?_
    · exact Exists.intro [] (ret_bool (range_false hi' (by simp [chkI, ha]; simp at h2; omega)) rfl)
    · refine And.intro (fun h3 => ?_) fun h3 => ?_
      · exact Exists.intro [] (ret_bool (range_false hi' (by simp [chkI, ha]; simp at h2 h3; omega)) rfl)
      · refine And.intro (fun h4 => ?_) fun h4 => ?_
        · have h0 : 0 < i := by simp at h4; omega
          have hp := atF_eq (l := l) (i := i - 1) (by omega)
          refine And.intro (by omega) (And.intro (by omega) (And.intro (by omega) (Exists.intro _ (And.intro (get_pred hi h0) ?_))))
          refine And.intro (fun h5 => ?_) fun h5 => ?_
          · exact Exists.intro [] (ret_bool (range_false hi' (by simp [chkI, ha, hp]; simp at h2 h3 h5; omega)) rfl)
          · refine And.intro (by omega) (And.intro (by omega) ?_)
            exact Exists.intro (i + 1) (And.intro (by show l.length - (i + 1) < l.length - i; omega) (And.intro ⟨hi, range_step hI.2 (by simp [chkI, ha, hp]; simp at h2 h3 h5; omega)⟩ (And.intro rfl rfl)))
        · have h0 : i = 0 := by simp at h4; omega
          refine And.intro (by omega) (And.intro (by omega) ?_)
          exact Exists.intro (i + 1) (And.intro (by show l.length - (i + 1) < l.length - i; omega) (And.intro ⟨hi, range_step hI.2 (by simp [chkI, ha]; simp at h2 h3; omega)⟩ (And.intro rfl rfl)))
  · have hi : i = l.length := by have := hI.1; have := ge_of_dec h1; omega
    exact Exists.intro [] (ret_bool (by have := hI.2; rw [hi, ← hlen] at this; exact this) rfl)

theorem f86_spec (c : Int) (out : List Fr) : SpecP Tryz.prog 86 [.byte c] out fun r ro => r = .bool (letterB c) ∧ ro = [] := by
  refine spec_body cx_ok [] [] (fn := Tryz.f86) (by kernel_rfl) rfl (by kernel_rfl) rfl (by unfold FnOK; kernel_rfl) fun hok => ?_
  refine And.intro (fun h1 => ?_) fun h1 => ?_
  · refine And.intro (fun h2 => ?_) fun h2 => ?_
    · exact Exists.intro [] (ret_bool (by simp [letterB]; simp at h1 h2; omega) rfl)
    · refine And.intro (fun h3 => ?_) fun h3 => ?_
      · refine And.intro (fun h4 => ?_) fun h4 => ?_
        · exact Exists.intro [] (ret_bool (by simp [letterB]; simp at h1 h2 h3 h4; omega) rfl)
        · exact Exists.intro [] (ret_bool (by simp [letterB]; simp at h1 h2 h3 h4; omega) rfl)
      · exact Exists.intro [] (ret_bool (by simp [letterB]; simp at h1 h2 h3; omega) rfl)
  · refine And.intro (fun h3 => ?_) fun h3 => ?_
    · refine And.intro (fun h4 => ?_) fun h4 => ?_
      · exact Exists.intro [] (ret_bool (by simp [letterB]; simp at h1 h3 h4; omega) rfl)
      · exact Exists.intro [] (ret_bool (by simp [letterB]; simp at h1 h3 h4; omega) rfl)
    · exact Exists.intro [] (ret_bool (by simp [letterB]; simp at h1 h3; omega) rfl)


end Go.Fw

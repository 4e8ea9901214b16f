/- Calls; what is asked of each operation. -/
import Derived.Test.YtjmekjoomdblfaaZB

/- The value logic, part 12: what is said of a function, and a call of it. -/
namespace Go.Fw
open Go

def LV.allK (p : K → Bool) : LV → Bool
  | .bad | .t _ | .ipt _ => true
  | .osl k _ _ _ | .ptr k _ | .pel k _ _ _ | .mpr k => p k
  | .fn _ cap => allC p cap
  | .ifc _ x => LV.allK p x
  | .agg cs | .tup cs => allL p cs
where
  allC (p : K → Bool) : List (K × Nat) → Bool
    | [] => true
    | q :: r => p q.1 && allC p r
  allL (p : K → Bool) : List LV → Bool
    | [] => true
    | x :: r => LV.allK p x && allL p r
def Ob.allK (p : K → Bool) : Ob → Bool
  | .box cs => LV.allK.allL p cs
  | .mit m _ => p m
  | _ => true

theorem allL_mem {p : K → Bool} : ∀ {cs : List LV}, LV.allK.allL p cs = true → ∀ x ∈ cs, x.allK p = true
  | [], _, x, hx => by cases hx
  | y :: r, h, x, hx => by
    simp only [LV.allK.allL, Bool.and_eq_true] at h
    rcases List.mem_cons.1 hx with rfl | hx
    · exact h.1
    · exact allL_mem h.2 x hx

theorem mapL_eq (g : K → K) : ∀ cs : List LV, mapV.mapL g cs = cs.map (mapV g)
  | [] => rfl
  | x :: r => by simp only [mapV.mapL, mapL_eq g r, List.map_cons]
theorem mapC_eq (g : K → K) : ∀ cs : List (K × Nat), mapC g cs = cs.map fun p => (g p.1, p.2)
  | [] => rfl
  | x :: r => by simp only [mapC, mapC_eq g r, List.map_cons]

section
variable {P : Program} {E : Ent} {N : Nat} {β β1 β2 : K → Nat} {RO : Nat → Prop} {env : Env} {st : St} {a : Act} {w w' : World}

theorem VL.map {g : K → K} {p : K → Bool} (hβ : ∀ k, p k = true → β2 (g k) = β1 k) {x : LV} {v : Value} (h : VL β1 RO w x v) : x.allK p = true → VL β2 RO w (mapV g x) v := by
  induction h with
  | bad x => intro _; exact .bad x
  | t x v h => intro _; exact .t x v h
  | osl k sz off len cap e n h hs hn hm => intro hp; have := hβ k hp; rw [← this] at hs ⊢; exact .osl _ _ _ _ cap e n h hs hn hm
  | ptr k c => intro hp; have := hβ k hp; rw [← this]; exact .ptr _ c
  | pel k sz i j => intro hp; have := hβ k hp; rw [← this]; exact .pel _ sz i j
  | ipt cs b off u hb hc hv => intro _; exact .ipt cs b off u hb hc hv
  | fn f cap =>
    intro hp
    have hm : (cap.map fun p => Value.pointer (some ⟨β1 p.1, p.2, none⟩)) = (mapC g cap).map fun p => Value.pointer (some ⟨β2 p.1, p.2, none⟩) := by
      rw [mapC_eq, List.map_map]
      refine List.map_congr_left fun q hq => ?_
      have hall : ∀ {cap : List (K × Nat)}, LV.allK.allC p cap = true → ∀ q ∈ cap, p q.1 = true := by
        intro cap
        induction cap with
        | nil => intro _ q hq; cases hq
        | cons y r ih =>
          intro h q hq
          simp only [LV.allK.allC, Bool.and_eq_true] at h
          rcases List.mem_cons.1 hq with rfl | hq
          · exact h.1
          · exact ih h.2 q hq
      simp only [Function.comp]
      rw [hβ q.1 (hall hp q hq)]
    rw [hm]; exact .fn f _
  | mpr k => intro hp; have := hβ k hp; rw [← this]; exact .mpr _
  | ifc t x v _ ih => intro hp; exact .ifc t _ v (ih hp)
  | agg cs vs hl _ h1 ih =>
    intro hp
    refine .agg _ vs (by rw [mapL_eq]; simpa using hl) (fun i x v hx hv => ?_) h1
    rw [mapL_eq, List.getElem?_map] at hx
    cases hc : cs[i]? with
    | none => simp [hc] at hx
    | some y => simp [hc] at hx; rw [← hx]; exact ih i y v hc hv (allL_mem hp y (List.mem_of_getElem? hc))
  | tup cs vs hl _ ih =>
    intro hp
    refine .tup _ vs (by rw [mapL_eq]; simpa using hl) fun i x v hx hv => ?_
    rw [mapL_eq, List.getElem?_map] at hx
    cases hc : cs[i]? with
    | none => simp [hc] at hx
    | some y => simp [hc] at hx; rw [← hx]; exact ih i y v hc hv (allL_mem hp y (List.mem_of_getElem? hc))

theorem ObOK.map {g : K → K} {p : K → Bool} (hβ : ∀ k, p k = true → β2 (g k) = β1 k) (hsub : ∀ k i, g (.sub k i) = .sub (g k) i) {k : K} (hk : p k = true) (hks : ∀ i, p (.sub k i) = true) {o : Ob} (h : ObOK β1 RO w k o) (ho : o.allK p = true) :
    ObOK β2 RO w (g k) (mapO g o) := by
  cases o with
  | row e sz es => obtain ⟨us, cap, h1, h2⟩ := h; exact ⟨us, cap, by rw [hβ k hk]; exact h1, h2⟩
  | box cs =>
    obtain ⟨vs, ety, h1, h2, h3, h4⟩ := h
    refine ⟨vs, ety, by rw [hβ k hk]; exact h1, by simp only [mapL_eq]; simpa using h2, fun i x v hx hv => ?_, h4⟩
    rw [mapL_eq, List.getElem?_map] at hx
    cases hc : cs[i]? with
    | none => simp [hc] at hx
    | some y => simp [hc] at hx; rw [← hx]; exact (h3 i y v hc hv).map hβ (allL_mem ho y (List.mem_of_getElem? hc))
  | grid eo e sz rs =>
    obtain ⟨us, cap, h1, h2⟩ := h
    refine ⟨us, cap, by rw [hβ k hk]; exact h1, fun i r u hi hu => ?_⟩
    have := h2 i r u hi hu
    cases r with
    | nil => exact this
    | out => trivial
    | row es =>
      simp only at this ⊢
      rw [← hsub]
      exact this.map (g := g) hβ (hks i)
  | mp kd kv => obtain ⟨ents, clock, h1, h2⟩ := h; exact ⟨ents, clock, by rw [hβ k hk]; exact h1, h2⟩
  | mit m left =>
    obtain ⟨seen, ents, clock, h1, h2, h3, h4⟩ := h
    have hm := hβ m ho
    exact ⟨seen, ents, clock, by rw [hβ k hk, hm]; exact h1, by rw [hm]; exact h2, by rw [hm]; exact h3, h4⟩

/-! ### What is said of a function -/
def Vals (β : K → Nat) (RO : Nat → Prop) (w : World) (args : List LV) (vals : List Value) : Prop :=
  args.length = vals.length ∧ ∀ (i : Nat) (x : LV) (v : Value), args[i]? = some x → vals[i]? = some v → VL β RO w x v

def entP (β : K → Nat) (RO : Nat → Prop) (w : World) : Ent := { w0 := w, RO0 := RO, Wr := fun _ => False, β0 := β, mv := fun _ => False, fz := true }

def FnOK (P : Program) (f : Nat) : Prop := (P.funcs[f]?).any (fun fn => fn.body.isSome && fn.name != "runtime.NumGoroutine") = true

/-- The call comes back; what was there stands as it stood; 'Post' tells the result and what it owns. -/
structure SpecP (P : Program) (f : Nat) (args : List LV) (out : List Fr) (Post : LV → Fr → Prop) : Prop where
  fn : FnOK P f
  calls : ∀ (β : K → Nat) (RO : Nat → Prop) (w : World) (vals : List Value), WR (entP β RO w) β RO ⟨out, []⟩ w → Vals β RO w args vals →
    Calls P f vals.toArray w fun e w' => ∃ v r ro out' β' RO', e = .returned v ∧ Post r ro ∧ WR (entP β RO w) β' RO' ⟨out', ro⟩ w' ∧ VL β' RO' w' r v

theorem SpecP.mono {f : Nat} {args : List LV} {out : List Fr} {Post Post' : LV → Fr → Prop} (h : SpecP P f args out Post) (hp : ∀ r ro, Post r ro → Post' r ro) : SpecP P f args out Post' :=
  ⟨h.1, fun β RO w vals hw hv => (h.2 β RO w vals hw hv).mono fun _ _ ⟨v, r, ro, out', β', RO', h1, h2, h3⟩ => ⟨v, r, ro, out', β', RO', h1, hp _ _ h2, h3⟩⟩

/-! ### What a call leaves -/
def pl (d s : Nat) : Nat := 1000003 * (d + 1) + s
def plK (d : Nat) : K → K
  | .cur s => .cur (pl d s)
  | .fr i s => .fr i s
  | .sub k i => .sub (plK d k) i
def plC (d : Nat) : Fr → Fr → Fr
  | [], cur => cur
  | (s, o) :: r, cur => (pl d s, mapO (plK d) o) :: plC d r cur

def inFr (ro : Fr) : K → Bool
  | .cur s => match look ro s with
    | some _ => true
    | none => false
  | .fr _ _ => false
  | .sub k _ => inFr ro k

theorem plK_inj {d : Nat} : ∀ {k k' : K}, plK d k = plK d k' → k = k'
  | .cur s, .cur s', h => by simp only [plK, K.cur.injEq, pl] at h ⊢; omega
  | .fr i s, .fr i' s', h => by simpa [plK] using h
  | .sub k i, .sub k' i', h => by
    simp only [plK, K.sub.injEq] at h ⊢
    exact ⟨plK_inj h.1, h.2⟩
  | .cur _, .fr _ _, h | .cur _, .sub _ _, h | .fr _ _, .cur _, h | .fr _ _, .sub _ _, h | .sub _ _, .cur _, h | .sub _ _, .fr _ _, h => by cases h

open Classical in
/-- Where the objects lie, the new ones among them. -/
noncomputable def plB (d : Nat) (ro : Fr) (β β' : K → Nat) : K → Nat := fun k =>
  if h : ∃ k0, k = plK d k0 ∧ inFr ro k0 = true then β' (Classical.choose h) else β k

theorem plB_new {d : Nat} {ro : Fr} {β β' : K → Nat} {k : K} (h : inFr ro k = true) : plB d ro β β' (plK d k) = β' k := by
  have hex : ∃ k0, plK d k = plK d k0 ∧ inFr ro k0 = true := ⟨k, rfl, h⟩
  unfold plB
  rw [dif_pos hex]
  exact congrArg β' (plK_inj (Classical.choose_spec hex).1).symm
theorem plB_old {d : Nat} {ro : Fr} {β β' : K → Nat} {k : K} (h : ∀ k0, inFr ro k0 = true → k ≠ plK d k0) : plB d ro β β' k = β k := by
  unfold plB
  rw [dif_neg]
  rintro ⟨k0, h1, h2⟩
  exact h k0 h2 h1

theorem look_plC (d : Nat) : ∀ (ro cur : Fr) (n : Nat), (∀ s o, look ro s = some o → n = pl d s → look (plC d ro cur) n = some (mapO (plK d) o)) ∧ ((∀ s, (∃ o, look ro s = some o) → n ≠ pl d s) → look (plC d ro cur) n = look cur n)
  | [], cur, n => ⟨fun s o h => by simp [look] at h, fun _ => rfl⟩
  | (s0, o0) :: r, cur, n => by
    obtain ⟨ih1, ih2⟩ := look_plC d r cur n
    refine ⟨fun s o h hn => ?_, fun h => ?_⟩
    · rw [look_cons] at h
      simp only [plC, look_cons]
      by_cases hs : s0 = s
      · subst hs; rw [if_pos rfl] at h; cases h; rw [if_pos hn.symm]
      · rw [if_neg hs] at h
        rw [if_neg (by unfold pl at *; omega)]
        exact ih1 s o h hn
    · simp only [plC, look_cons]
      have h0 := h s0 ⟨o0, by rw [look_cons, if_pos rfl]⟩
      rw [if_neg (Ne.symm h0)]
      refine ih2 fun s ⟨o, hs⟩ => h s ?_
      rw [look_cons]
      by_cases he : s0 = s
      · exact ⟨o0, if_pos he⟩
      · exact ⟨o, by rw [if_neg he]; exact hs⟩

def T.flat : T → Prop
  | .v _ => True
  | .sl true _ [] => True
  | .sl _ _ _ => False
def LV.flat : LV → Prop
  | .t x => x.flat
  | .ipt _ => False
  | .ifc _ x => LV.flat x
  | .agg cs | .tup cs => flatL cs
  | _ => True
where flatL : List LV → Prop
  | [] => True
  | x :: r => LV.flat x ∧ flatL r
def Ob.flat : Ob → Prop
  | .row _ _ es => ∀ el ∈ es, ∀ x ∈ el, x.flat
  | .box cs => LV.flat.flatL cs
  | .grid _ _ _ rs => ∀ es, .row es ∈ rs → ∀ el ∈ es, ∀ x ∈ el, x.flat
  | .mp _ kv => ∀ p ∈ kv, p.2.flat
  | .mit _ _ => False

theorem flatL_mem : ∀ {cs : List LV}, LV.flat.flatL cs → ∀ x ∈ cs, x.flat
  | [], _, x, hx => by cases hx
  | y :: r, h, x, hx => by
    simp only [LV.flat.flatL] at h
    rcases List.mem_cons.1 hx with rfl | hx
    · exact h.1
    · exact flatL_mem h.2 x hx
theorem VT.flat {RO' : Nat → Prop} {x : T} {v : Value} (h : VT RO w x v) (hf : x.flat) : VT RO' w x v := by
  cases h with
  | v _ h => exact .v _ h
  | nil sz => exact .nil sz
  | emp sz => exact (hf : False).elim
  | sl sz es => exact (hf : False).elim
theorem VL.flat {RO' : Nat → Prop} {x : LV} {v : Value} (h : VL β RO w x v) : x.flat → VL β RO' w x v := by
  induction h with
  | bad x => intro _; exact .bad x
  | t x v h => intro hf; exact .t x v (h.flat hf)
  | osl k sz off len cap e n h hs hn hm => intro _; exact .osl k sz off len cap e n h hs hn hm
  | ptr k c => intro _; exact .ptr k c
  | pel k sz i j => intro _; exact .pel k sz i j
  | ipt cs b off u hb hc hv => intro hf; exact hf.elim
  | fn f cap => intro _; exact .fn f cap
  | mpr k => intro _; exact .mpr k
  | ifc t x v _ ih => intro hf; exact .ifc t x v (ih hf)
  | agg cs vs hl _ h1 ih => intro hf; exact .agg cs vs hl (fun i x v hx hv => ih i x v hx hv (flatL_mem hf x (List.mem_of_getElem? hx))) h1
  | tup cs vs hl _ ih => intro hf; exact .tup cs vs hl fun i x v hx hv => ih i x v hx hv (flatL_mem hf x (List.mem_of_getElem? hx))
theorem Flat.flat {RO' : Nat → Prop} {sz : Nat} {es : List (List T)} {us : List Value} (h : Flat RO w sz es us) (hf : ∀ el ∈ es, ∀ x ∈ el, x.flat) : Flat RO' w sz es us :=
  ⟨h.1, fun i e hi => ⟨(h.2 i e hi).1, fun j x hj => let ⟨u, h1, h2⟩ := (h.2 i e hi).2 j x hj; ⟨u, h1, h2.flat (hf e (List.mem_of_getElem? hi) x (List.mem_of_getElem? hj))⟩⟩⟩
theorem ObOK.flat {RO' : Nat → Prop} {k : K} {o : Ob} (h : ObOK β RO w k o) (hf : o.flat) : ObOK β RO' w k o := by
  cases o with
  | row e sz es => obtain ⟨us, cap, h1, h2⟩ := h; exact ⟨us, cap, h1, h2.flat hf⟩
  | box cs => obtain ⟨vs, ety, h1, h2, h3, h4⟩ := h; exact ⟨vs, ety, h1, h2, fun i x v hx hv => (h3 i x v hx hv).flat (flatL_mem hf x (List.mem_of_getElem? hx)), h4⟩
  | grid eo e sz rs =>
    obtain ⟨us, cap, h1, h2⟩ := h
    refine ⟨us, cap, h1, fun i r u hi hu => ?_⟩
    have := h2 i r u hi hu
    cases r with
    | nil => exact this
    | out => trivial
    | row es => exact this.flat trivial
  | mp kd kv => obtain ⟨ents, clock, h1, h2, hk, h3, h4⟩ := h; exact ⟨ents, clock, h1, h2, hk, fun i p m hp hm => ⟨(h3 i p m hp hm).1, (h3 i p m hp hm).2.flat (hf p (List.mem_of_getElem? hp))⟩, h4⟩
  | mit m l =>
    exact hf.elim
theorem ObOK.ro {RO' : Nat → Prop} (hro : ∀ b, RO b → RO' b) {k : K} {o : Ob} (h : ObOK β RO w k o) : ObOK β RO' w k o :=
  h.keep hro (fun _ _ => rfl) rfl rfl (fun _ _ _ _ _ hv => hv.ro hro) (fun _ _ _ _ _ _ _ _ => ⟨rfl, fun _ h => h⟩) fun _ _ _ => ⟨rfl, rfl⟩

theorem inFr_root {ro : Fr} {d : Nat} : ∀ {k : K}, inFr ro k = true → ∃ s o, look ro s = some o ∧ K.under (.cur (pl d s)) (plK d k) = true ∧ k.isFr = false
  | .cur s, h => by
    simp only [inFr] at h
    split at h
    · rename_i o ho; exact ⟨s, o, ho, K.under_self _, rfl⟩
    · cases h
  | .fr i s, h => by cases h
  | .sub k i, h => by
    obtain ⟨s, o, h1, h2, h3⟩ := inFr_root (d := d) (k := k) (by simpa [inFr] using h)
    exact ⟨s, o, h1, by simp only [plK, K.under, h2, Bool.or_true], h3⟩

theorem plC_get {d : Nat} {ro : Fr} {st : St} {out' : List Fr} {k : K} {o : Ob} (h : St.get ⟨st.out, plC d ro st.cur⟩ k = some o) :
    (∃ k0 o0, k = plK d k0 ∧ inFr ro k0 = true ∧ St.get ⟨out', ro⟩ k0 = some o0 ∧ o = mapO (plK d) o0) ∨ ((∀ k0, inFr ro k0 = true → k ≠ plK d k0) ∧ st.get k = some o) := by
  have hcur : ∀ (n : Nat) (o : Ob), look (plC d ro st.cur) n = some o → (∃ s o0, n = pl d s ∧ look ro s = some o0 ∧ o = mapO (plK d) o0) ∨ ((∀ s, (∃ o, look ro s = some o) → n ≠ pl d s) ∧ look st.cur n = some o) := by
    intro n o ho
    obtain ⟨h1, h2⟩ := look_plC d ro st.cur n
    by_cases hex : ∃ s o0, look ro s = some o0 ∧ n = pl d s
    · obtain ⟨s, o0, hs, hn⟩ := hex
      rw [h1 s o0 hs hn] at ho
      exact .inl ⟨s, o0, hn, hs, (Option.some.inj ho).symm⟩
    · have hno : ∀ s, (∃ o, look ro s = some o) → n ≠ pl d s := fun s ⟨o, hs⟩ hn => hex ⟨s, o, hs, hn⟩
      rw [h2 hno] at ho
      exact .inr ⟨hno, ho⟩
  cases k with
  | cur n =>
    rcases hcur n o h with ⟨s, o0, rfl, hs, rfl⟩ | ⟨hno, ho⟩
    · exact .inl ⟨.cur s, o0, rfl, by simp only [inFr, hs], hs, rfl⟩
    · refine .inr ⟨fun k0 hk0 he => ?_, ho⟩
      cases k0 with
      | cur s =>
        simp only [inFr] at hk0
        split at hk0
        · rename_i o2 ho2; exact hno s ⟨o2, ho2⟩ (by simpa [plK] using he)
        · cases hk0
      | fr => cases hk0
      | sub => cases he
  | fr i s => exact .inr ⟨(fun k0 hk0 he => by cases k0 <;> first | (cases hk0; done) | (cases he; done)), h⟩
  | sub k i =>
    obtain ⟨eo, e, sz, rs, es, hg, hi, rfl⟩ := St.get_sub h
    cases k with
    | cur n =>
      rcases hcur n _ hg with ⟨s, o0, rfl, hs, h2⟩ | ⟨hno, ho⟩
      · refine .inl ⟨.sub (.cur s) i, .row e sz es, rfl, by simp only [inFr, hs], ?_, rfl⟩
        cases o0 <;> simp only [mapO, reduceCtorEq] at h2
        simp only [St.get, hs, ← h2, hi]
      · refine .inr ⟨fun k0 hk0 he => ?_, by simp only [St.get, ho, hi]⟩
        cases k0 with
        | cur => cases he
        | fr => cases he
        | sub k1 j =>
          simp only [plK, K.sub.injEq] at he
          cases k1 with
          | cur s =>
            simp only [inFr] at hk0
            split at hk0
            · rename_i o2 ho2; exact hno s ⟨o2, ho2⟩ (by simpa [plK] using he.1)
            · cases hk0
          | fr => cases hk0
          | sub => cases he.1
    | fr j n => exact .inr ⟨(fun k0 hk0 he => by
        cases k0 with
        | cur => cases he
        | fr => cases he
        | sub k1 j =>
          simp only [plK, K.sub.injEq] at he
          cases k1 with
          | cur s => cases he.1
          | fr => cases hk0
          | sub => cases he.1), by have hg' : st.get (.fr j n) = _ := hg; simp only [St.get] at hg' ⊢; simp only [hg', hi]⟩
    | sub k2 j => have := St.root_of_get_grid hg; cases this

theorem after_call {d : Nat} {βc β' : K → Nat} {ROc RO'' : Nat → Prop} {out' : List Fr} {ro : Fr} {r : LV} {v : Value} (h : SR E N β RO env st a w) (hw : WR (entP βc ROc w) β' RO'' ⟨out', ro⟩ w') (hr : VL β' RO'' w' r v)
    (hfresh : ∀ s o, look ro s = some o → freshB env st.cur (pl d s) = true) (hk : r.allK (inFr ro) = true) (hko : ∀ s o, look ro s = some o → o.allK (inFr ro) = true)
    (hRO : (∀ b, RO'' b → RO b ∨ w.heap.size ≤ b) ∨ (r.flat ∧ ∀ k o, inFr ro k = true → St.get ⟨out', ro⟩ k = some o → o.flat)) :
    ∃ β2 RO2, SR E N β2 RO2 env ⟨st.out, plC d ro st.cur⟩ a w' ∧ VL β2 RO2 w' (mapV (plK d) r) v := by
  have hb : ∀ b, b < w.heap.size → w'.heap[b]? = w.heap[b]? := fun b hlt => hw.keep b hlt (fun h => h)
  have hst : Step w w' := ⟨hw.os, hw.tape, hw.output, hw.size⟩
  have hcan : ∀ k, k.isFr = false → (entP βc ROc w).can k := fun k hf h => by rw [hf] at h; cases h
  have hβnew : ∀ k, inFr ro k = true → plB d ro β β' (plK d k) = β' k := fun k hk => plB_new hk
  have hold : ∀ (k : K), (∀ k0, inFr ro k0 = true → k ≠ plK d k0) → plB d ro β β' k = β k := fun k hk => plB_old hk
  have hro2 : ∀ b, RO b → RO b ∨ (RO'' b ∧ w.heap.size ≤ b) := fun b hb => .inl hb
  -- values that were there
  have hval : ∀ (x : LV) (u : Value), (∀ s o, look ro s = some o → x.has (.cur (pl d s)) = false) → VL β RO w x u → VL (plB d ro β β') (fun b => RO b ∨ (RO'' b ∧ w.heap.size ≤ b)) w' x u := by
    intro x u hno hx
    refine hx.mono hro2 (fun b hb' => hb b (h.wr.roLt b hb')) (fun k => ∀ k0, inFr ro k0 = true → k ≠ plK d k0) (fun k hk => ⟨hold k hk, fun r hr => (shape_of_block (hb _ (lt_of_shape hr))).trans hr⟩) ?_
    rintro k hk k0 hk0 rfl
    obtain ⟨s, o, hs, hu, _⟩ := inFr_root (d := d) hk0
    have := LV.has_trans hu hk
    rw [hno s o hs] at this; cases this
  -- new blocks
  have hnewB : ∀ k o, inFr ro k = true → St.get ⟨out', ro⟩ k = some o → w.heap.size ≤ β' k ∧ ¬ RO'' (β' k) := by
    intro k o hk ho
    obtain ⟨_, _, _, _, hf⟩ := inFr_root (d := d) hk
    exact ⟨(hw.objNew k o ho (hcan k hf)).elim False.elim id, hw.sep k o ho (hcan k hf)⟩
  have hnewV : ∀ (x : LV) (u : Value), x.allK (inFr ro) = true → ((∀ b, RO'' b → RO b ∨ w.heap.size ≤ b) ∨ x.flat) → VL β' RO'' w' x u → VL (plB d ro β β') (fun b => RO b ∨ (RO'' b ∧ w.heap.size ≤ b)) w' (mapV (plK d) x) u := by
    intro x u hk hR hx
    refine VL.map hβnew ?_ hk
    rcases hR with hR | hR
    · exact hx.ro fun b hb' => (hR b hb').imp id fun h => ⟨hb', h⟩
    · exact hx.flat hR
  have hnoE : ∀ n x, look env n = some x → ∀ s o, look ro s = some o → x.has (.cur (pl d s)) = false := fun n x hx s o hs => (h.fresh (hfresh s o hs)).2 n x hx
  refine ⟨plB d ro β β', fun b => RO b ∨ (RO'' b ∧ w.heap.size ≤ b), ⟨⟨hst.os.trans h.wr.os, hst.tape.trans h.wr.tape, hst.output.trans h.wr.output, Nat.le_trans h.wr.size hst.size, fun b hlt hnw => ?_, fun b hb' => ?_, fun b hb' => .inl (h.wr.ro0 b hb'), fun b hb' => ?_, fun k o hk => ?_, fun k o hk hc => ?_, fun k k' o o' hk hk' hc hc' he => ?_, fun k o hk hc => ?_, fun k o hk hc => ?_, fun k hk hnm => ?_⟩, h.size, h.defers, fun n x hx => ?_⟩, hnewV r v hk (hRO.imp id And.left) hr⟩
  · rw [hb b (Nat.lt_of_lt_of_le hlt h.wr.size)]; exact h.wr.keep b hlt hnw
  · rcases hb' with hb' | ⟨hb', _⟩
    · exact Nat.lt_of_lt_of_le (h.wr.roLt b hb') hst.size
    · exact hw.roLt b hb'
  · rcases hb' with hb' | ⟨_, hb'⟩
    · exact h.wr.roNew b hb'
    · exact .inr (.inl (Nat.le_trans h.wr.size hb'))
  · rcases plC_get (out' := out') hk with ⟨k0, o0, rfl, h0, hg, rfl⟩ | ⟨hne, hg⟩
    · obtain ⟨s, os, hs, hu, hf⟩ := inFr_root (d := d) h0
      have hall : o0.allK (inFr ro) = true := by
        cases k0 with
        | cur s => exact hko s o0 hg
        | fr => cases h0
        | sub k i => obtain ⟨_, _, _, _, _, _, _, rfl⟩ := St.get_sub hg; rfl
      refine ObOK.map hβnew (fun _ _ => rfl) h0 (fun i => by simpa [inFr] using h0) ?_ hall
      have hok := hw.obj k0 o0 hg
      rcases hRO with hR | ⟨_, hR⟩
      · exact hok.ro fun b hb' => (hR b hb').imp id fun h => ⟨hb', h⟩
      · exact hok.flat (hR k0 o0 h0 hg)
    · have hok := h.wr.obj k o hg
      have hno : ∀ s o2, look ro s = some o2 → o.has (.cur (pl d s)) = false := fun s o2 hs => (h.fresh (hfresh s o2 hs)).1 k o hg
      refine hok.keep hro2 (fun b hb' => hb b (h.wr.roLt b hb')) (hold k hne) (hb _ hok.lt) (fun cs hcs x hx u hu => ?_) (fun eo e sz rs ho i es hi => ⟨hold _ fun k0 hk0 he => ?_, fun r hr => (shape_of_block (hb _ (lt_of_shape hr))).trans hr⟩) fun m left ho => ?_
      · exact hval x u (fun s o2 hs => by have := hno s o2 hs; rw [hcs] at this; exact hasL_mem this x hx) hu
      · cases k0 with
        | cur => cases he
        | fr => cases he
        | sub k1 j =>
          simp only [plK, K.sub.injEq] at he
          exact hne k1 (by simpa [inFr] using hk0) he.1
      · subst ho
        obtain ⟨_, ents, clock, _, h2, _⟩ := hok
        refine ⟨hold m fun k0 hk0 he => ?_, hb _ (lt_of_heap h2)⟩
        obtain ⟨s, o2, hs, hu, _⟩ := inFr_root (d := d) hk0
        have := hno s o2 hs
        simp only [Ob.has] at this
        rw [he, hu] at this; cases this
  · rcases plC_get (out' := out') hk with ⟨k0, o0, rfl, h0, hg, rfl⟩ | ⟨hne, hg⟩
    · rw [hβnew k0 h0]; exact .inr (Nat.le_trans h.wr.size (hnewB k0 o0 h0 hg).1)
    · rw [hold k hne]; exact h.wr.objNew k o hg hc
  · rcases plC_get (out' := out') hk with ⟨k0, o0, rfl, h0, hg, rfl⟩ | ⟨hne, hg⟩ <;> rcases plC_get (out' := out') hk' with ⟨k1, o1, rfl, h1, hg1, rfl⟩ | ⟨hne1, hg1⟩
    · rw [hβnew k0 h0, hβnew k1 h1] at he
      obtain ⟨_, _, _, _, hf0⟩ := inFr_root (d := d) h0
      obtain ⟨_, _, _, _, hf1⟩ := inFr_root (d := d) h1
      exact congrArg _ (hw.inj k0 k1 o0 o1 hg hg1 (hcan k0 hf0) (hcan k1 hf1) he)
    · rw [hβnew k0 h0, hold k' hne1] at he
      have := (h.wr.obj k' o' hg1).lt
      have := (hnewB k0 o0 h0 hg).1
      omega
    · rw [hβnew k1 h1, hold k hne] at he
      have := (h.wr.obj k o hg).lt
      have := (hnewB k1 o1 h1 hg1).1
      omega
    · rw [hold k hne, hold k' hne1] at he
      exact h.wr.inj k k' o o' hg hg1 hc hc' he
  · rcases plC_get (out' := out') hk with ⟨k0, o0, rfl, h0, hg, rfl⟩ | ⟨hne, hg⟩
    · rw [hβnew k0 h0]
      obtain ⟨h1, h2⟩ := hnewB k0 o0 h0 hg
      rintro (hb' | ⟨hb', _⟩)
      · have := h.wr.roLt _ hb'; omega
      · exact h2 hb'
    · rw [hold k hne]
      have := (h.wr.obj k o hg).lt
      rintro (hb' | ⟨_, hb'⟩)
      · exact h.wr.sep k o hg hc hb'
      · omega
  · rcases plC_get (out' := out') hk with ⟨k0, o0, rfl, h0, hg, rfl⟩ | ⟨hne, hg⟩
    · obtain ⟨_, _, _, _, hf0⟩ := inFr_root (d := d) h0
      refine absurd ?_ hc
      intro hf
      exfalso
      have : ∀ k : K, (plK d k).isFr = k.isFr := fun k => by induction k <;> simp_all [plK, K.isFr]
      rw [this, hf0] at hf; cases hf
    · rw [hold k hne]; exact .inl (h.wr.fzRO k o hg hc)
  · rw [hold k fun k0 hk0 he => ?_]
    · exact h.wr.stay k hk hnm
    · obtain ⟨_, _, _, _, hf0⟩ := inFr_root (d := d) hk0
      have : ∀ k : K, (plK d k).isFr = k.isFr := fun k => by induction k <;> simp_all [plK, K.isFr]
      rw [he, this, hf0] at hk; cases hk
  · obtain ⟨u, h1, h2⟩ := h.env n x hx
    exact ⟨u, h1, hval x u (hnoE n x hx) h2⟩

end
end Go.Fw

/- The value logic, part 13: a call of a function by what is said of it. -/
namespace Go.Fw
open Go

def lowK : K → K
  | .cur s => .cur s
  | .fr 0 s => .cur s
  | .fr (i + 1) s => .fr i s
  | .sub k i => .sub (lowK k) i
theorem lowK_lift : ∀ k : K, lowK (liftK 1 k) = k
  | .cur _ => rfl
  | .fr _ _ => rfl
  | .sub k i => by simp only [liftK, lowK, lowK_lift k]
theorem liftK_lift (n m : Nat) : ∀ k : K, liftK n (liftK m k) = liftK (m + n) k
  | .cur s => by
    cases m with
    | zero => simp [liftK]
    | succ m =>
      have : m + 1 + n = (m + n) + 1 := by omega
      rw [this]; rfl
  | .fr i s => by simp only [liftK, Nat.add_assoc]
  | .sub k i => by simp only [liftK, liftK_lift n m k]
theorem mapC_comp (g h : K → K) : ∀ cap, mapC g (mapC h cap) = mapC (fun k => g (h k)) cap
  | [] => rfl
  | p :: r => by simp only [mapC, mapC_comp g h r]
mutual
theorem mapV_comp (g h : K → K) : ∀ x, mapV g (mapV h x) = mapV (fun k => g (h k)) x
  | .bad | .t _ | .ipt _ => rfl
  | .osl _ _ _ _ | .ptr _ _ | .pel _ _ _ _ | .mpr _ => rfl
  | .fn f cap => by simp only [mapV, mapC_comp]
  | .ifc t x => by simp only [mapV, mapV_comp g h x]
  | .agg cs | .tup cs => by simp only [mapV, mapL_comp g h cs]
theorem mapL_comp (g h : K → K) : ∀ cs, mapV.mapL g (mapV.mapL h cs) = mapV.mapL (fun k => g (h k)) cs
  | [] => rfl
  | x :: r => by simp only [mapV.mapL, mapV_comp g h x, mapL_comp g h r]
end
theorem liftO_lift (n m : Nat) (o : Ob) : liftO n (liftO m o) = liftO (m + n) o := by
  have e : (fun k => liftK n (liftK m k)) = liftK (m + n) := funext (liftK_lift n m)
  cases o with
  | box cs => simp only [liftO, mapO, mapL_comp, e]
  | mit m l => simp only [liftO, mapO, liftK_lift]
  | _ => rfl

section
variable {P : Program} {E : Ent} {N : Nat} {β : K → Nat} {RO : Nat → Prop} {env : Env} {st : St} {a : Act} {w w' : World}

theorem enter_get {k : K} {o : Ob} (h : St.get ⟨st.cur :: st.out, []⟩ k = some o) : ∃ o0, st.get (lowK k) = some o0 ∧ o = liftO 1 o0 ∧ k = liftK 1 (lowK k) := by
  have root : ∀ k o, k.root = true → St.get ⟨st.cur :: st.out, []⟩ k = some o → ∃ o0, st.get (lowK k) = some o0 ∧ o = liftO 1 o0 ∧ k = liftK 1 (lowK k) := by
    intro k o hr h
    cases k with
    | cur s => simp [St.get, look] at h
    | fr i s =>
      cases i with
      | zero =>
        simp only [St.get, List.getElem?_cons_zero] at h
        split at h
        · rename_i o0 ho; cases h; exact ⟨o0, ho, rfl, rfl⟩
        · cases h
      | succ i =>
        simp only [St.get, List.getElem?_cons_succ] at h
        split at h
        · rename_i fr hf
          split at h
          · rename_i o0 ho
            cases h
            refine ⟨liftO (i + 1) o0, by simp only [lowK, St.get, hf, ho], (liftO_lift 1 (i + 1) o0).symm, rfl⟩
          · cases h
        · cases h
    | sub => cases hr
  cases k with
  | sub k i =>
    obtain ⟨eo, e, sz, rs, es, hg, hi, rfl⟩ := St.get_sub h
    obtain ⟨o0, h1, h2, h3⟩ := root k _ (St.root_of_get_grid hg) hg
    cases o0 <;> simp only [liftO, mapO, reduceCtorEq] at h2
    cases h2
    exact ⟨.row e sz es, by simp only [lowK, St.get, h1, hi], rfl, by simp only [lowK, liftK, ← h3]⟩
  | cur s => exact root _ _ rfl h
  | fr i s => exact root _ _ rfl h

/-- What the caller's own objects add to what may be read for ever, while the callee runs. -/
def ownRO (E : Ent) (β : K → Nat) (RO : Nat → Prop) (st : St) (b : Nat) : Prop := RO b ∨ ∃ k o, st.get k = some o ∧ E.can k ∧ b = β k

theorem allTrue : (∀ x : LV, x.allK (fun _ => true) = true) ∧ (∀ cs : List LV, LV.allK.allL (fun _ => true) cs = true) := by
  have hc : ∀ cap : List (K × Nat), LV.allK.allC (fun _ => true) cap = true := by
    intro cap; induction cap with
    | nil => rfl
    | cons p r ih => simp [LV.allK.allC, ih]
  have h : ∀ x : LV, x.allK (fun _ => true) = true := by
    intro x
    induction x using LV.rec (motive_2 := fun cs => LV.allK.allL (fun _ => true) cs = true) with
    | agg cs ih => exact ih
    | tup cs ih => exact ih
    | fn f cap => exact hc cap
    | ifc t x ih => exact ih
    | nil => rfl
    | cons x r ihx ihr => simp only [LV.allK.allL, ihx, ihr, Bool.and_self]
    | _ => rfl
  refine ⟨h, fun cs => ?_⟩
  induction cs with
  | nil => rfl
  | cons x r ih => simp only [LV.allK.allL, h x, ih, Bool.and_self]

theorem enter_wr (h : WR E β RO st w) : WR (entP (fun k => β (lowK k)) (ownRO E β RO st) w) (fun k => β (lowK k)) (ownRO E β RO st) ⟨st.cur :: st.out, []⟩ w := by
  have hnc : ∀ k o, St.get ⟨st.cur :: st.out, []⟩ k = some o → ¬ (entP (fun k => β (lowK k)) (ownRO E β RO st) w).can k := by
    intro k o hk hc
    have hf : k.isFr = true := by
      obtain ⟨_, _, _, h3⟩ := enter_get hk
      rw [h3]
      have : ∀ q : K, (liftK 1 q).isFr = true := fun q => by
        induction q with
        | cur => rfl
        | fr => rfl
        | sub q i ih => exact ih
      exact this _
    have := hc hf
    cases this
  refine ⟨rfl, rfl, rfl, Nat.le_refl _, fun _ _ _ => rfl, fun b hb => ?_, fun _ h => h, fun _ h => .inl h, fun k o hk => ?_, fun k o hk hc => absurd hc (hnc k o hk), fun k k' o o' hk hk' hc => absurd hc (hnc k o hk), fun k o hk hc => absurd hc (hnc k o hk), fun k o hk _ => ?_, fun _ _ _ => rfl⟩
  · rcases hb with hb | ⟨k, o, hk, _, rfl⟩
    · exact h.roLt b hb
    · exact (h.obj k o hk).lt
  · obtain ⟨o0, h1, rfl, h3⟩ := enter_get hk
    have := (h.obj _ o0 h1).ro (RO' := ownRO E β RO st) fun b hb => .inl hb
    rw [h3]
    refine ObOK.map (p := fun _ => true) (β2 := fun k => β (lowK k)) (fun k _ => by simp only [lowK_lift]) (fun _ _ => rfl) rfl (fun _ => rfl) this ?_
    cases o0 with
    | box cs => exact allTrue.2 cs
    | _ => rfl
  · obtain ⟨o0, h1, _, _⟩ := enter_get hk
    by_cases hc : E.can (lowK k)
    · exact .inr ⟨_, o0, h1, hc, rfl⟩
    · exact .inl (h.fzRO _ o0 h1 hc)

theorem bare_wr (h : WR E β RO st w) : WR (entP β RO w) β RO ⟨[], []⟩ w := by
  have hno : ∀ k o, St.get ⟨[], []⟩ k = some o → False := by
    intro k
    induction k with
    | cur s => intro o h; simp [St.get, look] at h
    | fr i s => intro o h; simp [St.get] at h
    | sub k i ih => intro o h; obtain ⟨_, _, _, _, _, hg, _⟩ := St.get_sub h; exact ih _ hg
  exact ⟨rfl, rfl, rfl, Nat.le_refl _, fun _ _ _ => rfl, h.roLt, fun _ h => h, fun _ h => .inl h, fun k o hk => (hno k o hk).elim, fun k o hk => (hno k o hk).elim, fun k _ o _ hk => (hno k o hk).elim, fun k o hk => (hno k o hk).elim, fun k o hk => (hno k o hk).elim, fun _ _ _ => rfl⟩

end
end Go.Fw

/- The value logic, part 14: what is asked of a call. -/
namespace Go.Fw
open Go

def noK (_ : K) : Bool := false

/-- Own rows among the arguments are handed on to be read. -/
def borC (st : St) : List LV → List LV → (List LV → Prop) → Prop
  | [], acc, F => F acc
  | .osl k sz off len :: r, acc, F => getW st k fun o => match o with
    | .row _ sz' es => match Nat.beq sz sz' with
      | true => ∃ xs, xs = (es.drop off).take len ∧ off + len ≤ es.length ∧ borC st r (acc ++ [.t (.sl false sz xs)]) F
      | false => False
    | _ => False
  | x :: r, acc, F => borC st r (acc ++ [x]) F
def borW (st : St) : List LV → List LV → (List LV → Prop) → Prop
  | [], acc, F => F acc
  | .agg cs :: r, acc, F => borC st cs [] fun cs' => borW st r (acc ++ [.agg cs']) F
  | .osl k sz off len :: r, acc, F => borC st [.osl k sz off len] [] fun cs' => borW st r (acc ++ cs') F
  | x :: r, acc, F => borW st r (acc ++ [x]) F

def okFr (ro : Fr) (env : List (Nat × LV)) (cur : Fr) (d : Nat) : Fr → Bool
  | [] => true
  | (s, o) :: r => match o.allK (inFr ro), freshB env cur (pl d s) with
    | true, true => okFr ro env cur d r
    | _, _ => false
def flatFr : Fr → Prop
  | [] => True
  | (_, o) :: r => o.flat ∧ flatFr r

def plW (env : Env) (st : St) (d : Nat) (r : LV) (ro : Fr) (K' : LV → Env → St → Prop) : Prop :=
  match r.allK (inFr ro), okFr ro env st.cur d ro with
  | true, true => K' (mapV (plK d) r) env ⟨st.out, plC d ro st.cur⟩
  | _, _ => False

def callW (P : Program) (env : Env) (st : St) (d f : Nat) (args : List LV) (K' : LV → Env → St → Prop) : Prop :=
  match LV.allK.allL noK args with
  | true => SpecP P f args [] fun r ro => plW env st d r ro K'
  | false => borW st args [] fun args => SpecP P f (liftL 1 args) (st.cur :: st.out) fun r ro => r.flat ∧ flatFr ro ∧ plW env st d r ro K'

def capArgs (cap : List (K × Nat)) : List LV := cap.map fun p => .ptr p.1 p.2

section
variable {P : Program} {E : Ent} {N : Nat} {β : K → Nat} {RO : Nat → Prop} {env : Env} {st : St} {a : Act} {w w' : World}

theorem okFr_look {ro : Fr} {cur : Fr} {d : Nat} : ∀ {l : Fr}, okFr ro env cur d l = true → ∀ s o, look l s = some o → o.allK (inFr ro) = true ∧ freshB env cur (pl d s) = true
  | [], _, s, o, h => by simp [look] at h
  | (m, y) :: r, h, s, o, hs => by
    simp only [okFr] at h
    split at h
    · rename_i h1 h2
      rw [look_cons] at hs
      split at hs
      · rename_i hm; cases hs; subst hm; exact ⟨h1, h2⟩
      · exact okFr_look h s o hs
    · cases h
theorem flatFr_look : ∀ {l : Fr}, flatFr l → ∀ s o, look l s = some o → o.flat
  | [], _, s, o, h => by simp [look] at h
  | (m, y) :: r, h, s, o, hs => by
    rw [look_cons] at hs
    split at hs
    · cases hs; exact h.1
    · exact flatFr_look h.2 s o hs

theorem Vals.snoc {args : List LV} {vals : List Value} {x : LV} {v : Value} (h : Vals β RO w args vals) (hx : VL β RO w x v) : Vals β RO w (args ++ [x]) (vals ++ [v]) := by
  refine ⟨by simp [h.1], fun i y u hy hu => ?_⟩
  by_cases hi : i < args.length
  · rw [List.getElem?_append_left hi] at hy
    rw [List.getElem?_append_left (h.1 ▸ hi)] at hu
    exact h.2 i y u hy hu
  · rw [List.getElem?_append_right (by omega)] at hy
    rw [List.getElem?_append_right (by rw [← h.1]; omega), ← h.1] at hu
    have : i - args.length = 0 := by have := (List.getElem?_eq_some_iff.1 hy).1; simp at this; omega
    rw [this] at hy hu
    simp at hy hu
    rw [← hy, ← hu]; exact hx
theorem Vals.tail {x : LV} {r : List LV} {v : Value} {vs : List Value} (h : Vals β RO w (x :: r) (v :: vs)) : VL β RO w x v ∧ Vals β RO w r vs :=
  ⟨h.2 0 x v rfl rfl, by simpa using h.1, fun i y u hy hu => h.2 (i + 1) y u (by simpa using hy) (by simpa using hu)⟩
theorem Vals.ro {RO' : Nat → Prop} (hro : ∀ b, RO b → RO' b) {args : List LV} {vals : List Value} (h : Vals β RO w args vals) : Vals β RO' w args vals :=
  ⟨h.1, fun i x v hx hv => (h.2 i x v hx hv).ro hro⟩

theorem borC_gives (h : WR E β RO st w) {F : List LV → Prop} : ∀ {args : List LV} {vals : List Value} {acc : List LV} {us : List Value}, Vals β (ownRO E β RO st) w args vals → Vals β (ownRO E β RO st) w acc us → borC st args acc F →
    ∃ args', F args' ∧ Vals β (ownRO E β RO st) w args' (us ++ vals)
  | [], vals, acc, us, hv, ha, hW => by
    have : vals = [] := List.eq_nil_of_length_eq_zero hv.1.symm
    subst this
    exact ⟨acc, hW, by simpa using ha⟩
  | x :: r, [], acc, us, hv, ha, hW => by have := hv.1; simp at this
  | x :: r, v :: vs, acc, us, hv, ha, hW => by
    obtain ⟨hx, hr⟩ := hv.tail
    have next : ∀ {y : LV}, VL β (ownRO E β RO st) w y v → borC st r (acc ++ [y]) F → ∃ args', F args' ∧ Vals β (ownRO E β RO st) w args' (us ++ v :: vs) := by
      intro y hy hW
      obtain ⟨args', h1, h2⟩ := borC_gives h hr (ha.snoc hy) hW
      exact ⟨args', h1, by simpa using h2⟩
    cases x with
    | osl k sz off len =>
      simp only [borC] at hW
      obtain ⟨o, hk, hG⟩ := getW_gives hW
      clear hW
      split at hG
      · rename_i e sz' es
        split at hG
        · rename_i hsz
          simp at hsz
          subst hsz
          obtain ⟨xs, rfl, hl, hW⟩ := hG
          have hkro : ownRO E β RO st (β k) := by
            by_cases hc : E.can k
            · exact .inr ⟨k, _, hk, hc, rfl⟩
            · exact .inl (h.fzRO k _ hk hc)
          exact next (.t _ _ (snap (fun _ h => h) hkro ((h.obj k _ hk).ro fun b hb => .inl hb) hx hl)) hW
        · cases hG
      · cases hG
    | _ => exact next hx hW

theorem borW_gives (h : WR E β RO st w) {F : List LV → Prop} : ∀ {args : List LV} {vals : List Value} {acc : List LV} {us : List Value}, Vals β (ownRO E β RO st) w args vals → Vals β (ownRO E β RO st) w acc us → borW st args acc F →
    ∃ args', F args' ∧ Vals β (ownRO E β RO st) w args' (us ++ vals)
  | [], vals, acc, us, hv, ha, hW => by
    have : vals = [] := List.eq_nil_of_length_eq_zero hv.1.symm
    subst this
    exact ⟨acc, hW, by simpa using ha⟩
  | x :: r, [], acc, us, hv, ha, hW => by have := hv.1; simp at this
  | x :: r, v :: vs, acc, us, hv, ha, hW => by
    obtain ⟨hx, hr⟩ := hv.tail
    have next : ∀ {y : LV}, VL β (ownRO E β RO st) w y v → borW st r (acc ++ [y]) F → ∃ args', F args' ∧ Vals β (ownRO E β RO st) w args' (us ++ v :: vs) := by
      intro y hy hW
      obtain ⟨args', h1, h2⟩ := borW_gives h hr (ha.snoc hy) hW
      exact ⟨args', h1, by simpa using h2⟩
    have hemp : Vals β (ownRO E β RO st) w [] [] := ⟨rfl, fun i x v h => by simp at h⟩
    cases x with
    | osl k sz off len =>
      simp only [borW] at hW
      have h1 : Vals β (ownRO E β RO st) w [.osl k sz off len] [v] := by have := hemp.snoc hx; simpa using this
      obtain ⟨cs', hW, hcs⟩ := borC_gives h h1 hemp hW
      simp only [List.nil_append] at hcs
      obtain ⟨y, rfl⟩ : ∃ y, cs' = [y] := by
        have := hcs.1
        match cs', this with
        | [y], _ => exact ⟨y, rfl⟩
      exact next (hcs.2 0 y v rfl rfl) hW
    | agg cs =>
      simp only [borW] at hW
      cases hx with
      | agg _ us' hl hv' h1 =>
      obtain ⟨cs', hW, hcs⟩ := borC_gives h (vals := us') ⟨hl, hv'⟩ hemp hW
      simp only [List.nil_append] at hcs
      exact next (.agg _ _ hcs.1 hcs.2 h1) hW
    | _ => exact next hx hW

theorem Vals.map {g : K → K} {β2 : K → Nat} (hβ : ∀ k, β2 (g k) = β k) {args : List LV} {vals : List Value} (h : Vals β RO w args vals) : Vals β2 RO w (mapV.mapL g args) vals := by
  rw [mapL_eq]
  refine ⟨by simpa using h.1, fun i x v hx hv => ?_⟩
  rw [List.getElem?_map] at hx
  cases hc : args[i]? with
  | none => simp [hc] at hx
  | some y =>
    simp [hc] at hx
    rw [← hx]; exact (h.2 i y v hc hv).map (p := fun _ => true) (fun k _ => hβ k) (allTrue.1 y)

theorem plW_gives {d : Nat} {βc β' : K → Nat} {ROc RO'' : Nat → Prop} {out' : List Fr} {ro : Fr} {r : LV} {v : Value} {K' : LV → Env → St → Prop} (h : SR E N β RO env st a w) (hw : WR (entP βc ROc w) β' RO'' ⟨out', ro⟩ w') (hr : VL β' RO'' w' r v)
    (hp : plW env st d r ro K') (hRO : (∀ b, RO'' b → RO b ∨ w.heap.size ≤ b) ∨ (r.flat ∧ flatFr ro)) :
    ∃ x env' st' β2 RO2, K' x env' st' ∧ SR E N β2 RO2 env' st' a w' ∧ VL β2 RO2 w' x v ∧ env' = env := by
  unfold plW at hp
  split at hp
  · rename_i h1 h2
    obtain ⟨β2, RO2, h3, h4⟩ := after_call (d := d) h hw hr (fun s o hs => (okFr_look h2 s o hs).2) h1 (fun s o hs => (okFr_look h2 s o hs).1) (hRO.imp id fun ⟨hf, hfr⟩ => ⟨hf, fun k o hk ho => by
      cases k with
      | cur s => exact flatFr_look hfr s o ho
      | fr => cases hk
      | sub k i =>
        obtain ⟨eo, e, sz, rs, es, hg, hi, rfl⟩ := St.get_sub ho
        cases k with
        | cur s => exact flatFr_look hfr s _ hg es (List.mem_of_getElem? hi)
        | fr => cases hk
        | sub k2 j => have := St.root_of_get_grid hg; cases this⟩)
    exact ⟨_, _, _, β2, RO2, hp, h3, h4, rfl⟩
  · cases hp

/-- A call comes back with what is told. -/
theorem callW_gives {d f : Nat} {args : List LV} {vals : List Value} {K' : LV → Env → St → Prop} (h : SR E N β RO env st a w) (hv : Vals β RO w args vals) (hW : callW P env st d f args K') :
    FnOK P f ∧ Calls P f vals.toArray w fun e w' => ∃ v x env' st' β2 RO2, e = .returned v ∧ K' x env' st' ∧ SR E N β2 RO2 env' st' a w' ∧ VL β2 RO2 w' x v ∧ env' = env := by
  unfold callW at hW
  split at hW
  · refine ⟨hW.1, (hW.2 β RO w vals (bare_wr h.wr) hv).mono ?_⟩
    rintro e w' ⟨v, r, ro, out', β', RO', he, hp, hw, hr⟩
    obtain ⟨x, env', st', β2, RO2, h1, h2, h3, h4⟩ := plW_gives h hw hr hp (.inl fun b hb => (hw.roNew b hb).imp id fun h => h.elim id False.elim)
    exact ⟨v, x, env', st', β2, RO2, he, h1, h2, h3, h4⟩
  · obtain ⟨args', hS, hv'⟩ := borW_gives h.wr (hv.ro fun b hb => .inl hb) (us := []) ⟨rfl, fun i x v h => by simp at h⟩ hW
    simp only [List.nil_append] at hv'
    refine ⟨hS.1, (hS.2 (fun k => β (lowK k)) (ownRO E β RO st) w vals (enter_wr h.wr) (hv'.map fun k => by simp only [lowK_lift])).mono ?_⟩
    rintro e w' ⟨v, r, ro, out', β', RO', he, ⟨hf1, hf2, hp⟩, hw, hr⟩
    obtain ⟨x, env', st', β2, RO2, h1, h2, h3, h4⟩ := plW_gives h hw hr hp (.inr ⟨hf1, hf2⟩)
    exact ⟨v, x, env', st', β2, RO2, he, h1, h2, h3, h4⟩

/-- The call as an operation. -/
theorem call_wp {o : Oper} {c : Call} {fo : Operand} {f d : Nat} {cap : List (K × Nat)} {K' : LV → Env → St → Prop} {Q : Act → World → Prop} (hop : o.op = .call c) (hcal : c.callee = .value fo) (h : SR E N β RO env st a w)
    (hf : opd env fo = .fn f cap) (hW : callW P env st d f (c.args.toList.map (opd env) ++ capArgs cap) K')
    (hQ : ∀ v x env' st' β2 RO2 w', K' x env' st' → SR E N β2 RO2 env' st' a w' → VL β2 RO2 w' x v → env' = env → Q (a.put o.dst v) w') : o.wp P a w Q fun _ _ _ => False := by
  have hfv := h.opd fo
  rw [hf] at hfv
  have hvals : Vals β RO w (c.args.toList.map (opd env) ++ capArgs cap) (c.args.toList.map a.eval ++ cap.map fun p => Value.pointer (some ⟨β p.1, p.2, none⟩)) := by
    refine ⟨by simp [capArgs], fun i x v hx hv => ?_⟩
    by_cases hi : i < c.args.toList.length
    · rw [List.getElem?_append_left (by simpa using hi), List.getElem?_map] at hx hv
      cases hc : c.args.toList[i]? with
      | none => simp [hc] at hx
      | some y =>
        simp only [hc, Option.map_some, Option.some.injEq] at hx hv
        rw [← hx, ← hv]; exact h.opd y
    · rw [List.getElem?_append_right (by simp; simpa using hi)] at hx hv
      simp only [List.length_map] at hx hv
      simp only [capArgs, List.getElem?_map] at hx hv
      cases hc : cap[i - c.args.toList.length]? with
      | none => rw [hc] at hx; cases hx
      | some p =>
        simp only [hc, Option.map_some, Option.some.injEq] at hx hv
        rw [← hx, ← hv]; exact .ptr _ _
  obtain ⟨hfn, hcalls⟩ := callW_gives h hvals hW
  cases hv : a.eval fo <;> rw [hv] at hfv <;> cases hfv
  unfold FnOK at hfn
  cases hfun : P.funcs[f]? with
  | none => simp [hfun] at hfn
  | some fn =>
    simp only [hfun, Option.any_some, Bool.and_eq_true, bne_iff_ne, ne_eq] at hfn
    have hbody : fn.body.isNone = false := by
      cases hb : fn.body with
      | none => simp [hb] at hfn
      | some _ => rfl
    have hrun : (execOp a.eval o).run P w = .ok (.enter f (c.args.toList.map a.eval ++ cap.map fun p => Value.pointer (some ⟨β p.1, p.2, none⟩)).toArray) w := by
      have hname : (fn.name == "runtime.NumGoroutine") = false := by simpa using hfn.2
      simp only [execOp, hop, resolve, hcal, hv, Deferred.ofValue, Sem.run_bind, Sem.run_pure, Result.andThen_ok, invoke, callFunc, run_program, hfun, hname, hbody, Bool.false_eq_true, if_false]
      congr 2
      rw [← Array.toList_inj]
      simp
    unfold Oper.wp
    rw [hrun]
    simp only [Oper.upon]
    refine hcalls.mono ?_
    rintro e w' ⟨v, x, env', st', β2, RO2, rfl, h1, h2, h3, h4⟩
    exact hQ v x env' st' β2 RO2 w' h1 h2 h3 h4

end
end Go.Fw

/- The value logic, part 15: what is asked of one operation. -/
namespace Go.Fw
open Go

def arW (wr : Bool) (k : IntKind) (n : Int) (K' : LV → Prop) : Prop :=
  match wr with
  | true => ∀ m, m = k.wrap n → K' (.t (.v (.int k m)))
  | false => match k with
  | .i64 => -9223372036854775808 ≤ n ∧ n ≤ 9223372036854775807 ∧ K' (.t (.v (.int .i64 n)))
  | .u8 => 0 ≤ n ∧ n ≤ 255 ∧ K' (.t (.v (.int .u8 n)))
  | .u64 => 0 ≤ n ∧ n ≤ 18446744073709551615 ∧ K' (.t (.v (.int .u64 n)))
  | k => lo k ≤ n ∧ n ≤ hi k ∧ K' (.t (.v (.int k n)))

def someW (o : Option LV) (K' : LV → Prop) : Prop := match o with
  | some x => K' x
  | none => False

def binPW (C : Ctx) (op : BinOp) (t : Nat) (x y : LV) (K' : LV → Prop) : Prop :=
  match x, y with
  | .t (.v (.int k a)), .t (.v (.int k' b)) => if k = k' then match op with
      | .add => arW C.wrap k (a + b) K'
      | .sub => arW C.wrap k (a - b) K'
      | .mul => arW C.wrap k (a * b) K'
      | .quo => b ≠ 0 ∧ arW C.wrap k (a.tdiv b) K'
      | .rem => b ≠ 0 ∧ K' (.t (.v (.int k (a.tmod b))))
      | .eql => K' (.t (.v (.bool (a == b))))
      | .neq => K' (.t (.v (.bool (a != b))))
      | .lss => K' (.t (.v (.bool (decide (a < b)))))
      | .leq => K' (.t (.v (.bool (decide (a ≤ b)))))
      | .gtr => K' (.t (.v (.bool (decide (a > b)))))
      | .geq => K' (.t (.v (.bool (decide (a ≥ b)))))
      | .shr => 0 ≤ a ∧ b = 1 ∧ arW false k (a / 2) K'
      | _ => False
    else False
  | x, y => someW (binL C op t x y) K'

def idxPW (C : Ctx) (t : Nat) (x i : LV) (K' : LV → Prop) : Prop :=
  match C.ty t with
  | some ⟨.slice e, _, _, _⟩ => match C.ty e with
    | some ti => match i with
      | .t (.v (.int _ n)) => match x with
        | .t (.sl _ sz es) => match Nat.beq sz ti.size with
          | true => 0 ≤ n ∧ ∃ el, es[n.toNat]? = some el ∧ K' (.ipt el)
          | false => False
        | .osl k sz off len => match Nat.beq sz ti.size with
          | true => 0 ≤ n ∧ n < (len : Int) ∧ K' (.pel k sz (off + n.toNat) 0)
          | false => False
        | _ => False
      | _ => False
    | none => False
  | _ => False

def strPW (C : Ctx) (t : Nat) (x i : LV) (K' : LV → Prop) : Prop :=
  match C.ty t with
  | some ⟨.str, _, _, _⟩ => match x, i with
    | .t (.v (.string s)), .t (.v (.int _ n)) => 0 ≤ n ∧ ∃ b, s.data[n.toNat]? = some b ∧ K' (.t (.v (.int .u8 b.toNat)))
    | _, _ => False
  | _ => False

def loadPW (C : Ctx) (st : St) (t : Nat) (x : LV) (K' : LV → Prop) : Prop :=
  match C.ty t with
  | none => False
  | some ti => match x with
    | .pel k sz i j => getW st k fun o => match o with
      | .row _ sz' es => match Nat.beq sz' sz with
        | true => ∃ el, es[i]? = some el ∧ match ti.d.agg with
          | true => j + ti.size ≤ el.length ∧ K' (.agg (((el.drop j).take ti.size).map .t))
          | false => match el[j]? with
            | some x => K' (.t x)
            | none => False
        | false => False
      | .grid _ _ szi rs => match Nat.beq sz 1, Nat.beq j 0, ti.d.agg with
        | true, true, false => ∃ r, rs[i]? = some r ∧ match r with
          | .nil => K' (.t (.sl true 0 []))
          | .row es => K' (.osl (.sub k i) szi 0 es.length)
          | .out => False
        | _, _, _ => False
      | _ => False
    | .ptr k c => getW st k fun o => match o with
      | .box cs => match ti.d.agg with
        | true => match Nat.ble (c + ti.size) cs.length with
          | true => K' (.agg ((cs.drop c).take ti.size))
          | false => False
        | false => match cs[c]? with
          | some x => K' x
          | none => False
      | _ => False
    | .ipt cs => match ti.d.agg with
      | true => match Nat.ble ti.size cs.length with
        | true => K' (.agg ((cs.take ti.size).map .t))
        | false => False
      | false => match cs[0]? with
        | some x => K' (.t x)
        | none => False
    | _ => False

def slicePW (C : Ctx) (t : Nat) (x : LV) (lo hi : Option Int) (K' : LV → Prop) : Prop :=
  match C.ty t with
  | some ⟨.slice e, _, _, _⟩ => match C.ty e with
    | some ti => match x with
      | .t (.sl nil sz es) => match Nat.beq sz ti.size with
        | true => 0 ≤ lo.getD 0 ∧ lo.getD 0 ≤ hi.getD (es.length : Int) ∧ hi.getD (es.length : Int) ≤ (es.length : Int) ∧
          K' (.t (.sl nil sz ((es.take (hi.getD (es.length : Int)).toNat).drop (lo.getD 0).toNat)))
        | false => False
      | .osl k sz off len => match Nat.beq sz ti.size with
        | true => match keepB C lo with
          | true => 0 ≤ lo.getD 0 ∧ lo.getD 0 ≤ hi.getD (len : Int) ∧ hi.getD (len : Int) ≤ (len : Int) ∧ K' (.osl k sz off (hi.getD (len : Int)).toNat)
          | false => 0 ≤ lo.getD 0 ∧ lo.getD 0 ≤ hi.getD (len : Int) ∧ hi.getD (len : Int) ≤ (len : Int) ∧
          (lo.getD 0 < hi.getD (len : Int) → K' (.osl k sz (off + (lo.getD 0).toNat) ((hi.getD (len : Int)).toNat - (lo.getD 0).toNat))) ∧
          (¬ lo.getD 0 < hi.getD (len : Int) → K' (.t (.sl false sz [])))
        | false => False
      | _ => False
    | none => False
  | some ⟨.str, _, _, _⟩ => match x with
    | .t (.v (.string s)) => 0 ≤ lo.getD 0 ∧ lo.getD 0 ≤ hi.getD (s.size : Int) ∧ hi.getD (s.size : Int) ≤ (s.size : Int) ∧
        K' (.t (.v (.string (s.extract (lo.getD 0).toNat (hi.getD (s.size : Int)).toNat))))
    | _ => False
  | _ => False

def lookPW (C : Ctx) (st : St) (t : Nat) (x k : LV) (ok : Bool) (K' : LV → Prop) : Prop :=
  match C.ty t with
  | some ⟨.map kt et, _, _, _⟩ => match C.ty kt, C.ty et with
    | some tk, some te => match te.d.agg, te.zero with
      | false, [z] => match x, k with
        | .mpr m, .t (.v kv) => getW st m fun o => match o with
          | .mp kd l => match decide (kd = tk.d), keyOK kd kv, ok with
            | true, true, false => ∃ y, lookKV kv (ofV z) l = y ∧ K' (.t y)
            | true, true, true => ∃ y b, lookKV kv (ofV z) l = y ∧ hasKV kv l = b ∧ K' (.tup [.t y, .bool b])
            | _, _, _ => False
          | _ => False
        | _, _ => False
      | _, _ => False
    | _, _ => False
  | _ => False

def convPW (C : Ctx) (src dst : Nat) (x : LV) (K' : LV → Prop) : Prop :=
  match C.ty src, C.ty dst, x with
  | some _, some ⟨.int k, _, _, _⟩, .t (.v (.int _ n)) => arW false k n K'
  | _, _, _ => False

def pureW (C : Ctx) (env : Env) (st : St) (o : Op) (K' : LV → Prop) : Prop :=
  match o with
  | .convert src dst x => convPW C src dst (opd env x) K'
  | .binOp op t x y _ => binPW C op t (opd env x) (opd env y) K'
  | .indexAddr t x i => idxPW C t (opd env x) (opd env i) K'
  | .index t x i => strPW C t (opd env x) (opd env i) K'
  | .load t x => loadPW C st t (opd env x) K'
  | .lookup t x k ok => lookPW C st t (opd env x) (opd env k) ok K'
  | .slice t x lo hi none => match optInt env lo, optInt env hi with
    | some l, some h => slicePW C t (opd env x) l h K'
    | _, _ => False
  | o => someW (pev C env st o) K'

theorem someW_iff {o : Option LV} {K' : LV → Prop} (h : someW o K') : ∃ x, o = some x ∧ K' x := by
  unfold someW at h
  split at h
  · exact ⟨_, rfl, h⟩
  · cases h

theorem arW_inR {wr : Bool} {k : IntKind} {n : Int} {K' : LV → Prop} (h : arW wr k n K') : ∃ r, inRw wr k n = some r ∧ K' (.t (.v r)) := by
  unfold arW at h
  cases wr
  rotate_left
  · exact ⟨_, rfl, h _ rfl⟩
  simp only [inRw]
  simp only at h
  split at h
  · exact ⟨_, if_pos ⟨h.1, h.2.1⟩, h.2.2⟩
  · exact ⟨_, if_pos ⟨h.1, h.2.1⟩, h.2.2⟩
  · exact ⟨_, if_pos ⟨h.1, h.2.1⟩, h.2.2⟩
  · exact ⟨_, if_pos ⟨h.1, h.2.1⟩, h.2.2⟩

theorem pureW_pev {C : Ctx} {env : Env} {st : St} {o : Op} {K' : LV → Prop} (h : pureW C env st o K') : ∃ x, pev C env st o = some x ∧ K' x := by
  unfold pureW at h
  split at h
  · rename_i src dst x
    simp only [pev]
    unfold convPW at h
    split at h
    · rename_i k s b z kk n hs hd hx
      obtain ⟨r, h1, h2⟩ := arW_inR (wr := false) h
      simp only [inRw] at h1
      exact ⟨_, by simp only [hs, hd, hx, h1], h2⟩
    · cases h
  · rename_i op t x y yt
    simp only [pev]
    unfold binPW at h
    split at h
    · rename_i k a k' b hx hy
      rw [hx, hy]
      split at h
      · rename_i hk
        subst hk
        have key : ∀ {r : Option Value} {F : LV → Prop}, binV C.wrap op (.int k a) (.int k b) = r → (∃ v, r = some v ∧ F (.t (.v v))) → ∃ x, binL C op t (.t (.v (.int k a))) (.t (.v (.int k b))) = some x ∧ F x := by
          rintro r F hr ⟨v, rfl, hF⟩
          exact ⟨_, by simp only [binL, hr], hF⟩
        split at h
        · exact key (by simp only [binV, if_true]) (arW_inR h)
        · exact key (by simp only [binV, if_true]) (arW_inR h)
        · exact key (by simp only [binV, if_true]) (arW_inR h)
        · exact key (by simp only [binV, if_true]; rw [if_neg h.1]) (arW_inR h.2)
        · exact key (by simp only [binV, if_true]; rw [if_neg h.1]) ⟨_, rfl, h.2⟩
        · exact key (by simp only [binV, if_true]) ⟨_, rfl, h⟩
        · exact key (by simp only [binV, if_true]) ⟨_, rfl, h⟩
        · exact key (by simp only [binV, if_true]) ⟨_, rfl, h⟩
        · exact key (by simp only [binV, if_true]) ⟨_, rfl, h⟩
        · exact key (by simp only [binV, if_true]) ⟨_, rfl, h⟩
        · exact key (by simp only [binV, if_true]) ⟨_, rfl, h⟩
        · exact key (by simp only [binV, if_true]; rw [if_pos ⟨h.1, h.2.1⟩]; rfl) (arW_inR (wr := false) h.2.2)
        · cases h
      · cases h
    · exact someW_iff h
  · rename_i t x i
    simp only [pev, indexAddrL]
    unfold idxPW at h
    split at h
    · rename_i e s b z ht
      split at h
      · rename_i ti hti
        split at h
        · rename_i k n hi
          split at h
          · rename_i nl sz es hx
            split at h
            · rename_i hsz
              simp at hsz
              obtain ⟨h0, el, hel, hK⟩ := h
              exact ⟨_, by simp only [ht, hti, hi, hx, hsz, h0, and_self, if_true, hel], hK⟩
            · cases h
          · rename_i k sz off len hx
            split at h
            · rename_i hsz
              simp at hsz
              subst hsz
              obtain ⟨h0, h1, hK⟩ := h
              exact ⟨_, by simp only [ht, hti, hi, hx, h0, h1, and_self, if_true], hK⟩
            · cases h
          · cases h
        · cases h
      · cases h
    · cases h
  · rename_i t x i
    simp only [pev, indexL]
    unfold strPW at h
    split at h
    · rename_i s b z ht
      split at h
      · rename_i ss k n hx hi
        obtain ⟨h0, bb, hb, hK⟩ := h
        exact ⟨_, by simp only [ht, hx, hi, h0, if_true, hb], hK⟩
      · cases h
    · cases h
  · rename_i t x
    simp only [pev, loadL]
    unfold loadPW at h
    split at h
    · cases h
    · rename_i ti hti
      simp only [hti]
      split at h
      · rename_i k sz i j hx
        rw [hx]
        obtain ⟨o, hk, hG⟩ := getW_gives h
        clear h
        simp only [hk]
        split at hG
        · rename_i e sz' es
          split at hG
          · rename_i hsz
            simp at hsz
            obtain ⟨el, hel, hG⟩ := hG
            simp only [loadPel, hsz, if_true, hel]
            split at hG
            · rename_i ha
              exact ⟨_, by simp only [ha, hG.1, if_true], hG.2⟩
            · rename_i ha
              split at hG
              · rename_i y hy; exact ⟨_, by simp only [ha, hy], hG⟩
              · cases hG
          · cases hG
        · rename_i eo e szi rs
          split at hG
          · rename_i h1 h2 ha
            simp at h1 h2
            obtain ⟨r, hr, hG⟩ := hG
            simp only [loadPel, h1, h2, and_self, if_true, ha, hr]
            split at hG
            · exact ⟨_, rfl, hG⟩
            · exact ⟨_, rfl, hG⟩
            · cases hG
          · cases hG
        · cases hG
      · rename_i k c hx
        rw [hx]
        obtain ⟨o, hk, hG⟩ := getW_gives h
        clear h
        simp only [hk]
        split at hG
        · rename_i cs
          simp only [loadPtr]
          split at hG
          · rename_i ha
            split at hG
            · rename_i hle
              simp at hle
              exact ⟨_, by simp only [ha, hle, if_true], hG⟩
            · cases hG
          · rename_i ha
            split at hG
            · rename_i y hy; exact ⟨_, by simp only [ha, hy], hG⟩
            · cases hG
        · cases hG
      · rename_i cs hx
        rw [hx]
        simp only
        split at h
        · rename_i ha
          split at h
          · rename_i hle
            simp at hle
            exact ⟨_, by simp only [ha, hle, if_true], h⟩
          · cases h
        · rename_i ha
          split at h
          · rename_i y hy; exact ⟨_, by simp only [ha, hy], h⟩
          · cases h
      · cases h
  · rename_i t x k ok
    simp only [pev, lookupL]
    unfold lookPW at h
    split at h
    · rename_i kt et s b z0 ht
      simp only [ht]
      split at h
      · rename_i tk te htk hte
        simp only [htk, hte]
        split at h
        · rename_i z hag hz
          simp only [hag, hz]
          split at h
          · rename_i m kv hx hk
            rw [hx, hk]
            obtain ⟨o, hm, hG⟩ := getW_gives h
            clear h
            simp only [hm]
            split at hG
            · rename_i kd l
              split at hG
              · rename_i g1 g2
                obtain ⟨y, rfl, hK⟩ := hG
                simp only [g1, g2]
                exact ⟨_, rfl, hK⟩
              · rename_i g1 g2
                obtain ⟨y, b, rfl, rfl, hK⟩ := hG
                simp only [g1, g2]
                exact ⟨_, rfl, hK⟩
              · cases hG
            · cases hG
          · cases h
        · cases h
      · cases h
    · cases h
  · rename_i t x lo hi
    simp only [pev]
    split at h
    · rename_i l hh hl hhh
      simp only [hl, hhh, sliceL]
      unfold slicePW at h
      split at h
      · rename_i e s b z ht
        split at h
        · rename_i ti hti
          split at h
          · rename_i nl sz es hx
            split at h
            · rename_i hsz
              simp at hsz
              subst hsz
              obtain ⟨h0, h1, h2, hK⟩ := h
              exact ⟨_, by simp only [ht, hti, hx, h0, h1, h2, and_self, if_true], hK⟩
            · cases h
          · rename_i k sz off len hx
            split at h
            · rename_i hsz
              simp at hsz
              subst hsz
              split at h
              · rename_i hkb
                obtain ⟨h0, h1, h2, hK⟩ := h
                exact ⟨_, by simp only [ht, hti, hx, h0, h1, h2, and_self, if_true, hkb], hK⟩
              rename_i hkb
              obtain ⟨h0, h1, h2, hA, hB⟩ := h
              by_cases hlt : l.getD 0 < hh.getD (len : Int)
              · exact ⟨_, by simp only [ht, hti, hx, h0, h1, h2, and_self, if_true, hlt, hkb], hA hlt⟩
              · exact ⟨_, by simp only [ht, hti, hx, h0, h1, h2, and_self, if_true, hlt, if_false, hkb], hB hlt⟩
            · cases h
          · cases h
        · cases h
      · rename_i s b z ht
        split at h
        · rename_i ss hx
          obtain ⟨h0, h1, h2, hK⟩ := h
          exact ⟨_, by simp only [ht, hx, h0, h1, h2, and_self, if_true], hK⟩
        · cases h
      · cases h
    · cases h
  · exact someW_iff h

end Go.Fw

/- The value logic, part 16: stores. -/
namespace Go.Fw
open Go

/-- Laid over a list from a place on. -/
def spl {α : Type} : List α → Nat → List α → List α
  | l, 0, [] => l
  | [], _, _ => []
  | _ :: r, 0, y :: s => y :: spl r 0 s
  | x :: r, n + 1, s => x :: spl r n s

theorem spl_eq {α : Type} : ∀ (l : List α) (n : Nat) (s : List α), n + s.length ≤ l.length → spl l n s = l.take n ++ s ++ l.drop (n + s.length)
  | l, 0, [], _ => by cases l <;> simp [spl]
  | [], n + 1, s, h => by simp at h
  | [], 0, y :: s, h => by simp at h
  | x :: r, 0, y :: s, h => by
    simp only [spl]
    rw [spl_eq r 0 s (by simpa using h)]
    simp
  | x :: r, n + 1, s, h => by
    have e : n + 1 + s.length = n + s.length + 1 := by omega
    simp only [spl]
    rw [spl_eq r n s (by simp at h; omega), e]
    simp

def absorbC (s s2 i : Nat) (cur : Fr) : Fr := purgeC (.sub (.cur s) i) (delCur s2 cur)

/-- No walk through a map names this key. -/
def noMit (k : K) : Fr → Bool
  | [] => true
  | (_, .mit m _) :: r => match K.beq m k with
    | true => false
    | false => noMit k r
  | _ :: r => noMit k r

def storeW (C : Ctx) (env : Env) (st : St) (t : Nat) (x y : LV) (K' : Env → St → Prop) : Prop :=
  match C.ty t with
  | none => False
  | some ti => match x with
    | .ptr (.cur s) c => match look st.cur s with
      | some (.box cs) => match cellsOf y with
        | some xs => match Nat.beq xs.length ti.size, Nat.ble (c + xs.length) cs.length with
          | true, true => K' env { st with cur := setCur st.cur s (.box (spl cs c xs)) }
          | _, _ => False
        | none => False
      | _ => False
    | .pel (.cur s) sz i j => match look st.cur s with
      | some (.row _ _ _) => match cellsOf y with
        | some xs => cellsTW (fun ts env st => match Nat.beq ts.length ti.size, look st.cur s with
            | true, some (.row e sz' es) => match Nat.beq sz' sz with
              | true => ∃ el, es[i]? = some el ∧ j + ts.length ≤ el.length ∧ K' env { st with cur := setCur st.cur s (.row e sz (es.set i (spl el j ts))) }
              | false => False
            | _, _ => False) xs [] env st
        | none => False
      | some (.grid eo e szi rs) => match y with
        | .osl (.cur s2) szr 0 len => match Nat.beq sz 1, Nat.beq j 0, Nat.beq ti.size 1, Nat.beq szr szi, Nat.beq s2 s, look st.cur s2 with
          | true, true, true, true, false, some (.row e2 szq es) => match Nat.beq szq szi, Nat.beq e2 e, noMit (.sub (.cur s) i) st.cur with
            | true, true, true => len = es.length ∧ i < rs.length ∧ K' (purgeE (.sub (.cur s) i) (purgeE (.cur s2) env)) { st with cur := setCur (absorbC s s2 i st.cur) s (.grid eo e szi (rs.set i (.row es))) }
            | _, _, _ => False
          | _, _, _, _, _, _ => False
        | _ => False
      | _ => False
    | .pel (.sub (.cur s) q) sz i j => match look st.cur s with
      | some (.grid _ _ _ _) => match cellsOf y with
        | some xs => cellsTW (fun ts env st => match Nat.beq ts.length ti.size, look st.cur s with
            | true, some (.grid eo e szi rs) => match Nat.beq szi sz with
              | true => ∃ es el, rs[q]? = some (.row es) ∧ es[i]? = some el ∧ j + ts.length ≤ el.length ∧ K' env { st with cur := setCur st.cur s (.grid eo e szi (rs.set q (.row (es.set i (spl el j ts))))) }
              | false => False
            | _, _ => False) xs [] env st
        | none => False
      | _ => False
    | _ => False

section
variable {C : Ctx} {P : Program} (hC : C.OK P) {E : Ent} {N : Nat} {β : K → Nat} {RO : Nat → Prop} {env : Env} {st : St} {a : Act} {w w' : World}

theorem can_cur (s : Nat) : E.can (.cur s) := fun h => by cases h
theorem can_sub (s q : Nat) : E.can (.sub (.cur s) q) := fun h => by cases h

/-- The inner rows of a state whose grid changed at one place. -/
theorem get_setGrid {s q : Nat} {eo e sz : Nat} {rs : List GR} {r' : GR} (h : look st.cur s = some (.grid eo e sz rs)) (hq : q < rs.length) (k : K) :
    St.get { st with cur := setCur st.cur s (.grid eo e sz (rs.set q r')) } k = if k = .cur s then some (.grid eo e sz (rs.set q r')) else if k = .sub (.cur s) q then r'.map (.row e sz) else st.get k := by
  have hroot : ∀ k, k.root = true → St.get { st with cur := setCur st.cur s (.grid eo e sz (rs.set q r')) } k = if k = .cur s then some (.grid eo e sz (rs.set q r')) else st.get k := by
    intro k hk
    cases k with
    | cur n => simp only [St.get, look_setCur, K.cur.injEq, h, Option.map_some]
    | fr i n => simp [St.get]
    | sub => cases hk
  cases k with
  | cur n => rw [hroot _ rfl]; simp
  | fr i n => rw [hroot _ rfl]; simp
  | sub k i =>
    rw [if_neg (by simp)]
    cases hk : k.root with
    | false =>
      have no : ∀ S : St, S.get (.sub k i) = none := by
        intro S
        cases hg : S.get (.sub k i) with
        | none => rfl
        | some o => obtain ⟨_, _, _, _, _, hg, _⟩ := St.get_sub hg; rw [St.root_of_get_grid hg] at hk; cases hk
      rw [no, no, if_neg]
      rintro h; cases h; cases hk
    | true =>
      by_cases hks : k = .cur s
      · subst hks
        have e1 : St.get { st with cur := setCur st.cur s (.grid eo e sz (rs.set q r')) } (.cur s) = some (.grid eo e sz (rs.set q r')) := by rw [hroot _ rfl, if_pos rfl]
        have e2 : st.get (.cur s) = some (.grid eo e sz rs) := h
        by_cases hi : i = q
        · subst hi
          rw [if_pos rfl]
          simp only [St.get] at e1 ⊢
          simp only [e1]
          rw [List.getElem?_set_self hq]
          cases r' <;> rfl
        · rw [if_neg (by simpa using hi)]
          simp only [St.get] at e1 e2 ⊢
          simp only [e1, e2]
          rw [List.getElem?_set_ne (Ne.symm hi)]
      · rw [if_neg (by simp [hks])]
        have := hroot k hk
        rw [if_neg hks] at this
        simp only [St.get, this]

include hC
/-- A store into an element of an inner row. -/
theorem storeSub {s q : Nat} {eo e sz i j : Nat} {rs : List GR} {es : List (List T)} {el ts : List T} {v : Value} {t : Nat} {ti : TI} (h : SR E N β RO env st a w) (hk : look st.cur s = some (.grid eo e sz rs)) (hq : rs[q]? = some (.row es))
    (ht : C.ty t = some ti) (hsz : ts.length = ti.size) (hx : VTs RO w ts v.cells.toList) (hi : es[i]? = some el) (hl : j + ts.length ≤ el.length) :
    ∃ w', (storeVar t ⟨β (.sub (.cur s) q), i * sz + j, none⟩ v).run P w = .ok () w' ∧
      SR E N β RO env { st with cur := setCur st.cur s (.grid eo e sz (rs.set q (.row (es.set i (el.take j ++ ts ++ el.drop (j + ts.length)))))) } a w' := by
  have hks : st.get (.sub (.cur s) q) = some (.row e sz es) := by simp only [St.get, hk, hq]
  have hkg : st.get (.cur s) = some (.grid eo e sz rs) := hk
  obtain ⟨us, cap, cur, hh, hnc, hcm, hcs, htk, hul, hf⟩ := row_block (h.wr.obj _ _ hks)
  have hxl := hx.1
  have hel := (hf.2 i el hi).1
  have hil : i < es.length := (List.getElem?_eq_some_iff.1 hi).1
  have hql : q < rs.length := (List.getElem?_eq_some_iff.1 hq).1
  have hmul : i * sz + sz ≤ es.length * sz := by
    have := Nat.mul_le_mul_right sz (show i + 1 ≤ es.length from hil)
    rw [Nat.add_mul] at this; omega
  have hcap : es.length * sz ≤ cur.size := by rw [hcs]; exact Nat.mul_le_mul_right _ hnc
  have hvl : v.cells.size = ts.length := by rw [hxl]; simp
  have h1 : ∀ u ∈ v.cells.toList, u.oneCell' = true := by
    intro u hu
    obtain ⟨q, hq, rfl⟩ := List.getElem_of_mem hu
    exact (hx.2 q (ts[q]'(by omega)) _ (List.getElem?_eq_getElem _) (List.getElem?_eq_getElem hq)).one
  refine ⟨_, run_storeVar_at hC ht hh (by omega) (by omega) h1, ?_⟩
  have hvl2 : v.cells.toList.length = ts.length := hxl.symm
  have hsize : (cur.toList.take (i * sz + j) ++ v.cells.toList ++ cur.toList.drop (i * sz + j + v.cells.toList.length)).toArray.size = cur.size := by
    simp only [List.size_toArray, List.length_append, List.length_take, List.length_drop, Array.length_toList]; omega
  have hsh := shape_setRow w (β (.sub (.cur s) q)) _ cur e (0, 0) hh hsize
  have hnew : ObOK β RO (w.setRow (β (.sub (.cur s) q)) (cur.toList.take (i * sz + j) ++ v.cells.toList ++ cur.toList.drop (i * sz + j + v.cells.toList.length)).toArray) (.sub (.cur s) q) (.row e sz (es.set i (el.take j ++ ts ++ el.drop (j + ts.length)))) := by
    refine ⟨us.take (i * sz + j) ++ v.cells.toList ++ us.drop (i * sz + j + v.cells.toList.length), cap, ⟨?_, .inr ⟨β (.sub (.cur s) q), cap, _, rfl, Nat.zero_le _, setRow_heap w _ _ _ _ _ hh, by simpa using hnc, hcm, by rw [hsize]; exact hcs, ?_⟩⟩, ?_⟩
    · simp only [List.length_append, List.length_take, List.length_drop, List.length_set, hul]; omega
    · refine List.ext_getElem? fun q => ?_
      rw [List.getElem?_take, List.length_set, seg_get us _ _ _ (by omega)]
      simp only []
      rw [seg_get cur.toList _ _ _ (by simp; omega)]
      have hcu : ∀ q, q < es.length * sz → cur.toList[q]? = us[q]? := fun q hq => by rw [← htk, List.getElem?_take, if_pos hq]
      by_cases hq : q < es.length * sz
      · rw [if_pos hq, hcu q hq]
      · rw [if_neg hq, if_neg (by omega), if_neg (by omega), List.getElem?_eq_none (by omega)]
    · refine ((hf.set hi hx hl).mono (fun _ h => h) fun b hb => setRow_other w _ b _ fun e => h.wr.sep _ _ hks (can_sub s q) (by rw [← e]; exact hb))
  refine ⟨h.wr.write (Step.setRow _ _ _) (by simp [World.setRow]) ⟨_, _, hks, can_sub s q, rfl⟩ (fun b hb => setRow_other w _ b _ hb) (fun k' o2 hk' => ?_), h.size, h.defers, fun n x hx => ?_⟩
  · rw [get_setGrid hk hql] at hk'
    split at hk'
    · rename_i he
      subst he
      cases hk'
      refine ⟨⟨_, hkg⟩, ?_⟩
      have hoth := ObOK.other h.wr hks ⟨_, _, _, hh⟩ (fun b hb => setRow_other w _ b _ hb) hsh (can_sub s q) (fun e => by cases e) hkg
      obtain ⟨us2, cap2, g1, g2⟩ := hoth
      refine ⟨us2, cap2, by simpa using g1, fun i2 r u hr hu => ?_⟩
      by_cases h2 : i2 = q
      · subst h2
        rw [List.getElem?_set_self hql] at hr
        cases hr
        have := g2 i2 (.row es) u hq hu
        simp only [List.length_set] at this ⊢
        exact this
      · rw [List.getElem?_set_ne (Ne.symm h2)] at hr
        exact g2 i2 r u hr hu
    · split at hk'
      · rename_i he
        subst he
        cases hk'
        exact ⟨⟨_, hks⟩, hnew⟩
      · rename_i hne
        exact ⟨⟨o2, hk'⟩, ObOK.other h.wr hks ⟨_, _, _, hh⟩ (fun b hb => setRow_other w _ b _ hb) hsh (can_sub s q) hne hk'⟩
  · obtain ⟨v, h1, h2⟩ := h.env n x hx
    exact ⟨v, h1, VL.setRow h.wr hks (can_sub s q) rfl hh hsize h2⟩

end
end Go.Fw

/- The value logic, part 17: an own row becomes an inner row; stores as an operation. -/
namespace Go.Fw
open Go

section
variable {C : Ctx} {P : Program} (hC : C.OK P) {E : Ent} {N : Nat} {β : K → Nat} {RO : Nat → Prop} {env : Env} {st : St} {a : Act} {w w' : World}

theorem look_absorb (s s2 i : Nat) (cur : Fr) (n : Nat) : look (absorbC s s2 i cur) n = if n = s2 then none else (look cur n).map fun o => purgeO (.sub (.cur s) i) (purgeO (.cur s2) o) := by
  unfold absorbC
  rw [look_purgeC, look_delCur]
  split
  · rfl
  · cases look cur n <;> rfl

theorem purgeO_no (k : K) {o : Ob} (hm : ∀ m l, o ≠ .mit m l) : (purgeO k o).has k = false := by
  cases o with
  | box cs => exact hasL_purge_no k cs
  | mit m l => exact absurd rfl (hm m l)
  | _ => rfl
theorem purgeO_grid {k : K} {o : Ob} {eo e sz : Nat} {rs : List GR} (h : purgeO k o = .grid eo e sz rs) : o = .grid eo e sz rs := by
  cases o <;> simp only [purgeO, reduceCtorEq] at h
  exact h

/-- What a state tells once a row of its own has gone into a grid. -/
theorem get_absorb {s s2 i : Nat} {eo e sz : Nat} {rs : List GR} {es : List (List T)} (hs : look st.cur s = some (.grid eo e sz rs)) (hne : s2 ≠ s) (hi : i < rs.length) {k : K} {o : Ob}
    (h : St.get { st with cur := setCur (absorbC s s2 i st.cur) s (.grid eo e sz (rs.set i (.row es))) } k = some o) :
    (k = .cur s ∧ o = .grid eo e sz (rs.set i (.row es))) ∨ (k = .sub (.cur s) i ∧ o = .row e sz es) ∨
      (k ≠ .cur s ∧ k ≠ .sub (.cur s) i ∧ k ≠ .cur s2 ∧ ∃ o0, st.get k = some o0 ∧ (o = purgeO (.sub (.cur s) i) (purgeO (.cur s2) o0) ∨ (k.isCur = false ∧ o = o0))) := by
  have hs' : look (absorbC s s2 i st.cur) s = some (.grid eo e sz rs) := by
    rw [look_absorb, if_neg (Ne.symm hne), hs]; rfl
  have := get_setGrid (st := ⟨st.out, absorbC s s2 i st.cur⟩) hs' hi (r' := .row es) k
  rw [this] at h
  split at h
  · rename_i hk; cases h; exact .inl ⟨hk, rfl⟩
  · rename_i hk1
    split at h
    · rename_i hk; cases h; exact .inr (.inl ⟨hk, rfl⟩)
    · rename_i hk2
      refine .inr (.inr ⟨hk1, hk2, ?_⟩)
      have hcur : ∀ n o, St.get ⟨st.out, absorbC s s2 i st.cur⟩ (.cur n) = some o → K.cur n ≠ .cur s2 ∧ ∃ o0, st.get (.cur n) = some o0 ∧ o = purgeO (.sub (.cur s) i) (purgeO (.cur s2) o0) := by
        intro n o h
        simp only [St.get, look_absorb] at h ⊢
        split at h
        · cases h
        · rename_i hn
          cases hl : look st.cur n with
          | none => simp [hl] at h
          | some o0 => simp [hl] at h; exact ⟨fun e => hn (by cases e; rfl), o0, rfl, h.symm⟩
      cases k with
      | cur n => obtain ⟨h1, o0, h2, h3⟩ := hcur n o h; exact ⟨h1, o0, h2, .inl h3⟩
      | fr j n => exact ⟨(fun e => by cases e), o, h, .inr ⟨rfl, rfl⟩⟩
      | sub k j =>
        obtain ⟨eo', e', sz', rs', es', hg, hj, rfl⟩ := St.get_sub h
        refine ⟨(fun e => by cases e), .row e' sz' es', ?_, .inr ⟨rfl, rfl⟩⟩
        cases k with
        | cur n =>
          obtain ⟨_, o0, h2, h3⟩ := hcur n _ hg
          have := purgeO_grid (purgeO_grid h3.symm)
          subst this
          simp only [St.get] at h2 ⊢
          simp only [h2, hj]
        | fr q n => have hg' : st.get (.fr q n) = _ := hg; simp only [St.get] at hg' ⊢; simp only [hg', hj]
        | sub k2 q => have := St.root_of_get_grid hg; cases this

theorem noMit_look {k : K} : ∀ {cur : Fr}, noMit k cur = true → ∀ n o, look cur n = some o → ∀ m l, o = .mit m l → m ≠ k
  | [], _, n, o, h => by simp [look] at h
  | (q, x) :: r, hn, n, o, h => by
    have hr : noMit k r = true ∧ ∀ m l, x = .mit m l → m ≠ k := by
      unfold noMit at hn
      split at hn
      · rename_i heq; cases heq
      · rename_i heq
        cases heq
        split at hn
        · cases hn
        · rename_i hb
          refine ⟨hn, ?_⟩
          rintro m l he rfl
          cases he
          rw [K.beq_iff.2 rfl] at hb; cases hb
      · rename_i hne heq
        cases heq
        exact ⟨hn, fun m l he => absurd (by rw [he]) (hne _ m l)⟩
    rw [look_cons] at h
    split at h
    · cases h; exact hr.2
    · exact noMit_look hr.1 n o h

theorem VL.no {k0 : K} {b : Nat} {x : LV} {v : Value} (h : VL β RO w x v) (hx : x.has k0 = false) : VL (fun k => if k = k0 then b else β k) RO w x v := by
  refine h.mono (fun _ h => h) (fun _ _ => rfl) (fun k => k ≠ k0) (fun k hk => ⟨if_neg hk, fun _ h => h⟩) fun k hk he => ?_
  subst he
  rw [hx] at hk; cases hk

include hC
theorem storeGrid {s s2 : Nat} {eo e sz i len t : Nat} {rs : List GR} {es : List (List T)} {e2 : Nat} {v : Value} {ti : TI} (h : SR E N β RO env st a w) (hk : look st.cur s = some (.grid eo e sz rs)) (hne : s2 ≠ s)
    (hk2 : look st.cur s2 = some (.row e2 sz es)) (ht : C.ty t = some ti) (hsz : ti.size = 1) (hlen : len = es.length) (hi : i < rs.length) (hmit : noMit (.sub (.cur s) i) st.cur = true) (hx : VL β RO w (.osl (.cur s2) sz 0 len) v) (hee : e2 = e) :
    ∃ w' β', (storeVar t ⟨β (.cur s), i, none⟩ v).run P w = .ok () w' ∧
      SR E N β' RO (purgeE (.sub (.cur s) i) (purgeE (.cur s2) env)) { st with cur := setCur (absorbC s s2 i st.cur) s (.grid eo e sz (rs.set i (.row es))) } a w' := by
  subst hlen
  subst hee
  have hkg : st.get (.cur s) = some (.grid eo e2 sz rs) := hk
  have hkr : st.get (.cur s2) = some (.row e2 sz es) := hk2
  obtain ⟨us, cap, hown, hrs⟩ := h.wr.obj _ _ hkg
  rcases hown.2 with ⟨h0, _⟩ | ⟨g, cap', cur, hv, _, hh, hnc, hcm, hcs, htk⟩
  · cases h0
  cases hv
  have hul : us.length = rs.length := by have := hown.1; omega
  have hcur : rs.length ≤ cur.size := by omega
  have hvc : v.cells = #[v] := by cases hx; rfl
  have hrow := h.wr.obj _ _ hkr
  refine ⟨_, fun k => if k = .sub (.cur s) i then β (.cur s2) else β k, run_storeVar_at hC ht hh (by rw [hvc, hsz]; rfl) (by rw [hvc]; simp; omega) (by rw [hvc]; simp; cases hx; rfl), ?_⟩
  rw [hvc]
  have hsize : (cur.toList.take i ++ [v] ++ cur.toList.drop (i + [v].length)).toArray.size = cur.size := by
    simp only [List.size_toArray, List.length_append, List.length_take, List.length_drop, Array.length_toList, List.length_singleton]; omega
  have hsh := shape_setRow w (β (.cur s)) _ cur eo (0, 0) hh hsize
  generalize hw' : w.setRow (β (.cur s)) (cur.toList.take i ++ [v] ++ cur.toList.drop (i + [v].length)).toArray = w' at *
  have hb : ∀ b, b ≠ β (.cur s) → w'.heap[b]? = w.heap[b]? := fun b hb => by rw [← hw']; exact setRow_other w _ b _ hb
  have hβ : ∀ k, k ≠ .sub (.cur s) i → (fun k => if k = .sub (.cur s) i then β (.cur s2) else β k) k = β k := fun k hk => if_neg hk
  have hro : ∀ b, RO b → w'.heap[b]? = w.heap[b]? := fun b hb' => hb b fun e => h.wr.sep _ _ hkg (can_cur s) (e ▸ hb')
  have hst : Step w w' := by rw [← hw']; exact Step.setRow _ _ _
  have hsz' : w'.heap.size = w.heap.size := by rw [← hw']; simp [World.setRow]
  have hval : ∀ {x : LV} {u : Value}, x.has (.sub (.cur s) i) = false → VL β RO w x u → VL (fun k => if k = .sub (.cur s) i then β (.cur s2) else β k) RO w' x u := fun hno hx =>
    (VL.no hx hno).write (g := β (.cur s)) (h.wr.sep _ _ hkg (can_cur s)) hb hsh
  have hold : ∀ k o0, st.get k = some o0 → k ≠ .cur s → ObOK β RO w' k o0 := fun k o0 hg hne => ObOK.other h.wr hkg ⟨_, _, _, hh⟩ hb hsh (can_cur s) hne hg
  have hcanS : ∀ q, E.can (.sub (.cur s) q) := fun q => can_sub s q
  have hbne : β (.cur s2) ≠ β (.cur s) := fun e => hne (by have := h.wr.inj _ _ _ _ hkr hkg (can_cur s2) (can_cur s) e; cases this; rfl)
  refine ⟨⟨hst.os.trans h.wr.os, hst.tape.trans h.wr.tape, hst.output.trans h.wr.output, Nat.le_trans h.wr.size hst.size, fun b hlt hnw => ?_, fun b hb' => by rw [hsz']; exact h.wr.roLt b hb', h.wr.ro0, h.wr.roNew, fun k o hg => ?_, fun k o hg hc => ?_, fun k k' o o' hg hg' hc hc' heq => ?_, fun k o hg hc => ?_, fun k o hg hc => ?_, fun k hf hnm => ?_⟩, h.size, h.defers, fun n x hx => ?_⟩
  · rw [hb b fun e => ?_]
    · exact h.wr.keep b hlt hnw
    · rcases h.wr.objNew _ _ hkg (can_cur s) with h1 | h1
      · exact hnw (e ▸ h1)
      · omega
  · rcases get_absorb hk hne hi hg with ⟨rfl, rfl⟩ | ⟨rfl, rfl⟩ | ⟨h1, h2, h3, o0, h4, h5⟩
    · refine ⟨us.take i ++ [v] ++ us.drop (i + [v].length), cap, ⟨by simp only [List.length_append, List.length_take, List.length_drop, List.length_singleton, List.length_set]; omega, .inr ⟨β (.cur s), cap, _, rfl, Nat.zero_le _, by rw [← hw']; exact setRow_heap w _ _ _ _ _ hh, by simpa using hnc, hcm, by rw [hsize]; exact hcs, ?_⟩⟩, fun q r u hr hu => ?_⟩
      · refine List.ext_getElem? fun q => ?_
        rw [List.getElem?_take, List.length_set, seg_get us _ _ _ (by simp; omega)]
        simp only []
        rw [seg_get cur.toList _ _ _ (by simp; omega)]
        have hcu : ∀ q, q < rs.length * 1 → cur.toList[q]? = us[q]? := fun q hq => by rw [← htk, List.getElem?_take, if_pos hq]
        by_cases hq : q < rs.length * 1
        · rw [if_pos hq, hcu q hq]
        · rw [if_neg hq, if_neg (by omega), if_neg (by simp; omega), List.getElem?_eq_none (by omega)]
      · rw [seg_get us _ _ _ (by simp; omega)] at hu
        by_cases hq : q = i
        · subst hq
          rw [List.getElem?_set_self hi] at hr
          cases hr
          rw [if_neg (by omega), if_pos (by simp)] at hu
          simp at hu
          subst hu
          simp only
          cases hx with
          | osl _ _ _ _ cap2 e' n hle hs hn hm =>
          have := VL.osl (β := fun k => if k = .sub (.cur s) q then β (.cur s2) else β k) (RO := RO) (w := w') (.sub (.cur s) q) sz 0 es.length cap2 e' n hle (by simp only [if_true]; rw [hsh]; exact hs) hn hm
          simpa using this
        · rw [List.getElem?_set_ne (Ne.symm hq)] at hr
          have hqq : us[q]? = some u := by
            by_cases h1 : q < i
            · rw [if_pos h1] at hu; exact hu
            · rw [if_neg h1, if_neg (by simp; omega)] at hu; exact hu
          have := hrs q r u hr hqq
          cases r with
          | nil => exact this
          | out => trivial
          | row es' =>
            simp only at this ⊢
            refine hval ?_ this
            simp only [LV.has, K.under, K.beq, Bool.or_false]
            rw [if_neg (by simpa using Ne.symm hq)]
    · have h1 := hold _ _ hkr (fun e => hne (by cases e; rfl))
      obtain ⟨us2, cap2, g1, g2⟩ := h1
      exact ⟨us2, cap2, by simpa using g1, g2⟩
    · have hok := hold k o0 h4 h1
      have keep : ∀ o1, ObOK β RO w' k o1 → (∀ cs, o1 = .box cs → LV.has.hasL (.sub (.cur s) i) cs = false) → (∀ eo e sz rs, o1 = .grid eo e sz rs → o1 = o0) → (∀ m l, o1 = .mit m l → m ≠ .sub (.cur s) i) → ObOK (fun k => if k = .sub (.cur s) i then β (.cur s2) else β k) RO w' k o1 := by
        intro o1 hok1 hbx hgr hmt
        refine hok1.keep (fun _ h => h) (fun _ _ => rfl) (hβ k h2) rfl (fun cs hcs x hx u hu => VL.no hu (hasL_mem (hbx cs hcs) x hx)) (fun eo' e' sz' rs' ho q es' hq => ⟨hβ _ ?_, fun _ h => h⟩) fun m l ho => ⟨hβ _ (hmt m l ho), rfl⟩
        intro e
        cases e
        exact h1 rfl
      have mitne : ∀ m l, o0 = .mit m l → m ≠ .sub (.cur s) i := by
        rintro m l ho rfl
        subst ho
        cases k with
        | cur n => exact noMit_look hmit n _ h4 _ _ rfl rfl
        | fr j n =>
          have := St.fr_has (s := s) h4
          simp only [Ob.has, K.under, Bool.or_eq_false_iff] at this
          have h5 := this.2
          simp [K.beq] at h5
        | sub k j => obtain ⟨_, _, _, _, _, _, _, h6⟩ := St.get_sub h4; cases h6
      rcases h5 with rfl | ⟨hkc, rfl⟩
      · refine keep _ (hok.purge.purge) (fun cs hcs => ?_) (fun eo' e' sz' rs' ho => ?_) (fun m l ho => ?_)
        · have := purgeO_no (.sub (.cur s) i) (o := purgeO (.cur s2) o0) (fun m l hm => by
            cases o0 <;> simp only [purgeO, reduceCtorEq] at hm
            simp only [purgeO, reduceCtorEq] at hcs)
          rw [hcs] at this; exact this
        · have := purgeO_grid (purgeO_grid ho); rw [this]; rfl
        · refine mitne m l ?_
          cases o0 <;> simp only [purgeO, reduceCtorEq] at ho
          exact ho
      · refine keep _ hok (fun cs hcs => ?_) (fun _ _ _ _ _ => rfl) mitne
        subst hcs
        cases k with
        | cur n => cases hkc
        | fr j n =>
          have := St.fr_has (s := s) h4
          cases hc : LV.has.hasL (.sub (.cur s) i) cs with
          | false => rfl
          | true =>
            have h6 := hasL_trans (a := .cur s) (b := .sub (.cur s) i) (by simp [K.under, K.beq]) hc
            simp only [Ob.has] at this
            rw [h6] at this; cases this
        | sub k j => obtain ⟨_, _, _, _, _, _, _, h6⟩ := St.get_sub h4; cases h6
  · rcases get_absorb hk hne hi hg with ⟨rfl, rfl⟩ | ⟨rfl, rfl⟩ | ⟨h1, h2, h3, o0, h4, h5⟩
    · rw [if_neg (fun e => by cases e)]; exact h.wr.objNew _ _ hkg hc
    · simp only [if_true]; exact h.wr.objNew _ _ hkr (can_cur s2)
    · rw [if_neg h2]; exact h.wr.objNew k o0 h4 hc
  · have key : ∀ {k o}, St.get { st with cur := setCur (absorbC s s2 i st.cur) s (.grid eo e2 sz (rs.set i (.row es))) } k = some o → ∃ k1 o1, st.get k1 = some o1 ∧ (if k = .sub (.cur s) i then β (.cur s2) else β k) = β k1 ∧ (k1 = k ∧ k ≠ .sub (.cur s) i ∧ k ≠ .cur s2 ∨ k1 = .cur s2 ∧ k = .sub (.cur s) i) := by
      intro k o hg
      rcases get_absorb hk hne hi hg with ⟨rfl, rfl⟩ | ⟨rfl, rfl⟩ | ⟨h1, h2, h3, o0, h4, h5⟩
      · exact ⟨_, _, hkg, if_neg (fun e => by cases e), .inl ⟨rfl, (fun e => by cases e), fun e => hne (by cases e; rfl)⟩⟩
      · exact ⟨_, _, hkr, if_pos rfl, .inr ⟨rfl, rfl⟩⟩
      · exact ⟨_, _, h4, if_neg h2, .inl ⟨rfl, h2, h3⟩⟩
    obtain ⟨k1, o1, g1, g2, g3⟩ := key hg
    obtain ⟨k2, o2, f1, f2, f3⟩ := key hg'
    have hkk : E.can k1 ∧ E.can k2 := by
      constructor
      · rcases g3 with ⟨rfl, _⟩ | ⟨rfl, _⟩
        · exact hc
        · exact can_cur s2
      · rcases f3 with ⟨rfl, _⟩ | ⟨rfl, _⟩
        · exact hc'
        · exact can_cur s2
    have e12 : k1 = k2 := h.wr.inj k1 k2 o1 o2 g1 f1 hkk.1 hkk.2 (by rw [← g2, ← f2]; exact heq)
    rcases g3 with ⟨rfl, g4, g5⟩ | ⟨rfl, rfl⟩ <;> rcases f3 with ⟨rfl, f4, f5⟩ | ⟨rfl, rfl⟩
    · exact e12
    · exact absurd e12 g5
    · exact absurd e12.symm f5
    · rfl
  · rcases get_absorb hk hne hi hg with ⟨rfl, rfl⟩ | ⟨rfl, rfl⟩ | ⟨h1, h2, h3, o0, h4, h5⟩
    · rw [if_neg (fun e => by cases e)]; exact h.wr.sep _ _ hkg hc
    · simp only [if_true]; exact h.wr.sep _ _ hkr (can_cur s2)
    · rw [if_neg h2]; exact h.wr.sep k o0 h4 hc
  · rcases get_absorb hk hne hi hg with ⟨rfl, rfl⟩ | ⟨rfl, rfl⟩ | ⟨h1, h2, h3, o0, h4, h5⟩
    · exact absurd (can_cur s) hc
    · exact absurd (can_sub s i) hc
    · rw [if_neg h2]; exact h.wr.fzRO k o0 h4 hc
  · rw [if_neg fun e => by subst e; cases hf]; exact h.wr.stay k hf hnm
  · rw [look_purgeE, look_purgeE] at hx
    cases hy : look env n with
    | none => simp [hy] at hx
    | some y =>
      simp [hy] at hx
      obtain ⟨u, g1, g2⟩ := h.env n y hy
      refine ⟨u, g1, ?_⟩
      rw [← hx]
      exact hval (purgeV_no _ _) g2.purge.purge

omit hC in
theorem run_storeAt {t b off : Nat} {v : Value} (h : (storeVar t ⟨b, off, none⟩ v).run P w = .ok () w') : (Instr.storeAt t (.pointer (some ⟨b, off, none⟩)) v).run P w = .ok () w' := by
  simp only [Instr.storeAt, Instr.sureAddr, Sem.run_bind, Sem.run_pure, Result.andThen_ok]; exact h

omit hC in
theorem spl_row {el ts : List T} {j : Nat} (h : j + ts.length ≤ el.length) : spl el j ts = el.take j ++ ts ++ el.drop (j + ts.length) := spl_eq el j ts h

theorem storeW_gives {t : Nat} {x y : LV} {vx vy : Value} {K' : Env → St → Prop} (h : SR E N β RO env st a w) (hx : VL β RO w x vx) (hy : VL β RO w y vy) (hW : storeW C env st t x y K') :
    ∃ w' env' st' β' RO', (Instr.storeAt t vx vy).run P w = .ok () w' ∧ K' env' st' ∧ SR E N β' RO' env' st' a w' := by
  unfold storeW at hW
  split at hW
  · cases hW
  rename_i ti hti
  split at hW
  · rename_i s c
    split at hW
    · rename_i cs hs
      split at hW
      · rename_i xs hxs
        split at hW
        · rename_i h1 h2
          simp at h1 h2
          cases hx
          obtain ⟨c1, c2, c3⟩ := hy.cells_inv hxs
          obtain ⟨w', g1, g2⟩ := storeBox hC h (k := .cur s) rfl (can_cur s) hs hti h1 ⟨by simpa using c1, fun i y v hy hv => c2 i y v hy (by simpa using hv), c3⟩ h2
          refine ⟨w', env, _, β, RO, run_storeAt g1, hW, ?_⟩
          rw [spl_eq cs c xs h2]; exact g2
        · cases hW
      · cases hW
    · cases hW
  · rename_i s sz i j
    split at hW
    · rename_i hs0
      split at hW
      · rename_i xs hxs
        cases hx
        obtain ⟨c1, c2, c3⟩ := hy.cells_inv hxs
        have hcells : CellsOK β RO w xs vy.cells.toList := ⟨by simpa using c1, fun i y v hy hv => c2 i y v hy (by simpa using hv), c3⟩
        obtain ⟨env', st', RO', ts, hro, h2, h3, h4⟩ := cellsTW_gives h hcells (acc := []) (us := []) ⟨rfl, fun i x v hx => by simp at hx⟩ hW
        simp only [List.nil_append] at h3
        split at h4
        · rename_i e sz' es hb hlk
          simp at hb
          split at h4
          · rename_i hszz
            simp at hszz
            subst hszz
            obtain ⟨el, hel, hl, hK⟩ := h4
            obtain ⟨w', g1, g2⟩ := storeRow hC h2 (k := .cur s) rfl (can_cur s) hlk hti hb h3 hel hl
            refine ⟨w', env', _, β, RO', run_storeAt g1, hK, ?_⟩
            rw [spl_row hl]; exact g2
          · cases h4
        · cases h4
      · cases hW
    · rename_i eo e szi rs hs
      split at hW
      · rename_i s2 szr len
        split at hW
        · rename_i e2 szq es h1 h2 h3 h4 h5 h6
          simp at h1 h2 h3 h4
          have h5 : s2 ≠ s := fun e => by rw [e] at h5; simp at h5
          split at hW
          · rename_i h7 h8 h9
            simp at h7 h8
            obtain ⟨hlen, hi, hK⟩ := hW
            subst h1; subst h2; subst h4; subst h7; subst h8
            cases hx
            obtain ⟨w', β', g1, g2⟩ := storeGrid hC h hs h5 h6 hti h3 hlen hi h9 hy rfl
            refine ⟨w', _, _, β', RO, ?_, hK, g2⟩
            simp only [Nat.mul_one, Nat.add_zero]
            exact run_storeAt g1
          · cases hW
        · cases hW
      · cases hW
    · cases hW
  · rename_i s q sz i j
    split at hW
    · rename_i hs0
      split at hW
      · rename_i xs hxs
        cases hx
        obtain ⟨c1, c2, c3⟩ := hy.cells_inv hxs
        have hcells : CellsOK β RO w xs vy.cells.toList := ⟨by simpa using c1, fun i y v hy hv => c2 i y v hy (by simpa using hv), c3⟩
        obtain ⟨env', st', RO', ts, hro, h2, h3, h4⟩ := cellsTW_gives h hcells (acc := []) (us := []) ⟨rfl, fun i x v hx => by simp at hx⟩ hW
        simp only [List.nil_append] at h3
        split at h4
        · rename_i eo e sz' rs hb hlk
          simp at hb
          split at h4
          · rename_i hszz
            simp at hszz
            subst hszz
            obtain ⟨es, el, hes, hel, hl, hK⟩ := h4
            obtain ⟨w', g1, g2⟩ := storeSub hC h2 hlk hes hti hb h3 hel hl
            refine ⟨w', env', _, β, RO', run_storeAt g1, hK, ?_⟩
            rw [spl_row hl]; exact g2
          · cases h4
        · cases h4
      · cases hW
    · cases hW
  · cases hW

end
end Go.Fw

/- The value logic, part 17m: maps are made and written. -/
namespace Go.Fw
open Go

def mapMakeW (C : Ctx) (env : Env) (st : St) (s t : Nat) (K' : LV → Env → St → Prop) : Prop :=
  match C.ty t with
  | some ⟨.map kt _, _, _, _⟩ => match C.ty kt, freshB env st.cur s with
    | some tk, true => K' (.mpr (.cur s)) env { st with cur := (s, .mp tk.d []) :: st.cur }
    | _, _ => False
  | _ => False

def mapSetW (C : Ctx) (env : Env) (st : St) (t : Nat) (m k x : LV) (K' : Env → St → Prop) : Prop :=
  match C.ty t with
  | some ⟨.map kt _, _, _, _⟩ => match C.ty kt, m, k, x with
    | some tk, .mpr (.cur s), .t (.v kv), .t y => match look st.cur s with
      | some (.mp kd l) => match decide (kd = tk.d), keyOK kd kv, noMit (.cur s) st.cur with
        | true, true, true => K' env { st with cur := setCur st.cur s (.mp kd (updKV kv y l)) }
        | _, _, _ => False
      | _ => False
    | _, _, _, _ => False
  | _ => False

section
variable {C : Ctx} {P : Program} (hC : C.OK P) {E : Ent} {N : Nat} {β : K → Nat} {RO : Nat → Prop} {env : Env} {st : St} {a : Act} {w w' : World}

theorem mapMakeW_gives (h : SR E N β RO env st a w) {s t : Nat} {K' : LV → Env → St → Prop} (hW : mapMakeW C env st s t K') : Gives P E N a w (Instr.makeMap t none) K' := by
  unfold mapMakeW at hW
  split at hW
  · split at hW
    · rename_i tk htk hf
      obtain ⟨h1, h2⟩ := h.fresh hf
      refine ⟨.map (some w.heap.size), w.alloc (.map #[] 0), _, _, _, fun k => if k = .cur s then w.heap.size else β k, RO, ?_, hW, ?_, ?_⟩
      · simp [Instr.makeMap, newObj, Sem.run]
      · refine h.alloc h1 h2 (Step.alloc _ _) (by rw [alloc_size]; omega) (alloc_old _ _) ?_ ?_
        · intro i o ho
          obtain ⟨_, _, _, _, _, hg, _⟩ := St.get_sub ho
          simp only [St.get, look_cons, if_true] at hg
          cases hg
        · refine ⟨#[], 0, ?_, rfl, (fun p hp => by cases hp), (fun i p m hp hm => by simp at hp), (fun i j m n hm => by simp at hm), fun m hm => by simp at hm⟩
          simp only [if_true]; exact alloc_new _ _
      · have := VL.mpr (β := fun k => if k = .cur s then w.heap.size else β k) (RO := RO) (w := w.alloc (.map #[] 0)) (.cur s)
        simpa using this
    · cases hW
  · cases hW

/-- A write into an object that holds no cells. -/
theorem WR.setObj {s : Nat} {o o' : Ob} {ob ob' : Obj} (h : WR E β RO st w) (hk : look st.cur s = some o) (ho : ∀ eo e sz rs, o ≠ .grid eo e sz rs) (ho' : ∀ eo e sz rs, o' ≠ .grid eo e sz rs) (hm : ∀ m l, o' ≠ .mit m l) (_hno : noMit (.cur s) st.cur = true)
    (_hb : w.heap[β (.cur s)]? = some ob) (hc : ∀ b, ({ w with heap := w.heap.setIfInBounds (β (.cur s)) ob' } : World).shape? b = w.shape? b)
    (hob : ObOK β RO { w with heap := w.heap.setIfInBounds (β (.cur s)) ob' } (.cur s) o') : WR E β RO { st with cur := setCur st.cur s o' } { w with heap := w.heap.setIfInBounds (β (.cur s)) ob' } := by
  have hks : st.get (.cur s) = some o := hk
  have hother : ∀ b, b ≠ β (.cur s) → (w.heap.setIfInBounds (β (.cur s)) ob')[b]? = w.heap[b]? := fun b hb' => Array.getElem?_setIfInBounds_ne (Ne.symm hb')
  have hro : ∀ b, RO b → (w.heap.setIfInBounds (β (.cur s)) ob')[b]? = w.heap[b]? := fun b hb' => hother b fun e => h.sep _ _ hks (can_cur s) (e ▸ hb')
  refine h.write (g := β (.cur s)) ⟨rfl, rfl, rfl, by simp⟩ (by simp) ⟨_, _, hks, can_cur s, rfl⟩ hother fun k o2 hk2 => ?_
  have hset : { st with cur := setCur st.cur s o' } = st.set (.cur s) o' := rfl
  rw [hset, St.get_set_plain rfl hks ho ho' hm] at hk2
  split at hk2
  · rename_i he
    subst he
    cases hk2
    exact ⟨⟨_, hks⟩, hob.wk⟩
  · rename_i hne
    refine ⟨⟨o2, hk2⟩, ?_⟩
    have hok := h.obj k o2 hk2
    have hbne : β k ≠ β (.cur s) := fun e => by
      by_cases hc' : E.can k
      · exact hne (h.inj k (.cur s) o2 o hk2 hks hc' (can_cur s) e)
      · exact h.sep _ _ hks (can_cur s) (e ▸ h.fzRO k o2 hk2 hc')
    refine hok.keep (fun _ h => h) hro rfl (hother _ hbne) (fun cs _ x _ v hv => hv.write (g := β (.cur s)) (h.sep _ _ hks (can_cur s)) hother hc) (fun _ _ _ _ _ _ _ _ => ⟨rfl, fun _ hr => (hc _).trans hr⟩) fun m left hmit => ?_
    subst hmit
    obtain ⟨_, _, _, _, _, hr, _⟩ := hok
    exact ⟨rfl, hro _ hr⟩

include hC
theorem mapSetW_gives {t : Nat} {m k x : LV} {vm vk vx : Value} {K' : Env → St → Prop} (h : SR E N β RO env st a w) (hm : VL β RO w m vm) (hk : VL β RO w k vk) (hx : VL β RO w x vx) (hW : mapSetW C env st t m k x K') :
    ∃ w' env' st' β' RO', (Instr.mapUpdate t vm vk vx).run P w = .ok () w' ∧ K' env' st' ∧ SR E N β' RO' env' st' a w' := by
  unfold mapSetW at hW
  split at hW
  · rename_i kt et s0 b0 z0 ht
    have hu := run_map_ty hC ht
    split at hW
    · rename_i tk s kv y htk
      obtain ⟨d, hd, hdd⟩ := (hC.ty htk).underlying
      split at hW
      · rename_i kd l hl
        split at hW
        · rename_i g1 g2 g3
          have g1 : kd = tk.d := by simpa using g1
          subst g1
          have hvk := hk.v_inv
          subst hvk
          cases hm
          cases hx with
          | t _ _ hy =>
          have hks : st.get (.cur s) = some (.mp tk.d l) := hl
          obtain ⟨ents, clock, h1, h2, h3, h4, h5, h6⟩ := h.wr.obj _ _ hks
          have hf := findNow_kv hdd g2 l ents.toList 0 (by simpa using h2) (fun i p m hp hm => (h4 i p m hp (by simpa using hm)).1) h3
          have hck : (Instr.checkKey false 10000 kt vk).run P w = .ok () w := MapKept.run_checkKey hd (isKey_of hdd g2) _ 9999
          have hshape : ∀ (es : Array MapEntry) (c : Nat) (b : Nat), ({ w with heap := w.heap.setIfInBounds (β (.cur s)) (.map es c) } : World).shape? b = w.shape? b := by
            intro es c b
            by_cases hb : b = β (.cur s)
            · subst hb
              unfold World.shape?
              rw [(MapKept.heap_set (o' := .map es c) h1).1, h1]
            · exact shape_of_block (w := w) (w' := { w with heap := w.heap.setIfInBounds (β (.cur s)) (.map es c) }) ((MapKept.heap_set h1).2 b hb)
          have hro : ∀ (es : Array MapEntry) (c : Nat) (b : Nat), RO b → (w.heap.setIfInBounds (β (.cur s)) (.map es c))[b]? = w.heap[b]? := fun es c b hb => (MapKept.heap_set h1).2 b fun e => h.wr.sep _ _ hks (can_cur s) (e ▸ hb)
          have fin : ∀ (es : Array MapEntry) (c : Nat), (Instr.mapUpdate t (.map (some (β (.cur s)))) vk vx).run P w = .ok () { w with heap := w.heap.setIfInBounds (β (.cur s)) (.map es c) } →
              es.size = (updKV vk y l).length → (∀ (i : Nat) (p : Value × T) (m : MapEntry), (updKV vk y l)[i]? = some p → es[i]? = some m → m.key = p.1 ∧ VT RO w p.2 m.val) → (∀ p ∈ updKV vk y l, keyOK tk.d p.1 = true) →
              (∀ (i j : Nat) (m n : MapEntry), es[i]? = some m → es[j]? = some n → i < j → m.born < n.born) → (∀ m ∈ es, m.born < c) →
              ∃ w' env' st' β' RO', (Instr.mapUpdate t (.map (some (β (.cur s)))) vk vx).run P w = .ok () w' ∧ K' env' st' ∧ SR E N β' RO' env' st' a w' := by
            intro es c hrun e1 e2 e3 e4 e5
            refine ⟨_, env, _, β, RO, hrun, hW, ?_, h.size, h.defers, fun n z hz => ?_⟩
            · exact h.wr.setObj hl (fun _ _ _ _ e => by cases e) (fun _ _ _ _ e => by cases e) (fun _ _ e => by cases e) g3 h1 (hshape es c)
                ⟨es, c, (MapKept.heap_set h1).1, e1, e3, fun i p m hp hm => ⟨(e2 i p m hp hm).1, (e2 i p m hp hm).2.mono (fun _ h => h) (hro es c)⟩, e4, e5⟩
            · obtain ⟨v, q1, q2⟩ := h.env n z hz
              exact ⟨v, q1, q2.write (g := β (.cur s)) (h.wr.sep _ _ hks (can_cur s)) (fun b hb => (MapKept.heap_set h1).2 b hb) (hshape es c)⟩
          rcases hf with ⟨f1, f2, f3, f4⟩ | ⟨j, p, mm, f1, f2, f3, f4, f5, f6, f7⟩
          · refine fin (ents.push { key := vk, val := vx, born := clock }) (clock + 1) ?_ (by rw [f4]; simp [h2]) (fun i p m hp hm => ?_) (fun p hp => ?_) (fun i j m n hi hj hlt => ?_) fun m hm => ?_
            · simp only [Instr.mapUpdate, Sem.run_bind, run_underlying hu, Result.andThen_ok, MapKept.run_getObj_map h1, hck, MapKept.run_findKey hd f1, MapKept.run_setObj_map _ h1]
            · rw [f4] at hp
              rw [Array.getElem?_push] at hm
              split at hm
              · rename_i hi
                cases hm
                rw [List.getElem?_append_right (by omega)] at hp
                have : i - l.length = 0 := by omega
                rw [this] at hp
                simp at hp
                rw [← hp]; exact ⟨rfl, hy⟩
              · have hlt := (Array.getElem?_eq_some_iff.1 hm).1
                rw [List.getElem?_append_left (by omega)] at hp
                exact h4 i p m hp hm
            · rw [f4] at hp
              rcases List.mem_append.1 hp with hp | hp
              · exact h3 p hp
              · simp at hp; rw [hp]; exact g2
            · rw [Array.getElem?_push] at hi hj
              split at hi
              · cases hi
                split at hj
                · omega
                · have := (Array.getElem?_eq_some_iff.1 hj).1; omega
              · split at hj
                · cases hj
                  exact h6 m (Array.mem_of_getElem? hi)
                · exact h5 i j m n hi hj hlt
            · rcases Array.mem_push.1 hm with hm | rfl
              · have := h6 m hm; omega
              · show clock < clock + 1; omega
          · have f3 : ents[j]? = some mm := by simpa using f3
            have hmod : ∀ (i : Nat) (m : MapEntry), (ents.modify j fun e => { e with key := vk, val := vx })[i]? = some m → (i = j ∧ m = { mm with key := vk, val := vx }) ∨ (i ≠ j ∧ ents[i]? = some m) := by
              intro i m hm
              rw [Array.getElem?_modify] at hm
              by_cases hij : j = i
              · subst hij
                rw [if_pos rfl, f3] at hm
                simp at hm
                exact .inl ⟨rfl, hm.symm⟩
              · rw [if_neg hij] at hm
                exact .inr ⟨Ne.symm hij, hm⟩
            refine fin (ents.modify j fun e => { e with key := vk, val := vx }) clock ?_ (by rw [f7]; simp [h2]) (fun i p m hp hm => ?_) (fun p hp => ?_) (fun i j' m n hi hj hlt => ?_) fun m hm => ?_
            · simp only [Instr.mapUpdate, Sem.run_bind, run_underlying hu, Result.andThen_ok, MapKept.run_getObj_map h1, hck, MapKept.run_findKey hd f1]
              have : ((ents[0 + j]?).map (·.key)).getD vk = vk := by rw [Nat.zero_add, f3]; exact f4
              rw [this, MapKept.run_keyThatStays (isKey_of hdd g2)]
              simp only [Result.andThen_ok, MapKept.run_setObj_map _ h1, Nat.zero_add]
            · rw [f7] at hp
              rcases hmod i m hm with ⟨rfl, rfl⟩ | ⟨hne, hm⟩
              · rw [List.getElem?_set_self (by have := (List.getElem?_eq_some_iff.1 f2).1; exact this)] at hp
                cases hp; exact ⟨rfl, hy⟩
              · rw [List.getElem?_set_ne (Ne.symm hne)] at hp
                exact h4 i p m hp hm
            · rw [f7] at hp
              rcases List.mem_or_eq_of_mem_set hp with hp | rfl
              · exact h3 p hp
              · exact g2
            · have born : ∀ (i : Nat) (m : MapEntry), (ents.modify j fun e => { e with key := vk, val := vx })[i]? = some m → ∃ m0 : MapEntry, ents[i]? = some m0 ∧ m0.born = m.born := by
                intro i m hm
                rcases hmod i m hm with ⟨rfl, rfl⟩ | ⟨hne, hm⟩
                · exact ⟨mm, f3, rfl⟩
                · exact ⟨m, hm, rfl⟩
              obtain ⟨m0, q1, q2⟩ := born i m hi
              obtain ⟨n0, q3, q4⟩ := born j' n hj
              rw [← q2, ← q4]; exact h5 i j' m0 n0 q1 q3 hlt
            · obtain ⟨i, hi⟩ := Array.mem_iff_getElem?.1 hm
              rcases hmod i m hi with ⟨rfl, rfl⟩ | ⟨hne, hm⟩
              · exact h6 mm (Array.mem_of_getElem? f3)
              · exact h6 m (Array.mem_of_getElem? hm)
        · cases hW
      · cases hW
    · cases hW
  · cases hW

end
end Go.Fw

/- The value logic, part 17r: a range over a map; a row is sorted. -/
namespace Go.Fw
open Go

def rangeW (C : Ctx) (env : Env) (st : St) (s t : Nat) (x : LV) (K' : LV → Env → St → Prop) : Prop :=
  match C.ty t with
  | some ⟨.map _ _, _, _, _⟩ => match x with
    | .mpr (.cur m) => match look st.cur m with
      | some (.mp _ kv) => match Nat.beq m s, freshB (purgeE (.cur m) env) (delCur m st.cur) s with
        | false, true => K' (.ptr (.cur s) 0) (purgeE (.cur m) env) { st with cur := (s, .mit (.cur m) ((.slice none 0 0, .v (.bool false)) :: kv)) :: delCur m st.cur }
        | _, _ => False
      | _ => False
    | _ => False
  | _ => False

def nextW (st : St) (x : LV) (K' : LV → St → Prop) : Prop :=
  match x with
  | .ptr (.cur s) 0 => match look st.cur s with
    | some (.mit m (_ :: rest)) => (rest = [] → K' (.tup [.t (.v (.bool false))]) st) ∧
        ∀ i p, rest[i]? = some p → K' (.tup [.t (.v (.bool true)), .t (.v p.1), .t p.2]) { st with cur := setCur st.cur s (.mit m (p :: rest.eraseIdx i)) }
    | _ => False
  | _ => False

def entryW (st : St) (x : LV) (K' : LV → Prop) : Prop :=
  match x with
  | .ptr (.cur s) 0 => match look st.cur s with
    | some (.mit _ (c :: _)) => match keyB c.1 with
      | true => K' (.tup [.t (.v c.1), .t c.2])
      | false => False
    | _ => False
  | _ => False

/-- An own row of numbers is sorted. -/
def sortW (st : St) (x : LV) (K' : St → Prop) : Prop :=
  match x with
  | .t (.sl true _ []) => K' st
  | .osl (.cur s) 1 0 len => match look st.cur s with
    | some (.row e 1 es) => ∃ L : List Int, es = L.map (fun n => [T.v (.int .i64 n)]) ∧ len = L.length ∧ L.length ≤ 1000000000000 ∧
        K' { st with cur := setCur st.cur s (.row e 1 ((L.mergeSort fun x y => decide (x ≤ y)).map fun n => [T.v (.int .i64 n)])) }
    | _ => False
  | _ => False

theorem run_mapNext {P : Program} {n : Nat} (hn : 0 < n) (w : World) : ∃ i d, i < n ∧ (choose (.mapNext n)).run P w = .ok i { w with drawn := d } := by
  unfold choose
  simp only [Sem.run]
  split
  · exact ⟨0, w.drawn, hn, rfl⟩
  · exact ⟨_, _, Nat.mod_lt _ hn, rfl⟩

theorem filter_erase : ∀ (l : List MapEntry) (i : Nat) (e : MapEntry), l.Pairwise (fun m n => m.born < n.born) → l[i]? = some e → l.filter (fun x => !(x.born == e.born)) = l.eraseIdx i
  | [], i, e, _, h => by simp at h
  | x :: r, 0, e, hp, h => by
    simp only [List.getElem?_cons_zero, Option.some.injEq] at h
    subst h
    simp only [List.filter_cons, beq_self_eq_true, Bool.not_true, Bool.false_eq_true, if_false, List.eraseIdx_zero, List.tail_cons]
    refine List.filter_eq_self.2 fun y hy => ?_
    have := (List.pairwise_cons.1 hp).1 y hy
    simp only [Bool.not_eq_true', beq_eq_false_iff_ne, ne_eq]; omega
  | x :: r, i + 1, e, hp, h => by
    simp only [List.getElem?_cons_succ] at h
    have hx := (List.pairwise_cons.1 hp).1 e (List.mem_of_getElem? h)
    simp only [List.filter_cons, List.eraseIdx_cons_succ]
    rw [if_pos (by simp only [Bool.not_eq_true', beq_eq_false_iff_ne, ne_eq]; omega), filter_erase r i e (List.pairwise_cons.1 hp).2 h]
theorem find_born : ∀ (l : List MapEntry) (e : MapEntry), l.Pairwise (fun m n => m.born < n.born) → e ∈ l → l.find? (fun x => x.born == e.born) = some e
  | [], e, _, h => by cases h
  | x :: r, e, hp, h => by
    rcases List.mem_cons.1 h with rfl | h
    · simp
    · have := (List.pairwise_cons.1 hp).1 e h
      rw [List.find?_cons_of_neg (by simp only [beq_iff_eq]; omega)]
      exact find_born r e (List.pairwise_cons.1 hp).2 h

section
variable {C : Ctx} {P : Program} (hC : C.OK P) {E : Ent} {N : Nat} {β : K → Nat} {RO : Nat → Prop} {env : Env} {st : St} {a : Act} {w w' : World}

theorem WR.drew (h : WR E β RO st w) (n : Nat) : WR E β RO st { w with drawn := n } :=
  ⟨h.os, h.tape, h.output, h.size, h.keep, h.roLt, h.ro0, h.roNew, fun k o hk => (h.obj k o hk).keep (fun _ h => h) (fun _ _ => rfl) rfl rfl (fun _ _ _ _ _ hv => hv.mono (w := w) (w' := { w with drawn := n }) (fun _ h => h) (fun _ _ => rfl) (fun _ => True) (fun _ _ => ⟨rfl, fun _ h => h⟩) fun _ _ => trivial)
    (fun _ _ _ _ _ _ _ _ => ⟨rfl, fun _ h => h⟩) fun _ _ _ => ⟨rfl, rfl⟩, h.objNew, h.inj, h.sep, h.fzRO, h.stay⟩


theorem SR.drew (h : SR E N β RO env st a w) (n : Nat) : SR E N β RO env st a { w with drawn := n } := ⟨h.wr.drew _, h.size, h.defers, fun m x hx => by
    obtain ⟨v, g1, g2⟩ := h.env m x hx
    exact ⟨v, g1, g2.mono (w := w) (w' := { w with drawn := n }) (fun _ h => h) (fun _ _ => rfl) (fun _ => True) (fun _ _ => ⟨rfl, fun _ h => h⟩) fun _ _ => trivial⟩⟩

theorem get_setCur {s : Nat} {o o' : Ob} (h : look st.cur s = some o) (ho : ∀ eo e sz rs, o ≠ .grid eo e sz rs) (ho' : ∀ eo e sz rs, o' ≠ .grid eo e sz rs) : ∀ k, St.get { st with cur := setCur st.cur s o' } k = if k = .cur s then some o' else st.get k
  | .cur n => by
    simp only [St.get, look_setCur, K.cur.injEq]
    split
    · rw [h]; rfl
    · rfl
  | .fr i n => by simp [St.get]
  | .sub k i => by
    have ih := get_setCur h ho ho' k
    simp only [St.get, ih]
    by_cases hk : k = .cur s
    · subst hk
      rw [if_pos rfl]
      have h2 : st.get (.cur s) = some o := h
      rw [h2]
      cases o <;> cases o' <;> first
        | exact absurd rfl (ho _ _ _ _)
        | exact absurd rfl (ho' _ _ _ _)
        | simp
    · rw [if_neg hk]; simp

/-- One block of the call's own is written, and memory may be new. -/
theorem WR.writeG {g : Nat} {st' : St} (h : WR E β RO st w) (hs : Step w w') (hg : ∃ k o, st.get k = some o ∧ E.can k ∧ β k = g)
    (hb : ∀ b, b < w.heap.size → b ≠ g → w'.heap[b]? = w.heap[b]?) (hst : ∀ k o', st'.get k = some o' → (∃ o, st.get k = some o) ∧ ObOK β RO w' k o') : WR E β RO st' w' := by
  obtain ⟨k0, o0, hk0, hc0, rfl⟩ := hg
  refine ⟨hs.os.trans h.os, hs.tape.trans h.tape, hs.output.trans h.output, Nat.le_trans h.size hs.size, fun b hlt hnw => ?_, fun b hb' => Nat.lt_of_lt_of_le (h.roLt b hb') hs.size, h.ro0, h.roNew, fun k o' hk => (hst k o' hk).2,
    fun k o' hk hc => ?_, fun k k' o o' hk hk' hc hc' => ?_, fun k o' hk hc => ?_, fun k o' hk hc => ?_, h.stay⟩
  · rw [hb b (Nat.lt_of_lt_of_le hlt h.size) fun e => ?_]
    · exact h.keep b hlt hnw
    · rcases h.objNew k0 o0 hk0 hc0 with h1 | h1
      · exact hnw (e ▸ h1)
      · omega
  · obtain ⟨o, ho⟩ := (hst k o' hk).1; exact h.objNew k o ho hc
  · obtain ⟨p, hp⟩ := (hst k o hk).1
    obtain ⟨q, hq⟩ := (hst k' o' hk').1
    exact h.inj k k' p q hp hq hc hc'
  · obtain ⟨o, ho⟩ := (hst k o' hk).1; exact h.sep k o ho hc
  · obtain ⟨o, ho⟩ := (hst k o' hk).1; exact h.fzRO k o ho hc

/-- What is told of an object of one's own is told anew; the others stand as they stood. -/
theorem SR.setG {s : Nat} {o o' : Ob} (h : SR E N β RO env st a w) (hk : look st.cur s = some o) (ho : ∀ eo e sz rs, o ≠ .grid eo e sz rs) (ho' : ∀ eo e sz rs, o' ≠ .grid eo e sz rs) (hs : Step w w')
    (hb : ∀ b, b < w.heap.size → b ≠ β (.cur s) → w'.heap[b]? = w.heap[b]?) (hc : ∀ b, b < w.heap.size → w'.shape? b = w.shape? b)
    (hob : ObOK β RO w' (.cur s) o') : SR E N β RO env { st with cur := setCur st.cur s o' } a w' := by
  have hks : st.get (.cur s) = some o := hk
  have hro : ∀ b, RO b → w'.heap[b]? = w.heap[b]? := fun b hb' => hb b (h.wr.roLt b hb') fun e => h.wr.sep _ _ hks (can_cur s) (e ▸ hb')
  have hval : ∀ {x : LV} {v : Value}, VL β RO w x v → VL β RO w' x v := fun hv => hv.mono (fun _ h => h) hro (fun _ => True) (fun k _ => ⟨rfl, fun r hr => (hc _ (lt_of_shape hr)).trans hr⟩) fun _ _ => trivial
  refine ⟨h.wr.writeG hs ⟨_, _, hks, can_cur s, rfl⟩ hb fun k o2 hk2 => ?_, h.size, h.defers, fun n x hx => ?_⟩
  · rw [get_setCur hk ho ho'] at hk2
    split at hk2
    · rename_i he
      subst he
      cases hk2
      exact ⟨⟨_, hks⟩, hob⟩
    · rename_i hne
      refine ⟨⟨o2, hk2⟩, ?_⟩
      have hok := h.wr.obj k o2 hk2
      have hbne : β k ≠ β (.cur s) := fun e => by
        by_cases hc' : E.can k
        · exact hne (h.wr.inj k (.cur s) o2 o hk2 hks hc' (can_cur s) e)
        · exact h.wr.sep _ _ hks (can_cur s) (e ▸ h.wr.fzRO k o2 hk2 hc')
      refine hok.keep (fun _ h => h) hro rfl (hb _ hok.lt hbne) (fun cs _ x _ v hv => hval hv) (fun _ _ _ _ _ _ _ _ => ⟨rfl, fun r hr => (hc _ (lt_of_shape hr)).trans hr⟩) fun m left hmit => ?_
      subst hmit
      obtain ⟨_, _, _, _, h2, hr, _⟩ := hok
      exact ⟨rfl, hro _ hr⟩
  · obtain ⟨v, q1, q2⟩ := h.env n x hx
    exact ⟨v, q1, hval q2⟩

/-- The memory grows, and nothing that lay there turns. -/
theorem SR.later (h : SR E N β RO env st a w) (hs : Step w w') (hb : ∀ b, b < w.heap.size → w'.heap[b]? = w.heap[b]?) : SR E N β RO env st a w' := by
  have hro : ∀ b, RO b → w'.heap[b]? = w.heap[b]? := fun b hb' => hb b (h.wr.roLt b hb')
  have hval : ∀ {x : LV} {v : Value}, VL β RO w x v → VL β RO w' x v := fun hv => hv.mono (fun _ h => h) hro (fun _ => True) (fun k _ => ⟨rfl, fun r hr => (shape_of_block (hb _ (lt_of_shape hr))).trans hr⟩) fun _ _ => trivial
  refine ⟨⟨hs.os.trans h.wr.os, hs.tape.trans h.wr.tape, hs.output.trans h.wr.output, Nat.le_trans h.wr.size hs.size, fun b hlt hnw => (hb b (Nat.lt_of_lt_of_le hlt h.wr.size)).trans (h.wr.keep b hlt hnw), fun b hb' => Nat.lt_of_lt_of_le (h.wr.roLt b hb') hs.size, h.wr.ro0, h.wr.roNew, fun k o hk => ?_, h.wr.objNew, h.wr.inj, h.wr.sep, h.wr.fzRO, h.wr.stay⟩, h.size, h.defers, fun n x hx => ?_⟩
  · have hok := h.wr.obj k o hk
    refine hok.keep (fun _ h => h) hro rfl (hb _ hok.lt) (fun cs _ x _ v hv => hval hv) (fun _ _ _ _ _ _ _ _ => ⟨rfl, fun r hr => (shape_of_block (hb _ (lt_of_shape hr))).trans hr⟩) fun m left hm => ?_
    subst hm
    obtain ⟨_, _, _, _, h2, hr, _⟩ := hok
    exact ⟨rfl, hro _ hr⟩
  · obtain ⟨v, q1, q2⟩ := h.env n x hx
    exact ⟨v, q1, hval q2⟩

theorem rangeW_gives {s t : Nat} {x : LV} {v : Value} {K' : LV → Env → St → Prop} (hC : C.OK P) (h : SR E N β RO env st a w) (hx : VL β RO w x v) (hW : rangeW C env st s t x K') : Gives P E N a w (Instr.range t v) K' := by
  unfold rangeW at hW
  split at hW
  rotate_left
  · cases hW
  rename_i kt et s0 b0 z0 ht
  have hu := run_map_ty hC ht
  split at hW
  rotate_left
  · cases hW
  rename_i m
  split at hW
  rotate_left
  · cases hW
  rename_i kd kv hm
  split at hW
  rotate_left
  · cases hW
  rename_i hms hf
  have hms : m ≠ s := Nat.ne_of_beq_eq_false hms
  cases hx
  have hks : st.get (.cur m) = some (.mp kd kv) := hm
  obtain ⟨ents, clock, h1, h2, h3, h4, h5, h6⟩ := h.wr.obj _ _ hks
  have hz := h.freeze hm
  obtain ⟨f1, f2⟩ := hz.fresh hf
  refine ⟨.pointer (some ⟨w.heap.size, 0, none⟩), w.alloc (.mapIter (some (β (.cur m))) clock #[] clock), _, _, _, fun k => if k = .cur s then w.heap.size else β k, fun b => RO b ∨ b = β (.cur m), ?_, hW, ?_, ?_⟩
  · simp only [Instr.range, Sem.run_bind, run_underlying hu, Result.andThen_ok, MapKept.run_getObj_map h1, Sem.run_pure]
    simp [newObj, Sem.run]
  · refine hz.alloc f1 f2 (Step.alloc _ _) (by rw [alloc_size]; omega) (alloc_old _ _) ?_ ?_
    · intro i o ho
      obtain ⟨_, _, _, _, _, hg, _⟩ := St.get_sub ho
      simp only [St.get, look_cons, if_true] at hg
      cases hg
    · have hmlt : β (.cur m) < w.heap.size := lt_of_heap h1
      have e : (if K.cur m = K.cur s then w.heap.size else β (.cur m)) = β (.cur m) := if_neg fun e => hms (by cases e; rfl)
      have hff : (ents.toList.filter fun e => !(#[] : Array Nat).contains e.born) = ents.toList := List.filter_eq_self.2 fun _ _ => by simp
      refine ⟨#[], ents, clock, ?_, ?_, ?_, ?_, ?_, _, _, rfl, ?_, ?_, ?_⟩
      · simp only [if_true, e]; exact alloc_new _ _
      · simp only [e]; rw [alloc_old _ _ _ hmlt]; exact h1
      · show RO _ ∨ _ = _; exact .inr e
      · intro q hq; exact h6 q (by simpa using hq)
      · exact List.pairwise_iff_getElem.2 fun i j hi hj hij => h5 i j _ _ (by simp at hi; simp [hi]) (by simp at hj; simp [hj]) hij
      · rw [hff]; simpa using h2
      · intro i p q hp hq
        rw [hff] at hq
        have hq' : ents[i]? = some q := by simpa using hq
        obtain ⟨g1, g2⟩ := h4 i p q hp hq'
        refine ⟨g1, ?_, g2.mono (fun b hb => .inl hb) fun b hb => alloc_old _ _ _ (h.wr.roLt b hb)⟩
        have := h3 p (List.mem_of_getElem? hp)
        revert this
        cases kd <;> cases p.1 <;> simp [keyOK, Value.oneCell']
      · intro hb; cases hb
  · have := VL.ptr (β := fun k => if k = .cur s then w.heap.size else β k) (RO := fun b => RO b ∨ b = β (.cur m)) (w := w.alloc (.mapIter (some (β (.cur m))) clock #[] clock)) (.cur s) 0
    simpa using this

theorem run_getObj_iter {r : Nat} {m : Option Nat} {c c' : Nat} {seen : Array Nat} (hb : w.heap[r]? = some (.mapIter m c seen c')) : (getObj r).run P w = .ok (.mapIter m c seen c') w := by
  simp [getObj, Sem.run, hb]
theorem run_setObj_iter {r : Nat} {m : Option Nat} {c c' : Nat} {seen : Array Nat} (o : Obj) (hb : w.heap[r]? = some (.mapIter m c seen c')) : (setObj r o).run P w = .ok () { w with heap := w.heap.setIfInBounds r o } := by
  simp [setObj, Sem.run, hb]

theorem nextW_gives {t : Nat} {x : LV} {v : Value} {K' : LV → St → Prop} (h : SR E N β RO env st a w) (hx : VL β RO w x v) (hW : nextW st x K') : Gives P E N a w (Instr.next v false t) fun x env' st' => env' = env ∧ K' x st' := by
  unfold nextW at hW
  split at hW
  rotate_left
  · cases hW
  rename_i s
  split at hW
  rotate_left
  · cases hW
  rename_i m c0 rest hm
  obtain ⟨hW0, hW1⟩ := hW
  cases hx
  have hks : st.get (.cur s) = some (.mit m (c0 :: rest)) := hm
  obtain ⟨seen, ents, clock, h1, h2, hro, hb, hp, c, r, he, hl, h5, h6⟩ := h.wr.obj _ _ hks
  cases he
  have hnone : (ents.all fun x => decide (x.born ≥ clock)) = ents.isEmpty := by
    by_cases hz : ents.isEmpty
    · have : ents = #[] := by simpa using hz
      subst this; simp
    · have hpos : 0 < ents.size := by
        rcases Nat.eq_zero_or_pos ents.size with hz' | hz'
        · exact absurd (by simpa using Array.eq_empty_of_size_eq_zero hz') hz
        · exact hz'
      have hx0 := hb ents[0] (by simp)
      have : (ents.all fun x => decide (x.born ≥ clock)) = false := by
        rw [Array.all_eq_false]
        exact ⟨0, hpos, by simp; omega⟩
      rw [this]; simpa using hz
  have hold : ((ents.filter fun e => !seen.contains e.born).filter fun e => decide (e.born < clock)) = ents.filter fun e => !seen.contains e.born := by
    rw [← Array.toList_inj]
    simp only [Array.toList_filter]
    refine List.filter_eq_self.2 fun y hy => ?_
    simpa using hb y (List.mem_filter.1 hy).1
  have hnew : ((ents.filter fun e => !seen.contains e.born).filter fun e => decide (e.born ≥ clock)) = #[] := by
    rw [← Array.toList_inj]
    simp only [Array.toList_filter]
    refine List.filter_eq_nil_iff.2 fun y hy => ?_
    have := hb y (List.mem_filter.1 hy).1
    simp; omega
  have hcond : (!seen.isEmpty && !ents.isEmpty && (ents.all fun x => decide (x.born ≥ clock))) = false := by
    rw [hnone]; cases ents.isEmpty <;> simp
  generalize hL : (ents.filter fun e => !seen.contains e.born) = L at hold hnew
  have hLl : L.toList = ents.toList.filter fun e => !seen.contains e.born := by rw [← hL]; simp
  rw [← hLl] at hl h5
  by_cases hz : L.isEmpty = true
  · have hLe : L = #[] := by simpa using hz
    have hr : rest = [] := List.eq_nil_of_length_eq_zero (by rw [← hl, hLe]; rfl)
    refine ⟨.tuple #[.bool false], w, _, env, st, β, RO, ?_, ⟨rfl, hW0 hr⟩, h, .tup [.t (.v (.bool false))] [.bool false] rfl fun i x v hx hv => ?_⟩
    · simp only [Instr.next, Sem.run_bind, run_getObj_iter h1, Result.andThen_ok, MapKept.run_getObj_map h2, hcond, Bool.false_eq_true, if_false, hL, hold, hnew, hz, if_true]
      rw [hLe]
      simp [choose, Sem.run, Question.forced]
    · cases i with
      | zero => simp at hx hv; subst hx; subst hv; exact .t _ _ (.v _ rfl)
      | succ i => simp at hx
  · have hz : L.isEmpty = false := by simpa using hz
    have hpos : 0 < L.size := by
      rcases Nat.eq_zero_or_pos L.size with hz' | hz'
      · rw [Array.eq_empty_of_size_eq_zero hz'] at hz; cases hz
      · exact hz'
    obtain ⟨i, d, hi, hch⟩ := run_mapNext (P := P) hpos w
    have hLi : L.toList[i]? = some L[i] := by simp [hi]
    have hil : i < rest.length := by rw [← hl]; simpa using hi
    have hri : rest[i]? = some rest[i] := List.getElem?_eq_getElem hil
    obtain ⟨g1, g2, g3⟩ := h5 i _ _ hri hLi
    have hmemL : L[i] ∈ ents.toList.filter fun e => !seen.contains e.born := by rw [← hLl]; exact List.mem_of_getElem? hLi
    have hmem := (List.mem_filter.1 hmemL).1
    have hpL : L.toList.Pairwise fun m n => m.born < n.born := by rw [hLl]; exact hp.filter _
    have hd := h.drew d
    refine ⟨.tuple #[.bool true, L[i].key, L[i].val], { w with drawn := d, heap := w.heap.setIfInBounds (β (.cur s)) (.mapIter (some (β m)) clock (seen.push L[i].born) clock) }, _, env, _, β, RO, ?_, ⟨rfl, hW1 i _ hri⟩, ?_, ?_⟩
    · simp only [Instr.next, Sem.run_bind, run_getObj_iter h1, Result.andThen_ok, MapKept.run_getObj_map h2, hcond, Bool.false_eq_true, if_false, hL, hold, hnew, hz]
      have hsz : ((#[] : Array (Option MapEntry)) ++ (L ++ #[]).map some).size = L.size := by simp
      rw [hsz, hch]
      simp only [Result.andThen_ok]
      have hgi : ((#[] : Array (Option MapEntry)) ++ (L ++ #[]).map some)[i]? = some (some L[i]) := by simp [hi]
      simp only [hgi, Sem.run_bind, run_setObj_iter (w := { w with drawn := d }) _ h1, Result.andThen_ok, Sem.run_pure]
    · have hne : β m ≠ β (.cur s) := fun e => by rw [e, h1] at h2; cases h2
      have hset := MapKept.heap_set (w := w) (o' := .mapIter (some (β m)) clock (seen.push L[i].born) clock) h1
      refine hd.setG hm (fun _ _ _ _ e => by cases e) (fun _ _ _ _ e => by cases e) (w' := { w with drawn := d, heap := w.heap.setIfInBounds (β (.cur s)) (.mapIter (some (β m)) clock (seen.push L[i].born) clock) }) ⟨rfl, rfl, rfl, by simp⟩ (fun b _ hb => hset.2 b hb) (fun b _ => ?_) ?_
      · by_cases hb : b = β (.cur s)
        · subst hb
          unfold World.shape?
          rw [show ({ w with drawn := d, heap := w.heap.setIfInBounds (β (.cur s)) (.mapIter (some (β m)) clock (seen.push L[i].born) clock) } : World).heap[β (.cur s)]? = _ from hset.1, show ({ w with drawn := d } : World).heap[β (.cur s)]? = _ from h1]
        · exact shape_of_block (hset.2 b hb)
      · have hmono : ∀ {x : T} {v : Value}, VT RO w x v → VT RO { w with drawn := d, heap := w.heap.setIfInBounds (β (.cur s)) (.mapIter (some (β m)) clock (seen.push L[i].born) clock) } x v := fun hv => hv.mono (fun _ h => h) fun b hb => hset.2 b fun e => h.wr.sep _ _ hks (can_cur s) (e ▸ hb)
        have hun : (ents.toList.filter fun e => !(seen.push L[i].born).contains e.born) = L.toList.eraseIdx i := by
          rw [← filter_erase L.toList i L[i] hpL hLi, hLl, List.filter_filter]
          refine List.filter_congr fun y _ => ?_
          rw [Array.contains_push, Bool.not_or, Bool.and_comm]
        refine ⟨seen.push L[i].born, ents, clock, hset.1, (hset.2 _ hne).trans h2, hro, hb, hp, _, _, rfl, ?_, ?_, fun _ => ⟨L[i].born, L[i], by simp, ?_, g1, g2, hmono g3⟩⟩
        · rw [hun, List.length_eraseIdx_of_lt (by simpa using hi), List.length_eraseIdx_of_lt hil, hl]
        · intro j q e hq he
          rw [hun, List.getElem?_eraseIdx] at he
          rw [List.getElem?_eraseIdx] at hq
          split at he
          · rename_i hji
            rw [if_pos hji] at hq
            obtain ⟨k1, k2, k3⟩ := h5 j q e hq he
            exact ⟨k1, k2, hmono k3⟩
          · rename_i hji
            rw [if_neg hji] at hq
            obtain ⟨k1, k2, k3⟩ := h5 (j + 1) q e hq he
            exact ⟨k1, k2, hmono k3⟩
        · rw [← Array.find?_toList]; exact find_born _ _ hp hmem
    · refine .tup [.t (.v (.bool true)), .t (.v rest[i].1), .t rest[i].2] [.bool true, L[i].key, L[i].val] rfl fun j x v hx hv => ?_
      match j, hx, hv with
      | 0, hx, hv => simp at hx hv; subst hx; subst hv; exact .t _ _ (.v _ rfl)
      | 1, hx, hv => simp at hx hv; subst hx; subst hv; rw [g1]; exact .t _ _ (.v _ g2)
      | 2, hx, hv =>
        simp at hx hv; subst hx; subst hv
        exact .t _ _ (g3.mono (fun _ h => h) fun b hb => (MapKept.heap_set (w := w) (o' := .mapIter (some (β m)) clock (seen.push L[i].born) clock) h1).2 b fun e => h.wr.sep _ _ hks (can_cur s) (e ▸ hb))
      | j + 3, hx, _ => simp at hx

theorem entryW_gives {x : LV} {v : Value} {K' : LV → Prop} (h : SR E N β RO env st a w) (hx : VL β RO w x v) (hW : entryW st x K') : ∃ u y, (Instr.entry v).run P w = .ok u w ∧ K' y ∧ VL β RO w y u := by
  unfold entryW at hW
  split at hW
  rotate_left
  · cases hW
  rename_i s
  split at hW
  rotate_left
  · cases hW
  rename_i m c0 rest hm
  split at hW
  rotate_left
  · cases hW
  rename_i hkb
  cases hx
  have hks : st.get (.cur s) = some (.mit m (c0 :: rest)) := hm
  obtain ⟨seen, ents, clock, h1, h2, hro, hb, hp, c, r, he, hl, h5, h6⟩ := h.wr.obj _ _ hks
  cases he
  obtain ⟨stamp, e, g1, g2, g3, g4, g5⟩ := h6 hkb
  refine ⟨.tuple #[e.key, e.val], _, ?_, hW, .tup [.t (.v c0.1), .t c0.2] [e.key, e.val] rfl fun i x v hx hv => ?_⟩
  · simp only [Instr.entry, Sem.run_bind, run_getObj_iter h1, Result.andThen_ok, g1, MapKept.run_getObj_map h2]
    simp [g2]
  · match i, hx, hv with
    | 0, hx, hv => simp at hx hv; subst hx; subst hv; rw [g3]; exact .t _ _ (.v _ g4)
    | 1, hx, hv => simp at hx hv; subst hx; subst hv; exact .t _ _ g5
    | i + 2, hx, _ => simp at hx

theorem sortW_gives {f : Nat} {x : LV} {v : Value} {K' : St → Prop} (hS : SortOK P f) (h : SR E N β RO env st a w) (hx : VL β RO w x v) (hW : sortW st x K') :
    Calls P f #[v] w fun e w' => e = .returned undef ∧ ∃ st', K' st' ∧ SR E N β RO env st' a w' := by
  unfold sortW at hW
  split at hW
  · cases hx with
    | t _ _ hx =>
    have hv : v = .slice none 0 0 ∨ ∃ p c, v = .slice (some p) 0 c := by
      cases hx with
      | nil => exact .inl rfl
    obtain rfl | ⟨p, c, rfl⟩ := hv
    · refine (hS.2.1 w).mono ?_
      rintro e w' ⟨rfl, h1, h2, h3, h4, h5⟩
      exact ⟨rfl, st, hW, h.later ⟨h1, h2, h3, h4⟩ h5⟩
    · cases hx
  · rename_i s len
    split at hW
    rotate_left
    · cases hW
    rename_i e0 es hs
    obtain ⟨L, rfl, rfl, hL, hK⟩ := hW
    cases hx with
    | osl _ _ _ _ cap e n hle hsh hn hm =>
    have hks : st.get (.cur s) = some (.row e0 1 (L.map fun n => [T.v (.int .i64 n)])) := hs
    obtain ⟨us, cap2, ⟨hl1, hown⟩, hf1, hf2⟩ := h.wr.obj _ _ hks
    rcases hown with ⟨h1, h2⟩ | ⟨g, cap3, cur, hv, _, hh, hc1, hc2, hc3, hc4⟩
    · cases h1
    cases hv
    simp only [List.length_map, Nat.mul_one] at hf1 hc3 hc4 hl1
    have hus : us = L.map (Value.int .i64) := by
      refine List.ext_getElem? fun i => ?_
      rw [List.getElem?_map]
      cases hi : L[i]? with
      | none =>
        have := List.getElem?_eq_none_iff.1 hi
        simp only [Option.map_none]
        exact List.getElem?_eq_none (by omega)
      | some z =>
        obtain ⟨_, g2⟩ := hf2 i [T.v (.int .i64 z)] (by rw [List.getElem?_map, hi]; rfl)
        obtain ⟨u, g3, g4⟩ := g2 0 (.v (.int .i64 z)) rfl
        rw [Nat.mul_one, Nat.add_zero] at g3
        rw [g3]; cases g4; rfl
    rw [hus] at hc4
    refine (hS.2.2 w (β (.cur s)) cap e0 L cur hh hc4 hL).mono ?_
    rintro e w' ⟨rfl, h1, h2, h3, h4, h5, cur', h6, h7, h8⟩
    refine ⟨rfl, _, hK, h.setG hs (fun _ _ _ _ e => by cases e) (fun _ _ _ _ e => by cases e) ⟨h1, h2, h3, h4⟩ h5 (fun b hb => ?_) ?_⟩
    · by_cases hbs : b = β (.cur s)
      · subst hbs
        unfold World.shape?
        rw [h6, hh]
        simp [h7]
      · exact shape_of_block (h5 b hb hbs)
    · have hlen : (L.mergeSort fun x y => decide (x ≤ y)).length = L.length := List.length_mergeSort ..
      refine ⟨(L.mergeSort fun x y => decide (x ≤ y)).map (Value.int .i64), cap2, ⟨by simp, .inr ⟨_, cap2, cur', rfl, Nat.zero_le _, h6, ?_, hc2, ?_, ?_⟩⟩, by simp, fun i el hi => ?_⟩
      · simpa using hc1
      · rw [h7]; simpa using hc3
      · simp only [List.length_map, Nat.mul_one, hlen]; exact h8
      · rw [List.getElem?_map] at hi
        cases hz : (L.mergeSort fun x y => decide (x ≤ y))[i]? with
        | none => rw [hz] at hi; cases hi
        | some z =>
          rw [hz] at hi
          cases hi
          refine ⟨rfl, fun j x hj => ?_⟩
          cases j with
          | zero =>
            cases hj
            exact ⟨.int .i64 z, by rw [Nat.mul_one, Nat.add_zero, List.getElem?_map, hz]; rfl, .v _ rfl⟩
          | succ j => simp at hj
  · cases hW

end
end Go.Fw

/- The value logic, part 17s: append to a row that shows less than it has; append to a row of a row of rows. -/
namespace Go.Fw
open Go

def appTW (C : Ctx) (env : Env) (st : St) (s t : Nat) (x y : LV) (K' : LV → Env → St → Prop) : Prop :=
  match x with
  | .osl (.sub (.cur q) i) sz1 0 len => match C.ty t with
    | some ⟨.slice e, _, _, _⟩ => match C.ty e with
      | some te => match te.size with
        | 0 => False
        | sz + 1 => srcW st (sz + 1) y fun xs => match look st.cur q with
          | some (.grid eo e' sz2 rs) => match Nat.beq e' e, Nat.beq sz1 (sz + 1), Nat.beq sz2 (sz + 1), freshB env st.cur s, Nat.beq s q with
            | true, true, true, true, false => ∃ es, rs[i]? = some (.row es) ∧ len = es.length ∧ (es ++ xs).length * te.bytes ≤ 140737488355328 ∧ (es ++ xs).length ≤ 140737488355328 ∧
                K' (.osl (.cur s) (sz + 1) 0 (es ++ xs).length) (purgeE (.cur s) (purgeE (.sub (.cur q) i) env))
                  ((St.mk st.out (purgeC (.cur s) ((s, .row e (sz + 1) es) :: setCur (purgeC (.sub (.cur q) i) st.cur) q (.grid eo e (sz + 1) (rs.set i .out))))).set (.cur s) (.row e (sz + 1) (es ++ xs)))
            | _, _, _, _, _ => False
          | _ => False
      | none => False
    | _ => False
  | .osl (.cur q) sz1 0 len => match C.slz with
    | false => appW C env st s t x y K'
    | true => match C.ty t with
      | some ⟨.slice e, _, _, _⟩ => match C.ty e with
        | some te => match te.size with
          | 0 => False
          | sz + 1 => srcW st (sz + 1) y fun xs => match look st.cur q with
            | some (.row e' sz2 es) => match Nat.beq e' e, Nat.beq sz1 (sz + 1), Nat.beq sz2 (sz + 1) with
              | true, true, true => len ≤ es.length ∧ (es.take len ++ xs).length * te.bytes ≤ 140737488355328 ∧ (es.take len ++ xs).length ≤ 140737488355328 ∧
                  K' (.osl (.cur q) (sz + 1) 0 (es.take len ++ xs).length) (purgeE (.cur q) env) ((st.purge (.cur q)).set (.cur q) (.row e (sz + 1) (es.take len ++ xs)))
              | _, _, _ => False
            | _ => False
        | none => False
      | _ => False
  | x => appW C env st s t x y K'

section
variable {C : Ctx} {P : Program} (hC : C.OK P) {E : Ent} {N : Nat} {β : K → Nat} {RO : Nat → Prop} {env : Env} {st : St} {a : Act} {w w' : World}

/-- Less is told of an object. -/
theorem SR.trunc (h : SR E N β RO env st a w) {q e sz n : Nat} {es : List (List T)} (hk : look st.cur q = some (.row e sz es)) : SR E N β RO env { st with cur := setCur st.cur q (.row e sz (es.take n)) } a w := by
  have hg := St.get_set_plain (st := st) (r := .cur q) rfl (o := .row e sz es) (o' := .row e sz (es.take n)) hk (fun _ _ _ _ e => by cases e) (fun _ _ _ _ e => by cases e) (fun _ _ e => by cases e)
  have hst : St.set st (.cur q) (.row e sz (es.take n)) = { st with cur := setCur st.cur q (.row e sz (es.take n)) } := rfl
  rw [hst] at hg
  have hsub : ∀ k o, St.get { st with cur := setCur st.cur q (.row e sz (es.take n)) } k = some o → ∃ o0, st.get k = some o0 := fun k o ho => by
    rw [hg] at ho
    split at ho
    · rename_i he; subst he; exact ⟨_, hk⟩
    · exact ⟨o, ho⟩
  refine ⟨⟨h.wr.os, h.wr.tape, h.wr.output, h.wr.size, h.wr.keep, h.wr.roLt, h.wr.ro0, h.wr.roNew, fun k o ho => ?_, fun k o ho hc => ?_, fun k k' o o' h1 h2 hc hc' he => ?_, fun k o ho hc => ?_, fun k o ho hc => ?_, h.wr.stay⟩, h.size, h.defers, h.env⟩
  · rw [hg] at ho
    split at ho
    · rename_i he
      subst he
      cases ho
      obtain ⟨us, cap, cur, hh, hnc, hcm, hcs, htk, hul, hf⟩ := row_block (h.wr.obj (.cur q) _ hk)
      have hlen : (es.take n).length ≤ es.length := by simp; omega
      have hle : (es.take n).length * sz ≤ es.length * sz := Nat.mul_le_mul_right _ hlen
      have hel : ∀ (i : Nat) (el : List T), (es.take n)[i]? = some el → es[i]? = some el := fun i el hi => by
        rw [List.getElem?_take] at hi
        split at hi
        · exact hi
        · cases hi
      refine ⟨us.take ((es.take n).length * sz), cap, ⟨by rw [List.length_take]; omega, .inr ⟨β (.cur q), cap, cur, rfl, Nat.zero_le _, hh, by omega, hcm, hcs, ?_⟩⟩, by rw [List.length_take]; omega, fun i el hi => ⟨(hf.2 i el (hel i el hi)).1, fun j x hj => ?_⟩⟩
      · rw [← htk, List.take_take, Nat.min_eq_left hle]
      · obtain ⟨u, h1, h2⟩ := (hf.2 i el (hel i el hi)).2 j x hj
        refine ⟨u, ?_, h2⟩
        have hil := (List.getElem?_eq_some_iff.1 hi).1
        have hjl : j < sz := (hf.2 i el (hel i el hi)).1 ▸ (List.getElem?_eq_some_iff.1 hj).1
        have := Nat.mul_le_mul_right sz (show i + 1 ≤ (es.take n).length from hil)
        rw [Nat.add_mul] at this
        rw [List.getElem?_take, if_pos (by omega)]; exact h1
    · exact h.wr.obj k o ho
  · obtain ⟨o0, h0⟩ := hsub k o ho; exact h.wr.objNew k o0 h0 hc
  · obtain ⟨p, hp⟩ := hsub k o h1
    obtain ⟨q, hq⟩ := hsub k' o' h2
    exact h.wr.inj k k' p q hp hq hc hc' he
  · obtain ⟨o0, h0⟩ := hsub k o ho; exact h.wr.sep k o0 h0 hc
  · obtain ⟨o0, h0⟩ := hsub k o ho; exact h.wr.fzRO k o0 h0 hc

/-- The own rows of a grid, one of them told by itself. -/
theorem get_detach {s q i : Nat} {eo e sz : Nat} {rs : List GR} {es : List (List T)} (hk : look st.cur q = some (.grid eo e sz rs)) (hne : s ≠ q) {k : K} {o : Ob}
    (h : St.get { st with cur := (s, .row e sz es) :: setCur (purgeC (.sub (.cur q) i) st.cur) q (.grid eo e sz (rs.set i .out)) } k = some o) :
    (k = .cur s ∧ o = .row e sz es) ∨ (k = .cur q ∧ o = .grid eo e sz (rs.set i .out)) ∨
      (k ≠ .cur s ∧ k ≠ .cur q ∧ k ≠ .sub (.cur q) i ∧ ∃ o0, st.get k = some o0 ∧ (o = purgeO (.sub (.cur q) i) o0 ∨ (k.isCur = false ∧ o = o0))) := by
  have hcur : ∀ n o, St.get { st with cur := (s, .row e sz es) :: setCur (purgeC (.sub (.cur q) i) st.cur) q (.grid eo e sz (rs.set i .out)) } (.cur n) = some o →
      (n = s ∧ o = .row e sz es) ∨ (n ≠ s ∧ n = q ∧ o = .grid eo e sz (rs.set i .out)) ∨ (n ≠ s ∧ n ≠ q ∧ ∃ o0, look st.cur n = some o0 ∧ o = purgeO (.sub (.cur q) i) o0) := by
    intro n o h
    simp only [St.get, look_cons, look_setCur, look_purgeC] at h
    split at h
    · rename_i he; cases h; exact .inl ⟨he.symm, rfl⟩
    · rename_i he
      split at h
      · rename_i hq
        subst hq
        rw [hk] at h
        simp only [Option.map_some, Option.some.injEq] at h
        exact .inr (.inl ⟨Ne.symm he, rfl, h.symm⟩)
      · rename_i hq
        cases hl : look st.cur n with
        | none => simp [hl] at h
        | some o0 => simp [hl] at h; exact .inr (.inr ⟨Ne.symm he, hq, o0, rfl, h.symm⟩)
  cases k with
  | cur n =>
    rcases hcur n o h with ⟨rfl, h1⟩ | ⟨h1, rfl, h2⟩ | ⟨h1, h2, o0, h3, h4⟩
    · exact .inl ⟨rfl, h1⟩
    · exact .inr (.inl ⟨rfl, h2⟩)
    · exact .inr (.inr ⟨fun e => h1 (by cases e; rfl), fun e => h2 (by cases e; rfl), (fun e => by cases e), o0, h3, .inl h4⟩)
  | fr j n => exact .inr (.inr ⟨(fun e => by cases e), (fun e => by cases e), (fun e => by cases e), o, h, .inr ⟨rfl, rfl⟩⟩)
  | sub k j =>
    obtain ⟨eo', e', sz', rs', es', hg, hj, rfl⟩ := St.get_sub h
    cases k with
    | cur n =>
      rcases hcur n _ hg with ⟨_, h1⟩ | ⟨_, rfl, h2⟩ | ⟨_, h2, o0, h3, h4⟩
      · cases h1
      · cases h2
        by_cases hji : j = i
        · subst hji
          rw [List.getElem?_set] at hj
          split at hj
          · split at hj
            · cases hj
            · cases hj
          · rename_i hn; exact absurd rfl hn
        · rw [List.getElem?_set_ne (Ne.symm hji)] at hj
          refine .inr (.inr ⟨(fun e => by cases e), (fun e => by cases e), fun e => hji (by cases e; rfl), .row e sz es', ?_, .inr ⟨rfl, rfl⟩⟩)
          simp only [St.get, hk, hj]
      · have := purgeO_grid h4.symm
        subst this
        refine .inr (.inr ⟨(fun e => by cases e), (fun e => by cases e), fun e => h2 (by cases e; rfl), .row e' sz' es', ?_, .inr ⟨rfl, rfl⟩⟩)
        simp only [St.get, h3, hj]
    | fr p n =>
      have hg' : st.get (.fr p n) = some (.grid eo' e' sz' rs') := hg
      refine .inr (.inr ⟨(fun e => by cases e), (fun e => by cases e), (fun e => by cases e), .row e' sz' es', ?_, .inr ⟨rfl, rfl⟩⟩)
      simp only [St.get] at hg' ⊢
      simp only [hg', hj]
    | sub k2 p => have := St.root_of_get_grid hg; cases this

theorem SR.detach (h : SR E N β RO env st a w) {s q i : Nat} {eo e sz : Nat} {rs : List GR} {es : List (List T)} (hk : look st.cur q = some (.grid eo e sz rs)) (hi : rs[i]? = some (.row es)) (hf : freshB env st.cur s = true) (hne : s ≠ q) :
    SR E N (fun k => if k = .cur s then β (.sub (.cur q) i) else β k) RO (purgeE (.sub (.cur q) i) env) { st with cur := (s, .row e sz es) :: setCur (purgeC (.sub (.cur q) i) st.cur) q (.grid eo e sz (rs.set i .out)) } a w := by
  obtain ⟨hfo, hfe⟩ := h.fresh hf
  have hkg : st.get (.cur q) = some (.grid eo e sz rs) := hk
  have hks : st.get (.sub (.cur q) i) = some (.row e sz es) := by simp only [St.get, hk, hi]
  have hβ : ∀ k, k ≠ .cur s → (fun k => if k = .cur s then β (.sub (.cur q) i) else β k) k = β k := fun k hk => if_neg hk
  have hcS := can_sub (E := E) q i
  have hval : ∀ {x : LV} {v : Value}, x.has (.cur s) = false → VL β RO w x v → VL (fun k => if k = .cur s then β (.sub (.cur q) i) else β k) RO w x v := fun hx hv => hv.no hx
  have hub : ∀ {k0 k1 : K} {x : LV}, x.has k1 = false → (purgeV k0 x).has k1 = false := fun h => purgeV_has h
  refine ⟨⟨h.wr.os, h.wr.tape, h.wr.output, h.wr.size, h.wr.keep, h.wr.roLt, h.wr.ro0, h.wr.roNew, fun k o ho => ?_, fun k o ho hc => ?_, fun k k' o o' h1 h2 hc hc' he => ?_, fun k o ho hc => ?_, fun k o ho hc => ?_, fun k hf hnm => ?_⟩, h.size, h.defers, fun n x hx => ?_⟩
  · rcases get_detach hk hne ho with ⟨rfl, rfl⟩ | ⟨rfl, rfl⟩ | ⟨h1, h2, h3, o0, h4, h5⟩
    · have := h.wr.obj _ _ hks
      obtain ⟨us, cap, g1, g2⟩ := this
      exact ⟨us, cap, by simpa using g1, g2⟩
    · obtain ⟨us, cap, g1, g2⟩ := h.wr.obj _ _ hkg
      refine ⟨us, cap, by rw [hβ _ (fun e => hne (by cases e; rfl))]; simpa using g1, fun j r u hj hu => ?_⟩
      rw [List.getElem?_set] at hj
      split at hj
      · split at hj
        · cases hj; trivial
        · cases hj
      · have := g2 j r u hj hu
        cases r with
        | nil => exact this
        | out => trivial
        | row es' =>
          simp only at this ⊢
          refine hval ?_ this
          simp only [LV.has, K.under, K.beq]
          rw [Bool.eq_false_iff]; intro hb
          have := Nat.eq_of_beq_eq_true (by simpa using hb)
          exact hne this
    · have hok := h.wr.obj k o0 h4
      have hhas : o0.has (.cur s) = false := hfo k o0 h4
      have keep : ∀ o1, ObOK β RO w k o1 → o1.has (.cur s) = false → ObOK (fun k => if k = .cur s then β (.sub (.cur q) i) else β k) RO w k o1 := by
        intro o1 hok1 hh1
        refine hok1.keep (fun _ h => h) (fun _ _ => rfl) (hβ k h1) rfl (fun cs hcs x hx u hu => ?_) (fun eo' e' sz' rs' ho1 j es' hj => ⟨hβ _ (fun e => by cases e), fun _ h => h⟩) fun m l ho1 => ⟨hβ _ ?_, rfl⟩
        · subst hcs
          exact hval (hasL_mem hh1 x hx) hu
        · rintro rfl
          subst ho1
          simp only [Ob.has, K.under_self] at hh1
          cases hh1
      rcases h5 with rfl | ⟨_, rfl⟩
      · exact keep _ hok.purge (purgeO_has hhas)
      · exact keep _ hok hhas
  · rcases get_detach hk hne ho with ⟨rfl, rfl⟩ | ⟨rfl, rfl⟩ | ⟨h1, h2, h3, o0, h4, h5⟩
    · simp only [if_true]; exact h.wr.objNew _ _ hks hcS
    · rw [if_neg (fun e => hne (by cases e; rfl))]; exact h.wr.objNew _ _ hkg hc
    · rw [if_neg h1]; exact h.wr.objNew k o0 h4 hc
  · have key : ∀ {k o}, St.get { st with cur := (s, .row e sz es) :: setCur (purgeC (.sub (.cur q) i) st.cur) q (.grid eo e sz (rs.set i .out)) } k = some o → ∃ k1 o1, st.get k1 = some o1 ∧ (if k = .cur s then β (.sub (.cur q) i) else β k) = β k1 ∧ (k1 = k ∧ k ≠ .cur s ∧ k ≠ .sub (.cur q) i ∨ k1 = .sub (.cur q) i ∧ k = .cur s) := by
      intro k o hg
      rcases get_detach hk hne hg with ⟨rfl, rfl⟩ | ⟨rfl, rfl⟩ | ⟨h1, h2, h3, o0, h4, h5⟩
      · exact ⟨_, _, hks, if_pos rfl, .inr ⟨rfl, rfl⟩⟩
      · exact ⟨_, _, hkg, if_neg (fun e => hne (by cases e; rfl)), .inl ⟨rfl, (fun e => hne (by cases e; rfl)), (fun e => by cases e)⟩⟩
      · exact ⟨_, _, h4, if_neg h1, .inl ⟨rfl, h1, h3⟩⟩
    obtain ⟨k1, o1, g1, g2, g3⟩ := key h1
    obtain ⟨k2, o2, f1, f2, f3⟩ := key h2
    have hkk : E.can k1 ∧ E.can k2 := by
      constructor
      · rcases g3 with ⟨rfl, _⟩ | ⟨rfl, _⟩
        · exact hc
        · exact hcS
      · rcases f3 with ⟨rfl, _⟩ | ⟨rfl, _⟩
        · exact hc'
        · exact hcS
    have e12 : k1 = k2 := h.wr.inj k1 k2 o1 o2 g1 f1 hkk.1 hkk.2 (by rw [← g2, ← f2]; exact he)
    rcases g3 with ⟨rfl, g4, g5⟩ | ⟨rfl, rfl⟩ <;> rcases f3 with ⟨rfl, f4, f5⟩ | ⟨rfl, rfl⟩
    · exact e12
    · exact absurd e12 g5
    · exact absurd e12.symm f5
    · rfl
  · rcases get_detach hk hne ho with ⟨rfl, rfl⟩ | ⟨rfl, rfl⟩ | ⟨h1, h2, h3, o0, h4, h5⟩
    · simp only [if_true]; exact h.wr.sep _ _ hks hcS
    · rw [if_neg (fun e => hne (by cases e; rfl))]; exact h.wr.sep _ _ hkg hc
    · rw [if_neg h1]; exact h.wr.sep k o0 h4 hc
  · rcases get_detach hk hne ho with ⟨rfl, rfl⟩ | ⟨rfl, rfl⟩ | ⟨h1, h2, h3, o0, h4, h5⟩
    · exact absurd (can_cur s) hc
    · exact absurd (can_cur q) hc
    · rw [if_neg h1]; exact h.wr.fzRO k o0 h4 hc
  · rw [if_neg fun e => by subst e; cases hf]; exact h.wr.stay k hf hnm
  · rw [look_purgeE] at hx
    cases hy : look env n with
    | none => simp [hy] at hx
    | some y =>
      simp [hy] at hx
      obtain ⟨u, g1, g2⟩ := h.env n y hy
      refine ⟨u, g1, ?_⟩
      rw [← hx]
      exact hval (hub (hfe n y hy)) g2.purge

include hC
theorem appTW_gives (h : SR E N β RO env st a w) {s t ty : Nat} {x y : LV} {vx vy : Value} {K' : LV → Env → St → Prop} (hx : VL β RO w x vx) (hy : VL β RO w y vy) (hW : appTW C env st s t x y K') :
    Gives P E N a w (Builtin.append_ #[t, t] ty #[vx, vy]) K' := by
  unfold appTW at hW
  split at hW
  · rename_i q i sz1 len
    split at hW
    rotate_left
    · cases hW
    rename_i e s0 b0 z0 ht
    have hu := run_slice_ty hC ht
    split at hW
    rotate_left
    · cases hW
    rename_i te hte
    split at hW
    · cases hW
    rename_i sz hsz
    obtain ⟨xs, hW2, aa, m, c, news, rfl, rfl, hf, hn1, hnone, hcell⟩ := srcW_gives h.wr (Nat.succ_pos sz) hy hW
    clear hW
    have hW := hW2
    clear hW2
    split at hW
    rotate_left
    · cases hW
    rename_i eo e' sz2 rs hk
    split at hW
    rotate_left
    · cases hW
    rename_i h1 h2 h3 hfr hsq
    have h1 := Nat.eq_of_beq_eq_true h1
    have h2 := Nat.eq_of_beq_eq_true h2
    have h3 := Nat.eq_of_beq_eq_true h3
    have hsq := Nat.ne_of_beq_eq_false hsq
    subst h1; subst h2; subst h3
    obtain ⟨es, hi, rfl, hb, hm, hW⟩ := hW
    have hd := h.detach hk hi hfr hsq
    have hx2 : VL (fun k => if k = .cur s then β (.sub (.cur q) i) else β k) RO w (.osl (.cur s) (sz + 1) 0 es.length) vx := by
      cases hx with
      | osl _ _ _ _ cap e n a b c d =>
        have := VL.osl (β := fun k => if k = .cur s then β (.sub (.cur q) i) else β k) (RO := RO) (w := w) (.cur s) (sz + 1) 0 es.length cap e n a (by simp only [if_true]; exact b) c d
        simpa using this
    exact append_own hC hd rfl (by simp only [St.get, look_cons, if_true]) hu hte hsz hx2 hf hn1 hnone hcell hb hm hW
  · rename_i q sz1 len
    split at hW
    · exact appW_gives hC h hx hy hW
    split at hW
    rotate_left
    · cases hW
    rename_i e s0 b0 z0 ht
    have hu := run_slice_ty hC ht
    split at hW
    rotate_left
    · cases hW
    rename_i te hte
    split at hW
    · cases hW
    rename_i sz hsz
    obtain ⟨xs, hW2, aa, m, c, news, rfl, rfl, hf, hn1, hnone, hcell⟩ := srcW_gives h.wr (Nat.succ_pos sz) hy hW
    clear hW
    have hW := hW2
    clear hW2
    split at hW
    rotate_left
    · cases hW
    rename_i e' sz2 es hk
    split at hW
    rotate_left
    · cases hW
    rename_i h1 h2 h3
    have h1 := Nat.eq_of_beq_eq_true h1
    have h2 := Nat.eq_of_beq_eq_true h2
    have h3 := Nat.eq_of_beq_eq_true h3
    subst h1; subst h2; subst h3
    obtain ⟨hle, hb, hm, hW⟩ := hW
    have hd := h.trunc (n := len) hk
    have hkt : St.get { st with cur := setCur st.cur q (.row e' (sz + 1) (es.take len)) } (.cur q) = some (.row e' (sz + 1) (es.take len)) := by
      simp only [St.get, look_setCur, if_true, hk, Option.map_some]
    have hlen : (es.take len).length = len := by simp; omega
    have hst : ((St.purge { st with cur := setCur st.cur q (.row e' (sz + 1) (es.take len)) } (.cur q)).set (.cur q) (.row e' (sz + 1) (es.take len ++ xs))) = ((st.purge (.cur q)).set (.cur q) (.row e' (sz + 1) (es.take len ++ xs))) := by
      simp only [St.purge, St.set]
      congr 1
      generalize st.cur = cur
      induction cur with
      | nil => rfl
      | cons p r ih =>
        obtain ⟨m, o⟩ := p
        simp only [setCur]
        cases hb : Nat.beq m q with
        | true => simp only [purgeC, setCur, hb]
        | false => simp only [purgeC, setCur, hb, ih]
    rw [← hst] at hW
    exact append_own hC hd rfl hkt hu hte hsz (by rw [hlen]; exact hx) hf hn1 hnone hcell hb hm hW
  · exact appW_gives hC h hx hy hW

end
end Go.Fw

/- The value logic, part 18: an operation; a region in the order of its text. -/
namespace Go.Fw
open Go

def nth {α : Type} : List α → Nat → Option α
  | [], _ => none
  | x :: _, 0 => some x
  | _ :: r, n + 1 => nth r n
theorem nth_eq {α : Type} : ∀ (l : List α) (n : Nat), nth l n = l[n]?
  | [], n => by simp [nth]
  | x :: r, 0 => rfl
  | x :: r, n + 1 => by simp [nth, nth_eq r n]

/-! ### Values, slots and objects are laid bare before the walk goes on -/
def strL : List LV → (List LV → Prop) → Prop
  | [], K' => K' []
  | x :: r, K' => strV x fun x => strL r fun r => K' (x :: r)
where strV : LV → (LV → Prop) → Prop
  | .bad, K' => K' .bad
  | .t x, K' => K' (.t x)
  | .osl k a b c, K' => K' (.osl k a b c)
  | .ptr k c, K' => K' (.ptr k c)
  | .pel k a b c, K' => K' (.pel k a b c)
  | .ipt cs, K' => K' (.ipt cs)
  | .fn f cap, K' => K' (.fn f cap)
  | .mpr k, K' => K' (.mpr k)
  | .ifc t x, K' => K' (.ifc t x)
  | .agg cs, K' => K' (.agg cs)
  | .tup cs, K' => K' (.tup cs)
def strW : LV → (LV → Prop) → Prop
  | .agg cs, K' => strL cs fun cs => K' (.agg cs)
  | .tup cs, K' => strL cs fun cs => K' (.tup cs)
  | x, K' => strL.strV x K'
def strE : List (Nat × LV) → (List (Nat × LV) → Prop) → Prop
  | [], K' => K' []
  | (n, x) :: r, K' => strW x fun x => strE r fun r => K' ((n, x) :: r)
def strO : Ob → (Ob → Prop) → Prop
  | .row e sz es, K' => K' (.row e sz es)
  | .box cs, K' => strL cs fun cs => K' (.box cs)
  | .grid a b c rs, K' => K' (.grid a b c rs)
  | .mp kd kv, K' => K' (.mp kd kv)
  | .mit m l, K' => K' (.mit m l)
def strC : List (Nat × Ob) → (List (Nat × Ob) → Prop) → Prop
  | [], K' => K' []
  | (n, x) :: r, K' => strO x fun x => strC r fun r => K' ((n, x) :: r)
def strS (st : St) (K' : St → Prop) : Prop := match st with
  | ⟨out, cur⟩ => strC cur fun cur => K' ⟨out, cur⟩

theorem strV_gives {x : LV} {K' : LV → Prop} (h : strL.strV x K') : K' x := by cases x <;> exact h
theorem strL_gives : ∀ {l : List LV} {K' : List LV → Prop}, strL l K' → K' l
  | [], _, h => h
  | x :: r, K', h => strL_gives (l := r) (strV_gives (x := x) (K' := fun x => strL r fun r => K' (x :: r)) h)
theorem strW_gives {x : LV} {K' : LV → Prop} (h : strW x K') : K' x := by
  cases x <;> first | exact h | exact strL_gives h
theorem strE_gives : ∀ {l : List (Nat × LV)} {K' : List (Nat × LV) → Prop}, strE l K' → K' l
  | [], _, h => h
  | (n, x) :: r, K', h => strE_gives (l := r) (strW_gives (x := x) (K' := fun x => strE r fun r => K' ((n, x) :: r)) h)
theorem strO_gives {x : Ob} {K' : Ob → Prop} (h : strO x K') : K' x := by
  cases x <;> first | exact h | exact strL_gives h
theorem strC_gives : ∀ {l : List (Nat × Ob)} {K' : List (Nat × Ob) → Prop}, strC l K' → K' l
  | [], _, h => h
  | (n, x) :: r, K', h => strC_gives (l := r) (strO_gives (x := x) (K' := fun x => strC r fun r => K' ((n, x) :: r)) h)
theorem strS_gives {st : St} {K' : St → Prop} (h : strS st K') : K' st := by
  obtain ⟨out, cur⟩ := st
  exact strC_gives (K' := fun cur => K' ⟨out, cur⟩) h
def strES (env : Env) (st : St) (K' : Env → St → Prop) : Prop := strE env fun env => strS st fun st => K' env st
theorem strES_gives {env : Env} {st : St} {K' : Env → St → Prop} (h : strES env st K') : K' env st := strS_gives (strE_gives h)

/-- A function without a body that is known: the first place of a byte. -/
def extW (args : List LV) (K' : LV → Prop) : Prop := match args with
  | [.t (.v (.string s)), .t (.v (.int .u8 c))] => ∀ n, n = Lib.indexByte s.data.toList c.toNat.toUInt8 → K' (.t (.v (.int .i64 n)))
  | _ => False

/-- Slots that show a row of our own, which is given away, show closed data from now on. -/
def closeW (s sz : Nat) (es : List (List T)) (K' : Env → Prop) : Env → Prop
  | [] => K' []
  | p :: r => match p.2 with
    | .osl k sz' off len => match k with
      | .cur s' => match Nat.beq s' s with
        | true => match Nat.beq sz' sz with
          | true => ∃ x, x = (es.drop off).take len ∧ off + len ≤ es.length ∧ closeW s sz es (fun env => K' ((p.1, .t (.sl false sz x)) :: env)) r
          | false => closeW s sz es (fun env => K' (p :: env)) r
        | false => closeW s sz es (fun env => K' (p :: env)) r
      | _ => closeW s sz es (fun env => K' (p :: env)) r
    | _ => closeW s sz es (fun env => K' (p :: env)) r
/-- Rows of our own among the arguments are given away for ever: nobody writes them again. -/
def frzW (K' : List LV → Env → St → Prop) : List Operand → List LV → Env → St → Prop
  | [], acc, env, st => K' acc env st
  | o :: r, acc, env, st => match opd env o with
    | .agg cs => cellsTW (fun ts env st => frzW K' r (acc ++ [.agg (ts.map .t)]) env st) cs [] env st
    | .t x => frzW K' r (acc ++ [.t x]) env st
    | .osl k sz off len => match k with
      | .cur s => match look st.cur s with
        | some (.row _ sz' es) => match Nat.beq sz sz' with
          | true => ∃ x, x = (es.drop off).take len ∧ off + len ≤ es.length ∧ closeW s sz es (fun env => frzW K' r (acc ++ [.t (.sl false sz x)]) env { st with cur := delCur s st.cur }) env
          | false => False
        | _ => False
      | _ => False
    | _ => False

def callOpW (C : Ctx) (P : Program) (env : Env) (st : St) (d : Nat) (c : Call) (K' : LV → Env → St → Prop) : Prop :=
  match c.callee with
  | .builtin .append => match c.args.toList, c.argTypes.toList with
    | [x, y], [t, t'] => match Nat.beq t t' with
      | true => appTW C env st d t (opd env x) (opd env y) fun x env st => strES env st (K' x)
      | false => False
    | _, _ => False
  | .value fo => match opd env fo with
    | .fn f (p :: cap) => strL (c.args.toList.map (opd env) ++ capArgs (p :: cap)) fun args => callW P env st d f args fun x env st => strES env st (K' x)
    | .fn f [] => match look C.exts f with
      | none => match look C.frz f with
        | none => match look C.srt f with
          | none => strL (c.args.toList.map (opd env) ++ capArgs []) fun args => callW P env st d f args fun x env st => strES env st (K' x)
          | some _ => match c.args.toList with
            | [x] => sortW st (opd env x) fun st => strS st fun st => K' (.tup []) env st
            | _ => False
        | some _ => frzW (fun args env st => SpecP P f args [] fun r ro => plW env st d r ro fun x env st => strES env st (K' x)) c.args.toList [] env st
      | some _ => extW (c.args.toList.map (opd env)) fun x => K' x env st
    | _ => False
  | _ => pureW C env st (.call c) fun x => K' x env st

/-- What is asked of an operation. -/
def opWs (C : Ctx) (P : Program) (s : Nat) (o : Oper) (env : Env) (st : St) (K' : LV → Env → St → Prop) : Prop :=
  match o.op with
  | .alloc t => match C.ty t with
    | some ti => boxW env st s (some (ti.zero.map fun v => .t (ofV v))) fun x env st => strS st (K' x env)
    | none => False
  | .box _ x => boxW env st s (cellsOf (opd env x)) fun x env st => strS st (K' x env)
  | .makeSlice t l c => makeW C env st s t (opd env l) (opd env c) fun x env st => strS st (K' x env)
  | .buildSlice t len parts => litW C env st s t len parts.toList fun x env st => strES env st (K' x)
  | .store t x y => storeW C env st t (opd env x) (opd env y) fun env st => strES env st (K' .bad)
  | .call c => callOpW C P env st s c K'
  | .makeMap t none => mapMakeW C env st s t fun x env st => strS st (K' x env)
  | .range t x => rangeW C env st s t (opd env x) fun x env st => strES env st (K' x)
  | .next x false => nextW st (opd env x) fun x st => strS st (K' x env)
  | .entry x => entryW st (opd env x) fun x => K' x env st
  | .mapUpdate t m k x => mapSetW C env st t (opd env m) (opd env k) (opd env x) fun env st => strS st (K' .bad env)
  | op => pureW C env st op fun x => K' x env st

/-- The same, its new memory named by its slot. -/
def opW (C : Ctx) (P : Program) (o : Oper) (env : Env) (st : St) (K' : LV → Env → St → Prop) : Prop := opWs C P (site o.dst) o env st K'

def putE (env : Env) (d : Option Nat) (x : LV) : Env := match d with
  | some d => (d, x) :: env
  | none => env

def gdE (ops : List Oper) (env : Env) (o : Oper) : Option Bool :=
  match o.guard with
  | none => some true
  | some (j, want) => match nth ops j with
    | some p => match p.dst with
      | some d => match look env d with
        | some (.t (.v (.bool b))) => some (match want with | true => b | false => !b)
        | some (.tup []) => some false
        | _ => none
      | none => none
    | none => none

/-- A truth value that a guard hangs on is told apart where it is made. -/
def splW (g : Bool) (x : LV) (K' : LV → Prop) : Prop :=
  match g, x with
  | true, .t (.v (.bool b)) => (b = true → K' (.t (.v (.bool true)))) ∧ (b = false → K' (.t (.v (.bool false))))
  | _, x => strW x K'

/-- Which operations make a truth value of their own. -/
def splK : Op → Bool
  | .move _ | .assign _ | .pick _ _ _ | .unOp _ _ _ => false
  | _ => true

def regGo (C : Ctx) (P : Program) (ops : List Oper) (Q : Env → St → Prop) : List Oper → Env → St → Prop
  | [], env, st => Q env st
  | o :: r, env, st => match gdE ops env o with
    | some true => opW C P o env st fun x env st => splW (splK o.op) x fun x => regGo C P ops Q r (putE env o.dst x) st
    | some false => regGo C P ops Q r (putE env o.dst (.tup [])) st
    | none => False

def regW (C : Ctx) (P : Program) (ops : List Oper) (env : Env) (st : St) (Q : Env → St → Prop) : Prop := regGo C P ops Q ops env st

section
variable {C : Ctx} {P : Program} (hC : C.OK P) {E : Ent} {N : Nat} {β : K → Nat} {RO : Nat → Prop} {env : Env} {st : St} {a : Act} {w w' : World}

theorem splW_gives {g : Bool} {x : LV} {K' : LV → Prop} (h : splW g x K') : K' x := by
  unfold splW at h
  split at h
  · rename_i b
    cases b
    · exact h.2 rfl
    · exact h.1 rfl
  · exact strW_gives h

def dstOK (N : Nat) : List Oper → Bool
  | [] => true
  | o :: r => match o.dst with
    | none => dstOK N r
    | some d => match Nat.blt d N with
      | true => dstOK N r
      | false => false
theorem dstOK_mem {N : Nat} : ∀ {l : List Oper}, dstOK N l = true → ∀ o ∈ l, ∀ d, o.dst = some d → d < N
  | [], _, o, ho => by cases ho
  | p :: r, h, o, ho => by
    unfold dstOK at h
    have key : dstOK N r = true ∧ ∀ d, p.dst = some d → d < N := by
      split at h
      · rename_i hp; exact ⟨h, fun d hd => by rw [hp] at hd; cases hd⟩
      · rename_i d hp
        split at h
        · rename_i hlt
          refine ⟨h, fun d' hd => ?_⟩
          rw [hp] at hd; cases hd
          simpa [Nat.blt_eq] using hlt
        · cases h
    rcases List.mem_cons.1 ho with rfl | ho
    · exact key.2
    · exact dstOK_mem key.1 o ho

theorem SR.put (h : SR E N β RO env st a w) {d : Option Nat} {x : LV} {v : Value} (hx : VL β RO w x v) (hd : ∀ n, d = some n → n < N) : SR E N β RO (putE env d x) st (a.put d v) w := by
  cases d with
  | none => exact h
  | some d =>
    refine ⟨h.wr, by simpa [Act.put] using h.size, h.defers, fun n y hy => ?_⟩
    simp only [putE, look_cons] at hy
    by_cases hn : d = n
    · subst hn
      simp only [if_true, Option.some.injEq] at hy
      subst hy
      have hlt := hd d rfl
      have hsz := h.size
      exact ⟨v, by rw [tmpAt_lt (by omega)]; simp [Act.put, hsz.1, hlt], hx⟩
    · rw [if_neg hn] at hy
      obtain ⟨u, h1, h2⟩ := h.env n y hy
      exact ⟨u, by rw [tmpAt_put hn]; exact h1, h2⟩

theorem gdE_wanted {ops : Array Oper} (hN : dstOK N ops.toList = true) (h : SR E N β RO env st a w) {o : Oper} {b : Bool} (hg : gdE ops.toList env o = some b) : Region.wanted o (yielded ops a.tmps) = b := by
  unfold gdE at hg
  unfold Region.wanted
  split at hg
  · rename_i h0; rw [h0]; cases hg; rfl
  · rename_i j want h0
    rw [h0]
    rw [nth_eq, Array.getElem?_toList] at hg
    split at hg
    · rename_i p hp
      split at hg
      · rename_i d hd
        have hlt : d < 1000000 := Nat.lt_of_lt_of_le (dstOK_mem hN p (by simpa using Array.mem_of_getElem? hp) d hd) h.size.2
        split at hg
        · rename_i bb hb
          cases hg
          obtain ⟨v, h1, h2⟩ := h.env d _ hb
          rw [tmpAt_lt hlt] at h1
          have := h2.v_inv; subst this
          have : yielded ops a.tmps j = some bb := by unfold yielded; rw [hp]; simp [hd, h1]
          simp only [this]
          cases bb <;> cases want <;> rfl
        · rename_i hb
          cases hg
          obtain ⟨v, h1, h2⟩ := h.env d _ hb
          rw [tmpAt_lt hlt] at h1
          have := h2.skip_inv; subst this
          have : yielded ops a.tmps j = none := by unfold yielded; rw [hp]; simp [hd, h1, undef]
          simp only [this]
          cases want <;> rfl
        · cases hg
      · cases hg
    · cases hg

/-- A run of an operation that yields a value. -/
theorem upon_gives {o : Oper} {s : Sem Value} {K' : LV → Env → St → Prop} {Q : Act → World → Prop} (he : (execOp a.eval o).run P w = (do pure (.value (← s)) : Sem Next).run P w) (hg : Gives P E N a w s K')
    (hQ : ∀ v x env' st' β' RO' w', K' x env' st' → SR E N β' RO' env' st' a w' → VL β' RO' w' x v → Q (a.put o.dst v) w') : o.wp P a w Q fun _ _ _ => False := by
  obtain ⟨v, w', x, env', st', β', RO', h1, h2, h3, h4⟩ := hg
  unfold Oper.wp
  rw [he]
  simp only [Sem.run_bind, h1, Result.andThen_ok, Sem.run_pure, Oper.upon]
  exact hQ v x env' st' β' RO' w' h2 h3 h4

theorem closeW_look {s sz : Nat} {es : List (List T)} : ∀ {l : Env} {K' : Env → Prop}, closeW s sz es K' l → ∃ l', K' l' ∧ ∀ n y, look l' n = some y → ∃ x, look l n = some x ∧ (y = x ∨ ∃ off len, x = .osl (.cur s) sz off len ∧ off + len ≤ es.length ∧ y = .t (.sl false sz ((es.drop off).take len)))
  | [], K', h => ⟨[], h, fun n y h => by simp [look] at h⟩
  | p :: r, K', h => by
    have stay : closeW s sz es (fun env => K' (p :: env)) r → ∃ l', K' l' ∧ ∀ n y, look l' n = some y → ∃ x, look (p :: r) n = some x ∧ (y = x ∨ ∃ off len, x = .osl (.cur s) sz off len ∧ off + len ≤ es.length ∧ y = .t (.sl false sz ((es.drop off).take len))) := fun h => by
      obtain ⟨l', h1, h2⟩ := closeW_look h
      refine ⟨p :: l', h1, fun n y hy => ?_⟩
      rw [look_cons] at hy
      rw [look_cons]
      split at hy
      · rename_i he
        cases hy
        exact ⟨_, by rw [if_pos he], .inl rfl⟩
      · rename_i he
        rw [if_neg he]
        exact h2 n y hy
    unfold closeW at h
    split at h
    · rename_i k sz' off len hp
      split at h
      · rename_i s'
        split at h
        · rename_i hs
          have hs : s' = s := by simpa using hs
          split at h
          · rename_i hz
            have hz : sz' = sz := by simpa using hz
            subst hs hz
            obtain ⟨x, rfl, hl, h⟩ := h
            obtain ⟨l', h1, h2⟩ := closeW_look h
            refine ⟨_, h1, fun n y hy => ?_⟩
            rw [look_cons] at hy
            rw [look_cons]
            split at hy
            · rename_i he
              cases hy
              exact ⟨_, by rw [if_pos he], .inr ⟨off, len, hp, hl, rfl⟩⟩
            · rename_i he
              rw [if_neg he]
              exact h2 n y hy
          · exact stay h
        · exact stay h
      · exact stay h
    · exact stay h
theorem closeW_gives {K' : Env → Prop} {s e sz : Nat} {es : List (List T)} (h : SR E N β RO env st a w) (hlk : look st.cur s = some (.row e sz es)) (hW : closeW s sz es K' env) :
    ∃ env', SR E N β (fun b => RO b ∨ b = β (.cur s)) env' { st with cur := delCur s st.cur } a w ∧ K' env' := by
  obtain ⟨l', h1, h2⟩ := closeW_look hW
  have hf := h.freeze hlk
  refine ⟨l', ⟨hf.wr, h.size, h.defers, fun n y hy => ?_⟩, h1⟩
  obtain ⟨x, hx, hxy⟩ := h2 n y hy
  obtain ⟨v, hv, hvl⟩ := h.env n x hx
  refine ⟨v, hv, ?_⟩
  rcases hxy with rfl | ⟨off, len, rfl, hl, rfl⟩
  · exact hvl.ro fun b hb => .inl hb
  · exact .t _ _ (snap (fun b hb => .inl hb) (.inr rfl) (h.wr.obj (.cur s) _ hlk) hvl hl)

theorem frzW_gives {K' : List LV → Env → St → Prop} : ∀ {l : List Operand} {acc : List LV} {us : List Value} {RO : Nat → Prop} {env : Env} {st : St}, SR E N β RO env st a w → (∀ RO' : Nat → Prop, (∀ b, RO b → RO' b) → Vals β RO' w acc us) → frzW K' l acc env st →
    ∃ env' st' RO' args, SR E N β RO' env' st' a w ∧ Vals β RO' w args (us ++ l.map a.eval) ∧ K' args env' st'
  | [], acc, us, RO, env, st, h, ha, hW => ⟨env, st, RO, acc, h, by simpa using ha RO fun _ h => h, hW⟩
  | o :: r, acc, us, RO, env, st, h, ha, hW => by
    have hx := h.opd o
    unfold frzW at hW
    have next : ∀ {RO1 : Nat → Prop} {env1 : Env} {st1 : St} {y : LV}, (∀ b, RO b → RO1 b) → SR E N β RO1 env1 st1 a w → VL β RO1 w y (a.eval o) → frzW K' r (acc ++ [y]) env1 st1 → ∃ env' st' RO' args, SR E N β RO' env' st' a w ∧ Vals β RO' w args (us ++ (o :: r).map a.eval) ∧ K' args env' st' := by
      intro RO1 env1 st1 y hro h1 hy hW1
      obtain ⟨env', st', RO', args, h2, h3, h4⟩ := frzW_gives h1 (acc := acc ++ [y]) (us := us ++ [a.eval o]) (fun RO2 hro2 => (ha RO2 fun b hb => hro2 b (hro b hb)).snoc (hy.ro hro2)) hW1
      exact ⟨env', st', RO', args, h2, by simpa using h3, h4⟩
    split at hW
    · rename_i cs ho
      rw [ho] at hx
      generalize hv : a.eval o = v at hx
      cases hx with
      | agg _ vs hl hcv h1 =>
      obtain ⟨env1, st1, RO1, ts, hro, h2, ht, hW1⟩ := cellsTW_gives (K' := fun ts env st => frzW K' r (acc ++ [.agg (ts.map .t)]) env st) h (vs := vs) ⟨hl, hcv, h1⟩ (acc := []) (us := []) ⟨rfl, fun i x v hx => by simp at hx⟩ hW
      simp only [List.nil_append] at ht
      refine next hro h2 ?_ hW1
      rw [hv]
      refine .agg _ vs (by simpa using ht.1) (fun i x v hx hv => ?_) h1
      rw [List.getElem?_map] at hx
      cases hc : ts[i]? with
      | none => simp [hc] at hx
      | some y => simp [hc] at hx; rw [← hx]; exact .t _ _ (ht.2 i y v hc hv)
    · rename_i x ho
      rw [ho] at hx
      exact next (fun _ h => h) h hx hW
    · rename_i k sz off len ho
      rw [ho] at hx
      split at hW
      rotate_left
      · cases hW
      rename_i s
      split at hW
      rotate_left
      · cases hW
      rename_i e sz' es hlk
      split at hW
      rotate_left
      · cases hW
      rename_i hsz
      simp at hsz
      subst hsz
      obtain ⟨x, rfl, hl, hW⟩ := hW
      obtain ⟨env1, h1, hW⟩ := closeW_gives h hlk hW
      exact next (fun b hb => .inl hb) h1 (.t _ _ (snap (fun b hb => .inl hb) (.inr rfl) (h.wr.obj (.cur s) _ hlk) hx hl)) hW
    · cases hW

/-- A call, once its contract is at hand. -/
theorem call_wp_of {o : Oper} {c : Call} {fo : Operand} {f : Nat} {Q : Act → World → Prop} (hop : o.op = .call c) (hcal : c.callee = .value fo) (h : SR E N β RO env st a w) (hf : opd env fo = .fn f []) (hfn : FnOK P f)
    (hcalls : Calls P f (c.args.toList.map a.eval).toArray w fun e w' => ∃ v, e = .returned v ∧ Q (a.put o.dst v) w') : o.wp P a w Q fun _ _ _ => False := by
  have hfv := h.opd fo
  rw [hf] at hfv
  cases hv : a.eval fo <;> rw [hv] at hfv <;> cases hfv
  unfold FnOK at hfn
  cases hfun : P.funcs[f]? with
  | none => simp [hfun] at hfn
  | some fn =>
    simp only [hfun, Option.any_some, Bool.and_eq_true, bne_iff_ne, ne_eq] at hfn
    have hbody : fn.body.isNone = false := by
      cases hb : fn.body with
      | none => simp [hb] at hfn
      | some _ => rfl
    have hrun : (execOp a.eval o).run P w = .ok (.enter f (c.args.toList.map a.eval).toArray) w := by
      have hname : (fn.name == "runtime.NumGoroutine") = false := by simpa using hfn.2
      simp only [execOp, hop, resolve, hcal, hv, Deferred.ofValue, Sem.run_bind, Sem.run_pure, Result.andThen_ok, invoke, callFunc, run_program, hfun, hname, hbody, Bool.false_eq_true, if_false]
      congr 2
      rw [← Array.toList_inj]
      simp
    unfold Oper.wp
    rw [hrun]
    simp only [Oper.upon]
    refine hcalls.mono ?_
    rintro e w' ⟨v, rfl, hQ⟩
    exact hQ

include hC
theorem pure_wp {o : Oper} {K' : LV → Prop} {Q : Act → World → Prop} (h : SR E N β RO env st a w) (hW : pureW C env st o.op K') (hQ : ∀ v x, K' x → VL β RO w x v → Q (a.put o.dst v) w) : o.wp P a w Q fun _ _ _ => False := by
  obtain ⟨x, hx, hK⟩ := pureW_pev hW
  obtain ⟨v, h1, h2⟩ := pev_sound hC h hx
  unfold Oper.wp
  rw [h1]
  exact hQ v x hK h2

omit hC in
theorem Gives.mono {s : Sem Value} {K1 K2 : LV → Env → St → Prop} (h : Gives P E N a w s K1) (hK : ∀ x env st, K1 x env st → K2 x env st) : Gives P E N a w s K2 := by
  obtain ⟨v, w', x, env', st', β', RO', h1, h2, h3⟩ := h
  exact ⟨v, w', x, env', st', β', RO', h1, hK _ _ _ h2, h3⟩

theorem opWs_sound {s : Nat} {o : Oper} {K' : LV → Env → St → Prop} {Q : Act → World → Prop} (h : SR E N β RO env st a w) (hW : opWs C P s o env st K')
    (hQ : ∀ v x env' st' β' RO' w', K' x env' st' → SR E N β' RO' env' st' a w' → VL β' RO' w' x v → Q (a.put o.dst v) w') : o.wp P a w Q fun _ _ _ => False := by
  unfold opWs at hW
  split at hW
  · rename_i t hop
    split at hW
    · rename_i ti hti
      exact upon_gives (s := Instr.alloc t true (.tuple #[])) (by simp only [execOp, hop]) ((allocW_gives hC h hti hW).mono fun _ _ _ => strS_gives) hQ
    · cases hW
  · rename_i t x hop
    exact upon_gives (s := Instr.box t (a.eval x)) (by simp only [execOp, hop]) ((boxW_gives h hW).mono fun _ _ _ => strS_gives) hQ
  · rename_i t l c hop
    exact upon_gives (s := Instr.makeSlice t (a.eval l) (a.eval c)) (by simp only [execOp, hop]) ((madeW_gives hC h hW).mono fun _ _ _ => strS_gives) hQ
  · rename_i t len parts hop
    refine upon_gives (s := Instr.buildSlice t len (parts.map fun p => (p.1, a.eval p.2))) (by simp only [execOp, hop]) ?_ hQ
    have := (litW_gives hC h hW).mono fun _ _ _ => strES_gives
    simpa using this
  · rename_i t x y hop
    obtain ⟨w', env', st', β', RO', h1, h2, h3⟩ := storeW_gives hC h (h.opd x) (h.opd y) hW
    unfold Oper.wp
    simp only [execOp, hop, Sem.run_bind, h1, Result.andThen_ok, Sem.run_pure, Oper.upon]
    exact hQ undef .bad env' st' β' RO' w' (strES_gives h2) h3 (.bad _)
  · rename_i c hop
    unfold callOpW at hW
    split at hW
    · rename_i hcal
      split at hW
      · rename_i x y t t' hargs hts
        split at hW
        · rename_i ht
          simp at ht
          subst ht
          have e1 : c.args = #[x, y] := by rw [← Array.toList_inj]; exact hargs
          have e2 : c.argTypes = #[t, t] := by rw [← Array.toList_inj]; exact hts
          refine upon_gives (s := Builtin.append_ #[t, t] o.type #[a.eval x, a.eval y]) ?_ ((appTW_gives hC h (h.opd x) (h.opd y) hW).mono fun _ _ _ => strES_gives) hQ
          simp only [execOp, hop, resolve, hcal, invoke, builtin, e1, e2, Sem.run_bind, Sem.run_pure, Result.andThen_ok]
          simp
        · cases hW
      · cases hW
    · rename_i fo hcal
      split at hW
      · rename_i f p cap hf
        exact call_wp hop hcal h hf (strL_gives hW) fun v x env' st' β2 RO2 w' hK hs hv _ => hQ v x env' st' β2 RO2 w' (strES_gives hK) hs hv
      · rename_i f hf
        split at hW
        rotate_left
        · rename_i kx hkx
          unfold extW at hW
          split at hW
          rotate_left
          · cases hW
          rename_i s n hargs
          have hfv := h.opd fo
          rw [hf] at hfv
          cases hv : a.eval fo <;> rw [hv] at hfv <;> cases hfv
          have hgen : ∀ l : List Operand, l.map (opd env) = [.t (.v (.string s)), .t (.v (.int .u8 n))] → l.map a.eval = [.string s, .int .u8 n] := by
            intro l hl
            match l, hl with
            | [], hl => simp at hl
            | [_], hl => simp at hl
            | _ :: _ :: _ :: _, hl => simp at hl
            | [p, q], hl =>
              simp only [List.map_cons, List.map_nil, List.cons.injEq, and_true] at hl ⊢
              have h1 := h.opd p; have h2 := h.opd q
              rw [hl.1] at h1; rw [hl.2] at h2
              exact ⟨h1.v_inv, h2.v_inv⟩
          have hargs' := hgen _ hargs
          have hargs2 : c.args.map a.eval = #[.string s, .int .u8 n] := by rw [← Array.toList_inj]; simpa using hargs'
          unfold Oper.wp
          have hrun : (execOp a.eval o).run P w = .ok (.value (.int .i64 (Lib.indexByte s.data.toList n.toNat.toUInt8))) w := by
            have := hC.exts f kx hkx s n w
            simp only [execOp, hop, resolve, hcal, hv, Deferred.ofValue, Sem.run_bind, Sem.run_pure, Result.andThen_ok, invoke, hargs2]
            simpa using this
          rw [hrun]
          exact hQ _ _ env st β RO w (hW _ rfl) h (.t _ _ (.v _ rfl))
        split at hW
        rotate_left
        · obtain ⟨env1, st1, RO1, args, h1, h2, hS⟩ := frzW_gives h (acc := []) (us := []) (fun _ _ => ⟨rfl, fun i x v h => by simp at h⟩) hW
          simp only [List.nil_append] at h2
          refine call_wp_of hop hcal h hf hS.1 ((hS.2 β RO1 w _ (bare_wr h1.wr) h2).mono ?_)
          rintro e w' ⟨v, r, ro, out', β', RO', he, hp, hw, hr⟩
          obtain ⟨x, env', st', β2, RO2, g1, g2, g3, _⟩ := plW_gives h1 hw hr hp (.inl fun b hb => (hw.roNew b hb).imp id fun h => h.elim id False.elim)
          exact ⟨v, he, hQ v x env' st' β2 RO2 w' (strES_gives g1) g2 g3⟩
        split at hW
        · exact call_wp hop hcal h hf (strL_gives hW) fun v x env' st' β2 RO2 w' hK hs hv _ => hQ v x env' st' β2 RO2 w' (strES_gives hK) hs hv
        · rename_i kx hkx
          split at hW
          rotate_left
          · cases hW
          rename_i x hargs
          have hS := hC.srt f kx hkx
          refine call_wp_of hop hcal h hf hS.1 ?_
          rw [hargs]
          refine (sortW_gives hS h (h.opd x) hW).mono ?_
          rintro e w' ⟨rfl, st', hK, hs⟩
          exact ⟨_, rfl, hQ _ _ env st' β RO w' (strS_gives hK) hs (.tup [] [] rfl fun i x v h => by simp at h)⟩
      · cases hW
    · exact pure_wp hC h (hop ▸ hW) fun v x hK hv => hQ v x env st β RO w hK h hv
  · rename_i t hop
    exact upon_gives (s := Instr.makeMap t none) (by simp only [execOp, hop, Option.map_none]) ((mapMakeW_gives h hW).mono fun _ _ _ => strS_gives) hQ
  · rename_i t x hop
    exact upon_gives (s := Instr.range t (a.eval x)) (by simp only [execOp, hop]) ((rangeW_gives hC h (h.opd x) hW).mono fun _ _ _ => strES_gives) hQ
  · rename_i x hop
    refine upon_gives (s := Instr.next (a.eval x) false o.type) (by simp only [execOp, hop]) (nextW_gives h (h.opd x) hW) ?_
    rintro v y env' st' β' RO' w' ⟨rfl, hK⟩ hs hv
    exact hQ v y env' st' β' RO' w' (strS_gives (K' := fun st => K' y env' st) hK) hs hv
  · rename_i x hop
    obtain ⟨u, y, h1, h2, h3⟩ := entryW_gives (P := P) h (h.opd x) hW
    unfold Oper.wp
    simp only [execOp, hop, Sem.run_bind, h1, Result.andThen_ok, Sem.run_pure, Oper.upon]
    exact hQ u y env st β RO w h2 h h3
  · rename_i t m k x hop
    obtain ⟨w', env', st', β', RO', h1, h2, h3⟩ := mapSetW_gives hC h (h.opd m) (h.opd k) (h.opd x) hW
    unfold Oper.wp
    simp only [execOp, hop, Sem.run_bind, h1, Result.andThen_ok, Sem.run_pure, Oper.upon]
    exact hQ undef .bad env' st' β' RO' w' (strS_gives h2) h3 (.bad _)
  · exact pure_wp hC h hW fun v x hK hv => hQ v x env st β RO w hK h hv

/-- The states in which a piece of code leaves. -/
def Post (E : Ent) (N : Nat) (Q : Exit → Env → St → Prop) : Exit → Act → World → Prop := fun e a w => ∃ env st β RO, Q e env st ∧ SR E N β RO env st a w

theorem opW_sound {o : Oper} {K' : LV → Env → St → Prop} {Q : Act → World → Prop} (h : SR E N β RO env st a w) (hW : opW C P o env st K')
    (hQ : ∀ v x env' st' β' RO' w', K' x env' st' → SR E N β' RO' env' st' a w' → VL β' RO' w' x v → Q (a.put o.dst v) w') : o.wp P a w Q fun _ _ _ => False := opWs_sound hC h hW hQ

theorem regGo_sound {ops : Array Oper} {Q : Env → St → Prop} {Q' : Exit → Act → World → Prop} (hd : dstOK N ops.toList = true) (hQ : ∀ env st β RO a w, Q env st → SR E N β RO env st a w → Q' .normal a w) :
    ∀ (l : List Oper) (k : Nat) (β : K → Nat) (RO : Nat → Prop) (env : Env) (st : St) (a : Act) (w : World), ops.toList.drop k = l → SR E N β RO env st a w → regGo C P ops.toList Q l env st → wpOps P ops Q' (List.range' k l.length) a w
  | [], k, β, RO, env, st, a, w, _, h, hW => hQ env st β RO a w hW h
  | o :: r, k, β, RO, env, st, a, w, hk, h, hW => by
    have hok : ops[k]? = some o := by
      have : (ops.toList.drop k)[0]? = some o := by rw [hk]; rfl
      rw [List.getElem?_drop, Nat.add_zero, Array.getElem?_toList] at this
      exact this
    have hdr : ops.toList.drop (k + 1) = r := by
      have := congrArg (List.drop 1) hk
      rw [List.drop_drop] at this
      simpa [Nat.add_comm] using this
    have hdo : ∀ d, o.dst = some d → d < N := dstOK_mem hd o (by
      have : o ∈ ops.toList.drop k := by rw [hk]; exact List.mem_cons_self ..
      exact List.mem_of_mem_drop this)
    simp only [List.length_cons, List.range'_succ, wpOps, hok]
    unfold regGo at hW
    split at hW
    · rename_i hg
      rw [gdE_wanted hd h hg, if_pos rfl]
      have hnx := opW_sound hC (Q := wpOps P ops Q' (List.range' (k + 1) r.length)) h hW fun v x env' st' β' RO' w' hK hs hv =>
        regGo_sound hd hQ r (k + 1) β' RO' _ st' _ w' hdr (hs.put hv hdo) (splW_gives hK)
      exact .inl (anyF_sound.wp_weaken (fun _ _ _ h => h.elim) hnx)
    · rename_i hg
      rw [gdE_wanted hd h hg, if_neg (by simp)]
      exact regGo_sound hd hQ r (k + 1) β RO _ st _ w hdr (h.put .skip hdo) hW
    · cases hW

theorem regW_sound {id : Nat} {ops : Array Oper} {Q : Env → St → Prop} {Q' : Exit → Act → World → Prop} (hd : dstOK N ops.toList = true) (hQ : ∀ env st β RO a w, Q env st → SR E N β RO env st a w → Q' .normal a w)
    (h : SR E N β RO env st a w) (hW : regW C P ops.toList env st Q) : (Code.region id ops false).wp P Q' a w := by
  refine wp_region ?_
  rw [List.range_eq_range', show ops.size = ops.toList.length by simp]
  exact regGo_sound hC hd hQ ops.toList 0 β RO env st a w rfl h hW

end
end Go.Fw

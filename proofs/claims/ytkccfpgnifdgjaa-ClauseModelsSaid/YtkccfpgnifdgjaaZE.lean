/- Texts that lead to the law, part 5. -/
import Derived.Test.YtkccfpgnifdgjaaZD

/- The value logic, part 17g: literals of rows of rows; a row of rows that grows by append. -/
namespace Go.Fw
open Go

/-- A literal of one row: a row of rows. -/
def litGW (C : Ctx) (env : Env) (st : St) (s t len : Nat) (parts : List (Nat × Operand)) (K' : LV → Env → St → Prop) : Prop :=
  match C.ty t with
  | some ⟨.slice e, _, _, _⟩ => match C.ty e with
    | some ⟨.slice e2, tsz, _, _⟩ => match C.ty e2 with
      | some te2 => match parts with
        | [(0, o)] => match Nat.beq len 1, Nat.beq tsz 1, freshB env st.cur s with
          | true, true, true => match opd env o with
            | .t (.sl true _ _) => K' (.osl (.cur s) 1 0 1) env { st with cur := (s, .grid e e2 te2.size [.nil]) :: st.cur }
            | .osl (.cur s2) szr 0 n => match look st.cur s2, Nat.beq szr te2.size, Nat.beq s2 s with
              | some (.row e3 szq es), true, false => match Nat.beq e3 e2, Nat.beq szq te2.size, noMit (.sub (.cur s) 0) st.cur with
                | true, true, true => n = es.length ∧ K' (.osl (.cur s) 1 0 1) (moveE (.cur s2) (.sub (.cur s) 0) env)
                    { st with cur := setCur (absorbC s s2 0 ((s, .grid e e2 te2.size [.out]) :: st.cur)) s (.grid e e2 te2.size [.row es]) }
                | _, _, _ => False
              | _, _, _ => False
            | _ => False
          | _, _, _ => False
        | _ => False
      | none => False
    | _ => False
  | _ => False

/-- A literal of one row is appended to a row of rows of our own, or to none. -/
def appGW (C : Ctx) (env : Env) (st : St) (s t : Nat) (x y : LV) (K' : LV → Env → St → Prop) : Prop :=
  match C.ty t with
  | some ⟨.slice e, _, _, _⟩ => match C.ty e with
    | some te => match y with
      | .osl (.cur h) 1 0 1 => match look st.cur h, Nat.beq te.size 1 with
        | some (.grid (.sl eo) e2 sz [r]), true => match Nat.beq eo e, freshB env st.cur (s + 1), Nat.beq (s + 1) h with
          | true, true, false => match x with
            | .osl (.cur g) 1 0 len => match look st.cur g, Nat.beq h g, Nat.beq (s + 1) g with
              | some (.grid (.sl eo') e2' sz' rs), false, false => match Nat.beq eo' e, Nat.beq e2' e2, Nat.beq sz' sz with
                | true, true, true => len = rs.length ∧ (rs.length + 1) * te.bytes ≤ 140737488355328 ∧ rs.length + 1 ≤ 140737488355328 ∧ match r with
                  | .nil => K' (.osl (.cur g) 1 0 (rs.length + 1)) (purgeE (.cur g) env) { st with cur := setCur (purgeC (.cur g) st.cur) g (.grid e e2 sz (rs ++ [.nil])) }
                  | .row es => match noMit (.sub (.cur g) rs.length) (setCur (purgeC (.cur g) ((s + 1, .row e2 sz es) :: setCur (purgeC (.sub (.cur h) 0) st.cur) h (.grid e e2 sz [.out]))) g (.grid e e2 sz (rs ++ [.out]))) with
                    | true => K' (.osl (.cur g) 1 0 (rs.length + 1)) (moveE (.cur (s + 1)) (.sub (.cur g) rs.length) (purgeE (.cur g) (moveE (.sub (.cur h) 0) (.cur (s + 1)) env)))
                      { st with cur := setCur (absorbC g (s + 1) rs.length (setCur (purgeC (.cur g) ((s + 1, .row e2 sz es) :: setCur (purgeC (.sub (.cur h) 0) st.cur) h (.grid e e2 sz [.out]))) g (.grid e e2 sz (rs ++ [.out])))) g (.grid e e2 sz (rs ++ [.row es])) }
                    | false => False
                  | .out => False
                | _, _, _ => False
              | _, _, _ => False
            | .t (.sl true _ _) => match freshB env st.cur s, Nat.beq s h with
              | true, false => te.bytes ≤ 140737488355328 ∧ match r with
                | .nil => K' (.osl (.cur s) 1 0 1) env { st with cur := (s, .grid e e2 sz [.nil]) :: st.cur }
                | .row es => match noMit (.sub (.cur s) 0) (setCur (purgeC (.sub (.cur h) 0) st.cur) h (.grid e e2 sz [.out])), freshB (moveE (.sub (.cur h) 0) (.cur (s + 1)) env) ((s + 1, .row e2 sz es) :: setCur (purgeC (.sub (.cur h) 0) st.cur) h (.grid e e2 sz [.out])) s with
                  | true, true => K' (.osl (.cur s) 1 0 1) (moveE (.cur (s + 1)) (.sub (.cur s) 0) (moveE (.sub (.cur h) 0) (.cur (s + 1)) env))
                    { st with cur := setCur (absorbC s (s + 1) 0 ((s, .grid e e2 sz [.out]) :: (s + 1, .row e2 sz es) :: setCur (purgeC (.sub (.cur h) 0) st.cur) h (.grid e e2 sz [.out]))) s (.grid e e2 sz [.row es]) }
                  | _, _ => False
                | .out => False
              | _, _ => False
            | _ => False
          | _, _, _ => False
        | _, _ => False
      | _ => False
    | none => False
  | _ => False

section
variable {C : Ctx} {P : Program} (hC : C.OK P) {E : Ent} {N : Nat} {β : K → Nat} {RO : Nat → Prop} {env : Env} {st : St} {a : Act} {w w' : World}

/-- A row of rows that is told with other rows of the same own rows. -/
theorem get_growGrid {s : Nat} {eo eo2 : GO} {e sz : Nat} {rs rs' : List GR} (h : look st.cur s = some (.grid eo e sz rs)) (hr : ∀ (i : Nat) (es : List (List T)), rs'[i]? = some (.row es) ↔ rs[i]? = some (.row es)) (k : K) :
    St.get { st with cur := setCur st.cur s (.grid eo2 e sz rs') } k = if k = .cur s then some (.grid eo2 e sz rs') else st.get k := by
  have hroot : ∀ k, k.root = true → St.get { st with cur := setCur st.cur s (.grid eo2 e sz rs') } k = if k = .cur s then some (.grid eo2 e sz rs') else st.get k := by
    intro k hk
    cases k with
    | cur n => simp only [St.get, look_setCur, K.cur.injEq, h, Option.map_some]
    | fr i n => simp [St.get]
    | sub => cases hk
  cases k with
  | cur n => exact hroot _ rfl
  | fr i n => exact hroot _ rfl
  | sub k i =>
    rw [if_neg (by simp)]
    cases hk : k.root with
    | false =>
      have no : ∀ S : St, S.get (.sub k i) = none := by
        intro S
        cases hg : S.get (.sub k i) with
        | none => rfl
        | some o => obtain ⟨_, _, _, _, _, hg, _⟩ := St.get_sub hg; rw [St.root_of_get_grid hg] at hk; cases hk
      rw [no, no]
    | true =>
      by_cases hks : k = .cur s
      · subst hks
        have e1 : St.get { st with cur := setCur st.cur s (.grid eo2 e sz rs') } (.cur s) = some (.grid eo2 e sz rs') := by rw [hroot _ rfl, if_pos rfl]
        have e2 : st.get (.cur s) = some (.grid eo e sz rs) := h
        simp only [St.get] at e1 e2 ⊢
        simp only [e1, e2]
        cases h1 : rs'[i]? with
        | none =>
          cases h2 : rs[i]? with
          | none => rfl
          | some r => cases r with
            | row es => have := (hr i es).2 h2; rw [h1] at this; cases this
            | _ => rfl
        | some r' => cases r' with
          | row es => rw [(hr i es).1 h1]
          | nil =>
            cases h2 : rs[i]? with
            | none => rfl
            | some r => cases r with
              | row es => have := (hr i es).2 h2; rw [h1] at this; cases this
              | _ => rfl
          | out =>
            cases h2 : rs[i]? with
            | none => rfl
            | some r => cases r with
              | row es => have := (hr i es).2 h2; rw [h1] at this; cases this
              | _ => rfl
      · have := hroot k hk
        rw [if_neg hks] at this
        simp only [St.get, this]

theorem grid_block {k : K} {eo e sz : Nat} {rs : List GR} (h : ObOK β RO w k (.grid eo e sz rs)) :
    ∃ us cap cur, w.heap[β k]? = some (.cells cur eo (0, 0)) ∧ rs.length ≤ cap ∧ cap ≤ maxLen ∧ cur.size = cap ∧ cur.toList.take rs.length = us ∧ us.length = rs.length ∧
      ∀ (i : Nat) (r : GR) (u : Value), rs[i]? = some r → us[i]? = some u → match r with
        | .nil => u = .slice none 0 0
        | .row es => VL β RO w (.osl (.sub k i) sz 0 es.length) u
        | .out => True := by
  obtain ⟨us, cap, hown, hf⟩ := h
  rcases hown.2 with ⟨h0, _⟩ | ⟨g, cap', cur, hv, _, hh, hnc, hcm, hcs, htk⟩
  · cases h0
  · cases hv
    rw [Nat.mul_one] at hcs htk
    exact ⟨us, cap, cur, hh, hnc, hcm, hcs, htk, by have := hown.1; omega, hf⟩

/-- The same memory: the rows of an object told otherwise. -/
theorem SR.retell (h : SR E N β RO env st a w) {s : Nat} {eo : GO} {e sz : Nat} {rs rs' : List GR} (hk : look st.cur s = some (.grid eo e sz rs)) (hr : ∀ (i : Nat) (es : List (List T)), rs'[i]? = some (.row es) ↔ rs[i]? = some (.row es))
    (hob : ObOK β RO w (.cur s) (.grid eo e sz rs')) : SR E N β RO env { st with cur := setCur st.cur s (.grid eo e sz rs') } a w := by
  have hg := fun k => get_growGrid (eo2 := eo) hk hr k
  have hsub : ∀ k o, St.get { st with cur := setCur st.cur s (.grid eo e sz rs') } k = some o → ∃ o0, st.get k = some o0 := fun k o ho => by
    rw [hg] at ho
    split at ho
    · rename_i he; subst he; exact ⟨_, hk⟩
    · exact ⟨o, ho⟩
  refine ⟨⟨h.wr.os, h.wr.tape, h.wr.output, h.wr.size, h.wr.keep, h.wr.roLt, h.wr.ro0, h.wr.roNew, fun k o ho => ?_, fun k o ho hc => ?_, fun k k' o o' h1 h2 hc hc' he => ?_, fun k o ho hc => ?_, fun k o ho hc => ?_, h.wr.stay⟩, h.size, h.defers, h.env⟩
  · rw [hg] at ho
    split at ho
    · rename_i he; subst he; cases ho; exact hob
    · exact h.wr.obj k o ho
  · obtain ⟨o0, h0⟩ := hsub k o ho; exact h.wr.objNew k o0 h0 hc
  · obtain ⟨p, hp⟩ := hsub k o h1
    obtain ⟨q, hq⟩ := hsub k' o' h2
    exact h.wr.inj k k' p q hp hq hc hc' he
  · obtain ⟨o0, h0⟩ := hsub k o ho; exact h.wr.sep k o0 h0 hc
  · obtain ⟨o0, h0⟩ := hsub k o ho; exact h.wr.fzRO k o0 h0 hc

theorem out_rows (rs : List GR) (i : Nat) (es : List (List T)) : (rs ++ [GR.out])[i]? = some (.row es) ↔ rs[i]? = some (.row es) := by
  rcases Nat.lt_trichotomy i rs.length with h | h | h
  · rw [List.getElem?_append_left h]
  · subst h; simp
  · rw [List.getElem?_eq_none (by simp; omega), List.getElem?_eq_none (by omega)]
theorem nil_rows (rs : List GR) (i : Nat) (es : List (List T)) : (rs ++ [GR.nil])[i]? = some (.row es) ↔ (rs ++ [GR.out])[i]? = some (.row es) := by
  rcases Nat.lt_trichotomy i rs.length with h | h | h
  · rw [List.getElem?_append_left h, List.getElem?_append_left h]
  · subst h; simp
  · rw [List.getElem?_eq_none (by simp; omega), List.getElem?_eq_none (by simp; omega)]

/-- The last row of an object is none. -/
theorem SR.tellNil (h : SR E N β RO env st a w) {s : Nat} {eo e sz : Nat} {rs : List GR} (hk : look st.cur s = some (.grid eo e sz (rs ++ [.out]))) (hcell : w.cell? ⟨β (.cur s), rs.length, none⟩ = some (.slice none 0 0)) :
    SR E N β RO env { st with cur := setCur st.cur s (.grid eo e sz (rs ++ [.nil])) } a w := by
  refine h.retell hk (fun i es => nil_rows rs i es) ?_
  obtain ⟨us, cap, hown, hf⟩ := h.wr.obj (.cur s) _ hk
  rcases hown.2 with ⟨h0, _⟩ | ⟨g, cap', cur, hv, _, hh, hnc, hcm, hcs, htk⟩
  · cases h0
  cases hv
  refine ⟨us, cap, by simpa using hown, fun i r u hi hu => ?_⟩
  rcases Nat.lt_trichotomy i rs.length with hlt | rfl | hgt
  · rw [List.getElem?_append_left hlt] at hi
    exact hf i r u (by rw [List.getElem?_append_left hlt]; exact hi) hu
  · simp at hi
    subst hi
    rw [← htk, List.getElem?_take] at hu
    rw [cell_of_row w _ _ cur eo (0, 0) hh] at hcell
    split at hu
    · rw [Array.getElem?_toList, hcell] at hu; cases hu; rfl
    · cases hu
  · rw [List.getElem?_eq_none (by simp; omega)] at hi; cases hi

include hC
/-- A row of our own whose header stands in the last place: it is the object's last row. -/
theorem SR.takeRow {s s2 : Nat} {eo e sz : Nat} {rs : List GR} {es : List (List T)} {v : Value} {ti : TI} (h : SR E N β RO env st a w) (hk : look st.cur s = some (.grid eo e sz (rs ++ [.out]))) (hne : s2 ≠ s)
    (hk2 : look st.cur s2 = some (.row e sz es)) (ht : C.ty eo = some ti) (hsz : ti.size = 1) (hmit : noMit (.sub (.cur s) rs.length) st.cur = true) (hx : VL β RO w (.osl (.cur s2) sz 0 es.length) v)
    (hcell : w.cell? ⟨β (.cur s), rs.length, none⟩ = some v) :
    SR E N (fun k => if k = .sub (.cur s) rs.length then β (.cur s2) else β k) RO (moveE (.cur s2) (.sub (.cur s) rs.length) env) { st with cur := setCur (absorbC s s2 rs.length st.cur) s (.grid eo e sz (rs ++ [.row es])) } a w := by
  obtain ⟨w', g1, g2⟩ := storeGrid hC h hk hne hk2 ht hsz rfl (i := rs.length) (by simp) hmit hx rfl
  have hset : (rs ++ [GR.out]).set rs.length (.row es) = rs ++ [.row es] := by
    rw [List.set_append_right _ _ (Nat.le_refl _)]; simp
  rw [hset] at g2
  have hvc : v.cells = #[v] := by cases hx; rfl
  obtain ⟨us, cap, cur, hh, hnc, hcm, hcs, htk, hul, hf⟩ := grid_block (h.wr.obj (.cur s) _ hk)
  rw [List.length_append, List.length_singleton] at hnc
  rw [cell_of_row w _ _ cur eo (0, 0) hh] at hcell
  have hrun := run_storeVar_at (c := rs.length) (v := v) hC ht hh (by rw [hvc, hsz]; rfl) (by rw [hvc]; simp; omega) (by rw [hvc]; simp; cases hx; rfl)
  rw [hvc] at hrun
  have hsame : (cur.toList.take rs.length ++ [v] ++ cur.toList.drop (rs.length + [v].length)).toArray = cur := by
    have hlt : rs.length < cur.toList.length := by simp; omega
    have hv : cur.toList[rs.length] = v := by
      have : cur.toList[rs.length]? = some v := by rw [Array.getElem?_toList]; exact hcell
      rw [List.getElem?_eq_getElem hlt] at this
      exact Option.some.inj this
    rw [List.append_assoc, ← hv, List.singleton_append, List.length_singleton, List.getElem_cons_drop hlt, List.take_append_drop, Array.toArray_toList]
  rw [show (#[v] : Array Value).toList = [v] from rfl, hsame, setRow_self w _ cur eo (0, 0) hh] at hrun
  rw [hrun] at g1
  cases g1
  exact g2
omit hC in
/-- There is room behind the last row: its header is written there. -/
theorem SR.spare (h : SR E N β RO env st a w) {s : Nat} {eo e sz : Nat} {rs : List GR} {cur : Array Value} (hk : look st.cur s = some (.grid eo e sz rs)) (hh : w.heap[β (.cur s)]? = some (.cells cur eo (0, 0))) (hlt : rs.length < cur.size) (v : Value) :
    SR E N β RO env { st with cur := setCur st.cur s (.grid eo e sz (rs ++ [.out])) } a (w.setRow (β (.cur s)) (cur.toList.take rs.length ++ [v] ++ cur.toList.drop (rs.length + 1)).toArray) := by
  have hkg : st.get (.cur s) = some (.grid eo e sz rs) := hk
  obtain ⟨us, cap, cur', hh', hnc, hcm', hcs, htk, hul, hf⟩ := grid_block (h.wr.obj (.cur s) _ hk)
  rw [hh] at hh'
  cases hh'
  have hsize : (cur.toList.take rs.length ++ [v] ++ cur.toList.drop (rs.length + 1)).toArray.size = cur.size := by
    simp only [List.size_toArray, List.length_append, List.length_take, List.length_drop, Array.length_toList, List.length_singleton]; omega
  have hsh := shape_setRow w (β (.cur s)) _ cur eo (0, 0) hh hsize
  have hro : ∀ b, b ≠ β (.cur s) → (w.setRow (β (.cur s)) (cur.toList.take rs.length ++ [v] ++ cur.toList.drop (rs.length + 1)).toArray).heap[b]? = w.heap[b]? := fun b hb => setRow_other w _ b _ hb
  have hob : ObOK β RO (w.setRow (β (.cur s)) (cur.toList.take rs.length ++ [v] ++ cur.toList.drop (rs.length + 1)).toArray) (.cur s) (.grid eo e sz (rs ++ [.out])) := by
    refine ⟨us ++ [v], cap, ⟨by simp [hul], .inr ⟨β (.cur s), cap, _, rfl, Nat.zero_le _, setRow_heap w _ _ _ _ _ hh, by rw [List.length_append, List.length_singleton]; omega, hcm', by rw [hsize, Nat.mul_one]; exact hcs, ?_⟩⟩, fun i r u hi hu => ?_⟩
    · rw [List.length_append, List.length_singleton, Nat.mul_one, ← htk]
      simp only []
      have hl : (cur.toList.take rs.length ++ [v]).length = rs.length + 1 := by simp; omega
      rw [← hl]; exact List.take_left
    · rcases Nat.lt_trichotomy i rs.length with hlt | rfl | hgt
      · rw [List.getElem?_append_left hlt] at hi
        rw [List.getElem?_append_left (by omega)] at hu
        have := hf i r u hi hu
        cases r with
        | nil => exact this
        | out => trivial
        | row es => exact VL.write (h.wr.sep _ _ hkg (can_cur s)) hro hsh this
      · simp at hi; subst hi; trivial
      · rw [List.getElem?_eq_none (by simp; omega)] at hi; cases hi
  refine ⟨h.wr.write (Step.setRow _ _ _) (by simp [World.setRow]) ⟨_, _, hkg, can_cur s, rfl⟩ hro (fun k' o2 hk' => ?_), h.size, h.defers, fun n x hx => ?_⟩
  · rw [get_growGrid hk (out_rows rs)] at hk'
    split at hk'
    · rename_i he
      subst he
      cases hk'
      exact ⟨⟨_, hkg⟩, hob⟩
    · rename_i hne
      exact ⟨⟨o2, hk'⟩, ObOK.other h.wr hkg ⟨_, _, _, hh⟩ hro hsh (can_cur s) hne hk'⟩
  · obtain ⟨u, h1, h2⟩ := h.env n x hx
    exact ⟨u, h1, VL.setRow h.wr hkg (can_cur s) rfl hh hsize h2⟩

omit hC in
/-- A row of rows moves to a greater block. -/
theorem SR.growG (h : SR E N β RO env st a w) {g : Nat} {eo e sz : Nat} {rs : List GR} {cur0 cur' : Array Value} {cap : Nat} (hk : look st.cur g = some (.grid eo e sz rs)) (hh0 : w.heap[β (.cur g)]? = some (.cells cur0 eo (0, 0))) (v : Value)
    (hcap : rs.length + 1 ≤ cap) (hcm : cap ≤ maxLen) (hcs : cur'.size = cap) (htk : cur'.toList.take (rs.length + 1) = cur0.toList.take rs.length ++ [v]) :
    SR E N (fun k => if k = .cur g then w.heap.size else β k) RO (purgeE (.cur g) env) { st with cur := setCur (purgeC (.cur g) st.cur) g (.grid eo e sz (rs ++ [.out])) } a (w.drew.alloc (.cells cur' eo)) ∧
      VL (fun k => if k = .cur g then w.heap.size else β k) RO (w.drew.alloc (.cells cur' eo)) (.osl (.cur g) 1 0 (rs.length + 1)) (.slice (some ⟨w.heap.size, 0, none⟩) (rs.length + 1) cap) ∧
      (w.drew.alloc (.cells cur' eo)).cell? ⟨w.heap.size, rs.length, none⟩ = some v := by
  obtain ⟨hp, hpg⟩ := h.purge g
  have hkp : look (purgeC (.cur g) st.cur) g = some (.grid eo e sz rs) := by rw [look_purgeC, hk]; rfl
  obtain ⟨us0, cap0, cur, hh, hnc, hcm0, hcs0, htk0, hul, hf⟩ := grid_block (h.wr.obj (.cur g) _ hk)
  rw [hh0] at hh
  cases hh
  have hh := hh0
  rw [htk0] at htk
  have hst : Step w (w.drew.alloc (.cells cur' eo)) := Step.drewAlloc w _
  have hob : ∀ b, b < w.heap.size → (w.drew.alloc (.cells cur' eo)).heap[b]? = w.heap[b]? := alloc_old w.drew _
  have hnew : (w.drew.alloc (.cells cur' eo)).heap[w.heap.size]? = some (.cells cur' eo (0, 0)) := alloc_new w.drew _
  have hgets : ∀ k, St.get { st with cur := setCur (purgeC (.cur g) st.cur) g (.grid eo e sz (rs ++ [.out])) } k = if k = .cur g then some (.grid eo e sz (rs ++ [.out])) else (st.purge (.cur g)).get k :=
    fun k => get_growGrid (st := st.purge (.cur g)) hkp (out_rows rs) k
  have hpw := hp.wr
  have hsubs : ∀ i, (K.sub (.cur g) i) ≠ .cur g := fun i e => by cases e
  have hplace := hpw.place (r := .cur g) (st' := { st with cur := setCur (purgeC (.cur g) st.cur) g (.grid eo e sz (rs ++ [.out])) }) (ob := .grid eo e sz (rs ++ [.out])) (w' := w.drew.alloc (.cells cur' eo)) rfl
    (fun k' cs hne hg => by
      rw [hgets, if_neg hne] at hg
      obtain ⟨o0, h1, ⟨h2, h3⟩ | h2⟩ := hpg k' _ hg
      · cases k' with
        | cur n => cases h3
        | fr i n => exact St.fr_has (o := .box cs) hg
        | sub k2 i => obtain ⟨_, _, _, _, _, _, _, h3⟩ := St.get_sub hg; cases h3
      · cases o0 <;> simp only [purgeO, Ob.box.injEq, reduceCtorEq] at h2
        rw [h2]; exact hasL_purge_no _ _)
    (fun k' m left hne hg he => by
      rw [hgets, if_neg hne] at hg
      obtain ⟨_, ents, clock, _, h2, _⟩ := hpw.obj k' _ hg
      rw [he, hh] at h2; cases h2)
    hst (by rw [alloc_size]; show w.heap.size < w.heap.size + 1; omega) hob
    (fun k' o hne hg => by rw [hgets, if_neg hne] at hg; exact hg) (fun o hg => by rw [hgets, if_pos rfl] at hg; exact (Option.some.inj hg).symm)
    (by
      refine ⟨us0 ++ [v], cap, ⟨by simp [hul], .inr ⟨w.heap.size, cap, cur', by simp only [if_true], Nat.zero_le _, hnew, by rw [List.length_append, List.length_singleton]; exact hcap, hcm, by rw [Nat.mul_one]; exact hcs, by rw [List.length_append, List.length_singleton, Nat.mul_one]; exact htk⟩⟩, fun i r u hi hu => ?_⟩
      rcases Nat.lt_trichotomy i rs.length with hlt | rfl | hgt
      · rw [List.getElem?_append_left hlt] at hi
        rw [List.getElem?_append_left (by omega)] at hu
        have := hf i r u hi hu
        cases r with
        | nil => exact this
        | out => trivial
        | row es =>
          simp only at this ⊢
          cases this with
          | osl _ _ _ _ cap' e' n' a1 b1 c1 d1 =>
          have := VL.osl (β := fun k => if k = .cur g then w.heap.size else β k) (RO := RO) (w := w.drew.alloc (.cells cur' eo)) (.sub (.cur g) i) sz 0 es.length cap' e' n' a1
            (by rw [if_neg (hsubs i)]; rw [shape_of_block (hob _ (lt_of_shape b1))]; exact b1) c1 d1
          rw [if_neg (hsubs i)] at this
          exact this
      · simp at hi; subst hi; trivial
      · rw [List.getElem?_eq_none (by simp; omega)] at hi; cases hi) (fun h => by cases h) (can_cur g)
  refine ⟨⟨hplace, h.size, h.defers, fun n x hx => ?_⟩, ?_, ?_⟩
  · rw [look_purgeE] at hx
    cases hy : look env n with
    | none => simp [hy] at hx
    | some y =>
      simp [hy] at hx
      obtain ⟨u, h1, h2⟩ := h.env n y hy
      refine ⟨u, h1, ?_⟩
      rw [← hx]
      exact h2.purge.upd (k0 := .cur g) (fun k' hk' => if_neg fun e => by subst e; rw [K.under_self] at hk'; cases hk') (fun _ h => h) h.wr.roLt (fun b hb' _ => hob b hb') (purgeV_no (.cur g) y)
  · have := VL.osl (β := fun k' => if k' = .cur g then w.heap.size else β k') (RO := RO) (w := w.drew.alloc (.cells cur' eo)) (.cur g) 1 0 (rs.length + 1) cap eo cap hcap
      (by simp only [if_true, World.shape?]; rw [hnew]; simp [hcs]) (by omega) (by omega)
    simpa using this
  · rw [cell_of_row _ _ _ cur' eo (0, 0) hnew]
    have h1 : (cur'.toList.take (rs.length + 1))[rs.length]? = some v := by
      rw [htk, List.getElem?_append_right (by omega), hul]; simp
    rw [List.getElem?_take, if_pos (by omega), Array.getElem?_toList] at h1
    exact h1

omit hC in
theorem setCur_twice (n : Nat) (o o' : Ob) : ∀ c : Fr, setCur (setCur c n o) n o' = setCur c n o'
  | [] => rfl
  | (m, x) :: r => by
    simp only [setCur]
    cases hb : Nat.beq m n with
    | true => simp only [setCur, hb]
    | false => simp only [setCur, hb, setCur_twice n o o' r]

omit hC in
/-- A new row of rows of one row. -/
theorem SR.newGrid (h : SR E N β RO env st a w) {s eo e sz : Nat} {r : GR} {cs : Array Value} {cap : Nat} {v : Value} (hf : freshB env st.cur s = true) (hst : Step w w') (hsz : w.heap.size < w'.heap.size)
    (hb : ∀ b, b < w.heap.size → w'.heap[b]? = w.heap[b]?) (hnew : w'.heap[w.heap.size]? = some (.cells cs eo (0, 0))) (hcs : cs.size = cap) (h1 : 1 ≤ cap) (hcm : cap ≤ maxLen) (hv : cs[0]? = some v)
    (hr : r = .out ∨ (r = .nil ∧ v = .slice none 0 0)) :
    SR E N (fun k => if k = .cur s then w.heap.size else β k) RO env { st with cur := (s, .grid eo e sz [r]) :: st.cur } a w' ∧
      VL (fun k => if k = .cur s then w.heap.size else β k) RO w' (.osl (.cur s) 1 0 1) (.slice (some ⟨w.heap.size, 0, none⟩) 1 cap) ∧ w'.cell? ⟨w.heap.size, 0, none⟩ = some v := by
  obtain ⟨g1, g2⟩ := h.fresh hf
  refine ⟨h.alloc g1 g2 hst hsz hb ?_ ⟨[v], cap, ⟨rfl, .inr ⟨w.heap.size, cap, cs, by simp only [if_true, List.length_singleton], Nat.zero_le _, hnew, h1, hcm, by rw [Nat.mul_one]; exact hcs, ?_⟩⟩, fun i r' u hi hu => ?_⟩, ?_, ?_⟩
  · intro i o ho
    obtain ⟨_, _, _, rs, es, hg, hi, _⟩ := St.get_sub ho
    simp only [St.get, look_cons, if_true] at hg
    cases hg
    cases i with
    | zero => simp at hi; subst hi; rcases hr with h | ⟨h, _⟩ <;> cases h
    | succ i => simp at hi
  · have : cs.toList[0]? = some v := by rw [Array.getElem?_toList]; exact hv
    cases hl : cs.toList with
    | nil => rw [hl] at this; cases this
    | cons x l => rw [hl] at this; cases this; rfl
  · cases i with
    | zero =>
      simp at hi hu
      subst hi hu
      rcases hr with rfl | ⟨rfl, rfl⟩
      · trivial
      · rfl
    | succ i => simp at hi
  · have := VL.osl (β := fun k => if k = .cur s then w.heap.size else β k) (RO := RO) (w := w') (.cur s) 1 0 1 cap eo cap h1
      (by simp only [if_true, World.shape?, hnew, hcs]) (by omega) (by omega)
    simpa using this
  · rw [cell_of_row _ _ _ cs eo (0, 0) hnew]; exact hv

theorem run_lit1 {t e : Nat} {te : TI} {v : Value} (hu : P.underlying t = some (.slice e)) (hte : C.ty e = some te) (hsz : te.size = 1) (hv : v.cells = #[v]) :
    (Instr.buildSlice t 1 #[(0, v)]).run P w = .ok (.slice (some ⟨w.heap.size, 0, none⟩) 1 1) (w.alloc (.cells #[v] e)) := by
  obtain ⟨j, zz, hj, hjs, _, hz, hzc⟩ := (hC.ty hte).info
  have hone := (hC.ty hte).one
  simp only [Bool.and_eq_true, List.all_eq_true, Nat.beq_eq] at hone
  have hzl : te.zero.length = 1 := by rw [← hsz]; simpa using hone.2
  have hzc' : zz.cells = te.zero.toArray := by rw [← Array.toList_inj]; simpa using hzc
  obtain ⟨z, hz1⟩ : ∃ z, te.zero = [z] := by
    cases h : te.zero with
    | nil => rw [h] at hzl; cases hzl
    | cons z l => cases l with
      | nil => exact ⟨z, rfl⟩
      | cons y l => rw [h] at hzl; simp at hzl
  rw [hz1] at hzc'
  simp only [Instr.buildSlice, Sem.run_bind, run_underlying hu, Result.andThen_ok, run_sizeOf hC hte, hsz]
  rw [Sem.run_ite, if_neg (by omega), Sem.run_ite, if_neg (by omega)]
  simp only [Sem.run_bind, Sem.run_pure, Result.andThen_ok, zeroValue, typeInfo, run_program, hj, hz, hzc', Instr.fill, hv]
  simp [newRow]
  rw [show Array.range 1 = #[0] from rfl]
  simp

theorem litGW_gives (h : SR E N β RO env st a w) {s t len : Nat} {parts : List (Nat × Operand)} {K' : LV → Env → St → Prop} (hW : litGW C env st s t len parts K') :
    Gives P E N a w (Instr.buildSlice t len (parts.toArray.map fun p => (p.1, a.eval p.2))) K' := by
  unfold litGW at hW
  split at hW
  rotate_left
  · cases hW
  rename_i e s0 b0 z0 ht
  have hu := run_slice_ty hC ht
  split at hW
  rotate_left
  · cases hW
  rename_i e2 tsz tb tz hte
  split at hW
  rotate_left
  · cases hW
  rename_i te2 hte2
  split at hW
  rotate_left
  · cases hW
  rename_i o
  split at hW
  rotate_left
  · cases hW
  rename_i hlen htsz hfr
  have hlen := Nat.eq_of_beq_eq_true hlen
  have htsz := Nat.eq_of_beq_eq_true htsz
  subst hlen
  subst htsz
  have hopd := h.opd o
  have hno := opd_no (h.fresh hfr).2 o
  have harr : (([(0, o)] : List (Nat × Operand)).toArray.map fun p => (p.1, a.eval p.2)) = #[(0, a.eval o)] := by simp
  rw [harr]
  split at hW
  · rename_i szz ess ho
    rw [ho] at hopd
    generalize a.eval o = u at hopd ⊢
    cases hopd with
    | t _ _ hx =>
    cases hx
    have hrun := run_lit1 (w := w) hC hu hte rfl (v := .slice none 0 0) rfl
    obtain ⟨g1, g2, _⟩ := h.newGrid (s := s) (eo := e) (e := e2) (sz := te2.size) (r := .nil) (cap := 1) (v := .slice none 0 0) (w' := w.alloc (.cells #[.slice none 0 0] e)) hfr (Step.alloc w _) (by rw [alloc_size]; omega) (alloc_old _ _) (alloc_new _ _) rfl (Nat.le_refl 1) (by unfold maxLen; omega) rfl (.inr ⟨rfl, rfl⟩)
    exact ⟨_, _, _, _, _, _, _, hrun, hW, g1, g2⟩
  · rename_i s2 szr n ho
    rw [ho] at hopd hno
    split at hW
    rotate_left
    · cases hW
    rename_i e3 szq es hk2 hszr hne
    have hszr := Nat.eq_of_beq_eq_true hszr
    have hne := Nat.ne_of_beq_eq_false hne
    subst hszr
    split at hW
    rotate_left
    · cases hW
    rename_i he3 hszq hmit
    have he3 := Nat.eq_of_beq_eq_true he3
    have hszq := Nat.eq_of_beq_eq_true hszq
    subst he3
    subst hszq
    obtain ⟨rfl, hW⟩ := hW
    have hvc : (a.eval o).cells = #[a.eval o] := by generalize a.eval o = u at hopd; cases hopd; rfl
    have hrun := run_lit1 (w := w) hC hu hte rfl hvc
    obtain ⟨g1, g2, g3⟩ := h.newGrid (s := s) (eo := e) (e := e3) (sz := te2.size) (r := .out) (cap := 1) (v := a.eval o) (w' := w.alloc (.cells #[a.eval o] e)) hfr (Step.alloc w _) (by rw [alloc_size]; omega) (alloc_old _ _) (alloc_new _ _) rfl (Nat.le_refl 1) (by unfold maxLen; omega) rfl (.inl rfl)
    have hx2 := hopd.upd (k0 := .cur s) (β' := fun k => if k = .cur s then w.heap.size else β k) (RO' := RO) (w' := w.alloc (.cells #[a.eval o] e)) (fun k hk => if_neg fun e => by subst e; rw [K.under_self] at hk; cases hk) (fun _ h => h) h.wr.roLt (fun b hb' _ => alloc_old _ _ b hb') hno
    have g4 := g1.takeRow hC (s := s) (s2 := s2) (eo := e) (e := e3) (sz := te2.size) (rs := []) (es := es) (v := a.eval o) (by simp only [look_cons, if_true, List.nil_append]) hne (by rw [look_cons, if_neg (Ne.symm hne)]; exact hk2) hte rfl hmit hx2 (by simp only [if_true]; exact g3)
    exact ⟨_, _, _, _, _, _, _, hrun, hW, g4, g2.no rfl⟩
  · cases hW

/-- The header of a row is appended to a row of rows of our own. -/
theorem appG_run {g t ty e e2 sz : Nat} {rs : List GR} {te : TI} {vx v : Value} {ad : Addr} {c : Nat} (h : SR E N β RO env st a w) (hk : look st.cur g = some (.grid e e2 sz rs)) (hu : P.underlying t = some (.slice e)) (hte : C.ty e = some te) (hsz : te.size = 1)
    (hx : VL β RO w (.osl (.cur g) 1 0 rs.length) vx) (hv1 : v.oneCell' = true) (hcell : w.cell? ad = some v) (hb : (rs.length + 1) * te.bytes ≤ 140737488355328) (hm : rs.length + 1 ≤ 140737488355328) :
    ∃ w1 β1 u, (Builtin.append_ #[t, t] ty #[vx, .slice (some ad) 1 c]).run P w = .ok u w1 ∧
      SR E N β1 RO (purgeE (.cur g) env) { st with cur := setCur (purgeC (.cur g) st.cur) g (.grid e e2 sz (rs ++ [.out])) } a w1 ∧ VL β1 RO w1 (.osl (.cur g) 1 0 (rs.length + 1)) u ∧
      w1.cell? ⟨β1 (.cur g), rs.length, none⟩ = some v ∧ (∀ x u, LV.has (.cur g) x = false → VL β RO w x u → VL β1 RO w1 x u) := by
  obtain ⟨j, zz, hj, hjs, hjb, hz, hzc⟩ := (hC.ty hte).info
  have hone := (hC.ty hte).one
  simp only [Bool.and_eq_true, Nat.beq_eq] at hone
  have hzl : zz.cells.size = 1 := by
    have : zz.cells.toList.length = te.size := by rw [hzc]; simpa using hone.2
    rw [← hsz]; simpa using this
  rw [hsz] at hjs
  obtain ⟨us, cap, cur, hh, hnc, hcm, hcs, htk, hul, hf⟩ := grid_block (h.wr.obj (.cur g) _ hk)
  have hkg : st.get (.cur g) = some (.grid e e2 sz rs) := hk
  obtain ⟨hp, _⟩ := h.purge g
  have hkp : look (purgeC (.cur g) st.cur) g = some (.grid e e2 sz rs) := by rw [look_purgeC, hk]; rfl
  cases hx with
  | osl _ _ _ _ cap' e' n hle hs hn hmm =>
  have hcap : cap' = cap := by
    have : w.shape? (β (.cur g)) = some (e, cur.size) := by simp only [World.shape?, hh]
    rw [this] at hs
    have e1 : cur.size = (0 + cap') * 1 := by cases hs; exact hn
    omega
  subst hcap
  have hnews : ∀ (j : Nat) (u : Value), [v][j]? = some u → w.cell? (ad.add j) = some u := fun j u hu => by
    cases j with
    | zero => simp at hu; subst hu; obtain ⟨b, o, tr⟩ := ad; exact hcell
    | succ j => simp at hu
  have h1 : ∀ u ∈ [v], u.oneCell' = true := fun u hu => by rw [List.mem_singleton.1 hu]; exact hv1
  by_cases hroom : rs.length + 1 ≤ cap'
  · have hrun := run_append_room (P := P) (ty := ty) w t e j hu hj (β (.cur g)) rs.length cap' cur hh ad 1 c [v] (by rw [hjs]; rfl) hnews h1 hroom (by rw [hjs]; simp; omega)
    rw [hjs, Nat.mul_one] at hrun
    have hsr := hp.spare (s := g) (rs := rs) hkp hh (by omega) v
    have hsize : (cur.toList.take rs.length ++ [v] ++ cur.toList.drop (rs.length + 1)).toArray.size = cur.size := by
      simp only [List.size_toArray, List.length_append, List.length_take, List.length_drop, Array.length_toList, List.length_singleton]; omega
    have hheap := setRow_heap w (β (.cur g)) cur (cur.toList.take rs.length ++ [v] ++ cur.toList.drop (rs.length + 1)).toArray e (0, 0) hh
    refine ⟨_, β, _, by rw [Nat.zero_mul]; exact hrun, hsr, ?_, ?_, fun x u _ hxu => VL.setRow h.wr hkg (can_cur g) rfl hh hsize hxu⟩
    · have := VL.osl (β := β) (RO := RO) (w := w.setRow (β (.cur g)) (cur.toList.take rs.length ++ [v] ++ cur.toList.drop (rs.length + 1)).toArray) (.cur g) 1 0 (rs.length + 1) cap' e cap' hroom
        (by simp only [World.shape?, hheap, hsize, hcs]) (by omega) (by omega)
      simpa using this
    · rw [cell_of_row _ _ _ _ e (0, 0) hheap]
      have hl : (cur.toList.take rs.length).length = rs.length := by simp; omega
      rw [List.getElem?_toArray, List.append_assoc, List.getElem?_append_right (by omega), hl, Nat.sub_self]; rfl
  · have hfull : rs.length = cap' := by omega
    have holds : ∀ (q : Nat) (u : Value), us[q]? = some u → w.cell? ((⟨β (.cur g), 0, none⟩ : Addr).add q) = some u := by
      intro q u hq
      rw [addr_add, Nat.zero_add, cell_of_row w _ q cur e (0, 0) hh]
      rw [← htk, List.getElem?_take] at hq
      split at hq
      · simpa using hq
      · cases hq
    have hrun := run_append_grow (P := P) (ty := ty) w t e j zz hu hj hz ⟨β (.cur g), 0, none⟩ rs.length cap' us (by rw [hjs]; omega) holds ad 1 c [v] (by rw [hjs]; rfl) hnews (by omega) (by omega)
      (growslice_fits (by omega) (by rw [hjb]; exact hb))
    have hge := grownCap_ge w (rs.length + 1) cap' e
    have hgm := grownCap_le_maxLen w (rs.length + 1) cap' e (by unfold maxLen; omega)
    have hgc := grown_cells (us := us) (news := [v]) (z := zz.cells) (sz := 1) hge (by rw [List.length_append, hul]; simp) hzl
    rw [Nat.mul_one, Nat.mul_one] at hgc
    obtain ⟨g1, g2, g3⟩ := h.growG (g := g) (rs := rs) (cur' := us.toArray ++ [v].toArray ++ Builtin.zeroCells zz.cells (grownCap w (rs.length + 1) cap' e - (rs.length + 1))) hk hh v hge hgm hgc.1 (by rw [hgc.2, htk])
    refine ⟨_, _, _, by rw [Nat.zero_mul]; exact hrun, g1, g2, by simp only [if_true]; exact g3, fun x u hno hxu => ?_⟩
    exact hxu.upd (k0 := .cur g) (fun k' hk' => if_neg fun e => by subst e; rw [K.under_self] at hk'; cases hk') (fun _ h => h) h.wr.roLt (fun b hb' _ => alloc_old w.drew _ b hb') hno

theorem appGW_gives (h : SR E N β RO env st a w) {s t ty : Nat} {x y : LV} {vx vy : Value} {K' : LV → Env → St → Prop} (hx : VL β RO w x vx) (hy : VL β RO w y vy) (hW : appGW C env st s t x y K') :
    Gives P E N a w (Builtin.append_ #[t, t] ty #[vx, vy]) K' := by
  unfold appGW at hW
  split at hW
  rotate_left
  · cases hW
  rename_i e s0 b0 z0 ht
  have hu := run_slice_ty hC ht
  split at hW
  rotate_left
  · cases hW
  rename_i te hte
  obtain ⟨j, zz, hj, hjs, hjb, hz, hzc⟩ := (hC.ty hte).info
  split at hW
  rotate_left
  · cases hW
  rename_i q
  split at hW
  rotate_left
  · cases hW
  rename_i eo e2 sz r hkq hsz
  have hsz := Nat.eq_of_beq_eq_true hsz
  split at hW
  rotate_left
  · cases hW
  rename_i heo hfr hsq
  have heo := Nat.eq_of_beq_eq_true heo
  have hsq := Nat.ne_of_beq_eq_false hsq
  subst heo
  obtain ⟨us, cap, cur, hh, hnc, hcm, hcs, htk, hul, hf⟩ := grid_block (h.wr.obj (.cur q) _ hkq)
  obtain ⟨v, rfl⟩ : ∃ v, us = [v] := by
    cases us with
    | nil => cases hul
    | cons v l => cases l with
      | nil => exact ⟨v, rfl⟩
      | cons y l => simp at hul
  have hrv := hf 0 r v rfl rfl
  have hc0 : cur[0]? = some v := by
    have h1 : (cur.toList.take 1)[0]? = some v := by
      have : cur.toList.take 1 = [v] := htk
      rw [this]; rfl
    rw [List.getElem?_take, if_pos (by omega), Array.getElem?_toList] at h1
    exact h1
  have hcell : w.cell? ⟨β (.cur q), 0, none⟩ = some v := by rw [cell_of_row w _ _ cur eo (0, 0) hh]; exact hc0
  cases hy with
  | osl _ _ _ _ cy ey ny hly hsy hny hmy =>
  rw [Nat.zero_mul]
  split at hW
  · rename_i g len
    split at hW
    rotate_left
    · cases hW
    rename_i eo' e2' sz' rs hkg hqg hsg
    have hqg := Nat.ne_of_beq_eq_false hqg
    have hsg := Nat.ne_of_beq_eq_false hsg
    split at hW
    rotate_left
    · cases hW
    rename_i h1 h2 h3
    have h1 := Nat.eq_of_beq_eq_true h1
    have h2 := Nat.eq_of_beq_eq_true h2
    have h3 := Nat.eq_of_beq_eq_true h3
    subst h1; subst h2; subst h3
    obtain ⟨rfl, hb, hm, hW⟩ := hW
    split at hW
    · have hrv : v = .slice none 0 0 := hrv
      subst hrv
      obtain ⟨w1, β1, u, g1, g2, g3, g4, _⟩ := appG_run (ty := ty) (c := cy) hC h hkg hu hte hsz hx rfl hcell hb hm
      have g5 := g2.tellNil (s := g) (rs := rs) (by rw [look_setCur, if_pos rfl, look_purgeC, hkg]; rfl) g4
      rw [setCur_twice] at g5
      exact ⟨_, _, _, _, _, _, _, g1, hW, g5, g3⟩
    · rename_i es
      split at hW
      rotate_left
      · cases hW
      rename_i hmit
      have hrv : VL β RO w (.osl (.sub (.cur q) 0) sz' 0 es.length) v := hrv
      have hv1 : v.oneCell' = true := by cases hrv; rfl
      have hd := h.detachM (i := 0) hkq rfl hfr hsq
      have hx2 : VL (fun k => if k = .cur (s + 1) then β (.sub (.cur q) 0) else β k) RO w (.osl (.cur g) 1 0 rs.length) vx := hx.no (by simp only [LV.has, K.under, K.beq]; rw [Bool.eq_false_iff]; intro hb; exact hsg (Nat.eq_of_beq_eq_true hb))
      have hkg2 : look ((s + 1, Ob.row e2' sz' es) :: setCur (purgeC (.sub (.cur q) 0) st.cur) q (.grid eo' e2' sz' ([GR.row es].set 0 .out))) g = some (.grid eo' e2' sz' rs) := by
        rw [look_cons, if_neg hsg, look_setCur, if_neg (Ne.symm hqg), look_purgeC, hkg]; rfl
      obtain ⟨w1, β1, u, g1, g2, g3, g4, g5⟩ := appG_run (ty := ty) (c := cy) hC hd hkg2 hu hte hsz hx2 hv1 hcell hb hm
      have hrow : VL (fun k => if k = .cur (s + 1) then β (.sub (.cur q) 0) else β k) RO w (.osl (.cur (s + 1)) sz' 0 es.length) v := by
        cases hrv with
        | osl _ _ _ _ c1 e1 n1 a1 b1 c2 d1 =>
          have := VL.osl (β := fun k => if k = .cur (s + 1) then β (.sub (.cur q) 0) else β k) (RO := RO) (w := w) (.cur (s + 1)) sz' 0 es.length c1 e1 n1 a1 (by simp only [if_true]; exact b1) c2 d1
          simpa using this
      have hrow1 := g5 _ _ (by simp only [LV.has, K.under, K.beq]; rw [Bool.eq_false_iff]; intro hb; exact hsg (Nat.eq_of_beq_eq_true hb).symm) hrow
      have g6 := g2.takeRow hC (s := g) (s2 := s + 1) (rs := rs) (es := es) (v := v) (by simp only []; rw [look_setCur, if_pos rfl, look_purgeC, hkg2]; rfl) hsg (by simp only []; rw [look_setCur, if_neg hsg, look_purgeC, look_cons, if_pos rfl]; rfl) hte hsz hmit hrow1 g4
      exact ⟨_, _, _, _, _, _, _, g1, hW, g6, g3.no rfl⟩
    · cases hW
  · rename_i szz ess
    cases hx with
    | t _ _ hx =>
    cases hx
    split at hW
    rotate_left
    · cases hW
    rename_i hfs hsq2
    obtain ⟨hb, hW⟩ := hW
    have hnews : ∀ (j : Nat) (u : Value), [v][j]? = some u → w.cell? ((⟨β (.cur q), 0, none⟩ : Addr).add j) = some u := fun j u hu => by
      cases j with
      | zero => simp at hu; subst hu; exact hcell
      | succ j => simp at hu
    have hone := (hC.ty hte).one
    simp only [Bool.and_eq_true, Nat.beq_eq] at hone
    have hzl : zz.cells.size = 1 := by
      have : zz.cells.toList.length = te.size := by rw [hzc]; simpa using hone.2
      rw [← hsz]; simpa using this
    rw [hsz] at hjs
    have hrun := run_append_nil (P := P) (ty := ty) w t eo j zz hu hj hz ⟨β (.cur q), 0, none⟩ 1 cy [v] (by rw [hjs]; rfl) hnews (by omega) (by omega) (by rw [hjb]; omega)
    have hge := grownCap_ge w 1 0 eo
    have hgm := grownCap_le_maxLen w 1 0 eo (by unfold maxLen; omega)
    have hgc := grown_cells (us := []) (news := [v]) (z := zz.cells) (sz := 1) hge (by simp) hzl
    simp only [Array.empty_append, List.nil_append, Nat.mul_one] at hgc
    have hc1 : ([v].toArray ++ Builtin.zeroCells zz.cells (grownCap w 1 0 eo - 1))[0]? = some v := by
      have h1 : (([v].toArray ++ Builtin.zeroCells zz.cells (grownCap w 1 0 eo - 1)).toList.take 1)[0]? = some v := by rw [hgc.2]; rfl
      rw [List.getElem?_take, if_pos (by omega), Array.getElem?_toList] at h1
      exact h1
    split at hW
    · have hrv : v = .slice none 0 0 := hrv
      subst hrv
      obtain ⟨g1, g2, _⟩ := h.newGrid (s := s) (eo := eo) (e := e2) (sz := sz) (r := .nil) (w' := w.drew.alloc (.cells ([Value.slice none 0 0].toArray ++ Builtin.zeroCells zz.cells (grownCap w 1 0 eo - 1)) eo)) hfs (Step.drewAlloc w _) (by rw [alloc_size]; show w.heap.size < w.heap.size + 1; omega) (alloc_old w.drew _) (alloc_new w.drew _) hgc.1 hge hgm hc1 (.inr ⟨rfl, rfl⟩)
      exact ⟨_, _, _, _, _, _, _, hrun, hW, g1, g2⟩
    · rename_i es
      split at hW
      rotate_left
      · cases hW
      rename_i hmit hfs2
      have hrv : VL β RO w (.osl (.sub (.cur q) 0) sz 0 es.length) v := hrv
      have hd := h.detachM (i := 0) hkq rfl hfr hsq
      have hrow : VL (fun k => if k = .cur (s + 1) then β (.sub (.cur q) 0) else β k) RO w (.osl (.cur (s + 1)) sz 0 es.length) v := by
        cases hrv with
        | osl _ _ _ _ c1 e1 n1 a1 b1 c2 d1 =>
          have := VL.osl (β := fun k => if k = .cur (s + 1) then β (.sub (.cur q) 0) else β k) (RO := RO) (w := w) (.cur (s + 1)) sz 0 es.length c1 e1 n1 a1 (by simp only [if_true]; exact b1) c2 d1
          simpa using this
      obtain ⟨g1, g2, g3⟩ := hd.newGrid (s := s) (eo := eo) (e := e2) (sz := sz) (r := .out) (v := v) (w' := w.drew.alloc (.cells ([v].toArray ++ Builtin.zeroCells zz.cells (grownCap w 1 0 eo - 1)) eo)) hfs2 (Step.drewAlloc w _) (by rw [alloc_size]; show w.heap.size < w.heap.size + 1; omega) (alloc_old w.drew _) (alloc_new w.drew _) hgc.1 hge hgm hc1 (.inl rfl)
      have hno : LV.has (.cur s) (.osl (.cur (s + 1)) sz 0 es.length) = false := by
        simp only [LV.has, K.under, K.beq]; rw [Bool.eq_false_iff]; intro hb; have := Nat.eq_of_beq_eq_true hb; omega
      have hrow1 := hrow.upd (k0 := .cur s) (β' := fun k => if k = .cur s then w.heap.size else (fun k => if k = .cur (s + 1) then β (.sub (.cur q) 0) else β k) k) (RO' := RO) (w' := w.drew.alloc (.cells ([v].toArray ++ Builtin.zeroCells zz.cells (grownCap w 1 0 eo - 1)) eo)) (fun k hk => if_neg fun e => by subst e; rw [K.under_self] at hk; cases hk) (fun _ h => h) h.wr.roLt (fun b hb' _ => alloc_old w.drew _ b hb') hno
      have g6 := g1.takeRow hC (s := s) (s2 := s + 1) (eo := eo) (e := e2) (sz := sz) (rs := []) (es := es) (v := v) (by simp only [look_cons, if_true, List.nil_append]) (by omega) (by rw [look_cons, if_neg (by omega), look_cons, if_pos rfl]) hte hsz hmit hrow1 (by simp only [if_true]; exact g3)
      exact ⟨_, _, _, _, _, _, _, hrun, hW, g6, g2.no rfl⟩
    · cases hW
  · cases hW
end
end Go.Fw

/- The value logic, part 17n: maps of rows are made and written. -/
namespace Go.Fw
open Go

/-- No walk through a map under this name. -/
def noMitU (s : Nat) : Fr → Bool
  | [] => true
  | (_, .mit m _) :: r => match K.under (.cur s) m with
    | true => false
    | false => noMitU s r
  | _ :: r => noMitU s r

def mapMakeGW (C : Ctx) (env : Env) (st : St) (s t : Nat) (K' : LV → Env → St → Prop) : Prop :=
  match C.ty t with
  | some ⟨.map kt et, _, _, _⟩ => match C.ty kt, C.ty et with
    | some tk, some ⟨.slice e, _, _, _⟩ => match C.ty e, freshB env st.cur s with
      | some te, true => K' (.mpr (.cur s)) env { st with cur := (s, .grid (.mp tk.d []) e te.size []) :: st.cur }
      | _, _ => False
    | _, _ => False
  | _ => False

/-- What is known of slots when a row gets a place of a row of rows. -/
def absW (C : Ctx) (env : Env) (s s2 i : Nat) (F : Env → Prop) : Prop := match C.exa with
  | false => F (purgeE (.sub (.cur s) i) (purgeE (.cur s2) env))
  | true => ∃ ks : List Nat, (∀ n ∈ ks, ∀ x, look env n = some x → x.has (.sub (.cur s) i) = false) ∧ F (purgeK (.sub (.cur s) i) ks (purgeE (.cur s2) env))
theorem absW_inv {C : Ctx} {env : Env} {s s2 i : Nat} {F : Env → Prop} (h : absW C env s s2 i F) :
    ∃ env2, F env2 ∧ ∀ n x, look env2 n = some x → ∃ y, look env n = some y ∧ (x = y ∨ x = .bad) ∧ x.has (.sub (.cur s) i) = false := by
  have pv : ∀ (k : K) (x : LV), purgeV k x = x ∨ purgeV k x = .bad := fun k x => by
    unfold purgeV
    split
    · exact .inr rfl
    · exact .inl rfl
  unfold absW at h
  split at h
  · refine ⟨_, h, fun n x hx => ?_⟩
    rw [look_purgeE, look_purgeE] at hx
    cases hy : look env n with
    | none => simp [hy] at hx
    | some y =>
      simp [hy] at hx
      refine ⟨y, rfl, ?_, by rw [← hx]; exact purgeV_no _ _⟩
      rcases pv (.cur s2) y with h1 | h1
      · rw [h1] at hx
        rcases pv (.sub (.cur s) i) y with h2 | h2
        · exact .inl (hx.symm.trans h2)
        · exact .inr (hx.symm.trans h2)
      · rw [h1] at hx
        exact .inr (hx.symm.trans rfl)
  · obtain ⟨ks, hks, h⟩ := h
    refine ⟨_, h, fun n x hx => ?_⟩
    rw [look_purgeK, look_purgeE] at hx
    cases hy : look env n with
    | none => simp [hy] at hx
    | some y =>
      simp [hy] at hx
      refine ⟨y, rfl, ?_⟩
      cases hb : ks.any (Nat.beq n) with
      | true =>
        rw [hb] at hx
        simp only at hx
        obtain ⟨m, hm, he⟩ := List.any_eq_true.1 hb
        have he := Nat.eq_of_beq_eq_true he
        subst he
        have h3 := hks _ hm y hy
        rcases pv (.cur s2) y with h1 | h1
        · rw [h1] at hx; exact ⟨.inl hx.symm, by rw [← hx]; exact h3⟩
        · rw [h1] at hx; exact ⟨.inr hx.symm, by rw [← hx]; rfl⟩
      | false =>
        rw [hb] at hx
        simp only at hx
        refine ⟨?_, by rw [← hx]; exact purgeV_no _ _⟩
        rcases pv (.cur s2) y with h1 | h1
        · rw [h1] at hx
          rcases pv (.sub (.cur s) i) y with h2 | h2
          · exact .inl (hx.symm.trans h2)
          · exact .inr (hx.symm.trans h2)
        · rw [h1] at hx
          exact .inr (hx.symm.trans rfl)
/-- A row, or none, is stored into a map of rows. -/
def mapSetGW (C : Ctx) (env : Env) (st : St) (t : Nat) (m k x : LV) (K' : Env → St → Prop) : Prop :=
  match C.ty t with
  | some ⟨.map kt _, _, _, _⟩ => match C.ty kt, m, k with
    | some tk, .mpr (.cur s), .t (.v kv) => match look st.cur s with
      | some (.grid (.mp kd ks) e sz rs) => match decide (kd = tk.d), keyOK kd kv, noMitU s st.cur with
        | true, true, true => match x with
          | .t (.sl true _ _) => (findK kv ks = none → K' env { st with cur := setCur st.cur s (.grid (.mp kd (ks ++ [kv])) e sz (rs ++ [.nil])) }) ∧
              ∀ i, findK kv ks = some i → K' env { st with cur := setCur st.cur s (.grid (.mp kd ks) e sz (rs.set i .nil)) }
          | .osl (.cur s2) szr 0 len => match look st.cur s2, Nat.beq szr sz, Nat.beq s2 s with
            | some (.row e2 szq es), true, false => match Nat.beq e2 e, Nat.beq szq sz with
              | true, true => len = es.length ∧
                (findK kv ks = none → absW C env s s2 rs.length fun env => K' env { st with cur := setCur (absorbC s s2 rs.length st.cur) s (.grid (.mp kd (ks ++ [kv])) e sz (rs ++ [.row es])) }) ∧
                ∀ i, findK kv ks = some i → absW C env s s2 i fun env => K' env { st with cur := setCur (absorbC s s2 i st.cur) s (.grid (.mp kd ks) e sz (rs.set i (.row es))) }
              | _, _ => False
            | _, _, _ => False
          | _ => False
        | _, _, _ => False
      | _ => False
    | _, _, _ => False
  | _ => False

def mapMakeXW (C : Ctx) (env : Env) (st : St) (s t : Nat) (K' : LV → Env → St → Prop) : Prop := match look C.grd t with
  | none => mapMakeW C env st s t K'
  | some _ => mapMakeGW C env st s t K'
def gridMp (st : St) : LV → Bool
  | .mpr (.cur s) => match look st.cur s with
    | some (.grid (.mp _ _) _ _ _) => true
    | _ => false
  | _ => false
def mapSetXW (C : Ctx) (env : Env) (st : St) (t : Nat) (m k x : LV) (K' : Env → St → Prop) : Prop := match gridMp st m with
  | false => mapSetW C env st t m k x K'
  | true => mapSetGW C env st t m k x K'

section
variable {C : Ctx} {P : Program} (hC : C.OK P) {E : Ent} {N : Nat} {β : K → Nat} {RO : Nat → Prop} {env : Env} {st : St} {a : Act} {w w' : World}

theorem noMitU_look {s : Nat} : ∀ {cur : Fr}, noMitU s cur = true → ∀ n o, look cur n = some o → ∀ m l, o = .mit m l → K.under (.cur s) m = false
  | [], _, n, o, h => by simp [look] at h
  | (q, x) :: r, hn, n, o, h => by
    have hr : noMitU s r = true ∧ ∀ m l, x = .mit m l → K.under (.cur s) m = false := by
      unfold noMitU at hn
      split at hn
      · rename_i heq; cases heq
      · rename_i heq
        cases heq
        split at hn
        · cases hn
        · rename_i hb
          exact ⟨hn, fun m l he => by cases he; exact hb⟩
      · rename_i hne heq
        cases heq
        exact ⟨hn, fun m l he => absurd (by rw [he]) (hne _ m l)⟩
    rw [look_cons] at h
    split at h
    · cases h; exact hr.2
    · exact noMitU_look hr.1 n o h

/-- The same memory: a row of our own, whose header stands in a place of a row of rows, is told there. -/
theorem SR.absorb (h : SR E N β RO env st a w) {env2 : Env} {s s2 i : Nat} {eo : GO} {e sz : Nat} {rs : List GR} {es : List (List T)} (hk : look st.cur s = some (.grid eo e sz rs)) (hne : s2 ≠ s) (hk2 : look st.cur s2 = some (.row e sz es)) (hi : rs[i]? = some .out)
    (hmit : ∀ n o, look st.cur n = some o → ∀ m l, o = .mit m l → m ≠ .sub (.cur s) i)
    (hE : ∀ n x, look env2 n = some x → ∃ y, look env n = some y ∧ (x = y ∨ x = .bad) ∧ x.has (.sub (.cur s) i) = false)
    (hob : ObOK (fun k => if k = .sub (.cur s) i then β (.cur s2) else β k) RO w (.cur s) (.grid eo e sz (rs.set i (.row es)))) :
    SR E N (fun k => if k = .sub (.cur s) i then β (.cur s2) else β k) RO env2 { st with cur := setCur (absorbC s s2 i st.cur) s (.grid eo e sz (rs.set i (.row es))) } a w := by
  have hkg : st.get (.cur s) = some (.grid eo e sz rs) := hk
  have hkr : st.get (.cur s2) = some (.row e sz es) := hk2
  have hil : i < rs.length := (List.getElem?_eq_some_iff.1 hi).1
  have hβ : ∀ k, k ≠ .sub (.cur s) i → (fun k => if k = .sub (.cur s) i then β (.cur s2) else β k) k = β k := fun k hk => if_neg hk
  have hval : ∀ {x : LV} {u : Value}, x.has (.sub (.cur s) i) = false → VL β RO w x u → VL (fun k => if k = .sub (.cur s) i then β (.cur s2) else β k) RO w x u := fun hno hx => VL.no hx hno
  refine ⟨⟨h.wr.os, h.wr.tape, h.wr.output, h.wr.size, h.wr.keep, h.wr.roLt, h.wr.ro0, h.wr.roNew, fun k o hg => ?_, fun k o hg hc => ?_, fun k k' o o' hg hg' hc hc' heq => ?_, fun k o hg hc => ?_, fun k o hg hc => ?_, fun k hf hnm => ?_⟩, h.size, h.defers, fun n x hx => ?_⟩
  · rcases get_absorb hk hne hil hg with ⟨rfl, rfl⟩ | ⟨rfl, rfl⟩ | ⟨h1, h2, h3, o0, h4, h5⟩
    · exact hob
    · obtain ⟨us2, cap2, g1, g2⟩ := h.wr.obj _ _ hkr
      exact ⟨us2, cap2, by simpa using g1, g2⟩
    · have hok := h.wr.obj k o0 h4
      have keep : ∀ o1, ObOK β RO w k o1 → (∀ cs, o1 = .box cs → LV.has.hasL (.sub (.cur s) i) cs = false) → (∀ (eo : GO) e sz rs, o1 = .grid eo e sz rs → o1 = o0) → (∀ m l, o1 = .mit m l → m ≠ .sub (.cur s) i) → ObOK (fun k => if k = .sub (.cur s) i then β (.cur s2) else β k) RO w k o1 := by
        intro o1 hok1 hbx hgr hmt
        refine hok1.keep (fun _ h => h) (fun _ _ => rfl) (hβ k h2) rfl (fun cs hcs x hx u hu => VL.no hu (hasL_mem (hbx cs hcs) x hx)) (fun eo' e' sz' rs' ho q es' hq => ⟨hβ _ ?_, fun _ h => h⟩) fun m l ho => ⟨hβ _ (hmt m l ho), rfl⟩
        intro e
        cases e
        exact h1 rfl
      have mitne : ∀ m l, o0 = .mit m l → m ≠ .sub (.cur s) i := by
        rintro m l ho rfl
        subst ho
        cases k with
        | cur n => exact hmit n _ h4 _ _ rfl rfl
        | fr j n =>
          have := St.fr_has (s := s) h4
          simp only [Ob.has, K.under, Bool.or_eq_false_iff] at this
          have h5 := this.2
          simp [K.beq] at h5
        | sub k j => obtain ⟨_, _, _, _, _, _, _, h6⟩ := St.get_sub h4; cases h6
      rcases h5 with rfl | ⟨hkc, rfl⟩
      · refine keep _ (hok.purge.purge) (fun cs hcs => ?_) (fun eo' e' sz' rs' ho => ?_) (fun m l ho => ?_)
        · have := purgeO_no (.sub (.cur s) i) (o := purgeO (.cur s2) o0) (fun m l hm => by
            cases o0 <;> simp only [purgeO, reduceCtorEq] at hm
            simp only [purgeO, reduceCtorEq] at hcs)
          rw [hcs] at this; exact this
        · have := purgeO_grid (purgeO_grid ho); rw [this]; rfl
        · refine mitne m l ?_
          cases o0 <;> simp only [purgeO, reduceCtorEq] at ho
          exact ho
      · refine keep _ hok (fun cs hcs => ?_) (fun _ _ _ _ _ => rfl) mitne
        cases k with
        | cur n => cases hkc
        | fr j n =>
          have := St.fr_has (s := s) h4
          cases hc : LV.has.hasL (.sub (.cur s) i) cs with
          | false => rfl
          | true =>
            have h6 := hasL_trans (a := .cur s) (b := .sub (.cur s) i) (by simp [K.under, K.beq]) hc
            subst hcs
            simp only [Ob.has] at this
            rw [h6] at this; cases this
        | sub k j => obtain ⟨_, _, _, _, _, _, _, h6⟩ := St.get_sub h4; subst hcs; cases h6
  · rcases get_absorb hk hne hil hg with ⟨rfl, rfl⟩ | ⟨rfl, rfl⟩ | ⟨h1, h2, h3, o0, h4, h5⟩
    · rw [if_neg (fun e => by cases e)]; exact h.wr.objNew _ _ hkg hc
    · simp only [if_true]; exact h.wr.objNew _ _ hkr (can_cur s2)
    · rw [if_neg h2]; exact h.wr.objNew k o0 h4 hc
  · have key : ∀ {k o}, St.get { st with cur := setCur (absorbC s s2 i st.cur) s (.grid eo e sz (rs.set i (.row es))) } k = some o → ∃ k1 o1, st.get k1 = some o1 ∧ (if k = .sub (.cur s) i then β (.cur s2) else β k) = β k1 ∧ (k1 = k ∧ k ≠ .sub (.cur s) i ∧ k ≠ .cur s2 ∨ k1 = .cur s2 ∧ k = .sub (.cur s) i) := by
      intro k o hg
      rcases get_absorb hk hne hil hg with ⟨rfl, rfl⟩ | ⟨rfl, rfl⟩ | ⟨h1, h2, h3, o0, h4, h5⟩
      · exact ⟨_, _, hkg, if_neg (fun e => by cases e), .inl ⟨rfl, (fun e => by cases e), fun e => hne (by cases e; rfl)⟩⟩
      · exact ⟨_, _, hkr, if_pos rfl, .inr ⟨rfl, rfl⟩⟩
      · exact ⟨_, _, h4, if_neg h2, .inl ⟨rfl, h2, h3⟩⟩
    obtain ⟨k1, o1, g1, g2, g3⟩ := key hg
    obtain ⟨k2, o2, f1, f2, f3⟩ := key hg'
    have hkk : E.can k1 ∧ E.can k2 := by
      constructor
      · rcases g3 with ⟨rfl, _⟩ | ⟨rfl, _⟩
        · exact hc
        · exact can_cur s2
      · rcases f3 with ⟨rfl, _⟩ | ⟨rfl, _⟩
        · exact hc'
        · exact can_cur s2
    have e12 : k1 = k2 := h.wr.inj k1 k2 o1 o2 g1 f1 hkk.1 hkk.2 (by rw [← g2, ← f2]; exact heq)
    rcases g3 with ⟨rfl, g4, g5⟩ | ⟨rfl, rfl⟩ <;> rcases f3 with ⟨rfl, f4, f5⟩ | ⟨rfl, rfl⟩
    · exact e12
    · exact absurd e12 g5
    · exact absurd e12.symm f5
    · rfl
  · rcases get_absorb hk hne hil hg with ⟨rfl, rfl⟩ | ⟨rfl, rfl⟩ | ⟨h1, h2, h3, o0, h4, h5⟩
    · rw [if_neg (fun e => by cases e)]; exact h.wr.sep _ _ hkg hc
    · simp only [if_true]; exact h.wr.sep _ _ hkr (can_cur s2)
    · rw [if_neg h2]; exact h.wr.sep k o0 h4 hc
  · rcases get_absorb hk hne hil hg with ⟨rfl, rfl⟩ | ⟨rfl, rfl⟩ | ⟨h1, h2, h3, o0, h4, h5⟩
    · exact absurd (can_cur s) hc
    · exact absurd (can_sub s i) hc
    · rw [if_neg h2]; exact h.wr.fzRO k o0 h4 hc
  · rw [if_neg fun e => by subst e; cases hf]; exact h.wr.stay k hf hnm
  · obtain ⟨y, hy, hxy, hno⟩ := hE n x hx
    obtain ⟨u, g1, g2⟩ := h.env n y hy
    rcases hxy with rfl | rfl
    · exact ⟨u, g1, hval hno g2⟩
    · exact ⟨u, g1, .bad u⟩

theorem mapMakeGW_gives (h : SR E N β RO env st a w) {s t : Nat} {K' : LV → Env → St → Prop} (hW : mapMakeGW C env st s t K') : Gives P E N a w (Instr.makeMap t none) K' := by
  unfold mapMakeGW at hW
  split at hW
  · split at hW
    · split at hW
      · rename_i te hte hf
        obtain ⟨h1, h2⟩ := h.fresh hf
        refine ⟨.map (some w.heap.size), w.alloc (.map #[] 0), _, _, _, fun k => if k = .cur s then w.heap.size else β k, RO, ?_, hW, ?_, ?_⟩
        · simp [Instr.makeMap, newObj, Sem.run]
        · refine h.alloc h1 h2 (Step.alloc _ _) (by rw [alloc_size]; omega) (alloc_old _ _) ?_ ?_
          · intro i o ho
            obtain ⟨_, _, _, _, _, hg, hi, _⟩ := St.get_sub ho
            simp only [St.get, look_cons, if_true] at hg
            cases hg
            simp at hi
          · refine ⟨#[], 0, ?_, rfl, rfl, (fun p hp => by cases hp), (fun i p m hp hm => by simp at hp), (fun i r m hr hm => by simp at hm), (fun i j m n hm => by simp at hm), fun m hm => by simp at hm⟩
            simp only [if_true]; exact alloc_new _ _
        · have := VL.mpr (β := fun k => if k = .cur s then w.heap.size else β k) (RO := RO) (w := w.alloc (.map #[] 0)) (.cur s)
          simpa using this
      · cases hW
    · cases hW
  · cases hW

theorem mapMakeXW_gives (h : SR E N β RO env st a w) {s t : Nat} {K' : LV → Env → St → Prop} (hW : mapMakeXW C env st s t K') : Gives P E N a w (Instr.makeMap t none) K' := by
  unfold mapMakeXW at hW
  split at hW
  · exact mapMakeW_gives h hW
  · exact mapMakeGW_gives h hW

/-- A write into the block of a map of rows. -/
theorem SR.setMp (h : SR E N β RO env st a w) {s : Nat} {eo eo' : GO} {e sz : Nat} {rs rs' : List GR} {ob' : Obj} (hk : look st.cur s = some (.grid eo e sz rs))
    (hget : ∀ k o, St.get { st with cur := setCur st.cur s (.grid eo' e sz rs') } k = some o → (k = .cur s ∧ o = .grid eo' e sz rs') ∨ (k ≠ .cur s ∧ st.get k = some o))
    (hc : ∀ b, ({ w with heap := w.heap.setIfInBounds (β (.cur s)) ob' } : World).shape? b = w.shape? b)
    (hob : ObOK β RO { w with heap := w.heap.setIfInBounds (β (.cur s)) ob' } (.cur s) (.grid eo' e sz rs')) :
    SR E N β RO env { st with cur := setCur st.cur s (.grid eo' e sz rs') } a { w with heap := w.heap.setIfInBounds (β (.cur s)) ob' } := by
  have hks : st.get (.cur s) = some (.grid eo e sz rs) := hk
  have hother : ∀ b, b ≠ β (.cur s) → (w.heap.setIfInBounds (β (.cur s)) ob')[b]? = w.heap[b]? := fun b hb' => Array.getElem?_setIfInBounds_ne (Ne.symm hb')
  have hro : ∀ b, RO b → (w.heap.setIfInBounds (β (.cur s)) ob')[b]? = w.heap[b]? := fun b hb => hother b fun e => h.wr.sep _ _ hks (can_cur s) (e ▸ hb)
  refine ⟨h.wr.write (g := β (.cur s)) ⟨rfl, rfl, rfl, by simp⟩ (by simp) ⟨_, _, hks, can_cur s, rfl⟩ hother fun k o2 hk2 => ?_, h.size, h.defers, fun n x hx => ?_⟩
  · rcases hget k o2 hk2 with ⟨rfl, rfl⟩ | ⟨hne, hk2⟩
    · exact ⟨⟨_, hks⟩, hob⟩
    · refine ⟨⟨o2, hk2⟩, ?_⟩
      have hok := h.wr.obj k o2 hk2
      have hbne : β k ≠ β (.cur s) := fun e => by
        by_cases hc' : E.can k
        · exact hne (h.wr.inj k (.cur s) o2 _ hk2 hks hc' (can_cur s) e)
        · exact h.wr.sep _ _ hks (can_cur s) (e ▸ h.wr.fzRO k o2 hk2 hc')
      refine hok.keep (fun _ h => h) hro rfl (hother _ hbne) (fun cs _ x _ v hv => hv.write (g := β (.cur s)) (h.wr.sep _ _ hks (can_cur s)) hother hc) (fun _ _ _ _ _ _ _ _ => ⟨rfl, fun _ hr => (hc _).trans hr⟩) fun m left hmit => ?_
      subst hmit
      obtain ⟨_, _, _, _, _, hr, _⟩ := hok
      exact ⟨rfl, hro _ hr⟩
  · obtain ⟨v, q1, q2⟩ := h.env n x hx
    exact ⟨v, q1, q2.write (g := β (.cur s)) (h.wr.sep _ _ hks (can_cur s)) hother hc⟩

theorem get_shrink {s : Nat} {eo eo' : GO} {e sz : Nat} {rs rs' : List GR} (hk : look st.cur s = some (.grid eo e sz rs)) (hr : ∀ (i : Nat) (es : List (List T)), rs'[i]? = some (.row es) → rs[i]? = some (.row es)) (k : K) (o : Ob)
    (h : St.get { st with cur := setCur st.cur s (.grid eo' e sz rs') } k = some o) : (k = .cur s ∧ o = .grid eo' e sz rs') ∨ (k ≠ .cur s ∧ st.get k = some o) := by
  have hroot : ∀ k o, k.root = true → St.get { st with cur := setCur st.cur s (.grid eo' e sz rs') } k = some o → (k = .cur s ∧ o = .grid eo' e sz rs') ∨ (k ≠ .cur s ∧ st.get k = some o) := by
    intro k o hr h
    cases k with
    | cur n =>
      simp only [St.get, look_setCur] at h ⊢
      by_cases hn : n = s
      · subst hn
        rw [if_pos rfl, hk] at h
        simp at h
        exact .inl ⟨rfl, h.symm⟩
      · rw [if_neg hn] at h
        exact .inr ⟨fun e => hn (by cases e; rfl), h⟩
    | fr i n => exact .inr ⟨fun e => (by cases e), by simpa [St.get] using h⟩
    | sub => cases hr
  cases k with
  | sub k i =>
    obtain ⟨eo2, e2, sz2, rs2, es, hg, hi, rfl⟩ := St.get_sub h
    refine .inr ⟨fun e => (by cases e), ?_⟩
    rcases hroot k _ (St.root_of_get_grid hg) hg with ⟨rfl, h2⟩ | ⟨hne, h2⟩
    · cases h2
      have hk' : st.get (.cur s) = some (.grid eo e sz rs) := hk
      simp only [St.get] at hk' ⊢
      simp only [hk', hr i es hi]
    · simp only [St.get, h2, hi]
  | cur n => exact hroot _ _ rfl h
  | fr i n => exact hroot _ _ rfl h

include hC
theorem mapSetGW_gives {t : Nat} {m k x : LV} {vm vk vx : Value} {K' : Env → St → Prop} (h : SR E N β RO env st a w) (hm : VL β RO w m vm) (hk : VL β RO w k vk) (hx : VL β RO w x vx) (hW : mapSetGW C env st t m k x K') :
    ∃ w' env' st' β' RO', (Instr.mapUpdate t vm vk vx).run P w = .ok () w' ∧ K' env' st' ∧ SR E N β' RO' env' st' a w' := by
  unfold mapSetGW at hW
  split at hW
  rotate_left
  · cases hW
  rename_i kt et s0 b0 z0 ht
  have hu := run_map_ty hC ht
  split at hW
  rotate_left
  · cases hW
  rename_i tk s kv htk
  obtain ⟨d, hd, hdd⟩ := (hC.ty htk).underlying
  split at hW
  rotate_left
  · cases hW
  rename_i kd ks e sz rs hl
  split at hW
  rotate_left
  · cases hW
  rename_i g1 g2 g3
  have g1 : kd = tk.d := by simpa using g1
  subst g1
  have hvk := hk.v_inv
  subst hvk
  cases hm
  have hks : st.get (.cur s) = some (.grid (.mp tk.d ks) e sz rs) := hl
  obtain ⟨ents, clock, h1, h2, h2', h3, h4, h5, h6, h7⟩ := h.wr.obj _ _ hks
  have hf := findNow_ks hdd g2 ks ents.toList 0 (by simpa using h2.trans h2'.symm) (fun i p m hp hm => h4 i p m hp (by simpa using hm)) h3
  have hck : (Instr.checkKey false 10000 kt vk).run P w = .ok () w := MapKept.run_checkKey hd (isKey_of hdd g2) _ 9999
  have hshape : ∀ (es : Array MapEntry) (c : Nat) (b : Nat), ({ w with heap := w.heap.setIfInBounds (β (.cur s)) (.map es c) } : World).shape? b = w.shape? b := by
    intro es c b
    by_cases hb : b = β (.cur s)
    · subst hb
      unfold World.shape?
      rw [(MapKept.heap_set (o' := .map es c) h1).1, h1]
    · exact shape_of_block (w := w) (w' := { w with heap := w.heap.setIfInBounds (β (.cur s)) (.map es c) }) ((MapKept.heap_set h1).2 b hb)
  have hro : ∀ (es : Array MapEntry) (c : Nat) (b : Nat), RO b → (w.heap.setIfInBounds (β (.cur s)) (.map es c))[b]? = w.heap[b]? := fun es c b hb => (MapKept.heap_set h1).2 b fun e => h.wr.sep _ _ hks (can_cur s) (e ▸ hb)
  have wrt : ∀ {x : LV} {u : Value} (es : Array MapEntry) (c : Nat), VL β RO w x u → VL β RO { w with heap := w.heap.setIfInBounds (β (.cur s)) (.map es c) } x u := fun es c hv =>
    hv.write (g := β (.cur s)) (h.wr.sep _ _ hks (can_cur s)) (fun b hb => (MapKept.heap_set h1).2 b hb) (hshape es c)
  have grw : ∀ {i : Nat} {r : GR} {u : Value} (es : Array MapEntry) (c : Nat), GrV β RO w (.cur s) sz i r u → GrV β RO { w with heap := w.heap.setIfInBounds (β (.cur s)) (.map es c) } (.cur s) sz i r u := by
    intro i r u es c hv
    cases r with
    | nil => exact hv
    | out => trivial
    | row es' => exact wrt es c hv
  -- what the memory is behind the write, the place being told as away
  have main : ∃ (i : Nat) (ks' : List Value) (rs' : List GR) (ents' : Array MapEntry) (c' : Nat) (mm : MapEntry), (Instr.mapUpdate t (.map (some (β (.cur s)))) vk vx).run P w = .ok () { w with heap := w.heap.setIfInBounds (β (.cur s)) (.map ents' c') } ∧
      rs'[i]? = some .out ∧ ents'[i]? = some mm ∧ mm.val = vx ∧ SR E N β RO env { st with cur := setCur st.cur s (.grid (.mp tk.d ks') e sz rs') } a { w with heap := w.heap.setIfInBounds (β (.cur s)) (.map ents' c') } ∧
      ((findK vk ks = none ∧ i = rs.length ∧ ks' = ks ++ [vk] ∧ rs' = rs ++ [.out]) ∨ (findK vk ks = some i ∧ ks' = ks ∧ rs' = rs.set i .out)) := by
    rcases hf with ⟨f1, f2⟩ | ⟨j, mm, f1, f2, f3, f4, f5⟩
    · refine ⟨rs.length, ks ++ [vk], rs ++ [.out], ents.push { key := vk, val := vx, born := clock }, clock + 1, { key := vk, val := vx, born := clock }, ?_, by simp, by rw [Array.getElem?_push, if_pos h2.symm], rfl, ?_, .inl ⟨f2, rfl, rfl, rfl⟩⟩
      · simp only [Instr.mapUpdate, Sem.run_bind, run_underlying hu, Result.andThen_ok, MapKept.run_getObj_map h1, hck, MapKept.run_findKey hd f1, MapKept.run_setObj_map _ h1]
      · refine h.setMp hl (get_shrink hl fun i es hi => (out_rows rs i es).1 hi) (hshape _ _) ⟨_, _, (MapKept.heap_set h1).1, by simp [h2], by simp [h2'], fun p hp => ?_, fun i p m hp hm => ?_, fun i r m hr hm => ?_, fun i j m n hi hj hlt => ?_, fun m hm => ?_⟩
        · rcases List.mem_append.1 hp with hp | hp
          · exact h3 p hp
          · simp at hp; rw [hp]; exact g2
        · rw [Array.getElem?_push] at hm
          split at hm
          · rename_i hi
            cases hm
            rw [List.getElem?_append_right (by omega)] at hp
            have : i - ks.length = 0 := by omega
            rw [this] at hp
            simpa using hp
          · have hlt := (Array.getElem?_eq_some_iff.1 hm).1
            rw [List.getElem?_append_left (by omega)] at hp
            exact h4 i p m hp hm
        · rw [Array.getElem?_push] at hm
          split at hm
          · rename_i hi
            rw [List.getElem?_append_right (by omega)] at hr
            have : i - rs.length = 0 := by omega
            rw [this] at hr
            simp at hr
            subst hr; trivial
          · have hlt := (Array.getElem?_eq_some_iff.1 hm).1
            rw [List.getElem?_append_left (by omega)] at hr
            exact grw _ _ (h5 i r m hr hm)
        · rw [Array.getElem?_push] at hi hj
          split at hi
          · cases hi
            split at hj
            · omega
            · have := (Array.getElem?_eq_some_iff.1 hj).1; omega
          · split at hj
            · cases hj
              exact h7 m (Array.mem_of_getElem? hi)
            · exact h6 i j m n hi hj hlt
        · rcases Array.mem_push.1 hm with hm | rfl
          · have := h7 m hm; omega
          · show clock < clock + 1; omega
    · have f3 : ents[j]? = some mm := by simpa using f3
      have hjl : j < rs.length := by have := (Array.getElem?_eq_some_iff.1 f3).1; omega
      have hmod : ∀ (i : Nat) (m : MapEntry), (ents.modify j fun e => { e with key := vk, val := vx })[i]? = some m → (i = j ∧ m = { mm with key := vk, val := vx }) ∨ (i ≠ j ∧ ents[i]? = some m) := by
        intro i m hm
        rw [Array.getElem?_modify] at hm
        by_cases hij : j = i
        · subst hij
          rw [if_pos rfl, f3] at hm
          simp at hm
          exact .inl ⟨rfl, hm.symm⟩
        · rw [if_neg hij] at hm
          exact .inr ⟨Ne.symm hij, hm⟩
      refine ⟨j, ks, rs.set j .out, ents.modify j fun e => { e with key := vk, val := vx }, clock, { mm with key := vk, val := vx }, ?_, by rw [List.getElem?_set_self hjl], by rw [Array.getElem?_modify, if_pos rfl, f3]; rfl, rfl, ?_, .inr ⟨f5, rfl, rfl⟩⟩
      · simp only [Instr.mapUpdate, Sem.run_bind, run_underlying hu, Result.andThen_ok, MapKept.run_getObj_map h1, hck, MapKept.run_findKey hd f1]
        have : ((ents[0 + j]?).map (·.key)).getD vk = vk := by rw [Nat.zero_add, f3]; exact f4
        rw [this, MapKept.run_keyThatStays (isKey_of hdd g2)]
        simp only [Result.andThen_ok, MapKept.run_setObj_map _ h1, Nat.zero_add]
      · refine h.setMp hl (get_shrink hl fun i es hi => ?_) (hshape _ _) ⟨_, _, (MapKept.heap_set h1).1, by simp [h2], by simp [h2'], h3, fun i p m hp hm => ?_, fun i r m hr hm => ?_, fun i j' m n hi hj hlt => ?_, fun m hm => ?_⟩
        · by_cases hij : j = i
          · subst hij; rw [List.getElem?_set_self hjl] at hi; cases hi
          · rw [List.getElem?_set_ne hij] at hi; exact hi
        · rcases hmod i m hm with ⟨rfl, rfl⟩ | ⟨hne, hm⟩
          · rw [f2] at hp; cases hp; rfl
          · exact h4 i p m hp hm
        · rcases hmod i m hm with ⟨rfl, rfl⟩ | ⟨hne, hm⟩
          · rw [List.getElem?_set_self hjl] at hr; cases hr; trivial
          · rw [List.getElem?_set_ne (Ne.symm hne)] at hr
            exact grw _ _ (h5 i r m hr hm)
        · have born : ∀ (i : Nat) (m : MapEntry), (ents.modify j fun e => { e with key := vk, val := vx })[i]? = some m → ∃ m0 : MapEntry, ents[i]? = some m0 ∧ m0.born = m.born := by
            intro i m hm
            rcases hmod i m hm with ⟨rfl, rfl⟩ | ⟨hne, hm⟩
            · exact ⟨mm, f3, rfl⟩
            · exact ⟨m, hm, rfl⟩
          obtain ⟨m0, q1, q2⟩ := born i m hi
          obtain ⟨n0, q3, q4⟩ := born j' n hj
          rw [← q2, ← q4]; exact h6 i j' m0 n0 q1 q3 hlt
        · obtain ⟨i, hi⟩ := Array.mem_iff_getElem?.1 hm
          rcases hmod i m hi with ⟨rfl, rfl⟩ | ⟨hne, hm⟩
          · exact h7 mm (Array.mem_of_getElem? f3)
          · exact h7 m (Array.mem_of_getElem? hm)
  clear hf
  obtain ⟨i, ks', rs', ents', c', mm, hrun, hi, hmi, hmv, hs, hcase⟩ := main
  have hl' : look (setCur st.cur s (.grid (.mp tk.d ks') e sz rs')) s = some (.grid (.mp tk.d ks') e sz rs') := by rw [look_setCur, if_pos rfl, hl]; rfl
  have hil : i < rs'.length := (List.getElem?_eq_some_iff.1 hi).1
  have twice : ∀ (o o' : Ob), setCur (setCur st.cur s o) s o' = setCur st.cur s o' := fun o o' => setCur_twice s o o' st.cur
  obtain ⟨ents2, clock2, q1, q2, q2', q3, q4, q5, q6⟩ := hs.wr.obj (.cur s) _ hl'
  have hee : ents2 = ents' := by
    have := (MapKept.heap_set (o' := .map ents' c') h1).1
    rw [this] at q1
    cases q1; rfl
  subst hee
  split at hW
  · rename_i nsz nes
    have hvx : vx = .slice none 0 0 := by cases hx with | t _ _ hx => cases hx; rfl
    have hset : ∀ (j : Nat) (es : List (List T)), (rs'.set i .nil)[j]? = some (.row es) ↔ rs'[j]? = some (.row es) := by
      intro j es
      by_cases hj : i = j
      · subst hj; rw [List.getElem?_set_self hil, hi]; simp
      · rw [List.getElem?_set_ne hj]
    have hob : ObOK β RO { w with heap := w.heap.setIfInBounds (β (.cur s)) (.map ents2 c') } (.cur s) (.grid (.mp tk.d ks') e sz (rs'.set i .nil)) := by
      refine ⟨ents2, clock2, q1, by simpa using q2, by simpa using q2', q3, q4, fun j r m hr hm => ?_, q6⟩
      by_cases hj : i = j
      · subst hj
        rw [List.getElem?_set_self hil] at hr
        cases hr
        rw [hmi] at hm; cases hm
        exact hmv.trans hvx
      · rw [List.getElem?_set_ne hj] at hr
        exact q5 j r m hr hm
    have h2s := hs.retell hl' hset hob
    rw [twice] at h2s
    refine ⟨_, env, _, β, RO, hrun, ?_, h2s⟩
    rcases hcase with ⟨c1, rfl, rfl, rfl⟩ | ⟨c1, rfl, rfl⟩
    · have e1 : (rs ++ [GR.out]).set rs.length .nil = rs ++ [.nil] := by rw [List.set_append_right _ _ (Nat.le_refl _)]; simp
      rw [e1]; exact hW.1 c1
    · rw [List.set_set]; exact hW.2 i c1
  · rename_i s2 szr len
    split at hW
    rotate_left
    · cases hW
    rename_i e2 szq es hl2 b1 b2
    split at hW
    rotate_left
    · cases hW
    rename_i b3 b4
    have b1 := Nat.eq_of_beq_eq_true b1
    have b2 : s2 ≠ s := fun e => by subst e; simp at b2
    have b3 := Nat.eq_of_beq_eq_true b3
    have b4 := Nat.eq_of_beq_eq_true b4
    subst b1; subst b3; subst b4
    obtain ⟨rfl, hW⟩ := hW
    have hl2' : look (setCur st.cur s (.grid (.mp tk.d ks') e2 szq rs')) s2 = some (.row e2 szq es) := by rw [look_setCur, if_neg b2]; exact hl2
    have hx2 := wrt ents2 c' hx
    have hob : ObOK (fun k => if k = .sub (.cur s) i then β (.cur s2) else β k) RO { w with heap := w.heap.setIfInBounds (β (.cur s)) (.map ents2 c') } (.cur s) (.grid (.mp tk.d ks') e2 szq (rs'.set i (.row es))) := by
      refine ⟨ents2, clock2, by simpa using q1, by simpa using q2, by simpa using q2', q3, q4, fun j r m hr hm => ?_, q6⟩
      by_cases hj : i = j
      · subst hj
        rw [List.getElem?_set_self hil] at hr
        cases hr
        rw [hmi] at hm; cases hm
        simp only
        rw [hmv]
        cases hx2 with
        | osl _ _ _ _ cap2 e' n hle hsh hn hm2 =>
        have := VL.osl (β := fun k => if k = .sub (.cur s) i then β (.cur s2) else β k) (RO := RO) (w := { w with heap := w.heap.setIfInBounds (β (.cur s)) (.map ents2 c') }) (.sub (.cur s) i) szq 0 es.length cap2 e' n hle (by simp only [if_true]; exact hsh) hn hm2
        simpa using this
      · rw [List.getElem?_set_ne hj] at hr
        have := q5 j r m hr hm
        cases r with
        | nil => exact this
        | out => trivial
        | row es' =>
          simp only at this ⊢
          refine VL.no this ?_
          simp only [LV.has, K.under, K.beq, Bool.or_false]
          rw [if_neg (by simpa using hj)]
    have hmt : ∀ n o, look (setCur st.cur s (.grid (.mp tk.d ks') e2 szq rs')) n = some o → ∀ m l, o = .mit m l → m ≠ .sub (.cur s) i := fun n o hn m l ho => ?_
    rotate_left
    · rw [look_setCur] at hn
      split at hn
      · rename_i he
        rw [hl] at hn
        simp at hn
        rw [← hn] at ho; cases ho
      · rintro rfl
        have := noMitU_look g3 n o hn _ l ho
        simp [K.under, K.beq] at this
    have hab : ∀ o, setCur (absorbC s s2 i (setCur st.cur s (.grid (.mp tk.d ks') e2 szq rs'))) s o = setCur (absorbC s s2 i st.cur) s o := by
      intro o
      unfold absorbC
      have d1 : ∀ (l : Fr) (o : Ob), purgeO (.cur s2) o = o → delCur s2 (setCur l s o) = setCur (delCur s2 l) s o := by
        intro l o ho
        induction l with
        | nil => rfl
        | cons p r ih =>
          obtain ⟨m, x⟩ := p
          cases hb : Nat.beq m s with
          | true =>
            have hb' := Nat.eq_of_beq_eq_true hb
            have : Nat.beq m s2 = false := by
              rw [Bool.eq_false_iff]; intro h3; exact b2 ((Nat.eq_of_beq_eq_true h3).symm.trans hb')
            rw [setCur, hb]; simp only; rw [delCur, this]; simp only; rw [delCur, this]; simp only; rw [setCur, hb, ho]
          | false =>
            cases hb2 : Nat.beq m s2 with
            | true => simp only [setCur, delCur, hb, hb2, ih]
            | false => simp only [setCur, delCur, hb, hb2, ih]
      have d2 : ∀ (l : Fr) (o o' : Ob), setCur (purgeC (.sub (.cur s) i) (setCur l s o)) s o' = setCur (purgeC (.sub (.cur s) i) l) s o' := by
        intro l o o'
        induction l with
        | nil => rfl
        | cons p r ih =>
          obtain ⟨m, x⟩ := p
          cases hb : Nat.beq m s with
          | true => simp only [setCur, purgeC, hb]
          | false => simp only [setCur, purgeC, hb, ih]
      rw [d1 _ _ rfl, d2]
    have h2s := fun env2 hE => hs.absorb (env2 := env2) hl' b2 hl2' hi hmt hE hob
    rw [hab] at h2s
    rcases hcase with ⟨c1, rfl, rfl, rfl⟩ | ⟨c1, rfl, rfl⟩
    · have e1 : (rs ++ [GR.out]).set rs.length (.row es) = rs ++ [.row es] := by rw [List.set_append_right _ _ (Nat.le_refl _)]; simp
      obtain ⟨env2, hK, hE⟩ := absW_inv (hW.1 c1)
      refine ⟨_, _, _, _, RO, hrun, ?_, h2s env2 hE⟩
      rw [e1]; exact hK
    · obtain ⟨env2, hK, hE⟩ := absW_inv (hW.2 i c1)
      refine ⟨_, _, _, _, RO, hrun, ?_, h2s env2 hE⟩
      rw [List.set_set]; exact hK
  · cases hW

theorem mapSetXW_gives {t : Nat} {m k x : LV} {vm vk vx : Value} {K' : Env → St → Prop} (h : SR E N β RO env st a w) (hm : VL β RO w m vm) (hk : VL β RO w k vk) (hx : VL β RO w x vx) (hW : mapSetXW C env st t m k x K') :
    ∃ w' env' st' β' RO', (Instr.mapUpdate t vm vk vx).run P w = .ok () w' ∧ K' env' st' ∧ SR E N β' RO' env' st' a w' := by
  unfold mapSetXW at hW
  split at hW
  · exact mapSetW_gives hC h hm hk hx hW
  · exact mapSetGW_gives hC h hm hk hx hW

end
end Go.Fw

/- The value logic, part 18: an operation; a region in the order of its text. -/
namespace Go.Fw
open Go

def nth {α : Type} : List α → Nat → Option α
  | [], _ => none
  | x :: _, 0 => some x
  | _ :: r, n + 1 => nth r n
theorem nth_eq {α : Type} : ∀ (l : List α) (n : Nat), nth l n = l[n]?
  | [], n => by simp [nth]
  | x :: r, 0 => rfl
  | x :: r, n + 1 => by simp [nth, nth_eq r n]

/-! ### Values, slots and objects are laid bare before the walk goes on -/
def strL : List LV → (List LV → Prop) → Prop
  | [], K' => K' []
  | x :: r, K' => strV x fun x => strL r fun r => K' (x :: r)
where strV : LV → (LV → Prop) → Prop
  | .bad, K' => K' .bad
  | .t x, K' => K' (.t x)
  | .osl k a b c, K' => K' (.osl k a b c)
  | .ptr k c, K' => K' (.ptr k c)
  | .pel k a b c, K' => K' (.pel k a b c)
  | .ipt cs, K' => K' (.ipt cs)
  | .fn f cap, K' => K' (.fn f cap)
  | .mpr k, K' => K' (.mpr k)
  | .ifc t x, K' => K' (.ifc t x)
  | .agg cs, K' => K' (.agg cs)
  | .tup cs, K' => K' (.tup cs)
def strW : LV → (LV → Prop) → Prop
  | .agg cs, K' => strL cs fun cs => K' (.agg cs)
  | .tup cs, K' => strL cs fun cs => K' (.tup cs)
  | x, K' => strL.strV x K'
def strE : List (Nat × LV) → (List (Nat × LV) → Prop) → Prop
  | [], K' => K' []
  | (n, x) :: r, K' => strW x fun x => strE r fun r => K' ((n, x) :: r)
def strO : Ob → (Ob → Prop) → Prop
  | .row e sz es, K' => K' (.row e sz es)
  | .box cs, K' => strL cs fun cs => K' (.box cs)
  | .grid a b c rs, K' => K' (.grid a b c rs)
  | .mp kd kv, K' => K' (.mp kd kv)
  | .mit m l, K' => K' (.mit m l)
def strC : List (Nat × Ob) → (List (Nat × Ob) → Prop) → Prop
  | [], K' => K' []
  | (n, x) :: r, K' => strO x fun x => strC r fun r => K' ((n, x) :: r)
def strS (st : St) (K' : St → Prop) : Prop := match st with
  | ⟨out, cur⟩ => strC cur fun cur => K' ⟨out, cur⟩

theorem strV_gives {x : LV} {K' : LV → Prop} (h : strL.strV x K') : K' x := by cases x <;> exact h
theorem strL_gives : ∀ {l : List LV} {K' : List LV → Prop}, strL l K' → K' l
  | [], _, h => h
  | x :: r, K', h => strL_gives (l := r) (strV_gives (x := x) (K' := fun x => strL r fun r => K' (x :: r)) h)
theorem strW_gives {x : LV} {K' : LV → Prop} (h : strW x K') : K' x := by
  cases x <;> first | exact h | exact strL_gives h
theorem strE_gives : ∀ {l : List (Nat × LV)} {K' : List (Nat × LV) → Prop}, strE l K' → K' l
  | [], _, h => h
  | (n, x) :: r, K', h => strE_gives (l := r) (strW_gives (x := x) (K' := fun x => strE r fun r => K' ((n, x) :: r)) h)
theorem strO_gives {x : Ob} {K' : Ob → Prop} (h : strO x K') : K' x := by
  cases x <;> first | exact h | exact strL_gives h
theorem strC_gives : ∀ {l : List (Nat × Ob)} {K' : List (Nat × Ob) → Prop}, strC l K' → K' l
  | [], _, h => h
  | (n, x) :: r, K', h => strC_gives (l := r) (strO_gives (x := x) (K' := fun x => strC r fun r => K' ((n, x) :: r)) h)
theorem strS_gives {st : St} {K' : St → Prop} (h : strS st K') : K' st := by
  obtain ⟨out, cur⟩ := st
  exact strC_gives (K' := fun cur => K' ⟨out, cur⟩) h
def strES (env : Env) (st : St) (K' : Env → St → Prop) : Prop := strE env fun env => strS st fun st => K' env st
theorem strES_gives {env : Env} {st : St} {K' : Env → St → Prop} (h : strES env st K') : K' env st := strS_gives (strE_gives h)

/-- A function without a body that is known: the first place of a byte. -/
def extW (args : List LV) (K' : LV → Prop) : Prop := match args with
  | [.t (.v (.string s)), .t (.v (.int .u8 c))] => ∀ n, n = Lib.indexByte s.data.toList c.toNat.toUInt8 → K' (.t (.v (.int .i64 n)))
  | _ => False

/-- A function without a body that only reckons: what it gives. -/
def ExtV (P : Program) (f : Nat) (vs : List Value) (y : LV) : Prop := ∀ w : World, ∃ r, (callFunc f vs.toArray).run P w = .ok (.value r) w ∧ ∀ (β : K → Nat) (RO : Nat → Prop), VL β RO w y r
def valsV : List LV → Option (List Value)
  | [] => some []
  | x :: r => match x, valsV r with
    | .t (.v u), some l => some (u :: l)
    | _, _ => none

/-- Slots that show a row of our own, which is given away, show closed data from now on. -/
def closeW (s sz : Nat) (es : List (List T)) (K' : Env → Prop) : Env → Prop
  | [] => K' []
  | p :: r => match p.2 with
    | .osl k sz' off len => match k with
      | .cur s' => match Nat.beq s' s with
        | true => match Nat.beq sz' sz with
          | true => ∃ x, x = (es.drop off).take len ∧ off + len ≤ es.length ∧ closeW s sz es (fun env => K' ((p.1, .t (.sl false sz x)) :: env)) r
          | false => closeW s sz es (fun env => K' (p :: env)) r
        | false => closeW s sz es (fun env => K' (p :: env)) r
      | _ => closeW s sz es (fun env => K' (p :: env)) r
    | _ => closeW s sz es (fun env => K' (p :: env)) r
/-- Rows of our own among the arguments are given away for ever: nobody writes them again. -/
def frzW (K' : List LV → Env → St → Prop) : List Operand → List LV → Env → St → Prop
  | [], acc, env, st => K' acc env st
  | o :: r, acc, env, st => match opd env o with
    | .agg cs => cellsTW (fun ts env st => frzW K' r (acc ++ [.agg (ts.map .t)]) env st) cs [] env st
    | .t x => frzW K' r (acc ++ [.t x]) env st
    | .osl k sz off len => match k with
      | .cur s => match look st.cur s with
        | some (.row _ sz' es) => match Nat.beq sz sz' with
          | true => ∃ x, x = (es.drop off).take len ∧ off + len ≤ es.length ∧ closeW s sz es (fun env => frzW K' r (acc ++ [.t (.sl false sz x)]) env { st with cur := delCur s st.cur }) env
          | false => False
        | _ => False
      | _ => False
    | _ => False

def callOpW (C : Ctx) (P : Program) (env : Env) (st : St) (d : Nat) (c : Call) (K' : LV → Env → St → Prop) : Prop :=
  match c.callee with
  | .builtin .append => match c.args.toList, c.argTypes.toList with
    | [x, y], [t, t'] => match Nat.beq t t' with
      | true => match look C.grd t with
        | none => appTW C env st d t (opd env x) (opd env y) fun x env st => strES env st (K' x)
        | some _ => appGW C env st d t (opd env x) (opd env y) fun x env st => strES env st (K' x)
      | false => False
    | _, _ => False
  | .value fo => match opd env fo with
    | .fn f (p :: cap) => strL (c.args.toList.map (opd env) ++ capArgs (p :: cap)) fun args => callW P env st d f args fun x env st => strES env st (K' x)
    | .fn f [] => match look C.exb f with
      | some _ => match valsV (c.args.toList.map (opd env)) with
        | some vs => ∃ y, ExtV P f vs y ∧ strW y fun y => K' y env st
        | none => False
      | none => match look C.exts f with
      | none => match look C.frz f with
        | none => match look C.srt f with
          | none => strL (c.args.toList.map (opd env) ++ capArgs []) fun args => callW P env st d f args fun x env st => strES env st (K' x)
          | some _ => match c.args.toList with
            | [x] => sortW st (opd env x) fun st => strS st fun st => K' (.tup []) env st
            | _ => False
        | some _ => frzW (fun args env st => SpecP P f args [] fun r ro => plW env st d r ro fun x env st => strES env st (K' x)) c.args.toList [] env st
      | some _ => extW (c.args.toList.map (opd env)) fun x => K' x env st
    | _ => False
  | _ => pureW C env st (.call c) fun x => K' x env st

/-- What is asked of an operation. -/
def opWs (C : Ctx) (P : Program) (s : Nat) (o : Oper) (env : Env) (st : St) (K' : LV → Env → St → Prop) : Prop :=
  match o.op with
  | .alloc t => match C.ty t with
    | some ti => boxW env st s (some (ti.zero.map fun v => .t (ofV v))) fun x env st => strS st (K' x env)
    | none => False
  | .box _ x => boxW env st s (cellsOf (opd env x)) fun x env st => strS st (K' x env)
  | .makeSlice t l c => makeW C env st s t (opd env l) (opd env c) fun x env st => strS st (K' x env)
  | .buildSlice t len parts => match look C.grd t with
    | none => litW C env st s t len parts.toList fun x env st => strES env st (K' x)
    | some _ => litGW C env st s t len parts.toList fun x env st => strES env st (K' x)
  | .store t x y => storeW C env st t (opd env x) (opd env y) fun env st => strES env st (K' .bad)
  | .call c => callOpW C P env st s c K'
  | .makeMap t none => mapMakeXW C env st s t fun x env st => strS st (K' x env)
  | .range t x => rangeW C env st s t (opd env x) fun x env st => strES env st (K' x)
  | .next x false => nextW st (opd env x) fun x st => strS st (K' x env)
  | .entry x => entryW st (opd env x) fun x => K' x env st
  | .mapUpdate t m k x => mapSetXW C env st t (opd env m) (opd env k) (opd env x) fun env st => strS st (K' .bad env)
  | .insert t m k x => mapSetXW C env st t (opd env m) (opd env k) (opd env x) fun env st => strS st (K' .bad env)
  | op => pureW C env st op fun x => K' x env st

/-- The same, its new memory named by its slot. -/
def opW (C : Ctx) (P : Program) (o : Oper) (env : Env) (st : St) (K' : LV → Env → St → Prop) : Prop := opWs C P (site o.dst) o env st K'

def putE (env : Env) (d : Option Nat) (x : LV) : Env := match d with
  | some d => (d, x) :: env
  | none => env

def gdE (ops : List Oper) (env : Env) (o : Oper) : Option Bool :=
  match o.guard with
  | none => some true
  | some (j, want) => match nth ops j with
    | some p => match p.dst with
      | some d => match look env d with
        | some (.t (.v (.bool b))) => some (match want with | true => b | false => !b)
        | some (.tup []) => some false
        | _ => none
      | none => none
    | none => none

/-- A truth value that a guard hangs on is told apart where it is made. -/
def splW (g : Bool) (x : LV) (K' : LV → Prop) : Prop :=
  match g, x with
  | true, .t (.v (.bool b)) => (b = true → K' (.t (.v (.bool true)))) ∧ (b = false → K' (.t (.v (.bool false))))
  | _, x => strW x K'

/-- Which operations make a truth value of their own. -/
def splK : Op → Bool
  | .move _ | .assign _ | .pick _ _ _ | .unOp _ _ _ => false
  | _ => true

def regGo (C : Ctx) (P : Program) (ops : List Oper) (Q : Env → St → Prop) : List Oper → Env → St → Prop
  | [], env, st => Q env st
  | o :: r, env, st => match gdE ops env o with
    | some true => opW C P o env st fun x env st => splW (splK o.op) x fun x => regGo C P ops Q r (putE env o.dst x) st
    | some false => regGo C P ops Q r (putE env o.dst (.tup [])) st
    | none => False

def regW (C : Ctx) (P : Program) (ops : List Oper) (env : Env) (st : St) (Q : Env → St → Prop) : Prop := regGo C P ops Q ops env st

section
variable {C : Ctx} {P : Program} (hC : C.OK P) {E : Ent} {N : Nat} {β : K → Nat} {RO : Nat → Prop} {env : Env} {st : St} {a : Act} {w w' : World}

theorem splW_gives {g : Bool} {x : LV} {K' : LV → Prop} (h : splW g x K') : K' x := by
  unfold splW at h
  split at h
  · rename_i b
    cases b
    · exact h.2 rfl
    · exact h.1 rfl
  · exact strW_gives h

def dstOK (N : Nat) : List Oper → Bool
  | [] => true
  | o :: r => match o.dst with
    | none => dstOK N r
    | some d => match Nat.blt d N with
      | true => dstOK N r
      | false => false
theorem dstOK_mem {N : Nat} : ∀ {l : List Oper}, dstOK N l = true → ∀ o ∈ l, ∀ d, o.dst = some d → d < N
  | [], _, o, ho => by cases ho
  | p :: r, h, o, ho => by
    unfold dstOK at h
    have key : dstOK N r = true ∧ ∀ d, p.dst = some d → d < N := by
      split at h
      · rename_i hp; exact ⟨h, fun d hd => by rw [hp] at hd; cases hd⟩
      · rename_i d hp
        split at h
        · rename_i hlt
          refine ⟨h, fun d' hd => ?_⟩
          rw [hp] at hd; cases hd
          simpa [Nat.blt_eq] using hlt
        · cases h
    rcases List.mem_cons.1 ho with rfl | ho
    · exact key.2
    · exact dstOK_mem key.1 o ho

theorem SR.put (h : SR E N β RO env st a w) {d : Option Nat} {x : LV} {v : Value} (hx : VL β RO w x v) (hd : ∀ n, d = some n → n < N) : SR E N β RO (putE env d x) st (a.put d v) w := by
  cases d with
  | none => exact h
  | some d =>
    refine ⟨h.wr, by simpa [Act.put] using h.size, h.defers, fun n y hy => ?_⟩
    simp only [putE, look_cons] at hy
    by_cases hn : d = n
    · subst hn
      simp only [if_true, Option.some.injEq] at hy
      subst hy
      have hlt := hd d rfl
      have hsz := h.size
      exact ⟨v, by rw [tmpAt_lt (by omega)]; simp [Act.put, hsz.1, hlt], hx⟩
    · rw [if_neg hn] at hy
      obtain ⟨u, h1, h2⟩ := h.env n y hy
      exact ⟨u, by rw [tmpAt_put hn]; exact h1, h2⟩

theorem gdE_wanted {ops : Array Oper} (hN : dstOK N ops.toList = true) (h : SR E N β RO env st a w) {o : Oper} {b : Bool} (hg : gdE ops.toList env o = some b) : Region.wanted o (yielded ops a.tmps) = b := by
  unfold gdE at hg
  unfold Region.wanted
  split at hg
  · rename_i h0; rw [h0]; cases hg; rfl
  · rename_i j want h0
    rw [h0]
    rw [nth_eq, Array.getElem?_toList] at hg
    split at hg
    · rename_i p hp
      split at hg
      · rename_i d hd
        have hlt : d < 1000000 := Nat.lt_of_lt_of_le (dstOK_mem hN p (by simpa using Array.mem_of_getElem? hp) d hd) h.size.2
        split at hg
        · rename_i bb hb
          cases hg
          obtain ⟨v, h1, h2⟩ := h.env d _ hb
          rw [tmpAt_lt hlt] at h1
          have := h2.v_inv; subst this
          have : yielded ops a.tmps j = some bb := by unfold yielded; rw [hp]; simp [hd, h1]
          simp only [this]
          cases bb <;> cases want <;> rfl
        · rename_i hb
          cases hg
          obtain ⟨v, h1, h2⟩ := h.env d _ hb
          rw [tmpAt_lt hlt] at h1
          have := h2.skip_inv; subst this
          have : yielded ops a.tmps j = none := by unfold yielded; rw [hp]; simp [hd, h1, undef]
          simp only [this]
          cases want <;> rfl
        · cases hg
      · cases hg
    · cases hg

/-- A run of an operation that yields a value. -/
theorem upon_gives {o : Oper} {s : Sem Value} {K' : LV → Env → St → Prop} {Q : Act → World → Prop} (he : (execOp a.eval o).run P w = (do pure (.value (← s)) : Sem Next).run P w) (hg : Gives P E N a w s K')
    (hQ : ∀ v x env' st' β' RO' w', K' x env' st' → SR E N β' RO' env' st' a w' → VL β' RO' w' x v → Q (a.put o.dst v) w') : o.wp P a w Q fun _ _ _ => False := by
  obtain ⟨v, w', x, env', st', β', RO', h1, h2, h3, h4⟩ := hg
  unfold Oper.wp
  rw [he]
  simp only [Sem.run_bind, h1, Result.andThen_ok, Sem.run_pure, Oper.upon]
  exact hQ v x env' st' β' RO' w' h2 h3 h4

theorem closeW_look {s sz : Nat} {es : List (List T)} : ∀ {l : Env} {K' : Env → Prop}, closeW s sz es K' l → ∃ l', K' l' ∧ ∀ n y, look l' n = some y → ∃ x, look l n = some x ∧ (y = x ∨ ∃ off len, x = .osl (.cur s) sz off len ∧ off + len ≤ es.length ∧ y = .t (.sl false sz ((es.drop off).take len)))
  | [], K', h => ⟨[], h, fun n y h => by simp [look] at h⟩
  | p :: r, K', h => by
    have stay : closeW s sz es (fun env => K' (p :: env)) r → ∃ l', K' l' ∧ ∀ n y, look l' n = some y → ∃ x, look (p :: r) n = some x ∧ (y = x ∨ ∃ off len, x = .osl (.cur s) sz off len ∧ off + len ≤ es.length ∧ y = .t (.sl false sz ((es.drop off).take len))) := fun h => by
      obtain ⟨l', h1, h2⟩ := closeW_look h
      refine ⟨p :: l', h1, fun n y hy => ?_⟩
      rw [look_cons] at hy
      rw [look_cons]
      split at hy
      · rename_i he
        cases hy
        exact ⟨_, by rw [if_pos he], .inl rfl⟩
      · rename_i he
        rw [if_neg he]
        exact h2 n y hy
    unfold closeW at h
    split at h
    · rename_i k sz' off len hp
      split at h
      · rename_i s'
        split at h
        · rename_i hs
          have hs : s' = s := by simpa using hs
          split at h
          · rename_i hz
            have hz : sz' = sz := by simpa using hz
            subst hs hz
            obtain ⟨x, rfl, hl, h⟩ := h
            obtain ⟨l', h1, h2⟩ := closeW_look h
            refine ⟨_, h1, fun n y hy => ?_⟩
            rw [look_cons] at hy
            rw [look_cons]
            split at hy
            · rename_i he
              cases hy
              exact ⟨_, by rw [if_pos he], .inr ⟨off, len, hp, hl, rfl⟩⟩
            · rename_i he
              rw [if_neg he]
              exact h2 n y hy
          · exact stay h
        · exact stay h
      · exact stay h
    · exact stay h
theorem closeW_gives {K' : Env → Prop} {s e sz : Nat} {es : List (List T)} (h : SR E N β RO env st a w) (hlk : look st.cur s = some (.row e sz es)) (hW : closeW s sz es K' env) :
    ∃ env', SR E N β (fun b => RO b ∨ b = β (.cur s)) env' { st with cur := delCur s st.cur } a w ∧ K' env' := by
  obtain ⟨l', h1, h2⟩ := closeW_look hW
  have hf := h.freeze hlk
  refine ⟨l', ⟨hf.wr, h.size, h.defers, fun n y hy => ?_⟩, h1⟩
  obtain ⟨x, hx, hxy⟩ := h2 n y hy
  obtain ⟨v, hv, hvl⟩ := h.env n x hx
  refine ⟨v, hv, ?_⟩
  rcases hxy with rfl | ⟨off, len, rfl, hl, rfl⟩
  · exact hvl.ro fun b hb => .inl hb
  · exact .t _ _ (snap (fun b hb => .inl hb) (.inr rfl) (h.wr.obj (.cur s) _ hlk) hvl hl)

theorem frzW_gives {K' : List LV → Env → St → Prop} : ∀ {l : List Operand} {acc : List LV} {us : List Value} {RO : Nat → Prop} {env : Env} {st : St}, SR E N β RO env st a w → (∀ RO' : Nat → Prop, (∀ b, RO b → RO' b) → Vals β RO' w acc us) → frzW K' l acc env st →
    ∃ env' st' RO' args, SR E N β RO' env' st' a w ∧ Vals β RO' w args (us ++ l.map a.eval) ∧ K' args env' st'
  | [], acc, us, RO, env, st, h, ha, hW => ⟨env, st, RO, acc, h, by simpa using ha RO fun _ h => h, hW⟩
  | o :: r, acc, us, RO, env, st, h, ha, hW => by
    have hx := h.opd o
    unfold frzW at hW
    have next : ∀ {RO1 : Nat → Prop} {env1 : Env} {st1 : St} {y : LV}, (∀ b, RO b → RO1 b) → SR E N β RO1 env1 st1 a w → VL β RO1 w y (a.eval o) → frzW K' r (acc ++ [y]) env1 st1 → ∃ env' st' RO' args, SR E N β RO' env' st' a w ∧ Vals β RO' w args (us ++ (o :: r).map a.eval) ∧ K' args env' st' := by
      intro RO1 env1 st1 y hro h1 hy hW1
      obtain ⟨env', st', RO', args, h2, h3, h4⟩ := frzW_gives h1 (acc := acc ++ [y]) (us := us ++ [a.eval o]) (fun RO2 hro2 => (ha RO2 fun b hb => hro2 b (hro b hb)).snoc (hy.ro hro2)) hW1
      exact ⟨env', st', RO', args, h2, by simpa using h3, h4⟩
    split at hW
    · rename_i cs ho
      rw [ho] at hx
      generalize hv : a.eval o = v at hx
      cases hx with
      | agg _ vs hl hcv h1 =>
      obtain ⟨env1, st1, RO1, ts, hro, h2, ht, hW1⟩ := cellsTW_gives (K' := fun ts env st => frzW K' r (acc ++ [.agg (ts.map .t)]) env st) h (vs := vs) ⟨hl, hcv, h1⟩ (acc := []) (us := []) ⟨rfl, fun i x v hx => by simp at hx⟩ hW
      simp only [List.nil_append] at ht
      refine next hro h2 ?_ hW1
      rw [hv]
      refine .agg _ vs (by simpa using ht.1) (fun i x v hx hv => ?_) h1
      rw [List.getElem?_map] at hx
      cases hc : ts[i]? with
      | none => simp [hc] at hx
      | some y => simp [hc] at hx; rw [← hx]; exact .t _ _ (ht.2 i y v hc hv)
    · rename_i x ho
      rw [ho] at hx
      exact next (fun _ h => h) h hx hW
    · rename_i k sz off len ho
      rw [ho] at hx
      split at hW
      rotate_left
      · cases hW
      rename_i s
      split at hW
      rotate_left
      · cases hW
      rename_i e sz' es hlk
      split at hW
      rotate_left
      · cases hW
      rename_i hsz
      simp at hsz
      subst hsz
      obtain ⟨x, rfl, hl, hW⟩ := hW
      obtain ⟨env1, h1, hW⟩ := closeW_gives h hlk hW
      exact next (fun b hb => .inl hb) h1 (.t _ _ (snap (fun b hb => .inl hb) (.inr rfl) (h.wr.obj (.cur s) _ hlk) hx hl)) hW
    · cases hW

/-- A call, once its contract is at hand. -/
theorem call_wp_of {o : Oper} {c : Call} {fo : Operand} {f : Nat} {Q : Act → World → Prop} (hop : o.op = .call c) (hcal : c.callee = .value fo) (h : SR E N β RO env st a w) (hf : opd env fo = .fn f []) (hfn : FnOK P f)
    (hcalls : Calls P f (c.args.toList.map a.eval).toArray w fun e w' => ∃ v, e = .returned v ∧ Q (a.put o.dst v) w') : o.wp P a w Q fun _ _ _ => False := by
  have hfv := h.opd fo
  rw [hf] at hfv
  cases hv : a.eval fo <;> rw [hv] at hfv <;> cases hfv
  unfold FnOK at hfn
  cases hfun : P.funcs[f]? with
  | none => simp [hfun] at hfn
  | some fn =>
    simp only [hfun, Option.any_some, Bool.and_eq_true, bne_iff_ne, ne_eq] at hfn
    have hbody : fn.body.isNone = false := by
      cases hb : fn.body with
      | none => simp [hb] at hfn
      | some _ => rfl
    have hrun : (execOp a.eval o).run P w = .ok (.enter f (c.args.toList.map a.eval).toArray) w := by
      have hname : (fn.name == "runtime.NumGoroutine") = false := by simpa using hfn.2
      simp only [execOp, hop, resolve, hcal, hv, Deferred.ofValue, Sem.run_bind, Sem.run_pure, Result.andThen_ok, invoke, callFunc, run_program, hfun, hname, hbody, Bool.false_eq_true, if_false]
      congr 2
      rw [← Array.toList_inj]
      simp
    unfold Oper.wp
    rw [hrun]
    simp only [Oper.upon]
    refine hcalls.mono ?_
    rintro e w' ⟨v, rfl, hQ⟩
    exact hQ

include hC
theorem pure_wp {o : Oper} {K' : LV → Prop} {Q : Act → World → Prop} (h : SR E N β RO env st a w) (hW : pureW C env st o.op K') (hQ : ∀ v x, K' x → VL β RO w x v → Q (a.put o.dst v) w) : o.wp P a w Q fun _ _ _ => False := by
  obtain ⟨x, hx, hK⟩ := pureW_pev hW
  obtain ⟨v, h1, h2⟩ := pev_sound hC h hx
  unfold Oper.wp
  rw [h1]
  exact hQ v x hK h2

omit hC in
theorem Gives.mono {s : Sem Value} {K1 K2 : LV → Env → St → Prop} (h : Gives P E N a w s K1) (hK : ∀ x env st, K1 x env st → K2 x env st) : Gives P E N a w s K2 := by
  obtain ⟨v, w', x, env', st', β', RO', h1, h2, h3⟩ := h
  exact ⟨v, w', x, env', st', β', RO', h1, hK _ _ _ h2, h3⟩

theorem opWs_sound {s : Nat} {o : Oper} {K' : LV → Env → St → Prop} {Q : Act → World → Prop} (h : SR E N β RO env st a w) (hW : opWs C P s o env st K')
    (hQ : ∀ v x env' st' β' RO' w', K' x env' st' → SR E N β' RO' env' st' a w' → VL β' RO' w' x v → Q (a.put o.dst v) w') : o.wp P a w Q fun _ _ _ => False := by
  unfold opWs at hW
  split at hW
  · rename_i t hop
    split at hW
    · rename_i ti hti
      exact upon_gives (s := Instr.alloc t true (.tuple #[])) (by simp only [execOp, hop]) ((allocW_gives hC h hti hW).mono fun _ _ _ => strS_gives) hQ
    · cases hW
  · rename_i t x hop
    exact upon_gives (s := Instr.box t (a.eval x)) (by simp only [execOp, hop]) ((boxW_gives h hW).mono fun _ _ _ => strS_gives) hQ
  · rename_i t l c hop
    exact upon_gives (s := Instr.makeSlice t (a.eval l) (a.eval c)) (by simp only [execOp, hop]) ((madeW_gives hC h hW).mono fun _ _ _ => strS_gives) hQ
  · rename_i t len parts hop
    refine upon_gives (s := Instr.buildSlice t len (parts.map fun p => (p.1, a.eval p.2))) (by simp only [execOp, hop]) ?_ hQ
    split at hW
    · have := (litW_gives hC h hW).mono fun _ _ _ => strES_gives
      simpa using this
    · have := (litGW_gives hC h hW).mono fun _ _ _ => strES_gives
      simpa using this
  · rename_i t x y hop
    obtain ⟨w', env', st', β', RO', h1, h2, h3⟩ := storeW_gives hC h (h.opd x) (h.opd y) hW
    unfold Oper.wp
    simp only [execOp, hop, Sem.run_bind, h1, Result.andThen_ok, Sem.run_pure, Oper.upon]
    exact hQ undef .bad env' st' β' RO' w' (strES_gives h2) h3 (.bad _)
  · rename_i c hop
    unfold callOpW at hW
    split at hW
    · rename_i hcal
      split at hW
      · rename_i x y t t' hargs hts
        split at hW
        · rename_i ht
          simp at ht
          subst ht
          have e1 : c.args = #[x, y] := by rw [← Array.toList_inj]; exact hargs
          have e2 : c.argTypes = #[t, t] := by rw [← Array.toList_inj]; exact hts
          refine upon_gives (s := Builtin.append_ #[t, t] o.type #[a.eval x, a.eval y]) ?_ (by
            split at hW
            · exact (appTW_gives hC h (h.opd x) (h.opd y) hW).mono fun _ _ _ => strES_gives
            · exact (appGW_gives hC h (h.opd x) (h.opd y) hW).mono fun _ _ _ => strES_gives) hQ
          simp only [execOp, hop, resolve, hcal, invoke, builtin, e1, e2, Sem.run_bind, Sem.run_pure, Result.andThen_ok]
          simp
        · cases hW
      · cases hW
    · rename_i fo hcal
      split at hW
      · rename_i f p cap hf
        exact call_wp hop hcal h hf (strL_gives hW) fun v x env' st' β2 RO2 w' hK hs hv _ => hQ v x env' st' β2 RO2 w' (strES_gives hK) hs hv
      · rename_i f hf
        split at hW
        · split at hW
          rotate_left
          · cases hW
          rename_i vs hvs
          obtain ⟨y, hE, hK⟩ := hW
          have hfv := h.opd fo
          rw [hf] at hfv
          cases hv : a.eval fo <;> rw [hv] at hfv <;> cases hfv
          have hgen : ∀ (l : List Operand) (vs : List Value), valsV (l.map (opd env)) = some vs → l.map a.eval = vs := by
            intro l
            induction l with
            | nil => intro vs hl; cases hl; rfl
            | cons p l ih =>
              intro vs hl
              simp only [List.map_cons, valsV] at hl
              split at hl
              · rename_i u l' hx hl'
                cases hl
                have h1 := h.opd p
                rw [hx] at h1
                rw [List.map_cons, ih _ hl', h1.v_inv]
              · cases hl
          have hargs' := hgen _ _ hvs
          have hargs2 : c.args.map a.eval = vs.toArray := by rw [← Array.toList_inj]; simpa using hargs'
          obtain ⟨r, hr, hy⟩ := hE w
          unfold Oper.wp
          have hrun : (execOp a.eval o).run P w = .ok (.value r) w := by
            simp only [execOp, hop, resolve, hcal, hv, Deferred.ofValue, Sem.run_bind, Sem.run_pure, Result.andThen_ok, invoke, hargs2]
            simpa using hr
          rw [hrun]
          exact hQ _ _ env st β RO w (strW_gives hK) h (hy β RO)
        split at hW
        rotate_left
        · rename_i kx hkx
          unfold extW at hW
          split at hW
          rotate_left
          · cases hW
          rename_i s n hargs
          have hfv := h.opd fo
          rw [hf] at hfv
          cases hv : a.eval fo <;> rw [hv] at hfv <;> cases hfv
          have hgen : ∀ l : List Operand, l.map (opd env) = [.t (.v (.string s)), .t (.v (.int .u8 n))] → l.map a.eval = [.string s, .int .u8 n] := by
            intro l hl
            match l, hl with
            | [], hl => simp at hl
            | [_], hl => simp at hl
            | _ :: _ :: _ :: _, hl => simp at hl
            | [p, q], hl =>
              simp only [List.map_cons, List.map_nil, List.cons.injEq, and_true] at hl ⊢
              have h1 := h.opd p; have h2 := h.opd q
              rw [hl.1] at h1; rw [hl.2] at h2
              exact ⟨h1.v_inv, h2.v_inv⟩
          have hargs' := hgen _ hargs
          have hargs2 : c.args.map a.eval = #[.string s, .int .u8 n] := by rw [← Array.toList_inj]; simpa using hargs'
          unfold Oper.wp
          have hrun : (execOp a.eval o).run P w = .ok (.value (.int .i64 (Lib.indexByte s.data.toList n.toNat.toUInt8))) w := by
            have := hC.exts f kx hkx s n w
            simp only [execOp, hop, resolve, hcal, hv, Deferred.ofValue, Sem.run_bind, Sem.run_pure, Result.andThen_ok, invoke, hargs2]
            simpa using this
          rw [hrun]
          exact hQ _ _ env st β RO w (hW _ rfl) h (.t _ _ (.v _ rfl))
        split at hW
        rotate_left
        · obtain ⟨env1, st1, RO1, args, h1, h2, hS⟩ := frzW_gives h (acc := []) (us := []) (fun _ _ => ⟨rfl, fun i x v h => by simp at h⟩) hW
          simp only [List.nil_append] at h2
          refine call_wp_of hop hcal h hf hS.1 ((hS.2 β RO1 w _ (bare_wr h1.wr) h2).mono ?_)
          rintro e w' ⟨v, r, ro, out', β', RO', he, hp, hw, hr⟩
          obtain ⟨x, env', st', β2, RO2, g1, g2, g3, _⟩ := plW_gives h1 hw hr hp (.inl fun b hb => (hw.roNew b hb).imp id fun h => h.elim id False.elim)
          exact ⟨v, he, hQ v x env' st' β2 RO2 w' (strES_gives g1) g2 g3⟩
        split at hW
        · exact call_wp hop hcal h hf (strL_gives hW) fun v x env' st' β2 RO2 w' hK hs hv _ => hQ v x env' st' β2 RO2 w' (strES_gives hK) hs hv
        · rename_i kx hkx
          split at hW
          rotate_left
          · cases hW
          rename_i x hargs
          have hS := hC.srt f kx hkx
          refine call_wp_of hop hcal h hf hS.1 ?_
          rw [hargs]
          refine (sortW_gives hS h (h.opd x) hW).mono ?_
          rintro e w' ⟨rfl, st', hK, hs⟩
          exact ⟨_, rfl, hQ _ _ env st' β RO w' (strS_gives hK) hs (.tup [] [] rfl fun i x v h => by simp at h)⟩
      · cases hW
    · exact pure_wp hC h (hop ▸ hW) fun v x hK hv => hQ v x env st β RO w hK h hv
  · rename_i t hop
    exact upon_gives (s := Instr.makeMap t none) (by simp only [execOp, hop, Option.map_none]) ((mapMakeXW_gives h hW).mono fun _ _ _ => strS_gives) hQ
  · rename_i t x hop
    exact upon_gives (s := Instr.range t (a.eval x)) (by simp only [execOp, hop]) ((rangeW_gives hC h (h.opd x) hW).mono fun _ _ _ => strES_gives) hQ
  · rename_i x hop
    refine upon_gives (s := Instr.next (a.eval x) false o.type) (by simp only [execOp, hop]) (nextW_gives h (h.opd x) hW) ?_
    rintro v y env' st' β' RO' w' ⟨rfl, hK⟩ hs hv
    exact hQ v y env' st' β' RO' w' (strS_gives (K' := fun st => K' y env' st) hK) hs hv
  · rename_i x hop
    obtain ⟨u, y, h1, h2, h3⟩ := entryW_gives (P := P) h (h.opd x) hW
    unfold Oper.wp
    simp only [execOp, hop, Sem.run_bind, h1, Result.andThen_ok, Sem.run_pure, Oper.upon]
    exact hQ u y env st β RO w h2 h h3
  · rename_i t m k x hop
    obtain ⟨w', env', st', β', RO', h1, h2, h3⟩ := mapSetXW_gives hC h (h.opd m) (h.opd k) (h.opd x) hW
    unfold Oper.wp
    simp only [execOp, hop, Sem.run_bind, h1, Result.andThen_ok, Sem.run_pure, Oper.upon]
    exact hQ undef .bad env' st' β' RO' w' (strS_gives h2) h3 (.bad _)
  · rename_i t m k x hop
    obtain ⟨w', env', st', β', RO', h1, h2, h3⟩ := mapSetXW_gives hC h (h.opd m) (h.opd k) (h.opd x) hW
    unfold Oper.wp
    simp only [execOp, hop, Sem.run_bind, h1, Result.andThen_ok, Sem.run_pure, Oper.upon]
    exact hQ undef .bad env' st' β' RO' w' (strS_gives h2) h3 (.bad _)
  · exact pure_wp hC h hW fun v x hK hv => hQ v x env st β RO w hK h hv

/-- The states in which a piece of code leaves. -/
def Post (E : Ent) (N : Nat) (Q : Exit → Env → St → Prop) : Exit → Act → World → Prop := fun e a w => ∃ env st β RO, Q e env st ∧ SR E N β RO env st a w

theorem opW_sound {o : Oper} {K' : LV → Env → St → Prop} {Q : Act → World → Prop} (h : SR E N β RO env st a w) (hW : opW C P o env st K')
    (hQ : ∀ v x env' st' β' RO' w', K' x env' st' → SR E N β' RO' env' st' a w' → VL β' RO' w' x v → Q (a.put o.dst v) w') : o.wp P a w Q fun _ _ _ => False := opWs_sound hC h hW hQ

theorem regGo_sound {ops : Array Oper} {Q : Env → St → Prop} {Q' : Exit → Act → World → Prop} (hd : dstOK N ops.toList = true) (hQ : ∀ env st β RO a w, Q env st → SR E N β RO env st a w → Q' .normal a w) :
    ∀ (l : List Oper) (k : Nat) (β : K → Nat) (RO : Nat → Prop) (env : Env) (st : St) (a : Act) (w : World), ops.toList.drop k = l → SR E N β RO env st a w → regGo C P ops.toList Q l env st → wpOps P ops Q' (List.range' k l.length) a w
  | [], k, β, RO, env, st, a, w, _, h, hW => hQ env st β RO a w hW h
  | o :: r, k, β, RO, env, st, a, w, hk, h, hW => by
    have hok : ops[k]? = some o := by
      have : (ops.toList.drop k)[0]? = some o := by rw [hk]; rfl
      rw [List.getElem?_drop, Nat.add_zero, Array.getElem?_toList] at this
      exact this
    have hdr : ops.toList.drop (k + 1) = r := by
      have := congrArg (List.drop 1) hk
      rw [List.drop_drop] at this
      simpa [Nat.add_comm] using this
    have hdo : ∀ d, o.dst = some d → d < N := dstOK_mem hd o (by
      have : o ∈ ops.toList.drop k := by rw [hk]; exact List.mem_cons_self ..
      exact List.mem_of_mem_drop this)
    simp only [List.length_cons, List.range'_succ, wpOps, hok]
    unfold regGo at hW
    split at hW
    · rename_i hg
      rw [gdE_wanted hd h hg, if_pos rfl]
      have hnx := opW_sound hC (Q := wpOps P ops Q' (List.range' (k + 1) r.length)) h hW fun v x env' st' β' RO' w' hK hs hv =>
        regGo_sound hd hQ r (k + 1) β' RO' _ st' _ w' hdr (hs.put hv hdo) (splW_gives hK)
      exact .inl (anyF_sound.wp_weaken (fun _ _ _ h => h.elim) hnx)
    · rename_i hg
      rw [gdE_wanted hd h hg, if_neg (by simp)]
      exact regGo_sound hd hQ r (k + 1) β RO _ st _ w hdr (h.put .skip hdo) hW
    · cases hW

theorem regW_sound {id : Nat} {ops : Array Oper} {Q : Env → St → Prop} {Q' : Exit → Act → World → Prop} (hd : dstOK N ops.toList = true) (hQ : ∀ env st β RO a w, Q env st → SR E N β RO env st a w → Q' .normal a w)
    (h : SR E N β RO env st a w) (hW : regW C P ops.toList env st Q) : (Code.region id ops false).wp P Q' a w := by
  refine wp_region ?_
  rw [List.range_eq_range', show ops.size = ops.toList.length by simp]
  exact regGo_sound hC hd hQ ops.toList 0 β RO env st a w rfl h hW

end
end Go.Fw

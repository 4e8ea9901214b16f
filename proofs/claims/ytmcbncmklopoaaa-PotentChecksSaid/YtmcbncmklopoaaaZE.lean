/- Texts that lead to the law, part 5. -/
import Derived.Test.YtmcbncmklopoaaaZD

/- The value logic, part 17g: literals of rows of rows; a row of rows that grows by append. -/
namespace Go.Fw
open Go

/-- A literal of one row: a row of rows. -/
def litGW (C : Ctx) (env : Env) (st : St) (s t len : Nat) (parts : List (Nat × Operand)) (K' : LV → Env → St → Prop) : Prop :=
  match C.ty t with
  | some ⟨.slice e, _, _, _⟩ => match C.ty e with
    | some ⟨.slice e2, tsz, _, _⟩ => match C.ty e2 with
      | some te2 => match parts with
        | [(0, o)] => match Nat.beq len 1, Nat.beq tsz 1, freshB env st.cur s with
          | true, true, true => match opd env o with
            | .t (.sl true _ _) => K' (.osl (.cur s) 1 0 1) env { st with cur := (s, .grid e e2 te2.size [.nil]) :: st.cur }
            | .osl (.cur s2) szr 0 n => match look st.cur s2, Nat.beq szr te2.size, Nat.beq s2 s with
              | some (.row e3 szq es), true, false => match Nat.beq e3 e2, Nat.beq szq te2.size, noMit (.sub (.cur s) 0) st.cur with
                | true, true, true => n = es.length ∧ K' (.osl (.cur s) 1 0 1) (purgeE (.sub (.cur s) 0) (purgeE (.cur s2) env))
                    { st with cur := setCur (absorbC s s2 0 ((s, .grid e e2 te2.size [.out]) :: st.cur)) s (.grid e e2 te2.size [.row es]) }
                | _, _, _ => False
              | _, _, _ => False
            | _ => False
          | _, _, _ => False
        | _ => False
      | none => False
    | _ => False
  | _ => False

/-- A literal of one row is appended to a row of rows of our own, or to none. -/
def appGW (C : Ctx) (env : Env) (st : St) (s t : Nat) (x y : LV) (K' : LV → Env → St → Prop) : Prop :=
  match C.ty t with
  | some ⟨.slice e, _, _, _⟩ => match C.ty e with
    | some te => match y with
      | .osl (.cur h) 1 0 1 => match look st.cur h, Nat.beq te.size 1 with
        | some (.grid eo e2 sz [r]), true => match Nat.beq eo e, freshB env st.cur (s + 1), Nat.beq (s + 1) h with
          | true, true, false => match x with
            | .osl (.cur g) 1 0 len => match look st.cur g, Nat.beq h g, Nat.beq (s + 1) g with
              | some (.grid eo' e2' sz' rs), false, false => match Nat.beq eo' e, Nat.beq e2' e2, Nat.beq sz' sz with
                | true, true, true => len = rs.length ∧ (rs.length + 1) * te.bytes ≤ 140737488355328 ∧ rs.length + 1 ≤ 140737488355328 ∧ match r with
                  | .nil => K' (.osl (.cur g) 1 0 (rs.length + 1)) (purgeE (.cur g) env) { st with cur := setCur (purgeC (.cur g) st.cur) g (.grid e e2 sz (rs ++ [.nil])) }
                  | .row es => match noMit (.sub (.cur g) rs.length) (setCur (purgeC (.cur g) ((s + 1, .row e2 sz es) :: setCur (purgeC (.sub (.cur h) 0) st.cur) h (.grid e e2 sz [.out]))) g (.grid e e2 sz (rs ++ [.out]))) with
                    | true => K' (.osl (.cur g) 1 0 (rs.length + 1)) (purgeE (.sub (.cur g) rs.length) (purgeE (.cur (s + 1)) (purgeE (.cur g) (purgeE (.sub (.cur h) 0) env))))
                      { st with cur := setCur (absorbC g (s + 1) rs.length (setCur (purgeC (.cur g) ((s + 1, .row e2 sz es) :: setCur (purgeC (.sub (.cur h) 0) st.cur) h (.grid e e2 sz [.out]))) g (.grid e e2 sz (rs ++ [.out])))) g (.grid e e2 sz (rs ++ [.row es])) }
                    | false => False
                  | .out => False
                | _, _, _ => False
              | _, _, _ => False
            | .t (.sl true _ _) => match freshB env st.cur s, Nat.beq s h with
              | true, false => te.bytes ≤ 140737488355328 ∧ match r with
                | .nil => K' (.osl (.cur s) 1 0 1) env { st with cur := (s, .grid e e2 sz [.nil]) :: st.cur }
                | .row es => match noMit (.sub (.cur s) 0) (setCur (purgeC (.sub (.cur h) 0) st.cur) h (.grid e e2 sz [.out])), freshB (purgeE (.sub (.cur h) 0) env) ((s + 1, .row e2 sz es) :: setCur (purgeC (.sub (.cur h) 0) st.cur) h (.grid e e2 sz [.out])) s with
                  | true, true => K' (.osl (.cur s) 1 0 1) (purgeE (.sub (.cur s) 0) (purgeE (.cur (s + 1)) (purgeE (.sub (.cur h) 0) env)))
                    { st with cur := setCur (absorbC s (s + 1) 0 ((s, .grid e e2 sz [.out]) :: (s + 1, .row e2 sz es) :: setCur (purgeC (.sub (.cur h) 0) st.cur) h (.grid e e2 sz [.out]))) s (.grid e e2 sz [.row es]) }
                  | _, _ => False
                | .out => False
              | _, _ => False
            | _ => False
          | _, _, _ => False
        | _, _ => False
      | _ => False
    | none => False
  | _ => False

section
variable {C : Ctx} {P : Program} (hC : C.OK P) {E : Ent} {N : Nat} {β : K → Nat} {RO : Nat → Prop} {env : Env} {st : St} {a : Act} {w w' : World}

/-- A row of rows that is told with other rows of the same own rows. -/
theorem get_growGrid {s : Nat} {eo e sz : Nat} {rs rs' : List GR} (h : look st.cur s = some (.grid eo e sz rs)) (hr : ∀ (i : Nat) (es : List (List T)), rs'[i]? = some (.row es) ↔ rs[i]? = some (.row es)) (k : K) :
    St.get { st with cur := setCur st.cur s (.grid eo e sz rs') } k = if k = .cur s then some (.grid eo e sz rs') else st.get k := by
  have hroot : ∀ k, k.root = true → St.get { st with cur := setCur st.cur s (.grid eo e sz rs') } k = if k = .cur s then some (.grid eo e sz rs') else st.get k := by
    intro k hk
    cases k with
    | cur n => simp only [St.get, look_setCur, K.cur.injEq, h, Option.map_some]
    | fr i n => simp [St.get]
    | sub => cases hk
  cases k with
  | cur n => exact hroot _ rfl
  | fr i n => exact hroot _ rfl
  | sub k i =>
    rw [if_neg (by simp)]
    cases hk : k.root with
    | false =>
      have no : ∀ S : St, S.get (.sub k i) = none := by
        intro S
        cases hg : S.get (.sub k i) with
        | none => rfl
        | some o => obtain ⟨_, _, _, _, _, hg, _⟩ := St.get_sub hg; rw [St.root_of_get_grid hg] at hk; cases hk
      rw [no, no]
    | true =>
      by_cases hks : k = .cur s
      · subst hks
        have e1 : St.get { st with cur := setCur st.cur s (.grid eo e sz rs') } (.cur s) = some (.grid eo e sz rs') := by rw [hroot _ rfl, if_pos rfl]
        have e2 : st.get (.cur s) = some (.grid eo e sz rs) := h
        simp only [St.get] at e1 e2 ⊢
        simp only [e1, e2]
        cases h1 : rs'[i]? with
        | none =>
          cases h2 : rs[i]? with
          | none => rfl
          | some r => cases r with
            | row es => have := (hr i es).2 h2; rw [h1] at this; cases this
            | _ => rfl
        | some r' => cases r' with
          | row es => rw [(hr i es).1 h1]
          | nil =>
            cases h2 : rs[i]? with
            | none => rfl
            | some r => cases r with
              | row es => have := (hr i es).2 h2; rw [h1] at this; cases this
              | _ => rfl
          | out =>
            cases h2 : rs[i]? with
            | none => rfl
            | some r => cases r with
              | row es => have := (hr i es).2 h2; rw [h1] at this; cases this
              | _ => rfl
      · have := hroot k hk
        rw [if_neg hks] at this
        simp only [St.get, this]

theorem grid_block {k : K} {eo e sz : Nat} {rs : List GR} (h : ObOK β RO w k (.grid eo e sz rs)) :
    ∃ us cap cur, w.heap[β k]? = some (.cells cur eo (0, 0)) ∧ rs.length ≤ cap ∧ cap ≤ maxLen ∧ cur.size = cap ∧ cur.toList.take rs.length = us ∧ us.length = rs.length ∧
      ∀ (i : Nat) (r : GR) (u : Value), rs[i]? = some r → us[i]? = some u → match r with
        | .nil => u = .slice none 0 0
        | .row es => VL β RO w (.osl (.sub k i) sz 0 es.length) u
        | .out => True := by
  obtain ⟨us, cap, hown, hf⟩ := h
  rcases hown.2 with ⟨h0, _⟩ | ⟨g, cap', cur, hv, _, hh, hnc, hcm, hcs, htk⟩
  · cases h0
  · cases hv
    rw [Nat.mul_one] at hcs htk
    exact ⟨us, cap, cur, hh, hnc, hcm, hcs, htk, by have := hown.1; omega, hf⟩

/-- The same memory: the rows of an object told otherwise. -/
theorem SR.retell (h : SR E N β RO env st a w) {s : Nat} {eo e sz : Nat} {rs rs' : List GR} (hk : look st.cur s = some (.grid eo e sz rs)) (hr : ∀ (i : Nat) (es : List (List T)), rs'[i]? = some (.row es) ↔ rs[i]? = some (.row es))
    (hob : ObOK β RO w (.cur s) (.grid eo e sz rs')) : SR E N β RO env { st with cur := setCur st.cur s (.grid eo e sz rs') } a w := by
  have hg := fun k => get_growGrid hk hr k
  have hsub : ∀ k o, St.get { st with cur := setCur st.cur s (.grid eo e sz rs') } k = some o → ∃ o0, st.get k = some o0 := fun k o ho => by
    rw [hg] at ho
    split at ho
    · rename_i he; subst he; exact ⟨_, hk⟩
    · exact ⟨o, ho⟩
  refine ⟨⟨h.wr.os, h.wr.tape, h.wr.output, h.wr.size, h.wr.keep, h.wr.roLt, h.wr.ro0, h.wr.roNew, fun k o ho => ?_, fun k o ho hc => ?_, fun k k' o o' h1 h2 hc hc' he => ?_, fun k o ho hc => ?_, fun k o ho hc => ?_, h.wr.stay⟩, h.size, h.defers, h.env⟩
  · rw [hg] at ho
    split at ho
    · rename_i he; subst he; cases ho; exact hob
    · exact h.wr.obj k o ho
  · obtain ⟨o0, h0⟩ := hsub k o ho; exact h.wr.objNew k o0 h0 hc
  · obtain ⟨p, hp⟩ := hsub k o h1
    obtain ⟨q, hq⟩ := hsub k' o' h2
    exact h.wr.inj k k' p q hp hq hc hc' he
  · obtain ⟨o0, h0⟩ := hsub k o ho; exact h.wr.sep k o0 h0 hc
  · obtain ⟨o0, h0⟩ := hsub k o ho; exact h.wr.fzRO k o0 h0 hc

theorem out_rows (rs : List GR) (i : Nat) (es : List (List T)) : (rs ++ [GR.out])[i]? = some (.row es) ↔ rs[i]? = some (.row es) := by
  rcases Nat.lt_trichotomy i rs.length with h | h | h
  · rw [List.getElem?_append_left h]
  · subst h; simp
  · rw [List.getElem?_eq_none (by simp; omega), List.getElem?_eq_none (by omega)]
theorem nil_rows (rs : List GR) (i : Nat) (es : List (List T)) : (rs ++ [GR.nil])[i]? = some (.row es) ↔ (rs ++ [GR.out])[i]? = some (.row es) := by
  rcases Nat.lt_trichotomy i rs.length with h | h | h
  · rw [List.getElem?_append_left h, List.getElem?_append_left h]
  · subst h; simp
  · rw [List.getElem?_eq_none (by simp; omega), List.getElem?_eq_none (by simp; omega)]

/-- The last row of an object is none. -/
theorem SR.tellNil (h : SR E N β RO env st a w) {s : Nat} {eo e sz : Nat} {rs : List GR} (hk : look st.cur s = some (.grid eo e sz (rs ++ [.out]))) (hcell : w.cell? ⟨β (.cur s), rs.length, none⟩ = some (.slice none 0 0)) :
    SR E N β RO env { st with cur := setCur st.cur s (.grid eo e sz (rs ++ [.nil])) } a w := by
  refine h.retell hk (fun i es => nil_rows rs i es) ?_
  obtain ⟨us, cap, hown, hf⟩ := h.wr.obj (.cur s) _ hk
  rcases hown.2 with ⟨h0, _⟩ | ⟨g, cap', cur, hv, _, hh, hnc, hcm, hcs, htk⟩
  · cases h0
  cases hv
  refine ⟨us, cap, by simpa using hown, fun i r u hi hu => ?_⟩
  rcases Nat.lt_trichotomy i rs.length with hlt | rfl | hgt
  · rw [List.getElem?_append_left hlt] at hi
    exact hf i r u (by rw [List.getElem?_append_left hlt]; exact hi) hu
  · simp at hi
    subst hi
    rw [← htk, List.getElem?_take] at hu
    rw [cell_of_row w _ _ cur eo (0, 0) hh] at hcell
    split at hu
    · rw [Array.getElem?_toList, hcell] at hu; cases hu; rfl
    · cases hu
  · rw [List.getElem?_eq_none (by simp; omega)] at hi; cases hi

include hC
/-- A row of our own whose header stands in the last place: it is the object's last row. -/
theorem SR.takeRow {s s2 : Nat} {eo e sz : Nat} {rs : List GR} {es : List (List T)} {v : Value} {ti : TI} (h : SR E N β RO env st a w) (hk : look st.cur s = some (.grid eo e sz (rs ++ [.out]))) (hne : s2 ≠ s)
    (hk2 : look st.cur s2 = some (.row e sz es)) (ht : C.ty eo = some ti) (hsz : ti.size = 1) (hmit : noMit (.sub (.cur s) rs.length) st.cur = true) (hx : VL β RO w (.osl (.cur s2) sz 0 es.length) v)
    (hcell : w.cell? ⟨β (.cur s), rs.length, none⟩ = some v) :
    SR E N (fun k => if k = .sub (.cur s) rs.length then β (.cur s2) else β k) RO (purgeE (.sub (.cur s) rs.length) (purgeE (.cur s2) env)) { st with cur := setCur (absorbC s s2 rs.length st.cur) s (.grid eo e sz (rs ++ [.row es])) } a w := by
  obtain ⟨w', g1, g2⟩ := storeGrid hC h hk hne hk2 ht hsz rfl (i := rs.length) (by simp) hmit hx rfl
  have hset : (rs ++ [GR.out]).set rs.length (.row es) = rs ++ [.row es] := by
    rw [List.set_append_right _ _ (Nat.le_refl _)]; simp
  rw [hset] at g2
  have hvc : v.cells = #[v] := by cases hx; rfl
  obtain ⟨us, cap, cur, hh, hnc, hcm, hcs, htk, hul, hf⟩ := grid_block (h.wr.obj (.cur s) _ hk)
  rw [List.length_append, List.length_singleton] at hnc
  rw [cell_of_row w _ _ cur eo (0, 0) hh] at hcell
  have hrun := run_storeVar_at (c := rs.length) (v := v) hC ht hh (by rw [hvc, hsz]; rfl) (by rw [hvc]; simp; omega) (by rw [hvc]; simp; cases hx; rfl)
  rw [hvc] at hrun
  have hsame : (cur.toList.take rs.length ++ [v] ++ cur.toList.drop (rs.length + [v].length)).toArray = cur := by
    have hlt : rs.length < cur.toList.length := by simp; omega
    have hv : cur.toList[rs.length] = v := by
      have : cur.toList[rs.length]? = some v := by rw [Array.getElem?_toList]; exact hcell
      rw [List.getElem?_eq_getElem hlt] at this
      exact Option.some.inj this
    rw [List.append_assoc, ← hv, List.singleton_append, List.length_singleton, List.getElem_cons_drop hlt, List.take_append_drop, Array.toArray_toList]
  rw [show (#[v] : Array Value).toList = [v] from rfl, hsame, setRow_self w _ cur eo (0, 0) hh] at hrun
  rw [hrun] at g1
  cases g1
  exact g2
omit hC in
/-- There is room behind the last row: its header is written there. -/
theorem SR.spare (h : SR E N β RO env st a w) {s : Nat} {eo e sz : Nat} {rs : List GR} {cur : Array Value} (hk : look st.cur s = some (.grid eo e sz rs)) (hh : w.heap[β (.cur s)]? = some (.cells cur eo (0, 0))) (hlt : rs.length < cur.size) (v : Value) :
    SR E N β RO env { st with cur := setCur st.cur s (.grid eo e sz (rs ++ [.out])) } a (w.setRow (β (.cur s)) (cur.toList.take rs.length ++ [v] ++ cur.toList.drop (rs.length + 1)).toArray) := by
  have hkg : st.get (.cur s) = some (.grid eo e sz rs) := hk
  obtain ⟨us, cap, cur', hh', hnc, hcm', hcs, htk, hul, hf⟩ := grid_block (h.wr.obj (.cur s) _ hk)
  rw [hh] at hh'
  cases hh'
  have hsize : (cur.toList.take rs.length ++ [v] ++ cur.toList.drop (rs.length + 1)).toArray.size = cur.size := by
    simp only [List.size_toArray, List.length_append, List.length_take, List.length_drop, Array.length_toList, List.length_singleton]; omega
  have hsh := shape_setRow w (β (.cur s)) _ cur eo (0, 0) hh hsize
  have hro : ∀ b, b ≠ β (.cur s) → (w.setRow (β (.cur s)) (cur.toList.take rs.length ++ [v] ++ cur.toList.drop (rs.length + 1)).toArray).heap[b]? = w.heap[b]? := fun b hb => setRow_other w _ b _ hb
  have hob : ObOK β RO (w.setRow (β (.cur s)) (cur.toList.take rs.length ++ [v] ++ cur.toList.drop (rs.length + 1)).toArray) (.cur s) (.grid eo e sz (rs ++ [.out])) := by
    refine ⟨us ++ [v], cap, ⟨by simp [hul], .inr ⟨β (.cur s), cap, _, rfl, Nat.zero_le _, setRow_heap w _ _ _ _ _ hh, by rw [List.length_append, List.length_singleton]; omega, hcm', by rw [hsize, Nat.mul_one]; exact hcs, ?_⟩⟩, fun i r u hi hu => ?_⟩
    · rw [List.length_append, List.length_singleton, Nat.mul_one, ← htk]
      simp only []
      have hl : (cur.toList.take rs.length ++ [v]).length = rs.length + 1 := by simp; omega
      rw [← hl]; exact List.take_left
    · rcases Nat.lt_trichotomy i rs.length with hlt | rfl | hgt
      · rw [List.getElem?_append_left hlt] at hi
        rw [List.getElem?_append_left (by omega)] at hu
        have := hf i r u hi hu
        cases r with
        | nil => exact this
        | out => trivial
        | row es => exact VL.write (h.wr.sep _ _ hkg (can_cur s)) hro hsh this
      · simp at hi; subst hi; trivial
      · rw [List.getElem?_eq_none (by simp; omega)] at hi; cases hi
  refine ⟨h.wr.write (Step.setRow _ _ _) (by simp [World.setRow]) ⟨_, _, hkg, can_cur s, rfl⟩ hro (fun k' o2 hk' => ?_), h.size, h.defers, fun n x hx => ?_⟩
  · rw [get_growGrid hk (out_rows rs)] at hk'
    split at hk'
    · rename_i he
      subst he
      cases hk'
      exact ⟨⟨_, hkg⟩, hob⟩
    · rename_i hne
      exact ⟨⟨o2, hk'⟩, ObOK.other h.wr hkg ⟨_, _, _, hh⟩ hro hsh (can_cur s) hne hk'⟩
  · obtain ⟨u, h1, h2⟩ := h.env n x hx
    exact ⟨u, h1, VL.setRow h.wr hkg (can_cur s) rfl hh hsize h2⟩

omit hC in
/-- A row of rows moves to a greater block. -/
theorem SR.growG (h : SR E N β RO env st a w) {g : Nat} {eo e sz : Nat} {rs : List GR} {cur0 cur' : Array Value} {cap : Nat} (hk : look st.cur g = some (.grid eo e sz rs)) (hh0 : w.heap[β (.cur g)]? = some (.cells cur0 eo (0, 0))) (v : Value)
    (hcap : rs.length + 1 ≤ cap) (hcm : cap ≤ maxLen) (hcs : cur'.size = cap) (htk : cur'.toList.take (rs.length + 1) = cur0.toList.take rs.length ++ [v]) :
    SR E N (fun k => if k = .cur g then w.heap.size else β k) RO (purgeE (.cur g) env) { st with cur := setCur (purgeC (.cur g) st.cur) g (.grid eo e sz (rs ++ [.out])) } a (w.drew.alloc (.cells cur' eo)) ∧
      VL (fun k => if k = .cur g then w.heap.size else β k) RO (w.drew.alloc (.cells cur' eo)) (.osl (.cur g) 1 0 (rs.length + 1)) (.slice (some ⟨w.heap.size, 0, none⟩) (rs.length + 1) cap) ∧
      (w.drew.alloc (.cells cur' eo)).cell? ⟨w.heap.size, rs.length, none⟩ = some v := by
  obtain ⟨hp, hpg⟩ := h.purge g
  have hkp : look (purgeC (.cur g) st.cur) g = some (.grid eo e sz rs) := by rw [look_purgeC, hk]; rfl
  obtain ⟨us0, cap0, cur, hh, hnc, hcm0, hcs0, htk0, hul, hf⟩ := grid_block (h.wr.obj (.cur g) _ hk)
  rw [hh0] at hh
  cases hh
  have hh := hh0
  rw [htk0] at htk
  have hst : Step w (w.drew.alloc (.cells cur' eo)) := Step.drewAlloc w _
  have hob : ∀ b, b < w.heap.size → (w.drew.alloc (.cells cur' eo)).heap[b]? = w.heap[b]? := alloc_old w.drew _
  have hnew : (w.drew.alloc (.cells cur' eo)).heap[w.heap.size]? = some (.cells cur' eo (0, 0)) := alloc_new w.drew _
  have hgets : ∀ k, St.get { st with cur := setCur (purgeC (.cur g) st.cur) g (.grid eo e sz (rs ++ [.out])) } k = if k = .cur g then some (.grid eo e sz (rs ++ [.out])) else (st.purge (.cur g)).get k :=
    fun k => get_growGrid (st := st.purge (.cur g)) hkp (out_rows rs) k
  have hpw := hp.wr
  have hsubs : ∀ i, (K.sub (.cur g) i) ≠ .cur g := fun i e => by cases e
  have hplace := hpw.place (r := .cur g) (st' := { st with cur := setCur (purgeC (.cur g) st.cur) g (.grid eo e sz (rs ++ [.out])) }) (ob := .grid eo e sz (rs ++ [.out])) (w' := w.drew.alloc (.cells cur' eo)) rfl
    (fun k' cs hne hg => by
      rw [hgets, if_neg hne] at hg
      obtain ⟨o0, h1, ⟨h2, h3⟩ | h2⟩ := hpg k' _ hg
      · cases k' with
        | cur n => cases h3
        | fr i n => exact St.fr_has (o := .box cs) hg
        | sub k2 i => obtain ⟨_, _, _, _, _, _, _, h3⟩ := St.get_sub hg; cases h3
      · cases o0 <;> simp only [purgeO, Ob.box.injEq, reduceCtorEq] at h2
        rw [h2]; exact hasL_purge_no _ _)
    (fun k' m left hne hg he => by
      rw [hgets, if_neg hne] at hg
      obtain ⟨_, ents, clock, _, h2, _⟩ := hpw.obj k' _ hg
      rw [he, hh] at h2; cases h2)
    hst (by rw [alloc_size]; show w.heap.size < w.heap.size + 1; omega) hob
    (fun k' o hne hg => by rw [hgets, if_neg hne] at hg; exact hg) (fun o hg => by rw [hgets, if_pos rfl] at hg; exact (Option.some.inj hg).symm)
    (by
      refine ⟨us0 ++ [v], cap, ⟨by simp [hul], .inr ⟨w.heap.size, cap, cur', by simp only [if_true], Nat.zero_le _, hnew, by rw [List.length_append, List.length_singleton]; exact hcap, hcm, by rw [Nat.mul_one]; exact hcs, by rw [List.length_append, List.length_singleton, Nat.mul_one]; exact htk⟩⟩, fun i r u hi hu => ?_⟩
      rcases Nat.lt_trichotomy i rs.length with hlt | rfl | hgt
      · rw [List.getElem?_append_left hlt] at hi
        rw [List.getElem?_append_left (by omega)] at hu
        have := hf i r u hi hu
        cases r with
        | nil => exact this
        | out => trivial
        | row es =>
          simp only at this ⊢
          cases this with
          | osl _ _ _ _ cap' e' n' a1 b1 c1 d1 =>
          have := VL.osl (β := fun k => if k = .cur g then w.heap.size else β k) (RO := RO) (w := w.drew.alloc (.cells cur' eo)) (.sub (.cur g) i) sz 0 es.length cap' e' n' a1
            (by rw [if_neg (hsubs i)]; rw [shape_of_block (hob _ (lt_of_shape b1))]; exact b1) c1 d1
          rw [if_neg (hsubs i)] at this
          exact this
      · simp at hi; subst hi; trivial
      · rw [List.getElem?_eq_none (by simp; omega)] at hi; cases hi) (fun h => by cases h) (can_cur g)
  refine ⟨⟨hplace, h.size, h.defers, fun n x hx => ?_⟩, ?_, ?_⟩
  · rw [look_purgeE] at hx
    cases hy : look env n with
    | none => simp [hy] at hx
    | some y =>
      simp [hy] at hx
      obtain ⟨u, h1, h2⟩ := h.env n y hy
      refine ⟨u, h1, ?_⟩
      rw [← hx]
      exact h2.purge.upd (k0 := .cur g) (fun k' hk' => if_neg fun e => by subst e; rw [K.under_self] at hk'; cases hk') (fun _ h => h) h.wr.roLt (fun b hb' _ => hob b hb') (purgeV_no (.cur g) y)
  · have := VL.osl (β := fun k' => if k' = .cur g then w.heap.size else β k') (RO := RO) (w := w.drew.alloc (.cells cur' eo)) (.cur g) 1 0 (rs.length + 1) cap eo cap hcap
      (by simp only [if_true, World.shape?]; rw [hnew]; simp [hcs]) (by omega) (by omega)
    simpa using this
  · rw [cell_of_row _ _ _ cur' eo (0, 0) hnew]
    have h1 : (cur'.toList.take (rs.length + 1))[rs.length]? = some v := by
      rw [htk, List.getElem?_append_right (by omega), hul]; simp
    rw [List.getElem?_take, if_pos (by omega), Array.getElem?_toList] at h1
    exact h1

omit hC in
theorem setCur_twice (n : Nat) (o o' : Ob) : ∀ c : Fr, setCur (setCur c n o) n o' = setCur c n o'
  | [] => rfl
  | (m, x) :: r => by
    simp only [setCur]
    cases hb : Nat.beq m n with
    | true => simp only [setCur, hb]
    | false => simp only [setCur, hb, setCur_twice n o o' r]

omit hC in
/-- A new row of rows of one row. -/
theorem SR.newGrid (h : SR E N β RO env st a w) {s eo e sz : Nat} {r : GR} {cs : Array Value} {cap : Nat} {v : Value} (hf : freshB env st.cur s = true) (hst : Step w w') (hsz : w.heap.size < w'.heap.size)
    (hb : ∀ b, b < w.heap.size → w'.heap[b]? = w.heap[b]?) (hnew : w'.heap[w.heap.size]? = some (.cells cs eo (0, 0))) (hcs : cs.size = cap) (h1 : 1 ≤ cap) (hcm : cap ≤ maxLen) (hv : cs[0]? = some v)
    (hr : r = .out ∨ (r = .nil ∧ v = .slice none 0 0)) :
    SR E N (fun k => if k = .cur s then w.heap.size else β k) RO env { st with cur := (s, .grid eo e sz [r]) :: st.cur } a w' ∧
      VL (fun k => if k = .cur s then w.heap.size else β k) RO w' (.osl (.cur s) 1 0 1) (.slice (some ⟨w.heap.size, 0, none⟩) 1 cap) ∧ w'.cell? ⟨w.heap.size, 0, none⟩ = some v := by
  obtain ⟨g1, g2⟩ := h.fresh hf
  refine ⟨h.alloc g1 g2 hst hsz hb ?_ ⟨[v], cap, ⟨rfl, .inr ⟨w.heap.size, cap, cs, by simp only [if_true, List.length_singleton], Nat.zero_le _, hnew, h1, hcm, by rw [Nat.mul_one]; exact hcs, ?_⟩⟩, fun i r' u hi hu => ?_⟩, ?_, ?_⟩
  · intro i o ho
    obtain ⟨_, _, _, rs, es, hg, hi, _⟩ := St.get_sub ho
    simp only [St.get, look_cons, if_true] at hg
    cases hg
    cases i with
    | zero => simp at hi; subst hi; rcases hr with h | ⟨h, _⟩ <;> cases h
    | succ i => simp at hi
  · have : cs.toList[0]? = some v := by rw [Array.getElem?_toList]; exact hv
    cases hl : cs.toList with
    | nil => rw [hl] at this; cases this
    | cons x l => rw [hl] at this; cases this; rfl
  · cases i with
    | zero =>
      simp at hi hu
      subst hi hu
      rcases hr with rfl | ⟨rfl, rfl⟩
      · trivial
      · rfl
    | succ i => simp at hi
  · have := VL.osl (β := fun k => if k = .cur s then w.heap.size else β k) (RO := RO) (w := w') (.cur s) 1 0 1 cap eo cap h1
      (by simp only [if_true, World.shape?, hnew, hcs]) (by omega) (by omega)
    simpa using this
  · rw [cell_of_row _ _ _ cs eo (0, 0) hnew]; exact hv

theorem run_lit1 {t e : Nat} {te : TI} {v : Value} (hu : P.underlying t = some (.slice e)) (hte : C.ty e = some te) (hsz : te.size = 1) (hv : v.cells = #[v]) :
    (Instr.buildSlice t 1 #[(0, v)]).run P w = .ok (.slice (some ⟨w.heap.size, 0, none⟩) 1 1) (w.alloc (.cells #[v] e)) := by
  obtain ⟨j, zz, hj, hjs, _, hz, hzc⟩ := (hC.ty hte).info
  have hone := (hC.ty hte).one
  simp only [Bool.and_eq_true, List.all_eq_true, Nat.beq_eq] at hone
  have hzl : te.zero.length = 1 := by rw [← hsz]; simpa using hone.2
  have hzc' : zz.cells = te.zero.toArray := by rw [← Array.toList_inj]; simpa using hzc
  obtain ⟨z, hz1⟩ : ∃ z, te.zero = [z] := by
    cases h : te.zero with
    | nil => rw [h] at hzl; cases hzl
    | cons z l => cases l with
      | nil => exact ⟨z, rfl⟩
      | cons y l => rw [h] at hzl; simp at hzl
  rw [hz1] at hzc'
  simp only [Instr.buildSlice, Sem.run_bind, run_underlying hu, Result.andThen_ok, run_sizeOf hC hte, hsz]
  rw [Sem.run_ite, if_neg (by omega), Sem.run_ite, if_neg (by omega)]
  simp only [Sem.run_bind, Sem.run_pure, Result.andThen_ok, zeroValue, typeInfo, run_program, hj, hz, hzc', Instr.fill, hv]
  simp [newRow]
  rw [show Array.range 1 = #[0] from rfl]
  simp

theorem litGW_gives (h : SR E N β RO env st a w) {s t len : Nat} {parts : List (Nat × Operand)} {K' : LV → Env → St → Prop} (hW : litGW C env st s t len parts K') :
    Gives P E N a w (Instr.buildSlice t len (parts.toArray.map fun p => (p.1, a.eval p.2))) K' := by
  unfold litGW at hW
  split at hW
  rotate_left
  · cases hW
  rename_i e s0 b0 z0 ht
  have hu := run_slice_ty hC ht
  split at hW
  rotate_left
  · cases hW
  rename_i e2 tsz tb tz hte
  split at hW
  rotate_left
  · cases hW
  rename_i te2 hte2
  split at hW
  rotate_left
  · cases hW
  rename_i o
  split at hW
  rotate_left
  · cases hW
  rename_i hlen htsz hfr
  have hlen := Nat.eq_of_beq_eq_true hlen
  have htsz := Nat.eq_of_beq_eq_true htsz
  subst hlen
  subst htsz
  have hopd := h.opd o
  have hno := opd_no (h.fresh hfr).2 o
  have harr : (([(0, o)] : List (Nat × Operand)).toArray.map fun p => (p.1, a.eval p.2)) = #[(0, a.eval o)] := by simp
  rw [harr]
  split at hW
  · rename_i szz ess ho
    rw [ho] at hopd
    generalize a.eval o = u at hopd ⊢
    cases hopd with
    | t _ _ hx =>
    cases hx
    have hrun := run_lit1 (w := w) hC hu hte rfl (v := .slice none 0 0) rfl
    obtain ⟨g1, g2, _⟩ := h.newGrid (s := s) (eo := e) (e := e2) (sz := te2.size) (r := .nil) (cap := 1) (v := .slice none 0 0) (w' := w.alloc (.cells #[.slice none 0 0] e)) hfr (Step.alloc w _) (by rw [alloc_size]; omega) (alloc_old _ _) (alloc_new _ _) rfl (Nat.le_refl 1) (by unfold maxLen; omega) rfl (.inr ⟨rfl, rfl⟩)
    exact ⟨_, _, _, _, _, _, _, hrun, hW, g1, g2⟩
  · rename_i s2 szr n ho
    rw [ho] at hopd hno
    split at hW
    rotate_left
    · cases hW
    rename_i e3 szq es hk2 hszr hne
    have hszr := Nat.eq_of_beq_eq_true hszr
    have hne := Nat.ne_of_beq_eq_false hne
    subst hszr
    split at hW
    rotate_left
    · cases hW
    rename_i he3 hszq hmit
    have he3 := Nat.eq_of_beq_eq_true he3
    have hszq := Nat.eq_of_beq_eq_true hszq
    subst he3
    subst hszq
    obtain ⟨rfl, hW⟩ := hW
    have hvc : (a.eval o).cells = #[a.eval o] := by generalize a.eval o = u at hopd; cases hopd; rfl
    have hrun := run_lit1 (w := w) hC hu hte rfl hvc
    obtain ⟨g1, g2, g3⟩ := h.newGrid (s := s) (eo := e) (e := e3) (sz := te2.size) (r := .out) (cap := 1) (v := a.eval o) (w' := w.alloc (.cells #[a.eval o] e)) hfr (Step.alloc w _) (by rw [alloc_size]; omega) (alloc_old _ _) (alloc_new _ _) rfl (Nat.le_refl 1) (by unfold maxLen; omega) rfl (.inl rfl)
    have hx2 := hopd.upd (k0 := .cur s) (β' := fun k => if k = .cur s then w.heap.size else β k) (RO' := RO) (w' := w.alloc (.cells #[a.eval o] e)) (fun k hk => if_neg fun e => by subst e; rw [K.under_self] at hk; cases hk) (fun _ h => h) h.wr.roLt (fun b hb' _ => alloc_old _ _ b hb') hno
    have g4 := g1.takeRow hC (s := s) (s2 := s2) (eo := e) (e := e3) (sz := te2.size) (rs := []) (es := es) (v := a.eval o) (by simp only [look_cons, if_true, List.nil_append]) hne (by rw [look_cons, if_neg (Ne.symm hne)]; exact hk2) hte rfl hmit hx2 (by simp only [if_true]; exact g3)
    exact ⟨_, _, _, _, _, _, _, hrun, hW, g4, g2.no rfl⟩
  · cases hW

/-- The header of a row is appended to a row of rows of our own. -/
theorem appG_run {g t ty e e2 sz : Nat} {rs : List GR} {te : TI} {vx v : Value} {ad : Addr} {c : Nat} (h : SR E N β RO env st a w) (hk : look st.cur g = some (.grid e e2 sz rs)) (hu : P.underlying t = some (.slice e)) (hte : C.ty e = some te) (hsz : te.size = 1)
    (hx : VL β RO w (.osl (.cur g) 1 0 rs.length) vx) (hv1 : v.oneCell' = true) (hcell : w.cell? ad = some v) (hb : (rs.length + 1) * te.bytes ≤ 140737488355328) (hm : rs.length + 1 ≤ 140737488355328) :
    ∃ w1 β1 u, (Builtin.append_ #[t, t] ty #[vx, .slice (some ad) 1 c]).run P w = .ok u w1 ∧
      SR E N β1 RO (purgeE (.cur g) env) { st with cur := setCur (purgeC (.cur g) st.cur) g (.grid e e2 sz (rs ++ [.out])) } a w1 ∧ VL β1 RO w1 (.osl (.cur g) 1 0 (rs.length + 1)) u ∧
      w1.cell? ⟨β1 (.cur g), rs.length, none⟩ = some v ∧ (∀ x u, LV.has (.cur g) x = false → VL β RO w x u → VL β1 RO w1 x u) := by
  obtain ⟨j, zz, hj, hjs, hjb, hz, hzc⟩ := (hC.ty hte).info
  have hone := (hC.ty hte).one
  simp only [Bool.and_eq_true, Nat.beq_eq] at hone
  have hzl : zz.cells.size = 1 := by
    have : zz.cells.toList.length = te.size := by rw [hzc]; simpa using hone.2
    rw [← hsz]; simpa using this
  rw [hsz] at hjs
  obtain ⟨us, cap, cur, hh, hnc, hcm, hcs, htk, hul, hf⟩ := grid_block (h.wr.obj (.cur g) _ hk)
  have hkg : st.get (.cur g) = some (.grid e e2 sz rs) := hk
  obtain ⟨hp, _⟩ := h.purge g
  have hkp : look (purgeC (.cur g) st.cur) g = some (.grid e e2 sz rs) := by rw [look_purgeC, hk]; rfl
  cases hx with
  | osl _ _ _ _ cap' e' n hle hs hn hmm =>
  have hcap : cap' = cap := by
    have : w.shape? (β (.cur g)) = some (e, cur.size) := by simp only [World.shape?, hh]
    rw [this] at hs
    have e1 : cur.size = (0 + cap') * 1 := by cases hs; exact hn
    omega
  subst hcap
  have hnews : ∀ (j : Nat) (u : Value), [v][j]? = some u → w.cell? (ad.add j) = some u := fun j u hu => by
    cases j with
    | zero => simp at hu; subst hu; obtain ⟨b, o, tr⟩ := ad; exact hcell
    | succ j => simp at hu
  have h1 : ∀ u ∈ [v], u.oneCell' = true := fun u hu => by rw [List.mem_singleton.1 hu]; exact hv1
  by_cases hroom : rs.length + 1 ≤ cap'
  · have hrun := run_append_room (P := P) (ty := ty) w t e j hu hj (β (.cur g)) rs.length cap' cur hh ad 1 c [v] (by rw [hjs]; rfl) hnews h1 hroom (by rw [hjs]; simp; omega)
    rw [hjs, Nat.mul_one] at hrun
    have hsr := hp.spare (s := g) (rs := rs) hkp hh (by omega) v
    have hsize : (cur.toList.take rs.length ++ [v] ++ cur.toList.drop (rs.length + 1)).toArray.size = cur.size := by
      simp only [List.size_toArray, List.length_append, List.length_take, List.length_drop, Array.length_toList, List.length_singleton]; omega
    have hheap := setRow_heap w (β (.cur g)) cur (cur.toList.take rs.length ++ [v] ++ cur.toList.drop (rs.length + 1)).toArray e (0, 0) hh
    refine ⟨_, β, _, by rw [Nat.zero_mul]; exact hrun, hsr, ?_, ?_, fun x u _ hxu => VL.setRow h.wr hkg (can_cur g) rfl hh hsize hxu⟩
    · have := VL.osl (β := β) (RO := RO) (w := w.setRow (β (.cur g)) (cur.toList.take rs.length ++ [v] ++ cur.toList.drop (rs.length + 1)).toArray) (.cur g) 1 0 (rs.length + 1) cap' e cap' hroom
        (by simp only [World.shape?, hheap, hsize, hcs]) (by omega) (by omega)
      simpa using this
    · rw [cell_of_row _ _ _ _ e (0, 0) hheap]
      have hl : (cur.toList.take rs.length).length = rs.length := by simp; omega
      rw [List.getElem?_toArray, List.append_assoc, List.getElem?_append_right (by omega), hl, Nat.sub_self]; rfl
  · have hfull : rs.length = cap' := by omega
    have holds : ∀ (q : Nat) (u : Value), us[q]? = some u → w.cell? ((⟨β (.cur g), 0, none⟩ : Addr).add q) = some u := by
      intro q u hq
      rw [addr_add, Nat.zero_add, cell_of_row w _ q cur e (0, 0) hh]
      rw [← htk, List.getElem?_take] at hq
      split at hq
      · simpa using hq
      · cases hq
    have hrun := run_append_grow (P := P) (ty := ty) w t e j zz hu hj hz ⟨β (.cur g), 0, none⟩ rs.length cap' us (by rw [hjs]; omega) holds ad 1 c [v] (by rw [hjs]; rfl) hnews (by omega) (by omega)
      (growslice_fits (by omega) (by rw [hjb]; exact hb))
    have hge := grownCap_ge w (rs.length + 1) cap' e
    have hgm := grownCap_le_maxLen w (rs.length + 1) cap' e (by unfold maxLen; omega)
    have hgc := grown_cells (us := us) (news := [v]) (z := zz.cells) (sz := 1) hge (by rw [List.length_append, hul]; simp) hzl
    rw [Nat.mul_one, Nat.mul_one] at hgc
    obtain ⟨g1, g2, g3⟩ := h.growG (g := g) (rs := rs) (cur' := us.toArray ++ [v].toArray ++ Builtin.zeroCells zz.cells (grownCap w (rs.length + 1) cap' e - (rs.length + 1))) hk hh v hge hgm hgc.1 (by rw [hgc.2, htk])
    refine ⟨_, _, _, by rw [Nat.zero_mul]; exact hrun, g1, g2, by simp only [if_true]; exact g3, fun x u hno hxu => ?_⟩
    exact hxu.upd (k0 := .cur g) (fun k' hk' => if_neg fun e => by subst e; rw [K.under_self] at hk'; cases hk') (fun _ h => h) h.wr.roLt (fun b hb' _ => alloc_old w.drew _ b hb') hno

theorem appGW_gives (h : SR E N β RO env st a w) {s t ty : Nat} {x y : LV} {vx vy : Value} {K' : LV → Env → St → Prop} (hx : VL β RO w x vx) (hy : VL β RO w y vy) (hW : appGW C env st s t x y K') :
    Gives P E N a w (Builtin.append_ #[t, t] ty #[vx, vy]) K' := by
  unfold appGW at hW
  split at hW
  rotate_left
  · cases hW
  rename_i e s0 b0 z0 ht
  have hu := run_slice_ty hC ht
  split at hW
  rotate_left
  · cases hW
  rename_i te hte
  obtain ⟨j, zz, hj, hjs, hjb, hz, hzc⟩ := (hC.ty hte).info
  split at hW
  rotate_left
  · cases hW
  rename_i q
  split at hW
  rotate_left
  · cases hW
  rename_i eo e2 sz r hkq hsz
  have hsz := Nat.eq_of_beq_eq_true hsz
  split at hW
  rotate_left
  · cases hW
  rename_i heo hfr hsq
  have heo := Nat.eq_of_beq_eq_true heo
  have hsq := Nat.ne_of_beq_eq_false hsq
  subst heo
  obtain ⟨us, cap, cur, hh, hnc, hcm, hcs, htk, hul, hf⟩ := grid_block (h.wr.obj (.cur q) _ hkq)
  obtain ⟨v, rfl⟩ : ∃ v, us = [v] := by
    cases us with
    | nil => cases hul
    | cons v l => cases l with
      | nil => exact ⟨v, rfl⟩
      | cons y l => simp at hul
  have hrv := hf 0 r v rfl rfl
  have hc0 : cur[0]? = some v := by
    have h1 : (cur.toList.take 1)[0]? = some v := by
      have : cur.toList.take 1 = [v] := htk
      rw [this]; rfl
    rw [List.getElem?_take, if_pos (by omega), Array.getElem?_toList] at h1
    exact h1
  have hcell : w.cell? ⟨β (.cur q), 0, none⟩ = some v := by rw [cell_of_row w _ _ cur eo (0, 0) hh]; exact hc0
  cases hy with
  | osl _ _ _ _ cy ey ny hly hsy hny hmy =>
  rw [Nat.zero_mul]
  split at hW
  · rename_i g len
    split at hW
    rotate_left
    · cases hW
    rename_i eo' e2' sz' rs hkg hqg hsg
    have hqg := Nat.ne_of_beq_eq_false hqg
    have hsg := Nat.ne_of_beq_eq_false hsg
    split at hW
    rotate_left
    · cases hW
    rename_i h1 h2 h3
    have h1 := Nat.eq_of_beq_eq_true h1
    have h2 := Nat.eq_of_beq_eq_true h2
    have h3 := Nat.eq_of_beq_eq_true h3
    subst h1; subst h2; subst h3
    obtain ⟨rfl, hb, hm, hW⟩ := hW
    split at hW
    · have hrv : v = .slice none 0 0 := hrv
      subst hrv
      obtain ⟨w1, β1, u, g1, g2, g3, g4, _⟩ := appG_run (ty := ty) (c := cy) hC h hkg hu hte hsz hx rfl hcell hb hm
      have g5 := g2.tellNil (s := g) (rs := rs) (by rw [look_setCur, if_pos rfl, look_purgeC, hkg]; rfl) g4
      rw [setCur_twice] at g5
      exact ⟨_, _, _, _, _, _, _, g1, hW, g5, g3⟩
    · rename_i es
      split at hW
      rotate_left
      · cases hW
      rename_i hmit
      have hrv : VL β RO w (.osl (.sub (.cur q) 0) sz' 0 es.length) v := hrv
      have hv1 : v.oneCell' = true := by cases hrv; rfl
      have hd := h.detach (i := 0) hkq rfl hfr hsq
      have hx2 : VL (fun k => if k = .cur (s + 1) then β (.sub (.cur q) 0) else β k) RO w (.osl (.cur g) 1 0 rs.length) vx := hx.no (by simp only [LV.has, K.under, K.beq]; rw [Bool.eq_false_iff]; intro hb; exact hsg (Nat.eq_of_beq_eq_true hb))
      have hkg2 : look ((s + 1, Ob.row e2' sz' es) :: setCur (purgeC (.sub (.cur q) 0) st.cur) q (.grid eo' e2' sz' ([GR.row es].set 0 .out))) g = some (.grid eo' e2' sz' rs) := by
        rw [look_cons, if_neg hsg, look_setCur, if_neg (Ne.symm hqg), look_purgeC, hkg]; rfl
      obtain ⟨w1, β1, u, g1, g2, g3, g4, g5⟩ := appG_run (ty := ty) (c := cy) hC hd hkg2 hu hte hsz hx2 hv1 hcell hb hm
      have hrow : VL (fun k => if k = .cur (s + 1) then β (.sub (.cur q) 0) else β k) RO w (.osl (.cur (s + 1)) sz' 0 es.length) v := by
        cases hrv with
        | osl _ _ _ _ c1 e1 n1 a1 b1 c2 d1 =>
          have := VL.osl (β := fun k => if k = .cur (s + 1) then β (.sub (.cur q) 0) else β k) (RO := RO) (w := w) (.cur (s + 1)) sz' 0 es.length c1 e1 n1 a1 (by simp only [if_true]; exact b1) c2 d1
          simpa using this
      have hrow1 := g5 _ _ (by simp only [LV.has, K.under, K.beq]; rw [Bool.eq_false_iff]; intro hb; exact hsg (Nat.eq_of_beq_eq_true hb).symm) hrow
      have g6 := g2.takeRow hC (s := g) (s2 := s + 1) (rs := rs) (es := es) (v := v) (by simp only []; rw [look_setCur, if_pos rfl, look_purgeC, hkg2]; rfl) hsg (by simp only []; rw [look_setCur, if_neg hsg, look_purgeC, look_cons, if_pos rfl]; rfl) hte hsz hmit hrow1 g4
      exact ⟨_, _, _, _, _, _, _, g1, hW, g6, g3.no rfl⟩
    · cases hW
  · rename_i szz ess
    cases hx with
    | t _ _ hx =>
    cases hx
    split at hW
    rotate_left
    · cases hW
    rename_i hfs hsq2
    obtain ⟨hb, hW⟩ := hW
    have hnews : ∀ (j : Nat) (u : Value), [v][j]? = some u → w.cell? ((⟨β (.cur q), 0, none⟩ : Addr).add j) = some u := fun j u hu => by
      cases j with
      | zero => simp at hu; subst hu; exact hcell
      | succ j => simp at hu
    have hone := (hC.ty hte).one
    simp only [Bool.and_eq_true, Nat.beq_eq] at hone
    have hzl : zz.cells.size = 1 := by
      have : zz.cells.toList.length = te.size := by rw [hzc]; simpa using hone.2
      rw [← hsz]; simpa using this
    rw [hsz] at hjs
    have hrun := run_append_nil (P := P) (ty := ty) w t eo j zz hu hj hz ⟨β (.cur q), 0, none⟩ 1 cy [v] (by rw [hjs]; rfl) hnews (by omega) (by omega) (by rw [hjb]; omega)
    have hge := grownCap_ge w 1 0 eo
    have hgm := grownCap_le_maxLen w 1 0 eo (by unfold maxLen; omega)
    have hgc := grown_cells (us := []) (news := [v]) (z := zz.cells) (sz := 1) hge (by simp) hzl
    simp only [Array.empty_append, List.nil_append, Nat.mul_one] at hgc
    have hc1 : ([v].toArray ++ Builtin.zeroCells zz.cells (grownCap w 1 0 eo - 1))[0]? = some v := by
      have h1 : (([v].toArray ++ Builtin.zeroCells zz.cells (grownCap w 1 0 eo - 1)).toList.take 1)[0]? = some v := by rw [hgc.2]; rfl
      rw [List.getElem?_take, if_pos (by omega), Array.getElem?_toList] at h1
      exact h1
    split at hW
    · have hrv : v = .slice none 0 0 := hrv
      subst hrv
      obtain ⟨g1, g2, _⟩ := h.newGrid (s := s) (eo := eo) (e := e2) (sz := sz) (r := .nil) (w' := w.drew.alloc (.cells ([Value.slice none 0 0].toArray ++ Builtin.zeroCells zz.cells (grownCap w 1 0 eo - 1)) eo)) hfs (Step.drewAlloc w _) (by rw [alloc_size]; show w.heap.size < w.heap.size + 1; omega) (alloc_old w.drew _) (alloc_new w.drew _) hgc.1 hge hgm hc1 (.inr ⟨rfl, rfl⟩)
      exact ⟨_, _, _, _, _, _, _, hrun, hW, g1, g2⟩
    · rename_i es
      split at hW
      rotate_left
      · cases hW
      rename_i hmit hfs2
      have hrv : VL β RO w (.osl (.sub (.cur q) 0) sz 0 es.length) v := hrv
      have hd := h.detach (i := 0) hkq rfl hfr hsq
      have hrow : VL (fun k => if k = .cur (s + 1) then β (.sub (.cur q) 0) else β k) RO w (.osl (.cur (s + 1)) sz 0 es.length) v := by
        cases hrv with
        | osl _ _ _ _ c1 e1 n1 a1 b1 c2 d1 =>
          have := VL.osl (β := fun k => if k = .cur (s + 1) then β (.sub (.cur q) 0) else β k) (RO := RO) (w := w) (.cur (s + 1)) sz 0 es.length c1 e1 n1 a1 (by simp only [if_true]; exact b1) c2 d1
          simpa using this
      obtain ⟨g1, g2, g3⟩ := hd.newGrid (s := s) (eo := eo) (e := e2) (sz := sz) (r := .out) (v := v) (w' := w.drew.alloc (.cells ([v].toArray ++ Builtin.zeroCells zz.cells (grownCap w 1 0 eo - 1)) eo)) hfs2 (Step.drewAlloc w _) (by rw [alloc_size]; show w.heap.size < w.heap.size + 1; omega) (alloc_old w.drew _) (alloc_new w.drew _) hgc.1 hge hgm hc1 (.inl rfl)
      have hno : LV.has (.cur s) (.osl (.cur (s + 1)) sz 0 es.length) = false := by
        simp only [LV.has, K.under, K.beq]; rw [Bool.eq_false_iff]; intro hb; have := Nat.eq_of_beq_eq_true hb; omega
      have hrow1 := hrow.upd (k0 := .cur s) (β' := fun k => if k = .cur s then w.heap.size else (fun k => if k = .cur (s + 1) then β (.sub (.cur q) 0) else β k) k) (RO' := RO) (w' := w.drew.alloc (.cells ([v].toArray ++ Builtin.zeroCells zz.cells (grownCap w 1 0 eo - 1)) eo)) (fun k hk => if_neg fun e => by subst e; rw [K.under_self] at hk; cases hk) (fun _ h => h) h.wr.roLt (fun b hb' _ => alloc_old w.drew _ b hb') hno
      have g6 := g1.takeRow hC (s := s) (s2 := s + 1) (eo := eo) (e := e2) (sz := sz) (rs := []) (es := es) (v := v) (by simp only [look_cons, if_true, List.nil_append]) (by omega) (by rw [look_cons, if_neg (by omega), look_cons, if_pos rfl]) hte hsz hmit hrow1 (by simp only [if_true]; exact g3)
      exact ⟨_, _, _, _, _, _, _, hrun, hW, g6, g2.no rfl⟩
    · cases hW
  · cases hW
end
end Go.Fw

/- The value logic, part 18: an operation; a region in the order of its text. -/
namespace Go.Fw
open Go

def nth {α : Type} : List α → Nat → Option α
  | [], _ => none
  | x :: _, 0 => some x
  | _ :: r, n + 1 => nth r n
theorem nth_eq {α : Type} : ∀ (l : List α) (n : Nat), nth l n = l[n]?
  | [], n => by simp [nth]
  | x :: r, 0 => rfl
  | x :: r, n + 1 => by simp [nth, nth_eq r n]

/-! ### Values, slots and objects are laid bare before the walk goes on -/
def strL : List LV → (List LV → Prop) → Prop
  | [], K' => K' []
  | x :: r, K' => strV x fun x => strL r fun r => K' (x :: r)
where strV : LV → (LV → Prop) → Prop
  | .bad, K' => K' .bad
  | .t x, K' => K' (.t x)
  | .osl k a b c, K' => K' (.osl k a b c)
  | .ptr k c, K' => K' (.ptr k c)
  | .pel k a b c, K' => K' (.pel k a b c)
  | .ipt cs, K' => K' (.ipt cs)
  | .fn f cap, K' => K' (.fn f cap)
  | .mpr k, K' => K' (.mpr k)
  | .ifc t x, K' => K' (.ifc t x)
  | .agg cs, K' => K' (.agg cs)
  | .tup cs, K' => K' (.tup cs)
def strW : LV → (LV → Prop) → Prop
  | .agg cs, K' => strL cs fun cs => K' (.agg cs)
  | .tup cs, K' => strL cs fun cs => K' (.tup cs)
  | x, K' => strL.strV x K'
def strE : List (Nat × LV) → (List (Nat × LV) → Prop) → Prop
  | [], K' => K' []
  | (n, x) :: r, K' => strW x fun x => strE r fun r => K' ((n, x) :: r)
def strO : Ob → (Ob → Prop) → Prop
  | .row e sz es, K' => K' (.row e sz es)
  | .box cs, K' => strL cs fun cs => K' (.box cs)
  | .grid a b c rs, K' => K' (.grid a b c rs)
  | .mp kd kv, K' => K' (.mp kd kv)
  | .mit m l, K' => K' (.mit m l)
def strC : List (Nat × Ob) → (List (Nat × Ob) → Prop) → Prop
  | [], K' => K' []
  | (n, x) :: r, K' => strO x fun x => strC r fun r => K' ((n, x) :: r)
def strS (st : St) (K' : St → Prop) : Prop := match st with
  | ⟨out, cur⟩ => strC cur fun cur => K' ⟨out, cur⟩

theorem strV_gives {x : LV} {K' : LV → Prop} (h : strL.strV x K') : K' x := by cases x <;> exact h
theorem strL_gives : ∀ {l : List LV} {K' : List LV → Prop}, strL l K' → K' l
  | [], _, h => h
  | x :: r, K', h => strL_gives (l := r) (strV_gives (x := x) (K' := fun x => strL r fun r => K' (x :: r)) h)
theorem strW_gives {x : LV} {K' : LV → Prop} (h : strW x K') : K' x := by
  cases x <;> first | exact h | exact strL_gives h
theorem strE_gives : ∀ {l : List (Nat × LV)} {K' : List (Nat × LV) → Prop}, strE l K' → K' l
  | [], _, h => h
  | (n, x) :: r, K', h => strE_gives (l := r) (strW_gives (x := x) (K' := fun x => strE r fun r => K' ((n, x) :: r)) h)
theorem strO_gives {x : Ob} {K' : Ob → Prop} (h : strO x K') : K' x := by
  cases x <;> first | exact h | exact strL_gives h
theorem strC_gives : ∀ {l : List (Nat × Ob)} {K' : List (Nat × Ob) → Prop}, strC l K' → K' l
  | [], _, h => h
  | (n, x) :: r, K', h => strC_gives (l := r) (strO_gives (x := x) (K' := fun x => strC r fun r => K' ((n, x) :: r)) h)
theorem strS_gives {st : St} {K' : St → Prop} (h : strS st K') : K' st := by
  obtain ⟨out, cur⟩ := st
  exact strC_gives (K' := fun cur => K' ⟨out, cur⟩) h
def strES (env : Env) (st : St) (K' : Env → St → Prop) : Prop := strE env fun env => strS st fun st => K' env st
theorem strES_gives {env : Env} {st : St} {K' : Env → St → Prop} (h : strES env st K') : K' env st := strS_gives (strE_gives h)

/-- A function without a body that is known: the first place of a byte. -/
def extW (args : List LV) (K' : LV → Prop) : Prop := match args with
  | [.t (.v (.string s)), .t (.v (.int .u8 c))] => ∀ n, n = Lib.indexByte s.data.toList c.toNat.toUInt8 → K' (.t (.v (.int .i64 n)))
  | _ => False

/-- A function without a body that only reckons: what it gives. -/
def ExtV (P : Program) (f : Nat) (vs : List Value) (y : LV) : Prop := ∀ w : World, ∃ r, (callFunc f vs.toArray).run P w = .ok (.value r) w ∧ ∀ (β : K → Nat) (RO : Nat → Prop), VL β RO w y r
def valsV : List LV → Option (List Value)
  | [] => some []
  | x :: r => match x, valsV r with
    | .t (.v u), some l => some (u :: l)
    | _, _ => none

/-- Slots that show a row of our own, which is given away, show closed data from now on. -/
def closeW (s sz : Nat) (es : List (List T)) (K' : Env → Prop) : Env → Prop
  | [] => K' []
  | p :: r => match p.2 with
    | .osl k sz' off len => match k with
      | .cur s' => match Nat.beq s' s with
        | true => match Nat.beq sz' sz with
          | true => ∃ x, x = (es.drop off).take len ∧ off + len ≤ es.length ∧ closeW s sz es (fun env => K' ((p.1, .t (.sl false sz x)) :: env)) r
          | false => closeW s sz es (fun env => K' (p :: env)) r
        | false => closeW s sz es (fun env => K' (p :: env)) r
      | _ => closeW s sz es (fun env => K' (p :: env)) r
    | _ => closeW s sz es (fun env => K' (p :: env)) r
/-- Rows of our own among the arguments are given away for ever: nobody writes them again. -/
def frzW (K' : List LV → Env → St → Prop) : List Operand → List LV → Env → St → Prop
  | [], acc, env, st => K' acc env st
  | o :: r, acc, env, st => match opd env o with
    | .agg cs => cellsTW (fun ts env st => frzW K' r (acc ++ [.agg (ts.map .t)]) env st) cs [] env st
    | .t x => frzW K' r (acc ++ [.t x]) env st
    | .osl k sz off len => match k with
      | .cur s => match look st.cur s with
        | some (.row _ sz' es) => match Nat.beq sz sz' with
          | true => ∃ x, x = (es.drop off).take len ∧ off + len ≤ es.length ∧ closeW s sz es (fun env => frzW K' r (acc ++ [.t (.sl false sz x)]) env { st with cur := delCur s st.cur }) env
          | false => False
        | _ => False
      | _ => False
    | _ => False

def callOpW (C : Ctx) (P : Program) (env : Env) (st : St) (d : Nat) (c : Call) (K' : LV → Env → St → Prop) : Prop :=
  match c.callee with
  | .builtin .append => match c.args.toList, c.argTypes.toList with
    | [x, y], [t, t'] => match Nat.beq t t' with
      | true => match look C.grd t with
        | none => appTW C env st d t (opd env x) (opd env y) fun x env st => strES env st (K' x)
        | some _ => appGW C env st d t (opd env x) (opd env y) fun x env st => strES env st (K' x)
      | false => False
    | _, _ => False
  | .value fo => match opd env fo with
    | .fn f (p :: cap) => strL (c.args.toList.map (opd env) ++ capArgs (p :: cap)) fun args => callW P env st d f args fun x env st => strES env st (K' x)
    | .fn f [] => match look C.exb f with
      | some _ => match valsV (c.args.toList.map (opd env)) with
        | some vs => ∃ y, ExtV P f vs y ∧ strW y fun y => K' y env st
        | none => False
      | none => match look C.exts f with
      | none => match look C.frz f with
        | none => match look C.srt f with
          | none => strL (c.args.toList.map (opd env) ++ capArgs []) fun args => callW P env st d f args fun x env st => strES env st (K' x)
          | some _ => match c.args.toList with
            | [x] => sortW st (opd env x) fun st => strS st fun st => K' (.tup []) env st
            | _ => False
        | some _ => frzW (fun args env st => SpecP P f args [] fun r ro => plW env st d r ro fun x env st => strES env st (K' x)) c.args.toList [] env st
      | some _ => extW (c.args.toList.map (opd env)) fun x => K' x env st
    | _ => False
  | _ => pureW C env st (.call c) fun x => K' x env st

/-- What is asked of an operation. -/
def opWs (C : Ctx) (P : Program) (s : Nat) (o : Oper) (env : Env) (st : St) (K' : LV → Env → St → Prop) : Prop :=
  match o.op with
  | .alloc t => match C.ty t with
    | some ti => boxW env st s (some (ti.zero.map fun v => .t (ofV v))) fun x env st => strS st (K' x env)
    | none => False
  | .box _ x => boxW env st s (cellsOf (opd env x)) fun x env st => strS st (K' x env)
  | .makeSlice t l c => makeW C env st s t (opd env l) (opd env c) fun x env st => strS st (K' x env)
  | .buildSlice t len parts => match look C.grd t with
    | none => litW C env st s t len parts.toList fun x env st => strES env st (K' x)
    | some _ => litGW C env st s t len parts.toList fun x env st => strES env st (K' x)
  | .store t x y => storeW C env st t (opd env x) (opd env y) fun env st => strES env st (K' .bad)
  | .call c => callOpW C P env st s c K'
  | .makeMap t none => mapMakeW C env st s t fun x env st => strS st (K' x env)
  | .range t x => rangeW C env st s t (opd env x) fun x env st => strES env st (K' x)
  | .next x false => nextW st (opd env x) fun x st => strS st (K' x env)
  | .entry x => entryW st (opd env x) fun x => K' x env st
  | .mapUpdate t m k x => mapSetW C env st t (opd env m) (opd env k) (opd env x) fun env st => strS st (K' .bad env)
  | .insert t m k x => mapSetW C env st t (opd env m) (opd env k) (opd env x) fun env st => strS st (K' .bad env)
  | op => pureW C env st op fun x => K' x env st

/-- The same, its new memory named by its slot. -/
def opW (C : Ctx) (P : Program) (o : Oper) (env : Env) (st : St) (K' : LV → Env → St → Prop) : Prop := opWs C P (site o.dst) o env st K'

def putE (env : Env) (d : Option Nat) (x : LV) : Env := match d with
  | some d => (d, x) :: env
  | none => env

def gdE (ops : List Oper) (env : Env) (o : Oper) : Option Bool :=
  match o.guard with
  | none => some true
  | some (j, want) => match nth ops j with
    | some p => match p.dst with
      | some d => match look env d with
        | some (.t (.v (.bool b))) => some (match want with | true => b | false => !b)
        | some (.tup []) => some false
        | _ => none
      | none => none
    | none => none

/-- A truth value that a guard hangs on is told apart where it is made. -/
def splW (g : Bool) (x : LV) (K' : LV → Prop) : Prop :=
  match g, x with
  | true, .t (.v (.bool b)) => (b = true → K' (.t (.v (.bool true)))) ∧ (b = false → K' (.t (.v (.bool false))))
  | _, x => strW x K'

/-- Which operations make a truth value of their own. -/
def splK : Op → Bool
  | .move _ | .assign _ | .pick _ _ _ | .unOp _ _ _ => false
  | _ => true

def regGo (C : Ctx) (P : Program) (ops : List Oper) (Q : Env → St → Prop) : List Oper → Env → St → Prop
  | [], env, st => Q env st
  | o :: r, env, st => match gdE ops env o with
    | some true => opW C P o env st fun x env st => splW (splK o.op) x fun x => regGo C P ops Q r (putE env o.dst x) st
    | some false => regGo C P ops Q r (putE env o.dst (.tup [])) st
    | none => False

def regW (C : Ctx) (P : Program) (ops : List Oper) (env : Env) (st : St) (Q : Env → St → Prop) : Prop := regGo C P ops Q ops env st

section
variable {C : Ctx} {P : Program} (hC : C.OK P) {E : Ent} {N : Nat} {β : K → Nat} {RO : Nat → Prop} {env : Env} {st : St} {a : Act} {w w' : World}

theorem splW_gives {g : Bool} {x : LV} {K' : LV → Prop} (h : splW g x K') : K' x := by
  unfold splW at h
  split at h
  · rename_i b
    cases b
    · exact h.2 rfl
    · exact h.1 rfl
  · exact strW_gives h

def dstOK (N : Nat) : List Oper → Bool
  | [] => true
  | o :: r => match o.dst with
    | none => dstOK N r
    | some d => match Nat.blt d N with
      | true => dstOK N r
      | false => false
theorem dstOK_mem {N : Nat} : ∀ {l : List Oper}, dstOK N l = true → ∀ o ∈ l, ∀ d, o.dst = some d → d < N
  | [], _, o, ho => by cases ho
  | p :: r, h, o, ho => by
    unfold dstOK at h
    have key : dstOK N r = true ∧ ∀ d, p.dst = some d → d < N := by
      split at h
      · rename_i hp; exact ⟨h, fun d hd => by rw [hp] at hd; cases hd⟩
      · rename_i d hp
        split at h
        · rename_i hlt
          refine ⟨h, fun d' hd => ?_⟩
          rw [hp] at hd; cases hd
          simpa [Nat.blt_eq] using hlt
        · cases h
    rcases List.mem_cons.1 ho with rfl | ho
    · exact key.2
    · exact dstOK_mem key.1 o ho

theorem SR.put (h : SR E N β RO env st a w) {d : Option Nat} {x : LV} {v : Value} (hx : VL β RO w x v) (hd : ∀ n, d = some n → n < N) : SR E N β RO (putE env d x) st (a.put d v) w := by
  cases d with
  | none => exact h
  | some d =>
    refine ⟨h.wr, by simpa [Act.put] using h.size, h.defers, fun n y hy => ?_⟩
    simp only [putE, look_cons] at hy
    by_cases hn : d = n
    · subst hn
      simp only [if_true, Option.some.injEq] at hy
      subst hy
      have hlt := hd d rfl
      have hsz := h.size
      exact ⟨v, by rw [tmpAt_lt (by omega)]; simp [Act.put, hsz.1, hlt], hx⟩
    · rw [if_neg hn] at hy
      obtain ⟨u, h1, h2⟩ := h.env n y hy
      exact ⟨u, by rw [tmpAt_put hn]; exact h1, h2⟩

theorem gdE_wanted {ops : Array Oper} (hN : dstOK N ops.toList = true) (h : SR E N β RO env st a w) {o : Oper} {b : Bool} (hg : gdE ops.toList env o = some b) : Region.wanted o (yielded ops a.tmps) = b := by
  unfold gdE at hg
  unfold Region.wanted
  split at hg
  · rename_i h0; rw [h0]; cases hg; rfl
  · rename_i j want h0
    rw [h0]
    rw [nth_eq, Array.getElem?_toList] at hg
    split at hg
    · rename_i p hp
      split at hg
      · rename_i d hd
        have hlt : d < 1000000 := Nat.lt_of_lt_of_le (dstOK_mem hN p (by simpa using Array.mem_of_getElem? hp) d hd) h.size.2
        split at hg
        · rename_i bb hb
          cases hg
          obtain ⟨v, h1, h2⟩ := h.env d _ hb
          rw [tmpAt_lt hlt] at h1
          have := h2.v_inv; subst this
          have : yielded ops a.tmps j = some bb := by unfold yielded; rw [hp]; simp [hd, h1]
          simp only [this]
          cases bb <;> cases want <;> rfl
        · rename_i hb
          cases hg
          obtain ⟨v, h1, h2⟩ := h.env d _ hb
          rw [tmpAt_lt hlt] at h1
          have := h2.skip_inv; subst this
          have : yielded ops a.tmps j = none := by unfold yielded; rw [hp]; simp [hd, h1, undef]
          simp only [this]
          cases want <;> rfl
        · cases hg
      · cases hg
    · cases hg

/-- A run of an operation that yields a value. -/
theorem upon_gives {o : Oper} {s : Sem Value} {K' : LV → Env → St → Prop} {Q : Act → World → Prop} (he : (execOp a.eval o).run P w = (do pure (.value (← s)) : Sem Next).run P w) (hg : Gives P E N a w s K')
    (hQ : ∀ v x env' st' β' RO' w', K' x env' st' → SR E N β' RO' env' st' a w' → VL β' RO' w' x v → Q (a.put o.dst v) w') : o.wp P a w Q fun _ _ _ => False := by
  obtain ⟨v, w', x, env', st', β', RO', h1, h2, h3, h4⟩ := hg
  unfold Oper.wp
  rw [he]
  simp only [Sem.run_bind, h1, Result.andThen_ok, Sem.run_pure, Oper.upon]
  exact hQ v x env' st' β' RO' w' h2 h3 h4

theorem closeW_look {s sz : Nat} {es : List (List T)} : ∀ {l : Env} {K' : Env → Prop}, closeW s sz es K' l → ∃ l', K' l' ∧ ∀ n y, look l' n = some y → ∃ x, look l n = some x ∧ (y = x ∨ ∃ off len, x = .osl (.cur s) sz off len ∧ off + len ≤ es.length ∧ y = .t (.sl false sz ((es.drop off).take len)))
  | [], K', h => ⟨[], h, fun n y h => by simp [look] at h⟩
  | p :: r, K', h => by
    have stay : closeW s sz es (fun env => K' (p :: env)) r → ∃ l', K' l' ∧ ∀ n y, look l' n = some y → ∃ x, look (p :: r) n = some x ∧ (y = x ∨ ∃ off len, x = .osl (.cur s) sz off len ∧ off + len ≤ es.length ∧ y = .t (.sl false sz ((es.drop off).take len))) := fun h => by
      obtain ⟨l', h1, h2⟩ := closeW_look h
      refine ⟨p :: l', h1, fun n y hy => ?_⟩
      rw [look_cons] at hy
      rw [look_cons]
      split at hy
      · rename_i he
        cases hy
        exact ⟨_, by rw [if_pos he], .inl rfl⟩
      · rename_i he
        rw [if_neg he]
        exact h2 n y hy
    unfold closeW at h
    split at h
    · rename_i k sz' off len hp
      split at h
      · rename_i s'
        split at h
        · rename_i hs
          have hs : s' = s := by simpa using hs
          split at h
          · rename_i hz
            have hz : sz' = sz := by simpa using hz
            subst hs hz
            obtain ⟨x, rfl, hl, h⟩ := h
            obtain ⟨l', h1, h2⟩ := closeW_look h
            refine ⟨_, h1, fun n y hy => ?_⟩
            rw [look_cons] at hy
            rw [look_cons]
            split at hy
            · rename_i he
              cases hy
              exact ⟨_, by rw [if_pos he], .inr ⟨off, len, hp, hl, rfl⟩⟩
            · rename_i he
              rw [if_neg he]
              exact h2 n y hy
          · exact stay h
        · exact stay h
      · exact stay h
    · exact stay h
theorem closeW_gives {K' : Env → Prop} {s e sz : Nat} {es : List (List T)} (h : SR E N β RO env st a w) (hlk : look st.cur s = some (.row e sz es)) (hW : closeW s sz es K' env) :
    ∃ env', SR E N β (fun b => RO b ∨ b = β (.cur s)) env' { st with cur := delCur s st.cur } a w ∧ K' env' := by
  obtain ⟨l', h1, h2⟩ := closeW_look hW
  have hf := h.freeze hlk
  refine ⟨l', ⟨hf.wr, h.size, h.defers, fun n y hy => ?_⟩, h1⟩
  obtain ⟨x, hx, hxy⟩ := h2 n y hy
  obtain ⟨v, hv, hvl⟩ := h.env n x hx
  refine ⟨v, hv, ?_⟩
  rcases hxy with rfl | ⟨off, len, rfl, hl, rfl⟩
  · exact hvl.ro fun b hb => .inl hb
  · exact .t _ _ (snap (fun b hb => .inl hb) (.inr rfl) (h.wr.obj (.cur s) _ hlk) hvl hl)

theorem frzW_gives {K' : List LV → Env → St → Prop} : ∀ {l : List Operand} {acc : List LV} {us : List Value} {RO : Nat → Prop} {env : Env} {st : St}, SR E N β RO env st a w → (∀ RO' : Nat → Prop, (∀ b, RO b → RO' b) → Vals β RO' w acc us) → frzW K' l acc env st →
    ∃ env' st' RO' args, SR E N β RO' env' st' a w ∧ Vals β RO' w args (us ++ l.map a.eval) ∧ K' args env' st'
  | [], acc, us, RO, env, st, h, ha, hW => ⟨env, st, RO, acc, h, by simpa using ha RO fun _ h => h, hW⟩
  | o :: r, acc, us, RO, env, st, h, ha, hW => by
    have hx := h.opd o
    unfold frzW at hW
    have next : ∀ {RO1 : Nat → Prop} {env1 : Env} {st1 : St} {y : LV}, (∀ b, RO b → RO1 b) → SR E N β RO1 env1 st1 a w → VL β RO1 w y (a.eval o) → frzW K' r (acc ++ [y]) env1 st1 → ∃ env' st' RO' args, SR E N β RO' env' st' a w ∧ Vals β RO' w args (us ++ (o :: r).map a.eval) ∧ K' args env' st' := by
      intro RO1 env1 st1 y hro h1 hy hW1
      obtain ⟨env', st', RO', args, h2, h3, h4⟩ := frzW_gives h1 (acc := acc ++ [y]) (us := us ++ [a.eval o]) (fun RO2 hro2 => (ha RO2 fun b hb => hro2 b (hro b hb)).snoc (hy.ro hro2)) hW1
      exact ⟨env', st', RO', args, h2, by simpa using h3, h4⟩
    split at hW
    · rename_i cs ho
      rw [ho] at hx
      generalize hv : a.eval o = v at hx
      cases hx with
      | agg _ vs hl hcv h1 =>
      obtain ⟨env1, st1, RO1, ts, hro, h2, ht, hW1⟩ := cellsTW_gives (K' := fun ts env st => frzW K' r (acc ++ [.agg (ts.map .t)]) env st) h (vs := vs) ⟨hl, hcv, h1⟩ (acc := []) (us := []) ⟨rfl, fun i x v hx => by simp at hx⟩ hW
      simp only [List.nil_append] at ht
      refine next hro h2 ?_ hW1
      rw [hv]
      refine .agg _ vs (by simpa using ht.1) (fun i x v hx hv => ?_) h1
      rw [List.getElem?_map] at hx
      cases hc : ts[i]? with
      | none => simp [hc] at hx
      | some y => simp [hc] at hx; rw [← hx]; exact .t _ _ (ht.2 i y v hc hv)
    · rename_i x ho
      rw [ho] at hx
      exact next (fun _ h => h) h hx hW
    · rename_i k sz off len ho
      rw [ho] at hx
      split at hW
      rotate_left
      · cases hW
      rename_i s
      split at hW
      rotate_left
      · cases hW
      rename_i e sz' es hlk
      split at hW
      rotate_left
      · cases hW
      rename_i hsz
      simp at hsz
      subst hsz
      obtain ⟨x, rfl, hl, hW⟩ := hW
      obtain ⟨env1, h1, hW⟩ := closeW_gives h hlk hW
      exact next (fun b hb => .inl hb) h1 (.t _ _ (snap (fun b hb => .inl hb) (.inr rfl) (h.wr.obj (.cur s) _ hlk) hx hl)) hW
    · cases hW

/-- A call, once its contract is at hand. -/
theorem call_wp_of {o : Oper} {c : Call} {fo : Operand} {f : Nat} {Q : Act → World → Prop} (hop : o.op = .call c) (hcal : c.callee = .value fo) (h : SR E N β RO env st a w) (hf : opd env fo = .fn f []) (hfn : FnOK P f)
    (hcalls : Calls P f (c.args.toList.map a.eval).toArray w fun e w' => ∃ v, e = .returned v ∧ Q (a.put o.dst v) w') : o.wp P a w Q fun _ _ _ => False := by
  have hfv := h.opd fo
  rw [hf] at hfv
  cases hv : a.eval fo <;> rw [hv] at hfv <;> cases hfv
  unfold FnOK at hfn
  cases hfun : P.funcs[f]? with
  | none => simp [hfun] at hfn
  | some fn =>
    simp only [hfun, Option.any_some, Bool.and_eq_true, bne_iff_ne, ne_eq] at hfn
    have hbody : fn.body.isNone = false := by
      cases hb : fn.body with
      | none => simp [hb] at hfn
      | some _ => rfl
    have hrun : (execOp a.eval o).run P w = .ok (.enter f (c.args.toList.map a.eval).toArray) w := by
      have hname : (fn.name == "runtime.NumGoroutine") = false := by simpa using hfn.2
      simp only [execOp, hop, resolve, hcal, hv, Deferred.ofValue, Sem.run_bind, Sem.run_pure, Result.andThen_ok, invoke, callFunc, run_program, hfun, hname, hbody, Bool.false_eq_true, if_false]
      congr 2
      rw [← Array.toList_inj]
      simp
    unfold Oper.wp
    rw [hrun]
    simp only [Oper.upon]
    refine hcalls.mono ?_
    rintro e w' ⟨v, rfl, hQ⟩
    exact hQ

include hC
theorem pure_wp {o : Oper} {K' : LV → Prop} {Q : Act → World → Prop} (h : SR E N β RO env st a w) (hW : pureW C env st o.op K') (hQ : ∀ v x, K' x → VL β RO w x v → Q (a.put o.dst v) w) : o.wp P a w Q fun _ _ _ => False := by
  obtain ⟨x, hx, hK⟩ := pureW_pev hW
  obtain ⟨v, h1, h2⟩ := pev_sound hC h hx
  unfold Oper.wp
  rw [h1]
  exact hQ v x hK h2

omit hC in
theorem Gives.mono {s : Sem Value} {K1 K2 : LV → Env → St → Prop} (h : Gives P E N a w s K1) (hK : ∀ x env st, K1 x env st → K2 x env st) : Gives P E N a w s K2 := by
  obtain ⟨v, w', x, env', st', β', RO', h1, h2, h3⟩ := h
  exact ⟨v, w', x, env', st', β', RO', h1, hK _ _ _ h2, h3⟩

theorem opWs_sound {s : Nat} {o : Oper} {K' : LV → Env → St → Prop} {Q : Act → World → Prop} (h : SR E N β RO env st a w) (hW : opWs C P s o env st K')
    (hQ : ∀ v x env' st' β' RO' w', K' x env' st' → SR E N β' RO' env' st' a w' → VL β' RO' w' x v → Q (a.put o.dst v) w') : o.wp P a w Q fun _ _ _ => False := by
  unfold opWs at hW
  split at hW
  · rename_i t hop
    split at hW
    · rename_i ti hti
      exact upon_gives (s := Instr.alloc t true (.tuple #[])) (by simp only [execOp, hop]) ((allocW_gives hC h hti hW).mono fun _ _ _ => strS_gives) hQ
    · cases hW
  · rename_i t x hop
    exact upon_gives (s := Instr.box t (a.eval x)) (by simp only [execOp, hop]) ((boxW_gives h hW).mono fun _ _ _ => strS_gives) hQ
  · rename_i t l c hop
    exact upon_gives (s := Instr.makeSlice t (a.eval l) (a.eval c)) (by simp only [execOp, hop]) ((madeW_gives hC h hW).mono fun _ _ _ => strS_gives) hQ
  · rename_i t len parts hop
    refine upon_gives (s := Instr.buildSlice t len (parts.map fun p => (p.1, a.eval p.2))) (by simp only [execOp, hop]) ?_ hQ
    split at hW
    · have := (litW_gives hC h hW).mono fun _ _ _ => strES_gives
      simpa using this
    · have := (litGW_gives hC h hW).mono fun _ _ _ => strES_gives
      simpa using this
  · rename_i t x y hop
    obtain ⟨w', env', st', β', RO', h1, h2, h3⟩ := storeW_gives hC h (h.opd x) (h.opd y) hW
    unfold Oper.wp
    simp only [execOp, hop, Sem.run_bind, h1, Result.andThen_ok, Sem.run_pure, Oper.upon]
    exact hQ undef .bad env' st' β' RO' w' (strES_gives h2) h3 (.bad _)
  · rename_i c hop
    unfold callOpW at hW
    split at hW
    · rename_i hcal
      split at hW
      · rename_i x y t t' hargs hts
        split at hW
        · rename_i ht
          simp at ht
          subst ht
          have e1 : c.args = #[x, y] := by rw [← Array.toList_inj]; exact hargs
          have e2 : c.argTypes = #[t, t] := by rw [← Array.toList_inj]; exact hts
          refine upon_gives (s := Builtin.append_ #[t, t] o.type #[a.eval x, a.eval y]) ?_ (by
            split at hW
            · exact (appTW_gives hC h (h.opd x) (h.opd y) hW).mono fun _ _ _ => strES_gives
            · exact (appGW_gives hC h (h.opd x) (h.opd y) hW).mono fun _ _ _ => strES_gives) hQ
          simp only [execOp, hop, resolve, hcal, invoke, builtin, e1, e2, Sem.run_bind, Sem.run_pure, Result.andThen_ok]
          simp
        · cases hW
      · cases hW
    · rename_i fo hcal
      split at hW
      · rename_i f p cap hf
        exact call_wp hop hcal h hf (strL_gives hW) fun v x env' st' β2 RO2 w' hK hs hv _ => hQ v x env' st' β2 RO2 w' (strES_gives hK) hs hv
      · rename_i f hf
        split at hW
        · split at hW
          rotate_left
          · cases hW
          rename_i vs hvs
          obtain ⟨y, hE, hK⟩ := hW
          have hfv := h.opd fo
          rw [hf] at hfv
          cases hv : a.eval fo <;> rw [hv] at hfv <;> cases hfv
          have hgen : ∀ (l : List Operand) (vs : List Value), valsV (l.map (opd env)) = some vs → l.map a.eval = vs := by
            intro l
            induction l with
            | nil => intro vs hl; cases hl; rfl
            | cons p l ih =>
              intro vs hl
              simp only [List.map_cons, valsV] at hl
              split at hl
              · rename_i u l' hx hl'
                cases hl
                have h1 := h.opd p
                rw [hx] at h1
                rw [List.map_cons, ih _ hl', h1.v_inv]
              · cases hl
          have hargs' := hgen _ _ hvs
          have hargs2 : c.args.map a.eval = vs.toArray := by rw [← Array.toList_inj]; simpa using hargs'
          obtain ⟨r, hr, hy⟩ := hE w
          unfold Oper.wp
          have hrun : (execOp a.eval o).run P w = .ok (.value r) w := by
            simp only [execOp, hop, resolve, hcal, hv, Deferred.ofValue, Sem.run_bind, Sem.run_pure, Result.andThen_ok, invoke, hargs2]
            simpa using hr
          rw [hrun]
          exact hQ _ _ env st β RO w (strW_gives hK) h (hy β RO)
        split at hW
        rotate_left
        · rename_i kx hkx
          unfold extW at hW
          split at hW
          rotate_left
          · cases hW
          rename_i s n hargs
          have hfv := h.opd fo
          rw [hf] at hfv
          cases hv : a.eval fo <;> rw [hv] at hfv <;> cases hfv
          have hgen : ∀ l : List Operand, l.map (opd env) = [.t (.v (.string s)), .t (.v (.int .u8 n))] → l.map a.eval = [.string s, .int .u8 n] := by
            intro l hl
            match l, hl with
            | [], hl => simp at hl
            | [_], hl => simp at hl
            | _ :: _ :: _ :: _, hl => simp at hl
            | [p, q], hl =>
              simp only [List.map_cons, List.map_nil, List.cons.injEq, and_true] at hl ⊢
              have h1 := h.opd p; have h2 := h.opd q
              rw [hl.1] at h1; rw [hl.2] at h2
              exact ⟨h1.v_inv, h2.v_inv⟩
          have hargs' := hgen _ hargs
          have hargs2 : c.args.map a.eval = #[.string s, .int .u8 n] := by rw [← Array.toList_inj]; simpa using hargs'
          unfold Oper.wp
          have hrun : (execOp a.eval o).run P w = .ok (.value (.int .i64 (Lib.indexByte s.data.toList n.toNat.toUInt8))) w := by
            have := hC.exts f kx hkx s n w
            simp only [execOp, hop, resolve, hcal, hv, Deferred.ofValue, Sem.run_bind, Sem.run_pure, Result.andThen_ok, invoke, hargs2]
            simpa using this
          rw [hrun]
          exact hQ _ _ env st β RO w (hW _ rfl) h (.t _ _ (.v _ rfl))
        split at hW
        rotate_left
        · obtain ⟨env1, st1, RO1, args, h1, h2, hS⟩ := frzW_gives h (acc := []) (us := []) (fun _ _ => ⟨rfl, fun i x v h => by simp at h⟩) hW
          simp only [List.nil_append] at h2
          refine call_wp_of hop hcal h hf hS.1 ((hS.2 β RO1 w _ (bare_wr h1.wr) h2).mono ?_)
          rintro e w' ⟨v, r, ro, out', β', RO', he, hp, hw, hr⟩
          obtain ⟨x, env', st', β2, RO2, g1, g2, g3, _⟩ := plW_gives h1 hw hr hp (.inl fun b hb => (hw.roNew b hb).imp id fun h => h.elim id False.elim)
          exact ⟨v, he, hQ v x env' st' β2 RO2 w' (strES_gives g1) g2 g3⟩
        split at hW
        · exact call_wp hop hcal h hf (strL_gives hW) fun v x env' st' β2 RO2 w' hK hs hv _ => hQ v x env' st' β2 RO2 w' (strES_gives hK) hs hv
        · rename_i kx hkx
          split at hW
          rotate_left
          · cases hW
          rename_i x hargs
          have hS := hC.srt f kx hkx
          refine call_wp_of hop hcal h hf hS.1 ?_
          rw [hargs]
          refine (sortW_gives hS h (h.opd x) hW).mono ?_
          rintro e w' ⟨rfl, st', hK, hs⟩
          exact ⟨_, rfl, hQ _ _ env st' β RO w' (strS_gives hK) hs (.tup [] [] rfl fun i x v h => by simp at h)⟩
      · cases hW
    · exact pure_wp hC h (hop ▸ hW) fun v x hK hv => hQ v x env st β RO w hK h hv
  · rename_i t hop
    exact upon_gives (s := Instr.makeMap t none) (by simp only [execOp, hop, Option.map_none]) ((mapMakeW_gives h hW).mono fun _ _ _ => strS_gives) hQ
  · rename_i t x hop
    exact upon_gives (s := Instr.range t (a.eval x)) (by simp only [execOp, hop]) ((rangeW_gives hC h (h.opd x) hW).mono fun _ _ _ => strES_gives) hQ
  · rename_i x hop
    refine upon_gives (s := Instr.next (a.eval x) false o.type) (by simp only [execOp, hop]) (nextW_gives h (h.opd x) hW) ?_
    rintro v y env' st' β' RO' w' ⟨rfl, hK⟩ hs hv
    exact hQ v y env' st' β' RO' w' (strS_gives (K' := fun st => K' y env' st) hK) hs hv
  · rename_i x hop
    obtain ⟨u, y, h1, h2, h3⟩ := entryW_gives (P := P) h (h.opd x) hW
    unfold Oper.wp
    simp only [execOp, hop, Sem.run_bind, h1, Result.andThen_ok, Sem.run_pure, Oper.upon]
    exact hQ u y env st β RO w h2 h h3
  · rename_i t m k x hop
    obtain ⟨w', env', st', β', RO', h1, h2, h3⟩ := mapSetW_gives hC h (h.opd m) (h.opd k) (h.opd x) hW
    unfold Oper.wp
    simp only [execOp, hop, Sem.run_bind, h1, Result.andThen_ok, Sem.run_pure, Oper.upon]
    exact hQ undef .bad env' st' β' RO' w' (strS_gives h2) h3 (.bad _)
  · rename_i t m k x hop
    obtain ⟨w', env', st', β', RO', h1, h2, h3⟩ := mapSetW_gives hC h (h.opd m) (h.opd k) (h.opd x) hW
    unfold Oper.wp
    simp only [execOp, hop, Sem.run_bind, h1, Result.andThen_ok, Sem.run_pure, Oper.upon]
    exact hQ undef .bad env' st' β' RO' w' (strS_gives h2) h3 (.bad _)
  · exact pure_wp hC h hW fun v x hK hv => hQ v x env st β RO w hK h hv

/-- The states in which a piece of code leaves. -/
def Post (E : Ent) (N : Nat) (Q : Exit → Env → St → Prop) : Exit → Act → World → Prop := fun e a w => ∃ env st β RO, Q e env st ∧ SR E N β RO env st a w

theorem opW_sound {o : Oper} {K' : LV → Env → St → Prop} {Q : Act → World → Prop} (h : SR E N β RO env st a w) (hW : opW C P o env st K')
    (hQ : ∀ v x env' st' β' RO' w', K' x env' st' → SR E N β' RO' env' st' a w' → VL β' RO' w' x v → Q (a.put o.dst v) w') : o.wp P a w Q fun _ _ _ => False := opWs_sound hC h hW hQ

theorem regGo_sound {ops : Array Oper} {Q : Env → St → Prop} {Q' : Exit → Act → World → Prop} (hd : dstOK N ops.toList = true) (hQ : ∀ env st β RO a w, Q env st → SR E N β RO env st a w → Q' .normal a w) :
    ∀ (l : List Oper) (k : Nat) (β : K → Nat) (RO : Nat → Prop) (env : Env) (st : St) (a : Act) (w : World), ops.toList.drop k = l → SR E N β RO env st a w → regGo C P ops.toList Q l env st → wpOps P ops Q' (List.range' k l.length) a w
  | [], k, β, RO, env, st, a, w, _, h, hW => hQ env st β RO a w hW h
  | o :: r, k, β, RO, env, st, a, w, hk, h, hW => by
    have hok : ops[k]? = some o := by
      have : (ops.toList.drop k)[0]? = some o := by rw [hk]; rfl
      rw [List.getElem?_drop, Nat.add_zero, Array.getElem?_toList] at this
      exact this
    have hdr : ops.toList.drop (k + 1) = r := by
      have := congrArg (List.drop 1) hk
      rw [List.drop_drop] at this
      simpa [Nat.add_comm] using this
    have hdo : ∀ d, o.dst = some d → d < N := dstOK_mem hd o (by
      have : o ∈ ops.toList.drop k := by rw [hk]; exact List.mem_cons_self ..
      exact List.mem_of_mem_drop this)
    simp only [List.length_cons, List.range'_succ, wpOps, hok]
    unfold regGo at hW
    split at hW
    · rename_i hg
      rw [gdE_wanted hd h hg, if_pos rfl]
      have hnx := opW_sound hC (Q := wpOps P ops Q' (List.range' (k + 1) r.length)) h hW fun v x env' st' β' RO' w' hK hs hv =>
        regGo_sound hd hQ r (k + 1) β' RO' _ st' _ w' hdr (hs.put hv hdo) (splW_gives hK)
      exact .inl (anyF_sound.wp_weaken (fun _ _ _ h => h.elim) hnx)
    · rename_i hg
      rw [gdE_wanted hd h hg, if_neg (by simp)]
      exact regGo_sound hd hQ r (k + 1) β RO _ st _ w hdr (h.put .skip hdo) hW
    · cases hW

theorem regW_sound {id : Nat} {ops : Array Oper} {Q : Env → St → Prop} {Q' : Exit → Act → World → Prop} (hd : dstOK N ops.toList = true) (hQ : ∀ env st β RO a w, Q env st → SR E N β RO env st a w → Q' .normal a w)
    (h : SR E N β RO env st a w) (hW : regW C P ops.toList env st Q) : (Code.region id ops false).wp P Q' a w := by
  refine wp_region ?_
  rw [List.range_eq_range', show ops.size = ops.toList.length by simp]
  exact regGo_sound hC hd hQ ops.toList 0 β RO env st a w rfl h hW

end
end Go.Fw

/- The value logic, part 19: a region whose order is drawn. -/
namespace Go.Fw
open Go

/-! ### What is looked at ahead of the walk: the order in which it is told -/
def belB (ops : Array Oper) : Nat → Oper → Nat → Bool
  | 0, _, _ => false
  | n + 1, o, j => (o.after.toList.any fun e => Region.binds .any e && Nat.beq e.on j) || o.after.toList.any fun e => Region.binds .any e && match ops[e.on]? with
    | some o2 => belB ops n o2 j
    | none => false
theorem belB_spec {ops : Array Oper} : ∀ {n : Nat} {o : Oper} {j : Nat}, belB ops n o j = true → Befo ops o j
  | 0, _, _, h => by cases h
  | n + 1, o, j, h => by
    simp only [belB, Bool.or_eq_true] at h
    rcases h with h | h
    · obtain ⟨e, he, hb⟩ := List.any_eq_true.1 h
      simp only [Bool.and_eq_true] at hb
      have : e.on = j := by simpa using hb.2
      exact this ▸ .one e (by simpa using he) hb.1
    · obtain ⟨e, he, hb⟩ := List.any_eq_true.1 h
      simp only [Bool.and_eq_true] at hb
      obtain ⟨hb, h2⟩ := hb
      split at h2
      · rename_i o2 ho2
        exact .step e (by simpa using he) hb ho2 (belB_spec h2)
      · cases h2
def firstB (ops : Array Oper) (listed : Array Bool) (i : Nat) (o : Oper) : Bool :=
  (Region.ready .any ops listed).contains i &&
    ((match o.dst with
      | some d => !(o.looksAt ops).contains d && (List.range ops.size).all fun k => !listed.getD k false || match ops[k]? with
        | some ok => !(ok.looksAt ops).contains d
        | none => true
      | none => true) &&
    (List.range ops.size).all fun j => match ops[j]? with
      | some oj => Nat.beq j i || listed.getD j true || (oj.after.toList.any fun e => Region.binds .any e && Nat.beq e.on i) || o.apart ops oj
      | none => true)
/-- Is a tree of orders one that may be walked? -/
def treeB (ops : Array Oper) : Tr → List Nat → Array Bool → Bool
  | .done, _, _ => true
  | .pure i t, pf, listed => match ops[i]? with
    | some o => firstB ops listed i o && treeB ops t (i :: pf) (listed.setIfInBounds i true)
    | none => false
  | .eff i t, pf, listed => match ops[i]? with
    | some _ => (match Region.ready .any ops listed with | [j] => Nat.beq i j | _ => false) && treeB ops t pf (listed.setIfInBounds i true)
    | none => false
  | .last i t L, pf, listed => match ops[i]? with
    | some o => (Region.ready .any ops listed).contains i && (pf.all (fun j => belB ops 3 o j || L.contains j) && treeB ops t pf (listed.setIfInBounds i true))
    | none => false
  | .fork i t L rest, pf, listed => match ops[i]? with
    | some o => (Region.ready .any ops listed).contains i && (pf.all (fun j => belB ops 3 o j || L.contains j) && (treeB ops t pf (listed.setIfInBounds i true) && treeB ops rest pf listed))
    | none => false
def treeOf : List (Nat × Kind) → Option Tr
  | [] => none
  | p :: r => match r with
    | [] => match p.2 with
      | .tree t => some t
      | _ => none
    | _ => none

def distB : List Oper → Bool
  | [] => true
  | o :: r => (match o.dst with
    | some d => r.all fun p => match p.dst with
      | some e => !Nat.beq d e
      | none => true
    | none => true) && distB r

def ordOK (ops : Array Oper) (ord : List (Nat × Kind)) : Bool :=
  Region.noSelect ops && (distB ops.toList && (covB ops (trOf ord) ops.size (Array.replicate ops.size false) (Region.ready .any ops (Array.replicate ops.size false)) && treeB ops (trOf ord) [] (Array.replicate ops.size false)))

theorem distB_spec : ∀ {l : List Oper}, distB l = true → ∀ (i j : Nat) (o p : Oper) (d : Nat), l[i]? = some o → l[j]? = some p → o.dst = some d → p.dst = some d → i = j
  | [], _, i, j, o, p, d, hi, _, _, _ => by simp at hi
  | q :: r, h, i, j, o, p, d, hi, hj, ho, hp => by
    simp only [distB, Bool.and_eq_true] at h
    obtain ⟨h1, h2⟩ := h
    have key : ∀ (m : Nat) (p : Oper), r[m]? = some p → q.dst = some d → p.dst = some d → False := by
      intro m p hm hq hp
      rw [hq] at h1
      simp only [List.all_eq_true] at h1
      have := h1 p (List.mem_of_getElem? hm)
      rw [hp] at this
      simp at this
    cases i with
    | zero =>
      cases j with
      | zero => rfl
      | succ j =>
        simp only [List.getElem?_cons_zero, Option.some.injEq, List.getElem?_cons_succ] at hi hj
        subst hi
        exact (key j p hj ho hp).elim
    | succ i =>
      cases j with
      | zero =>
        simp only [List.getElem?_cons_zero, Option.some.injEq, List.getElem?_cons_succ] at hi hj
        subst hj
        exact (key i o hi hp ho).elim
      | succ j =>
        simp only [List.getElem?_cons_succ] at hi hj
        rw [distB_spec h2 i j o p d hi hj ho hp]

/-! ### What is asked -/
def leW (st st' : St) : Prop := st'.cur.drop (st'.cur.length - st.cur.length) = st.cur ∧ st'.out = st.out ∧ ((st'.cur.take (st'.cur.length - st.cur.length)).all fun p => (look st.cur p.1).isNone) = true

/-- A literal of a slice whose parts are all closed data. -/
def clT : List LV → Option (List T)
  | [] => some []
  | .t x :: r => match clT r with
    | some l => some (x :: l)
    | none => none
  | _ :: _ => none
def partsC (env : Env) (sz : Nat) : Nat → List (Nat × Operand) → Option (List (List T))
  | _, [] => some []
  | i, (j, o) :: r => match Nat.beq i j, cellsOf (opd env o) with
    | true, some cs => match clT cs, partsC env sz (i + 1) r with
      | some ts, some l => match Nat.beq cs.length sz with
        | true => some (ts :: l)
        | false => none
      | _, _ => none
    | _, _ => none
def litCW (C : Ctx) (env : Env) (st : St) (s : Nat) (t len : Nat) (parts : List (Nat × Operand)) (K' : LV → St → Prop) : Prop :=
  match C.ty t with
  | some ⟨.slice e, _, _, _⟩ => match C.ty e with
    | some te => match Nat.beq parts.length len, Nat.ble (len * te.size) 16777216, Nat.ble len 16777216 with
      | true, true, true => match partsC env te.size 0 parts, freshB env st.cur s with
        | some els, true => K' (.osl (.cur s) te.size 0 len) { st with cur := (s, .row e te.size els) :: st.cur }
        | _, _ => False
      | _, _, _ => False
    | none => False
  | _ => False

theorem clT_W : ∀ {cs : List LV} {ts acc : List T} {K' : List T → Env → St → Prop} {env : Env} {st : St}, clT cs = some ts → K' (acc ++ ts) env st → cellsTW K' cs acc env st
  | [], ts, acc, K', env, st, h, hK => by cases h; simpa [cellsTW] using hK
  | x :: r, ts, acc, K', env, st, h, hK => by
    unfold clT at h
    split at h
    · cases ‹x :: r = []›
    · rename_i y r' heq
      cases heq
      split at h
      · rename_i l hl
        cases h
        simp only [cellsTW]
        exact clT_W hl (by simpa using hK)
      · cases h
    · cases h
theorem partsC_W {env env2 : Env} {st : St} {sz : Nat} {K' : List (List T) → Env → St → Prop} : ∀ {i : Nat} {parts : List (Nat × Operand)} {els acc : List (List T)}, (∀ p ∈ parts, opd env2 p.2 = opd env p.2) → partsC env sz i parts = some els → K' (acc ++ els) env2 st → partsW 0 sz K' i parts acc env2 st
  | i, [], els, acc, _, h, hK => by cases h; simpa [partsW] using hK
  | i, (j, o) :: r, els, acc, ho, h, hK => by
    simp only [partsC] at h
    simp only [partsW]
    rw [ho (j, o) (List.mem_cons_self ..)]
    split at h
    · rename_i cs hij hcs
      split at h
      · rename_i ts l hts hl
        split at h
        · rename_i hsz
          cases h
          rw [hij, hcs]
          simp only [hsz]
          refine clT_W hts ?_
          simp only [List.nil_append]
          exact partsC_W (fun p hp => ho p (List.mem_cons_of_mem _ hp)) hl (by simpa using hK)
        · cases h
      · cases h
    · cases h

def effW (C : Ctx) (P : Program) (o : Oper) (env : Env) (st : St) (K' : LV → St → Prop) : Prop :=
  match o.op with
  | .buildSlice t len parts => match look st.cur (site o.dst) with
    | none => litCW C env st (site o.dst) t len parts.toList fun x st => strS st (K' x)
    | some _ => False
  | .alloc t => match C.ty t, look st.cur (site o.dst) with
    | some ti, none => boxW env st (site o.dst) (some (ti.zero.map fun v => .t (ofV v))) fun x _ st => strS st (K' x)
    | _, _ => False
  | .box _ x => match look st.cur (site o.dst) with
    | none => boxW env st (site o.dst) (cellsOf (opd env x)) fun x _ st => strS st (K' x)
    | some _ => False
  | .makeSlice t l c => match look st.cur (site o.dst) with
    | none => makeW C env st (site o.dst) t (opd env l) (opd env c) fun x _ st => strS st (K' x)
    | some _ => False
  | .call c => match c.callee with
    | .value fo => match opd env fo with
      | .fn f cap => strL (c.args.toList.map (opd env) ++ capArgs cap) fun args => callW P env st (site o.dst) f args fun x _ st' => leW st st' ∧ strS st' (K' x)
      | _ => False
    | _ => False
  | _ => False

/-- One operation in its place. -/
def stepW (C : Ctx) (P : Program) (o : Oper) (k : Kind) (env : Env) (st : St) (K' : LV → Env → St → Prop) : Prop :=
  match k with
  | .pure => pureW C env st o.op fun x => K' x env st
  | .eff => effW C P o env st fun x st => K' x env st
  | .syn => opW C P o env st K'
  | .tree _ => False

def seqGo (C : Ctx) (P : Program) (ops : List Oper) (Q : Env → St → Prop) : List (Oper × Kind) → Env → St → Prop
  | [], env, st => Q env st
  | p :: r, env, st => match gdE ops env p.1 with
    | some true => stepW C P p.1 p.2 env st fun x env st => splW (splK p.1.op) x fun x => seqGo C P ops Q r (putE env p.1.dst x) st
    | some false => seqGo C P ops Q r (putE env p.1.dst (.tup [])) st
    | none => False

def Kind.isTree : Kind → Bool
  | .tree _ => true
  | _ => false
def ordL (ops : List Oper) : List (Nat × Kind) → Option (List (Oper × Kind))
  | [] => some []
  | p :: r => match nth ops p.1, ordL ops r, p.2.isTree with
    | some o, some l, false => some ((o, p.2) :: l)
    | _, _, _ => none

/-- What only reads says the same again. -/
def againW (C : Ctx) (ops : List Oper) : List Nat → Env → St → Prop → Prop
  | [], _, _, K' => K'
  | j :: r, env, st, K' => match nth ops j with
    | some o => match o.guard with
      | none => match o.dst with
        | some d => pureW C env st o.op fun y => look env d = some y ∧ againW C ops r env st K'
        | none => False
      | some _ => False
    | none => False
/-- Every order, as a tree tells them. -/
def treeW (C : Ctx) (P : Program) (ops : List Oper) (Q : Env → St → Prop) : Tr → Env → St → Prop
  | .done, env, st => Q env st
  | .pure i t, env, st => match nth ops i with
    | some o => match gdE ops env o with
      | some true => pureW C env st o.op fun x => splW (splK o.op) x fun x => treeW C P ops Q t (putE env o.dst x) st
      | some false => treeW C P ops Q t (putE env o.dst (.tup [])) st
      | none => False
    | none => False
  | .eff i t, env, st => match nth ops i with
    | some o => match gdE ops env o with
      | some true => effW C P o env st fun x st => splW (splK o.op) x fun x => treeW C P ops Q t (putE env o.dst x) st
      | some false => treeW C P ops Q t (putE env o.dst (.tup [])) st
      | none => False
    | none => False
  | .last i t L, env, st => match nth ops i with
    | some o => match gdE ops env o with
      | some true => opW C P o env st fun x env st => splW (splK o.op) x fun x => againW C ops L (putE env o.dst x) st (treeW C P ops Q t (putE env o.dst x) st)
      | some false => againW C ops L (putE env o.dst (.tup [])) st (treeW C P ops Q t (putE env o.dst (.tup [])) st)
      | none => False
    | none => False
  | .fork i t L rest, env, st => (match nth ops i with
    | some o => match gdE ops env o with
      | some true => opW C P o env st fun x env st => splW (splK o.op) x fun x => againW C ops L (putE env o.dst x) st (treeW C P ops Q t (putE env o.dst x) st)
      | some false => againW C ops L (putE env o.dst (.tup [])) st (treeW C P ops Q t (putE env o.dst (.tup [])) st)
      | none => False
    | none => False) ∧ treeW C P ops Q rest env st

def seqW (C : Ctx) (P : Program) (ops : List Oper) (Q : Env → St → Prop) (ord : List (Nat × Kind)) (env : Env) (st : St) : Prop :=
  match treeOf ord with
  | some t => treeW C P ops Q t env st
  | none => match ordL ops ord with
    | some l => seqGo C P ops Q l env st
    | none => False

section
variable {C : Ctx} {P : Program} {E : Ent} {N : Nat} {β : K → Nat} {RO : Nat → Prop} {env : Env} {st : St} {a : Act} {w w' : World} {ef : EF}

/-! ### Slots as a list and as a function -/
def ofF (ns : List Nat) (ef : EF) : Env := ns.filterMap fun n => (ef n).map fun x => (n, x)
theorem look_ofF (ef : EF) : ∀ (ns : List Nat) (n : Nat), look (ofF ns ef) n = if n ∈ ns then ef n else none
  | [], n => by simp [ofF, look]
  | m :: r, n => by
    have ih := look_ofF ef r n
    unfold ofF at ih ⊢
    cases hm : ef m with
    | none =>
      simp only [List.filterMap_cons, hm, Option.map_none]
      rw [ih]
      by_cases hn : n = m
      · subst hn; simp [hm]
      · simp [hn]
    | some x =>
      simp only [List.filterMap_cons, hm, Option.map_some, look_cons]
      by_cases hn : m = n
      · subst hn; simp [hm]
      · rw [if_neg hn, ih]; simp [Ne.symm hn]

theorem SF.list (h : SF E N β RO ef st a w) {env : Env} (he : ∀ n x, look env n = some x → ef n = some x) : SR E N β RO env st a w :=
  ⟨h.wr, h.size, h.defers, fun n x hx => h.env n x (he n x hx)⟩
theorem SF.ofF (h : SF E N β RO ef st a w) (ns : List Nat) : SR E N β RO (ofF ns ef) st a w := h.list fun n x hx => by
  rw [look_ofF] at hx
  split at hx
  · exact hx
  · cases hx
theorem SR.toF (h : SR E N β RO env st a w) : SF E N β RO (look env) st a w := ⟨h.wr, h.size, h.defers, h.env⟩

theorem look_putE (env : Env) (d : Option Nat) (x : LV) : look (putE env d x) = putF (look env) d x := by
  cases d with
  | none => rfl
  | some d =>
    funext n
    simp only [putE, look_cons, putF]
    by_cases h : d = n
    · subst h; simp
    · rw [if_neg h, if_neg (Ne.symm h)]

theorem gdE_F {ops : Array Oper} {o : Oper} {b : Bool} (h : gdE ops.toList env o = some b) : gdF ops (look env) o = some b := by
  unfold gdE at h
  unfold gdF
  split at h
  · rename_i h0; rw [h0]; exact h
  · rename_i j want h0
    rw [h0]
    rw [nth_eq, Array.getElem?_toList] at h
    split at h
    · rename_i p hp
      split at h
      · rename_i d hd
        split at h
        · rename_i bb hb
          simp only [hp, Option.bind_some, hd, hb]
          rw [← h]
          cases bb <;> cases want <;> rfl
        · rename_i hb
          simp only [hp, Option.bind_some, hd, hb]
          exact h
        · cases h
      · cases h
    · cases h

theorem looks_mem {ops : Array Oper} {o : Oper} {n : Nat} (h : .tmp n ∈ o.op.operands) : n ∈ o.looksAt ops := by
  unfold Oper.looksAt
  refine List.mem_append_left _ (List.mem_filterMap.2 ⟨.tmp n, by simpa using h, rfl⟩)

theorem opd_agree {ops : Array Oper} {o : Oper} {env env' : Env} (h : ∀ n ∈ o.looksAt ops, look env' n = look env n) : ∀ x ∈ o.op.operands, opd env' x = opd env x :=
  fun _ hx => opd_congr fun t ht => h t (looks_mem (ht ▸ hx))

theorem pureS_of {ops : Array Oper} (hC : C.OK P) {o : Oper} {x : LV} (h : pev C env st o.op = some x) : PureS P E N ops o (look env) st x := by
  intro ef' hef st' hle β RO a w hs
  have hs' := hs.ofF (o.looksAt ops)
  refine pev_sound hC hs' ?_
  rw [pev_congr (env := env) (opd_agree (ops := ops) fun n hn => by rw [look_ofF, if_pos hn]; exact hef n hn)]
  exact pev_mono hle h

theorem envNo_app {s : K} : ∀ {pre env : Env}, envNo s (pre ++ env) = true → envNo s env = true
  | [], env, h => h
  | (m, x) :: r, env, h => by
    simp only [List.cons_append, envNo] at h
    split at h
    · cases h
    · exact envNo_app h
theorem envNo_of {s : K} : ∀ {env : Env}, (∀ p ∈ env, p.2.has s = false) → envNo s env = true
  | [], _ => rfl
  | (m, x) :: r, h => by
    have := h (m, x) (List.mem_cons_self ..)
    simp only at this
    simp only [envNo, this]
    exact envNo_of fun p hp => h p (List.mem_cons_of_mem _ hp)
theorem mem_ofF {ns : List Nat} {ef : EF} {p : Nat × LV} (h : p ∈ ofF ns ef) : ef p.1 = some p.2 := by
  unfold ofF at h
  obtain ⟨n, hn, h1⟩ := List.mem_filterMap.1 h
  cases he : ef n with
  | none => simp [he] at h1
  | some x => simp [he] at h1; rw [← h1]; exact he

/-- Where the told slots are fresh, those of another order are. -/
theorem fresh_other {env0 pre : Env} {ef' : EF} {ns : List Nat} (hp : env = pre ++ env0) (h3 : ∀ n, ef' n = look env n ∨ ef' n = look env0 n ∨ ef' n = none) {cur : Fr} {s : Nat} (hf : freshB env cur s = true) : freshB (ofF ns ef') cur s = true := by
  unfold freshB at hf ⊢
  split at hf
  · rename_i he
    have he0 : envNo (.cur s) env0 = true := envNo_app (hp ▸ he)
    rw [envNo_of fun p hpm => ?_]
    · exact hf
    · have := mem_ofF hpm
      rcases h3 p.1 with h | h | h
      · rw [h] at this; exact envNo_look he _ _ this
      · rw [h] at this; exact envNo_look he0 _ _ this
      · rw [h] at this; cases this
  · cases hf

theorem okFr_other {env0 pre : Env} {ef' : EF} {ns : List Nat} (hp : env = pre ++ env0) (h3 : ∀ n, ef' n = look env n ∨ ef' n = look env0 n ∨ ef' n = none) {ro cur : Fr} {d : Nat} : ∀ {l : Fr}, okFr ro env cur d l = true → okFr ro (ofF ns ef') cur d l = true
  | [], _ => rfl
  | (s, o) :: r, h => by
    simp only [okFr] at h ⊢
    split at h
    · rename_i h1 h2
      rw [h1, fresh_other hp h3 h2]
      exact okFr_other hp h3 h
    · cases h

theorem le_cons {st : St} {s : Nat} {ob : Ob} (hl : look st.cur s = none) : st.le { st with cur := (s, ob) :: st.cur } := by
  intro k
  induction k with
  | cur n =>
    intro o ho
    simp only [St.get, look_cons] at ho ⊢
    rw [if_neg fun e => by subst e; rw [hl] at ho; cases ho]; exact ho
  | fr i n => intro o ho; exact ho
  | sub k i ih =>
    intro o ho
    obtain ⟨eo, e, sz, rs, es, hg, hi, rfl⟩ := St.get_sub ho
    have := ih _ hg
    simp only [St.get] at this ⊢
    simp only [this, hi]


theorem boxW_other {env0 pre : Env} {ef' : EF} {ns : List Nat} (hp : env = pre ++ env0) (h3 : ∀ n, ef' n = look env n ∨ ef' n = look env0 n ∨ ef' n = none) {s : Nat} {cs : Option (List LV)} {K' : LV → St → Prop} (hl : look st.cur s = none) (h : boxW env st s cs fun x _ st => K' x st) :
    boxW (ofF ns ef') st s cs fun x e2 st' => e2 = ofF ns ef' ∧ K' x st' ∧ st.le st' := by
  unfold boxW at h ⊢
  split at h
  · split at h
    · rename_i hf
      rw [fresh_other hp h3 hf]
      exact ⟨rfl, h, le_cons hl⟩
    · cases h
  · cases h

theorem makeW_other {env0 pre : Env} {ef' : EF} {ns : List Nat} (hp : env = pre ++ env0) (h3 : ∀ n, ef' n = look env n ∨ ef' n = look env0 n ∨ ef' n = none) {s t : Nat} {l c : LV} {K' : LV → St → Prop} (hl : look st.cur s = none) (h : makeW C env st s t l c fun x _ st => K' x st) :
    makeW C (ofF ns ef') st s t l c fun x e2 st' => e2 = ofF ns ef' ∧ K' x st' ∧ st.le st' := by
  unfold makeW at h ⊢
  split at h
  · split at h
    · split at h
      · obtain ⟨h1, h2, h4, h5, h⟩ := h
        refine ⟨h1, h2, h4, h5, ?_⟩
        split at h
        · rename_i hf
          rw [fresh_other hp h3 hf]
          exact ⟨rfl, h, le_cons hl⟩
        · cases h
      · cases h
    · cases h
  · cases h

theorem litCW_other {env0 pre : Env} {ef' : EF} {ns : List Nat} (hp : env = pre ++ env0) (h3 : ∀ n, ef' n = look env n ∨ ef' n = look env0 n ∨ ef' n = none) {s t len : Nat} {parts : List (Nat × Operand)} {K' : LV → St → Prop} (ho : ∀ p ∈ parts, opd (ofF ns ef') p.2 = opd env p.2) (hl : look st.cur s = none) (h : litCW C env st s t len parts K') :
    litW C (ofF ns ef') st s t len parts fun x e2 st' => e2 = ofF ns ef' ∧ K' x st' ∧ st.le st' := by
  unfold litCW at h
  unfold litW
  split at h
  · rename_i e sz b z ht
    simp only [ht]
    split at h
    · rename_i te hte
      simp only [hte]
      split at h
      · rename_i h1 h2 h4
        rw [h1, h2, h4]
        simp only
        split at h
        · rename_i els hels hf
          refine partsC_W ho hels ?_
          rw [fresh_other hp h3 hf]
          simp only [List.nil_append]
          exact ⟨trivial, h, le_cons hl⟩
        · cases h
      · cases h
    · cases h
  · cases h

theorem le_of_leW {st st' : St} (h : leW st st') : st.le st' := by
  obtain ⟨h1, h2, h3⟩ := h
  have hcur : ∀ n o, look st.cur n = some o → look st'.cur n = some o := by
    intro n o ho
    have key : ∀ (pre : Fr), (pre.all fun p => (look st.cur p.1).isNone) = true → look (pre ++ st.cur) n = some o := by
      intro pre
      induction pre with
      | nil => intro _; exact ho
      | cons p r ih =>
        intro hp
        simp only [List.all_cons, Bool.and_eq_true] at hp
        obtain ⟨m, z⟩ := p
        simp only [List.cons_append, look_cons]
        rw [if_neg fun e => by subst e; simp [ho] at hp]
        exact ih hp.2
    have := key _ h3
    generalize hm : st'.cur.length - st.cur.length = m at *
    rw [← h1, List.take_append_drop] at this
    exact this
  intro k
  induction k with
  | cur n => intro o ho; exact hcur n o ho
  | fr i n => intro o ho; simp only [St.get, h2] at ho ⊢; exact ho
  | sub k i ih =>
    intro o ho
    obtain ⟨eo, e, sz, rs, es, hg, hi, rfl⟩ := St.get_sub ho
    have := ih _ hg
    simp only [St.get] at this ⊢
    simp only [this, hi]

theorem plW_other {env0 pre : Env} {ef' : EF} {ns : List Nat} (hp : env = pre ++ env0) (h3 : ∀ n, ef' n = look env n ∨ ef' n = look env0 n ∨ ef' n = none) {d : Nat} {r : LV} {ro : Fr} {K' : LV → St → Prop} (h : plW env st d r ro fun x _ st => K' x st) :
    plW (ofF ns ef') st d r ro fun x _ st => K' x st := by
  unfold plW at h ⊢
  split at h
  · rename_i h1 h2
    rw [h1, okFr_other hp h3 h2]
    exact h
  · cases h

theorem callW_other {env0 pre : Env} {ef' : EF} {ns : List Nat} (hp : env = pre ++ env0) (h3 : ∀ n, ef' n = look env n ∨ ef' n = look env0 n ∨ ef' n = none) {d f : Nat} {args : List LV} {K' : LV → St → Prop} (h : callW P env st d f args fun x _ st => K' x st) :
    callW P (ofF ns ef') st d f args fun x _ st => K' x st := by
  have bor : ∀ {F G : List LV → Prop}, (∀ l, F l → G l) → ∀ (args acc : List LV), borC st args acc F → borC st args acc G := by
    intro F G hFG args
    induction args with
    | nil => intro acc h; exact hFG _ h
    | cons x r ih =>
      intro acc h
      cases x with
      | osl k sz off len =>
        simp only [borC] at h ⊢
        refine getW_mono (fun o ho => ?_) h
        split at ho
        · split at ho
          · rename_i hb
            obtain ⟨xs, e1, e2, h⟩ := ho
            exact ⟨xs, e1, e2, ih _ h⟩
          · cases ho
        · cases ho
      | _ => exact ih _ h
  have borw : ∀ {F G : List LV → Prop}, (∀ l, F l → G l) → ∀ (args acc : List LV), borW st args acc F → borW st args acc G := by
    intro F G hFG args
    induction args with
    | nil => intro acc h; exact hFG _ h
    | cons x r ih =>
      intro acc h
      cases x with
      | osl k sz off len => simp only [borW] at h ⊢; exact bor (fun l hl => ih _ hl) _ _ h
      | agg cs => simp only [borW] at h ⊢; exact bor (fun l hl => ih _ hl) _ _ h
      | _ => exact ih _ h
  unfold callW at h ⊢
  split at h
  · exact h.mono fun r ro hr => plW_other hp h3 hr
  split at h
  · refine h.mono fun r ro hr => ?_
    unfold mapPW at hr ⊢
    split at hr
    · split at hr
      · exact plW_other hp h3 hr
      · cases hr
    · cases hr
  · exact borw (fun l hl => hl.mono fun r ro ⟨h1, h2, h4⟩ => ⟨h1, h2, plW_other hp h3 h4⟩) _ _ h
where getW_mono {st : St} : ∀ {k : K} {F G : Ob → Prop}, (∀ o, F o → G o) → getW st k F → getW st k G
  | .cur s, F, G, h, hg => by
    simp only [getW] at hg ⊢
    split at hg
    · exact h _ hg
    · cases hg
  | .fr i s, F, G, h, ⟨o, h1, h2⟩ => ⟨o, h1, h _ h2⟩
  | .sub k i, F, G, h, hg => by
    simp only [getW] at hg ⊢
    refine getW_mono (fun o ho => ?_) hg
    split at ho
    · obtain ⟨es, h1, h2⟩ := ho; exact ⟨es, h1, h _ h2⟩
    · cases ho

theorem effS_of (hC : C.OK P) {ops : Array Oper} {o : Oper} {env0 pre : Env} {K' : LV → St → Prop} (hp : env = pre ++ env0) (h : effW C P o env st K') :
    EffS P E N ops (look env0) o (look env) st fun x st' => st.le st' ∧ K' x st' := by
  intro ef' h2 h3 β RO a w hs
  have hlk : ∀ n ∈ o.looksAt ops, look (ofF (env.map (·.1) ++ o.looksAt ops) ef') n = look env n := fun n hn => by
    rw [look_ofF, if_pos (List.mem_append_right _ hn)]; exact h2 n hn
  have hopd := opd_agree (env := env) (o := o) (ops := ops) hlk
  have hsr := hs.ofF (env.map (·.1) ++ o.looksAt ops)
  generalize hns : env.map (·.1) ++ o.looksAt ops = ns at *
  have fin : ∀ (v : Value) (x : LV) (env2 : Env) (st2 : St) (β2 : K → Nat) (RO2 : Nat → Prop) (w2 : World), env2 = ofF ns ef' → K' x st2 → st.le st2 → SR E N β2 RO2 env2 st2 a w2 → VL β2 RO2 w2 x v →
      ∃ v' x st' β' RO', (st.le st' ∧ K' x st') ∧ a.put o.dst v = a.put o.dst v' ∧ SF E N β' RO' ef' st' a w2 ∧ VL β' RO' w2 x v' := by
    intro v x env2 st2 β2 RO2 w2 he hK hle hs2 hv
    subst he
    refine ⟨v, x, st2, β2, RO2, ⟨hle, hK⟩, rfl, ⟨hs2.wr, hs2.size, hs2.defers, fun n y hy => ?_⟩, hv⟩
    by_cases hn : n ∈ ns
    · exact hs2.env n y (by rw [look_ofF, if_pos hn]; exact hy)
    · exfalso
      have hno : ∀ {l : Env}, n ∉ l.map (·.1) → look l n = none := by
        intro l
        induction l with
        | nil => intro _; rfl
        | cons q r ih =>
          intro hq
          simp only [List.map_cons, List.mem_cons, not_or] at hq
          obtain ⟨m, z⟩ := q
          rw [look_cons, if_neg (Ne.symm hq.1)]
          exact ih hq.2
      have hn1 : n ∉ env.map (·.1) := fun hc => hn (hns ▸ List.mem_append_left _ hc)
      have hn0 : n ∉ env0.map (·.1) := fun hc => hn1 (by rw [hp]; simp only [List.map_append]; exact List.mem_append_right _ hc)
      rcases h3 n with h4 | h4 | h4
      · rw [h4, hno hn1] at hy; cases hy
      · rw [h4, hno hn0] at hy; cases hy
      · rw [h4] at hy; cases hy
  unfold effW at h
  split at h
  · rename_i t len parts hop
    split at h
    · rename_i hl
      have hx : ∀ p ∈ parts.toList, opd (ofF ns ef') p.2 = opd env p.2 := fun p hp => hopd p.2 (by
        rw [hop]; simp [Op.operands]; exact ⟨p.1, by simpa using hp⟩)
      refine upon_gives (s := Instr.buildSlice t len (parts.map fun p => (p.1, a.eval p.2))) (by simp only [execOp, hop]) ?_ fun v x env2 st2 β2 RO2 w2 (h4 : env2 = ofF ns ef' ∧ strS st2 (K' x) ∧ st.le st2) hs2 hv => fin v x env2 st2 β2 RO2 w2 h4.1 (strS_gives h4.2.1) h4.2.2 hs2 hv
      have := litW_gives hC hsr (litCW_other (K' := fun x st => strS st (K' x)) hp h3 hx hl h)
      simpa using this
    · cases h
  · rename_i t hop
    split at h
    · rename_i ti hti hl
      exact upon_gives (s := Instr.alloc t true (.tuple #[])) (by simp only [execOp, hop]) (allocW_gives hC hsr hti (boxW_other (K' := fun x st => strS st (K' x)) hp h3 hl h)) fun v x env2 st2 β2 RO2 w2 ⟨h4, h5, h6⟩ hs2 hv => fin v x env2 st2 β2 RO2 w2 h4 (strS_gives h5) h6 hs2 hv
    · cases h
  · rename_i t x hop
    split at h
    · rename_i hl
      have hx : opd (ofF ns ef') x = opd env x := hopd x (by rw [hop]; simp [Op.operands])
      rw [← hx] at h
      exact upon_gives (s := Instr.box t (a.eval x)) (by simp only [execOp, hop]) (boxW_gives hsr (boxW_other (K' := fun x st => strS st (K' x)) hp h3 hl h)) fun v x env2 st2 β2 RO2 w2 ⟨h4, h5, h6⟩ hs2 hv => fin v x env2 st2 β2 RO2 w2 h4 (strS_gives h5) h6 hs2 hv
    · cases h
  · rename_i t l c hop
    split at h
    · rename_i hl
      have hx : opd (ofF ns ef') l = opd env l := hopd l (by rw [hop]; simp [Op.operands])
      have hy : opd (ofF ns ef') c = opd env c := hopd c (by rw [hop]; simp [Op.operands])
      rw [← hx, ← hy] at h
      exact upon_gives (s := Instr.makeSlice t (a.eval l) (a.eval c)) (by simp only [execOp, hop]) (madeW_gives hC hsr (makeW_other (K' := fun x st => strS st (K' x)) hp h3 hl h)) fun v x env2 st2 β2 RO2 w2 ⟨h4, h5, h6⟩ hs2 hv => fin v x env2 st2 β2 RO2 w2 h4 (strS_gives h5) h6 hs2 hv
    · cases h
  · rename_i c hop
    split at h
    · rename_i fo hcal
      split at h
      · rename_i f cap hf
        have hx : opd (ofF ns ef') fo = opd env fo := hopd fo (by rw [hop]; simp [Op.operands, Call.operands, hcal])
        have hy : c.args.toList.map (opd (ofF ns ef')) = c.args.toList.map (opd env) := List.map_congr_left fun y hy => hopd y (by rw [hop]; simp [Op.operands, Call.operands]; exact .inr (by simpa using hy))
        rw [← hx] at hf
        have h := strL_gives h
        rw [← hy] at h
        exact call_wp hop hcal hsr hf (callW_other (K' := fun x st' => leW st st' ∧ strS st' (K' x)) hp h3 h) fun v x env2 st2 β2 RO2 w2 ⟨h4, h5⟩ hs2 hv he => fin v x env2 st2 β2 RO2 w2 he (strS_gives h5) (le_of_leW h4) hs2 hv
      · cases h
    · cases h
  · cases h

theorem firstB_spec {ops : Array Oper} {listed : Array Bool} {i : Nat} {o : Oper} (h : firstB ops listed i o = true) : FirstOK ops listed i o := by
  simp only [firstB, Bool.and_eq_true] at h
  obtain ⟨h1, h0, h2⟩ := h
  refine ⟨by simpa using h1, fun d hd => ?_, fun k ok hk hok d hd => ?_, fun j oj hj hji hl hne => ?_⟩
  · simp only [hd, Bool.and_eq_true, Bool.not_eq_true'] at h0
    intro hc
    have := h0.1
    simp [hc] at this
  · simp only [hd, Bool.and_eq_true] at h0
    have hlt : k < ops.size := (Array.getElem?_eq_some_iff.1 hok).1
    have := List.all_eq_true.1 h0.2 k (List.mem_range.2 hlt)
    rw [hk, hok] at this
    simp only [Bool.not_true, Bool.false_or, Bool.not_eq_true'] at this
    intro hc
    simp [hc] at this
  · have hlt : j < ops.size := (Array.getElem?_eq_some_iff.1 hj).1
    have := List.all_eq_true.1 h2 j (List.mem_range.2 hlt)
    rw [hj] at this
    simp only [Bool.or_eq_true, hl, Bool.false_eq_true, or_false] at this
    rcases this with (this | this) | this
    · exact absurd (by simpa using this) hji
    · obtain ⟨e, he, hb⟩ := List.any_eq_true.1 this
      simp only [Bool.and_eq_true] at hb
      exact absurd (by simpa using hb.2) (hne e (by simpa using he) hb.1)
    · exact this
theorem sole_spec {ops : Array Oper} {listed : Array Bool} {i : Nat} (h : (match Region.ready .any ops listed with | [j] => Nat.beq i j | _ => false) = true) : Region.ready .any ops listed = [i] := by
  split at h
  · rename_i j hj
    have : i = j := by simpa using h
    rw [hj, this]
  · cases h
theorem putE_app {env env0 pre : Env} (hp : env = pre ++ env0) (d : Option Nat) (x : LV) : ∃ pre', putE env d x = pre' ++ env0 := by
  cases d with
  | none => exact ⟨pre, hp⟩
  | some d => exact ⟨(d, x) :: pre, by simp [putE, hp]⟩
theorem againW_spec (hC : C.OK P) {ops : Array Oper} : ∀ {L : List Nat} {env : Env} {st : St} {K' : Prop}, againW C ops.toList L env st K' → K' ∧ ∀ j ∈ L, Again P E N ops j (look env) st
  | [], env, st, K', h => ⟨h, fun j hj => by cases hj⟩
  | j :: r, env, st, K', h => by
    simp only [againW] at h
    split at h
    rotate_left
    · cases h
    rename_i o hno
    rw [nth_eq, Array.getElem?_toList] at hno
    split at h
    rotate_left
    · cases h
    rename_i hg
    split at h
    rotate_left
    · cases h
    rename_i d hd
    obtain ⟨y, hy, hl, h⟩ := pureW_pev h
    obtain ⟨h1, h2⟩ := againW_spec hC h
    refine ⟨h1, fun k hk => ?_⟩
    rcases List.mem_cons.1 hk with rfl | hk
    · exact ⟨o, y, hno, fun d' hd' => by rw [hd] at hd'; cases hd'; exact hl, .inl ⟨by unfold gdF; rw [hg], pureS_of hC hy⟩⟩
    · exact h2 k hk
def inP_ (pf : List Nat) : Nat → Bool := fun k => pf.any fun j => Nat.beq j k
theorem inP_cons (pf : List Nat) (i : Nat) : inP_ (i :: pf) = addP (inP_ pf) i := by funext k; simp [inP_, addP]
theorem pf_spec {ops : Array Oper} {o : Oper} {pf L : List Nat} {ef : EF} {st : St} (h : (pf.all fun j => belB ops 3 o j || L.contains j) = true) (hL : ∀ j ∈ L, Again P E N ops j ef st) : ∀ j, inP_ pf j = true → Befo ops o j ∨ Again P E N ops j ef st := fun j hj => by
  obtain ⟨k, hk, hkj⟩ := List.any_eq_true.1 hj
  have hkj : k = j := by simpa using hkj
  subst hkj
  have := List.all_eq_true.1 h k hk
  simp only [Bool.or_eq_true] at this
  rcases this with this | this
  · exact .inl (belB_spec this)
  · exact .inr (hL k (by simpa using this))

theorem tree_syn {ops : Array Oper} {Q : Env → St → Prop} {i : Nat} {o : Oper} {t : Tr} {L pf : List Nat} {listed : Array Bool} {env : Env} {st : St} (hC : C.OK P) (hd : dstOK N ops.toList = true) (hno : ops[i]? = some o) (hr : i ∈ Region.ready .any ops listed) (h2 : (pf.all fun j => belB ops 3 o j || L.contains j) = true)
    (hsub : ∀ env st, treeW C P ops.toList Q t env st → treeF P E N ops (fun ef st => ∃ env, ef = look env ∧ Q env st) t (inP_ pf) (look env) (listed.setIfInBounds i true) (look env) st)
    (h : match gdE ops.toList env o with
      | some true => opW C P o env st fun x env st => splW (splK o.op) x fun x => againW C ops.toList L (putE env o.dst x) st (treeW C P ops.toList Q t (putE env o.dst x) st)
      | some false => againW C ops.toList L (putE env o.dst (.tup [])) st (treeW C P ops.toList Q t (putE env o.dst (.tup [])) st)
      | none => False) :
    ∃ o, ops[i]? = some o ∧ i ∈ Region.ready .any ops listed ∧ SynG P E N ops o (look env) st fun ef' st' => (∀ j, inP_ pf j = true → Befo ops o j ∨ Again P E N ops j ef' st') ∧
      treeF P E N ops (fun ef st => ∃ env, ef = look env ∧ Q env st) t (inP_ pf) ef' (listed.setIfInBounds i true) ef' st' := by
  have hdo : ∀ d, o.dst = some d → d < N := dstOK_mem hd o (by
    have := Array.mem_of_getElem? hno
    simpa using this)
  split at h
  · rename_i hg
    refine ⟨o, hno, hr, .inl ⟨gdE_F hg, fun β RO a w hs => ?_⟩⟩
    have hsr : SR E N β RO env st a w := hs.list fun n x hx => hx
    refine opW_sound hC hsr h fun v x env' st' β' RO' w' hK hs2 hv => ?_
    obtain ⟨g1, g2⟩ := againW_spec (E := E) (N := N) hC (splW_gives hK)
    exact ⟨look (putE env' o.dst x), st', β', RO', ⟨pf_spec h2 g2, hsub _ _ g1⟩, (hs2.put hv hdo).toF⟩
  · rename_i hg
    obtain ⟨g1, g2⟩ := againW_spec (E := E) (N := N) hC h
    refine ⟨o, hno, hr, .inr ⟨gdE_F hg, look (putE env o.dst (.tup [])), fun n x hx => by rw [← look_putE]; exact hx, pf_spec h2 g2, hsub _ _ g1⟩⟩
  · cases h
theorem treeW_treeF (hC : C.OK P) {ops : Array Oper} {Q : Env → St → Prop} (hd : dstOK N ops.toList = true) : ∀ (t : Tr) (pf : List Nat) (env0 pre env : Env) (listed : Array Bool) (st : St), env = pre ++ env0 → treeB ops t pf listed = true → treeW C P ops.toList Q t env st →
    treeF P E N ops (fun ef st => ∃ env, ef = look env ∧ Q env st) t (inP_ pf) (look env0) listed (look env) st
  | .done, pf, env0, pre, env, listed, st, hp, ho, h => ⟨env, rfl, h⟩
  | .pure i t, pf, env0, pre, env, listed, st, hp, ho, h => by
    simp only [treeW] at h
    split at h
    rotate_left
    · cases h
    rename_i o hno
    rw [nth_eq, Array.getElem?_toList] at hno
    simp only [treeB, hno, Bool.and_eq_true] at ho
    have hF := firstB_spec ho.1
    split at h
    · rename_i hg
      obtain ⟨x, hx, hK⟩ := pureW_pev h
      refine ⟨o, x, hno, hF, .inl ⟨gdE_F hg, pureS_of hC hx⟩, ?_⟩
      obtain ⟨pre', hp'⟩ := putE_app hp o.dst x
      rw [← look_putE, ← inP_cons]
      exact treeW_treeF hC hd t (i :: pf) env0 pre' _ _ st hp' ho.2 (splW_gives hK)
    · rename_i hg
      refine ⟨o, .tup [], hno, hF, .inr ⟨gdE_F hg, rfl⟩, ?_⟩
      obtain ⟨pre', hp'⟩ := putE_app hp o.dst (.tup [])
      rw [← look_putE, ← inP_cons]
      exact treeW_treeF hC hd t (i :: pf) env0 pre' _ _ st hp' ho.2 h
    · cases h
  | .eff i t, pf, env0, pre, env, listed, st, hp, ho, h => by
    simp only [treeW] at h
    split at h
    rotate_left
    · cases h
    rename_i o hno
    rw [nth_eq, Array.getElem?_toList] at hno
    simp only [treeB, hno, Bool.and_eq_true] at ho
    have hrd := sole_spec ho.1
    split at h
    · rename_i hg
      refine ⟨o, _, hno, hrd, .inl ⟨gdE_F hg, effS_of hC hp h⟩, fun x st' hR => ⟨hR.1, ?_⟩⟩
      obtain ⟨pre', hp'⟩ := putE_app hp o.dst x
      rw [← look_putE]
      exact treeW_treeF hC hd t pf env0 pre' _ _ st' hp' ho.2 (splW_gives hR.2)
    · rename_i hg
      refine ⟨o, fun x st' => x = .tup [] ∧ st' = st, hno, hrd, .inr ⟨gdE_F hg, rfl, rfl⟩, ?_⟩
      rintro x st' ⟨rfl, rfl⟩
      refine ⟨fun _ _ h => h, ?_⟩
      obtain ⟨pre', hp'⟩ := putE_app hp o.dst (.tup [])
      rw [← look_putE]
      exact treeW_treeF hC hd t pf env0 pre' _ _ _ hp' ho.2 h
    · cases h
  | .last i t L, pf, env0, pre, env, listed, st, hp, ho, h => by
    simp only [treeW] at h
    split at h
    rotate_left
    · cases h
    rename_i o hno
    rw [nth_eq, Array.getElem?_toList] at hno
    simp only [treeB, hno, Bool.and_eq_true] at ho
    obtain ⟨h1, h2, h3⟩ := ho
    exact tree_syn hC hd hno (by simpa using h1) h2 (fun env st hk => treeW_treeF hC hd t pf env [] env _ st rfl h3 hk) h
  | .fork i t L rest, pf, env0, pre, env, listed, st, hp, ho, h => by
    simp only [treeW] at h
    obtain ⟨h, hr⟩ := h
    split at h
    rotate_left
    · cases h
    rename_i o hno
    rw [nth_eq, Array.getElem?_toList] at hno
    simp only [treeB, hno, Bool.and_eq_true] at ho
    obtain ⟨h1, h2, h3, h4⟩ := ho
    exact ⟨tree_syn hC hd hno (by simpa using h1) h2 (fun env st hk => treeW_treeF hC hd t pf env [] env _ st rfl h3 hk) h, treeW_treeF hC hd rest pf env0 pre env listed st hp h4 hr⟩

theorem treeOf_tr {ord : List (Nat × Kind)} {t : Tr} (h : treeOf ord = some t) : trOf ord = t := by
  match ord, h with
  | [], h => cases h
  | [(i, .tree s)], h => simp only [treeOf, Option.some.injEq] at h; rw [← h]; rfl
  | [(i, .pure)], h => simp [treeOf] at h
  | [(i, .eff)], h => simp [treeOf] at h
  | [(i, .syn)], h => simp [treeOf] at h
  | _ :: _ :: _, h => simp [treeOf] at h
theorem seqW_treeF (hC : C.OK P) {ops : Array Oper} {Q : Env → St → Prop} (hd : dstOK N ops.toList = true) : ∀ (ord : List (Nat × Kind)) (ol : List (Oper × Kind)) (pf : List Nat) (env0 pre env : Env) (listed : Array Bool) (st : St), ordL ops.toList ord = some ol → env = pre ++ env0 → treeB ops (trOf ord) pf listed = true → seqGo C P ops.toList Q ol env st →
    treeF P E N ops (fun ef st => ∃ env, ef = look env ∧ Q env st) (trOf ord) (inP_ pf) (look env0) listed (look env) st
  | [], ol, pf, env0, pre, env, listed, st, hol, _, ho, h => by
    simp only [ordL, Option.some.injEq] at hol
    subst hol
    exact ⟨env, rfl, h⟩
  | (i, k) :: r, ol, pf, env0, pre, env, listed, st, hol, hp, ho, h => by
    simp only [ordL] at hol
    split at hol
    rotate_left
    · cases hol
    rename_i o l hno hl hkt
    cases hol
    rw [nth_eq, Array.getElem?_toList] at hno
    simp only [seqGo] at h
    cases k with
    | tree t => cases hkt
    | pure =>
      simp only [trOf, treeB, hno, Bool.and_eq_true] at ho
      have hF := firstB_spec ho.1
      split at h
      · rename_i hg
        obtain ⟨x, hx, hK⟩ := pureW_pev h
        refine ⟨o, x, hno, hF, .inl ⟨gdE_F hg, pureS_of hC hx⟩, ?_⟩
        obtain ⟨pre', hp'⟩ := putE_app hp o.dst x
        rw [← look_putE, ← inP_cons]
        exact seqW_treeF hC hd r l (i :: pf) env0 pre' _ _ st hl hp' ho.2 (splW_gives hK)
      · rename_i hg
        refine ⟨o, .tup [], hno, hF, .inr ⟨gdE_F hg, rfl⟩, ?_⟩
        obtain ⟨pre', hp'⟩ := putE_app hp o.dst (.tup [])
        rw [← look_putE, ← inP_cons]
        exact seqW_treeF hC hd r l (i :: pf) env0 pre' _ _ st hl hp' ho.2 h
      · cases h
    | eff =>
      simp only [trOf, treeB, hno, Bool.and_eq_true] at ho
      have hrd := sole_spec ho.1
      split at h
      · rename_i hg
        refine ⟨o, _, hno, hrd, .inl ⟨gdE_F hg, effS_of hC hp h⟩, fun x st' hR => ⟨hR.1, ?_⟩⟩
        obtain ⟨pre', hp'⟩ := putE_app hp o.dst x
        rw [← look_putE]
        exact seqW_treeF hC hd r l pf env0 pre' _ _ st' hl hp' ho.2 (splW_gives hR.2)
      · rename_i hg
        refine ⟨o, fun x st' => x = .tup [] ∧ st' = st, hno, hrd, .inr ⟨gdE_F hg, rfl, rfl⟩, ?_⟩
        rintro x st' ⟨rfl, rfl⟩
        refine ⟨fun _ _ h => h, ?_⟩
        obtain ⟨pre', hp'⟩ := putE_app hp o.dst (.tup [])
        rw [← look_putE]
        exact seqW_treeF hC hd r l pf env0 pre' _ _ _ hl hp' ho.2 h
      · cases h
    | syn =>
      simp only [trOf, treeB, hno, Bool.and_eq_true] at ho
      obtain ⟨h1, h2, h3⟩ := ho
      have hdo : ∀ d, o.dst = some d → d < N := dstOK_mem hd o (by
        have := Array.mem_of_getElem? hno
        simpa using this)
      have hr : i ∈ Region.ready .any ops listed := by simpa using h1
      split at h
      · rename_i hg
        refine ⟨o, hno, hr, .inl ⟨gdE_F hg, fun β RO a w hs => ?_⟩⟩
        have hsr : SR E N β RO env st a w := hs.list fun n x hx => hx
        refine opW_sound hC hsr h fun v x env' st' β' RO' w' hK hs2 hv => ?_
        exact ⟨look (putE env' o.dst x), st', β', RO', ⟨pf_spec (L := []) h2 fun j hj => (by cases hj), seqW_treeF hC hd r l pf _ [] _ _ st' hl rfl h3 (splW_gives hK)⟩, (hs2.put hv hdo).toF⟩
      · rename_i hg
        refine ⟨o, hno, hr, .inr ⟨gdE_F hg, look (putE env o.dst (.tup [])), fun n x hx => by rw [← look_putE]; exact hx, pf_spec (L := []) h2 fun j hj => (by cases hj), seqW_treeF hC hd r l pf _ [] _ _ st hl rfl h3 h⟩⟩
      · cases h

theorem drawn_sound (hC : C.OK P) {ops : Array Oper} {ord : List (Nat × Kind)} {Q : Env → St → Prop} {K' : Act → World → Prop} (hd : dstOK N ops.toList = true) (ho : ordOK ops ord = true) (hQ : ∀ env st β RO a w, Q env st → SR E N β RO env st a w → K' a w)
    (h : SR E N β RO env st a w) (hW : seqW C P ops.toList Q ord env st) : wpAny P .any ops (fun e a w => match e with | .normal => K' a w | _ => False) ops.size (Array.replicate ops.size false) a { w with drawn := w.drawn + 1 } := by
  have hs1 : SR E N β RO env st a { w with drawn := w.drawn + 1 } := ⟨h.wr.drew _, h.size, h.defers, fun n x hx => by
    obtain ⟨v, g1, g2⟩ := h.env n x hx
    exact ⟨v, g1, g2.mono (w := w) (w' := { w with drawn := w.drawn + 1 }) (fun _ h => h) (fun _ _ => rfl) (fun _ => True) (fun _ _ => ⟨rfl, fun _ h => h⟩) fun _ _ => trivial⟩⟩
  simp only [ordOK, Bool.and_eq_true] at ho
  obtain ⟨hns, hdis, hcov, htr⟩ := ho
  have hdist : Distinct ops := fun i j o p d hi hj ho hp => distB_spec hdis i j o p d (by simpa using hi) (by simpa using hj) ho hp
  have hN : ∀ (i : Nat) (o : Oper) (d : Nat), ops[i]? = some o → o.dst = some d → d < N := fun i o d hi hd' => dstOK_mem hd o (by have := Array.mem_of_getElem? hi; simpa using this) d hd'
  have hF : treeF P E N ops (fun ef st => ∃ env, ef = look env ∧ Q env st) (trOf ord) (inP_ []) (look env) (Array.replicate ops.size false) (look env) st := by
    unfold seqW at hW
    split at hW
    · rename_i t ht
      rw [treeOf_tr ht] at htr ⊢
      exact treeW_treeF hC hd t [] env [] env _ st rfl htr hW
    · split at hW
      case h_2 => cases hW
      rename_i ol hol
      exact seqW_treeF hC hd ord ol [] env [] env _ st hol rfl htr hW
  have hA := (treeF_any (Region.noSelect_spec hns) hN hdist (trOf ord) ops.size (inP_ []) (look env) _ _ _ st hcov down0 (fun _ _ _ _ _ _ => .inl rfl) (fun k hk => by simp [inP_] at hk) hF).2 rfl
  refine anyF_sound hN ?_ (fun e a w h => h.elim) ops.size _ _ _ _ _ β RO a _ hs1.toF hA
  rintro ef st β RO a w hs ⟨env, rfl, hq⟩
  exact hQ env st β RO a w hq (hs.list fun n x hx => hx)
theorem seqW_sound (hC : C.OK P) {id : Nat} {ops : Array Oper} {ord : List (Nat × Kind)} {Q : Env → St → Prop} {Q' : Exit → Act → World → Prop} (hd : dstOK N ops.toList = true) (ho : ordOK ops ord = true) (hQ : ∀ env st β RO a w, Q env st → SR E N β RO env st a w → Q' .normal a w)
    (h : SR E N β RO env st a w) (hW : seqW C P ops.toList Q ord env st) : (Code.region id ops true).wp P Q' a w :=
  wp_mono (wp_region_any hC.mixed (drawn_sound (K' := fun a w => Q' .normal a w) hC hd ho hQ h hW)) fun e a w hq => by
    cases e <;> first | exact hq | exact hq.elim

end
end Go.Fw

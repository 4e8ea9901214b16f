/- Texts that lead to the law, part 3. -/
import Derived.Test.YtkccfpgnifdgjaaZB
import Derived.Orders

/- The value logic, part 10: append. -/
namespace Go.Fw
open Go

theorem Step.drewAlloc (w : World) (o : Obj) : Step w (w.drew.alloc o) := ⟨rfl, rfl, rfl, by rw [alloc_size]; show w.heap.size ≤ w.heap.size + 1; omega⟩

def K.isCur : K → Bool
  | .cur _ => true
  | _ => false
def St.purge (st : St) (k : K) : St := { st with cur := purgeC k st.cur }

/-- An object, asked for. -/
def getW (st : St) : K → (Ob → Prop) → Prop
  | .cur s, F => match look st.cur s with
    | some o => F o
    | none => False
  | .fr i s, F => ∃ o, st.get (.fr i s) = some o ∧ F o
  | .sub k i, F => getW st k fun o => match o with
    | .grid _ e sz rs => ∃ es, rs[i]? = some (.row es) ∧ F (.row e sz es)
    | _ => False

theorem getW_gives {st : St} : ∀ {k : K} {F : Ob → Prop}, getW st k F → ∃ o, st.get k = some o ∧ F o
  | .cur s, F, h => by
    simp only [getW] at h
    split at h
    · rename_i o ho; exact ⟨o, ho, h⟩
    · cases h
  | .fr i s, F, h => h
  | .sub k i, F, h => by
    obtain ⟨o, ho, h⟩ := getW_gives (k := k) h
    split at h
    · rename_i eo e sz rs
      obtain ⟨es, h1, h2⟩ := h
      exact ⟨_, by simp only [St.get, ho, h1], h2⟩
    · cases h

/-- The elements that a slice shows. -/
def srcW (st : St) (sz : Nat) (x : LV) (K' : List (List T) → Prop) : Prop :=
  match x with
  | .t (.sl _ sz' es) => match Nat.beq sz' sz, es with
    | true, es => K' es
    | false, [] => K' []
    | false, _ :: _ => False
  | .osl k sz' off len => getW st k fun o => match o with
    | .row _ sz2 es => match Nat.beq sz' sz, Nat.beq sz2 sz with
      | true, true => off + len ≤ es.length ∧ K' ((es.drop off).take len)
      | _, _ => False
    | _ => False
  | _ => False

def appW (C : Ctx) (env : Env) (st : St) (s t : Nat) (x y : LV) (K' : LV → Env → St → Prop) : Prop :=
  match C.ty t with
  | some ⟨.slice e, _, _, _⟩ => match C.ty e with
    | some te => match te.size with
      | 0 => False
      | sz + 1 => srcW st (sz + 1) y fun xs => match x with
        | .t (.sl true _ _) => match xs with
          | [] => K' (.t (.sl true 0 [])) env st
          | z :: r => (z :: r).length * te.bytes ≤ 140737488355328 ∧ (z :: r).length ≤ 140737488355328 ∧ match freshB env st.cur s with
            | true => K' (.osl (.cur s) (sz + 1) 0 (z :: r).length) env { st with cur := (s, .row e (sz + 1) (z :: r)) :: st.cur }
            | false => False
        | .osl k sz1 0 len => match st.get k with
          | some (.row e' sz2 es) => match Nat.beq e' e, Nat.beq sz1 (sz + 1), Nat.beq sz2 (sz + 1), k.isCur with
            | true, true, true, true => len = es.length ∧ (es ++ xs).length * te.bytes ≤ 140737488355328 ∧ (es ++ xs).length ≤ 140737488355328 ∧
                K' (.osl k (sz + 1) 0 (es ++ xs).length) (purgeE k env) ((st.purge k).set k (.row e (sz + 1) (es ++ xs)))
            | _, _, _, _ => False
          | _ => False
        | _ => False
    | none => False
  | _ => False

section
variable {C : Ctx} {P : Program} (hC : C.OK P) {E : Ent} {N : Nat} {β : K → Nat} {RO : Nat → Prop} {env : Env} {st : St} {a : Act} {w w' : World}

/-- What a slice's value shows. -/
def Src (RO : Nat → Prop) (w : World) (sz : Nat) (xs : List (List T)) (v : Value) : Prop :=
  ∃ aa m c news, v = .slice aa m c ∧ m = xs.length ∧ Flat RO w sz xs news ∧ (∀ u ∈ news, u.oneCell' = true) ∧ (aa = none → m = 0 ∧ c = 0) ∧ ∀ ad, aa = some ad → ∀ (j : Nat) (u : Value), news[j]? = some u → w.cell? (ad.add j) = some u

theorem Flat.one {sz : Nat} {es : List (List T)} {us : List Value} (hf : Flat RO w sz es us) (hsz : 0 < sz) : ∀ u ∈ us, u.oneCell' = true := by
  intro u hu
  obtain ⟨q, hq, rfl⟩ := List.getElem_of_mem hu
  have hq' : q < es.length * sz := by rw [← hf.1]; exact hq
  have hi : q / sz < es.length := Nat.div_lt_of_lt_mul (by rw [Nat.mul_comm]; exact hq')
  obtain ⟨h1, h2⟩ := hf.2 (q / sz) _ (List.getElem?_eq_getElem hi)
  have hj : q % sz < es[q / sz].length := by rw [h1]; exact Nat.mod_lt _ hsz
  obtain ⟨v, hv, hvt⟩ := h2 (q % sz) _ (List.getElem?_eq_getElem hj)
  rw [Nat.mul_comm, Nat.div_add_mod] at hv
  rw [List.getElem?_eq_getElem hq] at hv
  cases hv
  exact hvt.one

theorem Src.nil {sz : Nat} {v : Value} (h : v = .slice none 0 0 ∨ ∃ a c, v = .slice (some a) 0 c) : Src RO w sz [] v := by
  rcases h with rfl | ⟨a, c, rfl⟩
  · exact ⟨none, 0, 0, [], rfl, rfl, ⟨by simp, fun i e h => by simp at h⟩, (fun u hu => by cases hu), (fun _ => ⟨rfl, rfl⟩), fun ad h => by cases h⟩
  · exact ⟨some a, 0, c, [], rfl, rfl, ⟨by simp, fun i e h => by simp at h⟩, (fun u hu => by cases hu), (fun h => by cases h), fun ad _ j u h => by simp at h⟩

theorem Src.of {sz b off c : Nat} {es : List (List T)} (hsz : 0 < sz) (hs : ∀ (i : Nat) (e : List T), es[i]? = some e → e.length = sz)
    (hcell : ∀ (i : Nat) (e : List T) (j : Nat) (x : T), es[i]? = some e → e[j]? = some x → ∃ u, w.cell? ⟨b, off + (i * sz + j), none⟩ = some u ∧ VT RO w x u) :
    Src RO w sz es (.slice (some ⟨b, off, none⟩) es.length c) := by
  let F : Nat → Value := fun q => (w.cell? ⟨b, off + q, none⟩).getD undef
  have hlen : ((List.range (es.length * sz)).map F).length = es.length * sz := by simp
  have hget : ∀ q, q < es.length * sz → ((List.range (es.length * sz)).map F)[q]? = some (F q) := by
    intro q hq; simp [hq]
  have hf : Flat RO w sz es ((List.range (es.length * sz)).map F) := by
    refine ⟨hlen, fun i e hi => ⟨hs i e hi, fun j x hj => ?_⟩⟩
    have hil := (List.getElem?_eq_some_iff.1 hi).1
    have hjl : j < sz := (hs i e hi) ▸ (List.getElem?_eq_some_iff.1 hj).1
    have hlt : i * sz + j < es.length * sz := by
      have := Nat.mul_le_mul_right sz (show i + 1 ≤ es.length from hil)
      rw [Nat.add_mul] at this; omega
    obtain ⟨u, h1, h2⟩ := hcell i e j x hi hj
    exact ⟨_, hget _ hlt, by show VT RO w x ((w.cell? ⟨b, off + (i * sz + j), none⟩).getD undef); rw [h1]; exact h2⟩
  refine ⟨some ⟨b, off, none⟩, es.length, c, _, rfl, rfl, hf, hf.one hsz, (fun h => by cases h), fun ad had j v hj => ?_⟩
  cases had
  have hjl : j < es.length * sz := by rw [← hlen]; exact (List.getElem?_eq_some_iff.1 hj).1
  rw [hget j hjl] at hj
  cases hj
  have hi : j / sz < es.length := Nat.div_lt_of_lt_mul (by rw [Nat.mul_comm]; exact hjl)
  have hq : j % sz < es[j / sz].length := by rw [hs _ _ (List.getElem?_eq_getElem hi)]; exact Nat.mod_lt _ hsz
  obtain ⟨u, h1, _⟩ := hcell (j / sz) _ (j % sz) _ (List.getElem?_eq_getElem hi) (List.getElem?_eq_getElem hq)
  rw [addr_add]
  rw [Nat.mul_comm, Nat.div_add_mod] at h1
  show w.cell? _ = some ((w.cell? ⟨b, off + j, none⟩).getD undef)
  rw [h1]; rfl

theorem srcW_gives {sz : Nat} {x : LV} {v : Value} {K' : List (List T) → Prop} (hw : WR E β RO st w) (hsz : 0 < sz) (hx : VL β RO w x v) (hW : srcW st sz x K') : ∃ xs, K' xs ∧ Src RO w sz xs v := by
  unfold srcW at hW
  split at hW
  · rename_i nl sz' es
    cases hx with
    | t _ _ hx =>
    split at hW
    · rename_i hs
      simp at hs
      subst hs
      cases hx with
      | nil => exact ⟨_, hW, .nil (.inl rfl)⟩
      | emp => exact ⟨_, hW, .nil (.inr ⟨_, _, rfl⟩)⟩
      | sl _ _ b off c u hb hc hm hs hcell hv => exact ⟨_, hW, Src.of hsz hs fun i e j x hi hj => ⟨_, hcell i e j x hi hj, hv i e j x hi hj⟩⟩
    · cases hx with
      | nil => exact ⟨_, hW, .nil (.inl rfl)⟩
      | emp => exact ⟨_, hW, .nil (.inr ⟨_, _, rfl⟩)⟩
      | sl _ _ b off c u hb hc hm hs hcell hv => exact ⟨_, hW, .nil (.inr ⟨_, _, rfl⟩)⟩
    · cases hW
  · rename_i k sz' off len
    obtain ⟨o, hk, hG⟩ := getW_gives hW
    clear hW
    have hW := hG; clear hG
    split at hW
    · rename_i e sz2 es
      split at hW
      · rename_i h1 h2
        simp at h1 h2
        subst h1; subst h2
        obtain ⟨hl, hW⟩ := hW
        obtain ⟨us, cap, hown, hf⟩ := hw.obj k _ hk
        have hlen : ((es.drop off).take len).length = len := by simp; omega
        have hget : ∀ (i : Nat) (el : List T), ((es.drop off).take len)[i]? = some el → es[off + i]? = some el := by
          intro i el hi
          rw [List.getElem?_take] at hi
          split at hi
          · rw [List.getElem?_drop] at hi; exact hi
          · cases hi
        cases hx with
        | osl _ _ _ _ cap' e' n hle hs hn hm =>
        refine ⟨_, hW, ?_⟩
        have := Src.of (c := cap') (b := β k) (off := off * sz2) hsz (es := (es.drop off).take len) (RO := RO) (w := w) (fun i e hi => (hf.2 _ e (hget i e hi)).1) fun i e j x hi hj => by
          obtain ⟨u, h1, h2⟩ := row_cell hown hf (hget i e hi) hj
          exact ⟨u, by rw [Nat.add_mul, Nat.add_assoc] at h1; exact h1, h2⟩
        rw [hlen] at this
        exact this
      · cases hW
    · cases hW
  · cases hW

theorem SR.purge (h : SR E N β RO env st a w) (n0 : Nat) : SR E N β RO (purgeE (.cur n0) env) (st.purge (.cur n0)) a w ∧
    (∀ k' o, (st.purge (.cur n0)).get k' = some o → ∃ o0, st.get k' = some o0 ∧ (o = o0 ∧ k'.isCur = false ∨ o = purgeO (.cur n0) o0)) := by
  have hget : ∀ k' o, (st.purge (.cur n0)).get k' = some o → ∃ o0, st.get k' = some o0 ∧ (o = o0 ∧ k'.isCur = false ∨ o = purgeO (.cur n0) o0) := by
    have hcur : ∀ (n : Nat) (o : Ob), (st.purge (.cur n0)).get (.cur n) = some o → ∃ o0, st.get (.cur n) = some o0 ∧ o = purgeO (.cur n0) o0 := by
      intro n o ho
      have : look (purgeC (.cur n0) st.cur) n = some o := ho
      rw [look_purgeC] at this
      cases hl : look st.cur n with
      | none => simp [hl] at this
      | some o0 => simp [hl] at this; exact ⟨o0, hl, this.symm⟩
    intro k' o ho
    cases k' with
    | cur n => obtain ⟨o0, h1, h2⟩ := hcur n o ho; exact ⟨o0, h1, .inr h2⟩
    | fr i n => exact ⟨o, ho, .inl ⟨rfl, rfl⟩⟩
    | sub k2 i =>
      obtain ⟨eo, e, sz, rs, es, hg, hi, rfl⟩ := St.get_sub ho
      have : st.get k2 = some (Ob.grid eo e sz rs) := by
        cases k2 with
        | cur n =>
          obtain ⟨o0, h1, h2⟩ := hcur n _ hg
          cases o0 <;> simp only [purgeO, reduceCtorEq] at h2
          rw [h1, h2]
        | fr j n => exact hg
        | sub k3 j => have := St.root_of_get_grid hg; cases this
      exact ⟨_, by simp only [St.get, this, hi], .inl ⟨rfl, rfl⟩⟩
  refine ⟨⟨⟨h.wr.os, h.wr.tape, h.wr.output, h.wr.size, h.wr.keep, h.wr.roLt, h.wr.ro0, h.wr.roNew, fun k' o ho => ?_, fun k' o ho hc => ?_, fun k' k2 o o2 h1 h2 hc hc' he => ?_, fun k' o ho hc => ?_, fun k' o ho hc => ?_, h.wr.stay⟩, h.size, h.defers, fun n x hx => ?_⟩, hget⟩
  · obtain ⟨o0, h1, ⟨h2, _⟩ | h2⟩ := hget k' o ho
    · rw [h2]; exact h.wr.obj k' o0 h1
    · rw [h2]; exact (h.wr.obj k' o0 h1).purge
  · obtain ⟨o0, h1, _⟩ := hget k' o ho; exact h.wr.objNew k' o0 h1 hc
  · obtain ⟨p, hp, _⟩ := hget k' o h1
    obtain ⟨q, hq, _⟩ := hget k2 o2 h2
    exact h.wr.inj k' k2 p q hp hq hc hc' he
  · obtain ⟨o0, h1, _⟩ := hget k' o ho; exact h.wr.sep k' o0 h1 hc
  · obtain ⟨o0, h1, _⟩ := hget k' o ho; exact h.wr.fzRO k' o0 h1 hc
  · rw [look_purgeE] at hx
    cases hy : look env n with
    | none => simp [hy] at hx
    | some y =>
      simp [hy] at hx
      obtain ⟨v, h1, h2⟩ := h.env n y hy
      exact ⟨v, h1, by rw [← hx]; exact h2.purge⟩

theorem purgeV_no (k : K) (x : LV) : (purgeV k x).has k = false := by
  unfold purgeV; split
  · rfl
  · rename_i h; exact LV.not_has h
theorem hasL_purge_no (k : K) : ∀ (cs : List LV), LV.has.hasL k (cs.map (purgeV k)) = false
  | [] => rfl
  | x :: r => by simp only [List.map_cons, LV.has.hasL, purgeV_no, hasL_purge_no k r, Bool.or_self]

theorem grown_cells {us news : List Value} {z : Array Value} {cap n sz : Nat} (hn : n ≤ cap) (hl : (us ++ news).length = n * sz) (hz : z.size = sz) :
    (us.toArray ++ news.toArray ++ Builtin.zeroCells z (cap - n)).size = cap * sz ∧ (us.toArray ++ news.toArray ++ Builtin.zeroCells z (cap - n)).toList.take (n * sz) = us ++ news := by
  constructor
  · simp only [Array.size_append, List.size_toArray, size_zeroCells, hz]
    rw [← List.length_append, hl, ← Nat.add_mul]; congr 1; omega
  · simp only [Array.toList_append, List.append_assoc]
    rw [← List.append_assoc, ← hl]; exact List.take_left

theorem Flat.app {sz : Nat} {es xs : List (List T)} {us vs : List Value} (h : Flat RO w sz es us) (h2 : Flat RO w sz xs vs) : Flat RO w sz (es ++ xs) (us ++ vs) := by
  refine ⟨by simp [h.1, h2.1, Nat.add_mul], fun i e hi => ?_⟩
  by_cases hil : i < es.length
  · rw [List.getElem?_append_left hil] at hi
    obtain ⟨h1, h2⟩ := h.2 i e hi
    refine ⟨h1, fun j x hj => ?_⟩
    obtain ⟨u, hu, hv⟩ := h2 j x hj
    exact ⟨u, by rw [List.getElem?_append_left (List.getElem?_eq_some_iff.1 hu).1]; exact hu, hv⟩
  · rw [List.getElem?_append_right (by omega)] at hi
    obtain ⟨h1, h2⟩ := h2.2 _ e hi
    refine ⟨h1, fun j x hj => ?_⟩
    obtain ⟨u, hu, hv⟩ := h2 j x hj
    have : i * sz + j = us.length + ((i - es.length) * sz + j) := by
      rw [h.1, ← Nat.add_assoc, ← Nat.add_mul]; congr 2; omega
    exact ⟨u, by rw [this, List.getElem?_append_right (by omega), Nat.add_sub_cancel_left]; exact hu, hv⟩

theorem run_append_nothing (t ty e : TypeId) (i : TypeInfo) (ht : P.underlying t = some (.slice e)) (hi : P.info? e = some i) (aa : Option Addr) (n cap : Nat) (hn : n ≤ cap) (bb : Option Addr) (c : Nat) :
    (Builtin.append_ #[t, t] ty #[.slice aa n cap, .slice bb 0 c]).run P w = .ok (.slice aa n cap) w := by
  cases bb <;> cases aa <;> simp [Builtin.append_, run_underlying ht, sizeOf, typeInfo, hi, Builtin.lenOf, Builtin.firstCells, hn, storeCells, loadCells, loadCellsFrom]

include hC
theorem append_own {k : K} {e t ty sz : Nat} {es xs : List (List T)} {te : TI} {vx : Value} {aa : Option Addr} {c : Nat} {news : List Value} {K' : LV → Env → St → Prop} (h : SR E N β RO env st a w) (hkc : k.isCur = true)
    (hk : st.get k = some (.row e (sz + 1) es)) (hu : P.underlying t = some (.slice e)) (hte : C.ty e = some te) (hsz : te.size = sz + 1) (hx : VL β RO w (.osl k (sz + 1) 0 es.length) vx) (hf : Flat RO w (sz + 1) xs news)
    (hn1 : ∀ u ∈ news, u.oneCell' = true) (hnone : aa = none → xs.length = 0 ∧ c = 0) (hcell : ∀ ad, aa = some ad → ∀ (j : Nat) (u : Value), news[j]? = some u → w.cell? (ad.add j) = some u)
    (hb : (es ++ xs).length * te.bytes ≤ 140737488355328) (hm : (es ++ xs).length ≤ 140737488355328)
    (hW : K' (.osl k (sz + 1) 0 (es ++ xs).length) (purgeE k env) ((st.purge k).set k (.row e (sz + 1) (es ++ xs)))) :
    Gives P E N a w (Builtin.append_ #[t, t] ty #[vx, .slice aa xs.length c]) K' := by
  obtain ⟨j, zz, hj, hjs, hjb, hz, hzc⟩ := (hC.ty hte).info
  have hone := (hC.ty hte).one
  simp only [Bool.and_eq_true, Nat.beq_eq] at hone
  have hzl : zz.cells.size = sz + 1 := by
    have : zz.cells.toList.length = te.size := by rw [hzc]; simpa using hone.2
    rw [← hsz]; simpa using this
  rw [hsz] at hjs
  obtain ⟨us, cap0, cur, hh, hnc, hcm, hcs, htk, hul, hfe⟩ := row_block (h.wr.obj k _ hk)
  obtain ⟨n0, rfl⟩ : ∃ n0, k = .cur n0 := by
    cases k with
    | cur n0 => exact ⟨n0, rfl⟩
    | _ => cases hkc
  have hkr : (K.cur n0).root = true := rfl
  have hcan : E.can (.cur n0) := fun h => by cases h
  obtain ⟨hp, hpg⟩ := h.purge n0
  have hkp : (st.purge (.cur n0)).get (.cur n0) = some (.row e (sz + 1) es) := by
    simp only [St.purge, St.get, look_purgeC] at hk ⊢; rw [hk]; rfl
  cases hx with
  | osl _ _ _ _ cap e' n hle hs hn hmm =>
  have hcap : cap = cap0 := by
    have : w.shape? (β (.cur n0)) = some (e, cur.size) := by simp only [World.shape?, hh]
    rw [this] at hs
    have e1 : cur.size = (0 + cap) * (sz + 1) := by cases hs; exact hn
    rw [hcs, Nat.zero_add] at e1
    exact (Nat.eq_of_mul_eq_mul_right (Nat.succ_pos sz) e1).symm
  subst hcap
  rw [Nat.zero_mul] at *
  have hlen : (es ++ xs).length = es.length + xs.length := List.length_append
  have hflat := hfe.app hf
  have hcz : es.length * (sz + 1) ≤ cur.size := by rw [hcs]; exact Nat.mul_le_mul_right _ hnc
  have hfl : (es.length + xs.length) * (sz + 1) = us.length + news.length := by rw [Nat.add_mul, hul, hf.1]
  by_cases hroom : es.length + xs.length ≤ cap
  · -- in place
    have hfit : (es.length + xs.length) * (sz + 1) ≤ cur.size := by rw [hcs]; exact Nat.mul_le_mul_right _ hroom
    have hrun : (Builtin.append_ #[t, t] ty #[.slice (some ⟨β (.cur n0), 0, none⟩) es.length cap, .slice aa xs.length c]).run P w =
        .ok (.slice (some ⟨β (.cur n0), 0, none⟩) (es.length + xs.length) cap) (w.setRow (β (.cur n0)) (cur.toList.take (es.length * (sz + 1)) ++ news ++ cur.toList.drop (es.length * (sz + 1) + news.length)).toArray) := by
      cases aa with
      | none =>
        obtain ⟨h1, rfl⟩ := hnone rfl
        have hx0 : xs = [] := List.eq_nil_of_length_eq_zero h1
        subst hx0
        have hn0 : news = [] := List.eq_nil_of_length_eq_zero (by simpa using hf.1)
        subst hn0
        have := run_append_nothing (w := w) t ty e j hu hj (some ⟨β (.cur n0), 0, none⟩) es.length cap hnc none 0
        simp only [List.length_nil, Nat.add_zero, List.append_nil, List.take_append_drop, Array.toArray_toList] at this ⊢
        rw [setRow_self w _ cur e (0, 0) hh]
        exact this
      | some ad =>
        have := run_append_room (P := P) w t ty e j hu hj (β (.cur n0)) es.length cap cur hh ad xs.length c news (by rw [hjs]; exact hf.1) (hcell ad rfl) hn1 hroom (by rw [hjs]; omega)
        rw [hjs] at this
        exact this
    have hsize : (cur.toList.take (es.length * (sz + 1)) ++ news ++ cur.toList.drop (es.length * (sz + 1) + news.length)).toArray.size = cur.size := by
      simp only [List.size_toArray, List.length_append, List.length_take, List.length_drop, Array.length_toList]; omega
    have hsr := hp.writePlain (o' := .row e (sz + 1) (es ++ xs)) hkr hcan hkp (fun _ _ _ _ e => by cases e) (fun _ _ _ _ e => by cases e) hh hsize ⟨us ++ news, cap, ⟨hflat.1, .inr ⟨β (.cur n0), cap, _, rfl, Nat.zero_le _, setRow_heap w _ _ _ _ _ hh, by omega, hcm, by rw [hsize]; exact hcs, by
        rw [hlen, hfl]
        have : (us ++ news).length = us.length + news.length := List.length_append
        rw [← this]
        simp only []
        rw [htk]
        exact List.take_left⟩⟩,
      hflat.mono (fun _ h => h) fun b hb => setRow_other w (β (.cur n0)) b _ fun e => h.wr.sep (.cur n0) _ hk hcan (by rw [← e]; exact hb)⟩ (fun _ _ e => by cases e)
    refine ⟨_, _, _, _, _, β, RO, hrun, hW, hsr, ?_⟩
    rw [hlen]
    have := VL.osl (β := β) (RO := RO) (w := w.setRow (β (.cur n0)) (cur.toList.take (es.length * (sz + 1)) ++ news ++ cur.toList.drop (es.length * (sz + 1) + news.length)).toArray) (.cur n0) (sz + 1) 0 (es.length + xs.length) cap e cur.size hroom
      (by simp only [World.shape?, setRow_heap w _ _ _ _ _ hh, hsize]) (by rw [hcs, Nat.zero_add]) (by omega)
    rw [Nat.zero_mul] at this; exact this
  · -- a new array
    have haa : ∃ ad, aa = some ad := by
      cases aa with
      | none => have := (hnone rfl).1; omega
      | some ad => exact ⟨ad, rfl⟩
    obtain ⟨ad, rfl⟩ := haa
    have holds : ∀ (q : Nat) (v : Value), us[q]? = some v → w.cell? ((⟨β (.cur n0), 0, none⟩ : Addr).add q) = some v := by
      intro q v hq
      rw [addr_add, Nat.zero_add, cell_of_row w _ q cur e (0, 0) hh]
      rw [← htk, List.getElem?_take] at hq
      split at hq
      · simpa using hq
      · cases hq
    have hrun := run_append_grow (P := P) w t ty e j zz hu hj hz ⟨β (.cur n0), 0, none⟩ es.length cap us (by rw [hjs]; exact hul) holds ad xs.length c news (by rw [hjs]; exact hf.1) (hcell ad rfl) (by omega) (by omega)
      (growslice_fits (by omega) (by rw [hjb, ← hlen]; exact hb))
    have hge := grownCap_ge w (es.length + xs.length) cap e
    have hgc := grown_cells (us := us) (news := news) (z := zz.cells) (sz := sz + 1) hge (by rw [List.length_append, hfl]) hzl
    have hst : Step w (w.drew.alloc (.cells (us.toArray ++ news.toArray ++ Builtin.zeroCells zz.cells (grownCap w (es.length + xs.length) cap e - (es.length + xs.length))) e)) := Step.drewAlloc w _
    have hgm := grownCap_le_maxLen w (es.length + xs.length) cap e (by unfold maxLen; omega)
    have hob : ∀ b, b < w.heap.size → (w.drew.alloc (.cells (us.toArray ++ news.toArray ++ Builtin.zeroCells zz.cells (grownCap w (es.length + xs.length) cap e - (es.length + xs.length))) e)).heap[b]? = w.heap[b]? := alloc_old w.drew _
    have hgets := St.get_set_plain (o' := .row e (sz + 1) (es ++ xs)) hkr hkp (fun _ _ _ _ e => by cases e) (fun _ _ _ _ e => by cases e) (fun _ _ e => by cases e)
    have hpw := hp.wr
    have hplace := hpw.place (r := .cur n0) (st' := (st.purge (.cur n0)).set (.cur n0) (.row e (sz + 1) (es ++ xs))) (ob := .row e (sz + 1) (es ++ xs)) (w' := w.drew.alloc (.cells (us.toArray ++ news.toArray ++ Builtin.zeroCells zz.cells (grownCap w (es.length + xs.length) cap e - (es.length + xs.length))) e)) hkr
      (fun k' cs hne hg => by
        rw [hgets, if_neg hne] at hg
        obtain ⟨o0, h1, ⟨h2, h3⟩ | h2⟩ := hpg k' _ hg
        · cases k' with
          | cur n => cases h3
          | fr i n => exact St.fr_has (o := .box cs) hg
          | sub k2 i => obtain ⟨_, _, _, _, _, _, _, h3⟩ := St.get_sub hg; cases h3
        · cases o0 <;> simp only [purgeO, Ob.box.injEq, reduceCtorEq] at h2
          rw [h2]; exact hasL_purge_no _ _)
      (fun k' m left hne hg he => by
        rw [hgets, if_neg hne] at hg
        obtain ⟨_, ents, clock, _, h2, _⟩ := hpw.obj k' _ hg
        rw [he, hh] at h2; cases h2)
      hst (by rw [alloc_size]; show w.heap.size < w.heap.size + 1; omega) hob
      (fun k' o hne hg => by rw [hgets, if_neg hne] at hg; exact hg) (fun o hg => by rw [hgets, if_pos rfl] at hg; exact (Option.some.inj hg).symm)
      ⟨us ++ news, grownCap w (es.length + xs.length) cap e, ⟨by rw [List.length_append, hlen, hfl], .inr ⟨w.heap.size, _, _, by simp only [if_true], Nat.zero_le _, alloc_new w.drew _, by rw [hlen]; exact hge, hgm, hgc.1, by rw [hlen]; exact hgc.2⟩⟩,
        hflat.mono (fun _ h => h) fun b hb => hob b (h.wr.roLt b hb)⟩ (fun h => by cases h) hcan
    refine ⟨_, _, _, _, _, fun k' => if k' = .cur n0 then w.heap.size else β k', RO, hrun, hW, ⟨hplace, h.size, h.defers, fun n x hx => ?_⟩, ?_⟩
    · rw [look_purgeE] at hx
      cases hy : look env n with
      | none => simp [hy] at hx
      | some y =>
        simp [hy] at hx
        obtain ⟨v, h1, h2⟩ := h.env n y hy
        refine ⟨v, h1, ?_⟩
        rw [← hx]
        exact h2.purge.upd (k0 := .cur n0) (fun k' hk' => if_neg fun e => by subst e; rw [K.under_self] at hk'; cases hk') (fun _ h => h) h.wr.roLt (fun b hb' _ => hob b hb') (purgeV_no (.cur n0) y)
    · rw [hlen]
      have := VL.osl (β := fun k' => if k' = .cur n0 then w.heap.size else β k') (RO := RO) (w := w.drew.alloc (.cells (us.toArray ++ news.toArray ++ Builtin.zeroCells zz.cells (grownCap w (es.length + xs.length) cap e - (es.length + xs.length))) e)) (.cur n0) (sz + 1) 0 (es.length + xs.length)
        (grownCap w (es.length + xs.length) cap e) e _ hge (by simp only [if_true, World.shape?]; rw [show w.heap.size = w.drew.heap.size from rfl, alloc_new]) (by rw [hgc.1, Nat.zero_add]) (by omega)
      simpa using this

theorem appW_gives (h : SR E N β RO env st a w) {s t ty : Nat} {x y : LV} {vx vy : Value} {K' : LV → Env → St → Prop} (hx : VL β RO w x vx) (hy : VL β RO w y vy) (hW : appW C env st s t x y K') :
    Gives P E N a w (Builtin.append_ #[t, t] ty #[vx, vy]) K' := by
  unfold appW at hW
  split at hW
  · rename_i e0 sz0 b0 z0 ht
    have hu := run_slice_ty hC ht
    split at hW
    · rename_i te hte
      obtain ⟨j, zz, hj, hjs, hjb, hz, hzc⟩ := (hC.ty hte).info
      have hone := (hC.ty hte).one
      simp only [Bool.and_eq_true, Nat.beq_eq] at hone
      have hzl : zz.cells.size = te.size := by
        have : zz.cells.toList.length = te.size := by rw [hzc]; simpa using hone.2
        simpa using this
      split at hW
      · cases hW
      · rename_i sz hsz
        obtain ⟨xs, hW, aa, m, c, news, rfl, rfl, hf, hn1, hnone, hcell⟩ := srcW_gives h.wr (Nat.succ_pos sz) hy hW
        rw [hsz] at hjs hzl
        split at hW
        · rename_i nl sz2 es2
          cases hx with
          | t _ _ hx =>
          cases hx
          split at hW
          · exact ⟨_, w, _, env, st, β, RO, run_append_nothing _ _ _ j hu hj _ _ _ (Nat.zero_le _) _ _, hW, h, .t _ _ (.nil 0)⟩
          · rename_i z r
            obtain ⟨hb, hm, hW⟩ := hW
            cases aa with
            | none => have := (hnone rfl).1; simp at this
            | some ad =>
            split at hW
            · rename_i hfr
              have hr := run_append_nil (P := P) w t ty e0 j zz hu hj hz ad (z :: r).length c news (by rw [hjs]; exact hf.1) (hcell ad rfl) (by simp) (by omega) (by rw [hjb]; omega)
              have hgc := grown_cells (us := []) (news := news) (z := zz.cells) (sz := sz + 1) (n := (z :: r).length) (grownCap_ge w (z :: r).length 0 e0) (by simpa using hf.1) hzl
              simp only [Array.empty_append, List.nil_append] at hgc
              have hown : (w.drew.alloc (.cells (news.toArray ++ Builtin.zeroCells zz.cells (grownCap w (z :: r).length 0 e0 - (z :: r).length)) e0)).ownsRow 0 e0 (sz + 1)
                  (.slice (some ⟨w.heap.size, 0, none⟩) (z :: r).length (grownCap w (z :: r).length 0 e0)) (z :: r).length news :=
                ⟨hf.1, .inr ⟨w.heap.size, _, _, rfl, Nat.zero_le _, alloc_new w.drew _, grownCap_ge .., grownCap_le_maxLen w _ _ _ (by unfold maxLen; omega), hgc.1, hgc.2⟩⟩
              have hrow := row_gives h hfr (w' := w.drew.alloc (.cells (news.toArray ++ Builtin.zeroCells zz.cells (grownCap w (z :: r).length 0 e0 - (z :: r).length)) e0)) (Step.drewAlloc w _) (by rw [alloc_size]; show w.heap.size < w.heap.size + 1; omega)
                (alloc_old w.drew _) hown rfl hf
              exact ⟨_, _, _, env, _, _, RO, hr, hW, hrow.1, hrow.2⟩
            · cases hW
        · rename_i k sz1 len
          split at hW
          · rename_i e' sz2 es hk
            split at hW
            · rename_i h1 h2 h3 hkr
              simp at h1 h2 h3
              subst h1; subst h2; subst h3
              obtain ⟨rfl, hb, hm, hW⟩ := hW
              exact append_own hC h hkr hk hu hte hsz hx hf hn1 hnone hcell hb hm hW
            · cases hW
          · cases hW
        · cases hW
    · cases hW
  · cases hW

end
end Go.Fw

/- The value logic, part 11: a region, whatever order is drawn. -/
namespace Go.Fw
open Go

abbrev EF := Nat → Option LV
def putF (ef : EF) (d : Option Nat) (x : LV) : EF := match d with
  | some d => fun n => if n = d then some x else ef n
  | none => ef

structure SF (E : Ent) (N : Nat) (β : K → Nat) (RO : Nat → Prop) (ef : EF) (st : St) (a : Act) (w : World) : Prop where
  wr : WR E β RO st w
  size : a.tmps.size = N ∧ N ≤ 1000000
  defers : a.defers = E.dfs
  env : ∀ n x, ef n = some x → ∃ v, tmpAt E a n = some v ∧ VL β RO w x v

theorem SF.sub {E : Ent} {N : Nat} {β : K → Nat} {RO : Nat → Prop} {ef ef' : EF} {st : St} {a : Act} {w : World} (h : SF E N β RO ef st a w) (hs : ∀ n x, ef' n = some x → ef n = some x) : SF E N β RO ef' st a w :=
  ⟨h.wr, h.size, h.defers, fun n x hx => h.env n x (hs n x hx)⟩
theorem putF_comm (ef : EF) {d e : Option Nat} (x y : LV) (h : ∀ n, d = some n → e ≠ some n) : putF (putF ef d x) e y = putF (putF ef e y) d x := by
  cases d with
  | none => rfl
  | some d =>
    cases e with
    | none => rfl
    | some e =>
      have hne : d ≠ e := fun he => h d rfl (he ▸ rfl)
      funext n
      simp only [putF]
      by_cases h1 : n = e <;> by_cases h2 : n = d
      · exact absurd (h2.symm.trans h1) hne
      · simp [h1, Ne.symm hne]
      · simp [h2, hne]
      · simp [h1, h2]
theorem putF_other (ef : EF) {d : Option Nat} (x : LV) {n : Nat} (h : d ≠ some n) : putF ef d x n = ef n := by
  cases d with
  | none => rfl
  | some d => simp only [putF]; rw [if_neg fun e => h (by rw [e])]

/-- The guard of an operation, as the slots tell it. -/
def gdF (ops : Array Oper) (ef : EF) (o : Oper) : Option Bool :=
  match o.guard with
  | none => some true
  | some (j, want) => match (ops[j]?).bind (·.dst) with
    | some d => match ef d with
      | some (.t (.v (.bool b))) => some (b == want)
      | some (.tup []) => some false
      | _ => none
    | none => none

section
variable {P : Program} {ops : Array Oper} {E : Ent} {N : Nat} {β : K → Nat} {RO : Nat → Prop} {ef : EF} {st : St} {a : Act} {w : World}

theorem tmpAt_put {d n : Nat} {v : Value} (h : d ≠ n) : tmpAt E (a.put (some d) v) n = tmpAt E a n := by
  unfold tmpAt
  split
  · simp only [Act.put]; rw [Array.getElem?_setIfInBounds_ne h]
  · rfl
theorem SF.put (h : SF E N β RO ef st a w) {d : Option Nat} {x : LV} {v : Value} (hx : VL β RO w x v) (hd : ∀ n, d = some n → n < N) : SF E N β RO (putF ef d x) st (a.put d v) w := by
  cases d with
  | none => exact h
  | some d =>
    refine ⟨h.wr, by simpa [Act.put] using h.size, h.defers, fun n y hy => ?_⟩
    simp only [putF] at hy
    by_cases hn : n = d
    · subst hn
      simp only [if_true, Option.some.injEq] at hy
      subst hy
      have hlt := hd n rfl
      have hsz := h.size
      exact ⟨v, by rw [tmpAt_lt (by omega)]; simp [Act.put, hsz.1, hlt], hx⟩
    · rw [if_neg hn] at hy
      obtain ⟨u, h1, h2⟩ := h.env n y hy
      exact ⟨u, by rw [tmpAt_put (Ne.symm hn)]; exact h1, h2⟩

theorem VL.skip : VL β RO w (.tup []) undef := .tup [] [] rfl fun i x v h => by simp at h
theorem VL.skip_inv {v : Value} (h : VL β RO w (.tup []) v) : v = undef := by
  cases h with
  | tup _ vs hl _ => rw [List.eq_nil_of_length_eq_zero hl.symm]; rfl

theorem gdF_wanted (hN : ∀ (i : Nat) (o : Oper) (d : Nat), ops[i]? = some o → o.dst = some d → d < N) (h : SF E N β RO ef st a w) {o : Oper} {b : Bool} (hg : gdF ops ef o = some b) : Region.wanted o (yielded ops a.tmps) = b := by
  unfold gdF at hg
  unfold Region.wanted
  split at hg
  · rename_i h0; rw [h0]; cases hg; rfl
  · rename_i j want h0
    rw [h0]
    split at hg
    · rename_i d hd
      have hlt : d < 1000000 := by
        cases hq : ops[j]? with
        | none => rw [hq] at hd; cases hd
        | some q =>
          rw [hq] at hd
          exact Nat.lt_of_lt_of_le (hN j q d hq hd) h.size.2
      split at hg
      · rename_i bb hb
        cases hg
        obtain ⟨v, h1, h2⟩ := h.env d _ hb
        rw [tmpAt_lt hlt] at h1
        have := h2.v_inv; subst this
        have : yielded ops a.tmps j = some bb := by unfold yielded; rw [hd]; simp [h1]
        simp only [this]
        cases bb <;> cases want <;> rfl
      · rename_i hb
        cases hg
        obtain ⟨v, h1, h2⟩ := h.env d _ hb
        rw [tmpAt_lt hlt] at h1
        have := h2.skip_inv; subst this
        have : yielded ops a.tmps j = none := by unfold yielded; rw [hd]; simp [h1, undef]
        simp only [this]
        cases want <;> rfl
      · cases hg
    · cases hg

/-- An operation that yields 'x' now, and at every later state; it looks at its own operands alone. -/
def PureS (P : Program) (E : Ent) (N : Nat) (ops : Array Oper) (o : Oper) (ef : EF) (st : St) (x : LV) : Prop :=
  ∀ ef' : EF, (∀ n ∈ o.looksAt ops, ef' n = ef n) → ∀ st', st.le st' → ∀ β RO a w, SF E N β RO ef' st' a w → ∃ v, (execOp a.eval o).run P w = .ok (.value v) w ∧ VL β RO w x v
/-- An operation that makes memory beside what is told. -/
def EffS (P : Program) (E : Ent) (N : Nat) (ops : Array Oper) (ef0 : EF) (o : Oper) (ef : EF) (st : St) (R : LV → St → Prop) : Prop :=
  ∀ ef' : EF, (∀ n ∈ o.looksAt ops, ef' n = ef n) → (∀ n, ef' n = ef n ∨ ef' n = ef0 n ∨ ef' n = none) → ∀ β RO a w, SF E N β RO ef' st a w →
    o.wp P a w (fun a' w' => ∃ v x st' β' RO', R x st' ∧ a' = a.put o.dst v ∧ SF E N β' RO' ef' st' a w' ∧ VL β' RO' w' x v) fun _ _ _ => False
/-- Any operation. -/
def SynS (P : Program) (E : Ent) (N : Nat) (o : Oper) (ef : EF) (st : St) (Q : EF → St → Prop) : Prop :=
  ∀ β RO a w, SF E N β RO ef st a w → o.wp P a w (fun a' w' => ∃ ef' st' β' RO', Q ef' st' ∧ SF E N β' RO' ef' st' a' w') fun _ _ _ => False

def PureG (P : Program) (E : Ent) (N : Nat) (ops : Array Oper) (o : Oper) (ef : EF) (st : St) (x : LV) : Prop :=
  (gdF ops ef o = some true ∧ PureS P E N ops o ef st x) ∨ (gdF ops ef o = some false ∧ x = .tup [])
def EffG (P : Program) (E : Ent) (N : Nat) (ops : Array Oper) (ef0 : EF) (o : Oper) (ef : EF) (st : St) (R : LV → St → Prop) : Prop :=
  (gdF ops ef o = some true ∧ EffS P E N ops ef0 o ef st R) ∨ (gdF ops ef o = some false ∧ R (.tup []) st)
def SynG (P : Program) (E : Ent) (N : Nat) (ops : Array Oper) (o : Oper) (ef : EF) (st : St) (Q : EF → St → Prop) : Prop :=
  (gdF ops ef o = some true ∧ SynS P E N o ef st Q) ∨ (gdF ops ef o = some false ∧ ∃ ef', (∀ n x, ef' n = some x → putF ef o.dst (.tup []) n = some x) ∧ Q ef' st)

theorem gdF_congr {ef ef' : EF} {o : Oper} (h : ∀ n ∈ o.looksAt ops, ef' n = ef n) : gdF ops ef' o = gdF ops ef o := by
  unfold gdF
  split
  · rfl
  · rename_i j want h0
    split
    · rename_i d hd
      rw [h d (by simp [Oper.looksAt, h0, hd])]
    · rfl
theorem PureG.congr {ef ef' : EF} {o : Oper} {x : LV} (h : ∀ n ∈ o.looksAt ops, ef' n = ef n) (hp : PureG P E N ops o ef st x) : PureG P E N ops o ef' st x := by
  unfold PureG at *
  rw [gdF_congr h]
  exact hp.imp (fun ⟨g, hs⟩ => ⟨g, fun ef2 h2 => hs ef2 fun n hn => (h2 n hn).trans (h n hn)⟩) id
theorem PureG.later {st' : St} {o : Oper} {x : LV} (h : st.le st') (hp : PureG P E N ops o ef st x) : PureG P E N ops o ef st' x :=
  hp.imp (fun ⟨g, hs⟩ => ⟨g, fun ef2 h2 st2 h3 => hs ef2 h2 st2 fun k o hk => h3 k o (h k o hk)⟩) id

/-- Orders, as a tree: an operation and what follows it, and the others that may come in its place. -/
inductive Tr where
  | done
  | pure (i : Nat) (t : Tr)
  | eff (i : Nat) (t : Tr)
  | last (i : Nat) (t : Tr) (again : List Nat)
  | fork (i : Nat) (t : Tr) (again : List Nat) (rest : Tr)
inductive Kind where
  | pure | eff | syn
  | tree (t : Tr)

/-- What is surely done ahead of an operation. -/
inductive Befo (ops : Array Oper) : Oper → Nat → Prop
  | one {o : Oper} (e : Edge) (he : e ∈ o.after) (hb : Region.binds .any e = true) : Befo ops o e.on
  | step {o : Oper} (e : Edge) (he : e ∈ o.after) (hb : Region.binds .any e = true) {o2 : Oper} (h2 : ops[e.on]? = some o2) {j : Nat} (h : Befo ops o2 j) : Befo ops o j
def Down (ops : Array Oper) (listed : Array Bool) : Prop := ∀ (k : Nat) (o : Oper), listed.getD k false = true → ops[k]? = some o → ∀ e ∈ o.after, Region.binds .any e = true → listed.getD e.on false = true
theorem Befo.listed {listed : Array Bool} (hd : Down ops listed) {o : Oper} {j : Nat} (h : Befo ops o j) : (∀ e ∈ o.after, Region.binds .any e = true → listed.getD e.on false = true) → listed.getD j false = true := by
  induction h with
  | one e he hb => exact fun hall => hall e he hb
  | step e he hb h2 _ ih => exact fun hall => ih (hd _ _ (hall e he hb) h2)
theorem ready_after {listed : Array Bool} {i : Nat} {o : Oper} (hi : i ∈ Region.ready .any ops listed) (ho : ops[i]? = some o) : ∀ e ∈ o.after, Region.binds .any e = true → listed.getD e.on false = true := by
  obtain ⟨_, o', ho', hall⟩ := mem_ready.1 hi
  rw [ho] at ho'; cases ho'
  intro e he hb
  have := hall e he hb
  first
    | exact this
    | (rw [Array.getD_eq_getD_getElem?, this]; rfl)
theorem Down.put {listed : Array Bool} (hd : Down ops listed) {i : Nat} (hi : i ∈ Region.ready .any ops listed) : Down ops (listed.setIfInBounds i true) := by
  intro k o hk ho e he hb
  have up : ∀ m, listed.getD m false = true → (listed.setIfInBounds i true).getD m false = true := fun m hm => by
    by_cases him : i = m
    · subst him
      have hlt : i < listed.size := by
        rcases Nat.lt_or_ge i listed.size with h | h
        · exact h
        · simp [Array.getElem?_eq_none h] at hm
      simp [hlt]
    · rw [getD_set_ne false him]; exact hm
  by_cases hik : i = k
  · subst hik
    exact up _ (ready_after hi ho e he hb)
  · rw [getD_set_ne false hik] at hk
    exact up _ (hd k o hk ho e he hb)
theorem down0 : Down ops (Array.replicate ops.size false) := fun k o hk => by
  exfalso
  rcases Nat.lt_or_ge k ops.size with h | h
  · simp [h] at hk
  · simp [h] at hk

/-- An operation that only reads says the same again. -/
def Again (P : Program) (E : Ent) (N : Nat) (ops : Array Oper) (j : Nat) (ef : EF) (st : St) : Prop :=
  ∃ oj x, ops[j]? = some oj ∧ (∀ d, oj.dst = some d → ef d = some x) ∧ PureG P E N ops oj ef st x
def addP (pf : Nat → Bool) (i : Nat) : Nat → Bool := fun k => Nat.beq i k || pf k
theorem addP_comm (pf : Nat → Bool) (i j : Nat) : addP (addP pf i) j = addP (addP pf j) i := by
  funext k; simp only [addP]; cases Nat.beq i k <;> cases Nat.beq j k <;> rfl

/-- What every order has still to do. 'pf': what only read, and may have been put off. -/
def anyF (P : Program) (E : Ent) (N : Nat) (ops : Array Oper) (Q : EF → St → Prop) : Nat → (Nat → Bool) → EF → Array Bool → EF → St → Prop
  | 0, _, _, listed, ef, st => Region.ready .any ops listed = [] ∧ Q ef st
  | n + 1, pf, ef0, listed, ef, st => (Region.ready .any ops listed = [] → Q ef st) ∧
    ∀ i ∈ Region.ready .any ops listed, ∃ o, ops[i]? = some o ∧
      ((∃ x, PureG P E N ops o ef st x ∧ anyF P E N ops Q n (addP pf i) ef0 (listed.setIfInBounds i true) (putF ef o.dst x) st) ∨
       (∃ R : LV → St → Prop, EffG P E N ops ef0 o ef st R ∧ ∀ x st', R x st' → st.le st' ∧ anyF P E N ops Q n pf ef0 (listed.setIfInBounds i true) (putF ef o.dst x) st') ∨
       SynG P E N ops o ef st fun ef' st' => (∀ j, pf j = true → Befo ops o j ∨ Again P E N ops j ef' st') ∧
         ∃ ef1, (∀ n, ef' n = ef1 n ∨ ef' n = none) ∧ anyF P E N ops Q n pf ef1 (listed.setIfInBounds i true) ef' st')

theorem upon_value {o : Oper} {v : Value} {K' : Act → World → Prop} {Q : Exit → Act → World → Prop} (h : (execOp a.eval o).run P w = .ok (.value v) w) (hk : K' (a.put o.dst v) w) : o.wp P a w K' Q := by
  unfold Oper.wp; rw [h]; exact hk

/-- It is a wpAny of the machine. -/
theorem anyF_sound {Q : EF → St → Prop} (hN : ∀ (i : Nat) (o : Oper) (d : Nat), ops[i]? = some o → o.dst = some d → d < N) {Q' : Exit → Act → World → Prop}
    (hQ : ∀ ef st β RO a w, SF E N β RO ef st a w → Q ef st → Q' .normal a w) (hF : ∀ e a w, False → Q' e a w) :
    ∀ (n : Nat) (pf : Nat → Bool) (ef0 : EF) (listed : Array Bool) (ef : EF) (st : St) (β : K → Nat) (RO : Nat → Prop) (a : Act) (w : World), SF E N β RO ef st a w → anyF P E N ops Q n pf ef0 listed ef st → wpAny P .any ops Q' n listed a w
  | 0, _, _, listed, ef, st, β, RO, a, w, h, hA => ⟨hA.1, hQ _ _ _ _ _ _ h hA.2⟩
  | n + 1, pf, ef0, listed, ef, st, β, RO, a, w, h, hA => by
    refine ⟨fun h0 => hQ _ _ _ _ _ _ h (hA.1 h0), fun i hi => ?_⟩
    obtain ⟨o, ho, hc⟩ := hA.2 i hi
    unfold wpOp
    simp only [ho]
    have hput : ∀ {pf2 ef2 st2 β2 RO2 x v w2}, SF E N β2 RO2 ef2 st2 a w2 → VL β2 RO2 w2 x v → anyF P E N ops Q n pf2 ef0 (listed.setIfInBounds i true) (putF ef2 o.dst x) st2 → wpAny P .any ops Q' n (listed.setIfInBounds i true) (a.put o.dst v) w2 :=
      fun hs hv hk => anyF_sound hN hQ hF n _ _ _ _ _ _ _ _ _ (hs.put hv fun d hd => hN i o d ho hd) hk
    rcases hc with ⟨x, hp, hk⟩ | ⟨R, he, hk⟩ | hsyn
    · rcases hp with ⟨hg, hp⟩ | ⟨hg, rfl⟩
      · rw [gdF_wanted hN h hg, if_pos rfl]
        obtain ⟨v, h1, h2⟩ := hp ef (fun _ _ => rfl) st (fun _ _ h => h) β RO a w h
        exact .inl (upon_value h1 (hput h h2 hk))
      · rw [gdF_wanted hN h hg, if_neg (by simp)]
        exact hput h .skip hk
    · rcases he with ⟨hg, he⟩ | ⟨hg, hR⟩
      · rw [gdF_wanted hN h hg, if_pos rfl]
        have := he ef (fun _ _ => rfl) (fun _ => .inl rfl) β RO a w h
        refine .inl (Oper.wp_mono ?_ (wp_weaken hF this))
        rintro a' w' ⟨v, x, st', β', RO', hR, rfl, hs, hv⟩
        exact hput hs hv (hk x st' hR).2
      · rw [gdF_wanted hN h hg, if_neg (by simp)]
        exact hput h .skip (hk _ _ hR).2
    · rcases hsyn with ⟨hg, he⟩ | ⟨hg, ef', hef, _, ef1, _, hk⟩
      · rw [gdF_wanted hN h hg, if_pos rfl]
        refine .inl (Oper.wp_mono ?_ (wp_weaken hF (he β RO a w h)))
        rintro a' w' ⟨ef', st', β', RO', ⟨_, ef1, _, hk⟩, hs⟩
        exact anyF_sound hN hQ hF n _ _ _ _ _ _ _ _ _ hs hk
      · rw [gdF_wanted hN h hg, if_neg (by simp)]
        exact anyF_sound hN hQ hF n _ _ _ _ _ _ _ _ _ ((h.put .skip fun d hd => hN i o d ho hd).sub hef) hk
where
  wp_weaken {P : Program} {o : Oper} {a : Act} {w : World} {K' : Act → World → Prop} {Q' : Exit → Act → World → Prop} (hF : ∀ e a w, False → Q' e a w) (h : o.wp P a w K' fun _ _ _ => False) : o.wp P a w K' Q' := by
    unfold Oper.wp at *
    generalize (execOp a.eval o).run P w = r at *
    cases r with
    | ok n w' =>
      cases n <;> simp only [Oper.upon] at h ⊢ <;>
        first
          | exact h
          | (refine Calls.mono h fun e w'' he => ?_
             cases e with
             | returned v => exact he
             | panicked c => exact he.elim
             | outgrown => obtain ⟨_, _, he⟩ := he; exact he.elim)
    | halt x w' => cases x <;> simp only [Oper.upon] at h ⊢ <;> exact h.elim

/-- No two operations write one slot. -/
def Distinct (ops : Array Oper) : Prop := ∀ (i j : Nat) (o p : Oper) (d : Nat), ops[i]? = some o → ops[j]? = some p → o.dst = some d → p.dst = some d → i = j
/-- What has not come up has written nothing. -/
def Waits (ops : Array Oper) (ef0 : EF) (listed : Array Bool) (ef : EF) : Prop := ∀ (j : Nat) (o : Oper) (d : Nat), ops[j]? = some o → listed.getD j true = false → o.dst = some d → ef d = ef0 d ∨ ef d = none

theorem Waits.put {ef0 : EF} {listed : Array Bool} (hd : Distinct ops) (h : Waits ops ef0 listed ef) {i : Nat} {o : Oper} (ho : ops[i]? = some o) (x : LV) : Waits ops ef0 (listed.setIfInBounds i true) (putF ef o.dst x) := by
  intro j p d hp hj hpd
  have hij : i ≠ j := by
    rintro rfl
    rcases Nat.lt_or_ge i listed.size with hlt | hge
    · simp [hlt] at hj
    · have : (listed.setIfInBounds i true).getD i true = true := by simp [hge]
      rw [this] at hj; cases hj
  rw [getD_set_ne true hij] at hj
  rw [putF_other ef x fun e => hij (hd i j o p d ho hp e hpd)]
  exact h j p d hp hj hpd

/-- A slot forgotten. -/
def dropF (ef : EF) (d : Option Nat) : EF := match d with
  | some d => fun n => if n = d then none else ef n
  | none => ef
theorem dropF_sub (ef : EF) (d : Option Nat) (n : Nat) (x : LV) (h : dropF ef d n = some x) : ef n = some x := by
  cases d with
  | none => exact h
  | some d => simp only [dropF] at h; split at h
              · cases h
              · exact h
theorem dropF_other {ef : EF} {d : Option Nat} {n : Nat} (h : d ≠ some n) : dropF ef d n = ef n := by
  cases d with
  | none => rfl
  | some d => simp only [dropF]; rw [if_neg fun e => h (by rw [e])]
theorem dropF_or (ef : EF) (d : Option Nat) (n : Nat) : dropF ef d n = ef n ∨ dropF ef d n = none := by
  cases d with
  | none => exact .inl rfl
  | some d => simp only [dropF]; split
              · exact .inr rfl
              · exact .inl rfl
theorem putF_dropF {ef : EF} {d : Option Nat} {x : LV} (h : ∀ k, d = some k → ef k = some x) : putF (dropF ef d) d x = ef := by
  cases d with
  | none => rfl
  | some d =>
    funext n
    simp only [putF, dropF]
    by_cases hn : n = d
    · rw [if_pos hn, hn]; exact (h d rfl).symm
    · rw [if_neg hn, if_neg hn]

/-- An operation does the same where a slot that it does not look at holds something else. -/
theorem wp_put {o : Oper} {dst : Option Nat} {v : Value} {K : Act → World → Prop} (hs : ∀ cs b, o.op ≠ .select cs b) (h1 : ∀ d, dst = some d → d ∉ o.looksAt ops) (h2 : ∀ d, dst = some d → o.dst ≠ some d) (h : o.wp P (a.put dst v) w K fun _ _ _ => False) :
    o.wp P a w (fun a' w' => K (a'.put dst v) w') fun _ _ _ => False := by
  unfold Oper.wp at *
  rw [execOp_put o hs a dst v h1] at h
  generalize (execOp a.eval o).run P w = r at *
  cases r with
  | ok n w' =>
    cases n <;> simp only [Oper.upon] at h ⊢
    case value u => rw [← Act.put_comm a v u h2]; exact h
    case skip => rw [← Act.put_comm a v undef h2]; exact h
    case defer d =>
      rw [← Act.put_comm _ v undef h2, ← Act.put_defers]
      exact h
    case enter f args =>
      refine Calls.mono h fun e w'' he => ?_
      cases e with
      | returned u =>
        have he' : K ((a.put dst v).put o.dst u) w'' := he
        show K ((a.put o.dst u).put dst v) w''
        rw [← Act.put_comm a v u h2]; exact he'
      | panicked c => exact he
      | outgrown => obtain ⟨_, _, he⟩ := he; exact he.elim
    case row row args => exact Rows.mono h fun u w'' he => by rw [← Act.put_comm a v u h2]; exact he
  | halt x w' =>
    cases x <;> simp only [Oper.upon] at h
theorem SF.unput {ef : EF} {dst : Option Nat} {v : Value} (h : SF E N β RO ef st (a.put dst v) w) : SF E N β RO (dropF ef dst) st a w := by
  cases dst with
  | none => exact h
  | some d =>
    refine ⟨h.wr, by have := h.size; simpa [Act.put] using this, h.defers, fun n x hx => ?_⟩
    simp only [dropF] at hx
    split at hx
    · cases hx
    · rename_i hn
      obtain ⟨u, h1, h2⟩ := h.env n x hx
      exact ⟨u, by rw [← h1, tmpAt_put (Ne.symm hn)], h2⟩

theorem anyF_first {Q : EF → St → Prop} (hsel : ∀ (j : Nat) (o : Oper) cs b, ops[j]? = some o → o.op ≠ .select cs b) (hN : ∀ (i : Nat) (o : Oper) (d : Nat), ops[i]? = some o → o.dst = some d → d < N) (hd : Distinct ops) {i : Nat} {oi : Oper} (hi : ops[i]? = some oi) (hself : ∀ d, oi.dst = some d → d ∉ oi.looksAt ops) :
    ∀ (n : Nat) (pf : Nat → Bool) (ef0 : EF) (listed : Array Bool) (ef : EF) (st : St) (x : LV), Down ops listed → Waits ops ef0 listed ef → (∀ k, pf k = true → listed.getD k false = true) →
      (∀ k ok, listed.getD k false = true → ops[k]? = some ok → ∀ d, oi.dst = some d → d ∉ ok.looksAt ops) →
      (∀ j oj, ops[j]? = some oj → j ≠ i → listed.getD j true = false → (∀ e ∈ oj.after, Region.binds .any e = true → e.on ≠ i) → oi.apart ops oj = true) →
      i ∈ Region.ready .any ops listed → PureG P E N ops oi ef st x →
      anyF P E N ops Q n (addP pf i) ef0 (listed.setIfInBounds i true) (putF ef oi.dst x) st → anyF P E N ops Q (n + 1) pf ef0 listed ef st := by
  intro n
  induction n with
  | zero =>
    intro pf ef0 listed ef st x _ _ _ _ _ hr hp H
    refine ⟨fun h => (by rw [h] at hr; cases hr), fun j hj => ?_⟩
    by_cases hji : j = i
    · subst hji; exact ⟨oi, hi, .inl ⟨x, hp, H⟩⟩
    · have := ready_mono hj hji
      rw [H.1] at this
      cases this
  | succ n ih =>
    intro pf ef0 listed ef st x hdn hw hpf hnl hfree hr hp H
    refine ⟨fun h => (by rw [h] at hr; cases hr), fun j hj => ?_⟩
    by_cases hji : j = i
    · subst hji; exact ⟨oi, hi, .inl ⟨x, hp, H⟩⟩
    · obtain ⟨oj, hoj, h1⟩ := H.2 j (ready_mono hj hji)
      obtain ⟨hjun, oj', hoj', hall⟩ := mem_ready.1 hj
      rw [hoj] at hoj'; cases hoj'
      have hiun := (mem_ready.1 hr).1
      have hnot : ∀ e ∈ oj.after, Region.binds .any e = true → e.on ≠ i := fun e he hb heq => by
        have h1 := hall e he hb
        rw [heq] at h1
        rcases Nat.lt_or_ge i listed.size with h' | h'
        · simp [h'] at hiun h1; rw [hiun] at h1; cases h1
        · simp [Array.getElem?_eq_none h'] at h1
      obtain ⟨a1, a2, a3⟩ := Oper.apart_spec (hfree j oj hoj hji hjun hnot)
      have hsame : ∀ n ∈ oj.looksAt ops, ef n = putF ef oi.dst x n := fun n hn => (putF_other ef x fun e => a1 n e hn).symm
      have hfree' : ∀ k ok, ops[k]? = some ok → k ≠ i → (listed.setIfInBounds j true).getD k true = false →
          (∀ e ∈ ok.after, Region.binds .any e = true → e.on ≠ i) → oi.apart ops ok = true := fun k ok hk hki hun hno => by
        refine hfree k ok hk hki ?_ hno
        by_cases hjk : j = k
        · subst hjk; exact hjun
        · rw [getD_set_ne true hjk] at hun; exact hun
      have hup : ∀ m, listed.getD m false = true → (listed.setIfInBounds j true).getD m false = true := fun m hm => getD_set_true hm
      have hnl' : ∀ k ok, (listed.setIfInBounds j true).getD k false = true → ops[k]? = some ok → ∀ d, oi.dst = some d → d ∉ ok.looksAt ops := fun k ok hk hok d hd' => by
        by_cases hjk : j = k
        · subst hjk; rw [hoj] at hok; cases hok; exact a1 d hd'
        · rw [getD_set_ne false hjk] at hk; exact hnl k ok hk hok d hd'
      have hkeep : ∀ (y : LV), PureG P E N ops oi (putF ef oj.dst y) st x := fun y => hp.congr fun n hn => putF_other ef y fun e => a3 n e hn
      have hcomm : ∀ (y : LV), putF (putF ef oi.dst x) oj.dst y = putF (putF ef oj.dst y) oi.dst x := fun y => putF_comm ef x y a2
      have hlist : (listed.setIfInBounds i true).setIfInBounds j true = (listed.setIfInBounds j true).setIfInBounds i true := Array.setIfInBounds_comm _ _ (Ne.symm hji)
      have hpfj : ∀ k, pf k = true → (listed.setIfInBounds j true).getD k false = true := fun k hk => hup k (hpf k hk)
      -- where what was put off is still to do behind 'oj'
      have put_off : ∀ {ef' : EF} {st' : St}, ((∀ k, (addP pf i) k = true → Befo ops oj k ∨ Again P E N ops k ef' st') ∧ ∃ ef1, (∀ n, ef' n = ef1 n ∨ ef' n = none) ∧ anyF P E N ops Q n (addP pf i) ef1 ((listed.setIfInBounds i true).setIfInBounds j true) ef' st') →
          (∀ k, pf k = true → Befo ops oj k ∨ Again P E N ops k (dropF ef' oi.dst) st') ∧ ∃ ef1, (∀ n, dropF ef' oi.dst n = ef1 n ∨ dropF ef' oi.dst n = none) ∧ anyF P E N ops Q (n + 1) pf ef1 (listed.setIfInBounds j true) (dropF ef' oi.dst) st' := by
        rintro ef' st' ⟨hag, ef1, hef1, hany⟩
        have hor : ∀ n, dropF ef' oi.dst n = ef1 n ∨ dropF ef' oi.dst n = none := fun n => by
          rcases dropF_or ef' oi.dst n with h | h
          · rw [h]; exact hef1 n
          · exact .inr h
        refine ⟨fun k hk => ?_, ef1, hor, ?_⟩
        · rcases hag k (by simp [addP, hk]) with h | ⟨ok, y, hok, hy, hpk⟩
          · exact .inl h
          · have hki : k ≠ i := by
              rintro rfl
              have := hpf k hk
              rcases Nat.lt_or_ge k listed.size with h' | h'
              · simp [h'] at hiun this; rw [hiun] at this; cases this
              · simp [Array.getElem?_eq_none h'] at this
            refine .inr ⟨ok, y, hok, fun d hdk => ?_, hpk.congr fun n hn => dropF_other fun e => hnl k ok (hpf k hk) hok n e hn⟩
            rw [dropF_other fun e => hki (hd k i ok oi d hok hi hdk e)]
            exact hy d hdk
        · rcases hag i (by simp [addP]) with h | ⟨oi', y, hoi', hy, hpi⟩
          · exfalso
            have := h.listed hdn (ready_after hj hoj)
            rcases Nat.lt_or_ge i listed.size with h' | h'
            · simp [h'] at hiun this; rw [hiun] at this; cases this
            · simp [Array.getElem?_eq_none h'] at this
          · rw [hi] at hoi'; cases hoi'
            refine ih pf ef1 _ (dropF ef' oi.dst) st' y (hdn.put hj) (fun m om d hom _ hdm => hor d) hpfj hnl' hfree' (ready_mono hr (Ne.symm hji)) (hpi.congr fun n hn => dropF_other fun e => hself n e hn) ?_
            rw [putF_dropF hy, ← hlist]; exact hany
      refine ⟨oj, hoj, ?_⟩
      rcases h1 with ⟨y, hy, hk⟩ | ⟨R, he, hk⟩ | hs
      · refine .inl ⟨y, hy.congr hsame, ih _ _ _ _ _ _ (hdn.put hj) (hw.put hd hoj y) (fun k hk => ?_) hnl' hfree' (ready_mono hr (Ne.symm hji)) (hkeep y) ?_⟩
        · simp only [addP, Bool.or_eq_true] at hk
          rcases hk with hk | hk
          · have : j = k := by simpa using hk
            subst this
            have hlt : j < listed.size := by
              rcases Nat.lt_or_ge j listed.size with h' | h'
              · exact h'
              · simp [Array.getElem?_eq_none h'] at hjun
            simp [hlt]
          · exact hpfj k hk
        · rw [← hcomm, ← hlist, addP_comm]; exact hk
      · refine .inr (.inl ⟨R, ?_, fun y st' hR => ?_⟩)
        · refine he.imp (fun ⟨g, hE⟩ => ⟨by rw [gdF_congr hsame]; exact g, fun ef' h2 h3 => hE ef' (fun n hn => (h2 n hn).trans (hsame n hn)) fun n => ?_⟩) fun ⟨g, hR⟩ => ⟨by rw [gdF_congr hsame]; exact g, hR⟩
          by_cases hn : oi.dst = some n
          · right
            rcases h3 n with h4 | h4
            · rw [h4]; exact hw i oi n hi hiun hn
            · exact h4
          · rw [putF_other ef x hn]; exact h3 n
        · obtain ⟨hle, hk⟩ := hk y st' hR
          refine ⟨hle, ih _ _ _ _ _ _ (hdn.put hj) (hw.put hd hoj y) hpfj hnl' hfree' (ready_mono hr (Ne.symm hji)) ((hkeep y).later hle) ?_⟩
          rw [← hcomm, ← hlist]; exact hk
      · refine .inr (.inr ?_)
        rcases hs with ⟨g, hS⟩ | ⟨g, ef', hef, hk⟩
        · refine .inl ⟨by rw [gdF_congr hsame]; exact g, fun β RO a w hsf => ?_⟩
          obtain ⟨v, hv⟩ : ∃ v, VL β RO w x v := by
            rcases hp with ⟨_, hp⟩ | ⟨_, rfl⟩
            · obtain ⟨v, _, hv⟩ := hp ef (fun _ _ => rfl) st (fun _ _ h => h) β RO a w hsf
              exact ⟨v, hv⟩
            · exact ⟨undef, .skip⟩
          have hsf2 := hsf.put hv (fun d hdi => hN i oi d hi hdi)
          refine Oper.wp_mono ?_ (wp_put (hsel j oj · · hoj) a1 a2 (hS β RO _ w hsf2))
          rintro a' w' ⟨ef', st', β', RO', hk, hs'⟩
          exact ⟨dropF ef' oi.dst, st', β', RO', put_off hk, hs'.unput⟩
        · refine .inr ⟨by rw [gdF_congr hsame]; exact g, dropF ef' oi.dst, fun n y hy => ?_, put_off hk⟩
          have h5 := hef n y (dropF_sub _ _ _ _ hy)
          rw [hcomm] at h5
          by_cases hn : oi.dst = some n
          · exfalso
            rw [hn] at hy
            simp [dropF] at hy
          · rwa [putF_other _ x hn] at h5

/-- What is looked at where an operation is told first. -/
def FirstOK (ops : Array Oper) (listed : Array Bool) (i : Nat) (o : Oper) : Prop :=
  i ∈ Region.ready .any ops listed ∧ (∀ d, o.dst = some d → d ∉ o.looksAt ops) ∧ (∀ k ok, listed.getD k false = true → ops[k]? = some ok → ∀ d, o.dst = some d → d ∉ ok.looksAt ops) ∧
  ∀ j oj, ops[j]? = some oj → j ≠ i → listed.getD j true = false → (∀ e ∈ oj.after, Region.binds .any e = true → e.on ≠ i) → o.apart ops oj = true
/-- The walk in the orders that are told. -/
def treeF (P : Program) (E : Ent) (N : Nat) (ops : Array Oper) (Q : EF → St → Prop) : Tr → (Nat → Bool) → EF → Array Bool → EF → St → Prop
  | .done, _, _, _, ef, st => Q ef st
  | .pure i t, pf, ef0, listed, ef, st => ∃ o x, ops[i]? = some o ∧ FirstOK ops listed i o ∧ PureG P E N ops o ef st x ∧ treeF P E N ops Q t (addP pf i) ef0 (listed.setIfInBounds i true) (putF ef o.dst x) st
  | .eff i t, pf, ef0, listed, ef, st => ∃ o, ∃ R : LV → St → Prop, ops[i]? = some o ∧ Region.ready .any ops listed = [i] ∧ EffG P E N ops ef0 o ef st R ∧
      ∀ x st', R x st' → st.le st' ∧ treeF P E N ops Q t pf ef0 (listed.setIfInBounds i true) (putF ef o.dst x) st'
  | .last i t _, pf, _, listed, ef, st => ∃ o, ops[i]? = some o ∧ i ∈ Region.ready .any ops listed ∧ SynG P E N ops o ef st fun ef' st' => (∀ j, pf j = true → Befo ops o j ∨ Again P E N ops j ef' st') ∧
      treeF P E N ops Q t pf ef' (listed.setIfInBounds i true) ef' st'
  | .fork i t _ rest, pf, ef0, listed, ef, st => (∃ o, ops[i]? = some o ∧ i ∈ Region.ready .any ops listed ∧ SynG P E N ops o ef st fun ef' st' => (∀ j, pf j = true → Befo ops o j ∨ Again P E N ops j ef' st') ∧
      treeF P E N ops Q t pf ef' (listed.setIfInBounds i true) ef' st') ∧ treeF P E N ops Q rest pf ef0 listed ef st

/-- Do the orders of a tree cover all? -/
def covB (ops : Array Oper) : Tr → Nat → Array Bool → List Nat → Bool
  | .done, _, _, rd => rd.isEmpty
  | .pure i t, n, listed, _ => match n with
    | 0 => false
    | m + 1 => (Region.ready .any ops listed).contains i && covB ops t m (listed.setIfInBounds i true) (Region.ready .any ops (listed.setIfInBounds i true))
  | .eff i t, n, listed, _ => match n with
    | 0 => false
    | m + 1 => (Region.ready .any ops listed).contains i && covB ops t m (listed.setIfInBounds i true) (Region.ready .any ops (listed.setIfInBounds i true))
  | .last i t _, n, listed, rd => match n with
    | 0 => false
    | m + 1 => (Region.ready .any ops listed).contains i && (rd.all (Nat.beq i) && covB ops t m (listed.setIfInBounds i true) (Region.ready .any ops (listed.setIfInBounds i true)))
  | .fork i t _ rest, n, listed, rd => match n with
    | 0 => false
    | m + 1 => (Region.ready .any ops listed).contains i && (covB ops t m (listed.setIfInBounds i true) (Region.ready .any ops (listed.setIfInBounds i true)) &&
        ((match rest with | .last _ _ _ => true | .fork _ _ _ _ => true | _ => false) && covB ops rest (m + 1) listed (rd.filter fun j => !Nat.beq i j)))

theorem SynG.mono {o : Oper} {Q Q' : EF → St → Prop} (hq : ∀ ef st, Q ef st → Q' ef st) (h : SynG P E N ops o ef st Q) : SynG P E N ops o ef st Q' :=
  h.imp (fun ⟨g, hs⟩ => ⟨g, fun β RO a w hsf => Oper.wp_mono (fun _ _ ⟨ef', st', β', RO', hk, h2⟩ => ⟨ef', st', β', RO', hq _ _ hk, h2⟩) (hs β RO a w hsf)⟩) fun ⟨g, ef', he, hk⟩ => ⟨g, ef', he, hq _ _ hk⟩

def Tr.alt : Tr → Bool
  | .last _ _ _ => true
  | .fork _ _ _ _ => true
  | _ => false
/-- What is told of some of the ready ones. -/
def nodeF (P : Program) (E : Ent) (N : Nat) (ops : Array Oper) (Q : EF → St → Prop) (m : Nat) (pf : Nat → Bool) (listed : Array Bool) (ef : EF) (st : St) (i : Nat) : Prop :=
  ∃ o, ops[i]? = some o ∧ SynG P E N ops o ef st fun ef' st' => (∀ j, pf j = true → Befo ops o j ∨ Again P E N ops j ef' st') ∧
         ∃ ef1, (∀ n, ef' n = ef1 n ∨ ef' n = none) ∧ anyF P E N ops Q m pf ef1 (listed.setIfInBounds i true) ef' st'
theorem ready_lt {listed : Array Bool} {i : Nat} (hi : i ∈ Region.ready .any ops listed) : i < listed.size := by
  have h := (mem_ready.1 hi).1
  rcases Nat.lt_or_ge i listed.size with h' | h'
  · exact h'
  · simp [Array.getElem?_eq_none h'] at h
theorem treeF_any {Q : EF → St → Prop} (hsel : ∀ (j : Nat) (o : Oper) cs b, ops[j]? = some o → o.op ≠ .select cs b) (hN : ∀ (i : Nat) (o : Oper) (d : Nat), ops[i]? = some o → o.dst = some d → d < N) (hd : Distinct ops) :
    ∀ (t : Tr) (n : Nat) (pf : Nat → Bool) (ef0 : EF) (listed : Array Bool) (rd : List Nat) (ef : EF) (st : St), covB ops t n listed rd = true → Down ops listed → Waits ops ef0 listed ef → (∀ k, pf k = true → listed.getD k false = true) → treeF P E N ops Q t pf ef0 listed ef st →
      (t.alt = true → ∀ m, n = m + 1 → ∀ i ∈ rd, nodeF P E N ops Q m pf listed ef st i) ∧ (rd = Region.ready .any ops listed → anyF P E N ops Q n pf ef0 listed ef st)
  | .done, n, pf, ef0, listed, rd, ef, st, hc, hdn, hw, hpf, hT => by
    refine ⟨fun h => Bool.noConfusion h, fun hrd => ?_⟩
    have h0 : rd = [] := by simpa [covB] using hc
    rw [h0] at hrd
    cases n with
    | zero => exact ⟨hrd.symm, hT⟩
    | succ m => exact ⟨fun _ => hT, fun i hi => by rw [← hrd] at hi; cases hi⟩
  | .pure i t, n, pf, ef0, listed, rd, ef, st, hc, hdn, hw, hpf, hT => by
    refine ⟨fun h => Bool.noConfusion h, fun _ => ?_⟩
    cases n with
    | zero => simp [covB] at hc
    | succ m =>
      simp only [covB, Bool.and_eq_true] at hc
      obtain ⟨o, x, ho, ⟨hr, hself, hnl, hfree⟩, hp, hk⟩ := hT
      refine anyF_first hsel hN hd ho hself m pf ef0 listed ef st x hdn hw hpf hnl hfree hr hp ?_
      refine (treeF_any hsel hN hd t m _ _ _ _ _ _ hc.2 (hdn.put hr) (hw.put hd ho x) (fun k hk => ?_) hk).2 rfl
      simp only [addP, Bool.or_eq_true] at hk
      rcases hk with hk | hk
      · have : i = k := by simpa using hk
        subst this
        simp [ready_lt hr]
      · exact getD_set_true (hpf k hk)
  | .eff i t, n, pf, ef0, listed, rd, ef, st, hc, hdn, hw, hpf, hT => by
    refine ⟨fun h => Bool.noConfusion h, fun _ => ?_⟩
    cases n with
    | zero => simp [covB] at hc
    | succ m =>
      simp only [covB, Bool.and_eq_true] at hc
      obtain ⟨o, R, ho, hr, he, hk⟩ := hT
      have hir : i ∈ Region.ready .any ops listed := by rw [hr]; exact List.mem_singleton.2 rfl
      refine ⟨(fun h => by rw [hr] at h; cases h), fun j hj => ?_⟩
      rw [hr] at hj
      have : j = i := by simpa using hj
      subst this
      exact ⟨o, ho, .inr (.inl ⟨R, he, fun x st' hR => ⟨(hk x st' hR).1, (treeF_any hsel hN hd t m _ _ _ _ _ _ hc.2 (hdn.put hir) (hw.put hd ho x) (fun k hk => getD_set_true (hpf k hk)) (hk x st' hR).2).2 rfl⟩⟩)⟩
  | .last i t L, n, pf, ef0, listed, rd, ef, st, hc, hdn, hw, hpf, hT => by
    cases n with
    | zero => simp [covB] at hc
    | succ m =>
      simp only [covB, Bool.and_eq_true] at hc
      obtain ⟨hr0, h2, h3⟩ := hc
      obtain ⟨o, ho, hr, hS⟩ := hT
      have half : ∀ j ∈ rd, nodeF P E N ops Q m pf listed ef st j := fun j hj => by
        have hij : i = j := by simpa using List.all_eq_true.1 h2 j hj
        subst hij
        exact ⟨o, ho, hS.mono fun ef' st' ⟨g1, g2⟩ => ⟨g1, ef', fun _ => .inl rfl, (treeF_any hsel hN hd t m _ _ _ _ _ _ h3 (hdn.put hr) (fun _ _ _ _ _ _ => .inl rfl) (fun k hk => getD_set_true (hpf k hk)) g2).2 rfl⟩⟩
      refine ⟨fun _ m' hm j hj => (by cases hm; exact half j hj), fun hrd => ?_⟩
      subst hrd
      exact ⟨fun h => (by rw [h] at hr; cases hr), fun j hj => let ⟨oj, hoj, hn⟩ := half j hj; ⟨oj, hoj, .inr (.inr hn)⟩⟩
  | .fork i t L rest, n, pf, ef0, listed, rd, ef, st, hc, hdn, hw, hpf, hT => by
    cases n with
    | zero => simp [covB] at hc
    | succ m =>
      simp only [covB, Bool.and_eq_true] at hc
      obtain ⟨hr0, h2, h4, h3⟩ := hc
      have halt : rest.alt = true := by
        split at h4 <;> first | rfl | cases h4
      obtain ⟨⟨o, ho, hr, hS⟩, hrest⟩ := hT
      have half : ∀ j ∈ rd, nodeF P E N ops Q m pf listed ef st j := fun j hj => by
        by_cases hij : i = j
        · subst hij
          exact ⟨o, ho, hS.mono fun ef' st' ⟨g1, g2⟩ => ⟨g1, ef', fun _ => .inl rfl, (treeF_any hsel hN hd t m _ _ _ _ _ _ h2 (hdn.put hr) (fun _ _ _ _ _ _ => .inl rfl) (fun k hk => getD_set_true (hpf k hk)) g2).2 rfl⟩⟩
        · exact (treeF_any hsel hN hd rest (m + 1) pf ef0 listed _ ef st h3 hdn hw hpf hrest).1 halt m rfl j (List.mem_filter.2 ⟨hj, by rw [Bool.not_eq_true', Bool.eq_false_iff]; intro hb; exact hij (Nat.eq_of_beq_eq_true hb)⟩)
      refine ⟨fun _ m' hm j hj => (by cases hm; exact half j hj), fun hrd => ?_⟩
      subst hrd
      exact ⟨fun h => (by rw [h] at hr; cases hr), fun j hj => let ⟨oj, hoj, hn⟩ := half j hj; ⟨oj, hoj, .inr (.inr hn)⟩⟩

/-- An order, as a tree. -/
def trOf : List (Nat × Kind) → Tr
  | [] => .done
  | (i, .pure) :: r => .pure i (trOf r)
  | (i, .eff) :: r => .eff i (trOf r)
  | (i, .syn) :: r => .last i (trOf r) []
  | (_, .tree t) :: _ => t

end
end Go.Fw

/- The value logic, part 12: what is said of a function, and a call of it. -/
namespace Go.Fw
open Go

def LV.allK (p : K → Bool) : LV → Bool
  | .bad | .t _ | .ipt _ => true
  | .osl k _ _ _ | .ptr k _ | .pel k _ _ _ | .mpr k => p k
  | .fn _ cap => allC p cap
  | .ifc _ x => LV.allK p x
  | .agg cs | .tup cs => allL p cs
where
  allC (p : K → Bool) : List (K × Nat) → Bool
    | [] => true
    | q :: r => p q.1 && allC p r
  allL (p : K → Bool) : List LV → Bool
    | [] => true
    | x :: r => LV.allK p x && allL p r
def Ob.allK (p : K → Bool) : Ob → Bool
  | .box cs => LV.allK.allL p cs
  | .mit m _ => p m
  | _ => true

theorem allL_mem {p : K → Bool} : ∀ {cs : List LV}, LV.allK.allL p cs = true → ∀ x ∈ cs, x.allK p = true
  | [], _, x, hx => by cases hx
  | y :: r, h, x, hx => by
    simp only [LV.allK.allL, Bool.and_eq_true] at h
    rcases List.mem_cons.1 hx with rfl | hx
    · exact h.1
    · exact allL_mem h.2 x hx

theorem mapL_eq (g : K → K) : ∀ cs : List LV, mapV.mapL g cs = cs.map (mapV g)
  | [] => rfl
  | x :: r => by simp only [mapV.mapL, mapL_eq g r, List.map_cons]
theorem mapC_eq (g : K → K) : ∀ cs : List (K × Nat), mapC g cs = cs.map fun p => (g p.1, p.2)
  | [] => rfl
  | x :: r => by simp only [mapC, mapC_eq g r, List.map_cons]

section
variable {P : Program} {E : Ent} {N : Nat} {β β1 β2 : K → Nat} {RO : Nat → Prop} {env : Env} {st : St} {a : Act} {w w' : World}

theorem VL.map {g : K → K} {p : K → Bool} (hβ : ∀ k, p k = true → β2 (g k) = β1 k) {x : LV} {v : Value} (h : VL β1 RO w x v) : x.allK p = true → VL β2 RO w (mapV g x) v := by
  induction h with
  | bad x => intro _; exact .bad x
  | t x v h => intro _; exact .t x v h
  | osl k sz off len cap e n h hs hn hm => intro hp; have := hβ k hp; rw [← this] at hs ⊢; exact .osl _ _ _ _ cap e n h hs hn hm
  | ptr k c => intro hp; have := hβ k hp; rw [← this]; exact .ptr _ c
  | pel k sz i j => intro hp; have := hβ k hp; rw [← this]; exact .pel _ sz i j
  | ipt cs b off u hb hc hv => intro _; exact .ipt cs b off u hb hc hv
  | fn f cap =>
    intro hp
    have hm : (cap.map fun p => Value.pointer (some ⟨β1 p.1, p.2, none⟩)) = (mapC g cap).map fun p => Value.pointer (some ⟨β2 p.1, p.2, none⟩) := by
      rw [mapC_eq, List.map_map]
      refine List.map_congr_left fun q hq => ?_
      have hall : ∀ {cap : List (K × Nat)}, LV.allK.allC p cap = true → ∀ q ∈ cap, p q.1 = true := by
        intro cap
        induction cap with
        | nil => intro _ q hq; cases hq
        | cons y r ih =>
          intro h q hq
          simp only [LV.allK.allC, Bool.and_eq_true] at h
          rcases List.mem_cons.1 hq with rfl | hq
          · exact h.1
          · exact ih h.2 q hq
      simp only [Function.comp]
      rw [hβ q.1 (hall hp q hq)]
    rw [hm]; exact .fn f _
  | mpr k => intro hp; have := hβ k hp; rw [← this]; exact .mpr _
  | ifc t x v _ ih => intro hp; exact .ifc t _ v (ih hp)
  | agg cs vs hl _ h1 ih =>
    intro hp
    refine .agg _ vs (by rw [mapL_eq]; simpa using hl) (fun i x v hx hv => ?_) h1
    rw [mapL_eq, List.getElem?_map] at hx
    cases hc : cs[i]? with
    | none => simp [hc] at hx
    | some y => simp [hc] at hx; rw [← hx]; exact ih i y v hc hv (allL_mem hp y (List.mem_of_getElem? hc))
  | tup cs vs hl _ ih =>
    intro hp
    refine .tup _ vs (by rw [mapL_eq]; simpa using hl) fun i x v hx hv => ?_
    rw [mapL_eq, List.getElem?_map] at hx
    cases hc : cs[i]? with
    | none => simp [hc] at hx
    | some y => simp [hc] at hx; rw [← hx]; exact ih i y v hc hv (allL_mem hp y (List.mem_of_getElem? hc))

theorem ObOK.map {g : K → K} {p : K → Bool} (hβ : ∀ k, p k = true → β2 (g k) = β1 k) (hsub : ∀ k i, g (.sub k i) = .sub (g k) i) {k : K} (hk : p k = true) (hks : ∀ i, p (.sub k i) = true) {o : Ob} (h : ObOK β1 RO w k o) (ho : o.allK p = true) :
    ObOK β2 RO w (g k) (mapO g o) := by
  cases o with
  | row e sz es => obtain ⟨us, cap, h1, h2⟩ := h; exact ⟨us, cap, by rw [hβ k hk]; exact h1, h2⟩
  | box cs =>
    obtain ⟨vs, ety, h1, h2, h3, h4⟩ := h
    refine ⟨vs, ety, by rw [hβ k hk]; exact h1, by simp only [mapL_eq]; simpa using h2, fun i x v hx hv => ?_, h4⟩
    rw [mapL_eq, List.getElem?_map] at hx
    cases hc : cs[i]? with
    | none => simp [hc] at hx
    | some y => simp [hc] at hx; rw [← hx]; exact (h3 i y v hc hv).map hβ (allL_mem ho y (List.mem_of_getElem? hc))
  | grid eo e sz rs =>
    refine h.gridTo (by rw [hβ k hk]) rfl fun i r r' u hi hi' hv => ?_
    rw [hi] at hi'; cases hi'
    cases r with
    | nil => exact hv
    | out => trivial
    | row es =>
      simp only [GrV] at hv ⊢
      rw [← hsub]
      exact hv.map (g := g) hβ (hks i)
  | mp kd kv => obtain ⟨ents, clock, h1, h2⟩ := h; exact ⟨ents, clock, by rw [hβ k hk]; exact h1, h2⟩
  | mit m left =>
    obtain ⟨seen, ents, clock, h1, h2, h3, h4⟩ := h
    have hm := hβ m ho
    exact ⟨seen, ents, clock, by rw [hβ k hk, hm]; exact h1, by rw [hm]; exact h2, by rw [hm]; exact h3, h4⟩

/-! ### What is said of a function -/
def Vals (β : K → Nat) (RO : Nat → Prop) (w : World) (args : List LV) (vals : List Value) : Prop :=
  args.length = vals.length ∧ ∀ (i : Nat) (x : LV) (v : Value), args[i]? = some x → vals[i]? = some v → VL β RO w x v

def entP (β : K → Nat) (RO : Nat → Prop) (w : World) : Ent := { w0 := w, RO0 := RO, Wr := fun _ => False, β0 := β, mv := fun _ => False, fz := true }

def FnOK (P : Program) (f : Nat) : Prop := (P.funcs[f]?).any (fun fn => fn.body.isSome && fn.name != "runtime.NumGoroutine") = true

/-- The call comes back; what was there stands as it stood; 'Post' tells the result and what it owns. -/
structure SpecP (P : Program) (f : Nat) (args : List LV) (out : List Fr) (Post : LV → Fr → Prop) : Prop where
  fn : FnOK P f
  calls : ∀ (β : K → Nat) (RO : Nat → Prop) (w : World) (vals : List Value), WR (entP β RO w) β RO ⟨out, []⟩ w → Vals β RO w args vals →
    Calls P f vals.toArray w fun e w' => ∃ v r ro out' β' RO', e = .returned v ∧ Post r ro ∧ WR (entP β RO w) β' RO' ⟨out', ro⟩ w' ∧ VL β' RO' w' r v

theorem SpecP.mono {f : Nat} {args : List LV} {out : List Fr} {Post Post' : LV → Fr → Prop} (h : SpecP P f args out Post) (hp : ∀ r ro, Post r ro → Post' r ro) : SpecP P f args out Post' :=
  ⟨h.1, fun β RO w vals hw hv => (h.2 β RO w vals hw hv).mono fun _ _ ⟨v, r, ro, out', β', RO', h1, h2, h3⟩ => ⟨v, r, ro, out', β', RO', h1, hp _ _ h2, h3⟩⟩

/-! ### What a call leaves -/
def pl (d s : Nat) : Nat := 1000003 * (d + 1) + s
def plK (d : Nat) : K → K
  | .cur s => .cur (pl d s)
  | .fr i s => .fr i s
  | .sub k i => .sub (plK d k) i
def plC (d : Nat) : Fr → Fr → Fr
  | [], cur => cur
  | (s, o) :: r, cur => (pl d s, mapO (plK d) o) :: plC d r cur

def inFr (ro : Fr) : K → Bool
  | .cur s => match look ro s with
    | some _ => true
    | none => false
  | .fr _ _ => false
  | .sub k _ => inFr ro k

theorem plK_inj {d : Nat} : ∀ {k k' : K}, plK d k = plK d k' → k = k'
  | .cur s, .cur s', h => by simp only [plK, K.cur.injEq, pl] at h ⊢; omega
  | .fr i s, .fr i' s', h => by simpa [plK] using h
  | .sub k i, .sub k' i', h => by
    simp only [plK, K.sub.injEq] at h ⊢
    exact ⟨plK_inj h.1, h.2⟩
  | .cur _, .fr _ _, h | .cur _, .sub _ _, h | .fr _ _, .cur _, h | .fr _ _, .sub _ _, h | .sub _ _, .cur _, h | .sub _ _, .fr _ _, h => by cases h

open Classical in
/-- Where the objects lie, the new ones among them. -/
noncomputable def plB (d : Nat) (ro : Fr) (β β' : K → Nat) : K → Nat := fun k =>
  if h : ∃ k0, k = plK d k0 ∧ inFr ro k0 = true then β' (Classical.choose h) else β k

theorem plB_new {d : Nat} {ro : Fr} {β β' : K → Nat} {k : K} (h : inFr ro k = true) : plB d ro β β' (plK d k) = β' k := by
  have hex : ∃ k0, plK d k = plK d k0 ∧ inFr ro k0 = true := ⟨k, rfl, h⟩
  unfold plB
  rw [dif_pos hex]
  exact congrArg β' (plK_inj (Classical.choose_spec hex).1).symm
theorem plB_old {d : Nat} {ro : Fr} {β β' : K → Nat} {k : K} (h : ∀ k0, inFr ro k0 = true → k ≠ plK d k0) : plB d ro β β' k = β k := by
  unfold plB
  rw [dif_neg]
  rintro ⟨k0, h1, h2⟩
  exact h k0 h2 h1

theorem look_plC (d : Nat) : ∀ (ro cur : Fr) (n : Nat), (∀ s o, look ro s = some o → n = pl d s → look (plC d ro cur) n = some (mapO (plK d) o)) ∧ ((∀ s, (∃ o, look ro s = some o) → n ≠ pl d s) → look (plC d ro cur) n = look cur n)
  | [], cur, n => ⟨fun s o h => by simp [look] at h, fun _ => rfl⟩
  | (s0, o0) :: r, cur, n => by
    obtain ⟨ih1, ih2⟩ := look_plC d r cur n
    refine ⟨fun s o h hn => ?_, fun h => ?_⟩
    · rw [look_cons] at h
      simp only [plC, look_cons]
      by_cases hs : s0 = s
      · subst hs; rw [if_pos rfl] at h; cases h; rw [if_pos hn.symm]
      · rw [if_neg hs] at h
        rw [if_neg (by unfold pl at *; omega)]
        exact ih1 s o h hn
    · simp only [plC, look_cons]
      have h0 := h s0 ⟨o0, by rw [look_cons, if_pos rfl]⟩
      rw [if_neg (Ne.symm h0)]
      refine ih2 fun s ⟨o, hs⟩ => h s ?_
      rw [look_cons]
      by_cases he : s0 = s
      · exact ⟨o0, if_pos he⟩
      · exact ⟨o, by rw [if_neg he]; exact hs⟩

def T.flat : T → Prop
  | .v _ => True
  | .sl true _ [] => True
  | .sl _ _ _ => False
def LV.flat : LV → Prop
  | .t x => x.flat
  | .ipt _ => False
  | .ifc _ x => LV.flat x
  | .agg cs | .tup cs => flatL cs
  | _ => True
where flatL : List LV → Prop
  | [] => True
  | x :: r => LV.flat x ∧ flatL r
def Ob.flat : Ob → Prop
  | .row _ _ es => ∀ el ∈ es, ∀ x ∈ el, x.flat
  | .box cs => LV.flat.flatL cs
  | .grid _ _ _ rs => ∀ es, .row es ∈ rs → ∀ el ∈ es, ∀ x ∈ el, x.flat
  | .mp _ kv => ∀ p ∈ kv, p.2.flat
  | .mit _ _ => False

theorem flatL_mem : ∀ {cs : List LV}, LV.flat.flatL cs → ∀ x ∈ cs, x.flat
  | [], _, x, hx => by cases hx
  | y :: r, h, x, hx => by
    simp only [LV.flat.flatL] at h
    rcases List.mem_cons.1 hx with rfl | hx
    · exact h.1
    · exact flatL_mem h.2 x hx
theorem VT.flat {RO' : Nat → Prop} {x : T} {v : Value} (h : VT RO w x v) (hf : x.flat) : VT RO' w x v := by
  cases h with
  | v _ h => exact .v _ h
  | nil sz => exact .nil sz
  | emp sz => exact (hf : False).elim
  | sl sz es => exact (hf : False).elim
theorem VL.flat {RO' : Nat → Prop} {x : LV} {v : Value} (h : VL β RO w x v) : x.flat → VL β RO' w x v := by
  induction h with
  | bad x => intro _; exact .bad x
  | t x v h => intro hf; exact .t x v (h.flat hf)
  | osl k sz off len cap e n h hs hn hm => intro _; exact .osl k sz off len cap e n h hs hn hm
  | ptr k c => intro _; exact .ptr k c
  | pel k sz i j => intro _; exact .pel k sz i j
  | ipt cs b off u hb hc hv => intro hf; exact hf.elim
  | fn f cap => intro _; exact .fn f cap
  | mpr k => intro _; exact .mpr k
  | ifc t x v _ ih => intro hf; exact .ifc t x v (ih hf)
  | agg cs vs hl _ h1 ih => intro hf; exact .agg cs vs hl (fun i x v hx hv => ih i x v hx hv (flatL_mem hf x (List.mem_of_getElem? hx))) h1
  | tup cs vs hl _ ih => intro hf; exact .tup cs vs hl fun i x v hx hv => ih i x v hx hv (flatL_mem hf x (List.mem_of_getElem? hx))
theorem Flat.flat {RO' : Nat → Prop} {sz : Nat} {es : List (List T)} {us : List Value} (h : Flat RO w sz es us) (hf : ∀ el ∈ es, ∀ x ∈ el, x.flat) : Flat RO' w sz es us :=
  ⟨h.1, fun i e hi => ⟨(h.2 i e hi).1, fun j x hj => let ⟨u, h1, h2⟩ := (h.2 i e hi).2 j x hj; ⟨u, h1, h2.flat (hf e (List.mem_of_getElem? hi) x (List.mem_of_getElem? hj))⟩⟩⟩
theorem ObOK.flat {RO' : Nat → Prop} {k : K} {o : Ob} (h : ObOK β RO w k o) (hf : o.flat) : ObOK β RO' w k o := by
  cases o with
  | row e sz es => obtain ⟨us, cap, h1, h2⟩ := h; exact ⟨us, cap, h1, h2.flat hf⟩
  | box cs => obtain ⟨vs, ety, h1, h2, h3, h4⟩ := h; exact ⟨vs, ety, h1, h2, fun i x v hx hv => (h3 i x v hx hv).flat (flatL_mem hf x (List.mem_of_getElem? hx)), h4⟩
  | grid eo e sz rs =>
    refine h.gridTo rfl rfl fun i r r' u hi hi' hv => ?_
    rw [hi] at hi'; cases hi'
    cases r with
    | nil => exact hv
    | out => trivial
    | row es => exact VL.flat (x := .osl (.sub k i) sz 0 es.length) hv trivial
  | mp kd kv => obtain ⟨ents, clock, h1, h2, hk, h3, h4⟩ := h; exact ⟨ents, clock, h1, h2, hk, fun i p m hp hm => ⟨(h3 i p m hp hm).1, (h3 i p m hp hm).2.flat (hf p (List.mem_of_getElem? hp))⟩, h4⟩
  | mit m l =>
    exact hf.elim
theorem ObOK.ro {RO' : Nat → Prop} (hro : ∀ b, RO b → RO' b) {k : K} {o : Ob} (h : ObOK β RO w k o) : ObOK β RO' w k o :=
  h.keep hro (fun _ _ => rfl) rfl rfl (fun _ _ _ _ _ hv => hv.ro hro) (fun _ _ _ _ _ _ _ _ => ⟨rfl, fun _ h => h⟩) fun _ _ _ => ⟨rfl, rfl⟩

/-! ### Data that does not lie in blocks without cells -/
theorem VT.out {RO' M : Nat → Prop} (hM : ∀ b, M b → ∀ o, w.cell? ⟨b, o, none⟩ = none) (hro : ∀ b, RO b → RO' b ∨ M b) {x : T} {v : Value} (h : VT RO w x v) : VT RO' w x v := by
  induction h with
  | v x h => exact .v x h
  | nil sz => exact .nil sz
  | emp sz a c hc => exact .emp sz a c hc
  | sl sz es b off c u hb hc hm hsz hcell _ ih =>
    refine .sl sz es b off c u (fun ⟨i, e, j, x, hi, hj⟩ => ?_) hc hm hsz hcell ih
    rcases hro b (hb ⟨i, e, j, x, hi, hj⟩) with h | h
    · exact h
    · have := hcell i e j x hi hj; rw [hM b h] at this; cases this
/-- No pointer into closed data. -/
def LV.ipB : LV → Bool
  | .ipt _ => false
  | .ifc _ x => LV.ipB x
  | .agg cs | .tup cs => ipL cs
  | _ => true
where ipL : List LV → Bool
  | [] => true
  | x :: r => LV.ipB x && ipL r
def Ob.ipB : Ob → Bool
  | .box cs => LV.ipB.ipL cs
  | .mit _ _ => false
  | _ => true
theorem ipL_mem : ∀ {cs : List LV}, LV.ipB.ipL cs = true → ∀ x ∈ cs, x.ipB = true
  | [], _, x, hx => by cases hx
  | y :: r, h, x, hx => by
    simp only [LV.ipB.ipL, Bool.and_eq_true] at h
    rcases List.mem_cons.1 hx with rfl | hx
    · exact h.1
    · exact ipL_mem h.2 x hx
theorem VL.out {RO' M : Nat → Prop} (hM : ∀ b, M b → ∀ o, w.cell? ⟨b, o, none⟩ = none) (hro : ∀ b, RO b → RO' b ∨ M b) {x : LV} {v : Value} (h : VL β RO w x v) : x.ipB = true → VL β RO' w x v := by
  induction h with
  | bad x => intro _; exact .bad x
  | t x v h => intro _; exact .t x v (h.out hM hro)
  | osl k sz off len cap e n h hs hn hm => intro _; exact .osl k sz off len cap e n h hs hn hm
  | ptr k c => intro _; exact .ptr k c
  | pel k sz i j => intro _; exact .pel k sz i j
  | ipt cs b off u hb hc hv => intro hf; cases hf
  | fn f cap => intro _; exact .fn f cap
  | mpr k => intro _; exact .mpr k
  | ifc t x v _ ih => intro hf; exact .ifc t x v (ih hf)
  | agg cs vs hl _ h1 ih => intro hf; exact .agg cs vs hl (fun i x v hx hv => ih i x v hx hv (ipL_mem hf x (List.mem_of_getElem? hx))) h1
  | tup cs vs hl _ ih => intro hf; exact .tup cs vs hl fun i x v hx hv => ih i x v hx hv (ipL_mem hf x (List.mem_of_getElem? hx))
theorem ObOK.out {RO' M : Nat → Prop} (hM : ∀ b, M b → ∀ o, w.cell? ⟨b, o, none⟩ = none) (hro : ∀ b, RO b → RO' b ∨ M b) {k : K} {o : Ob} (h : ObOK β RO w k o) (hf : o.ipB = true) : ObOK β RO' w k o := by
  cases o with
  | row e sz es => obtain ⟨us, cap, h1, h2⟩ := h; exact ⟨us, cap, h1, h2.1, fun i e hi => ⟨(h2.2 i e hi).1, fun j x hj => let ⟨u, g1, g2⟩ := (h2.2 i e hi).2 j x hj; ⟨u, g1, g2.out hM hro⟩⟩⟩
  | box cs => obtain ⟨vs, ety, h1, h2, h3, h4⟩ := h; exact ⟨vs, ety, h1, h2, fun i x v hx hv => (h3 i x v hx hv).out hM hro (ipL_mem hf x (List.mem_of_getElem? hx)), h4⟩
  | grid eo e sz rs =>
    refine h.gridTo rfl rfl fun i r r' u hi hi' hv => ?_
    rw [hi] at hi'; cases hi'
    cases r with
    | nil => exact hv
    | out => trivial
    | row es => exact VL.out (x := .osl (.sub k i) sz 0 es.length) hM hro hv rfl
  | mp kd kv => obtain ⟨ents, clock, h1, h2, hk, h3, h4⟩ := h; exact ⟨ents, clock, h1, h2, hk, fun i p m hp hm => ⟨(h3 i p m hp hm).1, (h3 i p m hp hm).2.out hM hro⟩, h4⟩
  | mit m l => cases hf

theorem inFr_root {ro : Fr} {d : Nat} : ∀ {k : K}, inFr ro k = true → ∃ s o, look ro s = some o ∧ K.under (.cur (pl d s)) (plK d k) = true ∧ k.isFr = false
  | .cur s, h => by
    simp only [inFr] at h
    split at h
    · rename_i o ho; exact ⟨s, o, ho, K.under_self _, rfl⟩
    · cases h
  | .fr i s, h => by cases h
  | .sub k i, h => by
    obtain ⟨s, o, h1, h2, h3⟩ := inFr_root (d := d) (k := k) (by simpa [inFr] using h)
    exact ⟨s, o, h1, by simp only [plK, K.under, h2, Bool.or_true], h3⟩

theorem plC_get {d : Nat} {ro : Fr} {st : St} {out' : List Fr} {k : K} {o : Ob} (h : St.get ⟨st.out, plC d ro st.cur⟩ k = some o) :
    (∃ k0 o0, k = plK d k0 ∧ inFr ro k0 = true ∧ St.get ⟨out', ro⟩ k0 = some o0 ∧ o = mapO (plK d) o0) ∨ ((∀ k0, inFr ro k0 = true → k ≠ plK d k0) ∧ st.get k = some o) := by
  have hcur : ∀ (n : Nat) (o : Ob), look (plC d ro st.cur) n = some o → (∃ s o0, n = pl d s ∧ look ro s = some o0 ∧ o = mapO (plK d) o0) ∨ ((∀ s, (∃ o, look ro s = some o) → n ≠ pl d s) ∧ look st.cur n = some o) := by
    intro n o ho
    obtain ⟨h1, h2⟩ := look_plC d ro st.cur n
    by_cases hex : ∃ s o0, look ro s = some o0 ∧ n = pl d s
    · obtain ⟨s, o0, hs, hn⟩ := hex
      rw [h1 s o0 hs hn] at ho
      exact .inl ⟨s, o0, hn, hs, (Option.some.inj ho).symm⟩
    · have hno : ∀ s, (∃ o, look ro s = some o) → n ≠ pl d s := fun s ⟨o, hs⟩ hn => hex ⟨s, o, hs, hn⟩
      rw [h2 hno] at ho
      exact .inr ⟨hno, ho⟩
  cases k with
  | cur n =>
    rcases hcur n o h with ⟨s, o0, rfl, hs, rfl⟩ | ⟨hno, ho⟩
    · exact .inl ⟨.cur s, o0, rfl, by simp only [inFr, hs], hs, rfl⟩
    · refine .inr ⟨fun k0 hk0 he => ?_, ho⟩
      cases k0 with
      | cur s =>
        simp only [inFr] at hk0
        split at hk0
        · rename_i o2 ho2; exact hno s ⟨o2, ho2⟩ (by simpa [plK] using he)
        · cases hk0
      | fr => cases hk0
      | sub => cases he
  | fr i s => exact .inr ⟨(fun k0 hk0 he => by cases k0 <;> first | (cases hk0; done) | (cases he; done)), h⟩
  | sub k i =>
    obtain ⟨eo, e, sz, rs, es, hg, hi, rfl⟩ := St.get_sub h
    cases k with
    | cur n =>
      rcases hcur n _ hg with ⟨s, o0, rfl, hs, h2⟩ | ⟨hno, ho⟩
      · refine .inl ⟨.sub (.cur s) i, .row e sz es, rfl, by simp only [inFr, hs], ?_, rfl⟩
        cases o0 <;> simp only [mapO, reduceCtorEq] at h2
        simp only [St.get, hs, ← h2, hi]
      · refine .inr ⟨fun k0 hk0 he => ?_, by simp only [St.get, ho, hi]⟩
        cases k0 with
        | cur => cases he
        | fr => cases he
        | sub k1 j =>
          simp only [plK, K.sub.injEq] at he
          cases k1 with
          | cur s =>
            simp only [inFr] at hk0
            split at hk0
            · rename_i o2 ho2; exact hno s ⟨o2, ho2⟩ (by simpa [plK] using he.1)
            · cases hk0
          | fr => cases hk0
          | sub => cases he.1
    | fr j n => exact .inr ⟨(fun k0 hk0 he => by
        cases k0 with
        | cur => cases he
        | fr => cases he
        | sub k1 j =>
          simp only [plK, K.sub.injEq] at he
          cases k1 with
          | cur s => cases he.1
          | fr => cases hk0
          | sub => cases he.1), by have hg' : st.get (.fr j n) = _ := hg; simp only [St.get] at hg' ⊢; simp only [hg', hi]⟩
    | sub k2 j => have := St.root_of_get_grid hg; cases this

theorem after_call {d : Nat} {βc β' : K → Nat} {ROc RO'' : Nat → Prop} {out' : List Fr} {ro : Fr} {r : LV} {v : Value} (h : SR E N β RO env st a w) (hw : WR (entP βc ROc w) β' RO'' ⟨out', ro⟩ w') (hr : VL β' RO'' w' r v)
    (hfresh : ∀ s o, look ro s = some o → freshB env st.cur (pl d s) = true) (hk : r.allK (inFr ro) = true) (hko : ∀ s o, look ro s = some o → o.allK (inFr ro) = true)
    (hRO : (∀ b, RO'' b → RO b ∨ w.heap.size ≤ b) ∨ (r.flat ∧ ∀ k o, inFr ro k = true → St.get ⟨out', ro⟩ k = some o → o.flat)) :
    ∃ β2 RO2, SR E N β2 RO2 env ⟨st.out, plC d ro st.cur⟩ a w' ∧ VL β2 RO2 w' (mapV (plK d) r) v := by
  have hb : ∀ b, b < w.heap.size → w'.heap[b]? = w.heap[b]? := fun b hlt => hw.keep b hlt (fun h => h)
  have hst : Step w w' := ⟨hw.os, hw.tape, hw.output, hw.size⟩
  have hcan : ∀ k, k.isFr = false → (entP βc ROc w).can k := fun k hf h => by rw [hf] at h; cases h
  have hβnew : ∀ k, inFr ro k = true → plB d ro β β' (plK d k) = β' k := fun k hk => plB_new hk
  have hold : ∀ (k : K), (∀ k0, inFr ro k0 = true → k ≠ plK d k0) → plB d ro β β' k = β k := fun k hk => plB_old hk
  have hro2 : ∀ b, RO b → RO b ∨ (RO'' b ∧ w.heap.size ≤ b) := fun b hb => .inl hb
  -- values that were there
  have hval : ∀ (x : LV) (u : Value), (∀ s o, look ro s = some o → x.has (.cur (pl d s)) = false) → VL β RO w x u → VL (plB d ro β β') (fun b => RO b ∨ (RO'' b ∧ w.heap.size ≤ b)) w' x u := by
    intro x u hno hx
    refine hx.mono hro2 (fun b hb' => hb b (h.wr.roLt b hb')) (fun k => ∀ k0, inFr ro k0 = true → k ≠ plK d k0) (fun k hk => ⟨hold k hk, fun r hr => (shape_of_block (hb _ (lt_of_shape hr))).trans hr⟩) ?_
    rintro k hk k0 hk0 rfl
    obtain ⟨s, o, hs, hu, _⟩ := inFr_root (d := d) hk0
    have := LV.has_trans hu hk
    rw [hno s o hs] at this; cases this
  -- new blocks
  have hnewB : ∀ k o, inFr ro k = true → St.get ⟨out', ro⟩ k = some o → w.heap.size ≤ β' k ∧ ¬ RO'' (β' k) := by
    intro k o hk ho
    obtain ⟨_, _, _, _, hf⟩ := inFr_root (d := d) hk
    exact ⟨(hw.objNew k o ho (hcan k hf)).elim False.elim id, hw.sep k o ho (hcan k hf)⟩
  have hnewV : ∀ (x : LV) (u : Value), x.allK (inFr ro) = true → ((∀ b, RO'' b → RO b ∨ w.heap.size ≤ b) ∨ x.flat) → VL β' RO'' w' x u → VL (plB d ro β β') (fun b => RO b ∨ (RO'' b ∧ w.heap.size ≤ b)) w' (mapV (plK d) x) u := by
    intro x u hk hR hx
    refine VL.map hβnew ?_ hk
    rcases hR with hR | hR
    · exact hx.ro fun b hb' => (hR b hb').imp id fun h => ⟨hb', h⟩
    · exact hx.flat hR
  have hnoE : ∀ n x, look env n = some x → ∀ s o, look ro s = some o → x.has (.cur (pl d s)) = false := fun n x hx s o hs => (h.fresh (hfresh s o hs)).2 n x hx
  refine ⟨plB d ro β β', fun b => RO b ∨ (RO'' b ∧ w.heap.size ≤ b), ⟨⟨hst.os.trans h.wr.os, hst.tape.trans h.wr.tape, hst.output.trans h.wr.output, Nat.le_trans h.wr.size hst.size, fun b hlt hnw => ?_, fun b hb' => ?_, fun b hb' => .inl (h.wr.ro0 b hb'), fun b hb' => ?_, fun k o hk => ?_, fun k o hk hc => ?_, fun k k' o o' hk hk' hc hc' he => ?_, fun k o hk hc => ?_, fun k o hk hc => ?_, fun k hk hnm => ?_⟩, h.size, h.defers, fun n x hx => ?_⟩, hnewV r v hk (hRO.imp id And.left) hr⟩
  · rw [hb b (Nat.lt_of_lt_of_le hlt h.wr.size)]; exact h.wr.keep b hlt hnw
  · rcases hb' with hb' | ⟨hb', _⟩
    · exact Nat.lt_of_lt_of_le (h.wr.roLt b hb') hst.size
    · exact hw.roLt b hb'
  · rcases hb' with hb' | ⟨_, hb'⟩
    · exact h.wr.roNew b hb'
    · exact .inr (.inl (Nat.le_trans h.wr.size hb'))
  · rcases plC_get (out' := out') hk with ⟨k0, o0, rfl, h0, hg, rfl⟩ | ⟨hne, hg⟩
    · obtain ⟨s, os, hs, hu, hf⟩ := inFr_root (d := d) h0
      have hall : o0.allK (inFr ro) = true := by
        cases k0 with
        | cur s => exact hko s o0 hg
        | fr => cases h0
        | sub k i => obtain ⟨_, _, _, _, _, _, _, rfl⟩ := St.get_sub hg; rfl
      refine ObOK.map hβnew (fun _ _ => rfl) h0 (fun i => by simpa [inFr] using h0) ?_ hall
      have hok := hw.obj k0 o0 hg
      rcases hRO with hR | ⟨_, hR⟩
      · exact hok.ro fun b hb' => (hR b hb').imp id fun h => ⟨hb', h⟩
      · exact hok.flat (hR k0 o0 h0 hg)
    · have hok := h.wr.obj k o hg
      have hno : ∀ s o2, look ro s = some o2 → o.has (.cur (pl d s)) = false := fun s o2 hs => (h.fresh (hfresh s o2 hs)).1 k o hg
      refine hok.keep hro2 (fun b hb' => hb b (h.wr.roLt b hb')) (hold k hne) (hb _ hok.lt) (fun cs hcs x hx u hu => ?_) (fun eo e sz rs ho i es hi => ⟨hold _ fun k0 hk0 he => ?_, fun r hr => (shape_of_block (hb _ (lt_of_shape hr))).trans hr⟩) fun m left ho => ?_
      · exact hval x u (fun s o2 hs => by have := hno s o2 hs; rw [hcs] at this; exact hasL_mem this x hx) hu
      · cases k0 with
        | cur => cases he
        | fr => cases he
        | sub k1 j =>
          simp only [plK, K.sub.injEq] at he
          exact hne k1 (by simpa [inFr] using hk0) he.1
      · subst ho
        obtain ⟨_, ents, clock, _, h2, _⟩ := hok
        refine ⟨hold m fun k0 hk0 he => ?_, hb _ (lt_of_heap h2)⟩
        obtain ⟨s, o2, hs, hu, _⟩ := inFr_root (d := d) hk0
        have := hno s o2 hs
        simp only [Ob.has] at this
        rw [he, hu] at this; cases this
  · rcases plC_get (out' := out') hk with ⟨k0, o0, rfl, h0, hg, rfl⟩ | ⟨hne, hg⟩
    · rw [hβnew k0 h0]; exact .inr (Nat.le_trans h.wr.size (hnewB k0 o0 h0 hg).1)
    · rw [hold k hne]; exact h.wr.objNew k o hg hc
  · rcases plC_get (out' := out') hk with ⟨k0, o0, rfl, h0, hg, rfl⟩ | ⟨hne, hg⟩ <;> rcases plC_get (out' := out') hk' with ⟨k1, o1, rfl, h1, hg1, rfl⟩ | ⟨hne1, hg1⟩
    · rw [hβnew k0 h0, hβnew k1 h1] at he
      obtain ⟨_, _, _, _, hf0⟩ := inFr_root (d := d) h0
      obtain ⟨_, _, _, _, hf1⟩ := inFr_root (d := d) h1
      exact congrArg _ (hw.inj k0 k1 o0 o1 hg hg1 (hcan k0 hf0) (hcan k1 hf1) he)
    · rw [hβnew k0 h0, hold k' hne1] at he
      have := (h.wr.obj k' o' hg1).lt
      have := (hnewB k0 o0 h0 hg).1
      omega
    · rw [hβnew k1 h1, hold k hne] at he
      have := (h.wr.obj k o hg).lt
      have := (hnewB k1 o1 h1 hg1).1
      omega
    · rw [hold k hne, hold k' hne1] at he
      exact h.wr.inj k k' o o' hg hg1 hc hc' he
  · rcases plC_get (out' := out') hk with ⟨k0, o0, rfl, h0, hg, rfl⟩ | ⟨hne, hg⟩
    · rw [hβnew k0 h0]
      obtain ⟨h1, h2⟩ := hnewB k0 o0 h0 hg
      rintro (hb' | ⟨hb', _⟩)
      · have := h.wr.roLt _ hb'; omega
      · exact h2 hb'
    · rw [hold k hne]
      have := (h.wr.obj k o hg).lt
      rintro (hb' | ⟨_, hb'⟩)
      · exact h.wr.sep k o hg hc hb'
      · omega
  · rcases plC_get (out' := out') hk with ⟨k0, o0, rfl, h0, hg, rfl⟩ | ⟨hne, hg⟩
    · obtain ⟨_, _, _, _, hf0⟩ := inFr_root (d := d) h0
      refine absurd ?_ hc
      intro hf
      exfalso
      have : ∀ k : K, (plK d k).isFr = k.isFr := fun k => by induction k <;> simp_all [plK, K.isFr]
      rw [this, hf0] at hf; cases hf
    · rw [hold k hne]; exact .inl (h.wr.fzRO k o hg hc)
  · rw [hold k fun k0 hk0 he => ?_]
    · exact h.wr.stay k hk hnm
    · obtain ⟨_, _, _, _, hf0⟩ := inFr_root (d := d) hk0
      have : ∀ k : K, (plK d k).isFr = k.isFr := fun k => by induction k <;> simp_all [plK, K.isFr]
      rw [he, this, hf0] at hk; cases hk
  · obtain ⟨u, h1, h2⟩ := h.env n x hx
    exact ⟨u, h1, hval x u (hnoE n x hx) h2⟩

end
end Go.Fw

/- The value logic, part 13: a call of a function by what is said of it. -/
namespace Go.Fw
open Go

def lowK : K → K
  | .cur s => .cur s
  | .fr 0 s => .cur s
  | .fr (i + 1) s => .fr i s
  | .sub k i => .sub (lowK k) i
theorem lowK_lift : ∀ k : K, lowK (liftK 1 k) = k
  | .cur _ => rfl
  | .fr _ _ => rfl
  | .sub k i => by simp only [liftK, lowK, lowK_lift k]
theorem liftK_lift (n m : Nat) : ∀ k : K, liftK n (liftK m k) = liftK (m + n) k
  | .cur s => by
    cases m with
    | zero => simp [liftK]
    | succ m =>
      have : m + 1 + n = (m + n) + 1 := by omega
      rw [this]; rfl
  | .fr i s => by simp only [liftK, Nat.add_assoc]
  | .sub k i => by simp only [liftK, liftK_lift n m k]
theorem mapC_comp (g h : K → K) : ∀ cap, mapC g (mapC h cap) = mapC (fun k => g (h k)) cap
  | [] => rfl
  | p :: r => by simp only [mapC, mapC_comp g h r]
mutual
theorem mapV_comp (g h : K → K) : ∀ x, mapV g (mapV h x) = mapV (fun k => g (h k)) x
  | .bad | .t _ | .ipt _ => rfl
  | .osl _ _ _ _ | .ptr _ _ | .pel _ _ _ _ | .mpr _ => rfl
  | .fn f cap => by simp only [mapV, mapC_comp]
  | .ifc t x => by simp only [mapV, mapV_comp g h x]
  | .agg cs | .tup cs => by simp only [mapV, mapL_comp g h cs]
theorem mapL_comp (g h : K → K) : ∀ cs, mapV.mapL g (mapV.mapL h cs) = mapV.mapL (fun k => g (h k)) cs
  | [] => rfl
  | x :: r => by simp only [mapV.mapL, mapV_comp g h x, mapL_comp g h r]
end
theorem liftO_lift (n m : Nat) (o : Ob) : liftO n (liftO m o) = liftO (m + n) o := by
  have e : (fun k => liftK n (liftK m k)) = liftK (m + n) := funext (liftK_lift n m)
  cases o with
  | box cs => simp only [liftO, mapO, mapL_comp, e]
  | mit m l => simp only [liftO, mapO, liftK_lift]
  | _ => rfl

section
variable {P : Program} {E : Ent} {N : Nat} {β : K → Nat} {RO : Nat → Prop} {env : Env} {st : St} {a : Act} {w w' : World}

theorem enter_get {k : K} {o : Ob} (h : St.get ⟨st.cur :: st.out, []⟩ k = some o) : ∃ o0, st.get (lowK k) = some o0 ∧ o = liftO 1 o0 ∧ k = liftK 1 (lowK k) := by
  have root : ∀ k o, k.root = true → St.get ⟨st.cur :: st.out, []⟩ k = some o → ∃ o0, st.get (lowK k) = some o0 ∧ o = liftO 1 o0 ∧ k = liftK 1 (lowK k) := by
    intro k o hr h
    cases k with
    | cur s => simp [St.get, look] at h
    | fr i s =>
      cases i with
      | zero =>
        simp only [St.get, List.getElem?_cons_zero] at h
        split at h
        · rename_i o0 ho; cases h; exact ⟨o0, ho, rfl, rfl⟩
        · cases h
      | succ i =>
        simp only [St.get, List.getElem?_cons_succ] at h
        split at h
        · rename_i fr hf
          split at h
          · rename_i o0 ho
            cases h
            refine ⟨liftO (i + 1) o0, by simp only [lowK, St.get, hf, ho], (liftO_lift 1 (i + 1) o0).symm, rfl⟩
          · cases h
        · cases h
    | sub => cases hr
  cases k with
  | sub k i =>
    obtain ⟨eo, e, sz, rs, es, hg, hi, rfl⟩ := St.get_sub h
    obtain ⟨o0, h1, h2, h3⟩ := root k _ (St.root_of_get_grid hg) hg
    cases o0 <;> simp only [liftO, mapO, reduceCtorEq] at h2
    cases h2
    exact ⟨.row e sz es, by simp only [lowK, St.get, h1, hi], rfl, by simp only [lowK, liftK, ← h3]⟩
  | cur s => exact root _ _ rfl h
  | fr i s => exact root _ _ rfl h

/-- What the caller's own objects add to what may be read for ever, while the callee runs. -/
def ownRO (E : Ent) (β : K → Nat) (RO : Nat → Prop) (st : St) (b : Nat) : Prop := RO b ∨ ∃ k o, st.get k = some o ∧ E.can k ∧ b = β k

theorem allTrue : (∀ x : LV, x.allK (fun _ => true) = true) ∧ (∀ cs : List LV, LV.allK.allL (fun _ => true) cs = true) := by
  have hc : ∀ cap : List (K × Nat), LV.allK.allC (fun _ => true) cap = true := by
    intro cap; induction cap with
    | nil => rfl
    | cons p r ih => simp [LV.allK.allC, ih]
  have h : ∀ x : LV, x.allK (fun _ => true) = true := by
    intro x
    induction x using LV.rec (motive_2 := fun cs => LV.allK.allL (fun _ => true) cs = true) with
    | agg cs ih => exact ih
    | tup cs ih => exact ih
    | fn f cap => exact hc cap
    | ifc t x ih => exact ih
    | nil => rfl
    | cons x r ihx ihr => simp only [LV.allK.allL, ihx, ihr, Bool.and_self]
    | _ => rfl
  refine ⟨h, fun cs => ?_⟩
  induction cs with
  | nil => rfl
  | cons x r ih => simp only [LV.allK.allL, h x, ih, Bool.and_self]

theorem enter_wr (h : WR E β RO st w) : WR (entP (fun k => β (lowK k)) (ownRO E β RO st) w) (fun k => β (lowK k)) (ownRO E β RO st) ⟨st.cur :: st.out, []⟩ w := by
  have hnc : ∀ k o, St.get ⟨st.cur :: st.out, []⟩ k = some o → ¬ (entP (fun k => β (lowK k)) (ownRO E β RO st) w).can k := by
    intro k o hk hc
    have hf : k.isFr = true := by
      obtain ⟨_, _, _, h3⟩ := enter_get hk
      rw [h3]
      have : ∀ q : K, (liftK 1 q).isFr = true := fun q => by
        induction q with
        | cur => rfl
        | fr => rfl
        | sub q i ih => exact ih
      exact this _
    have := hc hf
    cases this
  refine ⟨rfl, rfl, rfl, Nat.le_refl _, fun _ _ _ => rfl, fun b hb => ?_, fun _ h => h, fun _ h => .inl h, fun k o hk => ?_, fun k o hk hc => absurd hc (hnc k o hk), fun k k' o o' hk hk' hc => absurd hc (hnc k o hk), fun k o hk hc => absurd hc (hnc k o hk), fun k o hk _ => ?_, fun _ _ _ => rfl⟩
  · rcases hb with hb | ⟨k, o, hk, _, rfl⟩
    · exact h.roLt b hb
    · exact (h.obj k o hk).lt
  · obtain ⟨o0, h1, rfl, h3⟩ := enter_get hk
    have := (h.obj _ o0 h1).ro (RO' := ownRO E β RO st) fun b hb => .inl hb
    rw [h3]
    refine ObOK.map (p := fun _ => true) (β2 := fun k => β (lowK k)) (fun k _ => by simp only [lowK_lift]) (fun _ _ => rfl) rfl (fun _ => rfl) this ?_
    cases o0 with
    | box cs => exact allTrue.2 cs
    | _ => rfl
  · obtain ⟨o0, h1, _, _⟩ := enter_get hk
    by_cases hc : E.can (lowK k)
    · exact .inr ⟨_, o0, h1, hc, rfl⟩
    · exact .inl (h.fzRO _ o0 h1 hc)

theorem bare_wr (h : WR E β RO st w) : WR (entP β RO w) β RO ⟨[], []⟩ w := by
  have hno : ∀ k o, St.get ⟨[], []⟩ k = some o → False := by
    intro k
    induction k with
    | cur s => intro o h; simp [St.get, look] at h
    | fr i s => intro o h; simp [St.get] at h
    | sub k i ih => intro o h; obtain ⟨_, _, _, _, _, hg, _⟩ := St.get_sub h; exact ih _ hg
  exact ⟨rfl, rfl, rfl, Nat.le_refl _, fun _ _ _ => rfl, h.roLt, fun _ h => h, fun _ h => .inl h, fun k o hk => (hno k o hk).elim, fun k o hk => (hno k o hk).elim, fun k _ o _ hk => (hno k o hk).elim, fun k o hk => (hno k o hk).elim, fun k o hk => (hno k o hk).elim, fun _ _ _ => rfl⟩

end
end Go.Fw

/- The value logic, part 14: what is asked of a call. -/
namespace Go.Fw
open Go

def noK (_ : K) : Bool := false

/-- Own rows among the arguments are handed on to be read. -/
def borC (st : St) : List LV → List LV → (List LV → Prop) → Prop
  | [], acc, F => F acc
  | .osl k sz off len :: r, acc, F => getW st k fun o => match o with
    | .row _ sz' es => match Nat.beq sz sz' with
      | true => ∃ xs, xs = (es.drop off).take len ∧ off + len ≤ es.length ∧ borC st r (acc ++ [.t (.sl false sz xs)]) F
      | false => False
    | _ => False
  | x :: r, acc, F => borC st r (acc ++ [x]) F
def borW (st : St) : List LV → List LV → (List LV → Prop) → Prop
  | [], acc, F => F acc
  | .agg cs :: r, acc, F => borC st cs [] fun cs' => borW st r (acc ++ [.agg cs']) F
  | .osl k sz off len :: r, acc, F => borC st [.osl k sz off len] [] fun cs' => borW st r (acc ++ cs') F
  | x :: r, acc, F => borW st r (acc ++ [x]) F

def okFr (ro : Fr) (env : List (Nat × LV)) (cur : Fr) (d : Nat) : Fr → Bool
  | [] => true
  | (s, o) :: r => match o.allK (inFr ro), freshB env cur (pl d s) with
    | true, true => okFr ro env cur d r
    | _, _ => false
def flatFr : Fr → Prop
  | [] => True
  | (_, o) :: r => o.flat ∧ flatFr r

def plW (env : Env) (st : St) (d : Nat) (r : LV) (ro : Fr) (K' : LV → Env → St → Prop) : Prop :=
  match r.allK (inFr ro), okFr ro env st.cur d ro with
  | true, true => K' (mapV (plK d) r) env ⟨st.out, plC d ro st.cur⟩
  | _, _ => False

/-- Maps alone among the arguments: what comes back does not lie in them. -/
def mapA : List LV → Bool
  | [] => true
  | x :: r => match x with
    | .mpr k => match k with
      | .cur _ => mapA r
      | _ => false
    | x => match x.allK noK with
      | true => mapA r
      | false => false
def mapFr (cur : Fr) : List LV → Fr
  | [] => []
  | x :: r => match x with
    | .mpr k => match k with
      | .cur s => match look cur s with
        | some o => match o with
          | .mp kd kv => (s, .mp kd kv) :: mapFr cur r
          | _ => mapFr cur r
        | none => mapFr cur r
      | _ => mapFr cur r
    | _ => mapFr cur r
def ipFr : Fr → Bool
  | [] => true
  | p :: r => match p.2.ipB with
    | true => ipFr r
    | false => false
def mapPW (env : Env) (st : St) (d : Nat) (r : LV) (ro : Fr) (K' : LV → Env → St → Prop) : Prop := match r.ipB with
  | true => match ipFr ro with
    | true => plW env st d r ro K'
    | false => False
  | false => False

def callW (P : Program) (env : Env) (st : St) (d f : Nat) (args : List LV) (K' : LV → Env → St → Prop) : Prop :=
  match LV.allK.allL noK args with
  | true => SpecP P f args [] fun r ro => plW env st d r ro K'
  | false => match mapA args with
    | true => SpecP P f (liftL 1 args) [mapFr st.cur args] fun r ro => mapPW env st d r ro K'
    | false => borW st args [] fun args => SpecP P f (liftL 1 args) (st.cur :: st.out) fun r ro => r.flat ∧ flatFr ro ∧ plW env st d r ro K'

def capArgs (cap : List (K × Nat)) : List LV := cap.map fun p => .ptr p.1 p.2

section
variable {P : Program} {E : Ent} {N : Nat} {β : K → Nat} {RO : Nat → Prop} {env : Env} {st : St} {a : Act} {w w' : World}

theorem okFr_look {ro : Fr} {cur : Fr} {d : Nat} : ∀ {l : Fr}, okFr ro env cur d l = true → ∀ s o, look l s = some o → o.allK (inFr ro) = true ∧ freshB env cur (pl d s) = true
  | [], _, s, o, h => by simp [look] at h
  | (m, y) :: r, h, s, o, hs => by
    simp only [okFr] at h
    split at h
    · rename_i h1 h2
      rw [look_cons] at hs
      split at hs
      · rename_i hm; cases hs; subst hm; exact ⟨h1, h2⟩
      · exact okFr_look h s o hs
    · cases h
theorem flatFr_look : ∀ {l : Fr}, flatFr l → ∀ s o, look l s = some o → o.flat
  | [], _, s, o, h => by simp [look] at h
  | (m, y) :: r, h, s, o, hs => by
    rw [look_cons] at hs
    split at hs
    · cases hs; exact h.1
    · exact flatFr_look h.2 s o hs

theorem Vals.snoc {args : List LV} {vals : List Value} {x : LV} {v : Value} (h : Vals β RO w args vals) (hx : VL β RO w x v) : Vals β RO w (args ++ [x]) (vals ++ [v]) := by
  refine ⟨by simp [h.1], fun i y u hy hu => ?_⟩
  by_cases hi : i < args.length
  · rw [List.getElem?_append_left hi] at hy
    rw [List.getElem?_append_left (h.1 ▸ hi)] at hu
    exact h.2 i y u hy hu
  · rw [List.getElem?_append_right (by omega)] at hy
    rw [List.getElem?_append_right (by rw [← h.1]; omega), ← h.1] at hu
    have : i - args.length = 0 := by have := (List.getElem?_eq_some_iff.1 hy).1; simp at this; omega
    rw [this] at hy hu
    simp at hy hu
    rw [← hy, ← hu]; exact hx
theorem Vals.tail {x : LV} {r : List LV} {v : Value} {vs : List Value} (h : Vals β RO w (x :: r) (v :: vs)) : VL β RO w x v ∧ Vals β RO w r vs :=
  ⟨h.2 0 x v rfl rfl, by simpa using h.1, fun i y u hy hu => h.2 (i + 1) y u (by simpa using hy) (by simpa using hu)⟩
theorem Vals.ro {RO' : Nat → Prop} (hro : ∀ b, RO b → RO' b) {args : List LV} {vals : List Value} (h : Vals β RO w args vals) : Vals β RO' w args vals :=
  ⟨h.1, fun i x v hx hv => (h.2 i x v hx hv).ro hro⟩

theorem borC_gives (h : WR E β RO st w) {F : List LV → Prop} : ∀ {args : List LV} {vals : List Value} {acc : List LV} {us : List Value}, Vals β (ownRO E β RO st) w args vals → Vals β (ownRO E β RO st) w acc us → borC st args acc F →
    ∃ args', F args' ∧ Vals β (ownRO E β RO st) w args' (us ++ vals)
  | [], vals, acc, us, hv, ha, hW => by
    have : vals = [] := List.eq_nil_of_length_eq_zero hv.1.symm
    subst this
    exact ⟨acc, hW, by simpa using ha⟩
  | x :: r, [], acc, us, hv, ha, hW => by have := hv.1; simp at this
  | x :: r, v :: vs, acc, us, hv, ha, hW => by
    obtain ⟨hx, hr⟩ := hv.tail
    have next : ∀ {y : LV}, VL β (ownRO E β RO st) w y v → borC st r (acc ++ [y]) F → ∃ args', F args' ∧ Vals β (ownRO E β RO st) w args' (us ++ v :: vs) := by
      intro y hy hW
      obtain ⟨args', h1, h2⟩ := borC_gives h hr (ha.snoc hy) hW
      exact ⟨args', h1, by simpa using h2⟩
    cases x with
    | osl k sz off len =>
      simp only [borC] at hW
      obtain ⟨o, hk, hG⟩ := getW_gives hW
      clear hW
      split at hG
      · rename_i e sz' es
        split at hG
        · rename_i hsz
          simp at hsz
          subst hsz
          obtain ⟨xs, rfl, hl, hW⟩ := hG
          have hkro : ownRO E β RO st (β k) := by
            by_cases hc : E.can k
            · exact .inr ⟨k, _, hk, hc, rfl⟩
            · exact .inl (h.fzRO k _ hk hc)
          exact next (.t _ _ (snap (fun _ h => h) hkro ((h.obj k _ hk).ro fun b hb => .inl hb) hx hl)) hW
        · cases hG
      · cases hG
    | _ => exact next hx hW

theorem borW_gives (h : WR E β RO st w) {F : List LV → Prop} : ∀ {args : List LV} {vals : List Value} {acc : List LV} {us : List Value}, Vals β (ownRO E β RO st) w args vals → Vals β (ownRO E β RO st) w acc us → borW st args acc F →
    ∃ args', F args' ∧ Vals β (ownRO E β RO st) w args' (us ++ vals)
  | [], vals, acc, us, hv, ha, hW => by
    have : vals = [] := List.eq_nil_of_length_eq_zero hv.1.symm
    subst this
    exact ⟨acc, hW, by simpa using ha⟩
  | x :: r, [], acc, us, hv, ha, hW => by have := hv.1; simp at this
  | x :: r, v :: vs, acc, us, hv, ha, hW => by
    obtain ⟨hx, hr⟩ := hv.tail
    have next : ∀ {y : LV}, VL β (ownRO E β RO st) w y v → borW st r (acc ++ [y]) F → ∃ args', F args' ∧ Vals β (ownRO E β RO st) w args' (us ++ v :: vs) := by
      intro y hy hW
      obtain ⟨args', h1, h2⟩ := borW_gives h hr (ha.snoc hy) hW
      exact ⟨args', h1, by simpa using h2⟩
    have hemp : Vals β (ownRO E β RO st) w [] [] := ⟨rfl, fun i x v h => by simp at h⟩
    cases x with
    | osl k sz off len =>
      simp only [borW] at hW
      have h1 : Vals β (ownRO E β RO st) w [.osl k sz off len] [v] := by have := hemp.snoc hx; simpa using this
      obtain ⟨cs', hW, hcs⟩ := borC_gives h h1 hemp hW
      simp only [List.nil_append] at hcs
      obtain ⟨y, rfl⟩ : ∃ y, cs' = [y] := by
        have := hcs.1
        match cs', this with
        | [y], _ => exact ⟨y, rfl⟩
      exact next (hcs.2 0 y v rfl rfl) hW
    | agg cs =>
      simp only [borW] at hW
      cases hx with
      | agg _ us' hl hv' h1 =>
      obtain ⟨cs', hW, hcs⟩ := borC_gives h (vals := us') ⟨hl, hv'⟩ hemp hW
      simp only [List.nil_append] at hcs
      exact next (.agg _ _ hcs.1 hcs.2 h1) hW
    | _ => exact next hx hW

theorem Vals.map {g : K → K} {β2 : K → Nat} (hβ : ∀ k, β2 (g k) = β k) {args : List LV} {vals : List Value} (h : Vals β RO w args vals) : Vals β2 RO w (mapV.mapL g args) vals := by
  rw [mapL_eq]
  refine ⟨by simpa using h.1, fun i x v hx hv => ?_⟩
  rw [List.getElem?_map] at hx
  cases hc : args[i]? with
  | none => simp [hc] at hx
  | some y =>
    simp [hc] at hx
    rw [← hx]; exact (h.2 i y v hc hv).map (p := fun _ => true) (fun k _ => hβ k) (allTrue.1 y)

theorem plW_gives {d : Nat} {βc β' : K → Nat} {ROc RO'' : Nat → Prop} {out' : List Fr} {ro : Fr} {r : LV} {v : Value} {K' : LV → Env → St → Prop} (h : SR E N β RO env st a w) (hw : WR (entP βc ROc w) β' RO'' ⟨out', ro⟩ w') (hr : VL β' RO'' w' r v)
    (hp : plW env st d r ro K') (hRO : (∀ b, RO'' b → RO b ∨ w.heap.size ≤ b) ∨ (r.flat ∧ flatFr ro)) :
    ∃ x env' st' β2 RO2, K' x env' st' ∧ SR E N β2 RO2 env' st' a w' ∧ VL β2 RO2 w' x v ∧ env' = env := by
  unfold plW at hp
  split at hp
  · rename_i h1 h2
    obtain ⟨β2, RO2, h3, h4⟩ := after_call (d := d) h hw hr (fun s o hs => (okFr_look h2 s o hs).2) h1 (fun s o hs => (okFr_look h2 s o hs).1) (hRO.imp id fun ⟨hf, hfr⟩ => ⟨hf, fun k o hk ho => by
      cases k with
      | cur s => exact flatFr_look hfr s o ho
      | fr => cases hk
      | sub k i =>
        obtain ⟨eo, e, sz, rs, es, hg, hi, rfl⟩ := St.get_sub ho
        cases k with
        | cur s => exact flatFr_look hfr s _ hg es (List.mem_of_getElem? hi)
        | fr => cases hk
        | sub k2 j => have := St.root_of_get_grid hg; cases this⟩)
    exact ⟨_, _, _, β2, RO2, hp, h3, h4, rfl⟩
  · cases hp

/-- A call comes back with what is told. -/
theorem mapFr_look {cur : Fr} {s : Nat} {o : Ob} : ∀ {args : List LV}, look (mapFr cur args) s = some o → ∃ kd kv, o = .mp kd kv ∧ look cur s = some o
  | [], h => by simp [mapFr, look] at h
  | x :: r, h => by
    unfold mapFr at h
    split at h
    · split at h
      · split at h
        · split at h
          · rename_i hl
            rw [look_cons] at h
            split at h
            · rename_i he
              cases h; subst he
              exact ⟨_, _, rfl, hl⟩
            · exact mapFr_look h
          · exact mapFr_look h
        · exact mapFr_look h
      · exact mapFr_look h
    · exact mapFr_look h
theorem ipFr_look : ∀ {ro : Fr} {s : Nat} {o : Ob}, ipFr ro = true → look ro s = some o → o.ipB = true
  | [], s, o, _, h => by simp [look] at h
  | p :: r, s, o, hi, h => by
    unfold ipFr at hi
    split at hi
    rotate_left
    · cases hi
    rename_i hb
    rw [look_cons] at h
    split at h
    · cases h; exact hb
    · exact ipFr_look hi h
/-- The blocks of maps that are handed on. -/
def mapBl (β : K → Nat) (fr : Fr) (b : Nat) : Prop := ∃ s o, look fr s = some o ∧ b = β (.cur s)
theorem map_get {fr : Fr} (hf : ∀ s o, look fr s = some o → ∃ kd kv, o = .mp kd kv) {k : K} {o : Ob} (h : St.get ⟨[fr], []⟩ k = some o) : ∃ s, k = .fr 0 s ∧ look fr s = some o := by
  cases k with
  | cur s => simp [St.get, look] at h
  | fr i s =>
    cases i with
    | zero =>
      simp only [St.get, List.getElem?_cons_zero] at h
      split at h
      · rename_i o0 ho
        cases h
        obtain ⟨kd, kv, rfl⟩ := hf s o0 ho
        exact ⟨s, rfl, ho⟩
      · cases h
    | succ i => simp [St.get] at h
  | sub k i =>
    obtain ⟨eo, e, sz, rs, es, hg, _⟩ := St.get_sub h
    cases k with
    | cur s => simp [St.get, look] at hg
    | fr j s =>
      cases j with
      | zero =>
        simp only [St.get, List.getElem?_cons_zero] at hg
        split at hg
        · rename_i o0 ho
          obtain ⟨kd, kv, rfl⟩ := hf s o0 ho
          cases hg
        · cases hg
      | succ j => simp [St.get] at hg
    | sub k j => obtain ⟨_, _, _, _, _, _, _, hh⟩ := St.get_sub hg; cases hh
theorem map_wr (h : WR E β RO st w) {fr : Fr} (hf : ∀ s o, look fr s = some o → (∃ kd kv, o = .mp kd kv) ∧ look st.cur s = some o) :
    WR (entP (fun k => β (lowK k)) (fun b => RO b ∨ mapBl β fr b) w) (fun k => β (lowK k)) (fun b => RO b ∨ mapBl β fr b) ⟨[fr], []⟩ w := by
  have hmp : ∀ s o, look fr s = some o → ∃ kd kv, o = .mp kd kv := fun s o hs => (hf s o hs).1
  have hnc : ∀ k o, St.get ⟨[fr], []⟩ k = some o → ¬ (entP (fun k => β (lowK k)) (fun b => RO b ∨ mapBl β fr b) w).can k := by
    intro k o hk hc
    obtain ⟨s, rfl, _⟩ := map_get hmp hk
    have := hc rfl
    cases this
  refine ⟨rfl, rfl, rfl, Nat.le_refl _, fun _ _ _ => rfl, fun b hb => ?_, fun _ h => h, fun _ h => .inl h, fun k o hk => ?_, fun k o hk hc => absurd hc (hnc k o hk), fun k k' o o' hk hk' hc => absurd hc (hnc k o hk), fun k o hk hc => absurd hc (hnc k o hk), fun k o hk _ => ?_, fun _ _ _ => rfl⟩
  · rcases hb with hb | ⟨s, o, hs, rfl⟩
    · exact h.roLt b hb
    · exact (h.obj (.cur s) o (hf s o hs).2).lt
  · obtain ⟨s, rfl, hs⟩ := map_get hmp hk
    obtain ⟨⟨kd, kv, rfl⟩, hl⟩ := hf s o hs
    have := (h.obj (.cur s) _ hl).ro (RO' := fun b => RO b ∨ mapBl β fr b) fun b hb => .inl hb
    exact this
  · obtain ⟨s, rfl, hs⟩ := map_get hmp hk
    exact .inr ⟨s, o, hs, rfl⟩
theorem map_back (h : WR E β RO st w) {fr : Fr} (hf : ∀ s o, look fr s = some o → (∃ kd kv, o = .mp kd kv) ∧ look st.cur s = some o) {β' : K → Nat} {RO' : Nat → Prop} {out' : List Fr} {ro : Fr} {r : LV} {v : Value}
    (hw : WR (entP (fun k => β (lowK k)) (fun b => RO b ∨ mapBl β fr b) w) β' RO' ⟨out', ro⟩ w') (hr : VL β' RO' w' r v) (h1 : r.ipB = true) (h2 : ipFr ro = true) :
    ∃ RO2, WR (entP (fun k => β (lowK k)) RO w) β' RO2 ⟨[], ro⟩ w' ∧ VL β' RO2 w' r v ∧ ∀ b, RO2 b → RO b ∨ w.heap.size ≤ b := by
  have hM : ∀ b, mapBl β fr b → ∀ o, w'.cell? ⟨b, o, none⟩ = none := by
    rintro b ⟨s, o, hs, rfl⟩ off
    obtain ⟨⟨kd, kv, rfl⟩, hl⟩ := hf s o hs
    obtain ⟨ents, clock, hh, _⟩ := h.obj (.cur s) _ hl
    have hk : w'.heap[β (.cur s)]? = w.heap[β (.cur s)]? := hw.keep _ (lt_of_heap hh) (fun h => h)
    rw [hh] at hk
    simp only [World.cell?, hk]
  have hnot : ∀ b, RO b → ¬ mapBl β fr b := by
    rintro b hb ⟨s, o, hs, rfl⟩
    exact h.sep (.cur s) o (hf s o hs).2 (fun hc => by cases hc) hb
  have hro : ∀ b, RO' b → (RO' b ∧ ¬ mapBl β fr b) ∨ mapBl β fr b := fun b hb => by
    by_cases hm : mapBl β fr b
    · exact .inr hm
    · exact .inl ⟨hb, hm⟩
  have hget : ∀ k o, St.get ⟨[], ro⟩ k = some o → St.get ⟨out', ro⟩ k = some o ∧ k.isFr = false ∧ o.ipB = true := by
    intro k
    induction k with
    | cur s => intro o hk; exact ⟨hk, rfl, ipFr_look h2 hk⟩
    | fr i s => intro o hk; simp [St.get] at hk
    | sub k i ih =>
      intro o hk
      obtain ⟨eo, e, sz, rs, es, hg, hi, rfl⟩ := St.get_sub hk
      obtain ⟨g1, g2, _⟩ := ih _ hg
      exact ⟨by simp only [St.get, g1, hi], g2, rfl⟩
  have hcan : ∀ k, k.isFr = false → (entP (fun k => β (lowK k)) (fun b => RO b ∨ mapBl β fr b) w).can k := fun k hk hc => by rw [hk] at hc; cases hc
  refine ⟨fun b => RO' b ∧ ¬ mapBl β fr b, ⟨hw.os, hw.tape, hw.output, hw.size, hw.keep, fun b hb => hw.roLt b hb.1, fun b hb => ⟨hw.ro0 b (.inl hb), hnot b hb⟩, fun b hb => ?_, fun k o hk => ?_, fun k o hk _ => ?_, fun k k' o o' hk hk' _ _ he => ?_, fun k o hk _ hb => ?_, fun k o hk hc => ?_, hw.stay⟩, hr.out hM hro h1, fun b hb => ?_⟩
  · rcases hw.roNew b hb.1 with h3 | h3
    · exact .inl (h3.resolve_right hb.2)
    · exact .inr h3
  · obtain ⟨g1, _, g3⟩ := hget k o hk
    exact (hw.obj k o g1).out hM hro g3
  · obtain ⟨g1, g2, _⟩ := hget k o hk
    exact hw.objNew k o g1 (hcan k g2)
  · obtain ⟨g1, g2, _⟩ := hget k o hk
    obtain ⟨g3, g4, _⟩ := hget k' o' hk'
    exact hw.inj k k' o o' g1 g3 (hcan k g2) (hcan k' g4) he
  · obtain ⟨g1, g2, _⟩ := hget k o hk
    exact hw.sep k o g1 (hcan k g2) hb.1
  · obtain ⟨g1, g2, _⟩ := hget k o hk
    exact absurd (fun hc2 => by rw [g2] at hc2; cases hc2) hc
  · rcases hw.roNew b hb.1 with h3 | h3
    · exact .inl (h3.resolve_right hb.2)
    · exact .inr (h3.elim id False.elim)

theorem callW_gives {d f : Nat} {args : List LV} {vals : List Value} {K' : LV → Env → St → Prop} (h : SR E N β RO env st a w) (hv : Vals β RO w args vals) (hW : callW P env st d f args K') :
    FnOK P f ∧ Calls P f vals.toArray w fun e w' => ∃ v x env' st' β2 RO2, e = .returned v ∧ K' x env' st' ∧ SR E N β2 RO2 env' st' a w' ∧ VL β2 RO2 w' x v ∧ env' = env := by
  unfold callW at hW
  split at hW
  · refine ⟨hW.1, (hW.2 β RO w vals (bare_wr h.wr) hv).mono ?_⟩
    rintro e w' ⟨v, r, ro, out', β', RO', he, hp, hw, hr⟩
    obtain ⟨x, env', st', β2, RO2, h1, h2, h3, h4⟩ := plW_gives h hw hr hp (.inl fun b hb => (hw.roNew b hb).imp id fun h => h.elim id False.elim)
    exact ⟨v, x, env', st', β2, RO2, he, h1, h2, h3, h4⟩
  split at hW
  · have hf : ∀ s o, look (mapFr st.cur args) s = some o → (∃ kd kv, o = .mp kd kv) ∧ look st.cur s = some o := fun s o hs => let ⟨kd, kv, h1, h2⟩ := mapFr_look hs; ⟨⟨kd, kv, h1⟩, h2⟩
    refine ⟨hW.1, (hW.2 (fun k => β (lowK k)) (fun b => RO b ∨ mapBl β (mapFr st.cur args) b) w vals (map_wr h.wr hf) ((hv.ro fun b hb => .inl hb).map fun k => by simp only [lowK_lift])).mono ?_⟩
    rintro e w' ⟨v, r, ro, out', β', RO', he, hp, hw, hr⟩
    unfold mapPW at hp
    split at hp
    rotate_left
    · cases hp
    split at hp
    rotate_left
    · cases hp
    rename_i h1 _ h2
    obtain ⟨RO2, hw2, hr2, hR⟩ := map_back h.wr hf hw hr h1 h2
    obtain ⟨x, env', st', β2, RO3, g1, g2, g3, g4⟩ := plW_gives h hw2 hr2 hp (.inl hR)
    exact ⟨v, x, env', st', β2, RO3, he, g1, g2, g3, g4⟩
  · obtain ⟨args', hS, hv'⟩ := borW_gives h.wr (hv.ro fun b hb => .inl hb) (us := []) ⟨rfl, fun i x v h => by simp at h⟩ hW
    simp only [List.nil_append] at hv'
    refine ⟨hS.1, (hS.2 (fun k => β (lowK k)) (ownRO E β RO st) w vals (enter_wr h.wr) (hv'.map fun k => by simp only [lowK_lift])).mono ?_⟩
    rintro e w' ⟨v, r, ro, out', β', RO', he, ⟨hf1, hf2, hp⟩, hw, hr⟩
    obtain ⟨x, env', st', β2, RO2, h1, h2, h3, h4⟩ := plW_gives h hw hr hp (.inr ⟨hf1, hf2⟩)
    exact ⟨v, x, env', st', β2, RO2, he, h1, h2, h3, h4⟩

/-- The call as an operation. -/
theorem call_wp {o : Oper} {c : Call} {fo : Operand} {f d : Nat} {cap : List (K × Nat)} {K' : LV → Env → St → Prop} {Q : Act → World → Prop} (hop : o.op = .call c) (hcal : c.callee = .value fo) (h : SR E N β RO env st a w)
    (hf : opd env fo = .fn f cap) (hW : callW P env st d f (c.args.toList.map (opd env) ++ capArgs cap) K')
    (hQ : ∀ v x env' st' β2 RO2 w', K' x env' st' → SR E N β2 RO2 env' st' a w' → VL β2 RO2 w' x v → env' = env → Q (a.put o.dst v) w') : o.wp P a w Q fun _ _ _ => False := by
  have hfv := h.opd fo
  rw [hf] at hfv
  have hvals : Vals β RO w (c.args.toList.map (opd env) ++ capArgs cap) (c.args.toList.map a.eval ++ cap.map fun p => Value.pointer (some ⟨β p.1, p.2, none⟩)) := by
    refine ⟨by simp [capArgs], fun i x v hx hv => ?_⟩
    by_cases hi : i < c.args.toList.length
    · rw [List.getElem?_append_left (by simpa using hi), List.getElem?_map] at hx hv
      cases hc : c.args.toList[i]? with
      | none => simp [hc] at hx
      | some y =>
        simp only [hc, Option.map_some, Option.some.injEq] at hx hv
        rw [← hx, ← hv]; exact h.opd y
    · rw [List.getElem?_append_right (by simp; simpa using hi)] at hx hv
      simp only [List.length_map] at hx hv
      simp only [capArgs, List.getElem?_map] at hx hv
      cases hc : cap[i - c.args.toList.length]? with
      | none => rw [hc] at hx; cases hx
      | some p =>
        simp only [hc, Option.map_some, Option.some.injEq] at hx hv
        rw [← hx, ← hv]; exact .ptr _ _
  obtain ⟨hfn, hcalls⟩ := callW_gives h hvals hW
  cases hv : a.eval fo <;> rw [hv] at hfv <;> cases hfv
  unfold FnOK at hfn
  cases hfun : P.funcs[f]? with
  | none => simp [hfun] at hfn
  | some fn =>
    simp only [hfun, Option.any_some, Bool.and_eq_true, bne_iff_ne, ne_eq] at hfn
    have hbody : fn.body.isNone = false := by
      cases hb : fn.body with
      | none => simp [hb] at hfn
      | some _ => rfl
    have hrun : (execOp a.eval o).run P w = .ok (.enter f (c.args.toList.map a.eval ++ cap.map fun p => Value.pointer (some ⟨β p.1, p.2, none⟩)).toArray) w := by
      have hname : (fn.name == "runtime.NumGoroutine") = false := by simpa using hfn.2
      simp only [execOp, hop, resolve, hcal, hv, Deferred.ofValue, Sem.run_bind, Sem.run_pure, Result.andThen_ok, invoke, callFunc, run_program, hfun, hname, hbody, Bool.false_eq_true, if_false]
      congr 2
      rw [← Array.toList_inj]
      simp
    unfold Oper.wp
    rw [hrun]
    simp only [Oper.upon]
    refine hcalls.mono ?_
    rintro e w' ⟨v, x, env', st', β2, RO2, rfl, h1, h2, h3, h4⟩
    exact hQ v x env' st' β2 RO2 w' h1 h2 h3 h4

end
end Go.Fw

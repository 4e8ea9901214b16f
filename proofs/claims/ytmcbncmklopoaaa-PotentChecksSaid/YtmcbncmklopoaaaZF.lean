/- Texts that lead to the law, part 6. -/
import Derived.Test.YtmcbncmklopoaaaZE
import Derived.Scope
import Derived.Laws.StructEq
import Derived.OrdersIn
import Derived.RangeFuncIn
import Derived.RangeFuncLeaves
import Derived.RangeFuncSeq

/- The value logic, part 20: code, and the body of a function. -/
namespace Go.Fw
open Go

/-- What is kept where a region is entered: slots; objects. -/
abbrev Kp := List (Nat × (List Nat × List Nat))
abbrev Od := List (Nat × List (Nat × Kind))

def keepW {α : Type} : List Nat → List (Nat × α) → (List (Nat × α) → Prop) → Prop
  | [], _, K' => K' []
  | k :: r, env, K' => match look env k with
    | some x => keepW r env fun t => K' ((k, x) :: t)
    | none => keepW r env K'

def fstR : Code → Option Nat
  | .region id _ _ => some id
  | .seq a _ => fstR a
  | .block _ b => fstR b
  | .loop b => fstR b
  | .scope b => fstR b
  | _ => none

def thenW (K' : Env → St → Prop) (Q : Exit → Env → St → Prop) (e : Exit) (env : Env) (st : St) : Prop :=
  match e with
  | .normal => K' env st
  | e => Q e env st
def entW (kp : Kp) (c : Code) (env : Env) (st : St) (K' : Env → St → Prop) : Prop := match fstR c with
  | some id => match look kp id with
    | some p => keepW p.1 env fun env => keepW p.2 st.cur fun cur => K' env ⟨st.out, cur⟩
    | none => K' env st
  | none => K' env st

def blockW (id : Nat) (Q : Exit → Env → St → Prop) (e : Exit) (env : Env) (st : St) : Prop :=
  match e with
  | .exit i => match Nat.beq i id with
    | true => Q .normal env st
    | false => Q (.exit i) env st
  | e => Q e env st

/-- A loop: a family of states that holds where it starts; how far it is. -/
inductive LoopW (kp : Kp) (b : Code) (W : Env → St → (Exit → Env → St → Prop) → Prop) (env : Env) (st : St) (Q : Exit → Env → St → Prop) : Prop
  | mk (ι : Type) (I : ι → Prop) (F : ι → Env) (S : ι → St) (m : ι → Nat) (i : ι) (h : I i) (h0 : entW kp b env st fun env st => env = F i ∧ st = S i)
      (hr : ∀ i, I i → W (F i) (S i) (thenW (fun env st => ∃ j, m j < m i ∧ I j ∧ entW kp b env st fun env st => env = F j ∧ st = S j) Q))

/-- What is asked of code. -/
def wpc (C : Ctx) (P : Program) (kp : Kp) (od : Od) : Code → Env → St → (Exit → Env → St → Prop) → Prop
  | .skip, env, st, Q => Q .normal env st
  | .label _, env, st, Q => Q .normal env st
  | .region id ops draw, env, st, Q => match draw with
    | false => regW C P ops.toList env st (Q .normal)
    | true => match look od id with
      | some ord => seqW C P ops.toList (Q .normal) ord env st
      | none => False
  | .seq a b, env, st, Q => wpc C P kp od a env st (thenW (fun env st => entW kp b env st fun env st => wpc C P kp od b env st Q) Q)
  | .cond c a b, env, st, Q => match opd env c with
    | .t (.v (.bool t)) => match t with
      | true => wpc C P kp od a env st Q
      | false => wpc C P kp od b env st Q
    | _ => False
  | .block id b, env, st, Q => wpc C P kp od b env st (blockW id Q)
  | .loop b, env, st, Q => LoopW kp b (fun env st Q => wpc C P kp od b env st Q) env st Q
  | .exit id, env, st, Q => Q (.exit id) env st
  | .ret, env, st, Q => Q .ret env st
  | .scope b, env, st, Q => wpc C P kp od b env st fun e env st => match e with
    | .goto _ => False
    | e => Q e env st
  | _, _, _, _ => False

/-- What is looked at ahead of the walk. -/
def codeOK (N : Nat) (od : Od) : Code → Bool
  | .region id ops draw => dstOK N ops.toList && (match draw with
    | false => true
    | true => match look od id with
      | some ord => ordOK ops ord
      | none => false)
  | .seq a b => codeOK N od a && codeOK N od b
  | .cond _ a b => codeOK N od a && codeOK N od b
  | .block _ b => codeOK N od b
  | .loop b => codeOK N od b
  | .scope b => codeOK N od b
  | _ => true

section
variable {C : Ctx} {P : Program} {E : Ent} {N : Nat} {β : K → Nat} {RO : Nat → Prop} {env env' : Env} {st st' : St} {a : Act} {w w' : World} {kp : Kp} {od : Od}

theorem WR.less (h : WR E β RO st w) (hs : ∀ k o, st'.get k = some o → st.get k = some o) : WR E β RO st' w :=
  ⟨h.os, h.tape, h.output, h.size, h.keep, h.roLt, h.ro0, h.roNew, fun k o hk => h.obj k o (hs k o hk), fun k o hk => h.objNew k o (hs k o hk),
    fun k k' o o' hk hk' => h.inj k k' o o' (hs k o hk) (hs k' o' hk'), fun k o hk => h.sep k o (hs k o hk), fun k o hk => h.fzRO k o (hs k o hk), h.stay⟩
theorem SR.less (h : SR E N β RO env st a w) (hs : ∀ k o, st'.get k = some o → st.get k = some o) (he : ∀ n x, look env' n = some x → look env n = some x) : SR E N β RO env' st' a w :=
  ⟨h.wr.less hs, h.size, h.defers, fun n x hx => h.env n x (he n x hx)⟩

theorem keepW_gives {α : Type} : ∀ {ks : List Nat} {env : List (Nat × α)} {K' : List (Nat × α) → Prop}, keepW ks env K' → ∃ env', K' env' ∧ ∀ (n : Nat) (x : α), look env' n = some x → look env n = some x
  | [], env, K', h => ⟨[], h, fun n x hx => by simp [look] at hx⟩
  | k :: r, env, K', h => by
    simp only [keepW] at h
    split at h
    · rename_i y hy
      obtain ⟨env', h1, h2⟩ := keepW_gives h
      refine ⟨_, h1, fun n x hx => ?_⟩
      rw [look_cons] at hx
      split at hx
      · rename_i hk; subst hk; rw [hy]; exact hx
      · exact h2 n x hx
    · exact keepW_gives h
theorem get_less {cur : Fr} (h : ∀ n x, look cur n = some x → look st.cur n = some x) : ∀ (k : K) (o : Ob), St.get ⟨st.out, cur⟩ k = some o → st.get k = some o
  | .cur n, o, hk => h n o hk
  | .fr i n, o, hk => hk
  | .sub k i, o, hk => by
    obtain ⟨eo, e, sz, rs, es, hg, hi, rfl⟩ := St.get_sub hk
    have := get_less h k _ hg
    simp only [St.get, this, hi]

theorem SR.ent (h : SR E N β RO env st a w) {c : Code} {K' : Env → St → Prop} (hW : entW kp c env st K') : ∃ env' st', K' env' st' ∧ SR E N β RO env' st' a w := by
  unfold entW at hW
  split at hW
  · split at hW
    · obtain ⟨env', h1, h2⟩ := keepW_gives hW
      obtain ⟨cur', h3, h4⟩ := keepW_gives h1
      exact ⟨env', _, h3, h.less (fun k o hk => get_less h4 k o hk) h2⟩
    · exact ⟨env, st, hW, h⟩
  · exact ⟨env, st, hW, h⟩

theorem least {R : Nat → Prop} (h : ∃ n, R n) : ∃ n, R n ∧ ∀ k, R k → n ≤ k := by
  obtain ⟨n, hn⟩ := h
  induction n using Nat.strongRecOn with
  | _ n ih =>
    by_cases hex : ∃ k, k < n ∧ R k
    · obtain ⟨k, hk, hR⟩ := hex; exact ih k hk hR
    · exact ⟨n, hn, fun k hk => by
        rcases Nat.lt_or_ge k n with h | h
        · exact absurd ⟨k, h, hk⟩ hex
        · exact h⟩

theorem wpc_sound (hC : C.OK P) : ∀ (c : Code), codeOK N od c = true → ∀ (β : K → Nat) (RO : Nat → Prop) (env : Env) (st : St) (a : Act) (w : World) (Q : Exit → Env → St → Prop), SR E N β RO env st a w → wpc C P kp od c env st Q → c.wp P (Post E N Q) a w
  | .skip, _, β, RO, env, st, a, w, Q, h, hW => wp_skip ⟨env, st, β, RO, hW, h⟩
  | .label _, _, β, RO, env, st, a, w, Q, h, hW => wp_label ⟨env, st, β, RO, hW, h⟩
  | .exit _, _, β, RO, env, st, a, w, Q, h, hW => wp_exit ⟨env, st, β, RO, hW, h⟩
  | .ret, _, β, RO, env, st, a, w, Q, h, hW => wp_ret ⟨env, st, β, RO, hW, h⟩
  | .region id ops draw, hk, β, RO, env, st, a, w, Q, h, hW => by
    simp only [codeOK, Bool.and_eq_true] at hk
    cases draw with
    | false => exact regW_sound hC hk.1 (fun env st β RO a w hq hs => ⟨env, st, β, RO, hq, hs⟩) h hW
    | true =>
      obtain ⟨h1, h2⟩ := hk
      simp only [wpc] at hW
      simp only at h2
      split at hW
      · rename_i ord ho
        rw [ho] at h2
        exact seqW_sound hC h1 h2 (fun env st β RO a w hq hs => ⟨env, st, β, RO, hq, hs⟩) h hW
      · cases hW
  | .seq x y, hk, β, RO, env, st, a, w, Q, h, hW => by
    simp only [codeOK, Bool.and_eq_true] at hk
    refine wp_seq (wp_mono (wpc_sound hC x hk.1 β RO env st a w _ h hW) ?_)
    rintro e a w ⟨env, st, β, RO, hq, hs⟩
    cases e with
    | normal =>
      have hq' : entW kp y env st fun env st => wpc C P kp od y env st Q := hq
      obtain ⟨env', st', h1, h2⟩ := hs.ent hq'
      exact wpc_sound hC y hk.2 β RO _ _ a w Q h2 h1
    | _ => exact ⟨env, st, β, RO, hq, hs⟩
  | .cond c x y, hk, β, RO, env, st, a, w, Q, h, hW => by
    simp only [codeOK, Bool.and_eq_true] at hk
    have hc := h.opd c
    simp only [wpc] at hW
    split at hW
    · rename_i t ht
      rw [ht] at hc
      cases t with
      | true => exact wp_cond_true hc.v_inv (wpc_sound hC x hk.1 β RO env st a w Q h hW)
      | false => exact wp_cond_false hc.v_inv (wpc_sound hC y hk.2 β RO env st a w Q h hW)
    · cases hW
  | .block id b, hk, β, RO, env, st, a, w, Q, h, hW => by
    refine wp_block (wp_mono (wpc_sound hC b (by simpa [codeOK] using hk) β RO env st a w _ h hW) ?_)
    rintro e a w ⟨env, st, β, RO, hq, hs⟩
    cases e with
    | exit i =>
      simp only [blockW] at hq
      simp only [Exit.inBlock]
      by_cases hi : i = id
      · subst hi
        simp only [Nat.beq_refl] at hq
        rw [if_pos rfl]; exact ⟨env, st, β, RO, hq, hs⟩
      · rw [if_neg hi]
        split at hq
        · rename_i hb; exact absurd (by simpa using hb) hi
        · exact ⟨env, st, β, RO, hq, hs⟩
    | _ => exact ⟨env, st, β, RO, hq, hs⟩
  | .scope b, hk, β, RO, env, st, a, w, Q, h, hW => by
    refine wp_scope_straight (wp_mono (wpc_sound hC b (by simpa [codeOK] using hk) β RO env st a w _ h hW) ?_)
    rintro e a w ⟨env, st, β, RO, hq, hs⟩
    cases e with
    | goto l => exact hq.elim
    | _ => exact ⟨env, st, β, RO, hq, hs⟩
  | .loop b, hk, β, RO, env, st, a, w, Q, h, hW => by
    obtain ⟨ι, I, F, S, m, i0, hI0, hE0, hW⟩ := hW
    obtain ⟨env1, st1, ⟨hF0, hS0⟩, hs0⟩ := h.ent hE0
    classical
    let R : Nat → Act → World → Prop := fun n a w => ∃ i, m i = n ∧ I i ∧ ∃ β RO, SR E N β RO (F i) (S i) a w
    let μ : Act → World → Nat := fun a w => if h : ∃ n, R n a w then Classical.choose (least h) else 0
    refine wp_loop (fun a w => ∃ n, R n a w) μ ⟨_, i0, rfl, hI0, β, RO, by rw [← hF0, ← hS0]; exact hs0⟩ ?_
    intro a w hn
    have hμ : μ a w = Classical.choose (least hn) := dif_pos hn
    obtain ⟨i, hi, hI, β, RO, hs⟩ := (Classical.choose_spec (least hn)).1
    refine wp_mono (wpc_sound hC b (by simpa [codeOK] using hk) β RO _ _ a w _ hs (hW i hI)) ?_
    rintro e a' w' ⟨env, st, β, RO, hq, hs⟩
    cases e with
    | normal =>
      obtain ⟨j, hj, hIj, hEj⟩ := hq
      obtain ⟨env1, st1, ⟨hFj, hSj⟩, hs1⟩ := hs.ent hEj
      have hR : R (m j) a' w' := ⟨j, rfl, hIj, β, RO, by rw [← hFj, ← hSj]; exact hs1⟩
      refine ⟨⟨_, hR⟩, ?_⟩
      have h1 : μ a' w' = Classical.choose (least ⟨_, hR⟩) := dif_pos ⟨_, hR⟩
      rw [h1, hμ, ← hi]
      exact Nat.lt_of_le_of_lt ((Classical.choose_spec (least (R := fun n => R n a' w') ⟨_, hR⟩)).2 _ hR) hj
    | _ => exact ⟨env, st, β, RO, hq, hs⟩
  | .goto _, _, _, _, _, _, _, _, _, _, hW => hW.elim
  | .rangeFunc _ _ _ _, _, _, _, _, _, _, _, _, _, hW => hW.elim
  | .refuse _, _, _, _, _, _, _, _, _, _, hW => hW.elim

/-! ### The body of a function -/
def argE : Nat → List LV → Env
  | _, [] => []
  | n, x :: r => (n, x) :: argE (n + 1) r

def resL (C : Ctx) (env : Env) (st : St) : List ResultVar → Option (List LV)
  | [] => some []
  | .tmp t :: r => match resL C env st r with
    | some l => some (opd env (.tmp t) :: l)
    | none => none
  | .cell a t :: r => match loadL C st t (opd env (.tmp a)), resL C env st r with
    | some x, some l => some (x :: l)
    | _, _ => none

def outV : List Value → Value
  | [v] => v
  | vs => .tuple vs.toArray

def resV : List LV → LV
  | [x] => x
  | l => .tup l

/-- What is asked where the body leaves. -/
def retW (C : Ctx) (rs : List ResultVar) (Post : LV → Fr → Prop) (e : Exit) (env : Env) (st : St) : Prop :=
  match e with
  | .ret | .normal => match resL C env st rs with
    | some l => ∃ cs, keepW cs st.cur (Post (resV l))
    | none => False
  | _ => False

theorem argE_look : ∀ {l : List LV} {n m : Nat} {x : LV}, look (argE n l) m = some x → n ≤ m ∧ l[m - n]? = some x
  | [], n, m, x, h => by simp [argE, look] at h
  | y :: r, n, m, x, h => by
    simp only [argE, look_cons] at h
    split at h
    · rename_i he; subst he; cases h; simp
    · obtain ⟨h1, h2⟩ := argE_look h
      have : m - n = (m - (n + 1)) + 1 := by omega
      exact ⟨by omega, by rw [this]; exact h2⟩

theorem resL_run (hC : C.OK P) (h : SR E N β RO env st a w) : ∀ {rs : List ResultVar} {l : List LV}, resL C env st rs = some l →
    ∃ vs, (rs.mapM fun r => match r with | .tmp t => pure (a.tmps.getD t undef) | .cell x t => do loadVar t (← asAddr (a.tmps.getD x undef)) : Sem (List Value)).run P w = .ok vs w ∧ Vals β RO w l vs
  | [], l, hl => by cases hl; exact ⟨[], rfl, rfl, fun i x v h => by simp at h⟩
  | .tmp t :: r, l, hl => by
    simp only [resL] at hl
    split at hl
    · rename_i l' hl'
      cases hl
      obtain ⟨vs, h1, h2⟩ := resL_run hC h hl'
      refine ⟨a.tmps.getD t undef :: vs, by simp only [List.mapM_cons, Sem.run_bind, Sem.run_pure, Result.andThen_ok, h1], by simp [h2.1], fun i x v hx hv => ?_⟩
      cases i with
      | zero => simp only [List.getElem?_cons_zero, Option.some.injEq] at hx hv; subst hx; subst hv; exact h.opd (.tmp t)
      | succ i => simp only [List.getElem?_cons_succ] at hx hv; exact h2.2 i x v hx hv
    · cases hl
  | .cell y t :: r, l, hl => by
    simp only [resL] at hl
    split at hl
    · rename_i x0 l' hx0 hl'
      cases hl
      obtain ⟨vs, h1, h2⟩ := resL_run hC h hl'
      have hv := h.opd (.tmp y)
      obtain ⟨u, g1, g2⟩ := load_sound hC h.wr hv hx0
      have hload : (do loadVar t (← asAddr (a.tmps.getD y undef)) : Sem Value).run P w = .ok u w := by
        have e : a.eval (.tmp y) = a.tmps.getD y undef := rfl
        rw [e] at g1
        cases hu : a.tmps.getD y undef with
        | pointer p => cases p with
          | some p => rw [hu] at g1; simpa [Instr.loadAt, Instr.sureAddr, asAddr] using g1
          | none => rw [hu] at g1; simp [Instr.loadAt, Instr.sureAddr, stuck] at g1
        | _ => rw [hu] at g1; simp [Instr.loadAt, Instr.sureAddr, stuck] at g1
      refine ⟨u :: vs, by simp only [List.mapM_cons]; rw [Sem.run_bind, hload]; simp only [Result.andThen_ok, Sem.run_bind, Sem.run_pure, h1], by simp [h2.1], fun i x v hx hv => ?_⟩
      cases i with
      | zero => simp only [List.getElem?_cons_zero, Option.some.injEq] at hx hv; subst hx; subst hv; exact g2
      | succ i => simp only [List.getElem?_cons_succ] at hx hv; exact h2.2 i x v hx hv
    · cases hl

/-- A function is right where its body is. -/
theorem spec_of_body (hC : C.OK P) {f : Nat} {fn : Func} {c : Code} {args : List LV} {out : List Fr} {Post : LV → Fr → Prop} (hf : P.funcs[f]? = some fn) (hb : fn.body = some c) (hk : (Nat.ble fn.ntmps 1000000 && codeOK fn.ntmps od c) = true) (hn : args.length ≤ fn.ntmps) (hfn : FnOK P f)
    (hW : wpc C P kp od c (argE 0 args) ⟨out, []⟩ (retW C fn.results.toList Post)) : SpecP P f args out Post := by
  simp only [Bool.and_eq_true] at hk
  obtain ⟨hq, hk⟩ := hk
  have hq : fn.ntmps ≤ 1000000 := by simpa using hq
  refine ⟨hfn, fun β RO w vals hw hv => ?_⟩
  have hlen : vals.length = args.length := hv.1.symm
  have hs : SR (entP β RO w) fn.ntmps β RO (argE 0 args) ⟨out, []⟩ { tmps := vals.toArray ++ Array.replicate (fn.ntmps - vals.toArray.size) undef, defers := [] } w := by
    refine ⟨hw, ⟨by simp; omega, hq⟩, rfl, fun n x hx => ?_⟩
    obtain ⟨_, h2⟩ := argE_look hx
    simp only [Nat.sub_zero] at h2
    have hlt : n < vals.length := by rw [hlen]; exact (List.getElem?_eq_some_iff.1 h2).1
    refine ⟨vals[n], ?_, hv.2 n x _ h2 (List.getElem?_eq_getElem hlt)⟩
    rw [tmpAt_lt (by omega), Array.getElem?_append_left (by simpa using hlt)]
    simp [hlt]
  refine calls_of_wp hf hb (wp_mono (wpc_sound hC c hk β RO _ _ _ w _ hs hW) ?_)
  have fin : ∀ (env : Env) (st : St) (β' : K → Nat) (RO' : Nat → Prop) (a : Act) (w' : World), (match resL C env st fn.results.toList with | some l => ∃ cs, keepW cs st.cur (Post (resV l)) | none => False) → SR (entP β RO w) fn.ntmps β' RO' env st a w' →
      a.defers = [] ∧ ∃ v, (results fn a.tmps).run P w' = .ok v w' ∧ ∃ v' r ro out' β' RO', Ending.returned v = .returned v' ∧ Post r ro ∧ WR (entP β RO w) β' RO' ⟨out', ro⟩ w' ∧ VL β' RO' w' r v' := by
    intro env st β' RO' a w' hq hs
    split at hq
    · rename_i l hl
      obtain ⟨cs, hp⟩ := hq
      obtain ⟨cur', hp, hless⟩ := keepW_gives hp
      obtain ⟨vs, h1, h2⟩ := resL_run hC hs hl
      have hvl : vs.length = l.length := h2.1.symm
      refine ⟨hs.defers, outV vs, ?_, _, resV l, cur', st.out, β', RO', rfl, hp, hs.wr.less (fun k o hk => get_less hless k o hk), ?_⟩
      · unfold results
        have h1' : (fn.results.mapM fun x => match x with | .tmp t => pure (a.tmps.getD t undef) | .cell x t => do loadVar t (← asAddr (a.tmps.getD x undef)) : Sem (Array Value)).run P w' = .ok vs.toArray w' := by
          rw [Array.mapM_eq_mapM_toList, map_eq_pure_bind, Sem.run_bind]
          refine (congrArg (fun r => Result.andThen r _) h1).trans ?_
          rfl
        rw [Sem.run_bind]
        refine (congrArg (fun r => Result.andThen r _) h1').trans ?_
        clear h1 h1' h2 hvl
        match vs with
        | [] => simp [outV]
        | [v] => simp [outV]
        | _ :: _ :: _ => simp [outV]
      · match vs, l, hvl, h2 with
        | [], [], _, h2 => exact .tup [] [] rfl fun i x v h => by simp at h
        | [v], [x], _, h2 => exact h2.2 0 x v rfl rfl
        | v1 :: v2 :: vs, x1 :: x2 :: l, _, h2 => exact .tup _ _ h2.1 h2.2
    · cases hq
  rintro e a w' ⟨env, st, β', RO', hq, hs⟩
  cases e with
  | normal => exact fin env st β' RO' a w' hq hs
  | ret => exact fin env st β' RO' a w' hq hs
  | _ => exact hq.elim

end
end Go.Fw

/- The value logic, part 21: what the memory tells of closed data. -/
namespace Go.Fw
open Go

/-- Lengths stay below the most that a slice can have. -/
def T.ok : T → Prop
  | .v _ => True
  | .sl _ _ es => es.length ≤ maxLen ∧ okEs es
where
  okEs : List (List T) → Prop
    | [] => True
    | el :: r => okEl el ∧ okEs r
  okEl : List T → Prop
    | [] => True
    | x :: r => T.ok x ∧ okEl r
def LV.ok : LV → Prop
  | .t x => x.ok
  | .ipt cs => T.ok.okEl cs
  | .agg cs => okL cs
  | _ => True
where okL : List LV → Prop
  | [] => True
  | x :: r => LV.ok x ∧ okL r

theorem okEs_iff {es : List (List T)} : T.ok.okEs es ↔ ∀ el ∈ es, ∀ x ∈ el, x.ok := by
  have hel : ∀ el : List T, T.ok.okEl el ↔ ∀ x ∈ el, x.ok := by
    intro el
    induction el with
    | nil => simp [T.ok.okEl]
    | cons x r ih => simp [T.ok.okEl, ih]
  induction es with
  | nil => simp [T.ok.okEs]
  | cons el r ih => simp [T.ok.okEs, ih, hel]
theorem okEl_iff {el : List T} : T.ok.okEl el ↔ ∀ x ∈ el, x.ok := by
  induction el with
  | nil => simp [T.ok.okEl]
  | cons x r ih => simp [T.ok.okEl, ih]
theorem okL_iff {l : List LV} : LV.ok.okL l ↔ ∀ x ∈ l, x.ok := by
  induction l with
  | nil => simp [LV.ok.okL]
  | cons x r ih => simp [LV.ok.okL, ih]

section
variable {C : Ctx} {P : Program} {E : Ent} {N : Nat} {β : K → Nat} {RO : Nat → Prop} {env env' : Env} {st st' : St} {a : Act} {w w' : World} {kp : Kp} {od : Od}

theorem VT.ok {x : T} {v : Value} (h : VT RO w x v) : x.ok := by
  induction h with
  | v x h => exact trivial
  | nil sz => exact ⟨Nat.zero_le _, trivial⟩
  | emp sz a c hc => exact ⟨Nat.zero_le _, trivial⟩
  | sl sz es b off c u hb hc hm hsz hcell hv ih =>
    refine ⟨Nat.le_trans hc hm, okEs_iff.2 fun el hel x hx => ?_⟩
    obtain ⟨i, hi, rfl⟩ := List.getElem_of_mem hel
    obtain ⟨j, hj, rfl⟩ := List.getElem_of_mem hx
    exact ih i _ j _ (List.getElem?_eq_getElem hi) (List.getElem?_eq_getElem hj)

theorem VL.ok {x : LV} {v : Value} (h : VL β RO w x v) : x.ok := by
  induction h with
  | t x v h => exact h.ok
  | ipt cs b off u hb hcell hv =>
    refine okEl_iff.2 fun x hx => ?_
    obtain ⟨j, hj, rfl⟩ := List.getElem_of_mem hx
    exact (hv j _ (List.getElem?_eq_getElem hj)).ok
  | agg cs vs hl _ h1 ih =>
    refine okL_iff.2 fun x hx => ?_
    obtain ⟨j, hj, rfl⟩ := List.getElem_of_mem hx
    exact ih j _ _ (List.getElem?_eq_getElem hj) (List.getElem?_eq_getElem (hl ▸ hj))
  | _ => exact trivial

theorem Vals.ok {args : List LV} {vals : List Value} (h : Vals β RO w args vals) : LV.ok.okL args := okL_iff.2 fun x hx => by
  obtain ⟨j, hj, rfl⟩ := List.getElem_of_mem hx
  exact (h.2 j _ _ (List.getElem?_eq_getElem hj) (List.getElem?_eq_getElem (h.1 ▸ hj))).ok

/-- A function is right where its body is; its arguments are known to be as memory is. -/
theorem spec_body (hC : C.OK P) {f : Nat} {fn : Func} {c : Code} {args : List LV} {out : List Fr} {Post : LV → Fr → Prop} (kp : Kp) (od : Od) (hf : P.funcs[f]? = some fn) (hb : fn.body = some c) (hk : (Nat.ble fn.ntmps 1000000 && codeOK fn.ntmps od c) = true) (hn : Nat.ble args.length fn.ntmps = true) (hfn : FnOK P f)
    (hW : LV.ok.okL args → wpc C P kp od c (argE 0 args) ⟨out, []⟩ (retW C fn.results.toList Post)) : SpecP P f args out Post :=
  ⟨hfn, fun β RO w vals hw hv => (spec_of_body hC hf hb hk (by simpa using hn) hfn (hW hv.ok)).2 β RO w vals hw hv⟩

/-- The fields of a struct, one cell each, of kinds that are compared. -/
def fieldsK (C : List (Nat × TI)) : List Field → List D → Nat → Bool
  | [], [], _ => true
  | f :: fs, d :: ds, off => (f.name != "_") && Nat.beq f.offset off && (match look C f.type with
    | some ti => decide (ti.d = d) && !ti.d.agg
    | none => false) && fieldsK C fs ds (off + 1)
  | _, _, _ => false

theorem eqFields_run {tys : List (Nat × TI)} (hT : TysOK P tys) (dp : Nat) (w : World) : ∀ (fl : List Field) (ds : List D) (off : Nat) (xs ys : List Value) (r : Bool), fieldsK tys fl ds off = true → eqVs ds (xs.drop off) (ys.drop off) = some r →
    (Op.eqFields (dp + 1) xs.toArray ys.toArray fl).run P w = .ok r w
  | [], [], off, xs, ys, r, _, h => by
    generalize xs.drop off = a at h
    generalize ys.drop off = b at h
    match a, b, h with
    | [], [], h => simp only [eqVs, Option.some.injEq] at h; subst h; rfl
  | f :: fs, d :: ds, off, xs, ys, r, hk, h => by
    simp only [fieldsK, Bool.and_eq_true] at hk
    obtain ⟨⟨⟨h1, h2⟩, h3⟩, h4⟩ := hk
    have h2 : f.offset = off := by simpa using h2
    cases hti : look tys f.type with
    | none => rw [hti] at h3; cases h3
    | some ti =>
      rw [hti] at h3
      simp only [Bool.and_eq_true, decide_eq_true_eq, Bool.not_eq_true'] at h3
      obtain ⟨hd, hag⟩ := h3
      have hty := hT.look hti
      cases hxs : xs.drop off with
      | nil => rw [hxs] at h; simp [eqVs] at h
      | cons x xr =>
        cases hys : ys.drop off with
        | nil => rw [hxs, hys] at h; simp [eqVs] at h
        | cons y yr =>
          rw [hxs, hys] at h
          simp only [eqVs] at h
          have hxo : xs[off]? = some x := by have := congrArg (·[0]?) hxs; simpa using this
          have hyo : ys[off]? = some y := by have := congrArg (·[0]?) hys; simpa using this
          have hxd : xs.drop (off + 1) = xr := by have := congrArg (List.drop 1) hxs; simpa [List.drop_drop, Nat.add_comm] using this
          have hyd : ys.drop (off + 1) = yr := by have := congrArg (List.drop 1) hys; simpa [List.drop_drop, Nat.add_comm] using this
          have hisAgg : (isAgg f.type).run P w = .ok false w := by
            obtain ⟨dd, hdd, hdesc⟩ := hty.underlying
            rw [← hdesc] at hag
            simp only [isAgg, Sem.run_bind, run_underlying hdd, Result.andThen_ok]
            cases dd <;> first | rfl | (simp [descOf, D.agg] at hag)
          have hpart : ∀ (zs : List Value) (z : Value), zs[off]? = some z → (part f.type zs.toArray off).run P w = .ok z w := by
            intro zs z hz
            simp only [part, Sem.run_bind, hisAgg, Result.andThen_ok, Bool.false_eq_true, if_false]
            have : zs.toArray[off]? = some z := by simpa using hz
            simp only [this]; rfl
          cases ha : eqV d x y with
          | none => rw [ha] at h; simp at h
          | some a =>
            rw [ha] at h
            cases hb : eqVs ds xr yr with
            | none => rw [hb] at h; simp at h
            | some b =>
              rw [hb] at h
              simp only [Option.some.injEq] at h
              subst h
              have ih := eqFields_run hT dp w fs ds (off + 1) xs ys b h4 (by rw [hxd, hyd]; exact hb)
              have heq : (Op.equalIn (dp + 1) f.type x y).run P w = .ok a w := by
                obtain ⟨dd, hdd, hdesc⟩ := hty.underlying
                rw [hd] at hdesc
                cases d <;> cases x <;> cases y <;> simp only [eqV, reduceCtorEq] at ha
                · split at ha
                  · rename_i hkk
                    cases ha
                    subst hkk
                    cases dd <;> simp [descOf] at hdesc
                    exact run_equalIn_int w dp f.type _ _ _ _ hdd
                  · cases ha
                · cases ha
                  cases dd <;> simp [descOf] at hdesc
                  exact run_equalIn_bool' w dp f.type _ _ hdd
                · cases ha
                  cases dd <;> simp [descOf] at hdesc
                  exact run_equalIn_string w dp f.type _ _ hdd
              have hnm : f.name ≠ "_" := by simpa using h1
              rw [Op.eqFields, if_pos hnm]
              simp only [Sem.run_bind, h2, hpart xs x hxo, hpart ys y hyo, Result.andThen_ok, heq]
              cases a
              · simp
              · simp only [Bool.not_true, Bool.false_eq_true, if_false, Bool.true_and]; exact ih
  | [], _ :: _, _, _, _, _, hk, _ => by simp [fieldsK] at hk
  | _ :: _, [], _, _, _, _, hk, _ => by simp [fieldsK] at hk

/-- Structs of plain cells are compared as their cells are. -/
theorem eqs_fields {tys : List (Nat × TI)} (hT : TysOK P tys) {t : Nat} {ds : List D} (hu : P.underlying t = some (.struct (P.fieldsOf t))) (hs : P.stoodInHeld t = false) (hk : fieldsK tys (P.fieldsOf t).toList ds 0 = true) (w : World) (xs ys : List Value) (r : Bool)
    (h : eqVs ds xs ys = some r) : (Op.equalIn 10000 t (.agg xs.toArray) (.agg ys.toArray)).run P w = .ok r w := by
  rw [run_equalIn_agg w 9999 t _ _ hu hs]
  exact eqFields_run hT 9998 w _ ds 0 xs ys r hk (by simpa using h)

end
end Go.Fw

/- The value logic, part 22: code that calls yield, and code in a round of a loop over a function. -/
namespace Go.Fw
open Go

/-- No fence; of a round, or of none. -/
def wideR (r : Option Nat) : Fence := { Fence.wide with round := r }
def onlyN (K' : Act → World → Prop) : Exit → Act → World → Prop
  | .normal, a, w => K' a w
  | _, _, _ => False
def noDef : List Oper → Bool
  | [] => true
  | o :: r => match o.op with
    | .defer _ => false
    | _ => noDef r
theorem noDef_mem : ∀ {l : List Oper}, noDef l = true → ∀ o ∈ l, ∀ c, o.op ≠ .defer c
  | [], _, o, ho => by cases ho
  | p :: r, h, o, ho => by
    simp only [noDef] at h
    split at h
    · cases h
    · rename_i hp
      rcases List.mem_cons.1 ho with rfl | ho
      · exact fun c hc => hp c hc
      · exact noDef_mem h o ho

section
variable {P : Program} {r : Option Nat} {n : Nat}

theorem no_depth {p : Prop} : (wideR r).depth.isSome = true → p := fun h => by simp [wideR, Fence.wide] at h
theorem round_any {r' : Option Nat} {m : Nat} {l : Nat} {f : FuncId} {tmps : Array Value} {assign body : Code} {w : World} {R : Ending → World → Prop} (h : RoundIn (wideR r') m P l f tmps assign body w R) : RoundIn (wideR r) n P l f tmps assign body w R :=
  ⟨trivial, fun c cs _ => h.2 c cs fun d hd => by simp [wideR, Fence.wide] at hd⟩
theorem calls_in {f : FuncId} {args : Array Value} {w : World} {R : Ending → World → Prop} (h : Calls P f args w R) : CallsIn (wideR r) n P f args w R := (callsIn_wide (n := n)).2 h
theorem calls_out {f : FuncId} {args : Array Value} {w : World} {R : Ending → World → Prop} (h : CallsIn (wideR r) n P f args w R) : Calls P f args w R := (callsIn_wide (n := n)).1 h

theorem wp_in {o : Oper} {a : Act} {w : World} {K1 K2 : Act → World → Prop} {Q Q' : Exit → Act → World → Prop} (hd : ∀ c, o.op ≠ .defer c) (hK : ∀ a w, K1 a w → K2 a w) (hQ : ∀ e a w, e ≠ .normal → ¬ Q e a w) (h : o.wp P a w K1 Q) : o.wpIn (wideR r) n P a w K2 Q' := by
  refine ⟨fun _ _ => trivial, ?_⟩
  rw [Oper.semAt_eq _ _ _ hd]
  unfold Oper.wp at h
  generalize (execOp a.eval o).run P w = res at *
  cases res with
  | ok x w' =>
    cases x <;> simp only [Oper.upon] at h <;> simp only [Oper.uponIn]
    case value v => exact hK _ _ h
    case skip => exact hK _ _ h
    case defer d => exact hK _ _ h
    case enter f args =>
      refine ⟨no_depth, calls_in (h.mono fun e w'' he => ?_)⟩
      cases e with
      | returned v => exact hK _ _ he
      | panicked c => exact (hQ _ _ _ (by simp) he).elim
      | outgrown => obtain ⟨a, w, he⟩ := he; exact (hQ _ _ _ (by simp) he).elim
    case row row args =>
      refine ⟨no_depth, fun c cs _ => ?_⟩
      obtain ⟨v, w'', h1, h2⟩ := h c cs
      exact ⟨v, w'', hK _ _ h1, stepsIn_wide.2 h2⟩
    all_goals exact h.elim
  | halt x w' =>
    cases x <;> simp only [Oper.upon] at h <;> simp only [Oper.uponIn]
    case panic v => exact (hQ _ _ _ (by simp) h).elim
    all_goals exact h.elim

theorem onlyN_no {K' : Act → World → Prop} : ∀ e a w, e ≠ Exit.normal → ¬ onlyN K' e a w := fun e a w he h => by cases e <;> first | exact he rfl | exact h

theorem wpOp_in {ops : Array Oper} {K' K1 K2 : Act → World → Prop} (hd : noDef ops.toList = true) {i : Nat} {a : Act} {w : World} (hK : ∀ a w, K1 a w → K2 a w) (h : wpOp P ops (onlyN K') i K1 a w) : wpOpIn (wideR r) n P ops (onlyN K') i K2 a w := by
  unfold wpOp at h
  unfold wpOpIn
  cases ho : ops[i]? with
  | none => simp only [ho] at h ⊢; exact hK _ _ h
  | some o =>
    simp only [ho] at h ⊢
    have hm := noDef_mem hd o (by simpa using Array.mem_of_getElem? ho)
    split
    · rename_i hw
      rw [if_pos hw] at h
      rcases h with h | ⟨_, a, w, h⟩
      · exact wp_in hm hK onlyN_no h
      · exact (onlyN_no _ _ _ (by simp) h).elim
    · rename_i hw
      rw [if_neg hw] at h
      exact ⟨fun _ _ => trivial, hK _ _ h⟩

theorem wpAny_in {ops : Array Oper} {md : Region.Mode} {K' : Act → World → Prop} (hd : noDef ops.toList = true) : ∀ (fuel : Nat) (listed : Array Bool) (a : Act) (w : World), wpAny P md ops (onlyN K') fuel listed a w → wpAnyIn (wideR r) n P md ops (onlyN K') fuel listed a w
  | 0, _, _, _, h => h
  | fuel + 1, _, _, _, h => ⟨h.1, fun i hi => wpOp_in hd (fun a w h => wpAny_in hd fuel _ a w h) (h.2 i hi)⟩
end

/-! ### Operations, one of which may be yield -/
def yieldB (env : Env) (o : Oper) : Option (Nat × List LV) := match o.op with
  | .call c => match c.callee with
    | .value fo => match opd env fo with
      | .t (.v (.func (.yield l) ⟨[]⟩ _)) => some (l, c.args.toList.map (opd env))
      | _ => none
    | _ => none
  | _ => none

/-- What yield does, asked of the loop's body. -/
abbrev YW := Nat → List LV → Env → St → (Env → St → Prop) → Prop
def noY : YW := fun _ _ _ _ _ => False

def opY (C : Ctx) (P : Program) (Y : YW) (o : Oper) (env : Env) (st : St) (K' : LV → Env → St → Prop) : Prop := match yieldB env o with
  | some (l, args) => Y l args env st fun env st => strES env st (K' (.t (.v (.bool true))))
  | none => opW C P o env st K'

def regGoY (C : Ctx) (P : Program) (Y : YW) (ops : List Oper) (Q : Env → St → Prop) : List Oper → Env → St → Prop
  | [], env, st => Q env st
  | o :: r, env, st => match gdE ops env o with
    | some true => opY C P Y o env st fun x env st => splW (splK o.op) x fun x => regGoY C P Y ops Q r (putE env o.dst x) st
    | some false => regGoY C P Y ops Q r (putE env o.dst (.tup [])) st
    | none => False

/-- What is asked of code that may call yield. -/
def wpcY (C : Ctx) (P : Program) (Y : YW) (kp : Kp) (od : Od) : Code → Env → St → (Exit → Env → St → Prop) → Prop
  | .skip, env, st, Q => Q .normal env st
  | .label _, env, st, Q => Q .normal env st
  | .region id ops draw, env, st, Q => match draw with
    | false => regGoY C P Y ops.toList (Q .normal) ops.toList env st
    | true => match look od id with
      | some ord => seqW C P ops.toList (Q .normal) ord env st
      | none => False
  | .seq a b, env, st, Q => wpcY C P Y kp od a env st (thenW (fun env st => entW kp b env st fun env st => wpcY C P Y kp od b env st Q) Q)
  | .cond c a b, env, st, Q => match opd env c with
    | .t (.v (.bool t)) => match t with
      | true => wpcY C P Y kp od a env st Q
      | false => wpcY C P Y kp od b env st Q
    | _ => False
  | .block id b, env, st, Q => wpcY C P Y kp od b env st (blockW id Q)
  | .loop b, env, st, Q => LoopW kp b (fun env st Q => wpcY C P Y kp od b env st Q) env st Q
  | .exit id, env, st, Q => Q (.exit id) env st
  | .ret, env, st, Q => Q .ret env st
  | _, _, _, _ => False

/-- What is looked at ahead of the walk. -/
def codeYOK (N : Nat) (od : Od) : Code → Bool
  | .region id ops draw => noDef ops.toList && (dstOK N ops.toList && (match draw with
    | false => true
    | true => match look od id with
      | some ord => ordOK ops ord
      | none => false))
  | .seq a b => codeYOK N od a && codeYOK N od b
  | .cond _ a b => codeYOK N od a && codeYOK N od b
  | .block _ b => codeYOK N od b
  | .loop b => codeYOK N od b
  | .skip | .label _ | .exit _ | .ret => true
  | _ => false

/-- What is known of yield. -/
def YOK (P : Program) (E : Ent) (N : Nat) (Y : YW) : Prop :=
  ∀ (l : Nat) (args : List LV) (vals : List Value) (env : Env) (st : St) (K' : Env → St → Prop) (β : K → Nat) (RO : Nat → Prop) (a : Act) (w : World), SR E N β RO env st a w → Vals β RO w args vals → Y l args env st K' →
    YieldAt (wideR none) 0 P l vals.toArray w fun e w' => e = .returned (.bool true) ∧ ∃ env' st' β' RO', K' env' st' ∧ SR E N β' RO' env' st' a w'
theorem noY_ok {P : Program} {E : Ent} {N : Nat} : YOK P E N noY := fun _ _ _ _ _ _ _ _ _ _ _ _ h => h.elim

section
variable {C : Ctx} {P : Program} {E : Ent} {N : Nat} {β : K → Nat} {RO : Nat → Prop} {env env' : Env} {st st' : St} {a : Act} {w w' : World} {kp : Kp} {od : Od} {r : Option Nat} {n : Nat} {Y : YW}

theorem vals_map (h : SR E N β RO env st a w) (l : List Operand) : Vals β RO w (l.map (opd env)) (l.map a.eval) := ⟨by simp, fun i x v hx hv => by
  rw [List.getElem?_map] at hx hv
  cases hc : l[i]? with
  | none => rw [hc] at hx; cases hx
  | some y =>
    simp only [hc, Option.map_some, Option.some.injEq] at hx hv
    rw [← hx, ← hv]; exact h.opd y⟩

theorem opY_in (hC : C.OK P) (hY : YOK P E N Y) {o : Oper} {K' : LV → Env → St → Prop} {Q : Act → World → Prop} {Q' : Exit → Act → World → Prop} (hd : ∀ c, o.op ≠ .defer c) (h : SR E N β RO env st a w) (hW : opY C P Y o env st K')
    (hQ : ∀ v x env' st' β' RO' w', K' x env' st' → SR E N β' RO' env' st' a w' → VL β' RO' w' x v → Q (a.put o.dst v) w') : o.wpIn (wideR r) n P a w Q Q' := by
  unfold opY at hW
  split at hW
  · rename_i l args hy
    refine ⟨fun _ _ => trivial, ?_⟩
    rw [Oper.semAt_eq _ _ _ hd]
    unfold yieldB at hy
    split at hy
    rotate_left
    · cases hy
    rename_i c hop
    split at hy
    rotate_left
    · cases hy
    rename_i fo hcal
    split at hy
    rotate_left
    · cases hy
    rename_i l' caps hf
    cases hy
    have hfv := h.opd fo
    rw [hf] at hfv
    have hv := hfv.v_inv
    obtain ⟨fn, tmps, assign, body, hrun, hR⟩ := hY _ _ _ _ _ _ _ _ _ _ h (vals_map h c.args.toList) hW
    have hexe : (execOp a.eval o).run P w = .ok (.round l fn tmps assign body) w := by
      simp only [execOp, hop, resolve, hcal, hv, Deferred.ofValue, Sem.run_bind, Sem.run_pure, Result.andThen_ok, invoke]
      have he : (c.args.map a.eval) = (c.args.toList.map a.eval).toArray := by rw [← Array.toList_inj]; simp
      simpa [he] using hrun
    rw [hexe, Oper.uponIn_round]
    refine ⟨no_depth, RoundIn.mono (R := fun e w' => e = .returned (.bool true) ∧ ∃ env' st' β' RO', strES env' st' (K' (.t (.v (.bool true)))) ∧ SR E N β' RO' env' st' a w') ?_ ?_⟩
    · exact round_any hR
    · rintro e w' ⟨rfl, env', st', β', RO', hK, hs⟩
      exact hQ _ _ env' st' β' RO' w' (strES_gives hK) hs (.t _ _ (.v _ rfl))
  · exact wp_in hd (fun _ _ h => h) (fun _ _ _ _ h => h) (opW_sound hC h hW hQ)

theorem regGoY_in (hC : C.OK P) (hY : YOK P E N Y) {ops : Array Oper} {Q : Env → St → Prop} {Q' : Exit → Act → World → Prop} (hnd : noDef ops.toList = true) (hd : dstOK N ops.toList = true) (hQ : ∀ env st β RO a w, Q env st → SR E N β RO env st a w → Q' .normal a w) :
    ∀ (l : List Oper) (k : Nat) (β : K → Nat) (RO : Nat → Prop) (env : Env) (st : St) (a : Act) (w : World), ops.toList.drop k = l → SR E N β RO env st a w → regGoY C P Y ops.toList Q l env st → wpOpsIn (wideR r) n P ops Q' (List.range' k l.length) a w
  | [], k, β, RO, env, st, a, w, _, h, hW => hQ env st β RO a w hW h
  | o :: l, k, β, RO, env, st, a, w, hk, h, hW => by
    have hok : ops[k]? = some o := by
      have : (ops.toList.drop k)[0]? = some o := by rw [hk]; rfl
      rw [List.getElem?_drop, Nat.add_zero, Array.getElem?_toList] at this
      exact this
    have hdr : ops.toList.drop (k + 1) = l := by
      have := congrArg (List.drop 1) hk
      rw [List.drop_drop] at this
      simpa [Nat.add_comm] using this
    have hmem : o ∈ ops.toList := by
      have : o ∈ ops.toList.drop k := by rw [hk]; exact List.mem_cons_self ..
      exact List.mem_of_mem_drop this
    have hdo : ∀ d, o.dst = some d → d < N := dstOK_mem hd o hmem
    simp only [List.length_cons, List.range'_succ, wpOpsIn, hok]
    unfold regGoY at hW
    split at hW
    · rename_i hg
      rw [gdE_wanted hd h hg, if_pos rfl]
      exact opY_in hC hY (noDef_mem hnd o hmem) h hW fun v x env' st' β' RO' w' hK hs hv =>
        regGoY_in hC hY hnd hd hQ l (k + 1) β' RO' _ st' _ w' hdr (hs.put hv hdo) (splW_gives hK)
    · rename_i hg
      rw [gdE_wanted hd h hg, if_neg (by simp)]
      exact ⟨fun _ _ => trivial, regGoY_in hC hY hnd hd hQ l (k + 1) β RO _ st _ w hdr (h.put .skip hdo) hW⟩
    · cases hW

theorem seqW_any (hC : C.OK P) {ops : Array Oper} {ord : List (Nat × Kind)} {Q : Env → St → Prop} {K' : Act → World → Prop} (hd : dstOK N ops.toList = true) (ho : ordOK ops ord = true) (hQ : ∀ env st β RO a w, Q env st → SR E N β RO env st a w → K' a w)
    (h : SR E N β RO env st a w) (hW : seqW C P ops.toList Q ord env st) : wpAny P .any ops (onlyN K') ops.size (Array.replicate ops.size false) a { w with drawn := w.drawn + 1 } := by
  have e : (fun e a w => match e with | .normal => K' a w | _ => False : Exit → Act → World → Prop) = onlyN K' := by
    funext e a w
    cases e <;> rfl
  exact e ▸ drawn_sound (K' := K') hC hd ho hQ h hW

theorem wpcY_in (hC : C.OK P) (hY : YOK P E N Y) : ∀ (c : Code), codeYOK N od c = true → ∀ (β : K → Nat) (RO : Nat → Prop) (env : Env) (st : St) (a : Act) (w : World) (Q : Exit → Env → St → Prop), SR E N β RO env st a w → wpcY C P Y kp od c env st Q → c.wpIn (wideR r) n P (Post E N Q) a w
  | .skip, _, β, RO, env, st, a, w, Q, h, hW => wpIn_skip ⟨env, st, β, RO, hW, h⟩
  | .label _, _, β, RO, env, st, a, w, Q, h, hW => wpIn_label ⟨env, st, β, RO, hW, h⟩
  | .exit _, _, β, RO, env, st, a, w, Q, h, hW => wpIn_exit ⟨env, st, β, RO, hW, h⟩
  | .ret, _, β, RO, env, st, a, w, Q, h, hW => wpIn_ret ⟨env, st, β, RO, hW, h⟩
  | .region id ops draw, hk, β, RO, env, st, a, w, Q, h, hW => by
    simp only [codeYOK, Bool.and_eq_true] at hk
    cases draw with
    | false =>
      refine wpIn_region ?_
      rw [List.range_eq_range', show ops.size = ops.toList.length by simp]
      exact regGoY_in hC hY hk.1 hk.2.1 (fun env st β RO a w hq hs => ⟨env, st, β, RO, hq, hs⟩) ops.toList 0 β RO env st a w rfl h hW
    | true =>
      obtain ⟨h0, h1, h2⟩ := hk
      simp only [wpcY] at hW
      simp only at h2
      split at hW
      · rename_i ord ho
        rw [ho] at h2
        have hA := seqW_any (K' := fun a w => Post E N Q .normal a w) hC h1 h2 (fun env st β RO a w hq hs => ⟨env, st, β, RO, hq, hs⟩) h hW
        exact wpIn_mono (wpIn_region_any hC.mixed (wpAny_in h0 _ _ _ _ hA)) fun e a w hq => by
          cases e <;> first | exact hq | exact hq.elim
      · cases hW
  | .seq x y, hk, β, RO, env, st, a, w, Q, h, hW => by
    simp only [codeYOK, Bool.and_eq_true] at hk
    refine wpIn_seq (wpIn_mono (wpcY_in hC hY x hk.1 β RO env st a w _ h hW) ?_)
    rintro e a w ⟨env, st, β, RO, hq, hs⟩
    cases e with
    | normal =>
      have hq' : entW kp y env st fun env st => wpcY C P Y kp od y env st Q := hq
      obtain ⟨env', st', h1, h2⟩ := hs.ent hq'
      exact wpcY_in hC hY y hk.2 β RO _ _ a w Q h2 h1
    | _ => exact ⟨env, st, β, RO, hq, hs⟩
  | .cond c x y, hk, β, RO, env, st, a, w, Q, h, hW => by
    simp only [codeYOK, Bool.and_eq_true] at hk
    have hc := h.opd c
    simp only [wpcY] at hW
    split at hW
    · rename_i t ht
      rw [ht] at hc
      cases t with
      | true => exact wpIn_cond_true hc.v_inv (wpcY_in hC hY x hk.1 β RO env st a w Q h hW)
      | false => exact wpIn_cond_false hc.v_inv (wpcY_in hC hY y hk.2 β RO env st a w Q h hW)
    · cases hW
  | .block id b, hk, β, RO, env, st, a, w, Q, h, hW => by
    refine wpIn_block (wpIn_mono (wpcY_in hC hY b (by simpa [codeYOK] using hk) β RO env st a w _ h hW) ?_)
    rintro e a w ⟨env, st, β, RO, hq, hs⟩
    cases e with
    | exit i =>
      simp only [blockW] at hq
      simp only [Exit.inBlock]
      by_cases hi : i = id
      · subst hi
        simp only [Nat.beq_refl] at hq
        rw [if_pos rfl]; exact ⟨env, st, β, RO, hq, hs⟩
      · rw [if_neg hi]
        split at hq
        · rename_i hb; exact absurd (by simpa using hb) hi
        · exact ⟨env, st, β, RO, hq, hs⟩
    | _ => exact ⟨env, st, β, RO, hq, hs⟩
  | .loop b, hk, β, RO, env, st, a, w, Q, h, hW => by
    obtain ⟨ι, I, F, S, m, i0, hI0, hE0, hW⟩ := hW
    obtain ⟨env1, st1, ⟨hF0, hS0⟩, hs0⟩ := h.ent hE0
    classical
    let R : Nat → Act → World → Prop := fun n a w => ∃ i, m i = n ∧ I i ∧ ∃ β RO, SR E N β RO (F i) (S i) a w
    let μ : Act → World → Nat := fun a w => if h : ∃ n, R n a w then Classical.choose (least h) else 0
    refine wpIn_loop (fun a w => ∃ n, R n a w) μ ⟨_, i0, rfl, hI0, β, RO, by rw [← hF0, ← hS0]; exact hs0⟩ ?_
    intro a w hn
    have hμ : μ a w = Classical.choose (least hn) := dif_pos hn
    obtain ⟨i, hi, hI, β, RO, hs⟩ := (Classical.choose_spec (least hn)).1
    refine wpIn_mono (wpcY_in hC hY b (by simpa [codeYOK] using hk) β RO _ _ a w _ hs (hW i hI)) ?_
    rintro e a' w' ⟨env, st, β, RO, hq, hs⟩
    cases e with
    | normal =>
      obtain ⟨j, hj, hIj, hEj⟩ := hq
      obtain ⟨env1, st1, ⟨hFj, hSj⟩, hs1⟩ := hs.ent hEj
      have hR : R (m j) a' w' := ⟨j, rfl, hIj, β, RO, by rw [← hFj, ← hSj]; exact hs1⟩
      refine ⟨⟨_, hR⟩, ?_⟩
      have h1 : μ a' w' = Classical.choose (least ⟨_, hR⟩) := dif_pos ⟨_, hR⟩
      rw [h1, hμ, ← hi]
      exact Nat.lt_of_le_of_lt ((Classical.choose_spec (least (R := fun n => R n a' w') ⟨_, hR⟩)).2 _ hR) hj
    | _ => exact ⟨env, st, β, RO, hq, hs⟩
  | .scope _, _, _, _, _, _, _, _, _, _, hW => hW.elim
  | .goto _, _, _, _, _, _, _, _, _, _, hW => hW.elim
  | .rangeFunc _ _ _ _, _, _, _, _, _, _, _, _, _, hW => hW.elim
  | .refuse _, _, _, _, _, _, _, _, _, _, hW => hW.elim

end
end Go.Fw

/- The value logic, part 23: a loop over a function. -/
namespace Go.Fw
open Go

/-! ### Slots of another frame -/
def selE (lo hi d : Nat) : Env → Env
  | [] => []
  | (n, x) :: r => match Nat.ble lo n, Nat.blt n hi with
    | true, true => (n - lo + d, x) :: selE lo hi d r
    | _, _ => selE lo hi d r
theorem look_selE {lo hi d : Nat} : ∀ {env : Env} {m : Nat} {x : LV}, look (selE lo hi d env) m = some x → ∃ n, lo ≤ n ∧ n < hi ∧ m + lo = n + d ∧ look env n = some x
  | [], m, x, h => by simp [selE, look] at h
  | (k, y) :: r, m, x, h => by
    simp only [selE] at h
    split at h
    · rename_i h1 h2
      have h1 : lo ≤ k := Nat.le_of_ble_eq_true h1
      have h2 : k < hi := by rw [Nat.blt_eq] at h2; exact h2
      rw [look_cons] at h
      split at h
      · rename_i he
        cases h
        exact ⟨k, h1, h2, by omega, by rw [look_cons, if_pos rfl]⟩
      · rename_i he
        obtain ⟨n, g1, g2, g3, g4⟩ := look_selE h
        exact ⟨n, g1, g2, g3, by rw [look_cons, if_neg (by intro e; subst e; exact he (by omega))]; exact g4⟩
    · rename_i hno
      obtain ⟨n, g1, g2, g3, g4⟩ := look_selE h
      refine ⟨n, g1, g2, g3, ?_⟩
      rw [look_cons, if_neg]
      · exact g4
      · intro e
        subst e
        exact hno (by rw [Nat.ble_eq]; exact g1) (by rw [Nat.blt_eq]; exact g2)
theorem look_app {a b : Env} {n : Nat} {x : LV} (h : look (a ++ b) n = some x) : look a n = some x ∨ (look a n = none ∧ look b n = some x) := by
  induction a with
  | nil => exact .inr ⟨rfl, h⟩
  | cons p r ih =>
    obtain ⟨m, y⟩ := p
    rw [List.cons_append, look_cons] at h
    rw [look_cons]
    split at h
    · rename_i he; rw [if_pos he]; exact .inl h
    · rename_i he; rw [if_neg he]; exact ih h

def zipE : List Nat → List LV → Env
  | p :: ps, x :: xs => (p, x) :: zipE ps xs
  | _, _ => []
theorem look_zipE : ∀ {ps : List Nat} {xs : List LV} {n : Nat} {x : LV}, look (zipE ps xs) n = some x → ∃ i : Nat, ps[i]? = some n ∧ xs[i]? = some x ∧ ∀ j : Nat, j < i → ps[j]? ≠ some n
  | [], _, n, x, h => by simp [zipE, look] at h
  | _ :: _, [], n, x, h => by simp [zipE, look] at h
  | p :: ps, y :: ys, n, x, h => by
    simp only [zipE, look_cons] at h
    split at h
    · rename_i he
      cases h
      exact ⟨0, by simp [he], rfl, fun j hj => by omega⟩
    · rename_i he
      obtain ⟨i, h1, h2, h3⟩ := look_zipE h
      refine ⟨i + 1, by simpa using h1, by simpa using h2, fun j hj => ?_⟩
      cases j with
      | zero => simpa using he
      | succ j => simpa using h3 j (by omega)
theorem look_zipE_none : ∀ {ps : List Nat} {xs : List LV} {n : Nat}, ps.length = xs.length → look (zipE ps xs) n = none → n ∉ ps
  | [], _, n, _, _ => by simp
  | _ :: _, [], n, h, _ => by simp at h
  | p :: ps, y :: ys, n, hl, h => by
    simp only [zipE, look_cons] at h
    split at h
    · cases h
    · rename_i he
      have := look_zipE_none (ps := ps) (xs := ys) (n := n) (by simpa using hl) h
      simp only [List.mem_cons, not_or]
      exact ⟨fun e => he e.symm, this⟩

def psOK (N : Nat) : List Nat → Bool
  | [] => true
  | p :: r => Nat.blt p N && !(r.elem p) && psOK N r
theorem psOK_spec {N : Nat} : ∀ {l : List Nat}, psOK N l = true → l.Nodup ∧ ∀ p ∈ l, p < N
  | [], _ => ⟨.nil, by simp⟩
  | p :: r, h => by
    simp only [psOK, Bool.and_eq_true, Bool.not_eq_true', Nat.blt_eq] at h
    obtain ⟨⟨h1, h2⟩, h3⟩ := h
    obtain ⟨g1, g2⟩ := psOK_spec h3
    refine ⟨List.nodup_cons.2 ⟨fun hm => ?_, g1⟩, fun q hq => ?_⟩
    · rw [List.elem_eq_mem] at h2; simp [hm] at h2
    · rcases List.mem_cons.1 hq with rfl | hq
      · exact h1
      · exact g2 q hq

theorem foldl_put : ∀ (l : List (Nat × Value)) (t : Array Value), (l.map (·.1)).Nodup → (∀ p ∈ l, p.1 < t.size) →
    (l.foldl (fun t p => t.setIfInBounds p.1 p.2) t).size = t.size ∧ (∀ (i : Nat) (p : Nat × Value), l[i]? = some p → (l.foldl (fun t p => t.setIfInBounds p.1 p.2) t)[p.1]? = some p.2) ∧ ∀ n, n ∉ l.map (·.1) → (l.foldl (fun t p => t.setIfInBounds p.1 p.2) t)[n]? = t[n]?
  | [], t, _, _ => ⟨rfl, fun i p h => by simp at h, fun n _ => rfl⟩
  | q :: r, t, hn, hl => by
    simp only [List.map_cons, List.nodup_cons] at hn
    obtain ⟨g1, g2, g3⟩ := foldl_put r (t.setIfInBounds q.1 q.2) hn.2 fun p hp => by rw [Array.size_setIfInBounds]; exact hl p (List.mem_cons_of_mem _ hp)
    simp only [List.foldl_cons]
    refine ⟨by rw [g1, Array.size_setIfInBounds], fun i p hp => ?_, fun n hm => ?_⟩
    · cases i with
      | zero =>
        simp only [List.getElem?_cons_zero, Option.some.injEq] at hp
        subst hp
        rw [g3 _ hn.1]
        simp [hl q (List.mem_cons_self ..)]
      | succ i => exact g2 i p (by simpa using hp)
    · simp only [List.map_cons, List.mem_cons, not_or] at hm
      rw [g3 n hm.2, Array.getElem?_setIfInBounds_ne (Ne.symm hm.1)]

/-- The slots of a round; and those of the function that called yield. -/
def rndE (ps : List Nat) (args : List LV) (env : Env) : Env := zipE ps args ++ (selE 1000000 2000000 0 env ++ (selE 1000000 2000000 1000000 env ++ selE 0 1000000 2000000 env))
def backE (env : Env) : Env := selE 2000000 3000000 0 env ++ selE 1000000 2000000 1000000 env

def nrmW (K' : Env → St → Prop) (e : Exit) (env : Env) (st : St) : Prop := match e with
  | .normal => K' env st
  | _ => False
/-- What yield does: the loop's assignments and its body. -/
def bodyW (C : Ctx) (P : Program) (kp : Kp) (od : Od) (ps : List Nat) (assign body : Code) (l0 : Nat) : YW := fun l args env st K' =>
  l = l0 ∧ args.length = ps.length ∧ wpcY C P noY kp od assign (rndE ps args env) st (nrmW fun env st => wpcY C P noY kp od body env st (nrmW fun env st => K' (backE env) st))

def endW (K' : Env → St → Prop) (e : Exit) (env : Env) (st : St) : Prop := match e with
  | .normal | .ret => K' (selE 1000000 2000000 0 env) st
  | _ => False
def rangeFW (C : Ctx) (P : Program) (kp5 : Kp) (od5 : Od) (kp : Kp) (od : Od) (g : Operand) (ps : List Nat) (assign body : Code) (env : Env) (st : St) (Q : Env → St → Prop) : Prop :=
  match opd env g with
  | .fn fi cap => ∃ fn5 c5, P.funcs[fi]? = some fn5 ∧ fn5.body = some c5 ∧ fn5.results = #[] ∧ FnOK P fi ∧ (Nat.ble fn5.ntmps 1000000 && (Nat.ble (cap.length + 1) fn5.ntmps && codeYOK fn5.ntmps od5 c5)) = true ∧
      ∀ l, wpcY C P (bodyW C P kp od ps assign body l) kp5 od5 c5 (argE 0 (.t (.v (.func (.yield l) #[] #[])) :: capArgs cap) ++ selE 0 1000000 1000000 env) st (endW Q)
  | _ => False

/-! ### A walk begun anew, in a memory where other things lie -/
def Ent.nest (E : Ent) (β : K → Nat) (RO : Nat → Prop) (st : St) (w : World) (gh : Nat → Option Value) (dfs : List Deferred) : Ent :=
  { w0 := w, RO0 := RO, Wr := fun b => ∃ k o, st.get k = some o ∧ E.can k ∧ b = β k, β0 := E.β0, mv := E.mv, fz := E.fz, gh := gh, dfs := dfs }
/-- No object, and nothing that is read for ever, lies there. -/
structure Unt (β : K → Nat) (RO : Nat → Prop) (st : St) (l : Nat) : Prop where
  ro : ¬ RO l
  ob : ∀ k o, st.get k = some o → β k ≠ l

section
variable {C : Ctx} {P : Program} {E E' : Ent} {N : Nat} {β β' : K → Nat} {RO RO' : Nat → Prop} {env env' : Env} {st st' : St} {a a' : Act} {w w' : World} {gh : Nat → Option Value} {dfs : List Deferred} {l : Nat}

theorem putObj_other {ob : Obj} {b : Nat} (h : b ≠ l) : (w.putObj l ob).heap[b]? = w.heap[b]? := World.putObj_heap_other h
theorem VL.unt (hl : ¬ RO l) (hs : w.shape? l = none) {ob : Obj} {x : LV} {v : Value} (h : VL β RO w x v) : VL β RO (w.putObj l ob) x v :=
  h.mono (fun _ h => h) (fun b hb => putObj_other (l := l) fun e => hl (e ▸ hb)) (fun _ => True) (fun k _ => ⟨rfl, fun r hr => (shape_of_block (putObj_other (l := l) fun e => by rw [e, hs] at hr; cases hr)).trans hr⟩) fun _ _ => trivial
theorem ObOK.unt (hl : Unt β RO st l) (hs : w.shape? l = none) {ob : Obj} {k : K} {o : Ob} (hk : st.get k = some o) (h : ObOK β RO w k o) : ObOK β RO (w.putObj l ob) k o :=
  h.keep (fun _ h => h) (fun b hb => putObj_other (l := l) fun e => hl.ro (e ▸ hb)) rfl (putObj_other (l := l) (hl.ob k o hk)) (fun _ _ _ _ _ hv => hv.unt hl.ro hs) (fun _ _ _ _ _ _ _ _ => ⟨rfl, fun r hr => (shape_of_block (putObj_other (l := l) fun e => by rw [e, hs] at hr; cases hr)).trans hr⟩)
    fun m left hm => by
      subst hm
      obtain ⟨_, _, _, _, _, hr, _⟩ := h
      exact ⟨rfl, putObj_other (l := l) fun e => hl.ro (e ▸ hr)⟩

theorem WR.putU (h : WR E β RO st w) (hl : Unt β RO st l) (hs : w.shape? l = none) (hn : E.w0.heap.size ≤ l) (ob : Obj) : WR E β RO st (w.putObj l ob) :=
  ⟨h.os, h.tape, h.output, by rw [World.putObj_size]; exact h.size, fun b hb hw => (putObj_other (l := l) (by omega)).trans (h.keep b hb hw), fun b hb => by rw [World.putObj_size]; exact h.roLt b hb, h.ro0, h.roNew, fun k o hk => (h.obj k o hk).unt hl hs hk,
    h.objNew, h.inj, h.sep, h.fzRO, h.stay⟩

theorem WR.nest (h : WR E β RO st w) (hsz : w'.heap.size = w.heap.size) (hob : ∀ k o, st.get k = some o → ObOK β RO w' k o) : WR (E.nest β RO st w' gh dfs) β RO st w' :=
  ⟨rfl, rfl, rfl, Nat.le_refl _, fun _ _ _ => rfl, fun b hb => by rw [hsz]; exact h.roLt b hb, fun _ h => h, fun _ h => .inl h, hob, fun k o hk hc => .inl ⟨k, o, hk, hc, rfl⟩, h.inj, h.sep, h.fzRO, h.stay⟩

theorem nest_wr (h : WR E β RO st w) {b : Nat} (hb : b < E.w0.heap.size) (hw : ¬ E.Wr b) : ¬ (E.nest β RO st w' gh dfs).Wr b := by
  rintro ⟨k, o, hk, hc, rfl⟩
  rcases h.objNew k o hk hc with h1 | h1
  · exact hw h1
  · omega

/-- What was told of the walk that was begun anew is told of the walk. -/
theorem WR.nest_back (h : WR E β RO st w) (h2 : WR (E.nest β RO st w gh dfs) β' RO' st' w') : WR E β' RO' st' w' :=
  ⟨h2.os.trans h.os, h2.tape.trans h.tape, h2.output.trans h.output, Nat.le_trans h.size h2.size, fun b hb hw => (h2.keep b (Nat.lt_of_lt_of_le hb h.size) (nest_wr h hb hw)).trans (h.keep b hb hw), h2.roLt, fun b hb => h2.ro0 b (h.ro0 b hb),
    fun b hb => (h2.roNew b hb).elim (h.roNew b) fun hb => hb.elim (fun hb => .inr (.inl (Nat.le_trans h.size hb))) fun ⟨k, o, hk, hc, e⟩ => (h.objNew k o hk hc).elim (fun h => .inr (.inr (e ▸ h))) fun h => .inr (.inl (e ▸ h)),
    h2.obj, fun k o hk hc => (h2.objNew k o hk hc).elim (fun ⟨k', o', hk', hc', e⟩ => e ▸ h.objNew k' o' hk' hc') fun hb => .inr (Nat.le_trans h.size hb), h2.inj, h2.sep, h2.fzRO, h2.stay⟩

theorem Unt.nest (hl : Unt β RO st l) (hlt : l < w.heap.size) (h2 : WR (E.nest β RO st w gh dfs) β' RO' st' w') : Unt β' RO' st' l ∧ w'.heap[l]? = w.heap[l]? := by
  have hnw : ¬ (E.nest β RO st w gh dfs).Wr l := fun ⟨k, o, hk, _, e⟩ => hl.ob k o hk e.symm
  have hro : ¬ RO' l := fun hr => by
    rcases h2.roNew l hr with h | h | h
    · exact hl.ro h
    · have : w.heap.size ≤ l := h; omega
    · exact hnw h
  refine ⟨⟨hro, fun k o hk e => ?_⟩, h2.keep l hlt hnw⟩
  by_cases hc : (E.nest β RO st w gh dfs).can k
  · rcases h2.objNew k o hk hc with h | h
    · exact hnw (e ▸ h)
    · have : w.heap.size ≤ β' k := h; omega
  · exact hro (e ▸ h2.fzRO k o hk hc)

/-- .. and a record that was turned meanwhile is turned back. -/
theorem WR.swap (h : WR E β RO st w) (hl : Unt β RO st l) {ob0 ob1 : Obj} (hrec : w.heap[l]? = some ob0) (h2 : WR (E.nest β RO st (w.putObj l ob1) gh dfs) β' RO' st' w') (hc1 : w'.shape? l = none) :
    WR E β' RO' st' (w'.putObj l ob0) := by
  have hlt : l < w.heap.size := (Array.getElem?_eq_some_iff.1 hrec).1
  obtain ⟨hl', _⟩ := hl.nest (w := w.putObj l ob1) (by rw [World.putObj_size]; exact hlt) h2
  have hsz : w.heap.size ≤ w'.heap.size := by have := h2.size; rwa [show (E.nest β RO st (w.putObj l ob1) gh dfs).w0 = w.putObj l ob1 from rfl, World.putObj_size] at this
  refine ⟨h2.os.trans h.os, h2.tape.trans h.tape, h2.output.trans h.output, by rw [World.putObj_size]; exact Nat.le_trans h.size hsz, fun b hb hw => ?_, fun b hb => by rw [World.putObj_size]; exact h2.roLt b hb, fun b hb => h2.ro0 b (h.ro0 b hb),
    fun b hb => (h2.roNew b hb).elim (h.roNew b) fun hb => hb.elim (fun hb => .inr (.inl (Nat.le_trans h.size (by rwa [show (E.nest β RO st (w.putObj l ob1) gh dfs).w0 = w.putObj l ob1 from rfl, World.putObj_size] at hb)))) fun ⟨k, o, hk, hc, e⟩ => (h.objNew k o hk hc).elim (fun h => .inr (.inr (e ▸ h))) fun h => .inr (.inl (e ▸ h)),
    fun k o hk => (h2.obj k o hk).unt hl' hc1 hk, fun k o hk hc => (h2.objNew k o hk hc).elim (fun ⟨k', o', hk', hc', e⟩ => e ▸ h.objNew k' o' hk' hc') fun hb => .inr (Nat.le_trans h.size (by rwa [show (E.nest β RO st (w.putObj l ob1) gh dfs).w0 = w.putObj l ob1 from rfl, World.putObj_size] at hb)), h2.inj, h2.sep, h2.fzRO, h2.stay⟩
  by_cases he : b = l
  · subst he
    rw [World.putObj_heap_same (Nat.lt_of_lt_of_le hlt hsz), ← hrec]
    exact h.keep b hb hw
  · rw [putObj_other (l := l) he]
    refine (h2.keep b (by rw [show (E.nest β RO st (w.putObj l ob1) gh dfs).w0 = w.putObj l ob1 from rfl, World.putObj_size]; exact Nat.lt_of_lt_of_le hb h.size) (nest_wr h hb hw)).trans ?_
    exact (putObj_other (l := l) he).trans (h.keep b hb hw)

/-- A walk that goes on as another. -/
structure Out (E E' : Ent) : Prop where
  back : ∀ β RO st w, WR E' β RO st w → WR E β RO st w
  size : E.w0.heap.size ≤ E'.w0.heap.size
  keep : ∀ b, b < E.w0.heap.size → ¬ E.Wr b → E'.w0.heap[b]? = E.w0.heap[b]?
  wr : ∀ b, b < E.w0.heap.size → ¬ E.Wr b → ¬ E'.Wr b
  ro : ∀ b, b < E.w0.heap.size → ¬ E.Wr b → ¬ E.RO0 b → ¬ E'.RO0 b
  can : ∀ k, E'.can k ↔ E.can k
  marks : ∃ Ds : List Nat, E'.dfs = Ds.map (fun D => { target := .collected D, args := #[] }) ++ E.dfs ∧ Ds.Nodup ∧ ∀ D ∈ Ds, E'.w0.heap[D]? = some (.deferred (some [])) ∧ ¬ E'.Wr D ∧ ¬ E'.RO0 D ∧ E.w0.heap.size ≤ D
theorem Out.refl (E : Ent) : Out E E := ⟨fun _ _ _ _ h => h, Nat.le_refl _, fun _ _ _ => rfl, fun _ _ h => h, fun _ _ _ h => h, fun _ => Iff.rfl, [], rfl, .nil, by simp⟩
theorem Out.trans {E1 E2 E3 : Ent} (h : Out E1 E2) (h2 : Out E2 E3) : Out E1 E3 := by
  obtain ⟨D1, e1, n1, m1⟩ := h.marks
  obtain ⟨D2, e2, n2, m2⟩ := h2.marks
  refine ⟨fun β RO st w hw => h.back _ _ _ _ (h2.back _ _ _ _ hw), Nat.le_trans h.size h2.size, fun b hb hw => (h2.keep b (Nat.lt_of_lt_of_le hb h.size) (h.wr b hb hw)).trans (h.keep b hb hw), fun b hb hw => h2.wr b (Nat.lt_of_lt_of_le hb h.size) (h.wr b hb hw),
    fun b hb hw hr => h2.ro b (Nat.lt_of_lt_of_le hb h.size) (h.wr b hb hw) (h.ro b hb hw hr), fun k => (h2.can k).trans (h.can k), D2 ++ D1, by rw [e2, e1, List.map_append, List.append_assoc], List.nodup_append.2 ⟨n2, n1, fun x hx y hy => ?_⟩, fun D hD => ?_⟩
  · have := (m2 x hx).2.2.2
    have := (Array.getElem?_eq_some_iff.1 (m1 y hy).1).1
    omega
  · rcases List.mem_append.1 hD with hD | hD
    · obtain ⟨g1, g2, g3, g4⟩ := m2 D hD
      exact ⟨g1, g2, g3, Nat.le_trans h.size g4⟩
    · obtain ⟨g1, g2, g3, g4⟩ := m1 D hD
      have hlt := (Array.getElem?_eq_some_iff.1 g1).1
      exact ⟨(h2.keep D hlt g2).trans g1, h2.wr D hlt g2, h2.ro D hlt g2 g3, g4⟩

/-- The states in which a piece of code leaves, that may hold loops over functions. -/
def PostN (E : Ent) (N : Nat) (Q : Exit → Env → St → Prop) : Exit → Act → World → Prop := fun e a w => ∃ E' env st β RO, Q e env st ∧ SR E' N β RO env st a w ∧ Out E E'

end
end Go.Fw

/- The value logic, part 24: a loop over a function is right; functions that hold one. -/
namespace Go.Fw
open Go
set_option maxRecDepth 2000

def nrmQ (Q : Env → St → Prop) (e : Exit) (env : Env) (st : St) : Prop := e = .normal ∧ Q env st

section
variable {C : Ctx} {P : Program} {E : Ent} {N : Nat} {β : K → Nat} {RO : Nat → Prop} {env : Env} {st : St} {a : Act} {w : World} {kp kp5 : Kp} {od od5 : Od} {n : Nat}

theorem shape_loop {w : World} {l : Nat} {r : Loop} (h : w.heap[l]? = some (.loop r)) : w.shape? l = none := by simp [World.shape?, h]
theorem shape_def {w : World} {l : Nat} {r : Option (List Deferred)} (h : w.heap[l]? = some (.deferred r)) : w.shape? l = none := by simp [World.shape?, h]

theorem rangeF_in (hC : C.OK P) {g : Operand} {ps : Array Tmp} {assign body : Code} {Q : Env → St → Prop} (hk : (codeYOK N od assign && (codeYOK N od body && psOK N ps.toList)) = true) (h : SR E N β RO env st a w)
    (hW : rangeFW C P kp5 od5 kp od g ps.toList assign body env st Q) : (Code.rangeFunc g ps assign body).wpIn (wideR none) n P (PostN E N (nrmQ Q)) a w := by
  simp only [Bool.and_eq_true] at hk
  obtain ⟨hkA, hkB, hkP⟩ := hk
  obtain ⟨hpn, hpl⟩ := psOK_spec hkP
  unfold rangeFW at hW
  split at hW
  rotate_left
  · cases hW
  rename_i fi cap hg
  obtain ⟨fn5, c5, hf5, hb5, hr5, hfn, hk5, hW⟩ := hW
  simp only [Bool.and_eq_true] at hk5
  obtain ⟨hk50, hk51, hk52⟩ := hk5
  have hk50 : fn5.ntmps ≤ 1000000 := by simpa using hk50
  have hk51 : cap.length + 1 ≤ fn5.ntmps := by simpa using hk51
  refine wpIn_rangeFunc fun fnid _ => ?_
  have hgv := h.opd g
  rw [hg] at hgv
  obtain ⟨caps, hcaps, hav⟩ : ∃ caps, caps = (cap.map fun p => Value.pointer (some ⟨β p.1, p.2, none⟩)) ∧ a.eval g = .func (.func fi) #[] caps.toArray := by
    generalize a.eval g = v at hgv
    cases hgv; exact ⟨_, rfl, rfl⟩
  obtain ⟨l, hl⟩ : ∃ l, l = w.heap.size + 1 := ⟨_, rfl⟩
  obtain ⟨rc, hrc⟩ : ∃ rc : Loop, rc = { state := .ready, pending := none, fn := fnid, tmps := a.tmps, params := ps, assign, body, defers := w.heap.size } := ⟨_, rfl⟩
  obtain ⟨w1, hw1⟩ : ∃ w1, w1 = (w.alloc (.deferred (some []))).alloc (.loop rc) := ⟨_, rfl⟩
  have hs1 : w1.heap.size = w.heap.size + 2 := by rw [hw1, alloc_size, alloc_size]
  have hb1 : ∀ b, b < w.heap.size → w1.heap[b]? = w.heap[b]? := fun b hb => by
    rw [hw1, alloc_old _ _ _ (by rw [alloc_size]; omega), alloc_old _ _ _ hb]
  have hD1 : w1.heap[w.heap.size]? = some (.deferred (some [])) := by
    rw [hw1, alloc_old _ _ _ (by rw [alloc_size]; omega)]; exact alloc_new _ _
  have hL1 : w1.heap[l]? = some (.loop rc) := by
    rw [hl, hw1, show w.heap.size + 1 = (w.alloc (.deferred (some []))).heap.size by rw [alloc_size]]; exact alloc_new _ _
  have hh1 : SR E N β RO env st a w1 := h.later (by rw [hw1]; exact ⟨rfl, rfl, rfl, by rw [alloc_size, alloc_size]; omega⟩) hb1
  have hun : ∀ {b : Nat}, w.heap.size ≤ b → Unt β RO st b := fun hb => ⟨fun hr => by have := h.wr.roLt _ hr; omega, fun k o hk e => by have := (h.wr.obj k o hk).lt; omega⟩
  have hUl : Unt β RO st l := hun (by omega)
  have hUD : Unt β RO st w.heap.size := hun (Nat.le_refl _)
  obtain ⟨yv, hyv⟩ : ∃ yv, yv = Value.func (.yield l) #[] #[] := ⟨_, rfl⟩
  refine ⟨l, [{ target := .collected w.heap.size, args := #[] }], w1, { target := .fn (.func fi) caps.toArray, args := #[yv] }, w1, fi, #[yv] ++ caps.toArray, w1, ?_, ?_, fun _ _ => trivial, ?_, no_depth, ?_⟩
  · rw [hl, hw1, hrc]; exact run_enterLoop_outer _ _ _ _ _
  · simp only [resolve, hav, hyv, Deferred.ofValue]
    simp [Act.eval]
  · unfold FnOK at hfn
    rw [hf5] at hfn
    simp only [Option.any_some, Bool.and_eq_true, bne_iff_ne, ne_eq] at hfn
    have hname : (fn5.name == "runtime.NumGoroutine") = false := by simpa using hfn.2
    have hbody : fn5.body.isNone = false := by rw [hb5]; rfl
    simp only [invoke, callFunc, run_program, Sem.run_bind, Result.andThen_ok, hf5, hname, hbody, Bool.false_eq_true, if_false, Sem.run_pure]
  · -- the walk of the function
    obtain ⟨E5, hE5⟩ : ∃ E5, E5 = E.nest β RO st w1 (fun m => a.tmps[m - 1000000]?) [] := ⟨_, rfl⟩
    have hwr5 : WR E5 β RO st w1 := by rw [hE5]; exact hh1.wr.nest rfl hh1.wr.obj
    have gh5 : ∀ m, E5.gh m = a.tmps[m - 1000000]? := fun m => by rw [hE5]; rfl
    have hback5 : ∀ {β' RO' st' w'}, WR E5 β' RO' st' w' → WR E β' RO' st' w' := fun hw' => hh1.wr.nest_back (by rw [hE5] at hw'; exact hw')
    have hU5 : ∀ {b β' RO' st' w'}, w.heap.size ≤ b → b < w1.heap.size → WR E5 β' RO' st' w' → Unt β' RO' st' b ∧ w'.heap[b]? = w1.heap[b]? := fun hb hb' hw' => (hun hb).nest hb' (by rw [hE5] at hw'; exact hw')
    have hlen5 : (#[yv] ++ caps.toArray).size = cap.length + 1 := by simp [hcaps]
    have hs5 : SR E5 fn5.ntmps β RO (argE 0 (.t (.v (.func (.yield l) #[] #[])) :: capArgs cap) ++ selE 0 1000000 1000000 env) st { tmps := (#[yv] ++ caps.toArray) ++ Array.replicate (fn5.ntmps - (#[yv] ++ caps.toArray).size) undef, defers := [] } w1 := by
      refine ⟨hwr5, ⟨by rw [Array.size_append, Array.size_replicate, hlen5]; omega, hk50⟩, by rw [hE5]; rfl, fun m x hx => ?_⟩
      rcases look_app hx with hx | ⟨_, hx⟩
      · obtain ⟨_, h2⟩ := argE_look hx
        simp only [Nat.sub_zero] at h2
        have hlt : m < cap.length + 1 := by have := (List.getElem?_eq_some_iff.1 h2).1; simpa [capArgs] using this
        rw [tmpAt_lt (by omega), Array.getElem?_append_left (by rw [hlen5]; exact hlt)]
        cases m with
        | zero =>
          simp only [List.getElem?_cons_zero, Option.some.injEq] at h2
          subst h2
          exact ⟨yv, by simp, by rw [hyv]; exact .t _ _ (.v _ rfl)⟩
        | succ m =>
          simp only [List.getElem?_cons_succ, capArgs, List.getElem?_map] at h2
          cases hc : cap[m]? with
          | none => rw [hc] at h2; cases h2
          | some p =>
            rw [hc] at h2
            cases h2
            refine ⟨.pointer (some ⟨β p.1, p.2, none⟩), ?_, .ptr _ _⟩
            rw [Array.getElem?_append_right (by simp)]
            simp [hcaps, hc]
      · obtain ⟨q, _, g2, g3, g4⟩ := look_selE hx
        obtain ⟨v, g5, g6⟩ := hh1.env q x g4
        rw [tmpAt_lt g2] at g5
        refine ⟨v, ?_, g6⟩
        unfold tmpAt
        rw [show Nat.blt m 1000000 = false by rw [Bool.eq_false_iff]; intro hb; rw [Nat.blt_eq] at hb; omega]
        simp only [gh5]
        rw [show m - 1000000 = q by omega]; exact g5
    have hY : YOK P E5 fn5.ntmps (bodyW C P kp od ps.toList assign body l) := by
      intro l' args vals env1 st1 K' β1 RO1 a1 w2 hs hv hB
      obtain ⟨rfl, hlen, hB⟩ := hB
      obtain ⟨hU1, hr2⟩ := hU5 (b := l') (by omega) (by omega) hs.wr
      rw [hL1] at hr2
      have hlv : vals.length = ps.size := by rw [← hv.1, hlen]; simp
      have hy := run_yield (P := P) (args := vals.toArray) hr2 (by rw [hrc]; simpa using hlv)
      refine ⟨_, _, _, _, hy, roundIn_of_wpIn trivial ?_⟩
      rw [hrc]
      simp only
      obtain ⟨gh6, hgh6⟩ : ∃ gh6 : Nat → Option Value, gh6 = fun m => if 2000000 ≤ m then a1.tmps[m - 2000000]? else a.tmps[m - 1000000]? := ⟨_, rfl⟩
      obtain ⟨tR, htR⟩ : ∃ tR, tR = Array.foldl (fun tmps x => tmps.setIfInBounds x.fst x.snd) a.tmps (ps.zip vals.toArray) := ⟨_, rfl⟩
      have hzip : (ps.zip vals.toArray).toList = ps.toList.zip vals := by simp
      have hmapz : (ps.toList.zip vals).map (·.1) = ps.toList := by rw [List.map_fst_zip]; simp [hlv]
      obtain ⟨f1, f2, f3⟩ := foldl_put (ps.toList.zip vals) a.tmps (by rw [hmapz]; exact hpn) fun p hp => by
        have : p.1 ∈ ps.toList := by rw [← hmapz]; exact List.mem_map_of_mem hp
        rw [h.size.1]; exact hpl _ this
      have htR' : tR = (ps.toList.zip vals).foldl (fun t p => t.setIfInBounds p.1 p.2) a.tmps := by rw [htR, ← Array.foldl_toList, hzip]
      rw [← htR'] at f1 f2 f3
      rw [← htR]
      have tmpG : ∀ {w0 : World} {β0 : K → Nat} {RO0 : Nat → Prop} {st0 : St} {a0 : Act} {m : Nat}, 1000000 ≤ m → tmpAt (E5.nest β0 RO0 st0 w0 gh6 []) a0 m = gh6 m := fun hm => by
        unfold tmpAt
        rw [show Nat.blt _ 1000000 = false by rw [Bool.eq_false_iff]; intro hb; rw [Nat.blt_eq] at hb; omega]
        rfl
      have tmp5 : ∀ {a0 : Act} {m : Nat}, 1000000 ≤ m → tmpAt E5 a0 m = a.tmps[m - 1000000]? := fun hm => by
        unfold tmpAt
        rw [show Nat.blt _ 1000000 = false by rw [Bool.eq_false_iff]; intro hb; rw [Nat.blt_eq] at hb; omega]
        exact gh5 _
      have hsa : SR (E5.nest β1 RO1 st1 w2 gh6 []) N β1 RO1 (rndE ps.toList args env1) st1 { tmps := tR, defers := [] } w2 := by
        refine ⟨hs.wr.nest rfl hs.wr.obj, ⟨by rw [f1]; exact h.size.1, h.size.2⟩, rfl, fun m x hx => ?_⟩
        have hN := h.size
        unfold rndE at hx
        rcases look_app hx with hx | ⟨hx0, hx⟩
        · obtain ⟨i, g1, g2, _⟩ := look_zipE hx
          have hi : i < vals.length := by rw [← hv.1]; exact (List.getElem?_eq_some_iff.1 g2).1
          have hm : m < N := hpl m (List.mem_of_getElem? g1)
          refine ⟨vals[i], ?_, hv.2 i x _ g2 (List.getElem?_eq_getElem hi)⟩
          rw [tmpAt_lt (by omega)]
          exact f2 i (m, vals[i]) (by rw [List.getElem?_zip_eq_some]; exact ⟨g1, List.getElem?_eq_getElem hi⟩)
        have hm0 := look_zipE_none hlen.symm hx0
        rcases look_app hx with hx | ⟨_, hx⟩
        · obtain ⟨q, g1, g2, g3, g4⟩ := look_selE hx
          obtain ⟨v, g5, g6⟩ := hs.env q x g4
          rw [tmp5 g1] at g5
          refine ⟨v, ?_, g6⟩
          rw [tmpAt_lt (by omega), f3 m (by rw [hmapz]; exact hm0), show m = q - 1000000 by omega]; exact g5
        · rcases look_app hx with hx | ⟨_, hx⟩
          · obtain ⟨q, g1, g2, g3, g4⟩ := look_selE hx
            obtain ⟨v, g5, g6⟩ := hs.env q x g4
            rw [tmp5 g1] at g5
            refine ⟨v, ?_, g6⟩
            rw [tmpG (by omega), hgh6]
            simp only
            rw [if_neg (by omega), show m = q by omega]; exact g5
          · obtain ⟨q, g1, g2, g3, g4⟩ := look_selE hx
            obtain ⟨v, g5, g6⟩ := hs.env q x g4
            rw [tmpAt_lt g2] at g5
            refine ⟨v, ?_, g6⟩
            rw [tmpG (by omega), hgh6]
            simp only
            rw [if_pos (by omega), show m - 2000000 = q by omega]; exact g5
      refine wpIn_mono (wpcY_in (r := some l') hC noY_ok assign hkA β1 RO1 _ st1 _ w2 _ hsa hB) ?_
      rintro e a2 w3 ⟨env2, st2, β2, RO2, hq, hs2⟩
      cases e <;> try exact hq.elim
      have hw3 : WR E5 β2 RO2 st2 w3 := hs.wr.nest_back hs2.wr
      obtain ⟨hU3, hr3⟩ := hU5 (b := l') (by omega) (by omega) hw3
      rw [hL1] at hr3
      refine ⟨_, run_beginRound hr3 (by rw [hrc]), ?_⟩
      obtain ⟨bz, hbz⟩ : ∃ bz : Loop, bz = { rc with state := .busy } := ⟨_, rfl⟩
      rw [← hbz]
      have hlt3 : l' < w3.heap.size := (Array.getElem?_eq_some_iff.1 hr3).1
      have hsb : SR (E5.nest β2 RO2 st2 (w3.putObj l' (.loop bz)) gh6 []) N β2 RO2 env2 st2 a2 (w3.putObj l' (.loop bz)) :=
        ⟨hw3.nest World.putObj_size fun k o hk => (hw3.obj k o hk).unt hU3 (shape_loop hr3) hk, hs2.size, hs2.defers, fun m x hx => by
          obtain ⟨v, g1, g2⟩ := hs2.env m x hx
          exact ⟨v, g1, g2.unt hU3.ro (shape_loop hr3)⟩⟩
      refine wpIn_mono (wpcY_in (r := some l') hC noY_ok body hkB β2 RO2 _ st2 _ _ _ hsb hq) ?_
      rintro e a3 w4 ⟨env3, st3, β3, RO3, hq3, hs3⟩
      cases e <;> try exact hq3.elim
      have hb4 : (w3.putObj l' (.loop bz)).heap[l']? = some (.loop bz) := World.putObj_heap_same hlt3
      obtain ⟨hU4, hr4⟩ := hU3.nest (by rw [World.putObj_size]; exact hlt3) hs3.wr
      rw [hb4] at hr4
      have hend := run_endRound (P := P) none hr4
      have hrec : ({ bz with state := if (none : Option Code).isNone then .ready else .done, pending := none } : Loop) = rc := by rw [hbz, hrc]; rfl
      rw [hrec] at hend
      refine ⟨_, _, hend, rfl, backE env3, st3, β3, RO3, hq3, hw3.swap hU3 hr3 hs3.wr (shape_loop hr4), hs.size, hs.defers, fun m x hx => ?_⟩
      have key : ∀ (q : Nat) (y : LV), look env3 q = some y → 1000000 ≤ q → ∃ v, gh6 q = some v ∧ VL β3 RO3 (w4.putObj l' (.loop rc)) y v := fun q y hy hq => by
        obtain ⟨v, g1, g2⟩ := hs3.env q y hy
        rw [tmpG hq] at g1
        exact ⟨v, g1, g2.unt hU4.ro (shape_loop hr4)⟩
      unfold backE at hx
      rcases look_app hx with hx | ⟨_, hx⟩
      · obtain ⟨q, g1, g2, g3, g4⟩ := look_selE hx
        obtain ⟨v, g5, g6⟩ := key q x g4 (by omega)
        refine ⟨v, ?_, g6⟩
        rw [tmpAt_lt (by omega)]
        rw [hgh6] at g5
        simp only at g5
        rw [if_pos g1] at g5
        rw [show m = q - 2000000 by omega]; exact g5
      · obtain ⟨q, g1, g2, g3, g4⟩ := look_selE hx
        obtain ⟨v, g5, g6⟩ := key q x g4 (by omega)
        refine ⟨v, ?_, g6⟩
        rw [tmp5 (by omega)]
        rw [hgh6] at g5
        simp only at g5
        rw [if_neg (by omega)] at g5
        rw [show m = q by omega]; exact g5
    refine callsIn_of_wp hf5 hb5 trivial (wpIn_mono (wpcY_in hC hY c5 hk52 β RO _ st _ w1 _ hs5 (hW l)) ?_)
    have fin : ∀ {env' : Env} {st' : St} {β' : K → Nat} {RO' : Nat → Prop} {a' : Act} {w3 : World}, Q (selE 1000000 2000000 0 env') st' → SR E5 fn5.ntmps β' RO' env' st' a' w3 →
        a'.defers = [] ∧ ∃ v, (results fn5 a'.tmps).run P w3 = .ok v w3 ∧ rangePost (wideR none) n P l (PostN E N (nrmQ Q)) { a with defers := [{ target := .collected w.heap.size, args := #[] }] ++ a.defers } (.returned v) w3 := by
      intro env' st' β' RO' a' w3 hq hs3
      obtain ⟨hU3, hr3⟩ := hU5 (b := l) (by omega) (by omega) hs3.wr
      rw [hL1] at hr3
      obtain ⟨hV3, hd3⟩ := hU5 (b := w.heap.size) (Nat.le_refl _) (by omega) hs3.wr
      rw [hD1] at hd3
      have hwE := hback5 hs3.wr
      obtain ⟨wz, hwz⟩ : ∃ wz, wz = w3.putObj l (.loop { rc with state := .exhausted }) := ⟨_, rfl⟩
      have hend : (Instr.endLoop l).run P w3 = .ok none wz := by
        rw [hwz, run_endLoop (P := P) hr3 (by rw [hrc]; simp)]
        exact congrArg (fun p => Result.ok p _) (by rw [hrc])
      have hw4 : WR E β' RO' st' wz := by rw [hwz]; exact hwE.putU hU3 (shape_loop hr3) (by have := h.wr.size; omega) _
      refine ⟨by rw [hs3.defers, hE5]; rfl, _, results_none hr5 _ _ _, none, wz, hend, ?_⟩
      refine ⟨E.nest β' RO' st' wz E.gh ({ target := .collected w.heap.size, args := #[] } :: E.dfs), _, st', β', RO', ⟨rfl, hq⟩, ⟨hw4.nest rfl hw4.obj, h.size, ?_, fun m x hx => ?_⟩, fun _ _ _ _ hw' => hw4.nest_back hw', hw4.size, fun b hb hw' => hw4.keep b hb hw', fun b hb hw' => nest_wr hw4 hb hw', fun b hb hw' hr hr' => ?_, fun _ => Iff.rfl, [w.heap.size], rfl, by simp, fun D hD => ?_⟩
      · show [_] ++ a.defers = _
        rw [h.defers]; rfl
      · obtain ⟨q, g1, g2, g3, g4⟩ := look_selE hx
        obtain ⟨v, g5, g6⟩ := hs3.env q x g4
        refine ⟨v, ?_, by rw [hwz]; exact g6.unt hU3.ro (shape_loop hr3)⟩
        unfold tmpAt at g5
        rw [show Nat.blt q 1000000 = false by rw [Bool.eq_false_iff]; intro hb; rw [Nat.blt_eq] at hb; omega] at g5
        simp only [gh5] at g5
        rw [tmpAt_lt (by omega)]
        show a.tmps[m]? = _
        rw [show m = q - 1000000 by omega]; exact g5
      · rcases hw4.roNew b hr' with h1 | h1 | h1
        · exact hr h1
        · omega
        · exact hw' h1
      · have hD : D = w.heap.size := by simpa using hD
        subst hD
        refine ⟨by show wz.heap[w.heap.size]? = _; rw [hwz]; exact (putObj_other (l := l) (by omega)).trans hd3, fun ⟨k, o, hk, _, e⟩ => hV3.ob k o hk e.symm, hV3.ro, h.wr.size⟩
    rintro e a' w3 ⟨env', st', β', RO', hq, hs3⟩
    cases e with
    | normal => exact fin hq hs3
    | ret => exact fin hq hs3
    | _ => exact hq.elim

end
end Go.Fw

/- The value logic, part 25: functions that hold loops over functions. -/
namespace Go.Fw
open Go

/-- What is asked of code that may hold loops over functions, one after the other. -/
def wpcR (C : Ctx) (P : Program) (kp : Kp) (od : Od) (kp5 : Kp) (od5 : Od) : Code → Env → St → (Exit → Env → St → Prop) → Prop
  | .seq x y, env, st, Q => wpcR C P kp od kp5 od5 x env st (thenW (fun env st => entW kp y env st fun env st => wpcR C P kp od kp5 od5 y env st Q) Q)
  | .block id b, env, st, Q => match b with
    | .rangeFunc g ps assign body => rangeFW C P kp5 od5 kp od g ps.toList assign body env st (Q .normal)
    | b => wpcY C P noY kp od (.block id b) env st Q
  | .cond c x y, env, st, Q => match opd env c with
    | .t (.v (.bool t)) => match t with
      | true => wpcR C P kp od kp5 od5 x env st Q
      | false => wpcR C P kp od kp5 od5 y env st Q
    | _ => False
  | c, env, st, Q => wpcY C P noY kp od c env st Q

def codeROK (N : Nat) (od : Od) : Code → Bool
  | .seq x y => codeROK N od x && codeROK N od y
  | .cond _ x y => codeROK N od x && codeROK N od y
  | .block id b => match b with
    | .rangeFunc _ ps assign body => codeYOK N od assign && (codeYOK N od body && psOK N ps.toList)
    | b => codeYOK N od (.block id b)
  | c => codeYOK N od c

section
variable {C : Ctx} {P : Program} {E : Ent} {N : Nat} {β : K → Nat} {RO : Nat → Prop} {env : Env} {st : St} {a : Act} {w : World} {kp kp5 : Kp} {od od5 : Od} {n : Nat}

theorem postN_of {Q : Exit → Env → St → Prop} {c : Code} (h : c.wpIn (wideR none) n P (Post E N Q) a w) : c.wpIn (wideR none) n P (PostN E N Q) a w :=
  wpIn_mono h fun _ _ _ ⟨env, st, β, RO, hq, hs⟩ => ⟨E, env, st, β, RO, hq, hs, Out.refl E⟩

theorem wpcR_in (hC : C.OK P) : ∀ (c : Code), codeROK N od c = true → ∀ (E : Ent) (β : K → Nat) (RO : Nat → Prop) (env : Env) (st : St) (a : Act) (w : World) (Q : Exit → Env → St → Prop), SR E N β RO env st a w → wpcR C P kp od kp5 od5 c env st Q → c.wpIn (wideR none) n P (PostN E N Q) a w
  | .seq x y, hk, E, β, RO, env, st, a, w, Q, h, hW => by
    simp only [codeROK, Bool.and_eq_true] at hk
    refine wpIn_seq (wpIn_mono (wpcR_in hC x hk.1 E β RO env st a w _ h hW) ?_)
    rintro e a w ⟨E1, env, st, β, RO, hq, hs, hO⟩
    cases e with
    | normal =>
      have hq' : entW kp y env st fun env st => wpcR C P kp od kp5 od5 y env st Q := hq
      obtain ⟨env', st', h1, h2⟩ := hs.ent hq'
      refine wpIn_mono (wpcR_in hC y hk.2 E1 β RO _ _ a w Q h2 h1) ?_
      rintro e a w ⟨E2, env, st, β, RO, hq, hs, hO2⟩
      exact ⟨E2, env, st, β, RO, hq, hs, hO.trans hO2⟩
    | _ => exact ⟨E1, env, st, β, RO, hq, hs, hO⟩
  | .cond c x y, hk, E, β, RO, env, st, a, w, Q, h, hW => by
    simp only [codeROK, Bool.and_eq_true] at hk
    have hc := h.opd c
    simp only [wpcR] at hW
    split at hW
    · rename_i t ht
      rw [ht] at hc
      cases t with
      | true => exact wpIn_cond_true hc.v_inv (wpcR_in hC x hk.1 E β RO env st a w Q h hW)
      | false => exact wpIn_cond_false hc.v_inv (wpcR_in hC y hk.2 E β RO env st a w Q h hW)
    · cases hW
  | .block id b, hk, E, β, RO, env, st, a, w, Q, h, hW => by
    simp only [codeROK] at hk
    simp only [wpcR] at hW
    split at hW
    · refine wpIn_block (wpIn_mono (rangeF_in hC hk h hW) ?_)
      rintro e a w ⟨E1, env, st, β, RO, ⟨rfl, hq⟩, hs, hO⟩
      exact ⟨E1, env, st, β, RO, hq, hs, hO⟩
    · rename_i hb
      refine postN_of (wpcY_in hC noY_ok (.block id b) ?_ β RO env st a w Q h hW)
      split at hk
      · exact (hb _ _ _ _ rfl).elim
      · exact hk
  | .skip, hk, E, β, RO, env, st, a, w, Q, h, hW => postN_of (wpcY_in hC noY_ok .skip hk β RO env st a w Q h hW)
  | .label l, hk, E, β, RO, env, st, a, w, Q, h, hW => postN_of (wpcY_in hC noY_ok (.label l) hk β RO env st a w Q h hW)
  | .exit l, hk, E, β, RO, env, st, a, w, Q, h, hW => postN_of (wpcY_in hC noY_ok (.exit l) hk β RO env st a w Q h hW)
  | .ret, hk, E, β, RO, env, st, a, w, Q, h, hW => postN_of (wpcY_in hC noY_ok .ret hk β RO env st a w Q h hW)
  | .region id ops draw, hk, E, β, RO, env, st, a, w, Q, h, hW => postN_of (wpcY_in hC noY_ok (.region id ops draw) hk β RO env st a w Q h hW)
  | .loop b, hk, E, β, RO, env, st, a, w, Q, h, hW => postN_of (wpcY_in hC noY_ok (.loop b) hk β RO env st a w Q h hW)
  | .scope _, hk, _, _, _, _, _, _, _, _, _, _ => by simp [codeROK, codeYOK] at hk
  | .goto _, hk, _, _, _, _, _, _, _, _, _, _ => by simp [codeROK, codeYOK] at hk
  | .rangeFunc _ _ _ _, hk, _, _, _, _, _, _, _, _, _, _ => by simp [codeROK, codeYOK] at hk
  | .refuse _, hk, _, _, _, _, _, _, _, _, _, _ => by simp [codeROK, codeYOK] at hk

/-- The marks are come to; the results are what they were. -/
theorem leavesM {fn : Func} {R : Ending → World → Prop} {β' : K → Nat} {RO' : Nat → Prop} {env : Env} {st : St} {a : Act} (hR : ∀ w, SR E N β' RO' env st a w → ∃ v, (results fn a.tmps).run P w = .ok v w ∧ R (.returned v) w) :
    ∀ (Ds : List Nat) (w : World), Ds.Nodup → (∀ D ∈ Ds, w.heap[D]? = some (.deferred (some [])) ∧ Unt β' RO' st D ∧ E.w0.heap.size ≤ D) → SR E N β' RO' env st a w → LeavesInM (wideR none) n P fn a.tmps R (Ds.map fun D => { target := .collected D, args := #[] }) .returning w
  | [], w, _, _, h => hR w h
  | D :: Ds, w, hn, hD, h => by
    obtain ⟨h1, h2, h3⟩ := hD D (List.mem_cons_self ..)
    have hlt := (Array.getElem?_eq_some_iff.1 h1).1
    refine ⟨by simp, .inl ⟨D, w.putObj D (.deferred none), rfl, run_takeDeferred h1, leavesM hR Ds _ (List.nodup_cons.1 hn).2 (fun D' hD' => ?_) ⟨h.wr.putU h2 (shape_def h1) h3 _, h.size, h.defers, fun m x hx => ?_⟩⟩⟩
    · obtain ⟨g1, g2, g3⟩ := hD D' (List.mem_cons_of_mem _ hD')
      exact ⟨(putObj_other (l := D) fun e => (List.nodup_cons.1 hn).1 (e ▸ hD')).trans g1, g2, g3⟩
    · obtain ⟨v, g1, g2⟩ := h.env m x hx
      exact ⟨v, g1, g2.unt h2.ro (shape_def h1)⟩

/-- A function that holds loops over functions is right where its body is. -/
theorem spec_range (hC : C.OK P) {f : Nat} {fn : Func} {c : Code} {args : List LV} {out : List Fr} {Post : LV → Fr → Prop} (kp : Kp) (od : Od) (kp5 : Kp) (od5 : Od) (hf : P.funcs[f]? = some fn) (hb : fn.body = some c) (hk : (Nat.ble fn.ntmps 1000000 && codeROK fn.ntmps od c) = true) (hn : Nat.ble args.length fn.ntmps = true) (hfn : FnOK P f)
    (hW : LV.ok.okL args → wpcR C P kp od kp5 od5 c (argE 0 args) ⟨out, []⟩ (retW C fn.results.toList Post)) : SpecP P f args out Post := by
  simp only [Bool.and_eq_true] at hk
  obtain ⟨hq, hk⟩ := hk
  have hq : fn.ntmps ≤ 1000000 := by simpa using hq
  have hn : args.length ≤ fn.ntmps := by simpa using hn
  refine ⟨hfn, fun β RO w vals hw hv => calls_out (r := none) (n := 0) ?_⟩
  have hlen : vals.length = args.length := hv.1.symm
  have hs : SR (entP β RO w) fn.ntmps β RO (argE 0 args) ⟨out, []⟩ { tmps := vals.toArray ++ Array.replicate (fn.ntmps - vals.toArray.size) undef, defers := [] } w := by
    refine ⟨hw, ⟨by simp; omega, hq⟩, rfl, fun n x hx => ?_⟩
    obtain ⟨_, h2⟩ := argE_look hx
    simp only [Nat.sub_zero] at h2
    have hlt : n < vals.length := by rw [hlen]; exact (List.getElem?_eq_some_iff.1 h2).1
    refine ⟨vals[n], ?_, hv.2 n x _ h2 (List.getElem?_eq_getElem hlt)⟩
    rw [tmpAt_lt (by omega), Array.getElem?_append_left (by simpa using hlt)]
    simp [hlt]
  refine callsIn_of_wp_marks hf hb trivial (wpIn_mono (wpcR_in hC c hk _ β RO _ _ _ w _ hs (hW hv.ok)) ?_)
  have fin : ∀ {E' : Ent} {env : Env} {st : St} {β' : K → Nat} {RO' : Nat → Prop} {a : Act} {w' : World}, (match resL C env st fn.results.toList with | some l => ∃ cs, keepW cs st.cur (Post (resV l)) | none => False) → SR E' fn.ntmps β' RO' env st a w' → Out (entP β RO w) E' →
      LeavesInM (wideR none) 0 P fn a.tmps (fun e w' => ∃ v r ro out' β' RO', e = .returned v ∧ Post r ro ∧ WR (entP β RO w) β' RO' ⟨out', ro⟩ w' ∧ VL β' RO' w' r v) a.defers .returning w' := by
    intro E' env st β' RO' a w' hq hs hO
    split at hq
    rotate_left
    · cases hq
    rename_i l hl
    obtain ⟨cs, hp⟩ := hq
    obtain ⟨cur', hp, hless⟩ := keepW_gives hp
    obtain ⟨Ds, e1, hnd, hDs⟩ := hO.marks
    have hE3 : SR { entP β RO w with gh := E'.gh, dfs := E'.dfs } fn.ntmps β' RO' env st a w' := by
      have hb := hO.back _ _ _ _ hs.wr
      exact ⟨⟨hb.os, hb.tape, hb.output, hb.size, hb.keep, hb.roLt, hb.ro0, hb.roNew, hb.obj, hb.objNew, hb.inj, hb.sep, hb.fzRO, hb.stay⟩, hs.size, hs.defers, hs.env⟩
    rw [hs.defers, e1, show (entP β RO w).dfs = [] from rfl, List.append_nil]
    refine leavesM (E := { entP β RO w with gh := E'.gh, dfs := E'.dfs }) (β' := β') (RO' := RO') (env := env) (st := st) (N := fn.ntmps) (fun w2 h2 => ?_) Ds w' hnd (fun D hD => ?_) hE3
    · obtain ⟨vs, g1, g2⟩ := resL_run hC h2 hl
      have hvl : vs.length = l.length := g2.1.symm
      have hwr : WR (entP β RO w) β' RO' st w2 := by
        have hb := h2.wr
        exact ⟨hb.os, hb.tape, hb.output, hb.size, hb.keep, hb.roLt, hb.ro0, hb.roNew, hb.obj, hb.objNew, hb.inj, hb.sep, hb.fzRO, hb.stay⟩
      refine ⟨outV vs, ?_, _, resV l, cur', st.out, β', RO', rfl, hp, hwr.less (fun k o hk => get_less hless k o hk), ?_⟩
      · unfold results
        have h1' : (fn.results.mapM fun x => match x with | .tmp t => pure (a.tmps.getD t undef) | .cell x t => do loadVar t (← asAddr (a.tmps.getD x undef)) : Sem (Array Value)).run P w2 = .ok vs.toArray w2 := by
          rw [Array.mapM_eq_mapM_toList, map_eq_pure_bind, Sem.run_bind]
          refine (congrArg (fun r => Result.andThen r _) g1).trans ?_
          rfl
        rw [Sem.run_bind]
        refine (congrArg (fun r => Result.andThen r _) h1').trans ?_
        clear g1 h1' g2 hvl
        match vs with
        | [] => simp [outV]
        | [v] => simp [outV]
        | _ :: _ :: _ => simp [outV]
      · match vs, l, hvl, g2 with
        | [], [], _, h2 => exact .tup [] [] rfl fun i x v h => by simp at h
        | [v], [x], _, h2 => exact h2.2 0 x v rfl rfl
        | v1 :: v2 :: vs, x1 :: x2 :: l, _, h2 => exact .tup _ _ h2.1 h2.2
    · obtain ⟨g1, g2, g3, g4⟩ := hDs D hD
      have hlt := (Array.getElem?_eq_some_iff.1 g1).1
      have hro : ¬ RO' D := fun hr => by
        rcases hs.wr.roNew D hr with h | h | h
        · exact g3 h
        · omega
        · exact g2 h
      refine ⟨(hs.wr.keep D hlt g2).trans g1, ⟨hro, fun k o hk e => ?_⟩, g4⟩
      by_cases hc : E'.can k
      · rcases hs.wr.objNew k o hk hc with h | h
        · exact g2 (e ▸ h)
        · omega
      · exact hro (e ▸ hs.wr.fzRO k o hk hc)
  rintro e a w' ⟨E', env, st, β', RO', hq, hs, hO⟩
  cases e with
  | normal => exact fin hq hs hO
  | ret => exact fin hq hs hO
  | _ => exact hq.elim

end
end Go.Fw

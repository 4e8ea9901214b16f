/- Texts that lead to the law, part 7. -/
import Derived.Test.YtmcbncmklopoaaaZF
import Derived.LoopNIn
import Derived.KernelRfl

/- The value logic, part 26: functions that are walked through where they are called. -/
namespace Go.Fw
open Go

abbrev HW := Nat → List LV → Nat → Env → St → (LV → Env → St → Prop) → Prop
def noH : HW := fun _ _ _ _ _ _ => False

/-- Is it a call of a function that is walked through? -/
def inlB (C : Ctx) (env : Env) (o : Oper) : Option (Nat × List LV) := match o.op with
  | .call c => match c.callee with
    | .value fo => match opd env fo with
      | .fn f cap => match look C.inl f with
        | some _ => some (f, c.args.toList.map (opd env) ++ capArgs cap)
        | none => none
      | _ => none
    | _ => none
  | _ => none

/-- Is it a call of a method of an interface value? -/
def invB (env : Env) (o : Oper) : Option (LV × (String × List LV)) := match o.op with
  | .call c => match c.callee with
    | .invoke r n => some (opd env r, n, c.args.toList.map (opd env))
    | _ => none
  | _ => none
/-- The method of a pointer type is this function, which is handed the pointer; or what lies where it points. -/
def MthP (P : Program) (t : Nat) (n : String) (f : Nat) : Prop := ∀ (a : Addr) (w : World), (method (P.types.size + Made.depth) t (.pointer (some a)) n).run P w = .ok (f, .pointer (some a)) w
def MthV (P : Program) (t : Nat) (n : String) (f e : Nat) : Prop := ∀ (a : Addr) (w : World), (method (P.types.size + Made.depth) t (.pointer (some a)) n).run P w = ((do let v ← Instr.loadAt e (.pointer (some a)); pure (f, v)) : Sem (FuncId × Value)).run P w
/-- The call of a method. -/
inductive InvH (C : Ctx) (P : Program) (H : HW) (t : Nat) (k : K) (c : Nat) (n : String) (args : List LV) (s : Nat) (env : Env) (st : St) (K' : LV → Env → St → Prop) : Prop
  | ptr (f : Nat) (hm : MthP P t n f) (h : H f (.ptr k c :: args) s env st K')
  | val (f e : Nat) (hm : MthV P t n f e) (h : someW (loadL C st e (.ptr k c)) fun x => strL (x :: args) fun args => H f args s env st K')
def invW (C : Ctx) (P : Program) (H : HW) (x : LV) (n : String) (args : List LV) (s : Nat) (env : Env) (st : St) (K' : LV → Env → St → Prop) : Prop := match x with
  | .ifc t y => match y with
    | .ptr k c => InvH C P H t k c n args s env st K'
    | _ => False
  | _ => False

def opZ (C : Ctx) (P : Program) (H : HW) (b : Nat) (o : Oper) (env : Env) (st : St) (K' : LV → Env → St → Prop) : Prop := match inlB C env o with
  | some (f, args) => strL args fun args => H f args (b + site o.dst) env st fun x env st => strES env st (K' x)
  | none => match invB env o with
    | some (x, n, args) => strL args fun args => invW C P H x n args (b + site o.dst) env st fun x env st => strES env st (K' x)
    | none => opWs C P (b + site o.dst) o env st K'
def opX (C : Ctx) (P : Program) (Y : YW) (H : HW) (b : Nat) (o : Oper) (env : Env) (st : St) (K' : LV → Env → St → Prop) : Prop := match yieldB env o with
  | some (l, args) => Y l args env st fun env st => strES env st (K' (.t (.v (.bool true))))
  | none => opZ C P H b o env st K'

def regGoX (C : Ctx) (P : Program) (Y : YW) (H : HW) (b : Nat) (ops : List Oper) (Q : Env → St → Prop) : List Oper → Env → St → Prop
  | [], env, st => Q env st
  | o :: r, env, st => match gdE ops env o with
    | some true => opX C P Y H b o env st fun x env st => splW (splK o.op) x fun x => regGoX C P Y H b ops Q r (putE env o.dst x) st
    | some false => regGoX C P Y H b ops Q r (putE env o.dst (.tup [])) st
    | none => False

/-- Every order, as a tree tells them. -/
def treeX (C : Ctx) (P : Program) (H : HW) (b : Nat) (ops : List Oper) (Q : Env → St → Prop) : Tr → Env → St → Prop
  | .done, env, st => Q env st
  | .pure i t, env, st => match nth ops i with
    | some o => match gdE ops env o with
      | some true => pureW C env st o.op fun x => splW (splK o.op) x fun x => treeX C P H b ops Q t (putE env o.dst x) st
      | some false => treeX C P H b ops Q t (putE env o.dst (.tup [])) st
      | none => False
    | none => False
  | .eff i t, env, st => match Nat.beq b 0 with
    | true => match nth ops i with
      | some o => match gdE ops env o with
        | some true => effW C P o env st fun x st => splW (splK o.op) x fun x => treeX C P H b ops Q t (putE env o.dst x) st
        | some false => treeX C P H b ops Q t (putE env o.dst (.tup [])) st
        | none => False
      | none => False
    | false => False
  | .last i t L, env, st => match nth ops i with
    | some o => match gdE ops env o with
      | some true => opZ C P H b o env st fun x env st => splW (splK o.op) x fun x => againW C ops L (putE env o.dst x) st (treeX C P H b ops Q t (putE env o.dst x) st)
      | some false => againW C ops L (putE env o.dst (.tup [])) st (treeX C P H b ops Q t (putE env o.dst (.tup [])) st)
      | none => False
    | none => False
  | .fork i t L rest, env, st => (match nth ops i with
    | some o => match gdE ops env o with
      | some true => opZ C P H b o env st fun x env st => splW (splK o.op) x fun x => againW C ops L (putE env o.dst x) st (treeX C P H b ops Q t (putE env o.dst x) st)
      | some false => againW C ops L (putE env o.dst (.tup [])) st (treeX C P H b ops Q t (putE env o.dst (.tup [])) st)
      | none => False
    | none => False) ∧ treeX C P H b ops Q rest env st

/-! ### What is kept where a region is entered -/
/-- The slots of the callers. -/
def ghE : Env → Env
  | [] => []
  | p :: r => match Nat.ble 1000000 p.1 with
    | true => p :: ghE r
    | false => ghE r
theorem look_ghE : ∀ {env : Env} {n : Nat} {x : LV}, look (ghE env) n = some x → look env n = some x ∧ 1000000 ≤ n
  | [], n, x, h => by simp [ghE, look] at h
  | p :: r, n, x, h => by
    simp only [ghE] at h
    split at h
    · rename_i hb
      rw [look_cons] at h ⊢
      split at h
      · rename_i he; cases h; rw [if_pos he]; exact ⟨rfl, he ▸ Nat.le_of_ble_eq_true hb⟩
      · rename_i he; rw [if_neg he]; exact look_ghE h
    · rename_i hb
      obtain ⟨h1, h2⟩ := look_ghE h
      refine ⟨?_, h2⟩
      rw [look_cons, if_neg]
      · exact h1
      · rintro rfl
        rw [Nat.ble_eq_true_of_le h2] at hb; cases hb
/-- The place of an object of a function that is walked through at a call. -/
def rbK (b : Nat) : Nat → Nat → Nat
  | 0, v => b + v
  | n + 1, v => match Nat.blt v 1000003 with
    | true => b + v
    | false => 1000003 * (rbK b n (v / 1000003 - 1) + 1) + v % 1000003
/-- Does an object belong to the call whose objects lie from b on? -/
def subB (b : Nat) : Nat → Nat → Bool
  | 0, _ => false
  | n + 1, k => match Nat.beq (k / 1000003) (b / 1000003) with
    | true => true
    | false => match Nat.blt k 1000003 with
      | true => false
      | false => subB b n (k / 1000003 - 1)
def elB (n : Nat) : List Nat → Bool
  | [] => false
  | m :: r => match Nat.beq m n with
    | true => true
    | false => elB n r
/-- Objects that are kept: those of the callers, and those that are listed. -/
def keepC (b : Nat) (l : List Nat) : Fr → Fr
  | [] => []
  | p :: r => match elB p.1 l with
    | true => p :: keepC b l r
    | false => match subB b 8 p.1 with
      | true => keepC b l r
      | false => p :: keepC b l r
theorem keepC_less {b : Nat} {l : List Nat} : ∀ {cur : Fr} {n : Nat} {o : Ob}, look (keepC b l cur) n = some o → look cur n = some o
  | [], n, o, h => by simp [keepC, look] at h
  | p :: r, n, o, h => by
    have key : ∀ c : Bool, (elB p.1 l = c ∧ c = true) ∨ (elB p.1 l = c ∧ c = false) → True := fun _ _ => trivial
    have stay : look (p :: keepC b l r) n = some o → look (p :: r) n = some o := fun h => by
      rw [look_cons] at h ⊢
      split at h
      · rename_i he; rw [if_pos he]; exact h
      · rename_i he; rw [if_neg he]; exact keepC_less h
    have gone : (elB p.1 l = false ∧ subB b 8 p.1 = true) → look (keepC b l r) n = some o → look (p :: r) n = some o := fun ⟨h1, h2⟩ h => by
      rw [look_cons, if_neg]
      · exact keepC_less h
      · rintro rfl
        exact absurd h (by rw [keepC_none h1 h2]; simp)
    simp only [keepC] at h
    split at h
    · exact stay h
    · rename_i h1
      split at h
      · rename_i h2; exact gone ⟨h1, h2⟩ h
      · exact stay h
where keepC_none {b : Nat} {l : List Nat} {k : Nat} (h1 : elB k l = false) (h2 : subB b 8 k = true) : ∀ {cur : Fr}, look (keepC b l cur) k = none
  | [] => rfl
  | p :: r => by
    simp only [keepC]
    split
    · rename_i h3
      rw [look_cons, if_neg]
      · exact keepC_none h1 h2
      · rintro rfl; rw [h1] at h3; cases h3
    · split
      · exact keepC_none h1 h2
      · rename_i h3
        rw [look_cons, if_neg]
        · exact keepC_none h1 h2
        · rintro rfl; rw [h2] at h3; cases h3
def mapR (b : Nat) : List Nat → List Nat
  | [] => []
  | v :: r => rbK b 8 v :: mapR b r
/-- The callers' objects. -/
def othC : Nat → Fr → Fr
  | 0, _ => []
  | b + 1, cur => keepC (b + 1) [] cur
theorem othC_less {b : Nat} {cur : Fr} {n : Nat} {o : Ob} (h : look (othC b cur) n = some o) : look cur n = some o := by
  cases b with
  | zero => cases h
  | succ b => exact keepC_less h
def mapR0 : Nat → List Nat → List Nat
  | 0, l => l
  | b + 1, l => mapR (b + 1) l
/-- Here the walk may be cut: what follows is told once for all the ways that lead here. -/
inductive CutX (K' : Env → St → Prop) (env : Env) (st : St) : Prop
  | mk (h : K' env st)
theorem CutX.out {K' : Env → St → Prop} {env : Env} {st : St} (h : CutX K' env st) : K' env st := by cases h; assumption
def cutX (l : List Nat) (K' : Env → St → Prop) (env : Env) (st : St) : Prop := match l with
  | 0 :: _ => CutX K' env st
  | _ => K' env st
theorem cutX_out {l : List Nat} {K' : Env → St → Prop} {env : Env} {st : St} (h : cutX l K' env st) : K' env st := by
  unfold cutX at h
  split at h
  · exact h.out
  · exact h
def entX (kp : Kp) (b : Nat) (c : Code) (env : Env) (st : St) (K' : Env → St → Prop) : Prop := match fstR c with
  | some id => match look kp id with
    | some p => keepW p.1 env fun env' => keepW (mapR0 b p.2) st.cur fun cur' => cutX p.2 K' (env' ++ ghE env) ⟨st.out, cur' ++ othC b st.cur⟩
    | none => K' env st
  | none => K' env st

/-- So many rounds at most. -/
def rndX (ent : Env → St → (Env → St → Prop) → Prop) (W : Env → St → (Exit → Env → St → Prop) → Prop) (Q : Exit → Env → St → Prop) : Nat → Env → St → Prop
  | 0, _, _ => False
  | n + 1, env, st => ent env st fun env st => W env st (thenW (rndX ent W Q n) Q)
/-- A loop: a family of states that holds where it starts; or some rounds. -/
inductive LoopX (ent : Env → St → (Env → St → Prop) → Prop) (W : Env → St → (Exit → Env → St → Prop) → Prop) (env : Env) (st : St) (Q : Exit → Env → St → Prop) : Prop
  | mk (ι : Type) (I : ι → Prop) (F : ι → Env) (S : ι → St) (m : ι → Nat) (i : ι) (h : I i) (h0 : ent env st fun env st => env = F i ∧ st = S i)
      (hr : ∀ i, I i → W (F i) (S i) (thenW (fun env st => ∃ j, m j < m i ∧ I j ∧ ent env st fun env st => env = F j ∧ st = S j) Q))
  | rounds (n : Nat) (h : rndX ent W Q n env st)

/-- What is asked of code. -/
def wpcX (C : Ctx) (P : Program) (Y : YW) (H : HW) (b : Nat) (kp : Kp) (od : Od) : Code → Env → St → (Exit → Env → St → Prop) → Prop
  | .skip, env, st, Q => Q .normal env st
  | .label _, env, st, Q => Q .normal env st
  | .region id ops draw, env, st, Q => match draw with
    | false => regGoX C P Y H b ops.toList (Q .normal) ops.toList env st
    | true => match look od id with
      | some ord => treeX C P H b ops.toList (Q .normal) (trOf ord) env st
      | none => False
  | .seq x y, env, st, Q => wpcX C P Y H b kp od x env st (thenW (fun env st => entX kp b y env st fun env st => wpcX C P Y H b kp od y env st Q) Q)
  | .cond c x y, env, st, Q => match opd env c with
    | .t (.v (.bool t)) => match t with
      | true => wpcX C P Y H b kp od x env st Q
      | false => wpcX C P Y H b kp od y env st Q
    | _ => False
  | .block id c, env, st, Q => wpcX C P Y H b kp od c env st (blockW id Q)
  | .loop c, env, st, Q => LoopX (entX kp b c) (fun env st Q => wpcX C P Y H b kp od c env st Q) env st Q
  | .exit id, env, st, Q => Q (.exit id) env st
  | .ret, env, st, Q => Q .ret env st
  | _, _, _, _ => False

/-- What is known of a call that is walked through. -/
def HOK (P : Program) (H : HW) : Prop := ∀ (E : Ent) (N f s : Nat) (args : List LV) (vals : List Value) (env : Env) (st : St) (K' : LV → Env → St → Prop) (β : K → Nat) (RO : Nat → Prop) (a : Act) (w : World), SR E N β RO env st a w → Vals β RO w args vals → H f args s env st K' →
  FnOK P f ∧ Calls P f vals.toArray w fun e w' => ∃ v x env' st' β' RO', e = .returned v ∧ K' x env' st' ∧ SR E N β' RO' env' st' a w' ∧ VL β' RO' w' x v
theorem noH_ok {P : Program} : HOK P noH := fun _ _ _ _ _ _ _ _ _ _ _ _ _ _ _ h => h.elim

section
variable {C : Ctx} {P : Program} {E : Ent} {N : Nat} {β β' : K → Nat} {RO RO' : Nat → Prop} {env env' : Env} {st st' : St} {a : Act} {w w' : World} {kp : Kp} {od : Od} {r : Option Nat} {n b : Nat} {Y : YW} {H : HW}

theorem call_any {o : Oper} {c : Call} {fo : Operand} {f : Nat} {cap : List (K × Nat)} {Q : Act → World → Prop} (hop : o.op = .call c) (hcal : c.callee = .value fo) (h : SR E N β RO env st a w) (hf : opd env fo = .fn f cap) (hfn : FnOK P f)
    (hcalls : Calls P f (c.args.toList.map a.eval ++ cap.map fun p => Value.pointer (some ⟨β p.1, p.2, none⟩)).toArray w fun e w' => ∃ v, e = .returned v ∧ Q (a.put o.dst v) w') : o.wp P a w Q fun _ _ _ => False := by
  have hfv := h.opd fo
  rw [hf] at hfv
  cases hv : a.eval fo <;> rw [hv] at hfv <;> cases hfv
  unfold FnOK at hfn
  cases hfun : P.funcs[f]? with
  | none => simp [hfun] at hfn
  | some fn =>
    simp only [hfun, Option.any_some, Bool.and_eq_true, bne_iff_ne, ne_eq] at hfn
    have hbody : fn.body.isNone = false := by
      cases hb : fn.body with
      | none => simp [hb] at hfn
      | some _ => rfl
    have hrun : (execOp a.eval o).run P w = .ok (.enter f (c.args.toList.map a.eval ++ cap.map fun p => Value.pointer (some ⟨β p.1, p.2, none⟩)).toArray) w := by
      have hname : (fn.name == "runtime.NumGoroutine") = false := by simpa using hfn.2
      simp only [execOp, hop, resolve, hcal, hv, Deferred.ofValue, Sem.run_bind, Sem.run_pure, Result.andThen_ok, invoke, callFunc, run_program, hfun, hname, hbody, Bool.false_eq_true, if_false]
      congr 2
      rw [← Array.toList_inj]
      simp
    unfold Oper.wp
    rw [hrun]
    simp only [Oper.upon]
    refine hcalls.mono ?_
    rintro e w' ⟨v, rfl, h1⟩
    exact h1
theorem vals_cap (h : SR E N β RO env st a w) (l : List Operand) (cap : List (K × Nat)) : Vals β RO w (l.map (opd env) ++ capArgs cap) (l.map a.eval ++ cap.map fun p => Value.pointer (some ⟨β p.1, p.2, none⟩)) := by
  refine ⟨by simp [capArgs], fun i x v hx hv => ?_⟩
  by_cases hi : i < l.length
  · rw [List.getElem?_append_left (by simpa using hi), List.getElem?_map] at hx hv
    cases hc : l[i]? with
    | none => simp [hc] at hx
    | some y =>
      simp only [hc, Option.map_some, Option.some.injEq] at hx hv
      rw [← hx, ← hv]; exact h.opd y
  · rw [List.getElem?_append_right (by simp; simpa using hi)] at hx hv
    simp only [List.length_map] at hx hv
    simp only [capArgs, List.getElem?_map] at hx hv
    cases hc : cap[i - l.length]? with
    | none => rw [hc] at hx; cases hx
    | some p =>
      simp only [hc, Option.map_some, Option.some.injEq] at hx hv
      rw [← hx, ← hv]; exact .ptr _ _

theorem inv_any {o : Oper} {c : Call} {ro : Operand} {n : String} {t f : Nat} {v u : Value} {Q : Act → World → Prop} (hop : o.op = .call c) (hcal : c.callee = .invoke ro n) (hr : a.eval ro = .iface t v)
    (hm : (method (P.types.size + Made.depth) t v n).run P w = .ok (f, u) w) (hfn : FnOK P f) (hcalls : Calls P f (u :: c.args.toList.map a.eval).toArray w fun e w' => ∃ v, e = .returned v ∧ Q (a.put o.dst v) w') : o.wp P a w Q fun _ _ _ => False := by
  unfold FnOK at hfn
  cases hfun : P.funcs[f]? with
  | none => simp [hfun] at hfn
  | some fn =>
    simp only [hfun, Option.any_some, Bool.and_eq_true, bne_iff_ne, ne_eq] at hfn
    have hbody : fn.body.isNone = false := by
      cases hb : fn.body with
      | none => simp [hb] at hfn
      | some _ => rfl
    have hname : (fn.name == "runtime.NumGoroutine") = false := by simpa using hfn.2
    have hex : (#[a.eval ro] ++ c.args.map a.eval).extract 1 (#[a.eval ro] ++ c.args.map a.eval).size = c.args.map a.eval := by
      rw [← Array.toList_inj]; simp only [Array.toList_extract, Array.toList_map]; simp [List.take_of_length_le]
    have h0 : (#[a.eval ro] ++ c.args.map a.eval)[0]? = some (a.eval ro) := by rw [Array.getElem?_append]; simp
    have hrun : (execOp a.eval o).run P w = .ok (.enter f (u :: c.args.toList.map a.eval).toArray) w := by
      simp only [execOp, hop, resolve, hcal, Sem.run_bind, Sem.run_pure, Result.andThen_ok, invoke, h0, hex]
      rw [hr]
      simp only [callMethod, Sem.run_bind, run_program, Result.andThen_ok, hm, callFunc, hfun, hname, hbody, Bool.false_eq_true, if_false]
      have : (#[u] ++ c.args.map a.eval) = (u :: c.args.toList.map a.eval).toArray := by rw [← Array.toList_inj]; simp
      rw [this]; rfl
    unfold Oper.wp
    rw [hrun]
    simp only [Oper.upon]
    refine hcalls.mono ?_
    rintro e w' ⟨v, rfl, h1⟩
    exact h1

theorem opZ_sound (hC : C.OK P) (hH : HOK P H) {o : Oper} {K' : LV → Env → St → Prop} {Q : Act → World → Prop} (h : SR E N β RO env st a w) (hW : opZ C P H b o env st K')
    (hQ : ∀ v x env' st' β' RO' w', K' x env' st' → SR E N β' RO' env' st' a w' → VL β' RO' w' x v → Q (a.put o.dst v) w') : o.wp P a w Q fun _ _ _ => False := by
  unfold opZ at hW
  split at hW
  · rename_i f args hi
    unfold inlB at hi
    split at hi
    rotate_left
    · cases hi
    rename_i c hop
    split at hi
    rotate_left
    · cases hi
    rename_i fo hcal
    split at hi
    rotate_left
    · cases hi
    rename_i f' cap hf
    split at hi
    rotate_left
    · cases hi
    cases hi
    obtain ⟨h1, h2⟩ := hH E N f _ _ _ env st _ β RO a w h (vals_cap h c.args.toList cap) (strL_gives hW)
    refine call_any hop hcal h hf h1 (h2.mono ?_)
    rintro e w' ⟨v, x, env', st', β', RO', rfl, hK, hs, hv⟩
    exact ⟨v, rfl, hQ v x env' st' β' RO' w' (strES_gives hK) hs hv⟩
  · split at hW
    rotate_left
    · exact opWs_sound hC h hW hQ
    rename_i x nm args hi
    unfold invB at hi
    split at hi
    rotate_left
    · cases hi
    rename_i c hop
    split at hi
    rotate_left
    · cases hi
    rename_i ro nm' hcal
    cases hi
    have hro := h.opd ro
    have hW := strL_gives hW
    unfold invW at hW
    split at hW
    rotate_left
    · cases hW
    rename_i t y hx
    split at hW
    rotate_left
    · cases hW
    rename_i k cc
    rw [hx] at hro
    have inv : ∀ u, VL β RO w (.ifc t (.ptr k cc)) u → u = .iface t (.pointer (some ⟨β k, cc, none⟩)) := fun u hu => by
      cases hu with
      | ifc _ _ v hv => cases hv; rfl
    have hr := inv _ hro
    have hvs := vals_map h c.args.toList
    have cons : ∀ {x : LV} {v : Value}, VL β RO w x v → Vals β RO w (x :: c.args.toList.map (opd env)) (v :: c.args.toList.map a.eval) := fun hx => ⟨by simp, fun i y u hy hu => by
      cases i with
      | zero => simp at hy hu; subst hy; subst hu; exact hx
      | succ i => exact hvs.2 i y u hy hu⟩
    have fin : ∀ {f : Nat} {u : Value} {x : LV}, VL β RO w x u → (method (P.types.size + Made.depth) t (.pointer (some ⟨β k, cc, none⟩)) nm).run P w = .ok (f, u) w →
        H f (x :: c.args.toList.map (opd env)) (b + site o.dst) env st (fun x env st => strES env st (K' x)) → o.wp P a w Q fun _ _ _ => False := fun {f u x} hx hm hH' => by
      obtain ⟨h1, h2⟩ := hH E N f _ _ _ env st _ β RO a w h (cons hx) hH'
      refine inv_any hop hcal hr hm h1 (h2.mono ?_)
      rintro e w' ⟨v, x, env', st', β', RO', rfl, hK, hs, hv⟩
      exact ⟨v, rfl, hQ v x env' st' β' RO' w' (strES_gives hK) hs hv⟩
    cases hW with
    | ptr f hm hH' => exact fin (.ptr k cc) (hm _ _) hH'
    | val f e hm hH' =>
      obtain ⟨x, hl, hH'⟩ := someW_iff hH'
      obtain ⟨u, g1, g2⟩ := load_sound hC h.wr (.ptr (β := β) k cc) hl
      refine fin g2 ?_ (strL_gives hH')
      rw [hm]
      simp only [Sem.run_bind, g1, Result.andThen_ok, Sem.run_pure]
theorem opX_in (hC : C.OK P) (hY : YOK P E N Y) (hH : HOK P H) {o : Oper} {K' : LV → Env → St → Prop} {Q : Act → World → Prop} {Q' : Exit → Act → World → Prop} (hd : ∀ c, o.op ≠ .defer c) (h : SR E N β RO env st a w) (hW : opX C P Y H b o env st K')
    (hQ : ∀ v x env' st' β' RO' w', K' x env' st' → SR E N β' RO' env' st' a w' → VL β' RO' w' x v → Q (a.put o.dst v) w') : o.wpIn (wideR r) n P a w Q Q' := by
  unfold opX at hW
  split at hW
  · rename_i l args hy
    refine opY_in (C := C) (K' := K') hC hY hd h ?_ hQ
    unfold opY
    rw [hy]; exact hW
  · exact wp_in hd (fun _ _ h => h) (fun _ _ _ _ h => h) (opZ_sound hC hH h hW hQ)

theorem regGoX_in (hC : C.OK P) (hY : YOK P E N Y) (hH : HOK P H) {ops : Array Oper} {Q : Env → St → Prop} {Q' : Exit → Act → World → Prop} (hnd : noDef ops.toList = true) (hd : dstOK N ops.toList = true) (hQ : ∀ env st β RO a w, Q env st → SR E N β RO env st a w → Q' .normal a w) :
    ∀ (l : List Oper) (k : Nat) (β : K → Nat) (RO : Nat → Prop) (env : Env) (st : St) (a : Act) (w : World), ops.toList.drop k = l → SR E N β RO env st a w → regGoX C P Y H b ops.toList Q l env st → wpOpsIn (wideR r) n P ops Q' (List.range' k l.length) a w
  | [], k, β, RO, env, st, a, w, _, h, hW => hQ env st β RO a w hW h
  | o :: l, k, β, RO, env, st, a, w, hk, h, hW => by
    have hok : ops[k]? = some o := by
      have : (ops.toList.drop k)[0]? = some o := by rw [hk]; rfl
      rw [List.getElem?_drop, Nat.add_zero, Array.getElem?_toList] at this
      exact this
    have hdr : ops.toList.drop (k + 1) = l := by
      have := congrArg (List.drop 1) hk
      rw [List.drop_drop] at this
      simpa [Nat.add_comm] using this
    have hmem : o ∈ ops.toList := by
      have : o ∈ ops.toList.drop k := by rw [hk]; exact List.mem_cons_self ..
      exact List.mem_of_mem_drop this
    have hdo : ∀ d, o.dst = some d → d < N := dstOK_mem hd o hmem
    simp only [List.length_cons, List.range'_succ, wpOpsIn, hok]
    unfold regGoX at hW
    split at hW
    · rename_i hg
      rw [gdE_wanted hd h hg, if_pos rfl]
      exact opX_in hC hY hH (noDef_mem hnd o hmem) h hW fun v x env' st' β' RO' w' hK hs hv =>
        regGoX_in hC hY hH hnd hd hQ l (k + 1) β' RO' _ st' _ w' hdr (hs.put hv hdo) (splW_gives hK)
    · rename_i hg
      rw [gdE_wanted hd h hg, if_neg (by simp)]
      exact ⟨fun _ _ => trivial, regGoX_in hC hY hH hnd hd hQ l (k + 1) β RO _ st _ w hdr (h.put .skip hdo) hW⟩
    · cases hW

theorem tree_synX {ops : Array Oper} {Q : Env → St → Prop} {i : Nat} {o : Oper} {t : Tr} {L pf : List Nat} {listed : Array Bool} {env : Env} {st : St} (hC : C.OK P) (hH : HOK P H) (hd : dstOK N ops.toList = true) (hno : ops[i]? = some o) (hr : i ∈ Region.ready .any ops listed) (h2 : (pf.all fun j => belB ops 3 o j || L.contains j) = true)
    (hsub : ∀ env st, treeX C P H b ops.toList Q t env st → treeF P E N ops (fun ef st => ∃ env, ef = look env ∧ Q env st) t (inP_ pf) (look env) (listed.setIfInBounds i true) (look env) st)
    (h : match gdE ops.toList env o with
      | some true => opZ C P H b o env st fun x env st => splW (splK o.op) x fun x => againW C ops.toList L (putE env o.dst x) st (treeX C P H b ops.toList Q t (putE env o.dst x) st)
      | some false => againW C ops.toList L (putE env o.dst (.tup [])) st (treeX C P H b ops.toList Q t (putE env o.dst (.tup [])) st)
      | none => False) :
    ∃ o, ops[i]? = some o ∧ i ∈ Region.ready .any ops listed ∧ SynG P E N ops o (look env) st fun ef' st' => (∀ j, inP_ pf j = true → Befo ops o j ∨ Again P E N ops j ef' st') ∧
      treeF P E N ops (fun ef st => ∃ env, ef = look env ∧ Q env st) t (inP_ pf) ef' (listed.setIfInBounds i true) ef' st' := by
  have hdo : ∀ d, o.dst = some d → d < N := dstOK_mem hd o (by
    have := Array.mem_of_getElem? hno
    simpa using this)
  split at h
  · rename_i hg
    refine ⟨o, hno, hr, .inl ⟨gdE_F hg, fun β RO a w hs => ?_⟩⟩
    have hsr : SR E N β RO env st a w := hs.list fun n x hx => hx
    refine opZ_sound hC hH hsr h fun v x env' st' β' RO' w' hK hs2 hv => ?_
    obtain ⟨g1, g2⟩ := againW_spec (E := E) (N := N) hC (splW_gives hK)
    exact ⟨look (putE env' o.dst x), st', β', RO', ⟨pf_spec h2 g2, hsub _ _ g1⟩, (hs2.put hv hdo).toF⟩
  · rename_i hg
    obtain ⟨g1, g2⟩ := againW_spec (E := E) (N := N) hC h
    refine ⟨o, hno, hr, .inr ⟨gdE_F hg, look (putE env o.dst (.tup [])), fun n x hx => by rw [← look_putE]; exact hx, pf_spec h2 g2, hsub _ _ g1⟩⟩
  · cases h
theorem treeX_treeF (hC : C.OK P) (hH : HOK P H) {ops : Array Oper} {Q : Env → St → Prop} (hd : dstOK N ops.toList = true) : ∀ (t : Tr) (pf : List Nat) (env0 pre env : Env) (listed : Array Bool) (st : St), env = pre ++ env0 → treeB ops t pf listed = true → treeX C P H b ops.toList Q t env st →
    treeF P E N ops (fun ef st => ∃ env, ef = look env ∧ Q env st) t (inP_ pf) (look env0) listed (look env) st
  | .done, pf, env0, pre, env, listed, st, hp, ho, h => ⟨env, rfl, h⟩
  | .pure i t, pf, env0, pre, env, listed, st, hp, ho, h => by
    simp only [treeX] at h
    split at h
    rotate_left
    · cases h
    rename_i o hno
    rw [nth_eq, Array.getElem?_toList] at hno
    simp only [treeB, hno, Bool.and_eq_true] at ho
    have hF := firstB_spec ho.1
    split at h
    · rename_i hg
      obtain ⟨x, hx, hK⟩ := pureW_pev h
      refine ⟨o, x, hno, hF, .inl ⟨gdE_F hg, pureS_of hC hx⟩, ?_⟩
      obtain ⟨pre', hp'⟩ := putE_app hp o.dst x
      rw [← look_putE, ← inP_cons]
      exact treeX_treeF hC hH hd t (i :: pf) env0 pre' _ _ st hp' ho.2 (splW_gives hK)
    · rename_i hg
      refine ⟨o, .tup [], hno, hF, .inr ⟨gdE_F hg, rfl⟩, ?_⟩
      obtain ⟨pre', hp'⟩ := putE_app hp o.dst (.tup [])
      rw [← look_putE, ← inP_cons]
      exact treeX_treeF hC hH hd t (i :: pf) env0 pre' _ _ st hp' ho.2 h
    · cases h
  | .eff i t, pf, env0, pre, env, listed, st, hp, ho, h => by
    simp only [treeX] at h
    split at h
    rotate_left
    · cases h
    split at h
    rotate_left
    · cases h
    rename_i o hno
    rw [nth_eq, Array.getElem?_toList] at hno
    simp only [treeB, hno, Bool.and_eq_true] at ho
    have hrd := sole_spec ho.1
    split at h
    · rename_i hg
      refine ⟨o, _, hno, hrd, .inl ⟨gdE_F hg, effS_of hC hp h⟩, fun x st' hR => ⟨hR.1, ?_⟩⟩
      obtain ⟨pre', hp'⟩ := putE_app hp o.dst x
      rw [← look_putE]
      exact treeX_treeF hC hH hd t pf env0 pre' _ _ st' hp' ho.2 (splW_gives hR.2)
    · rename_i hg
      refine ⟨o, fun x st' => x = .tup [] ∧ st' = st, hno, hrd, .inr ⟨gdE_F hg, rfl, rfl⟩, ?_⟩
      rintro x st' ⟨rfl, rfl⟩
      refine ⟨fun _ _ h => h, ?_⟩
      obtain ⟨pre', hp'⟩ := putE_app hp o.dst (.tup [])
      rw [← look_putE]
      exact treeX_treeF hC hH hd t pf env0 pre' _ _ st' hp' ho.2 h
    · cases h
  | .last i t L, pf, env0, pre, env, listed, st, hp, ho, h => by
    simp only [treeX] at h
    split at h
    rotate_left
    · cases h
    rename_i o hno
    rw [nth_eq, Array.getElem?_toList] at hno
    simp only [treeB, hno, Bool.and_eq_true] at ho
    obtain ⟨h1, h2, h3⟩ := ho
    exact tree_synX hC hH hd hno (by simpa using h1) h2 (fun env st hk => treeX_treeF hC hH hd t pf env [] env _ st rfl h3 hk) h
  | .fork i t L rest, pf, env0, pre, env, listed, st, hp, ho, h => by
    simp only [treeX] at h
    obtain ⟨h, hr⟩ := h
    split at h
    rotate_left
    · cases h
    rename_i o hno
    rw [nth_eq, Array.getElem?_toList] at hno
    simp only [treeB, hno, Bool.and_eq_true] at ho
    obtain ⟨h1, h2, h3, h4⟩ := ho
    exact ⟨tree_synX hC hH hd hno (by simpa using h1) h2 (fun env st hk => treeX_treeF hC hH hd t pf env [] env _ st rfl h3 hk) h, treeX_treeF hC hH hd rest pf env0 pre env listed st hp h4 hr⟩
theorem drawnX (hC : C.OK P) (hH : HOK P H) {ops : Array Oper} {ord : List (Nat × Kind)} {Q : Env → St → Prop} {K' : Act → World → Prop} (hd : dstOK N ops.toList = true) (ho : ordOK ops ord = true) (hQ : ∀ env st β RO a w, Q env st → SR E N β RO env st a w → K' a w)
    (h : SR E N β RO env st a w) (hW : treeX C P H b ops.toList Q (trOf ord) env st) : wpAny P .any ops (onlyN K') ops.size (Array.replicate ops.size false) a { w with drawn := w.drawn + 1 } := by
  have hs1 := h.drew (w.drawn + 1)
  simp only [ordOK, Bool.and_eq_true] at ho
  obtain ⟨hns, hdis, hcov, htr⟩ := ho
  have hdist : Distinct ops := fun i j o p d hi hj ho hp => distB_spec hdis i j o p d (by simpa using hi) (by simpa using hj) ho hp
  have hN : ∀ (i : Nat) (o : Oper) (d : Nat), ops[i]? = some o → o.dst = some d → d < N := fun i o d hi hd' => dstOK_mem hd o (by have := Array.mem_of_getElem? hi; simpa using this) d hd'
  have hF : treeF P E N ops (fun ef st => ∃ env, ef = look env ∧ Q env st) (trOf ord) (inP_ []) (look env) (Array.replicate ops.size false) (look env) st := treeX_treeF hC hH hd _ [] env [] env _ st rfl htr hW
  have hA := (treeF_any (Region.noSelect_spec hns) hN hdist (trOf ord) ops.size (inP_ []) (look env) _ _ _ st hcov down0 (fun _ _ _ _ _ _ => .inl rfl) (fun k hk => by simp [inP_] at hk) hF).2 rfl
  refine anyF_sound hN ?_ (fun e a w h => h.elim) ops.size _ _ _ _ _ β RO a _ hs1.toF hA
  rintro ef st β RO a w hs ⟨env, rfl, hq⟩
  exact hQ env st β RO a w hq (hs.list fun n x hx => hx)

theorem look_appF : ∀ {a b : Fr} {n : Nat} {x : Ob}, look (a ++ b) n = some x → look a n = some x ∨ look b n = some x
  | [], b, n, x, h => .inr h
  | p :: r, b, n, x, h => by
    rw [List.cons_append, look_cons] at h
    rw [look_cons]
    split at h
    · rename_i he; rw [if_pos he]; exact .inl h
    · rename_i he; rw [if_neg he]; exact look_appF h
theorem SR.entX (h : SR E N β RO env st a w) {c : Code} {K' : Env → St → Prop} (hW : entX kp b c env st K') : ∃ env' st', K' env' st' ∧ SR E N β RO env' st' a w := by
  unfold Go.Fw.entX at hW
  split at hW
  · split at hW
    · obtain ⟨env', hW, h2⟩ := keepW_gives hW
      obtain ⟨cur', h1, h3⟩ := keepW_gives hW
      replace h1 := cutX_out h1
      refine ⟨_, _, h1, h.less (fun k o hk => get_less (fun n x hx => ?_) k o hk) fun n x hx => ?_⟩
      · rcases look_appF hx with hx | hx
        · exact h3 n x hx
        · exact othC_less hx
      rcases look_app hx with hx | ⟨_, hx⟩
      · exact h2 n x hx
      · exact (look_ghE hx).1
    · exact ⟨env, st, hW, h⟩
  · exact ⟨env, st, hW, h⟩

theorem rndX_in {c : Code} {Q : Exit → Env → St → Prop} (hb : ∀ (β : K → Nat) (RO : Nat → Prop) (env : Env) (st : St) (a : Act) (w : World) (Q : Exit → Env → St → Prop), SR E N β RO env st a w → wpcX C P Y H b kp od c env st Q → c.wpIn (wideR r) n P (Post E N Q) a w) :
    ∀ (m : Nat) (β : K → Nat) (RO : Nat → Prop) (env : Env) (st : St) (a : Act) (w : World), SR E N β RO env st a w → rndX (entX kp b c) (fun env st Q => wpcX C P Y H b kp od c env st Q) Q m env st → Code.roundsIn (wideR r) n P c (Post E N Q) m a w
  | 0, _, _, _, _, _, _, _, hW => hW.elim
  | m + 1, β, RO, env, st, a, w, h, hW => by
    obtain ⟨env1, st1, hW, hs⟩ := h.entX hW
    rw [roundsIn_succ]
    refine wpIn_mono (hb β RO env1 st1 a w _ hs hW) ?_
    rintro e a' w' ⟨env2, st2, β2, RO2, hq, hs2⟩
    cases e with
    | normal => exact rndX_in hb m β2 RO2 env2 st2 a' w' hs2 hq
    | _ => exact ⟨env2, st2, β2, RO2, hq, hs2⟩

theorem wpcX_in (hC : C.OK P) (hY : YOK P E N Y) (hH : HOK P H) : ∀ (c : Code), codeYOK N od c = true → ∀ (β : K → Nat) (RO : Nat → Prop) (env : Env) (st : St) (a : Act) (w : World) (Q : Exit → Env → St → Prop), SR E N β RO env st a w → wpcX C P Y H b kp od c env st Q → c.wpIn (wideR r) n P (Post E N Q) a w
  | .skip, _, β, RO, env, st, a, w, Q, h, hW => wpIn_skip ⟨env, st, β, RO, hW, h⟩
  | .label _, _, β, RO, env, st, a, w, Q, h, hW => wpIn_label ⟨env, st, β, RO, hW, h⟩
  | .exit _, _, β, RO, env, st, a, w, Q, h, hW => wpIn_exit ⟨env, st, β, RO, hW, h⟩
  | .ret, _, β, RO, env, st, a, w, Q, h, hW => wpIn_ret ⟨env, st, β, RO, hW, h⟩
  | .region id ops draw, hk, β, RO, env, st, a, w, Q, h, hW => by
    simp only [codeYOK, Bool.and_eq_true] at hk
    cases draw with
    | false =>
      refine wpIn_region ?_
      rw [List.range_eq_range', show ops.size = ops.toList.length by simp]
      exact regGoX_in hC hY hH hk.1 hk.2.1 (fun env st β RO a w hq hs => ⟨env, st, β, RO, hq, hs⟩) ops.toList 0 β RO env st a w rfl h hW
    | true =>
      obtain ⟨h0, h1, h2⟩ := hk
      simp only [wpcX] at hW
      simp only at h2
      split at hW
      · rename_i ord ho
        rw [ho] at h2
        have hA := drawnX (K' := fun a w => Post E N Q .normal a w) hC hH h1 h2 (fun env st β RO a w hq hs => ⟨env, st, β, RO, hq, hs⟩) h hW
        exact wpIn_mono (wpIn_region_any hC.mixed (wpAny_in h0 _ _ _ _ hA)) fun e a w hq => by
          cases e <;> first | exact hq | exact hq.elim
      · cases hW
  | .seq x y, hk, β, RO, env, st, a, w, Q, h, hW => by
    simp only [codeYOK, Bool.and_eq_true] at hk
    refine wpIn_seq (wpIn_mono (wpcX_in hC hY hH x hk.1 β RO env st a w _ h hW) ?_)
    rintro e a w ⟨env, st, β, RO, hq, hs⟩
    cases e with
    | normal =>
      have hq' : entX kp b y env st fun env st => wpcX C P Y H b kp od y env st Q := hq
      obtain ⟨env', st', h1, h2⟩ := hs.entX hq'
      exact wpcX_in hC hY hH y hk.2 β RO _ _ a w Q h2 h1
    | _ => exact ⟨env, st, β, RO, hq, hs⟩
  | .cond c x y, hk, β, RO, env, st, a, w, Q, h, hW => by
    simp only [codeYOK, Bool.and_eq_true] at hk
    have hc := h.opd c
    simp only [wpcX] at hW
    split at hW
    · rename_i t ht
      rw [ht] at hc
      cases t with
      | true => exact wpIn_cond_true hc.v_inv (wpcX_in hC hY hH x hk.1 β RO env st a w Q h hW)
      | false => exact wpIn_cond_false hc.v_inv (wpcX_in hC hY hH y hk.2 β RO env st a w Q h hW)
    · cases hW
  | .block id c, hk, β, RO, env, st, a, w, Q, h, hW => by
    refine wpIn_block (wpIn_mono (wpcX_in hC hY hH c (by simpa [codeYOK] using hk) β RO env st a w _ h hW) ?_)
    rintro e a w ⟨env, st, β, RO, hq, hs⟩
    cases e with
    | exit i =>
      simp only [blockW] at hq
      simp only [Exit.inBlock]
      by_cases hi : i = id
      · subst hi
        simp only [Nat.beq_refl] at hq
        rw [if_pos rfl]; exact ⟨env, st, β, RO, hq, hs⟩
      · rw [if_neg hi]
        split at hq
        · rename_i hb; exact absurd (by simpa using hb) hi
        · exact ⟨env, st, β, RO, hq, hs⟩
    | _ => exact ⟨env, st, β, RO, hq, hs⟩
  | .loop c, hk, β, RO, env, st, a, w, Q, h, hW => by
    have hkc : codeYOK N od c = true := by simpa [codeYOK] using hk
    simp only [wpcX] at hW
    cases hW with
    | rounds m hW => exact wpIn_loop_rounds m (rndX_in (fun β RO env st a w Q hs hW => wpcX_in hC hY hH c hkc β RO env st a w Q hs hW) m β RO env st a w h hW)
    | mk ι I F S m i0 hI0 hE0 hW =>
    obtain ⟨env1, st1, ⟨hF0, hS0⟩, hs0⟩ := h.entX hE0
    classical
    let R : Nat → Act → World → Prop := fun n a w => ∃ i, m i = n ∧ I i ∧ ∃ β RO, SR E N β RO (F i) (S i) a w
    let μ : Act → World → Nat := fun a w => if h : ∃ n, R n a w then Classical.choose (least h) else 0
    refine wpIn_loop (fun a w => ∃ n, R n a w) μ ⟨_, i0, rfl, hI0, β, RO, by rw [← hF0, ← hS0]; exact hs0⟩ ?_
    intro a w hn
    have hμ : μ a w = Classical.choose (least hn) := dif_pos hn
    obtain ⟨i, hi, hI, β, RO, hs⟩ := (Classical.choose_spec (least hn)).1
    refine wpIn_mono (wpcX_in hC hY hH c hkc β RO _ _ a w _ hs (hW i hI)) ?_
    rintro e a' w' ⟨env, st, β, RO, hq, hs⟩
    cases e with
    | normal =>
      obtain ⟨j, hj, hIj, hEj⟩ := hq
      obtain ⟨env1, st1, ⟨hFj, hSj⟩, hs1⟩ := hs.entX hEj
      have hR : R (m j) a' w' := ⟨j, rfl, hIj, β, RO, by rw [← hFj, ← hSj]; exact hs1⟩
      refine ⟨⟨_, hR⟩, ?_⟩
      have h1 : μ a' w' = Classical.choose (least ⟨_, hR⟩) := dif_pos ⟨_, hR⟩
      rw [h1, hμ, ← hi]
      exact Nat.lt_of_le_of_lt ((Classical.choose_spec (least (R := fun n => R n a' w') ⟨_, hR⟩)).2 _ hR) hj
    | _ => exact ⟨env, st, β, RO, hq, hs⟩
  | .scope _, hk, _, _, _, _, _, _, _, _, _ => by simp [codeYOK] at hk
  | .goto _, hk, _, _, _, _, _, _, _, _, _ => by simp [codeYOK] at hk
  | .rangeFunc _ _ _ _, hk, _, _, _, _, _, _, _, _, _ => by simp [codeYOK] at hk
  | .refuse _, hk, _, _, _, _, _, _, _, _, _ => by simp [codeYOK] at hk

end

/-! ### A function walked through at its call -/
def BIG : Nat := 1000000000000000
def shE (env : Env) : Env := selE 0 BIG 1000000 env
def unE (env : Env) : Env := selE 1000000 BIG 0 env
def retX (C : Ctx) (rs : List ResultVar) (K' : LV → Env → St → Prop) (e : Exit) (env : Env) (st : St) : Prop := match e with
  | .ret | .normal => match resL C env st rs with
    | some l => K' (resV l) env st
    | none => False
  | _ => False
abbrev InT := List (Nat × (Func × (Code × (Kp × Od))))
/-- Calls of the listed functions are walked through, so deep. -/
def inH (C : Ctx) (P : Program) (T : InT) : Nat → HW
  | 0 => noH
  | d + 1 => fun f args s env st K' => match look T f with
    | some x => match Nat.ble args.length x.1.ntmps with
      | true => wpcX C P noY (inH C P T d) (1000003 * (s + 1)) x.2.2.1 x.2.2.2 x.2.1 (argE 0 args ++ shE env) st (retX C x.1.results.toList fun x env st => K' x (unE env) st)
      | false => False
    | none => False
def InOK (P : Program) (T : InT) : Prop := ∀ f x, look T f = some x → P.funcs[f]? = some x.1 ∧ x.1.body = some x.2.1 ∧ FnOK P f ∧ (Nat.ble x.1.ntmps 1000000 && codeYOK x.1.ntmps x.2.2.2 x.2.1) = true
theorem InOK.nil {P : Program} : InOK P [] := fun f x h => by simp [look] at h
theorem InOK.cons {P : Program} {T : InT} {f : Nat} {fn : Func} {c : Code} {kp : Kp} {od : Od} (h1 : P.funcs[f]? = some fn) (h2 : fn.body = some c) (h3 : FnOK P f) (h4 : (Nat.ble fn.ntmps 1000000 && codeYOK fn.ntmps od c) = true) (h : InOK P T) : InOK P ((f, fn, c, kp, od) :: T) := fun g x hx => by
  rw [look_cons] at hx
  split at hx
  · rename_i he; subst he; cases hx; exact ⟨h1, h2, h3, h4⟩
  · exact h g x hx

section
variable {C : Ctx} {P : Program} {E : Ent} {N : Nat} {β : K → Nat} {RO : Nat → Prop} {env : Env} {st : St} {a : Act} {w : World}

theorem wr_same {E' : Ent} (h : WR E β RO st w) (h1 : E' = { E with gh := E'.gh, dfs := E'.dfs }) : WR E' β RO st w := by
  rw [h1]
  exact ⟨h.os, h.tape, h.output, h.size, h.keep, h.roLt, h.ro0, h.roNew, h.obj, h.objNew, h.inj, h.sep, h.fzRO, h.stay⟩

theorem res_run {fn : Func} {l : List LV} (hC : C.OK P) (hs : SR E N β RO env st a w) (hl : resL C env st fn.results.toList = some l) : ∃ v, (results fn a.tmps).run P w = .ok v w ∧ VL β RO w (resV l) v := by
  obtain ⟨vs, h1, h2⟩ := resL_run hC hs hl
  have hvl : vs.length = l.length := h2.1.symm
  refine ⟨outV vs, ?_, ?_⟩
  · unfold results
    have h1' : (fn.results.mapM fun x => match x with | .tmp t => pure (a.tmps.getD t undef) | .cell x t => do loadVar t (← asAddr (a.tmps.getD x undef)) : Sem (Array Value)).run P w = .ok vs.toArray w := by
      rw [Array.mapM_eq_mapM_toList, map_eq_pure_bind, Sem.run_bind]
      refine (congrArg (fun r => Result.andThen r _) h1).trans ?_
      rfl
    rw [Sem.run_bind]
    refine (congrArg (fun r => Result.andThen r _) h1').trans ?_
    clear h1 h1' h2 hvl
    match vs with
    | [] => simp [outV]
    | [v] => simp [outV]
    | _ :: _ :: _ => simp [outV]
  · match vs, l, hvl, h2 with
    | [], [], _, h2 => exact .tup [] [] rfl fun i x v h => by simp at h
    | [v], [x], _, h2 => exact h2.2 0 x v rfl rfl
    | v1 :: v2 :: vs, x1 :: x2 :: l, _, h2 => exact .tup _ _ h2.1 h2.2

theorem inH_ok (hC : C.OK P) {T : InT} (hT : InOK P T) : ∀ d, HOK P (inH C P T d)
  | 0 => noH_ok
  | d + 1 => by
    intro E N f s args vals env st K' β RO a w h hv hW
    simp only [inH] at hW
    split at hW
    rotate_left
    · cases hW
    rename_i x hx
    split at hW
    rotate_left
    · cases hW
    rename_i hlen
    have hlen := Nat.le_of_ble_eq_true hlen
    obtain ⟨hf, hb, hfn, hk⟩ := hT f x hx
    simp only [Bool.and_eq_true] at hk
    have hN : x.1.ntmps ≤ 1000000 := by simpa using hk.1
    refine ⟨hfn, ?_⟩
    obtain ⟨E5, hE5⟩ : ∃ E5 : Ent, E5 = { E with gh := fun m => tmpAt E a (m - 1000000), dfs := [] } := ⟨_, rfl⟩
    have hsame : E5 = { E with gh := E5.gh, dfs := E5.dfs } := by rw [hE5]
    have hback : E = { E5 with gh := E.gh, dfs := E.dfs } := by rw [hE5]
    have hgh : ∀ m, E5.gh m = tmpAt E a (m - 1000000) := fun m => by rw [hE5]
    have hvl : vals.length = args.length := hv.1.symm
    have tmpG : ∀ (a0 : Act) (m q : Nat), 1000000 ≤ m → m - 1000000 = q → tmpAt E5 a0 m = tmpAt E a q := fun a0 m q hm hq => by
      conv => lhs; unfold tmpAt
      rw [show Nat.blt m 1000000 = false by rw [Bool.eq_false_iff]; intro hb; rw [Nat.blt_eq] at hb; omega]
      simp only [hgh]
      rw [hq]
    have hs5 : SR E5 x.1.ntmps β RO (argE 0 args ++ shE env) st { tmps := vals.toArray ++ Array.replicate (x.1.ntmps - vals.toArray.size) undef, defers := [] } w := by
      refine ⟨wr_same h.wr hsame, ⟨by simp; omega, hN⟩, by rw [hE5], fun m y hy => ?_⟩
      rcases look_app hy with hy | ⟨_, hy⟩
      · obtain ⟨_, h2⟩ := argE_look hy
        simp only [Nat.sub_zero] at h2
        have hlt : m < vals.length := by rw [hvl]; exact (List.getElem?_eq_some_iff.1 h2).1
        refine ⟨vals[m], ?_, hv.2 m y _ h2 (List.getElem?_eq_getElem hlt)⟩
        rw [tmpAt_lt (by omega), Array.getElem?_append_left (by simpa using hlt)]
        simp [hlt]
      · obtain ⟨q, _, _, g3, g4⟩ := look_selE hy
        obtain ⟨v, g5, g6⟩ := h.env q y g4
        refine ⟨v, ?_, g6⟩
        rw [tmpG _ m q (by omega) (by omega)]; exact g5
    have hI := wpcX_in (r := none) (n := 0) hC noY_ok (inH_ok hC hT d) x.2.1 hk.2 β RO _ st _ w _ hs5 hW
    refine calls_out (r := none) (n := 0) (callsIn_of_wp hf hb trivial (wpIn_mono hI ?_))
    have fin : ∀ {env' : Env} {st' : St} {β' : K → Nat} {RO' : Nat → Prop} {a' : Act} {w' : World}, (match resL C env' st' x.1.results.toList with | some l => K' (resV l) (unE env') st' | none => False) → SR E5 x.1.ntmps β' RO' env' st' a' w' →
        a'.defers = [] ∧ ∃ v, (results x.1 a'.tmps).run P w' = .ok v w' ∧ ∃ v' y env2 st2 β2 RO2, Ending.returned v = .returned v' ∧ K' y env2 st2 ∧ SR E N β2 RO2 env2 st2 a w' ∧ VL β2 RO2 w' y v' := by
      intro env' st' β' RO' a' w' hq hs
      split at hq
      rotate_left
      · cases hq
      rename_i l hl
      obtain ⟨v, h1, h2⟩ := res_run hC hs hl
      refine ⟨by rw [hs.defers, hE5], v, h1, v, resV l, unE env', st', β', RO', rfl, hq, ⟨wr_same hs.wr hback, h.size, h.defers, fun m y hy => ?_⟩, h2⟩
      obtain ⟨q, _, _, g3, g4⟩ := look_selE hy
      obtain ⟨u, g5, g6⟩ := hs.env q y g4
      refine ⟨u, ?_, g6⟩
      rw [tmpG _ q m (by omega) (by omega)] at g5
      exact g5
    rintro e a' w' ⟨env', st', β', RO', hq, hs⟩
    cases e with
    | normal => exact fin hq hs
    | ret => exact fin hq hs
    | _ => exact hq.elim

/-- A function is right where its body is, calls of the listed functions walked through. -/
theorem spec_walk (hC : C.OK P) {f : Nat} {fn : Func} {c : Code} {args : List LV} {out : List Fr} {Post : LV → Fr → Prop} (T : InT) (d : Nat) (kp : Kp) (od : Od) (hT : InOK P T) (hf : P.funcs[f]? = some fn) (hb : fn.body = some c) (hk : (Nat.ble fn.ntmps 1000000 && codeYOK fn.ntmps od c) = true) (hn : Nat.ble args.length fn.ntmps = true) (hfn : FnOK P f)
    (hW : LV.ok.okL args → wpcX C P noY (inH C P T d) 0 kp od c (argE 0 args) ⟨out, []⟩ (retW C fn.results.toList Post)) : SpecP P f args out Post := by
  simp only [Bool.and_eq_true] at hk
  obtain ⟨hq, hk⟩ := hk
  have hq : fn.ntmps ≤ 1000000 := by simpa using hq
  have hn : args.length ≤ fn.ntmps := by simpa using hn
  refine ⟨hfn, fun β RO w vals hw hv => calls_out (r := none) (n := 0) ?_⟩
  have hlen : vals.length = args.length := hv.1.symm
  have hs : SR (entP β RO w) fn.ntmps β RO (argE 0 args) ⟨out, []⟩ { tmps := vals.toArray ++ Array.replicate (fn.ntmps - vals.toArray.size) undef, defers := [] } w := by
    refine ⟨hw, ⟨by simp; omega, hq⟩, rfl, fun n x hx => ?_⟩
    obtain ⟨_, h2⟩ := argE_look hx
    simp only [Nat.sub_zero] at h2
    have hlt : n < vals.length := by rw [hlen]; exact (List.getElem?_eq_some_iff.1 h2).1
    refine ⟨vals[n], ?_, hv.2 n x _ h2 (List.getElem?_eq_getElem hlt)⟩
    rw [tmpAt_lt (by omega), Array.getElem?_append_left (by simpa using hlt)]
    simp [hlt]
  refine callsIn_of_wp hf hb trivial (wpIn_mono (wpcX_in hC noY_ok (inH_ok hC hT d) c hk β RO _ _ _ w _ hs (hW hv.ok)) ?_)
  have fin : ∀ {env : Env} {st : St} {β' : K → Nat} {RO' : Nat → Prop} {a : Act} {w' : World}, (match resL C env st fn.results.toList with | some l => ∃ cs, keepW cs st.cur (Post (resV l)) | none => False) → SR (entP β RO w) fn.ntmps β' RO' env st a w' →
      a.defers = [] ∧ ∃ v, (results fn a.tmps).run P w' = .ok v w' ∧ ∃ v' r ro out' β' RO', Ending.returned v = .returned v' ∧ Post r ro ∧ WR (entP β RO w) β' RO' ⟨out', ro⟩ w' ∧ VL β' RO' w' r v' := by
    intro env st β' RO' a w' hq hs
    split at hq
    rotate_left
    · cases hq
    rename_i l hl
    obtain ⟨cs, hp⟩ := hq
    obtain ⟨cur', hp, hless⟩ := keepW_gives hp
    obtain ⟨v, h1, h2⟩ := res_run hC hs hl
    exact ⟨hs.defers, v, h1, v, resV l, cur', st.out, β', RO', rfl, hp, hs.wr.less (fun k o hk => get_less hless k o hk), h2⟩
  rintro e a w' ⟨env, st, β', RO', hq, hs⟩
  cases e with
  | normal => exact fin hq hs
  | ret => exact fin hq hs
  | _ => exact hq.elim

end
end Go.Fw

/- The program's data. -/
namespace Go.Fw
open Go

/-! ### The program's data -/
structure Lit where
  fact : Int
  neg : Bool
  deriving DecidableEq
structure Eff where
  nil : Bool
  when_ : List Lit
  lit : Lit
structure Actn where
  name : ByteArray
  cost : Int
  pn : Bool
  pre : List Lit
  en : Bool
  effs : List Eff
structure Task where
  fn : Bool
  facts : List ByteArray
  ni : Bool
  init : List Int
  gn : Bool
  goal : List Lit
  an : Bool
  acts : List Actn

def tI (n : Int) : List T := [.v (.int .i64 n)]
def tB (b : Bool) : List T := [.v (.bool b)]
def tS (s : ByteArray) : List T := [.v (.string s)]
def tLit (l : Lit) : List T := [.v (.int .i64 l.fact), .v (.bool l.neg)]
def tEff (e : Eff) : List T := [.sl e.nil 2 (e.when_.map tLit), .v (.int .i64 e.lit.fact), .v (.bool e.lit.neg)]
def tAct (a : Actn) : List T := [.v (.string a.name), .v (.int .i64 a.cost), .sl a.pn 2 (a.pre.map tLit), .sl a.en 3 (a.effs.map tEff)]
def tTask (t : Task) : List T := [.sl t.fn 1 (t.facts.map tS), .sl t.ni 1 (t.init.map tI), .sl t.gn 2 (t.goal.map tLit), .sl t.an 4 (t.acts.map tAct)]
abbrev LV.ints (nl : Bool) (l : List Int) : LV := .t (.sl nl 1 (l.map tI))
abbrev LV.lits (nl : Bool) (l : List Lit) : LV := .t (.sl nl 2 (l.map tLit))
abbrev LV.bools (nl : Bool) (l : List Bool) : LV := .t (.sl nl 1 (l.map tB))
abbrev LV.lit (l : Lit) : LV := .agg [.t (.v (.int .i64 l.fact)), .t (.v (.bool l.neg))]
abbrev LV.act (a : Actn) : LV := .agg [.t (.v (.string a.name)), .t (.v (.int .i64 a.cost)), .t (.sl a.pn 2 (a.pre.map tLit)), .t (.sl a.en 3 (a.effs.map tEff))]
abbrev LV.task (t : Task) : LV := .agg [.t (.sl t.fn 1 (t.facts.map tS)), .t (.sl t.ni 1 (t.init.map tI)), .t (.sl t.gn 2 (t.goal.map tLit)), .t (.sl t.an 4 (t.acts.map tAct))]

/-! ### Helpers for loops over lists -/
theorem lt_of_dec {α β : Type} {l : List α} {f : α → β} {i : Nat} (h : decide ((i : Int) < ((l.map f).length : Int)) = true) : i < l.length := by simpa using h
theorem ge_of_dec {α β : Type} {l : List α} {f : α → β} {i : Nat} (h : decide ((i : Int) < ((l.map f).length : Int)) = false) : l.length ≤ i := by simpa using h
theorem get_map {α β : Type} {l : List α} {f : α → β} {i : Nat} (h : i < l.length) : (l.map f)[((i : Int)).toNat]? = some (f l[i]) := by simp [h]
theorem le_max {α β : Type} {l : List α} {f : α → β} (h : (l.map f).length ≤ maxLen) : (l.length : Int) ≤ 9223372036854775807 := by
  rw [List.length_map] at h; unfold maxLen at h; omega

theorem all_false {α : Type} {l : List α} {p : α → Bool} {i : Nat} (hi : i < l.length) (h : p l[i] = false) : l.all p = false := by
  cases hh : l.all p with
  | false => rfl
  | true => rw [List.all_eq_true.1 hh _ (List.getElem_mem hi)] at h; cases h
theorem any_true {α : Type} {l : List α} {p : α → Bool} {i : Nat} (hi : i < l.length) (h : p l[i] = true) : l.any p = true := List.any_eq_true.2 ⟨_, List.getElem_mem hi, h⟩
theorem all_step {α : Type} {l : List α} {p : α → Bool} {i : Nat} (hi : i < l.length) (h : (l.take i).all p = true) (h2 : p l[i] = true) : (l.take (i + 1)).all p = true := by
  rw [List.take_add_one, List.all_append, h]; simp [hi, h2]
theorem any_step {α : Type} {l : List α} {p : α → Bool} {i : Nat} (hi : i < l.length) (h : (l.take i).any p = false) (h2 : p l[i] = false) : (l.take (i + 1)).any p = false := by
  rw [List.take_add_one, List.any_append, h]; simp [hi, h2]
theorem all_end {α : Type} {l : List α} {p : α → Bool} {i : Nat} (hi : l.length ≤ i) (h : (l.take i).all p = true) : l.all p = true := by
  rwa [List.take_of_length_le hi] at h
theorem any_end {α : Type} {l : List α} {p : α → Bool} {i : Nat} (hi : l.length ≤ i) (h : (l.take i).any p = false) : l.any p = false := by
  rwa [List.take_of_length_le hi] at h
theorem ret_bool {b c : Bool} {ro : Fr} (h : c = b) (h2 : ro = []) : LV.t (.v (.bool b)) = .bool c ∧ ro = [] := ⟨by rw [h]; rfl, h2⟩

/-! ### Nil slices of any element -/
theorem SpecP.conv1 {P : Program} {f : Nat} {x y : LV} {out : List Fr} {Post : LV → Fr → Prop} (hxy : ∀ (β : K → Nat) (RO : Nat → Prop) (w : World) (v : Value), VL β RO w x v → VL β RO w y v) (h : SpecP P f [y] out Post) : SpecP P f [x] out Post :=
  ⟨h.fn, fun β RO w vals hw hv => h.calls β RO w vals hw ⟨hv.1, fun i z v hz hvz => by
    match i with
    | 0 => simp at hz; subst hz; exact hxy β RO w v (hv.2 0 x v rfl hvz)
    | i + 1 => simp at hz⟩⟩
theorem nil_sz {a b : Nat} (β : K → Nat) (RO : Nat → Prop) (w : World) (v : Value) (h : VL β RO w (.t (.sl true a [])) v) : VL β RO w (.t (.sl true b [])) v := by
  cases h with
  | t _ _ h => cases h; exact .t _ _ (.nil b)

end Go.Fw

/- The value logic, part 28: functions that write objects of their caller. -/
namespace Go.Fw
open Go

/-! ### Objects under other names -/
section
variable {β : K → Nat} {RO : Nat → Prop} {w w' : World}
theorem VL.unmap {g : K → K} : ∀ {x : LV} {v : Value}, VL β RO w (mapV g x) v → VL (fun k => β (g k)) RO w x v := by
  intro x
  induction x using LV.rec (motive_2 := fun cs => ∀ (i : Nat) (y : LV) (v : Value), cs[i]? = some y → VL β RO w (mapV g y) v → VL (fun k => β (g k)) RO w y v) with
  | bad => intro v _; exact .bad v
  | t x => intro v h; simp only [mapV] at h; cases h with | t _ _ h => exact .t _ _ h
  | osl k sz off len => intro v h; simp only [mapV] at h; cases h with | osl _ _ _ _ cap e n a b c d => exact .osl (β := fun k => β (g k)) k sz off len cap e n a b c d
  | ptr k c => intro v h; simp only [mapV] at h; cases h; exact .ptr (β := fun k => β (g k)) k c
  | pel k sz i j => intro v h; simp only [mapV] at h; cases h; exact .pel (β := fun k => β (g k)) k sz i j
  | ipt cs => intro v h; simp only [mapV] at h; cases h with | ipt _ b off u a b c => exact .ipt cs _ _ u a b c
  | fn f cap =>
    intro v h
    simp only [mapV] at h
    cases h
    have : ((mapC g cap).map fun p => Value.pointer (some ⟨β p.1, p.2, none⟩)) = cap.map fun p => Value.pointer (some ⟨(fun k => β (g k)) p.1, p.2, none⟩) := by
      rw [mapC_eq, List.map_map]; rfl
    rw [this]
    exact .fn (β := fun k => β (g k)) f cap
  | mpr k => intro v h; simp only [mapV] at h; cases h; exact .mpr (β := fun k => β (g k)) k
  | ifc t x ih => intro v h; simp only [mapV] at h; cases h with | ifc _ _ v h => exact .ifc t x v (ih h)
  | agg cs ih =>
    intro v h
    simp only [mapV, mapL_eq] at h
    cases h with
    | agg _ vs hl hv h1 => exact .agg cs vs (by simpa using hl) (fun i x v hx hvx => ih i x v hx (hv i _ v (by rw [List.getElem?_map, hx]; rfl) hvx)) h1
  | tup cs ih =>
    intro v h
    simp only [mapV, mapL_eq] at h
    cases h with
    | tup _ vs hl hv => exact .tup cs vs (by simpa using hl) fun i x v hx hvx => ih i x v hx (hv i _ v (by rw [List.getElem?_map, hx]; rfl) hvx)
  | nil => rename_i h _; simp at h
  | cons x r ihx ihr =>
    rename_i i y v h hv
    cases i with
    | zero => simp at h; subst h; exact ihx hv
    | succ i => simp at h; exact ihr i y v h hv

theorem ObOK.unmap {g : K → K} (hsub : ∀ k i, g (.sub k i) = .sub (g k) i) {k : K} {o : Ob} (h : ObOK β RO w (g k) (mapO g o)) : ObOK (fun k => β (g k)) RO w k o := by
  cases o with
  | row e sz es => exact h
  | box cs =>
    obtain ⟨vs, ety, h1, h2, h3, h4⟩ := h
    simp only [mapL_eq] at h2 h3
    exact ⟨vs, ety, h1, by simpa using h2, fun i x v hx hv => (h3 i _ v (by rw [List.getElem?_map, hx]; rfl) hv).unmap, h4⟩
  | grid eo e sz rs =>
    obtain ⟨us, cap, h1, h2⟩ := h
    refine ⟨us, cap, h1, fun i r u hi hu => ?_⟩
    have := h2 i r u hi hu
    cases r with
    | nil => exact this
    | out => trivial
    | row es =>
      simp only at this ⊢
      rw [← hsub] at this
      exact VL.unmap (g := g) (x := .osl (.sub k i) sz 0 es.length) this
  | mp kd kv => exact h
  | mit m left => exact h

/-- A value stands as it stood, where blocks keep their numbers of cells. -/
theorem VL.mono2 {β' : K → Nat} {RO' : Nat → Prop} (hro : ∀ b, RO b → RO' b) (hw : ∀ b, RO b → w'.heap[b]? = w.heap[b]?)
    {x : LV} {v : Value} (h : VL β RO w x v) (S : K → Prop) (hS : ∀ k, S k → β' k = β k ∧ ∀ e n, w.shape? (β k) = some (e, n) → ∃ e', w'.shape? (β k) = some (e', n))
    (hx : ∀ k, LV.has k x = true → S k) : VL β' RO' w' x v := by
  have self : ∀ k : K, K.under k k = true := K.under_self
  induction h with
  | bad x => exact .bad x
  | t x v h => exact .t x v (h.mono hro hw)
  | osl k sz off len cap e n h hs hn hm =>
    obtain ⟨e1, e2⟩ := hS k (hx k (self k))
    obtain ⟨e', he'⟩ := e2 _ _ hs
    rw [← e1]; exact .osl k sz off len cap e' n h (by rw [e1]; exact he') hn hm
  | ptr k c => obtain ⟨e1, _⟩ := hS k (hx k (self k)); rw [← e1]; exact .ptr k c
  | pel k sz i j => obtain ⟨e1, _⟩ := hS k (hx k (self k)); rw [← e1]; exact .pel k sz i j
  | ipt cs b off u hb hcell hv => exact .ipt cs b off u (hro b hb) (fun j x hj => (World.cell?_of_block (hw b hb)).trans (hcell j x hj)) fun j x hj => (hv j x hj).mono hro hw
  | fn f cap =>
    have : (cap.map fun p => Value.pointer (some ⟨β p.1, p.2, none⟩)) = cap.map fun p => Value.pointer (some ⟨β' p.1, p.2, none⟩) := by
      refine List.map_congr_left fun p hp => ?_
      rw [(hS p.1 (hx p.1 (List.any_eq_true.2 ⟨p, hp, self p.1⟩))).1]
    rw [this]; exact .fn f cap
  | mpr k => obtain ⟨e1, _⟩ := hS k (hx k (self k)); rw [← e1]; exact .mpr k
  | ifc t x v _ ih => exact .ifc t x v (ih hx)
  | agg cs vs hl _ h1 ih =>
    refine .agg cs vs hl (fun i x v hi hv => ih i x v hi hv fun k hk => hx k ?_) h1
    simp only [LV.has]
    cases hc : LV.has.hasL k cs with
    | true => rfl
    | false => rw [hasL_mem hc x (List.mem_of_getElem? hi)] at hk; cases hk
  | tup cs vs hl _ ih =>
    refine .tup cs vs hl fun i x v hi hv => ih i x v hi hv fun k hk => hx k ?_
    simp only [LV.has]
    cases hc : LV.has.hasL k cs with
    | true => rfl
    | false => rw [hasL_mem hc x (List.mem_of_getElem? hi)] at hk; cases hk
end

/-! ### What is said of a function that writes -/
/-- What the call may change: the blocks of the objects that it is handed. -/
def entM (β : K → Nat) (RO : Nat → Prop) (w : World) (fr : Fr) : Ent := { w0 := w, RO0 := RO, Wr := fun b => ∃ k o, St.get ⟨[], fr⟩ k = some o ∧ b = β k, β0 := β, mv := fun _ => False, fz := true }

/-- The call comes back; of what was there only the objects 'fr' are written; those listed as pins stay where they lie. -/
structure SpecM (P : Program) (f : Nat) (args : List LV) (fr : Fr) (pins : List (Nat × Nat)) (Post : LV → Fr → Prop) : Prop where
  fn : FnOK P f
  calls : ∀ (β : K → Nat) (RO : Nat → Prop) (w : World) (vals : List Value), WR (entM β RO w fr) β RO ⟨[], fr⟩ w → Vals β RO w args vals →
    Calls P f vals.toArray w fun e w' => ∃ v r ro out' β' RO', e = .returned v ∧ Post r ro ∧ WR (entM β RO w fr) β' RO' ⟨out', ro⟩ w' ∧ VL β' RO' w' r v ∧
      ∀ s sz, look pins s = some sz → β' (.cur s) = β (.cur s) ∧ ∀ e n, w.shape? (β (.cur s)) = some (e, n) → ∃ e', w'.shape? (β (.cur s)) = some (e', n)

theorem SpecM.mono {P : Program} {f : Nat} {args : List LV} {fr : Fr} {pins : List (Nat × Nat)} {Post Post' : LV → Fr → Prop} (h : SpecM P f args fr pins Post) (hp : ∀ r ro, Post r ro → Post' r ro) : SpecM P f args fr pins Post' :=
  ⟨h.1, fun β RO w vals hw hv => (h.2 β RO w vals hw hv).mono fun _ _ ⟨v, r, ro, out', β', RO', h1, h2, h3⟩ => ⟨v, r, ro, out', β', RO', h1, hp _ _ h2, h3⟩⟩

/-- The slots that watch what stays. -/
def pinE : List (Nat × Nat) → Env
  | [] => []
  | p :: r => (1000000 + p.1, .osl (.cur p.1) p.2 0 0) :: pinE r
def pinB (env : Env) : List (Nat × Nat) → Bool
  | [] => true
  | p :: r => match look env (1000000 + p.1) with
    | some (.osl (.cur s) sz 0 0) => match Nat.beq s p.1, Nat.beq sz p.2 with
      | true, true => pinB env r
      | _, _ => false
    | _ => false
/-- The objects that are to stay are boxes and rows, of elements so wide. -/
def pinO (fr : Fr) : List (Nat × Nat) → Bool
  | [] => true
  | p :: r => (match look fr p.1 with
    | some (.row _ sz _) => Nat.beq sz p.2
    | some (.box cs) => Nat.beq 1 p.2 && Nat.ble cs.length 1000000
    | some (.grid _ _ _ _) => Nat.beq 1 p.2
    | _ => false) && pinO fr r

noncomputable def pinG (β : K → Nat) (w : World) (pins : List (Nat × Nat)) (n : Nat) : Option Value := match look pins (n - 1000000) with
  | some sz => some (.slice (some ⟨β (.cur (n - 1000000)), 0, none⟩) 0 (match w.shape? (β (.cur (n - 1000000))) with | some (_, m) => m / sz | none => 0))
  | none => none

/-- What is asked where the call comes back. -/
def retM (C : Ctx) (rs : List ResultVar) (pins : List (Nat × Nat)) (Post : LV → Fr → Prop) (e : Exit) (env : Env) (st : St) : Prop := match e with
  | .ret | .normal => match resL C env st rs with
    | some l => pinB env pins = true ∧ ∃ cs, keepW cs st.cur (Post (resV l))
    | none => False
  | _ => False

section
variable {C : Ctx} {P : Program} {E : Ent} {N : Nat} {β : K → Nat} {RO : Nat → Prop} {env : Env} {st : St} {a : Act} {w w' : World}

theorem pinO_look {fr : Fr} : ∀ {pins : List (Nat × Nat)}, pinO fr pins = true → ∀ {s sz : Nat}, look pins s = some sz → (∃ e es, look fr s = some (.row e sz es)) ∨ (∃ cs, look fr s = some (.box cs) ∧ sz = 1 ∧ cs.length ≤ 1000000) ∨ (∃ a b c d, look fr s = some (.grid a b c d) ∧ sz = 1)
  | [], _, s, sz, h => by simp [look] at h
  | p :: r, hp, s, sz, h => by
    simp only [pinO, Bool.and_eq_true] at hp
    rw [look_cons] at h
    split at h
    · rename_i he
      subst he; cases h
      have h1 := hp.1
      split at h1
      · rename_i e sz es hl
        have := Nat.eq_of_beq_eq_true h1
        subst this
        exact .inl ⟨_, _, hl⟩
      · rename_i cs hl
        simp only [Bool.and_eq_true] at h1
        exact .inr (.inl ⟨cs, hl, (Nat.eq_of_beq_eq_true h1.1).symm, Nat.le_of_ble_eq_true h1.2⟩)
      · rename_i hl
        exact .inr (.inr ⟨_, _, _, _, hl, (Nat.eq_of_beq_eq_true h1).symm⟩)
      · cases h1
    · exact pinO_look hp.2 h

theorem pinB_look {env : Env} : ∀ {pins : List (Nat × Nat)}, pinB env pins = true → ∀ {s sz : Nat}, look pins s = some sz → look env (1000000 + s) = some (.osl (.cur s) sz 0 0)
  | [], _, s, sz, h => by simp [look] at h
  | p :: r, hp, s, sz, h => by
    simp only [pinB] at hp
    split at hp
    rotate_left
    · cases hp
    rename_i s' sz' hl
    split at hp
    rotate_left
    · cases hp
    rename_i h1 h2
    have h1 := Nat.eq_of_beq_eq_true h1
    have h2 := Nat.eq_of_beq_eq_true h2
    subst h1; subst h2
    rw [look_cons] at h
    split at h
    · rename_i he
      cases h
      rw [← he]; exact hl
    · exact pinB_look hp h

theorem look_pinE : ∀ {pins : List (Nat × Nat)} {n : Nat} {x : LV}, look (pinE pins) n = some x → 1000000 ≤ n ∧ ∃ sz, look pins (n - 1000000) = some sz ∧ x = .osl (.cur (n - 1000000)) sz 0 0
  | [], n, x, h => by simp [pinE, look] at h
  | p :: r, n, x, h => by
    simp only [pinE] at h
    rw [look_cons] at h
    split at h
    · rename_i he
      subst he; cases h
      have : 1000000 + p.1 - 1000000 = p.1 := by omega
      refine ⟨by omega, p.2, ?_, ?_⟩
      · rw [this, look_cons, if_pos rfl]
      · rw [this]
    · rename_i he
      obtain ⟨h1, sz, h2, h3⟩ := look_pinE h
      refine ⟨h1, sz, ?_, h3⟩
      rw [look_cons, if_neg (by omega)]; exact h2

/-- A function that writes objects of its caller is right where its body is. -/
theorem specM_walk (hC : C.OK P) {f : Nat} {fn : Func} {c : Code} {args : List LV} {fr : Fr} {pins : List (Nat × Nat)} {Post : LV → Fr → Prop} {H : HW} (hH : HOK P H) (kp : Kp) (od : Od) (hf : P.funcs[f]? = some fn) (hb : fn.body = some c)
    (hk : (Nat.ble fn.ntmps 1000000 && codeYOK fn.ntmps od c) = true) (hn : Nat.ble args.length fn.ntmps = true) (hfn : FnOK P f) (hp : pinO fr pins = true)
    (hW : LV.ok.okL args → wpcX C P noY H 0 kp od c (argE 0 args ++ pinE pins) ⟨[], fr⟩ (retM C fn.results.toList pins Post)) : SpecM P f args fr pins Post := by
  simp only [Bool.and_eq_true] at hk
  obtain ⟨hq, hk⟩ := hk
  have hq : fn.ntmps ≤ 1000000 := by simpa using hq
  have hn : args.length ≤ fn.ntmps := by simpa using hn
  refine ⟨hfn, fun β RO w vals hw hv => calls_out (r := none) (n := 0) ?_⟩
  have hlen : vals.length = args.length := hv.1.symm
  obtain ⟨E5, hE5⟩ : ∃ E5 : Ent, E5 = { entM β RO w fr with gh := pinG β w pins, dfs := [] } := ⟨_, rfl⟩
  have hsame : E5 = { entM β RO w fr with gh := E5.gh, dfs := E5.dfs } := by rw [hE5]
  have hback : entM β RO w fr = { E5 with gh := (entM β RO w fr).gh, dfs := (entM β RO w fr).dfs } := by rw [hE5]
  have hgh : ∀ (a : Act) (n : Nat), 1000000 ≤ n → tmpAt E5 a n = pinG β w pins n := fun a n hn => by
    unfold tmpAt
    rw [show Nat.blt n 1000000 = false by rw [Bool.eq_false_iff]; intro hb; rw [Nat.blt_eq] at hb; omega, hE5]
  -- what lies where a pin is
  have hpin : ∀ s sz, look pins s = some sz → ∃ e m, w.shape? (β (.cur s)) = some (e, m) ∧ m = (m / sz) * sz ∧ m / sz ≤ maxLen := by
    intro s sz hs
    rcases pinO_look hp hs with ⟨e, es, hl⟩ | ⟨cs, hl, rfl, hcl⟩ | ⟨eo, e, sz', rs, hl, rfl⟩
    · obtain ⟨us, cap, hown, _⟩ := hw.obj (.cur s) _ hl
      rcases hown.2 with ⟨h0, _⟩ | ⟨g, cap', cur, hgv, _, hh, hnc, hcm, hcs, _⟩
      · cases h0
      cases hgv
      refine ⟨e, cur.size, by simp only [World.shape?, hh], ?_⟩
      rcases Nat.eq_zero_or_pos sz with hz | hz
      · subst hz; simp at hcs; simp [hcs]
      · rw [hcs, Nat.mul_div_cancel _ hz]; exact ⟨rfl, hcm⟩
    · obtain ⟨vs, ety, hh, hl2, _⟩ := hw.obj (.cur s) _ hl
      exact ⟨ety, vs.length, by simp only [World.shape?, hh]; simp, by simp, by simp [maxLen]; omega⟩
    · obtain ⟨us, cap, hown, _⟩ := hw.obj (.cur s) _ hl
      rcases hown.2 with ⟨h0, _⟩ | ⟨g, cap', cur, hgv, _, hh, hnc, hcm, hcs, _⟩
      · cases h0
      cases hgv
      refine ⟨eo, cur.size, by simp only [World.shape?, hh], ?_⟩
      rw [hcs, Nat.mul_div_cancel _ Nat.one_pos]; exact ⟨rfl, hcm⟩
  have hs : SR E5 fn.ntmps β RO (argE 0 args ++ pinE pins) ⟨[], fr⟩ { tmps := vals.toArray ++ Array.replicate (fn.ntmps - vals.toArray.size) undef, defers := [] } w := by
    refine ⟨wr_same hw hsame, ⟨by simp; omega, hq⟩, by rw [hE5], fun n x hx => ?_⟩
    rcases look_app hx with hx | ⟨_, hx⟩
    · obtain ⟨_, h2⟩ := argE_look hx
      simp only [Nat.sub_zero] at h2
      have hlt : n < vals.length := by rw [hlen]; exact (List.getElem?_eq_some_iff.1 h2).1
      refine ⟨vals[n], ?_, hv.2 n x _ h2 (List.getElem?_eq_getElem hlt)⟩
      rw [tmpAt_lt (by omega), Array.getElem?_append_left (by simpa using hlt)]
      simp [hlt]
    · obtain ⟨h1, sz, h2, rfl⟩ := look_pinE hx
      obtain ⟨e, m, h3, h4, h5⟩ := hpin _ _ h2
      refine ⟨.slice (some ⟨β (.cur (n - 1000000)), 0, none⟩) 0 (m / sz), ?_, ?_⟩
      · rw [hgh _ n h1]; simp only [pinG, h2, h3]
      · have := VL.osl (β := β) (RO := RO) (w := w) (.cur (n - 1000000)) sz 0 0 (m / sz) e m (Nat.zero_le _) h3 (by rw [Nat.zero_add]; exact h4) (by omega)
        rw [Nat.zero_mul] at this; exact this
  refine callsIn_of_wp hf hb trivial (wpIn_mono (wpcX_in hC noY_ok hH c hk β RO _ _ _ w _ hs (hW hv.ok)) ?_)
  have fin : ∀ {env : Env} {st : St} {β' : K → Nat} {RO' : Nat → Prop} {a : Act} {w' : World}, (match resL C env st fn.results.toList with | some l => pinB env pins = true ∧ ∃ cs, keepW cs st.cur (Post (resV l)) | none => False) → SR E5 fn.ntmps β' RO' env st a w' →
      a.defers = [] ∧ ∃ v, (results fn a.tmps).run P w' = .ok v w' ∧ ∃ v' r ro out' β' RO', Ending.returned v = .returned v' ∧ Post r ro ∧ WR (entM β RO w fr) β' RO' ⟨out', ro⟩ w' ∧ VL β' RO' w' r v' ∧
        ∀ s sz, look pins s = some sz → β' (.cur s) = β (.cur s) ∧ ∀ e n, w.shape? (β (.cur s)) = some (e, n) → ∃ e', w'.shape? (β (.cur s)) = some (e', n) := by
    intro env st β' RO' a w' hq hs
    split at hq
    rotate_left
    · cases hq
    rename_i l hl
    obtain ⟨hpb, cs, hpo⟩ := hq
    obtain ⟨cur', hpo, hless⟩ := keepW_gives hpo
    obtain ⟨v, h1, h2⟩ := res_run hC hs hl
    refine ⟨by rw [hs.defers, hE5], v, h1, v, resV l, cur', st.out, β', RO', rfl, hpo, (wr_same hs.wr hback).less (fun k o hk => get_less hless k o hk), h2, fun s sz hps => ?_⟩
    obtain ⟨u, g1, g2⟩ := hs.env _ _ (pinB_look hpb hps)
    have e1 : 1000000 + s - 1000000 = s := by omega
    rw [hgh _ _ (by omega)] at g1
    obtain ⟨e, m, h3, h4, h5⟩ := hpin _ _ hps
    simp only [pinG, e1, hps, h3, Option.some.injEq] at g1
    subst g1
    generalize hb' : β (.cur s) = b0 at *
    have inv : ∀ u, VL β' RO' w' (.osl (.cur s) sz 0 0) u → u = .slice (some ⟨b0, 0, none⟩) 0 (m / sz) → β' (.cur s) = b0 ∧ ∃ e', w'.shape? b0 = some (e', m) := by
      intro u hu he
      cases hu with
      | osl _ _ _ _ cap e n a b c d =>
        rw [Nat.zero_mul, Nat.zero_add] at *
        injection he with he1 _ he3
        injection he1 with he1
        injection he1 with he1 _ _
        subst he1; subst he3
        exact ⟨rfl, e, by rw [h4, ← c]; exact b⟩
    obtain ⟨i1, e', i2⟩ := inv _ g2 rfl
    refine ⟨i1, fun e2 n2 he2 => ⟨e', ?_⟩⟩
    rw [h3] at he2
    cases he2
    exact i2
  rintro e a' w' ⟨env, st, β', RO', hq, hs⟩
  cases e with
  | normal => exact fin hq hs
  | ret => exact fin hq hs
  | _ => exact hq.elim

end
end Go.Fw

/- The value logic, part 29: a call of a function that writes objects of its caller. -/
namespace Go.Fw
open Go

/-! ### The names of the objects that are handed on -/
abbrev Ren := List (Nat × Nat)
def bk : Ren → Nat → Option Nat
  | [], _ => none
  | p :: r, n => match Nat.beq p.2 n with
    | true => some p.1
    | false => bk r n
def renK (ρ : Ren) : K → K
  | .cur s => match look ρ s with
    | some n => .cur n
    | none => .cur s
  | .fr i s => .fr i s
  | .sub k i => .sub (renK ρ k) i
def domK (ρ : Ren) : K → Bool
  | .cur s => match look ρ s with
    | some _ => true
    | none => false
  | .fr _ _ => false
  | .sub k _ => domK ρ k
def unK (ρ : Ren) : K → Option K
  | .cur n => match bk ρ n with
    | some s => some (.cur s)
    | none => none
  | .fr _ _ => none
  | .sub k i => match unK ρ k with
    | some k0 => some (.sub k0 i)
    | none => none
def rhoB (ρ0 : Ren) : Ren → Bool
  | [] => true
  | p :: r => (match look ρ0 p.1 with | some n => Nat.beq n p.2 | none => false) && ((match bk ρ0 p.2 with | some s => Nat.beq s p.1 | none => false) && rhoB ρ0 r)
def domF (ρ : Ren) : Fr → Bool
  | [] => true
  | p :: r => domK ρ (.cur p.1) && (p.2.allK (domK ρ) && domF ρ r)
def modO (ρ : Ren) (cur : Fr) : Fr → Prop
  | [] => True
  | p :: r => (match look ρ p.1 with | some n => look cur n = some (mapO (renK ρ) p.2) | none => False) ∧ modO ρ cur r
/-- Does what the name stands for lie where it lay? -/
def livK (ρ : Ren) (pins : List (Nat × Nat)) (st : St) : K → Bool
  | .cur n => match bk ρ n with
    | some s => match look pins s with
      | some _ => true
      | none => false
    | none => match look st.cur n with
      | some _ => true
      | none => false
  | .fr _ _ => false
  | .sub _ _ => false
def livV (ρ : Ren) (pins : List (Nat × Nat)) (st : St) (x : LV) : LV := match x.allK (livK ρ pins st) with
  | true => x
  | false => .bad
def livL (ρ : Ren) (pins : List (Nat × Nat)) (st : St) : List LV → List LV
  | [] => []
  | x :: r => livV ρ pins st x :: livL ρ pins st r
def livO (ρ : Ren) (pins : List (Nat × Nat)) (st : St) : Ob → Ob
  | .box cs => .box (livL ρ pins st cs)
  | o => o
def livE (ρ : Ren) (pins : List (Nat × Nat)) (st : St) : Env → Env
  | [] => []
  | (n, x) :: r => (n, livV ρ pins st x) :: livE ρ pins st r
def modC (ρ : Ren) (pins : List (Nat × Nat)) (st : St) (ro : Fr) : Fr → Fr
  | [] => []
  | (n, o) :: r => match bk ρ n with
    | some s => match look ro s with
      | some o' => (n, mapO (renK ρ) o') :: modC ρ pins st ro r
      | none => modC ρ pins st ro r
    | none => (n, livO ρ pins st o) :: modC ρ pins st ro r
/-- Do iterators stand over maps that are not handed on? -/
def mitB (ρ : Ren) : Fr → Bool
  | [] => true
  | p :: r => match p.2 with
    | .mit m _ => match unK ρ m with
      | some _ => false
      | none => mitB ρ r
    | _ => mitB ρ r

/-- What is asked behind the call. -/
def backW (ρ : Ren) (pins : List (Nat × Nat)) (r : LV) (ro : Fr) (env : Env) (st : St) (K' : LV → Env → St → Prop) : Prop :=
  (r.allK (domK ρ) && domF ρ ro) = true ∧ K' (mapV (renK ρ) r) (livE ρ pins st env) ⟨[], modC ρ pins st ro st.cur⟩

/-- Slots that show rows of a row of rows that is not handed on: they stand as they stood. -/
def exP (ρ : Ren) (st : St) (env : Env) : Env → Prop
  | [] => True
  | p :: r => (look env p.1 = some p.2 ∧ ∃ n i sz off len o, p.2 = .osl (.sub (.cur n) i) sz off len ∧ bk ρ n = none ∧ st.get (.sub (.cur n) i) = some o) ∧ exP ρ st env r
def backX (ρ : Ren) (pins : List (Nat × Nat)) (ex : Env) (r : LV) (ro : Fr) (env : Env) (st : St) (K' : LV → Env → St → Prop) : Prop :=
  (r.allK (domK ρ) && domF ρ ro) = true ∧ K' (mapV (renK ρ) r) (ex ++ livE ρ pins st env) ⟨[], modC ρ pins st ro st.cur⟩
/-- A call of a function that writes: which of the own objects it is handed. -/
inductive ModH (P : Program) (f : Nat) (args : List LV) (env : Env) (st : St) (K' : LV → Env → St → Prop) : Prop
  | mk (ρ : Ren) {margs : List LV} {fr : Fr} {pins : List (Nat × Nat)} {Post : LV → Fr → Prop} (hs : SpecM P f margs fr pins Post) (ha : args = mapV.mapL (renK ρ) margs)
      (hk : (rhoB ρ ρ && (LV.allK.allL (domK ρ) margs && (domF ρ fr && mitB ρ st.cur))) = true) (ho : modO ρ st.cur fr) (hK : ∀ r ro, Post r ro → backW ρ pins r ro env st K')
  | mkx (ρ : Ren) (ex : Env) {margs : List LV} {fr : Fr} {pins : List (Nat × Nat)} {Post : LV → Fr → Prop} (hs : SpecM P f margs fr pins Post) (ha : args = mapV.mapL (renK ρ) margs)
      (hk : (rhoB ρ ρ && (LV.allK.allL (domK ρ) margs && (domF ρ fr && mitB ρ st.cur))) = true) (ho : modO ρ st.cur fr) (hex : exP ρ st env ex) (hK : ∀ r ro, Post r ro → backX ρ pins ex r ro env st K')

section
variable {P : Program} {E : Ent} {N : Nat} {β β' : K → Nat} {RO RO' : Nat → Prop} {env : Env} {st : St} {a : Act} {w w' : World} {ρ : Ren}

theorem look_mem {α : Type} : ∀ {l : List (Nat × α)} {n : Nat} {x : α}, look l n = some x → (n, x) ∈ l
  | [], n, x, h => by simp [look] at h
  | p :: r, n, x, h => by
    rw [look_cons] at h
    split at h
    · rename_i he; cases h; subst he; exact List.mem_cons_self ..
    · exact List.mem_cons_of_mem _ (look_mem h)
theorem bk_mem : ∀ {l : Ren} {n s : Nat}, bk l n = some s → (s, n) ∈ l
  | [], n, s, h => by simp [bk] at h
  | p :: r, n, s, h => by
    simp only [bk] at h
    split at h
    · rename_i he
      cases h
      have := Nat.eq_of_beq_eq_true he
      subst this; exact List.mem_cons_self ..
    · exact List.mem_cons_of_mem _ (bk_mem h)
theorem rhoB_mem {ρ0 : Ren} : ∀ {l : Ren}, rhoB ρ0 l = true → ∀ {s n : Nat}, (s, n) ∈ l → look ρ0 s = some n ∧ bk ρ0 n = some s
  | [], _, s, n, h => by cases h
  | p :: r, h, s, n, hm => by
    simp only [rhoB, Bool.and_eq_true] at h
    obtain ⟨h1, h2, h3⟩ := h
    rcases List.mem_cons.1 hm with he | hm
    · subst he
      split at h1
      · rename_i n' hn
        have := Nat.eq_of_beq_eq_true h1
        subst this
        split at h2
        · rename_i s' hs'
          have := Nat.eq_of_beq_eq_true h2
          subst this
          exact ⟨hn, hs'⟩
        · cases h2
      · cases h1
    · exact rhoB_mem h3 hm

theorem un_ren (hρ : rhoB ρ ρ = true) : ∀ {k : K}, domK ρ k = true → unK ρ (renK ρ k) = some k
  | .cur s, h => by
    simp only [domK] at h
    split at h
    · rename_i n hn
      obtain ⟨_, h2⟩ := rhoB_mem hρ (look_mem hn)
      simp only [renK, hn, unK, h2]
    · cases h
  | .fr _ _, h => by cases h
  | .sub k i, h => by simp only [renK, unK, un_ren (k := k) hρ h]
theorem ren_un (hρ : rhoB ρ ρ = true) : ∀ {k k0 : K}, unK ρ k = some k0 → renK ρ k0 = k ∧ domK ρ k0 = true ∧ k.isFr = false
  | .cur n, k0, h => by
    simp only [unK] at h
    split at h
    · rename_i s hs
      cases h
      obtain ⟨h1, _⟩ := rhoB_mem hρ (bk_mem hs)
      simp only [renK, h1, domK]; exact ⟨trivial, trivial, rfl⟩
    · cases h
  | .fr _ _, _, h => by cases h
  | .sub k i, k0, h => by
    simp only [unK] at h
    split at h
    · rename_i k1 h1
      cases h
      obtain ⟨g1, g2, g3⟩ := ren_un hρ h1
      exact ⟨by simp only [renK, g1], g2, g3⟩
    · cases h
theorem ren_inj (hρ : rhoB ρ ρ = true) {k k' : K} (h : domK ρ k = true) (h' : domK ρ k' = true) (he : renK ρ k = renK ρ k') : k = k' := by
  have h1 := un_ren hρ h
  rw [he, un_ren hρ h'] at h1
  exact (Option.some.inj h1).symm
theorem ren_fr : ∀ {k : K}, domK ρ k = true → (renK ρ k).isFr = false ∧ k.isFr = false
  | .cur s, h => by
    simp only [domK] at h
    split at h
    · rename_i n hn; simp only [renK, hn]; exact ⟨rfl, rfl⟩
    · cases h
  | .fr _ _, h => by cases h
  | .sub k i, h => ren_fr (k := k) h

theorem modO_look {cur : Fr} : ∀ {fr : Fr}, modO ρ cur fr → ∀ {s : Nat} {o : Ob}, look fr s = some o → ∃ n, look ρ s = some n ∧ look cur n = some (mapO (renK ρ) o)
  | [], _, s, o, h => by simp [look] at h
  | p :: r, h, s, o, hl => by
    obtain ⟨h1, h2⟩ := h
    rw [look_cons] at hl
    split at hl
    · rename_i he
      subst he; cases hl
      split at h1
      · rename_i n hn; exact ⟨n, hn, h1⟩
      · cases h1
    · exact modO_look h2 hl
theorem domF_look : ∀ {fr : Fr}, domF ρ fr = true → ∀ {s : Nat} {o : Ob}, look fr s = some o → domK ρ (.cur s) = true ∧ o.allK (domK ρ) = true
  | [], _, s, o, h => by simp [look] at h
  | p :: r, h, s, o, hl => by
    simp only [domF, Bool.and_eq_true] at h
    rw [look_cons] at hl
    split at hl
    · rename_i he
      subst he; cases hl; exact ⟨h.1, h.2.1⟩
    · exact domF_look h.2.2 hl

theorem get_no_fr {fr : Fr} {i s : Nat} {o : Ob} (h : St.get ⟨[], fr⟩ (.fr i s) = some o) : False := by simp [St.get] at h
theorem frag_get {fr : Fr} (ho : modO ρ st.cur fr) {k : K} {o : Ob} (h : St.get ⟨[], fr⟩ k = some o) : domK ρ k = true ∧ st.get (renK ρ k) = some (mapO (renK ρ) o) := by
  have root : ∀ s o, St.get ⟨[], fr⟩ (.cur s) = some o → domK ρ (.cur s) = true ∧ st.get (renK ρ (.cur s)) = some (mapO (renK ρ) o) := fun s o h => by
    obtain ⟨n, h1, h2⟩ := modO_look ho (s := s) (o := o) h
    exact ⟨by simp only [domK, h1], by simp only [renK, h1]; exact h2⟩
  cases k with
  | cur s => exact root s o h
  | fr i s => exact (get_no_fr h).elim
  | sub k i =>
    obtain ⟨eo, e, sz, rs, es, hg, hi, rfl⟩ := St.get_sub h
    cases k with
    | cur s =>
      obtain ⟨g1, g2⟩ := root s _ hg
      exact ⟨g1, by simp only [renK] at g2 ⊢; simp only [St.get] at g2 ⊢; simp only [g2, mapO, hi]⟩
    | fr j s => exact (get_no_fr hg).elim
    | sub k2 j => have := St.root_of_get_grid hg; cases this

theorem look_modC {pins : List (Nat × Nat)} {ro : Fr} : ∀ {cur : Fr} {n : Nat} {o : Ob}, look (modC ρ pins st ro cur) n = some o →
    (∃ s o', bk ρ n = some s ∧ look ro s = some o' ∧ o = mapO (renK ρ) o') ∨ (bk ρ n = none ∧ ∃ o0, look cur n = some o0 ∧ o = livO ρ pins st o0)
  | [], n, o, h => by simp [modC, look] at h
  | (m, x) :: r, n, o, h => by
    simp only [modC] at h
    have step : look (modC ρ pins st ro r) n = some o → m ≠ n ∨ bk ρ m ≠ none → (∃ s o', bk ρ n = some s ∧ look ro s = some o' ∧ o = mapO (renK ρ) o') ∨ (bk ρ n = none ∧ ∃ o0, look ((m, x) :: r) n = some o0 ∧ o = livO ρ pins st o0) := fun h hne => by
      rcases look_modC h with h | ⟨h1, o0, h2, h3⟩
      · exact .inl h
      · refine .inr ⟨h1, o0, ?_, h3⟩
        rw [look_cons, if_neg]
        · exact h2
        · rintro rfl
          rcases hne with h | h
          · exact h rfl
          · exact h h1
    split at h
    · rename_i s hs
      split at h
      · rename_i o' ho'
        rw [look_cons] at h
        split at h
        · rename_i he
          subst he; cases h; exact .inl ⟨s, o', hs, ho', rfl⟩
        · rename_i he; exact step h (.inl he)
      · exact step h (.inr (by rw [hs]; simp))
    · rename_i hs
      rw [look_cons] at h
      split at h
      · rename_i he
        subst he; cases h; exact .inr ⟨hs, x, by rw [look_cons, if_pos rfl], rfl⟩
      · rename_i he; exact step h (.inl he)
theorem look_livE {pins : List (Nat × Nat)} : ∀ {env : Env} {n : Nat} {x : LV}, look (livE ρ pins st env) n = some x → ∃ y, look env n = some y ∧ x = livV ρ pins st y
  | [], n, x, h => by simp [livE, look] at h
  | (m, y) :: r, n, x, h => by
    simp only [livE] at h
    rw [look_cons] at h
    split at h
    · rename_i he; subst he; cases h; exact ⟨y, by rw [look_cons, if_pos rfl], rfl⟩
    · rename_i he
      obtain ⟨z, h1, h2⟩ := look_livE h
      exact ⟨z, by rw [look_cons, if_neg he]; exact h1, h2⟩
theorem livL_eq {pins : List (Nat × Nat)} : ∀ cs : List LV, livL ρ pins st cs = cs.map (livV ρ pins st)
  | [] => rfl
  | x :: r => by simp only [livL, livL_eq r, List.map_cons]
theorem mapO_grid {g : K → K} {o : Ob} {eo e sz : Nat} {rs : List GR} (h : mapO g o = .grid eo e sz rs) : o = .grid eo e sz rs := by
  cases o <;> simp only [mapO, reduceCtorEq] at h
  exact h
theorem livO_grid {pins : List (Nat × Nat)} {o : Ob} {eo e sz : Nat} {rs : List GR} (h : livO ρ pins st o = .grid eo e sz rs) : o = .grid eo e sz rs := by
  cases o <;> simp only [livO, reduceCtorEq] at h
  exact h

theorem mitB_look : ∀ {cur : Fr}, mitB ρ cur = true → ∀ {n : Nat} {m : K} {l : List (Value × T)}, look cur n = some (.mit m l) → unK ρ m = none
  | [], _, n, m, l, h => by simp [look] at h
  | p :: r, hb, n, m, l, h => by
    have hr : mitB ρ r = true ∧ ∀ m l, p.2 = .mit m l → unK ρ m = none := by
      simp only [mitB] at hb
      split at hb
      · rename_i m' l' he
        split at hb
        · cases hb
        · rename_i hu
          exact ⟨hb, fun m l h => by rw [he] at h; cases h; exact hu⟩
      · rename_i hne
        exact ⟨hb, fun m l h => absurd h (hne m l)⟩
    rw [look_cons] at h
    split at h
    · exact hr.2 _ _ (Option.some.inj h)
    · exact mitB_look hr.1 h
theorem mod_get {pins : List (Nat × Nat)} {ro : Fr} {out' : List Fr} {k : K} {o : Ob} (h : St.get ⟨[], modC ρ pins st ro st.cur⟩ k = some o) :
    (∃ k0 o0, unK ρ k = some k0 ∧ St.get ⟨out', ro⟩ k0 = some o0 ∧ o = mapO (renK ρ) o0 ∧ k0.isFr = false) ∨ (unK ρ k = none ∧ k.isFr = false ∧ ∃ o0, st.get k = some o0 ∧ o = livO ρ pins st o0) := by
  have root : ∀ n o, St.get ⟨[], modC ρ pins st ro st.cur⟩ (.cur n) = some o → (∃ s o0, bk ρ n = some s ∧ St.get ⟨out', ro⟩ (.cur s) = some o0 ∧ o = mapO (renK ρ) o0) ∨ (bk ρ n = none ∧ ∃ o0, st.get (.cur n) = some o0 ∧ o = livO ρ pins st o0) := fun n o h => look_modC (o := o) h
  cases k with
  | cur n =>
    rcases root n o h with ⟨s, o0, h1, h2, h3⟩ | ⟨h1, o0, h2, h3⟩
    · exact .inl ⟨.cur s, o0, by simp only [unK, h1], h2, h3, rfl⟩
    · exact .inr ⟨by simp only [unK, h1], rfl, o0, h2, h3⟩
  | fr i n => exact (get_no_fr h).elim
  | sub k i =>
    obtain ⟨eo, e, sz, rs, es, hg, hi, rfl⟩ := St.get_sub h
    cases k with
    | cur n =>
      rcases root n _ hg with ⟨s, o0, h1, h2, h3⟩ | ⟨h1, o0, h2, h3⟩
      · have := mapO_grid h3.symm
        subst this
        refine .inl ⟨.sub (.cur s) i, .row e sz es, by simp only [unK, h1], ?_, rfl, rfl⟩
        simp only [St.get] at h2 ⊢
        simp only [h2, hi]
      · have := livO_grid h3.symm
        subst this
        refine .inr ⟨by simp only [unK, h1], rfl, .row e sz es, ?_, rfl⟩
        simp only [St.get] at h2 ⊢
        simp only [h2, hi]
    | fr j n => exact (get_no_fr hg).elim
    | sub k2 q => have := St.root_of_get_grid hg; cases this

/-- A value stands as it stood, where each of its names does. -/
theorem VL.mono3 {p : K → Bool} (hro : ∀ b, RO b → RO' b) (hw : ∀ b, RO b → w'.heap[b]? = w.heap[b]?)
    (hS : ∀ k, p k = true → β' k = β k ∧ ∀ e n, w.shape? (β k) = some (e, n) → ∃ e', w'.shape? (β k) = some (e', n)) {x : LV} {v : Value} (h : VL β RO w x v) : x.allK p = true → VL β' RO' w' x v := by
  induction h with
  | bad x => intro _; exact .bad x
  | t x v h => intro _; exact .t x v (h.mono hro hw)
  | osl k sz off len cap e n h hs hn hm =>
    intro hp
    obtain ⟨e1, e2⟩ := hS k hp
    obtain ⟨e', he'⟩ := e2 _ _ hs
    rw [← e1]; exact .osl k sz off len cap e' n h (by rw [e1]; exact he') hn hm
  | ptr k c => intro hp; obtain ⟨e1, _⟩ := hS k hp; rw [← e1]; exact .ptr k c
  | pel k sz i j => intro hp; obtain ⟨e1, _⟩ := hS k hp; rw [← e1]; exact .pel k sz i j
  | ipt cs b off u hb hcell hv => intro _; exact .ipt cs b off u (hro b hb) (fun j x hj => (World.cell?_of_block (hw b hb)).trans (hcell j x hj)) fun j x hj => (hv j x hj).mono hro hw
  | fn f cap =>
    intro hp
    have hall : ∀ {cap : List (K × Nat)}, LV.allK.allC p cap = true → ∀ q ∈ cap, p q.1 = true := by
      intro cap
      induction cap with
      | nil => intro _ q hq; cases hq
      | cons y r ih =>
        intro h q hq
        simp only [LV.allK.allC, Bool.and_eq_true] at h
        rcases List.mem_cons.1 hq with rfl | hq
        · exact h.1
        · exact ih h.2 q hq
    have : (cap.map fun p => Value.pointer (some ⟨β p.1, p.2, none⟩)) = cap.map fun p => Value.pointer (some ⟨β' p.1, p.2, none⟩) := by
      refine List.map_congr_left fun q hq => ?_
      rw [(hS q.1 (hall hp q hq)).1]
    rw [this]; exact .fn f cap
  | mpr k => intro hp; obtain ⟨e1, _⟩ := hS k hp; rw [← e1]; exact .mpr k
  | ifc t x v _ ih => intro hp; exact .ifc t x v (ih hp)
  | agg cs vs hl _ h1 ih => intro hp; exact .agg cs vs hl (fun i x v hi hv => ih i x v hi hv (allL_mem hp x (List.mem_of_getElem? hi))) h1
  | tup cs vs hl _ ih => intro hp; exact .tup cs vs hl fun i x v hi hv => ih i x v hi hv (allL_mem hp x (List.mem_of_getElem? hi))

theorem exP_look {st : St} {env : Env} : ∀ {ex : Env}, exP ρ st env ex → ∀ {n : Nat} {x : LV}, look ex n = some x → look env n = some x ∧ ∃ q i sz off len o, x = .osl (.sub (.cur q) i) sz off len ∧ bk ρ q = none ∧ st.get (.sub (.cur q) i) = some o
  | [], _, n, x, h => by simp [look] at h
  | p :: r, hp, n, x, h => by
    rw [look_cons] at h
    split at h
    · rename_i he; cases h; subst he; exact hp.1
    · exact exP_look hp.2 h
theorem modH_core (ρ : Ren) (ex : Env) {f : Nat} {N : Nat} {a : Act} {w : World} {E : Ent} {β : K → Nat} {RO : Nat → Prop} {vals : List Value} {env : Env} {st : St} {K' : LV → Env → St → Prop} {margs : List LV} {fr : Fr} {pins : List (Nat × Nat)} {Post : LV → Fr → Prop} (h : SR E N β RO env st a w) (hs : SpecM P f margs fr pins Post) (hv : Vals β RO w (mapV.mapL (renK ρ) margs) vals)
    (hk : (rhoB ρ ρ && (LV.allK.allL (domK ρ) margs && (domF ρ fr && mitB ρ st.cur))) = true) (ho : modO ρ st.cur fr) (hex : exP ρ st env ex) (hK : ∀ r ro, Post r ro → backX ρ pins ex r ro env st K') :
    FnOK P f ∧ Calls P f vals.toArray w fun e w' => ∃ v x env' st' β' RO', e = .returned v ∧ K' x env' st' ∧ SR E N β' RO' env' st' a w' ∧ VL β' RO' w' x v := by
  simp only [Bool.and_eq_true] at hk
  obtain ⟨hρ, hda, hdf, hmit⟩ := hk
  have hcan : ∀ {k : K}, domK ρ k = true → E.can (renK ρ k) := fun hd h => by rw [(ren_fr hd).1] at h; cases h
  have hWr : ∀ b, (entM (fun k => β (renK ρ k)) RO w fr).Wr b → ∃ k o, st.get (renK ρ k) = some o ∧ domK ρ k = true ∧ b = β (renK ρ k) := fun b ⟨k, o, hg, hb⟩ => by
    obtain ⟨g1, g2⟩ := frag_get ho hg
    exact ⟨k, _, g2, g1, hb⟩
  have hwr : WR (entM (fun k => β (renK ρ k)) RO w fr) (fun k => β (renK ρ k)) RO ⟨[], fr⟩ w := by
    refine ⟨rfl, rfl, rfl, Nat.le_refl _, fun _ _ _ => rfl, h.wr.roLt, fun _ h => h, fun _ h => .inl h, fun k o hg => ?_, fun k o hg _ => .inl ⟨k, o, hg, rfl⟩, fun k k' o o' hg hg' _ _ he => ?_, fun k o hg _ => ?_, fun k o hg hc => ?_, fun _ _ _ => rfl⟩
    · obtain ⟨g1, g2⟩ := frag_get ho hg
      exact ObOK.unmap (fun _ _ => rfl) (h.wr.obj _ _ g2)
    · obtain ⟨g1, g2⟩ := frag_get ho hg
      obtain ⟨f1, f2⟩ := frag_get ho hg'
      exact ren_inj hρ g1 f1 (h.wr.inj _ _ _ _ g2 f2 (hcan g1) (hcan f1) he)
    · obtain ⟨g1, g2⟩ := frag_get ho hg
      exact h.wr.sep _ _ g2 (hcan g1)
    · obtain ⟨g1, g2⟩ := frag_get ho hg
      exact absurd (fun h => by rw [(ren_fr g1).2] at h; cases h) hc
  have hvals : Vals (fun k => β (renK ρ k)) RO w margs vals := by
    refine ⟨by have := hv.1; rw [mapL_eq] at this; simpa using this, fun i x v hx hvx => ?_⟩
    exact VL.unmap (hv.2 i _ v (by rw [mapL_eq, List.getElem?_map, hx]; rfl) hvx)
  refine ⟨hs.fn, (hs.calls _ RO w vals hwr hvals).mono ?_⟩
  rintro e w' ⟨v, r, ro, out', β', RO', rfl, hpost, hw', hr, hpin⟩
  obtain ⟨hd, hK'⟩ := hK r ro hpost
  simp only [Bool.and_eq_true] at hd
  obtain ⟨hdr, hdro⟩ := hd
  let β2 : K → Nat := fun k => match unK ρ k with | some k0 => β' k0 | none => β k
  have hβn : ∀ k, domK ρ k = true → β2 (renK ρ k) = β' k := fun k hd => by simp only [β2, un_ren hρ hd]
  have hβo : ∀ k, unK ρ k = none → β2 k = β k := fun k hu => by simp only [β2, hu]
  have hout : ∀ {k : K} {o : Ob}, unK ρ k = none → st.get k = some o → ¬ (entM (fun k => β (renK ρ k)) RO w fr).Wr (β k) := by
    intro k o hu hg hb
    obtain ⟨k1, o1, g1, g2, g3⟩ := hWr _ hb
    by_cases hc : E.can k
    · have := h.wr.inj _ _ _ _ hg g1 hc (hcan g2) g3
      rw [this, un_ren hρ g2] at hu; cases hu
    · exact h.wr.sep _ _ g1 (hcan g2) (g3 ▸ h.wr.fzRO k o hg hc)
  have hsame : ∀ {k : K} {o : Ob}, unK ρ k = none → st.get k = some o → w'.heap[β k]? = w.heap[β k]? := fun hu hg => hw'.keep _ (h.wr.obj _ _ hg).lt (hout hu hg)
  have hroW : ∀ b, RO b → w'.heap[b]? = w.heap[b]? := fun b hb => hw'.keep b (h.wr.roLt b hb) fun hbw => by
    obtain ⟨k1, o1, g1, g2, g3⟩ := hWr _ hbw
    exact h.wr.sep _ _ g1 (hcan g2) (g3 ▸ hb)
  have hro : ∀ b, RO b → RO' b := fun b hb => hw'.ro0 b hb
  have hliv : ∀ k, livK ρ pins st k = true → β2 k = β k ∧ ∀ e n, w.shape? (β k) = some (e, n) → ∃ e', w'.shape? (β k) = some (e', n) := by
    intro k hk
    cases k with
    | cur n =>
      simp only [livK] at hk
      split at hk
      · rename_i s hs'
        split at hk
        · rename_i sz hp
          obtain ⟨g1, g2⟩ := hpin s sz hp
          obtain ⟨f1, f2⟩ := rhoB_mem hρ (bk_mem hs')
          have e1 : renK ρ (.cur s) = .cur n := by simp only [renK, f1]
          simp only [e1] at g1 g2
          exact ⟨by show (match unK ρ (.cur n) with | some k0 => β' k0 | none => β (.cur n)) = _; simp only [unK, hs']; exact g1, g2⟩
        · cases hk
      · rename_i hs'
        have hu : unK ρ (.cur n) = none := by simp only [unK, hs']
        split at hk
        · rename_i o hl
          refine ⟨hβo _ hu, fun e m he => ⟨e, ?_⟩⟩
          rw [shape_of_block (hsame hu (k := .cur n) (o := o) hl)]; exact he
        · cases hk
    | fr => cases hk
    | sub => cases hk
  have hval : ∀ {x : LV} {u : Value}, VL β RO w x u → VL β2 RO' w' (livV ρ pins st x) u := by
    intro x u hx
    unfold livV
    split
    · rename_i hl; exact VL.mono3 hro hroW hliv hx hl
    · exact .bad u
  refine ⟨v, mapV (renK ρ) r, ex ++ livE ρ pins st env, ⟨[], modC ρ pins st ro st.cur⟩, β2, RO', rfl, hK', ⟨⟨hw'.os.trans h.wr.os, hw'.tape.trans h.wr.tape, hw'.output.trans h.wr.output, Nat.le_trans h.wr.size hw'.size, fun b hlt hnw => ?_, hw'.roLt, fun b hb => hro b (h.wr.ro0 b hb), fun b hb => ?_, fun k o hg => ?_, fun k o hg hc => ?_, fun k k' o o' hg hg' hc hc' heq => ?_, fun k o hg hc => ?_, fun k o hg hc => ?_, fun k hf hnm => ?_⟩, h.size, h.defers, fun n x hx => ?_⟩, ?_⟩
  · rw [hw'.keep b (Nat.lt_of_lt_of_le hlt h.wr.size) fun hb => ?_]
    · exact h.wr.keep b hlt hnw
    · obtain ⟨k1, o1, g1, g2, rfl⟩ := hWr _ hb
      rcases h.wr.objNew _ _ g1 (hcan g2) with h1 | h1
      · exact hnw h1
      · omega
  · rcases hw'.roNew b hb with h1 | h1 | h1
    · exact h.wr.roNew b h1
    · exact .inr (.inl (Nat.le_trans h.wr.size h1))
    · obtain ⟨k1, o1, g1, g2, rfl⟩ := hWr _ h1
      rcases h.wr.objNew _ _ g1 (hcan g2) with h2 | h2
      · exact .inr (.inr h2)
      · exact .inr (.inl h2)
  · rcases mod_get (out' := out') hg with ⟨k0, o0, h1, h2, rfl, h3⟩ | ⟨h1, hnf, o0, h2, rfl⟩
    · obtain ⟨g1, g2, _⟩ := ren_un hρ h1
      rw [← g1]
      have hok := hw'.obj k0 o0 h2
      refine ObOK.map (p := domK ρ) (β2 := β2) (fun k hk => hβn k hk) (fun _ _ => rfl) g2 (fun _ => g2) hok ?_
      cases k0 with
      | cur s => exact (domF_look hdro h2).2
      | fr i s => cases h3
      | sub k i => obtain ⟨_, _, _, _, _, _, _, rfl⟩ := St.get_sub h2; rfl
    · have hok := h.wr.obj k o0 h2
      have hrest : (∀ cs, o0 ≠ .box cs) → ObOK β2 RO' w' k o0 := fun hnb => by
        refine hok.keep hro hroW (hβo k h1) (hsame h1 h2) (fun cs hcs => absurd hcs (hnb cs)) (fun eo e sz rs ho1 i es hi => ?_) fun m l ho1 => ?_
        · have hus : unK ρ (.sub k i) = none := by simp only [unK, h1]
          have hgs : st.get (.sub k i) = some (.row e sz es) := by
            rw [ho1] at h2
            simp only [St.get, h2, hi]
          exact ⟨hβo _ hus, fun r hr => by rw [shape_of_block (hsame hus hgs)]; exact hr⟩
        · have hm : unK ρ m = none := by
            subst ho1
            cases k with
            | cur n => exact mitB_look hmit h2
            | fr i n => cases hnf
            | sub k i => obtain ⟨_, _, _, _, _, _, _, h6⟩ := St.get_sub h2; cases h6
          rw [ho1] at hok
          obtain ⟨seen, ents, clock, _, hm2, hm3, _⟩ := hok
          exact ⟨hβo _ hm, hroW _ hm3⟩
      cases o0 with
      | box cs =>
        obtain ⟨vs, ety, g1, g2, g3, g4⟩ := hok
        refine ⟨vs, ety, by rw [hβo k h1, hsame h1 h2]; exact g1, by simp only [livL_eq]; simpa using g2, fun i x v hx hvx => ?_, g4⟩
        rw [livL_eq, List.getElem?_map] at hx
        cases hc : cs[i]? with
        | none => simp [hc] at hx
        | some y => simp [hc] at hx; rw [← hx]; exact hval (g3 i y v hc hvx)
      | row e sz es => exact hrest fun cs hcs => by cases hcs
      | grid eo e sz rs => exact hrest fun cs hcs => by cases hcs
      | mp kd kv => exact hrest fun cs hcs => by cases hcs
      | mit m l => exact hrest fun cs hcs => by cases hcs
  · rcases mod_get (out' := out') hg with ⟨k0, o0, h1, h2, _, h3⟩ | ⟨h1, _, o0, h2, _⟩
    · obtain ⟨g1, g2, _⟩ := ren_un hρ h1
      rw [← g1, hβn k0 g2]
      rcases hw'.objNew k0 o0 h2 (fun hf => by rw [h3] at hf; cases hf) with h4 | h4
      · obtain ⟨k1, o1, f1, f2, f3⟩ := hWr _ h4
        rw [f3]; exact h.wr.objNew _ _ f1 (hcan f2)
      · exact .inr (Nat.le_trans h.wr.size h4)
    · rw [hβo k h1]; exact h.wr.objNew k o0 h2 hc
  · have key : ∀ {k k' : K} {k0 : K} {o0 o0' : Ob}, unK ρ k = some k0 → St.get ⟨out', ro⟩ k0 = some o0 → k0.isFr = false → unK ρ k' = none → st.get k' = some o0' → β2 k = β2 k' → False := by
      intro k k' k0 o0 o0' h1 h2 h3 f1 f2 he
      obtain ⟨g1, g2, _⟩ := ren_un hρ h1
      rw [← g1, hβn k0 g2, hβo k' f1] at he
      rcases hw'.objNew k0 o0 h2 (fun hf => by rw [h3] at hf; cases hf) with h4 | h4
      · rw [he] at h4; exact hout f1 f2 h4
      · have := (h.wr.obj k' o0' f2).lt
        rw [← he] at this
        exact absurd (Nat.lt_of_lt_of_le this h4) (Nat.lt_irrefl _)
    rcases mod_get (out' := out') hg with ⟨k0, o0, h1, h2, _, h3⟩ | ⟨h1, _, o0, h2, _⟩ <;> rcases mod_get (out' := out') hg' with ⟨k0', o0', f1, f2, _, f3⟩ | ⟨f1, _, o0', f2, _⟩
    · obtain ⟨g1, g2, _⟩ := ren_un hρ h1
      obtain ⟨g1', g2', _⟩ := ren_un hρ f1
      have he : β' k0 = β' k0' := by
        have := heq
        simp only [β2, h1, f1] at this
        exact this
      rw [← g1, ← g1', hw'.inj k0 k0' o0 o0' h2 f2 (fun hf => by rw [h3] at hf; cases hf) (fun hf => by rw [f3] at hf; cases hf) he]
    · exact (key h1 h2 h3 f1 f2 heq).elim
    · exact (key f1 f2 f3 h1 h2 heq.symm).elim
    · exact h.wr.inj k k' o0 o0' h2 f2 hc hc' (by rw [← hβo k h1, ← hβo k' f1]; exact heq)
  · rcases mod_get (out' := out') hg with ⟨k0, o0, h1, h2, _, h3⟩ | ⟨h1, _, o0, h2, _⟩
    · obtain ⟨g1, g2, _⟩ := ren_un hρ h1
      rw [← g1, hβn k0 g2]
      exact hw'.sep k0 o0 h2 (fun hf => by rw [h3] at hf; cases hf)
    · rw [hβo k h1]
      intro hb
      rcases hw'.roNew _ hb with h4 | h4 | h4
      · exact h.wr.sep k o0 h2 hc h4
      · exact absurd (Nat.lt_of_lt_of_le (h.wr.obj k o0 h2).lt h4) (Nat.lt_irrefl _)
      · exact hout h1 h2 h4
  · rcases mod_get (out' := out') hg with ⟨k0, o0, h1, h2, _, h3⟩ | ⟨h1, _, o0, h2, _⟩
    · obtain ⟨g1, g2, g3⟩ := ren_un hρ h1
      exact absurd (fun hf => by rw [g3] at hf; cases hf) hc
    · rw [hβo k h1]; exact hro _ (h.wr.fzRO k o0 h2 hc)
  · have hu : unK ρ k = none := by
      cases hu : unK ρ k with
      | none => rfl
      | some k0 => rw [(ren_un hρ hu).2.2] at hf; cases hf
    rw [hβo k hu]; exact h.wr.stay k hf hnm
  · rcases look_app hx with hx | ⟨_, hx⟩
    · obtain ⟨hy, q, i, sz, off, len, o, rfl, hq1, hq2⟩ := exP_look hex hx
      obtain ⟨u, g1, g2⟩ := h.env n _ hy
      refine ⟨u, g1, ?_⟩
      have hu : unK ρ (.sub (.cur q) i) = none := by simp only [unK, hq1]
      cases g2 with
      | osl _ _ _ _ cap e n a b c d =>
        rw [← hβo _ hu]
        exact .osl _ _ _ _ cap e n a (by rw [hβo _ hu, shape_of_block (hsame hu hq2)]; exact b) c d
    · obtain ⟨y, hy, rfl⟩ := look_livE hx
      obtain ⟨u, g1, g2⟩ := h.env n y hy
      exact ⟨u, g1, hval g2⟩
  · exact VL.map (p := domK ρ) (β2 := β2) (fun k hk => hβn k hk) hr hdr

theorem modH_ok : HOK P fun f args _ env st K' => ModH P f args env st K' := by
  intro E N f s args vals env st K' β RO a w h hv hW
  cases hW with
  | mk ρ hs ha hk ho hK =>
    subst ha
    exact modH_core ρ [] h hs hv hk ho trivial hK
  | mkx ρ ex hs ha hk ho hex hK =>
    subst ha
    exact modH_core ρ ex h hs hv hk ho hex hK

/-- Less is told of a row that comes back. -/
theorem SpecM.trunc {f : Nat} {args : List LV} {fr : Fr} {pins : List (Nat × Nat)} {Post Post' : LV → Fr → Prop} (h : SpecM P f args fr pins Post)
    (hp : ∀ r ro, Post r ro → ∃ s e sz es n, look ro s = some (.row e sz es) ∧ Post' r (setCur ro s (.row e sz (es.take n)))) : SpecM P f args fr pins Post' := by
  refine ⟨h.fn, fun β RO w vals hw hv => (h.calls β RO w vals hw hv).mono ?_⟩
  rintro e w' ⟨v, r, ro, out', β', RO', he, h1, h2, h3, h4⟩
  obtain ⟨s, e, sz, es, n, g1, g2⟩ := hp r ro h1
  have hsr : SR (entM β RO w fr) 0 β' RO' [] ⟨out', ro⟩ { tmps := #[], defers := (entM β RO w fr).dfs } w' := ⟨h2, ⟨rfl, Nat.zero_le _⟩, rfl, fun n x hx => by simp [look] at hx⟩
  exact ⟨v, r, _, out', β', RO', he, g2, (hsr.trunc (n := n) g1).wr, h3, h4⟩

end
end Go.Fw

/- The value logic, part 30: a function that calls functions that write its own objects. -/
namespace Go.Fw
open Go

section
variable {C : Ctx} {P : Program} {E : Ent} {N : Nat} {β : K → Nat} {RO : Nat → Prop} {env : Env} {st : St} {a : Act} {w : World}

/-- A function is right where its body is, its calls as they are told. -/
theorem spec_walkH (hC : C.OK P) {f : Nat} {fn : Func} {c : Code} {args : List LV} {out : List Fr} {Post : LV → Fr → Prop} {H : HW} (hH : HOK P H) (kp : Kp) (od : Od) (hf : P.funcs[f]? = some fn) (hb : fn.body = some c) (hk : (Nat.ble fn.ntmps 1000000 && codeYOK fn.ntmps od c) = true) (hn : Nat.ble args.length fn.ntmps = true) (hfn : FnOK P f)
    (hW : LV.ok.okL args → wpcX C P noY H 0 kp od c (argE 0 args) ⟨out, []⟩ (retW C fn.results.toList Post)) : SpecP P f args out Post := by
  simp only [Bool.and_eq_true] at hk
  obtain ⟨hq, hk⟩ := hk
  have hq : fn.ntmps ≤ 1000000 := by simpa using hq
  have hn : args.length ≤ fn.ntmps := by simpa using hn
  refine ⟨hfn, fun β RO w vals hw hv => calls_out (r := none) (n := 0) ?_⟩
  have hlen : vals.length = args.length := hv.1.symm
  have hs : SR (entP β RO w) fn.ntmps β RO (argE 0 args) ⟨out, []⟩ { tmps := vals.toArray ++ Array.replicate (fn.ntmps - vals.toArray.size) undef, defers := [] } w := by
    refine ⟨hw, ⟨by simp; omega, hq⟩, rfl, fun n x hx => ?_⟩
    obtain ⟨_, h2⟩ := argE_look hx
    simp only [Nat.sub_zero] at h2
    have hlt : n < vals.length := by rw [hlen]; exact (List.getElem?_eq_some_iff.1 h2).1
    refine ⟨vals[n], ?_, hv.2 n x _ h2 (List.getElem?_eq_getElem hlt)⟩
    rw [tmpAt_lt (by omega), Array.getElem?_append_left (by simpa using hlt)]
    simp [hlt]
  refine callsIn_of_wp hf hb trivial (wpIn_mono (wpcX_in hC noY_ok hH c hk β RO _ _ _ w _ hs (hW hv.ok)) ?_)
  have fin : ∀ {env : Env} {st : St} {β' : K → Nat} {RO' : Nat → Prop} {a : Act} {w' : World}, (match resL C env st fn.results.toList with | some l => ∃ cs, keepW cs st.cur (Post (resV l)) | none => False) → SR (entP β RO w) fn.ntmps β' RO' env st a w' →
      a.defers = [] ∧ ∃ v, (results fn a.tmps).run P w' = .ok v w' ∧ ∃ v' r ro out' β' RO', Ending.returned v = .returned v' ∧ Post r ro ∧ WR (entP β RO w) β' RO' ⟨out', ro⟩ w' ∧ VL β' RO' w' r v' := by
    intro env st β' RO' a w' hq hs
    split at hq
    rotate_left
    · cases hq
    rename_i l hl
    obtain ⟨cs, hp⟩ := hq
    obtain ⟨cur', hp, hless⟩ := keepW_gives hp
    obtain ⟨v, h1, h2⟩ := res_run hC hs hl
    exact ⟨hs.defers, v, h1, v, resV l, cur', st.out, β', RO', rfl, hp, hs.wr.less (fun k o hk => get_less hless k o hk), h2⟩
  rintro e a w' ⟨env, st, β', RO', hq, hs⟩
  cases e with
  | normal => exact fin hq hs
  | ret => exact fin hq hs
  | _ => exact hq.elim

end
end Go.Fw

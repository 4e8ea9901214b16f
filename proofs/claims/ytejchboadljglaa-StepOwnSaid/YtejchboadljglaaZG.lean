/- Texts that lead to the law, part 7. -/
import Derived.Test.YtejchboadljglaaZF
import Derived.LoopNIn
import Derived.KernelRfl
import Derived.Test.YtejchboadljglaaProg
import Derived.Shelf.Sort.AssemblyIn
import Derived.Shelf.Slices.In.SortNone
import Derived.Sort.EveryDepth

/- The value logic, part 26: functions that are walked through where they are called. -/
namespace Go.Fw
open Go

abbrev HW := Nat → List LV → Nat → Env → St → (LV → Env → St → Prop) → Prop
def noH : HW := fun _ _ _ _ _ _ => False

/-- Is it a call of a function that is walked through? -/
def inlB (C : Ctx) (env : Env) (o : Oper) : Option (Nat × List LV) := match o.op with
  | .call c => match c.callee with
    | .value fo => match opd env fo with
      | .fn f cap => match look C.inl f with
        | some _ => some (f, c.args.toList.map (opd env) ++ capArgs cap)
        | none => none
      | _ => none
    | _ => none
  | _ => none

/-- Is it a call of a method of an interface value? -/
def invB (env : Env) (o : Oper) : Option (LV × (String × List LV)) := match o.op with
  | .call c => match c.callee with
    | .invoke r n => some (opd env r, n, c.args.toList.map (opd env))
    | _ => none
  | _ => none
/-- The method of a pointer type is this function, which is handed the pointer; or what lies where it points. -/
def MthP (P : Program) (t : Nat) (n : String) (f : Nat) : Prop := ∀ (a : Addr) (w : World), (method (P.types.size + Made.depth) t (.pointer (some a)) n).run P w = .ok (f, .pointer (some a)) w
def MthV (P : Program) (t : Nat) (n : String) (f e : Nat) : Prop := ∀ (a : Addr) (w : World), (method (P.types.size + Made.depth) t (.pointer (some a)) n).run P w = ((do let v ← Instr.loadAt e (.pointer (some a)); pure (f, v)) : Sem (FuncId × Value)).run P w
/-- The call of a method. -/
inductive InvH (C : Ctx) (P : Program) (H : HW) (t : Nat) (k : K) (c : Nat) (n : String) (args : List LV) (s : Nat) (env : Env) (st : St) (K' : LV → Env → St → Prop) : Prop
  | ptr (f : Nat) (hm : MthP P t n f) (h : H f (.ptr k c :: args) s env st K')
  | val (f e : Nat) (hm : MthV P t n f e) (h : someW (loadL C st e (.ptr k c)) fun x => strL (x :: args) fun args => H f args s env st K')
def invW (C : Ctx) (P : Program) (H : HW) (x : LV) (n : String) (args : List LV) (s : Nat) (env : Env) (st : St) (K' : LV → Env → St → Prop) : Prop := match x with
  | .ifc t y => match y with
    | .ptr k c => InvH C P H t k c n args s env st K'
    | _ => False
  | _ => False

def opZ (C : Ctx) (P : Program) (H : HW) (b : Nat) (o : Oper) (env : Env) (st : St) (K' : LV → Env → St → Prop) : Prop := match inlB C env o with
  | some (f, args) => strL args fun args => H f args (b + site o.dst) env st fun x env st => strES env st (K' x)
  | none => match invB env o with
    | some (x, n, args) => strL args fun args => invW C P H x n args (b + site o.dst) env st fun x env st => strES env st (K' x)
    | none => opWs C P (b + site o.dst) o env st K'
def opX (C : Ctx) (P : Program) (Y : YW) (H : HW) (b : Nat) (o : Oper) (env : Env) (st : St) (K' : LV → Env → St → Prop) : Prop := match yieldB env o with
  | some (l, args) => Y l args env st fun env st => strES env st (K' (.t (.v (.bool true))))
  | none => opZ C P H b o env st K'

def regGoX (C : Ctx) (P : Program) (Y : YW) (H : HW) (b : Nat) (ops : List Oper) (Q : Env → St → Prop) : List Oper → Env → St → Prop
  | [], env, st => Q env st
  | o :: r, env, st => match gdE ops env o with
    | some true => opX C P Y H b o env st fun x env st => splW (splK o.op) x fun x => regGoX C P Y H b ops Q r (putE env o.dst x) st
    | some false => regGoX C P Y H b ops Q r (putE env o.dst (.tup [])) st
    | none => False

/-- Every order, as a tree tells them. -/
def treeX (C : Ctx) (P : Program) (H : HW) (b : Nat) (ops : List Oper) (Q : Env → St → Prop) : Tr → Env → St → Prop
  | .done, env, st => Q env st
  | .pure i t, env, st => match nth ops i with
    | some o => match gdE ops env o with
      | some true => pureW C env st o.op fun x => splW (splK o.op) x fun x => treeX C P H b ops Q t (putE env o.dst x) st
      | some false => treeX C P H b ops Q t (putE env o.dst (.tup [])) st
      | none => False
    | none => False
  | .eff i t, env, st => match Nat.beq b 0 with
    | true => match nth ops i with
      | some o => match gdE ops env o with
        | some true => effW C P o env st fun x st => splW (splK o.op) x fun x => treeX C P H b ops Q t (putE env o.dst x) st
        | some false => treeX C P H b ops Q t (putE env o.dst (.tup [])) st
        | none => False
      | none => False
    | false => False
  | .last i t L, env, st => match nth ops i with
    | some o => match gdE ops env o with
      | some true => opZ C P H b o env st fun x env st => splW (splK o.op) x fun x => againW C ops L (putE env o.dst x) st (treeX C P H b ops Q t (putE env o.dst x) st)
      | some false => againW C ops L (putE env o.dst (.tup [])) st (treeX C P H b ops Q t (putE env o.dst (.tup [])) st)
      | none => False
    | none => False
  | .fork i t L rest, env, st => (match nth ops i with
    | some o => match gdE ops env o with
      | some true => opZ C P H b o env st fun x env st => splW (splK o.op) x fun x => againW C ops L (putE env o.dst x) st (treeX C P H b ops Q t (putE env o.dst x) st)
      | some false => againW C ops L (putE env o.dst (.tup [])) st (treeX C P H b ops Q t (putE env o.dst (.tup [])) st)
      | none => False
    | none => False) ∧ treeX C P H b ops Q rest env st

/-! ### What is kept where a region is entered -/
/-- The slots of the callers. -/
def ghE : Env → Env
  | [] => []
  | p :: r => match Nat.ble 1000000 p.1 with
    | true => p :: ghE r
    | false => ghE r
theorem look_ghE : ∀ {env : Env} {n : Nat} {x : LV}, look (ghE env) n = some x → look env n = some x ∧ 1000000 ≤ n
  | [], n, x, h => by simp [ghE, look] at h
  | p :: r, n, x, h => by
    simp only [ghE] at h
    split at h
    · rename_i hb
      rw [look_cons] at h ⊢
      split at h
      · rename_i he; cases h; rw [if_pos he]; exact ⟨rfl, he ▸ Nat.le_of_ble_eq_true hb⟩
      · rename_i he; rw [if_neg he]; exact look_ghE h
    · rename_i hb
      obtain ⟨h1, h2⟩ := look_ghE h
      refine ⟨?_, h2⟩
      rw [look_cons, if_neg]
      · exact h1
      · rintro rfl
        rw [Nat.ble_eq_true_of_le h2] at hb; cases hb
/-- The place of an object of a function that is walked through at a call. -/
def rbK (b : Nat) : Nat → Nat → Nat
  | 0, v => b + v
  | n + 1, v => match Nat.blt v 1000003 with
    | true => b + v
    | false => 1000003 * (rbK b n (v / 1000003 - 1) + 1) + v % 1000003
/-- Does an object belong to the call whose objects lie from b on? -/
def subB (b : Nat) : Nat → Nat → Bool
  | 0, _ => false
  | n + 1, k => match Nat.beq (k / 1000003) (b / 1000003) with
    | true => true
    | false => match Nat.blt k 1000003 with
      | true => false
      | false => subB b n (k / 1000003 - 1)
def elB (n : Nat) : List Nat → Bool
  | [] => false
  | m :: r => match Nat.beq m n with
    | true => true
    | false => elB n r
/-- Objects that are kept: those of the callers, and those that are listed. -/
def keepC (b : Nat) (l : List Nat) : Fr → Fr
  | [] => []
  | p :: r => match elB p.1 l with
    | true => p :: keepC b l r
    | false => match subB b 8 p.1 with
      | true => keepC b l r
      | false => p :: keepC b l r
theorem keepC_less {b : Nat} {l : List Nat} : ∀ {cur : Fr} {n : Nat} {o : Ob}, look (keepC b l cur) n = some o → look cur n = some o
  | [], n, o, h => by simp [keepC, look] at h
  | p :: r, n, o, h => by
    have key : ∀ c : Bool, (elB p.1 l = c ∧ c = true) ∨ (elB p.1 l = c ∧ c = false) → True := fun _ _ => trivial
    have stay : look (p :: keepC b l r) n = some o → look (p :: r) n = some o := fun h => by
      rw [look_cons] at h ⊢
      split at h
      · rename_i he; rw [if_pos he]; exact h
      · rename_i he; rw [if_neg he]; exact keepC_less h
    have gone : (elB p.1 l = false ∧ subB b 8 p.1 = true) → look (keepC b l r) n = some o → look (p :: r) n = some o := fun ⟨h1, h2⟩ h => by
      rw [look_cons, if_neg]
      · exact keepC_less h
      · rintro rfl
        exact absurd h (by rw [keepC_none h1 h2]; simp)
    simp only [keepC] at h
    split at h
    · exact stay h
    · rename_i h1
      split at h
      · rename_i h2; exact gone ⟨h1, h2⟩ h
      · exact stay h
where keepC_none {b : Nat} {l : List Nat} {k : Nat} (h1 : elB k l = false) (h2 : subB b 8 k = true) : ∀ {cur : Fr}, look (keepC b l cur) k = none
  | [] => rfl
  | p :: r => by
    simp only [keepC]
    split
    · rename_i h3
      rw [look_cons, if_neg]
      · exact keepC_none h1 h2
      · rintro rfl; rw [h1] at h3; cases h3
    · split
      · exact keepC_none h1 h2
      · rename_i h3
        rw [look_cons, if_neg]
        · exact keepC_none h1 h2
        · rintro rfl; rw [h2] at h3; cases h3
def mapR (b : Nat) : List Nat → List Nat
  | [] => []
  | v :: r => rbK b 8 v :: mapR b r
/-- The callers' objects. -/
def othC : Nat → Fr → Fr
  | 0, _ => []
  | b + 1, cur => keepC (b + 1) [] cur
theorem othC_less {b : Nat} {cur : Fr} {n : Nat} {o : Ob} (h : look (othC b cur) n = some o) : look cur n = some o := by
  cases b with
  | zero => cases h
  | succ b => exact keepC_less h
def mapR0 : Nat → List Nat → List Nat
  | 0, l => l
  | b + 1, l => mapR (b + 1) l
/-- Here the walk may be cut: what follows is told once for all the ways that lead here. -/
inductive CutX (K' : Env → St → Prop) (env : Env) (st : St) : Prop
  | mk (h : K' env st)
theorem CutX.out {K' : Env → St → Prop} {env : Env} {st : St} (h : CutX K' env st) : K' env st := by cases h; assumption
def cutX (l : List Nat) (K' : Env → St → Prop) (env : Env) (st : St) : Prop := match l with
  | 0 :: _ => CutX K' env st
  | _ => K' env st
theorem cutX_out {l : List Nat} {K' : Env → St → Prop} {env : Env} {st : St} (h : cutX l K' env st) : K' env st := by
  unfold cutX at h
  split at h
  · exact h.out
  · exact h
def entX (kp : Kp) (b : Nat) (c : Code) (env : Env) (st : St) (K' : Env → St → Prop) : Prop := match fstR c with
  | some id => match look kp id with
    | some p => keepW p.1 env fun env' => keepW (mapR0 b p.2) st.cur fun cur' => cutX p.2 K' (env' ++ ghE env) ⟨st.out, cur' ++ othC b st.cur⟩
    | none => K' env st
  | none => K' env st

/-- So many rounds at most. -/
def rndX (ent : Env → St → (Env → St → Prop) → Prop) (W : Env → St → (Exit → Env → St → Prop) → Prop) (Q : Exit → Env → St → Prop) : Nat → Env → St → Prop
  | 0, _, _ => False
  | n + 1, env, st => ent env st fun env st => W env st (thenW (rndX ent W Q n) Q)
/-- A loop: a family of states that holds where it starts; or some rounds. -/
inductive LoopX (ent : Env → St → (Env → St → Prop) → Prop) (W : Env → St → (Exit → Env → St → Prop) → Prop) (env : Env) (st : St) (Q : Exit → Env → St → Prop) : Prop
  | mk (ι : Type) (I : ι → Prop) (F : ι → Env) (S : ι → St) (m : ι → Nat) (i : ι) (h : I i) (h0 : ent env st fun env st => env = F i ∧ st = S i)
      (hr : ∀ i, I i → W (F i) (S i) (thenW (fun env st => ∃ j, m j < m i ∧ I j ∧ ent env st fun env st => env = F j ∧ st = S j) Q))
  | rounds (n : Nat) (h : rndX ent W Q n env st)

/-- What is asked of code. -/
def wpcX (C : Ctx) (P : Program) (Y : YW) (H : HW) (b : Nat) (kp : Kp) (od : Od) : Code → Env → St → (Exit → Env → St → Prop) → Prop
  | .skip, env, st, Q => Q .normal env st
  | .label _, env, st, Q => Q .normal env st
  | .region id ops draw, env, st, Q => match draw with
    | false => regGoX C P Y H b ops.toList (Q .normal) ops.toList env st
    | true => match look od id with
      | some ord => treeX C P H b ops.toList (Q .normal) (trOf ord) env st
      | none => False
  | .seq x y, env, st, Q => wpcX C P Y H b kp od x env st (thenW (fun env st => entX kp b y env st fun env st => wpcX C P Y H b kp od y env st Q) Q)
  | .cond c x y, env, st, Q => match opd env c with
    | .t (.v (.bool t)) => match t with
      | true => wpcX C P Y H b kp od x env st Q
      | false => wpcX C P Y H b kp od y env st Q
    | _ => False
  | .block id c, env, st, Q => wpcX C P Y H b kp od c env st (blockW id Q)
  | .loop c, env, st, Q => LoopX (entX kp b c) (fun env st Q => wpcX C P Y H b kp od c env st Q) env st Q
  | .exit id, env, st, Q => Q (.exit id) env st
  | .ret, env, st, Q => Q .ret env st
  | _, _, _, _ => False

/-- What is known of a call that is walked through. -/
def HOK (P : Program) (H : HW) : Prop := ∀ (E : Ent) (N f s : Nat) (args : List LV) (vals : List Value) (env : Env) (st : St) (K' : LV → Env → St → Prop) (β : K → Nat) (RO : Nat → Prop) (a : Act) (w : World), SR E N β RO env st a w → Vals β RO w args vals → H f args s env st K' →
  FnOK P f ∧ Calls P f vals.toArray w fun e w' => ∃ v x env' st' β' RO', e = .returned v ∧ K' x env' st' ∧ SR E N β' RO' env' st' a w' ∧ VL β' RO' w' x v
theorem noH_ok {P : Program} : HOK P noH := fun _ _ _ _ _ _ _ _ _ _ _ _ _ _ _ h => h.elim

section
variable {C : Ctx} {P : Program} {E : Ent} {N : Nat} {β β' : K → Nat} {RO RO' : Nat → Prop} {env env' : Env} {st st' : St} {a : Act} {w w' : World} {kp : Kp} {od : Od} {r : Option Nat} {n b : Nat} {Y : YW} {H : HW}

theorem call_any {o : Oper} {c : Call} {fo : Operand} {f : Nat} {cap : List (K × Nat)} {Q : Act → World → Prop} (hop : o.op = .call c) (hcal : c.callee = .value fo) (h : SR E N β RO env st a w) (hf : opd env fo = .fn f cap) (hfn : FnOK P f)
    (hcalls : Calls P f (c.args.toList.map a.eval ++ cap.map fun p => Value.pointer (some ⟨β p.1, p.2, none⟩)).toArray w fun e w' => ∃ v, e = .returned v ∧ Q (a.put o.dst v) w') : o.wp P a w Q fun _ _ _ => False := by
  have hfv := h.opd fo
  rw [hf] at hfv
  cases hv : a.eval fo <;> rw [hv] at hfv <;> cases hfv
  unfold FnOK at hfn
  cases hfun : P.funcs[f]? with
  | none => simp [hfun] at hfn
  | some fn =>
    simp only [hfun, Option.any_some, Bool.and_eq_true, bne_iff_ne, ne_eq] at hfn
    have hbody : fn.body.isNone = false := by
      cases hb : fn.body with
      | none => simp [hb] at hfn
      | some _ => rfl
    have hrun : (execOp a.eval o).run P w = .ok (.enter f (c.args.toList.map a.eval ++ cap.map fun p => Value.pointer (some ⟨β p.1, p.2, none⟩)).toArray) w := by
      have hname : (fn.name == "runtime.NumGoroutine") = false := by simpa using hfn.2
      simp only [execOp, hop, resolve, hcal, hv, Deferred.ofValue, Sem.run_bind, Sem.run_pure, Result.andThen_ok, invoke, callFunc, run_program, hfun, hname, hbody, Bool.false_eq_true, if_false]
      congr 2
      rw [← Array.toList_inj]
      simp
    unfold Oper.wp
    rw [hrun]
    simp only [Oper.upon]
    refine hcalls.mono ?_
    rintro e w' ⟨v, rfl, h1⟩
    exact h1
theorem vals_cap (h : SR E N β RO env st a w) (l : List Operand) (cap : List (K × Nat)) : Vals β RO w (l.map (opd env) ++ capArgs cap) (l.map a.eval ++ cap.map fun p => Value.pointer (some ⟨β p.1, p.2, none⟩)) := by
  refine ⟨by simp [capArgs], fun i x v hx hv => ?_⟩
  by_cases hi : i < l.length
  · rw [List.getElem?_append_left (by simpa using hi), List.getElem?_map] at hx hv
    cases hc : l[i]? with
    | none => simp [hc] at hx
    | some y =>
      simp only [hc, Option.map_some, Option.some.injEq] at hx hv
      rw [← hx, ← hv]; exact h.opd y
  · rw [List.getElem?_append_right (by simp; simpa using hi)] at hx hv
    simp only [List.length_map] at hx hv
    simp only [capArgs, List.getElem?_map] at hx hv
    cases hc : cap[i - l.length]? with
    | none => rw [hc] at hx; cases hx
    | some p =>
      simp only [hc, Option.map_some, Option.some.injEq] at hx hv
      rw [← hx, ← hv]; exact .ptr _ _

theorem inv_any {o : Oper} {c : Call} {ro : Operand} {n : String} {t f : Nat} {v u : Value} {Q : Act → World → Prop} (hop : o.op = .call c) (hcal : c.callee = .invoke ro n) (hr : a.eval ro = .iface t v)
    (hm : (method (P.types.size + Made.depth) t v n).run P w = .ok (f, u) w) (hfn : FnOK P f) (hcalls : Calls P f (u :: c.args.toList.map a.eval).toArray w fun e w' => ∃ v, e = .returned v ∧ Q (a.put o.dst v) w') : o.wp P a w Q fun _ _ _ => False := by
  unfold FnOK at hfn
  cases hfun : P.funcs[f]? with
  | none => simp [hfun] at hfn
  | some fn =>
    simp only [hfun, Option.any_some, Bool.and_eq_true, bne_iff_ne, ne_eq] at hfn
    have hbody : fn.body.isNone = false := by
      cases hb : fn.body with
      | none => simp [hb] at hfn
      | some _ => rfl
    have hname : (fn.name == "runtime.NumGoroutine") = false := by simpa using hfn.2
    have hex : (#[a.eval ro] ++ c.args.map a.eval).extract 1 (#[a.eval ro] ++ c.args.map a.eval).size = c.args.map a.eval := by
      rw [← Array.toList_inj]; simp only [Array.toList_extract, Array.toList_map]; simp [List.take_of_length_le]
    have h0 : (#[a.eval ro] ++ c.args.map a.eval)[0]? = some (a.eval ro) := by rw [Array.getElem?_append]; simp
    have hrun : (execOp a.eval o).run P w = .ok (.enter f (u :: c.args.toList.map a.eval).toArray) w := by
      simp only [execOp, hop, resolve, hcal, Sem.run_bind, Sem.run_pure, Result.andThen_ok, invoke, h0, hex]
      rw [hr]
      simp only [callMethod, Sem.run_bind, run_program, Result.andThen_ok, hm, callFunc, hfun, hname, hbody, Bool.false_eq_true, if_false]
      have : (#[u] ++ c.args.map a.eval) = (u :: c.args.toList.map a.eval).toArray := by rw [← Array.toList_inj]; simp
      rw [this]; rfl
    unfold Oper.wp
    rw [hrun]
    simp only [Oper.upon]
    refine hcalls.mono ?_
    rintro e w' ⟨v, rfl, h1⟩
    exact h1

theorem opZ_sound (hC : C.OK P) (hH : HOK P H) {o : Oper} {K' : LV → Env → St → Prop} {Q : Act → World → Prop} (h : SR E N β RO env st a w) (hW : opZ C P H b o env st K')
    (hQ : ∀ v x env' st' β' RO' w', K' x env' st' → SR E N β' RO' env' st' a w' → VL β' RO' w' x v → Q (a.put o.dst v) w') : o.wp P a w Q fun _ _ _ => False := by
  unfold opZ at hW
  split at hW
  · rename_i f args hi
    unfold inlB at hi
    split at hi
    rotate_left
    · cases hi
    rename_i c hop
    split at hi
    rotate_left
    · cases hi
    rename_i fo hcal
    split at hi
    rotate_left
    · cases hi
    rename_i f' cap hf
    split at hi
    rotate_left
    · cases hi
    cases hi
    obtain ⟨h1, h2⟩ := hH E N f _ _ _ env st _ β RO a w h (vals_cap h c.args.toList cap) (strL_gives hW)
    refine call_any hop hcal h hf h1 (h2.mono ?_)
    rintro e w' ⟨v, x, env', st', β', RO', rfl, hK, hs, hv⟩
    exact ⟨v, rfl, hQ v x env' st' β' RO' w' (strES_gives hK) hs hv⟩
  · split at hW
    rotate_left
    · exact opWs_sound hC h hW hQ
    rename_i x nm args hi
    unfold invB at hi
    split at hi
    rotate_left
    · cases hi
    rename_i c hop
    split at hi
    rotate_left
    · cases hi
    rename_i ro nm' hcal
    cases hi
    have hro := h.opd ro
    have hW := strL_gives hW
    unfold invW at hW
    split at hW
    rotate_left
    · cases hW
    rename_i t y hx
    split at hW
    rotate_left
    · cases hW
    rename_i k cc
    rw [hx] at hro
    have inv : ∀ u, VL β RO w (.ifc t (.ptr k cc)) u → u = .iface t (.pointer (some ⟨β k, cc, none⟩)) := fun u hu => by
      cases hu with
      | ifc _ _ v hv => cases hv; rfl
    have hr := inv _ hro
    have hvs := vals_map h c.args.toList
    have cons : ∀ {x : LV} {v : Value}, VL β RO w x v → Vals β RO w (x :: c.args.toList.map (opd env)) (v :: c.args.toList.map a.eval) := fun hx => ⟨by simp, fun i y u hy hu => by
      cases i with
      | zero => simp at hy hu; subst hy; subst hu; exact hx
      | succ i => exact hvs.2 i y u hy hu⟩
    have fin : ∀ {f : Nat} {u : Value} {x : LV}, VL β RO w x u → (method (P.types.size + Made.depth) t (.pointer (some ⟨β k, cc, none⟩)) nm).run P w = .ok (f, u) w →
        H f (x :: c.args.toList.map (opd env)) (b + site o.dst) env st (fun x env st => strES env st (K' x)) → o.wp P a w Q fun _ _ _ => False := fun {f u x} hx hm hH' => by
      obtain ⟨h1, h2⟩ := hH E N f _ _ _ env st _ β RO a w h (cons hx) hH'
      refine inv_any hop hcal hr hm h1 (h2.mono ?_)
      rintro e w' ⟨v, x, env', st', β', RO', rfl, hK, hs, hv⟩
      exact ⟨v, rfl, hQ v x env' st' β' RO' w' (strES_gives hK) hs hv⟩
    cases hW with
    | ptr f hm hH' => exact fin (.ptr k cc) (hm _ _) hH'
    | val f e hm hH' =>
      obtain ⟨x, hl, hH'⟩ := someW_iff hH'
      obtain ⟨u, g1, g2⟩ := load_sound hC h.wr (.ptr (β := β) k cc) hl
      refine fin g2 ?_ (strL_gives hH')
      rw [hm]
      simp only [Sem.run_bind, g1, Result.andThen_ok, Sem.run_pure]
theorem opX_in (hC : C.OK P) (hY : YOK P E N Y) (hH : HOK P H) {o : Oper} {K' : LV → Env → St → Prop} {Q : Act → World → Prop} {Q' : Exit → Act → World → Prop} (hd : ∀ c, o.op ≠ .defer c) (h : SR E N β RO env st a w) (hW : opX C P Y H b o env st K')
    (hQ : ∀ v x env' st' β' RO' w', K' x env' st' → SR E N β' RO' env' st' a w' → VL β' RO' w' x v → Q (a.put o.dst v) w') : o.wpIn (wideR r) n P a w Q Q' := by
  unfold opX at hW
  split at hW
  · rename_i l args hy
    refine opY_in (C := C) (K' := K') hC hY hd h ?_ hQ
    unfold opY
    rw [hy]; exact hW
  · exact wp_in hd (fun _ _ h => h) (fun _ _ _ _ h => h) (opZ_sound hC hH h hW hQ)

theorem regGoX_in (hC : C.OK P) (hY : YOK P E N Y) (hH : HOK P H) {ops : Array Oper} {Q : Env → St → Prop} {Q' : Exit → Act → World → Prop} (hnd : noDef ops.toList = true) (hd : dstOK N ops.toList = true) (hQ : ∀ env st β RO a w, Q env st → SR E N β RO env st a w → Q' .normal a w) :
    ∀ (l : List Oper) (k : Nat) (β : K → Nat) (RO : Nat → Prop) (env : Env) (st : St) (a : Act) (w : World), ops.toList.drop k = l → SR E N β RO env st a w → regGoX C P Y H b ops.toList Q l env st → wpOpsIn (wideR r) n P ops Q' (List.range' k l.length) a w
  | [], k, β, RO, env, st, a, w, _, h, hW => hQ env st β RO a w hW h
  | o :: l, k, β, RO, env, st, a, w, hk, h, hW => by
    have hok : ops[k]? = some o := by
      have : (ops.toList.drop k)[0]? = some o := by rw [hk]; rfl
      rw [List.getElem?_drop, Nat.add_zero, Array.getElem?_toList] at this
      exact this
    have hdr : ops.toList.drop (k + 1) = l := by
      have := congrArg (List.drop 1) hk
      rw [List.drop_drop] at this
      simpa [Nat.add_comm] using this
    have hmem : o ∈ ops.toList := by
      have : o ∈ ops.toList.drop k := by rw [hk]; exact List.mem_cons_self ..
      exact List.mem_of_mem_drop this
    have hdo : ∀ d, o.dst = some d → d < N := dstOK_mem hd o hmem
    simp only [List.length_cons, List.range'_succ, wpOpsIn, hok]
    unfold regGoX at hW
    split at hW
    · rename_i hg
      rw [gdE_wanted hd h hg, if_pos rfl]
      exact opX_in hC hY hH (noDef_mem hnd o hmem) h hW fun v x env' st' β' RO' w' hK hs hv =>
        regGoX_in hC hY hH hnd hd hQ l (k + 1) β' RO' _ st' _ w' hdr (hs.put hv hdo) (splW_gives hK)
    · rename_i hg
      rw [gdE_wanted hd h hg, if_neg (by simp)]
      exact ⟨fun _ _ => trivial, regGoX_in hC hY hH hnd hd hQ l (k + 1) β RO _ st _ w hdr (h.put .skip hdo) hW⟩
    · cases hW

theorem tree_synX {ops : Array Oper} {Q : Env → St → Prop} {i : Nat} {o : Oper} {t : Tr} {L pf : List Nat} {listed : Array Bool} {env : Env} {st : St} (hC : C.OK P) (hH : HOK P H) (hd : dstOK N ops.toList = true) (hno : ops[i]? = some o) (hr : i ∈ Region.ready .any ops listed) (h2 : (pf.all fun j => belB ops 3 o j || L.contains j) = true)
    (hsub : ∀ env st, treeX C P H b ops.toList Q t env st → treeF P E N ops (fun ef st => ∃ env, ef = look env ∧ Q env st) t (inP_ pf) (look env) (listed.setIfInBounds i true) (look env) st)
    (h : match gdE ops.toList env o with
      | some true => opZ C P H b o env st fun x env st => splW (splK o.op) x fun x => againW C ops.toList L (putE env o.dst x) st (treeX C P H b ops.toList Q t (putE env o.dst x) st)
      | some false => againW C ops.toList L (putE env o.dst (.tup [])) st (treeX C P H b ops.toList Q t (putE env o.dst (.tup [])) st)
      | none => False) :
    ∃ o, ops[i]? = some o ∧ i ∈ Region.ready .any ops listed ∧ SynG P E N ops o (look env) st fun ef' st' => (∀ j, inP_ pf j = true → Befo ops o j ∨ Again P E N ops j ef' st') ∧
      treeF P E N ops (fun ef st => ∃ env, ef = look env ∧ Q env st) t (inP_ pf) ef' (listed.setIfInBounds i true) ef' st' := by
  have hdo : ∀ d, o.dst = some d → d < N := dstOK_mem hd o (by
    have := Array.mem_of_getElem? hno
    simpa using this)
  split at h
  · rename_i hg
    refine ⟨o, hno, hr, .inl ⟨gdE_F hg, fun β RO a w hs => ?_⟩⟩
    have hsr : SR E N β RO env st a w := hs.list fun n x hx => hx
    refine opZ_sound hC hH hsr h fun v x env' st' β' RO' w' hK hs2 hv => ?_
    obtain ⟨g1, g2⟩ := againW_spec (E := E) (N := N) hC (splW_gives hK)
    exact ⟨look (putE env' o.dst x), st', β', RO', ⟨pf_spec h2 g2, hsub _ _ g1⟩, (hs2.put hv hdo).toF⟩
  · rename_i hg
    obtain ⟨g1, g2⟩ := againW_spec (E := E) (N := N) hC h
    refine ⟨o, hno, hr, .inr ⟨gdE_F hg, look (putE env o.dst (.tup [])), fun n x hx => by rw [← look_putE]; exact hx, pf_spec h2 g2, hsub _ _ g1⟩⟩
  · cases h
theorem treeX_treeF (hC : C.OK P) (hH : HOK P H) {ops : Array Oper} {Q : Env → St → Prop} (hd : dstOK N ops.toList = true) : ∀ (t : Tr) (pf : List Nat) (env0 pre env : Env) (listed : Array Bool) (st : St), env = pre ++ env0 → treeB ops t pf listed = true → treeX C P H b ops.toList Q t env st →
    treeF P E N ops (fun ef st => ∃ env, ef = look env ∧ Q env st) t (inP_ pf) (look env0) listed (look env) st
  | .done, pf, env0, pre, env, listed, st, hp, ho, h => ⟨env, rfl, h⟩
  | .pure i t, pf, env0, pre, env, listed, st, hp, ho, h => by
    simp only [treeX] at h
    split at h
    rotate_left
    · cases h
    rename_i o hno
    rw [nth_eq, Array.getElem?_toList] at hno
    simp only [treeB, hno, Bool.and_eq_true] at ho
    have hF := firstB_spec ho.1
    split at h
    · rename_i hg
      obtain ⟨x, hx, hK⟩ := pureW_pev h
      refine ⟨o, x, hno, hF, .inl ⟨gdE_F hg, pureS_of hC hx⟩, ?_⟩
      obtain ⟨pre', hp'⟩ := putE_app hp o.dst x
      rw [← look_putE, ← inP_cons]
      exact treeX_treeF hC hH hd t (i :: pf) env0 pre' _ _ st hp' ho.2 (splW_gives hK)
    · rename_i hg
      refine ⟨o, .tup [], hno, hF, .inr ⟨gdE_F hg, rfl⟩, ?_⟩
      obtain ⟨pre', hp'⟩ := putE_app hp o.dst (.tup [])
      rw [← look_putE, ← inP_cons]
      exact treeX_treeF hC hH hd t (i :: pf) env0 pre' _ _ st hp' ho.2 h
    · cases h
  | .eff i t, pf, env0, pre, env, listed, st, hp, ho, h => by
    simp only [treeX] at h
    split at h
    rotate_left
    · cases h
    split at h
    rotate_left
    · cases h
    rename_i o hno
    rw [nth_eq, Array.getElem?_toList] at hno
    simp only [treeB, hno, Bool.and_eq_true] at ho
    have hrd := sole_spec ho.1
    split at h
    · rename_i hg
      refine ⟨o, _, hno, hrd, .inl ⟨gdE_F hg, effS_of hC hp h⟩, fun x st' hR => ⟨hR.1, ?_⟩⟩
      obtain ⟨pre', hp'⟩ := putE_app hp o.dst x
      rw [← look_putE]
      exact treeX_treeF hC hH hd t pf env0 pre' _ _ st' hp' ho.2 (splW_gives hR.2)
    · rename_i hg
      refine ⟨o, fun x st' => x = .tup [] ∧ st' = st, hno, hrd, .inr ⟨gdE_F hg, rfl, rfl⟩, ?_⟩
      rintro x st' ⟨rfl, rfl⟩
      refine ⟨fun _ _ h => h, ?_⟩
      obtain ⟨pre', hp'⟩ := putE_app hp o.dst (.tup [])
      rw [← look_putE]
      exact treeX_treeF hC hH hd t pf env0 pre' _ _ st' hp' ho.2 h
    · cases h
  | .last i t L, pf, env0, pre, env, listed, st, hp, ho, h => by
    simp only [treeX] at h
    split at h
    rotate_left
    · cases h
    rename_i o hno
    rw [nth_eq, Array.getElem?_toList] at hno
    simp only [treeB, hno, Bool.and_eq_true] at ho
    obtain ⟨h1, h2, h3⟩ := ho
    exact tree_synX hC hH hd hno (by simpa using h1) h2 (fun env st hk => treeX_treeF hC hH hd t pf env [] env _ st rfl h3 hk) h
  | .fork i t L rest, pf, env0, pre, env, listed, st, hp, ho, h => by
    simp only [treeX] at h
    obtain ⟨h, hr⟩ := h
    split at h
    rotate_left
    · cases h
    rename_i o hno
    rw [nth_eq, Array.getElem?_toList] at hno
    simp only [treeB, hno, Bool.and_eq_true] at ho
    obtain ⟨h1, h2, h3, h4⟩ := ho
    exact ⟨tree_synX hC hH hd hno (by simpa using h1) h2 (fun env st hk => treeX_treeF hC hH hd t pf env [] env _ st rfl h3 hk) h, treeX_treeF hC hH hd rest pf env0 pre env listed st hp h4 hr⟩
theorem drawnX (hC : C.OK P) (hH : HOK P H) {ops : Array Oper} {ord : List (Nat × Kind)} {Q : Env → St → Prop} {K' : Act → World → Prop} (hd : dstOK N ops.toList = true) (ho : ordOK ops ord = true) (hQ : ∀ env st β RO a w, Q env st → SR E N β RO env st a w → K' a w)
    (h : SR E N β RO env st a w) (hW : treeX C P H b ops.toList Q (trOf ord) env st) : wpAny P .any ops (onlyN K') ops.size (Array.replicate ops.size false) a { w with drawn := w.drawn + 1 } := by
  have hs1 := h.drew (w.drawn + 1)
  simp only [ordOK, Bool.and_eq_true] at ho
  obtain ⟨hns, hdis, hcov, htr⟩ := ho
  have hdist : Distinct ops := fun i j o p d hi hj ho hp => distB_spec hdis i j o p d (by simpa using hi) (by simpa using hj) ho hp
  have hN : ∀ (i : Nat) (o : Oper) (d : Nat), ops[i]? = some o → o.dst = some d → d < N := fun i o d hi hd' => dstOK_mem hd o (by have := Array.mem_of_getElem? hi; simpa using this) d hd'
  have hF : treeF P E N ops (fun ef st => ∃ env, ef = look env ∧ Q env st) (trOf ord) (inP_ []) (look env) (Array.replicate ops.size false) (look env) st := treeX_treeF hC hH hd _ [] env [] env _ st rfl htr hW
  have hA := (treeF_any (Region.noSelect_spec hns) hN hdist (trOf ord) ops.size (inP_ []) (look env) _ _ _ st hcov down0 (fun _ _ _ _ _ _ => .inl rfl) (fun k hk => by simp [inP_] at hk) hF).2 rfl
  refine anyF_sound hN ?_ (fun e a w h => h.elim) ops.size _ _ _ _ _ β RO a _ hs1.toF hA
  rintro ef st β RO a w hs ⟨env, rfl, hq⟩
  exact hQ env st β RO a w hq (hs.list fun n x hx => hx)

theorem look_appF : ∀ {a b : Fr} {n : Nat} {x : Ob}, look (a ++ b) n = some x → look a n = some x ∨ look b n = some x
  | [], b, n, x, h => .inr h
  | p :: r, b, n, x, h => by
    rw [List.cons_append, look_cons] at h
    rw [look_cons]
    split at h
    · rename_i he; rw [if_pos he]; exact .inl h
    · rename_i he; rw [if_neg he]; exact look_appF h
theorem SR.entX (h : SR E N β RO env st a w) {c : Code} {K' : Env → St → Prop} (hW : entX kp b c env st K') : ∃ env' st', K' env' st' ∧ SR E N β RO env' st' a w := by
  unfold Go.Fw.entX at hW
  split at hW
  · split at hW
    · obtain ⟨env', hW, h2⟩ := keepW_gives hW
      obtain ⟨cur', h1, h3⟩ := keepW_gives hW
      replace h1 := cutX_out h1
      refine ⟨_, _, h1, h.less (fun k o hk => get_less (fun n x hx => ?_) k o hk) fun n x hx => ?_⟩
      · rcases look_appF hx with hx | hx
        · exact h3 n x hx
        · exact othC_less hx
      rcases look_app hx with hx | ⟨_, hx⟩
      · exact h2 n x hx
      · exact (look_ghE hx).1
    · exact ⟨env, st, hW, h⟩
  · exact ⟨env, st, hW, h⟩

theorem rndX_in {c : Code} {Q : Exit → Env → St → Prop} (hb : ∀ (β : K → Nat) (RO : Nat → Prop) (env : Env) (st : St) (a : Act) (w : World) (Q : Exit → Env → St → Prop), SR E N β RO env st a w → wpcX C P Y H b kp od c env st Q → c.wpIn (wideR r) n P (Post E N Q) a w) :
    ∀ (m : Nat) (β : K → Nat) (RO : Nat → Prop) (env : Env) (st : St) (a : Act) (w : World), SR E N β RO env st a w → rndX (entX kp b c) (fun env st Q => wpcX C P Y H b kp od c env st Q) Q m env st → Code.roundsIn (wideR r) n P c (Post E N Q) m a w
  | 0, _, _, _, _, _, _, _, hW => hW.elim
  | m + 1, β, RO, env, st, a, w, h, hW => by
    obtain ⟨env1, st1, hW, hs⟩ := h.entX hW
    rw [roundsIn_succ]
    refine wpIn_mono (hb β RO env1 st1 a w _ hs hW) ?_
    rintro e a' w' ⟨env2, st2, β2, RO2, hq, hs2⟩
    cases e with
    | normal => exact rndX_in hb m β2 RO2 env2 st2 a' w' hs2 hq
    | _ => exact ⟨env2, st2, β2, RO2, hq, hs2⟩

theorem wpcX_in (hC : C.OK P) (hY : YOK P E N Y) (hH : HOK P H) : ∀ (c : Code), codeYOK N od c = true → ∀ (β : K → Nat) (RO : Nat → Prop) (env : Env) (st : St) (a : Act) (w : World) (Q : Exit → Env → St → Prop), SR E N β RO env st a w → wpcX C P Y H b kp od c env st Q → c.wpIn (wideR r) n P (Post E N Q) a w
  | .skip, _, β, RO, env, st, a, w, Q, h, hW => wpIn_skip ⟨env, st, β, RO, hW, h⟩
  | .label _, _, β, RO, env, st, a, w, Q, h, hW => wpIn_label ⟨env, st, β, RO, hW, h⟩
  | .exit _, _, β, RO, env, st, a, w, Q, h, hW => wpIn_exit ⟨env, st, β, RO, hW, h⟩
  | .ret, _, β, RO, env, st, a, w, Q, h, hW => wpIn_ret ⟨env, st, β, RO, hW, h⟩
  | .region id ops draw, hk, β, RO, env, st, a, w, Q, h, hW => by
    simp only [codeYOK, Bool.and_eq_true] at hk
    cases draw with
    | false =>
      refine wpIn_region ?_
      rw [List.range_eq_range', show ops.size = ops.toList.length by simp]
      exact regGoX_in hC hY hH hk.1 hk.2.1 (fun env st β RO a w hq hs => ⟨env, st, β, RO, hq, hs⟩) ops.toList 0 β RO env st a w rfl h hW
    | true =>
      obtain ⟨h0, h1, h2⟩ := hk
      simp only [wpcX] at hW
      simp only at h2
      split at hW
      · rename_i ord ho
        rw [ho] at h2
        have hA := drawnX (K' := fun a w => Post E N Q .normal a w) hC hH h1 h2 (fun env st β RO a w hq hs => ⟨env, st, β, RO, hq, hs⟩) h hW
        exact wpIn_mono (wpIn_region_any hC.mixed (wpAny_in h0 _ _ _ _ hA)) fun e a w hq => by
          cases e <;> first | exact hq | exact hq.elim
      · cases hW
  | .seq x y, hk, β, RO, env, st, a, w, Q, h, hW => by
    simp only [codeYOK, Bool.and_eq_true] at hk
    refine wpIn_seq (wpIn_mono (wpcX_in hC hY hH x hk.1 β RO env st a w _ h hW) ?_)
    rintro e a w ⟨env, st, β, RO, hq, hs⟩
    cases e with
    | normal =>
      have hq' : entX kp b y env st fun env st => wpcX C P Y H b kp od y env st Q := hq
      obtain ⟨env', st', h1, h2⟩ := hs.entX hq'
      exact wpcX_in hC hY hH y hk.2 β RO _ _ a w Q h2 h1
    | _ => exact ⟨env, st, β, RO, hq, hs⟩
  | .cond c x y, hk, β, RO, env, st, a, w, Q, h, hW => by
    simp only [codeYOK, Bool.and_eq_true] at hk
    have hc := h.opd c
    simp only [wpcX] at hW
    split at hW
    · rename_i t ht
      rw [ht] at hc
      cases t with
      | true => exact wpIn_cond_true hc.v_inv (wpcX_in hC hY hH x hk.1 β RO env st a w Q h hW)
      | false => exact wpIn_cond_false hc.v_inv (wpcX_in hC hY hH y hk.2 β RO env st a w Q h hW)
    · cases hW
  | .block id c, hk, β, RO, env, st, a, w, Q, h, hW => by
    refine wpIn_block (wpIn_mono (wpcX_in hC hY hH c (by simpa [codeYOK] using hk) β RO env st a w _ h hW) ?_)
    rintro e a w ⟨env, st, β, RO, hq, hs⟩
    cases e with
    | exit i =>
      simp only [blockW] at hq
      simp only [Exit.inBlock]
      by_cases hi : i = id
      · subst hi
        simp only [Nat.beq_refl] at hq
        rw [if_pos rfl]; exact ⟨env, st, β, RO, hq, hs⟩
      · rw [if_neg hi]
        split at hq
        · rename_i hb; exact absurd (by simpa using hb) hi
        · exact ⟨env, st, β, RO, hq, hs⟩
    | _ => exact ⟨env, st, β, RO, hq, hs⟩
  | .loop c, hk, β, RO, env, st, a, w, Q, h, hW => by
    have hkc : codeYOK N od c = true := by simpa [codeYOK] using hk
    simp only [wpcX] at hW
    cases hW with
    | rounds m hW => exact wpIn_loop_rounds m (rndX_in (fun β RO env st a w Q hs hW => wpcX_in hC hY hH c hkc β RO env st a w Q hs hW) m β RO env st a w h hW)
    | mk ι I F S m i0 hI0 hE0 hW =>
    obtain ⟨env1, st1, ⟨hF0, hS0⟩, hs0⟩ := h.entX hE0
    classical
    let R : Nat → Act → World → Prop := fun n a w => ∃ i, m i = n ∧ I i ∧ ∃ β RO, SR E N β RO (F i) (S i) a w
    let μ : Act → World → Nat := fun a w => if h : ∃ n, R n a w then Classical.choose (least h) else 0
    refine wpIn_loop (fun a w => ∃ n, R n a w) μ ⟨_, i0, rfl, hI0, β, RO, by rw [← hF0, ← hS0]; exact hs0⟩ ?_
    intro a w hn
    have hμ : μ a w = Classical.choose (least hn) := dif_pos hn
    obtain ⟨i, hi, hI, β, RO, hs⟩ := (Classical.choose_spec (least hn)).1
    refine wpIn_mono (wpcX_in hC hY hH c hkc β RO _ _ a w _ hs (hW i hI)) ?_
    rintro e a' w' ⟨env, st, β, RO, hq, hs⟩
    cases e with
    | normal =>
      obtain ⟨j, hj, hIj, hEj⟩ := hq
      obtain ⟨env1, st1, ⟨hFj, hSj⟩, hs1⟩ := hs.entX hEj
      have hR : R (m j) a' w' := ⟨j, rfl, hIj, β, RO, by rw [← hFj, ← hSj]; exact hs1⟩
      refine ⟨⟨_, hR⟩, ?_⟩
      have h1 : μ a' w' = Classical.choose (least ⟨_, hR⟩) := dif_pos ⟨_, hR⟩
      rw [h1, hμ, ← hi]
      exact Nat.lt_of_le_of_lt ((Classical.choose_spec (least (R := fun n => R n a' w') ⟨_, hR⟩)).2 _ hR) hj
    | _ => exact ⟨env, st, β, RO, hq, hs⟩
  | .scope _, hk, _, _, _, _, _, _, _, _, _ => by simp [codeYOK] at hk
  | .goto _, hk, _, _, _, _, _, _, _, _, _ => by simp [codeYOK] at hk
  | .rangeFunc _ _ _ _, hk, _, _, _, _, _, _, _, _, _ => by simp [codeYOK] at hk
  | .refuse _, hk, _, _, _, _, _, _, _, _, _ => by simp [codeYOK] at hk

end

/-! ### A function walked through at its call -/
def BIG : Nat := 1000000000000000
def shE (env : Env) : Env := selE 0 BIG 1000000 env
def unE (env : Env) : Env := selE 1000000 BIG 0 env
def retX (C : Ctx) (rs : List ResultVar) (K' : LV → Env → St → Prop) (e : Exit) (env : Env) (st : St) : Prop := match e with
  | .ret | .normal => match resL C env st rs with
    | some l => K' (resV l) env st
    | none => False
  | _ => False
abbrev InT := List (Nat × (Func × (Code × (Kp × Od))))
/-- Calls of the listed functions are walked through, so deep. -/
def inH (C : Ctx) (P : Program) (T : InT) : Nat → HW
  | 0 => noH
  | d + 1 => fun f args s env st K' => match look T f with
    | some x => match Nat.ble args.length x.1.ntmps with
      | true => wpcX C P noY (inH C P T d) (1000003 * (s + 1)) x.2.2.1 x.2.2.2 x.2.1 (argE 0 args ++ shE env) st (retX C x.1.results.toList fun x env st => K' x (unE env) st)
      | false => False
    | none => False
def InOK (P : Program) (T : InT) : Prop := ∀ f x, look T f = some x → P.funcs[f]? = some x.1 ∧ x.1.body = some x.2.1 ∧ FnOK P f ∧ (Nat.ble x.1.ntmps 1000000 && codeYOK x.1.ntmps x.2.2.2 x.2.1) = true
theorem InOK.nil {P : Program} : InOK P [] := fun f x h => by simp [look] at h
theorem InOK.cons {P : Program} {T : InT} {f : Nat} {fn : Func} {c : Code} {kp : Kp} {od : Od} (h1 : P.funcs[f]? = some fn) (h2 : fn.body = some c) (h3 : FnOK P f) (h4 : (Nat.ble fn.ntmps 1000000 && codeYOK fn.ntmps od c) = true) (h : InOK P T) : InOK P ((f, fn, c, kp, od) :: T) := fun g x hx => by
  rw [look_cons] at hx
  split at hx
  · rename_i he; subst he; cases hx; exact ⟨h1, h2, h3, h4⟩
  · exact h g x hx

section
variable {C : Ctx} {P : Program} {E : Ent} {N : Nat} {β : K → Nat} {RO : Nat → Prop} {env : Env} {st : St} {a : Act} {w : World}

theorem wr_same {E' : Ent} (h : WR E β RO st w) (h1 : E' = { E with gh := E'.gh, dfs := E'.dfs }) : WR E' β RO st w := by
  rw [h1]
  exact ⟨h.os, h.tape, h.output, h.size, h.keep, h.roLt, h.ro0, h.roNew, h.obj, h.objNew, h.inj, h.sep, h.fzRO, h.stay⟩

theorem res_run {fn : Func} {l : List LV} (hC : C.OK P) (hs : SR E N β RO env st a w) (hl : resL C env st fn.results.toList = some l) : ∃ v, (results fn a.tmps).run P w = .ok v w ∧ VL β RO w (resV l) v := by
  obtain ⟨vs, h1, h2⟩ := resL_run hC hs hl
  have hvl : vs.length = l.length := h2.1.symm
  refine ⟨outV vs, ?_, ?_⟩
  · unfold results
    have h1' : (fn.results.mapM fun x => match x with | .tmp t => pure (a.tmps.getD t undef) | .cell x t => do loadVar t (← asAddr (a.tmps.getD x undef)) : Sem (Array Value)).run P w = .ok vs.toArray w := by
      rw [Array.mapM_eq_mapM_toList, map_eq_pure_bind, Sem.run_bind]
      refine (congrArg (fun r => Result.andThen r _) h1).trans ?_
      rfl
    rw [Sem.run_bind]
    refine (congrArg (fun r => Result.andThen r _) h1').trans ?_
    clear h1 h1' h2 hvl
    match vs with
    | [] => simp [outV]
    | [v] => simp [outV]
    | _ :: _ :: _ => simp [outV]
  · match vs, l, hvl, h2 with
    | [], [], _, h2 => exact .tup [] [] rfl fun i x v h => by simp at h
    | [v], [x], _, h2 => exact h2.2 0 x v rfl rfl
    | v1 :: v2 :: vs, x1 :: x2 :: l, _, h2 => exact .tup _ _ h2.1 h2.2

theorem inH_ok (hC : C.OK P) {T : InT} (hT : InOK P T) : ∀ d, HOK P (inH C P T d)
  | 0 => noH_ok
  | d + 1 => by
    intro E N f s args vals env st K' β RO a w h hv hW
    simp only [inH] at hW
    split at hW
    rotate_left
    · cases hW
    rename_i x hx
    split at hW
    rotate_left
    · cases hW
    rename_i hlen
    have hlen := Nat.le_of_ble_eq_true hlen
    obtain ⟨hf, hb, hfn, hk⟩ := hT f x hx
    simp only [Bool.and_eq_true] at hk
    have hN : x.1.ntmps ≤ 1000000 := by simpa using hk.1
    refine ⟨hfn, ?_⟩
    obtain ⟨E5, hE5⟩ : ∃ E5 : Ent, E5 = { E with gh := fun m => tmpAt E a (m - 1000000), dfs := [] } := ⟨_, rfl⟩
    have hsame : E5 = { E with gh := E5.gh, dfs := E5.dfs } := by rw [hE5]
    have hback : E = { E5 with gh := E.gh, dfs := E.dfs } := by rw [hE5]
    have hgh : ∀ m, E5.gh m = tmpAt E a (m - 1000000) := fun m => by rw [hE5]
    have hvl : vals.length = args.length := hv.1.symm
    have tmpG : ∀ (a0 : Act) (m q : Nat), 1000000 ≤ m → m - 1000000 = q → tmpAt E5 a0 m = tmpAt E a q := fun a0 m q hm hq => by
      conv => lhs; unfold tmpAt
      rw [show Nat.blt m 1000000 = false by rw [Bool.eq_false_iff]; intro hb; rw [Nat.blt_eq] at hb; omega]
      simp only [hgh]
      rw [hq]
    have hs5 : SR E5 x.1.ntmps β RO (argE 0 args ++ shE env) st { tmps := vals.toArray ++ Array.replicate (x.1.ntmps - vals.toArray.size) undef, defers := [] } w := by
      refine ⟨wr_same h.wr hsame, ⟨by simp; omega, hN⟩, by rw [hE5], fun m y hy => ?_⟩
      rcases look_app hy with hy | ⟨_, hy⟩
      · obtain ⟨_, h2⟩ := argE_look hy
        simp only [Nat.sub_zero] at h2
        have hlt : m < vals.length := by rw [hvl]; exact (List.getElem?_eq_some_iff.1 h2).1
        refine ⟨vals[m], ?_, hv.2 m y _ h2 (List.getElem?_eq_getElem hlt)⟩
        rw [tmpAt_lt (by omega), Array.getElem?_append_left (by simpa using hlt)]
        simp [hlt]
      · obtain ⟨q, _, _, g3, g4⟩ := look_selE hy
        obtain ⟨v, g5, g6⟩ := h.env q y g4
        refine ⟨v, ?_, g6⟩
        rw [tmpG _ m q (by omega) (by omega)]; exact g5
    have hI := wpcX_in (r := none) (n := 0) hC noY_ok (inH_ok hC hT d) x.2.1 hk.2 β RO _ st _ w _ hs5 hW
    refine calls_out (r := none) (n := 0) (callsIn_of_wp hf hb trivial (wpIn_mono hI ?_))
    have fin : ∀ {env' : Env} {st' : St} {β' : K → Nat} {RO' : Nat → Prop} {a' : Act} {w' : World}, (match resL C env' st' x.1.results.toList with | some l => K' (resV l) (unE env') st' | none => False) → SR E5 x.1.ntmps β' RO' env' st' a' w' →
        a'.defers = [] ∧ ∃ v, (results x.1 a'.tmps).run P w' = .ok v w' ∧ ∃ v' y env2 st2 β2 RO2, Ending.returned v = .returned v' ∧ K' y env2 st2 ∧ SR E N β2 RO2 env2 st2 a w' ∧ VL β2 RO2 w' y v' := by
      intro env' st' β' RO' a' w' hq hs
      split at hq
      rotate_left
      · cases hq
      rename_i l hl
      obtain ⟨v, h1, h2⟩ := res_run hC hs hl
      refine ⟨by rw [hs.defers, hE5], v, h1, v, resV l, unE env', st', β', RO', rfl, hq, ⟨wr_same hs.wr hback, h.size, h.defers, fun m y hy => ?_⟩, h2⟩
      obtain ⟨q, _, _, g3, g4⟩ := look_selE hy
      obtain ⟨u, g5, g6⟩ := hs.env q y g4
      refine ⟨u, ?_, g6⟩
      rw [tmpG _ q m (by omega) (by omega)] at g5
      exact g5
    rintro e a' w' ⟨env', st', β', RO', hq, hs⟩
    cases e with
    | normal => exact fin hq hs
    | ret => exact fin hq hs
    | _ => exact hq.elim

/-- A function is right where its body is, calls of the listed functions walked through. -/
theorem spec_walk (hC : C.OK P) {f : Nat} {fn : Func} {c : Code} {args : List LV} {out : List Fr} {Post : LV → Fr → Prop} (T : InT) (d : Nat) (kp : Kp) (od : Od) (hT : InOK P T) (hf : P.funcs[f]? = some fn) (hb : fn.body = some c) (hk : (Nat.ble fn.ntmps 1000000 && codeYOK fn.ntmps od c) = true) (hn : Nat.ble args.length fn.ntmps = true) (hfn : FnOK P f)
    (hW : LV.ok.okL args → wpcX C P noY (inH C P T d) 0 kp od c (argE 0 args) ⟨out, []⟩ (retW C fn.results.toList Post)) : SpecP P f args out Post := by
  simp only [Bool.and_eq_true] at hk
  obtain ⟨hq, hk⟩ := hk
  have hq : fn.ntmps ≤ 1000000 := by simpa using hq
  have hn : args.length ≤ fn.ntmps := by simpa using hn
  refine ⟨hfn, fun β RO w vals hw hv => calls_out (r := none) (n := 0) ?_⟩
  have hlen : vals.length = args.length := hv.1.symm
  have hs : SR (entP β RO w) fn.ntmps β RO (argE 0 args) ⟨out, []⟩ { tmps := vals.toArray ++ Array.replicate (fn.ntmps - vals.toArray.size) undef, defers := [] } w := by
    refine ⟨hw, ⟨by simp; omega, hq⟩, rfl, fun n x hx => ?_⟩
    obtain ⟨_, h2⟩ := argE_look hx
    simp only [Nat.sub_zero] at h2
    have hlt : n < vals.length := by rw [hlen]; exact (List.getElem?_eq_some_iff.1 h2).1
    refine ⟨vals[n], ?_, hv.2 n x _ h2 (List.getElem?_eq_getElem hlt)⟩
    rw [tmpAt_lt (by omega), Array.getElem?_append_left (by simpa using hlt)]
    simp [hlt]
  refine callsIn_of_wp hf hb trivial (wpIn_mono (wpcX_in hC noY_ok (inH_ok hC hT d) c hk β RO _ _ _ w _ hs (hW hv.ok)) ?_)
  have fin : ∀ {env : Env} {st : St} {β' : K → Nat} {RO' : Nat → Prop} {a : Act} {w' : World}, (match resL C env st fn.results.toList with | some l => ∃ cs, keepW cs st.cur (Post (resV l)) | none => False) → SR (entP β RO w) fn.ntmps β' RO' env st a w' →
      a.defers = [] ∧ ∃ v, (results fn a.tmps).run P w' = .ok v w' ∧ ∃ v' r ro out' β' RO', Ending.returned v = .returned v' ∧ Post r ro ∧ WR (entP β RO w) β' RO' ⟨out', ro⟩ w' ∧ VL β' RO' w' r v' := by
    intro env st β' RO' a w' hq hs
    split at hq
    rotate_left
    · cases hq
    rename_i l hl
    obtain ⟨cs, hp⟩ := hq
    obtain ⟨cur', hp, hless⟩ := keepW_gives hp
    obtain ⟨v, h1, h2⟩ := res_run hC hs hl
    exact ⟨hs.defers, v, h1, v, resV l, cur', st.out, β', RO', rfl, hp, hs.wr.less (fun k o hk => get_less hless k o hk), h2⟩
  rintro e a w' ⟨env, st, β', RO', hq, hs⟩
  cases e with
  | normal => exact fin hq hs
  | ret => exact fin hq hs
  | _ => exact hq.elim

end
end Go.Fw

/- The program's data. -/
namespace Go.Fw
open Go

/-! ### The program's data -/
structure Lit where
  fact : Int
  neg : Bool
  deriving DecidableEq
structure Eff where
  nil : Bool
  when_ : List Lit
  lit : Lit
structure Actn where
  name : ByteArray
  cost : Int
  pn : Bool
  pre : List Lit
  en : Bool
  effs : List Eff
structure Task where
  fn : Bool
  facts : List ByteArray
  ni : Bool
  init : List Int
  gn : Bool
  goal : List Lit
  an : Bool
  acts : List Actn

def tI (n : Int) : List T := [.v (.int .i64 n)]
def tB (b : Bool) : List T := [.v (.bool b)]
def tS (s : ByteArray) : List T := [.v (.string s)]
def tLit (l : Lit) : List T := [.v (.int .i64 l.fact), .v (.bool l.neg)]
def tEff (e : Eff) : List T := [.sl e.nil 2 (e.when_.map tLit), .v (.int .i64 e.lit.fact), .v (.bool e.lit.neg)]
def tAct (a : Actn) : List T := [.v (.string a.name), .v (.int .i64 a.cost), .sl a.pn 2 (a.pre.map tLit), .sl a.en 3 (a.effs.map tEff)]
def tTask (t : Task) : List T := [.sl t.fn 1 (t.facts.map tS), .sl t.ni 1 (t.init.map tI), .sl t.gn 2 (t.goal.map tLit), .sl t.an 4 (t.acts.map tAct)]
abbrev LV.ints (nl : Bool) (l : List Int) : LV := .t (.sl nl 1 (l.map tI))
abbrev LV.lits (nl : Bool) (l : List Lit) : LV := .t (.sl nl 2 (l.map tLit))
abbrev LV.bools (nl : Bool) (l : List Bool) : LV := .t (.sl nl 1 (l.map tB))
abbrev LV.lit (l : Lit) : LV := .agg [.t (.v (.int .i64 l.fact)), .t (.v (.bool l.neg))]
abbrev LV.act (a : Actn) : LV := .agg [.t (.v (.string a.name)), .t (.v (.int .i64 a.cost)), .t (.sl a.pn 2 (a.pre.map tLit)), .t (.sl a.en 3 (a.effs.map tEff))]
abbrev LV.task (t : Task) : LV := .agg [.t (.sl t.fn 1 (t.facts.map tS)), .t (.sl t.ni 1 (t.init.map tI)), .t (.sl t.gn 2 (t.goal.map tLit)), .t (.sl t.an 4 (t.acts.map tAct))]

/-! ### Helpers for loops over lists -/
theorem lt_of_dec {α β : Type} {l : List α} {f : α → β} {i : Nat} (h : decide ((i : Int) < ((l.map f).length : Int)) = true) : i < l.length := by simpa using h
theorem ge_of_dec {α β : Type} {l : List α} {f : α → β} {i : Nat} (h : decide ((i : Int) < ((l.map f).length : Int)) = false) : l.length ≤ i := by simpa using h
theorem get_map {α β : Type} {l : List α} {f : α → β} {i : Nat} (h : i < l.length) : (l.map f)[((i : Int)).toNat]? = some (f l[i]) := by simp [h]
theorem le_max {α β : Type} {l : List α} {f : α → β} (h : (l.map f).length ≤ maxLen) : (l.length : Int) ≤ 9223372036854775807 := by
  rw [List.length_map] at h; unfold maxLen at h; omega

theorem all_false {α : Type} {l : List α} {p : α → Bool} {i : Nat} (hi : i < l.length) (h : p l[i] = false) : l.all p = false := by
  cases hh : l.all p with
  | false => rfl
  | true => rw [List.all_eq_true.1 hh _ (List.getElem_mem hi)] at h; cases h
theorem any_true {α : Type} {l : List α} {p : α → Bool} {i : Nat} (hi : i < l.length) (h : p l[i] = true) : l.any p = true := List.any_eq_true.2 ⟨_, List.getElem_mem hi, h⟩
theorem all_step {α : Type} {l : List α} {p : α → Bool} {i : Nat} (hi : i < l.length) (h : (l.take i).all p = true) (h2 : p l[i] = true) : (l.take (i + 1)).all p = true := by
  rw [List.take_add_one, List.all_append, h]; simp [hi, h2]
theorem any_step {α : Type} {l : List α} {p : α → Bool} {i : Nat} (hi : i < l.length) (h : (l.take i).any p = false) (h2 : p l[i] = false) : (l.take (i + 1)).any p = false := by
  rw [List.take_add_one, List.any_append, h]; simp [hi, h2]
theorem all_end {α : Type} {l : List α} {p : α → Bool} {i : Nat} (hi : l.length ≤ i) (h : (l.take i).all p = true) : l.all p = true := by
  rwa [List.take_of_length_le hi] at h
theorem any_end {α : Type} {l : List α} {p : α → Bool} {i : Nat} (hi : l.length ≤ i) (h : (l.take i).any p = false) : l.any p = false := by
  rwa [List.take_of_length_le hi] at h
theorem ret_bool {b c : Bool} {ro : Fr} (h : c = b) (h2 : ro = []) : LV.t (.v (.bool b)) = .bool c ∧ ro = [] := ⟨by rw [h]; rfl, h2⟩

/-! ### Nil slices of any element -/
theorem SpecP.conv1 {P : Program} {f : Nat} {x y : LV} {out : List Fr} {Post : LV → Fr → Prop} (hxy : ∀ (β : K → Nat) (RO : Nat → Prop) (w : World) (v : Value), VL β RO w x v → VL β RO w y v) (h : SpecP P f [y] out Post) : SpecP P f [x] out Post :=
  ⟨h.fn, fun β RO w vals hw hv => h.calls β RO w vals hw ⟨hv.1, fun i z v hz hvz => by
    match i with
    | 0 => simp at hz; subst hz; exact hxy β RO w v (hv.2 0 x v rfl hvz)
    | i + 1 => simp at hz⟩⟩
theorem nil_sz {a b : Nat} (β : K → Nat) (RO : Nat → Prop) (w : World) (v : Value) (h : VL β RO w (.t (.sl true a [])) v) : VL β RO w (.t (.sl true b [])) v := by
  cases h with
  | t _ _ h => cases h; exact .t _ _ (.nil b)

end Go.Fw

/- Printed by wip/tys.py: what the value logic is told of the types. -/
namespace Go.Fw
open Go Go.Proofs

def tys : List (Nat × TI) := [
  (3, ⟨.int .i64, 1, 8, [.int .i64 (0)]⟩),
  (27, ⟨.struct [(0, 22), (1, 23), (2, 24), (3, 25)], 4, 96, [.slice none 0 0, .slice none 0 0, .slice none 0 0, .slice none 0 0]⟩),
  (23, ⟨.slice 3, 1, 24, [.slice none 0 0]⟩),
  (4, ⟨.bool, 1, 1, [.bool false]⟩),
  (79, ⟨.struct [(0, 9), (1, 3), (2, 24), (3, 77)], 4, 72, [.string ⟨#[]⟩, .int .i64 (0), .slice none 0 0, .slice none 0 0]⟩),
  (50, ⟨.struct [(0, 3), (1, 4)], 2, 16, [.int .i64 (0), .bool false]⟩),
  (25, ⟨.slice 79, 1, 24, [.slice none 0 0]⟩),
  (30, ⟨.int .i64, 1, 8, [.int .i64 (0)]⟩),
  (83, ⟨.struct [(0, 43), (1, 3), (2, 4)], 3, 40, [.slice none 0 0, .int .i64 (0), .bool false]⟩),
  (24, ⟨.slice 50, 1, 24, [.slice none 0 0]⟩),
  (98, ⟨.struct [(0, 24), (1, 50)], 3, 40, [.slice none 0 0, .int .i64 (0), .bool false]⟩),
  (43, ⟨.slice 23, 1, 24, [.slice none 0 0]⟩),
  (56, ⟨.slice 4, 1, 24, [.slice none 0 0]⟩),
  (77, ⟨.slice 98, 1, 24, [.slice none 0 0]⟩),
  (54, ⟨.struct [(0, 23), (1, 3)], 2, 32, [.slice none 0 0, .int .i64 (0)]⟩),
  (22, ⟨.slice 9, 1, 24, [.slice none 0 0]⟩),
  (9, ⟨.str, 1, 16, [.string ⟨#[]⟩]⟩),
  (5, ⟨.int .u8, 1, 1, [.int .u8 (0)]⟩),
  (126, ⟨.map 3 4, 1, 8, [.map none]⟩),
  (136, ⟨.map 9 4, 1, 8, [.map none]⟩),
  (46, ⟨.slice 54, 1, 24, [.slice none 0 0]⟩),
  (57, ⟨.slice 4, 1, 24, [.slice none 0 0]⟩),
  (125, ⟨.slice 56, 1, 24, [.slice none 0 0]⟩),
  (2, ⟨.int .i64, 1, 8, [.int .i64 (0)]⟩),
  (6, ⟨.int .u8, 1, 1, [.int .u8 (0)]⟩),
  (7, ⟨.struct [(0, 2), (1, 3), (2, 4), (3, 6)], 4, 24, [.int .i64 (0), .int .i64 (0), .bool false, .int .u8 (0)]⟩),
  (8, ⟨.struct [(0, 2), (1, 3), (2, 4), (3, 6)], 4, 24, [.int .i64 (0), .int .i64 (0), .bool false, .int .u8 (0)]⟩),
  (10, ⟨.str, 1, 16, [.string ⟨#[]⟩]⟩),
  (11, ⟨.str, 1, 16, [.string ⟨#[]⟩]⟩),
  (12, ⟨.int .u64, 1, 8, [.int .u64 (0)]⟩),
  (13, ⟨.struct [(0, 9), (1, 12)], 2, 24, [.string ⟨#[]⟩, .int .u64 (0)]⟩),
  (14, ⟨.struct [(0, 9), (1, 12)], 2, 24, [.string ⟨#[]⟩, .int .u64 (0)]⟩),
  (15, ⟨.ptr 170, 1, 8, [.pointer none]⟩),
  (16, ⟨.ptr 173, 1, 8, [.pointer none]⟩),
  (17, ⟨.ptr 182, 1, 8, [.pointer none]⟩),
  (18, ⟨.struct [(0, 17)], 1, 8, [.pointer none]⟩),
  (19, ⟨.struct [(0, 17)], 1, 8, [.pointer none]⟩),
  (21, ⟨.int .i32, 1, 4, [.int .i32 (0)]⟩),
  (26, ⟨.struct [(0, 22), (1, 23), (2, 24), (3, 25)], 4, 96, [.slice none 0 0, .slice none 0 0, .slice none 0 0, .slice none 0 0]⟩),
  (49, ⟨.struct [(0, 3), (1, 4)], 2, 16, [.int .i64 (0), .bool false]⟩),
  (53, ⟨.struct [(0, 23), (1, 3)], 2, 32, [.slice none 0 0, .int .i64 (0)]⟩),
  (78, ⟨.struct [(0, 9), (1, 3), (2, 24), (3, 77)], 4, 72, [.string ⟨#[]⟩, .int .i64 (0), .slice none 0 0, .slice none 0 0]⟩),
  (82, ⟨.struct [(0, 43), (1, 3), (2, 4)], 3, 40, [.slice none 0 0, .int .i64 (0), .bool false]⟩),
  (97, ⟨.struct [(0, 24), (1, 50)], 3, 40, [.slice none 0 0, .int .i64 (0), .bool false]⟩),
  (142, ⟨.int .u64, 1, 8, [.int .u64 (0)]⟩)]

theorem tys_ok : TysOK Try.prog tys := ⟨
  ⟨by kernel_rfl, by kernel_rfl, by kernel_rfl, by kernel_rfl⟩,
  ⟨by kernel_rfl, by kernel_rfl, by kernel_rfl, by kernel_rfl⟩,
  ⟨by kernel_rfl, by kernel_rfl, by kernel_rfl, by kernel_rfl⟩,
  ⟨by kernel_rfl, by kernel_rfl, by kernel_rfl, by kernel_rfl⟩,
  ⟨by kernel_rfl, by kernel_rfl, by kernel_rfl, by kernel_rfl⟩,
  ⟨by kernel_rfl, by kernel_rfl, by kernel_rfl, by kernel_rfl⟩,
  ⟨by kernel_rfl, by kernel_rfl, by kernel_rfl, by kernel_rfl⟩,
  ⟨by kernel_rfl, by kernel_rfl, by kernel_rfl, by kernel_rfl⟩,
  ⟨by kernel_rfl, by kernel_rfl, by kernel_rfl, by kernel_rfl⟩,
  ⟨by kernel_rfl, by kernel_rfl, by kernel_rfl, by kernel_rfl⟩,
  ⟨by kernel_rfl, by kernel_rfl, by kernel_rfl, by kernel_rfl⟩,
  ⟨by kernel_rfl, by kernel_rfl, by kernel_rfl, by kernel_rfl⟩,
  ⟨by kernel_rfl, by kernel_rfl, by kernel_rfl, by kernel_rfl⟩,
  ⟨by kernel_rfl, by kernel_rfl, by kernel_rfl, by kernel_rfl⟩,
  ⟨by kernel_rfl, by kernel_rfl, by kernel_rfl, by kernel_rfl⟩,
  ⟨by kernel_rfl, by kernel_rfl, by kernel_rfl, by kernel_rfl⟩,
  ⟨by kernel_rfl, by kernel_rfl, by kernel_rfl, by kernel_rfl⟩,
  ⟨by kernel_rfl, by kernel_rfl, by kernel_rfl, by kernel_rfl⟩,
  ⟨by kernel_rfl, by kernel_rfl, by kernel_rfl, by kernel_rfl⟩,
  ⟨by kernel_rfl, by kernel_rfl, by kernel_rfl, by kernel_rfl⟩,
  ⟨by kernel_rfl, by kernel_rfl, by kernel_rfl, by kernel_rfl⟩,
  ⟨by kernel_rfl, by kernel_rfl, by kernel_rfl, by kernel_rfl⟩,
  ⟨by kernel_rfl, by kernel_rfl, by kernel_rfl, by kernel_rfl⟩,
  ⟨by kernel_rfl, by kernel_rfl, by kernel_rfl, by kernel_rfl⟩,
  ⟨by kernel_rfl, by kernel_rfl, by kernel_rfl, by kernel_rfl⟩,
  ⟨by kernel_rfl, by kernel_rfl, by kernel_rfl, by kernel_rfl⟩,
  ⟨by kernel_rfl, by kernel_rfl, by kernel_rfl, by kernel_rfl⟩,
  ⟨by kernel_rfl, by kernel_rfl, by kernel_rfl, by kernel_rfl⟩,
  ⟨by kernel_rfl, by kernel_rfl, by kernel_rfl, by kernel_rfl⟩,
  ⟨by kernel_rfl, by kernel_rfl, by kernel_rfl, by kernel_rfl⟩,
  ⟨by kernel_rfl, by kernel_rfl, by kernel_rfl, by kernel_rfl⟩,
  ⟨by kernel_rfl, by kernel_rfl, by kernel_rfl, by kernel_rfl⟩,
  ⟨by kernel_rfl, by kernel_rfl, by kernel_rfl, by kernel_rfl⟩,
  ⟨by kernel_rfl, by kernel_rfl, by kernel_rfl, by kernel_rfl⟩,
  ⟨by kernel_rfl, by kernel_rfl, by kernel_rfl, by kernel_rfl⟩,
  ⟨by kernel_rfl, by kernel_rfl, by kernel_rfl, by kernel_rfl⟩,
  ⟨by kernel_rfl, by kernel_rfl, by kernel_rfl, by kernel_rfl⟩,
  ⟨by kernel_rfl, by kernel_rfl, by kernel_rfl, by kernel_rfl⟩,
  ⟨by kernel_rfl, by kernel_rfl, by kernel_rfl, by kernel_rfl⟩,
  ⟨by kernel_rfl, by kernel_rfl, by kernel_rfl, by kernel_rfl⟩,
  ⟨by kernel_rfl, by kernel_rfl, by kernel_rfl, by kernel_rfl⟩,
  ⟨by kernel_rfl, by kernel_rfl, by kernel_rfl, by kernel_rfl⟩,
  ⟨by kernel_rfl, by kernel_rfl, by kernel_rfl, by kernel_rfl⟩,
  ⟨by kernel_rfl, by kernel_rfl, by kernel_rfl, by kernel_rfl⟩,
  ⟨by kernel_rfl, by kernel_rfl, by kernel_rfl, by kernel_rfl⟩,
  trivial⟩

end Go.Fw

/- slices.Sort sorts a row of numbers where it lies. -/
namespace Go.Proofs
open Go Go.Shelf Go.Sort Go.RowKit
def Try.laysSort_ren : Go.Shelf.Ren := ⟨fun | 189 => 93 | 125 => 103 | 257 => 102 | 128 => 121 | 129 => 122 | 294 => 113 | 295 => 114 | 296 => 115 | 297 => 116 | 298 => 117 | 299 => 118 | 216 => 108 | 300 => 119 | 301 => 120 | 328 => 125 | 329 => 126 | 330 => 127 | 331 => 128 | 332 => 129 | 215 => 124 | 343 => 131 | n => n, fun | 28 => 23 | 3 => 3 | 46 => 142 | 0 => 0 | 51 => 156 | 53 => 158 | 4 => 4 | 183 => 150 | 182 => 149 | 131 => 41 | 5 => 5 | 9 => 9 | 218 => 159 | 222 => 163 | 228 => 165 | 229 => 166 | n => n, fun | n => n⟩
theorem Try.laysSort : Go.Proofs.Lays.n189 Try.prog Try.laysSort_ren where
  mixed := by kernel_rfl
  f125 := Try.func103.trans (congrArg some (by kernel_rfl))
  f128 := Try.func121.trans (congrArg some (by kernel_rfl))
  f129 := Try.func122.trans (congrArg some (by kernel_rfl))
  f189 := Try.func93.trans (congrArg some (by kernel_rfl))
  f215 := Try.func124.trans (congrArg some (by kernel_rfl))
  f216 := Try.func108.trans (congrArg some (by kernel_rfl))
  f257 := Try.func102.trans (congrArg some (by kernel_rfl))
  f294 := Try.func113.trans (congrArg some (by kernel_rfl))
  f295 := Try.func114.trans (congrArg some (by kernel_rfl))
  f296 := Try.func115.trans (congrArg some (by kernel_rfl))
  f297 := Try.func116.trans (congrArg some (by kernel_rfl))
  f298 := Try.func117.trans (congrArg some (by kernel_rfl))
  f299 := Try.func118.trans (congrArg some (by kernel_rfl))
  f300 := Try.func119.trans (congrArg some (by kernel_rfl))
  f301 := Try.func120.trans (congrArg some (by kernel_rfl))
  f328 := Try.func125.trans (congrArg some (by kernel_rfl))
  f329 := Try.func126.trans (congrArg some (by kernel_rfl))
  f330 := Try.func127.trans (congrArg some (by kernel_rfl))
  f331 := Try.func128.trans (congrArg some (by kernel_rfl))
  f332 := Try.func129.trans (congrArg some (by kernel_rfl))
  f343 := Try.func131.trans (congrArg some (by kernel_rfl))
  t0 := Try.underlying0
  a0 := Try.isAgg0
  z0 := Try.sizeOf0
  v0 := Try.zeroValue0
  t3 := Try.underlying3
  a3 := Try.isAgg3
  z3 := Try.sizeOf3
  v3 := Try.zeroValue3
  t4 := Try.underlying4
  a4 := Try.isAgg4
  z4 := Try.sizeOf4
  v4 := Try.zeroValue4
  t5 := Try.underlying5
  a5 := Try.isAgg5
  z5 := Try.sizeOf5
  v5 := Try.zeroValue5
  t9 := Try.underlying9
  a9 := Try.isAgg9
  z9 := Try.sizeOf9
  v9 := Try.zeroValue9
  t28 := Try.underlying23
  a28 := Try.isAgg23
  z28 := Try.sizeOf23
  v28 := Try.zeroValue23
  t46 := Try.underlying142
  a46 := Try.isAgg142
  z46 := Try.sizeOf142
  v46 := Try.zeroValue142
  t51 := Try.underlying156
  a51 := Try.isAgg156
  z51 := Try.sizeOf156
  v51 := Try.zeroValue156
  t53 := Try.underlying158
  a53 := Try.isAgg158
  z53 := Try.sizeOf158
  v53 := Try.zeroValue158
  t131 := Try.underlying41
  a131 := Try.isAgg41
  z131 := Try.sizeOf41
  v131 := Try.zeroValue41
  t182 := Try.underlying149
  a182 := Try.isAgg149
  z182 := Try.sizeOf149
  v182 := Try.zeroValue149
  t183 := Try.underlying150
  a183 := Try.isAgg150
  z183 := Try.sizeOf150
  v183 := Try.zeroValue150
  t218 := Try.underlying159
  a218 := Try.isAgg159
  z218 := Try.sizeOf159
  v218 := Try.zeroValue159
  t222 := Try.underlying163
  a222 := Try.isAgg163
  z222 := Try.sizeOf163
  v222 := Try.zeroValue163
  t228 := Try.underlying165
  a228 := Try.isAgg165
  z228 := Try.sizeOf165
  v228 := Try.zeroValue165
  t229 := Try.underlying166
  a229 := Try.isAgg166
  z229 := Try.sizeOf166
  v229 := Try.zeroValue166

theorem try_sort : Fw.SortOK Try.prog 93 := by
  refine ⟨by kernel_rfl, fun w => ?_, fun w g cap ty zs cur hg hc hl => ?_⟩
  · refine (calls_of_every_depth fun D => AnyS.slices_Sort_int_none_in Try.laysSort D none 0 w).mono ?_
    rintro e w' ⟨rfl, rfl⟩
    exact ⟨rfl, rfl, rfl, rfl, Nat.le_refl _, fun _ _ => rfl⟩
  · have hlen : zs.length ≤ cur.size := by
      have := congrArg List.length hc
      simp at this; omega
    have hget : ∀ j, j < zs.length → cur[j]? = some (.int .i64 zs[j]!) := fun j hj => by
      have h1 : (cur.toList.take zs.length)[j]? = (zs.map (Value.int .i64))[j]? := by rw [hc]
      rw [List.getElem?_take, if_pos hj, List.getElem?_map] at h1
      simpa [hj] using h1
    have hH : Holds (Value.int .i64) w g 0 zs.toArray := by
      intro j hj
      have hj : j < zs.length := by simpa using hj
      have hgj := hget j hj
      refine ⟨?_, ?_⟩
      · simp only [World.cell?, hg, Nat.zero_add]
        simpa [hj] using hgj
      · simp [World.frozen?, hg]
    refine (calls_of_every_depth fun D => AnyS.slices_Sort_int_in Try.laysSort D g 0 cap zs w hH (Array.getElem?_eq_some_iff.1 hg).1 (by omega)).mono ?_
    rintro e w' ⟨rfl, n, os, rfl⟩
    have hb : ∀ b, b < w.heap.size → (grow (putRow (Value.int .i64) (Sort.ahead w n) g 0 (zs.mergeSort fun x y => decide (x ≤ y)).toArray) os).heap[b]? = (putRow (Value.int .i64) w g 0 (zs.mergeSort fun x y => decide (x ≤ y)).toArray).heap[b]? := fun b hb => by
      show ((putRow (Value.int .i64) (Sort.ahead w n) g 0 (zs.mergeSort fun x y => decide (x ≤ y)).toArray).heap ++ os)[b]? = _
      rw [Array.getElem?_append_left (by simpa [putRow, mapBlock, Sort.ahead] using hb)]
      rfl
    have hglt : g < w.heap.size := (Array.getElem?_eq_some_iff.1 hg).1
    have hms : (zs.mergeSort fun x y => decide (x ≤ y)).length = zs.length := List.length_mergeSort ..
    refine ⟨rfl, rfl, rfl, rfl, ?_, fun b hlt hne => ?_, putCells (Value.int .i64) 0 (zs.mergeSort fun x y => decide (x ≤ y)).toArray cur, ?_, ?_, ?_⟩
    · show w.heap.size ≤ ((putRow (Value.int .i64) (Sort.ahead w n) g 0 (zs.mergeSort fun x y => decide (x ≤ y)).toArray).heap ++ os).size
      rw [Array.size_append]
      have : (putRow (Value.int .i64) (Sort.ahead w n) g 0 (zs.mergeSort fun x y => decide (x ≤ y)).toArray).heap.size = w.heap.size := by simp [putRow, mapBlock, Sort.ahead]
      omega
    · rw [hb b hlt]
      simp [putRow, mapBlock, Array.getElem?_modify, Ne.symm hne]
    · rw [hb g hglt]
      simp [putRow, mapBlock, Array.getElem?_modify, hg]
      rfl
    · simp [putCells]
    · refine List.ext_getElem? fun i => ?_
      rw [List.getElem?_take, List.getElem?_map]
      split
      · rename_i hi
        have hgi := hget i hi
        simp only [putCells, Array.getElem?_toList, Array.getElem?_mapIdx, hgi, Option.map_some]
        rw [if_pos ⟨by omega, by simp [hms]; omega⟩]
        have hi' : i < (zs.mergeSort fun x y => decide (x ≤ y)).length := by omega
        simp only [List.getElem!_toArray, Nat.sub_zero, List.getElem!_eq_getElem?_getD, List.getElem?_eq_getElem hi', Option.getD_some, Option.map_some]
      · rw [List.getElem?_eq_none (by omega)]; rfl

end Go.Proofs

/- What is told of the program. -/
namespace Go.Fw
open Go Go.Proofs

/-! ### The context -/
def cx : Ctx := { tys := tys, eqs := [(50, [.int .i64, .bool])], exts := [(130, 1)], frz := [(24, 1), (42, 1)], srt := [(93, 1)] }
theorem ext130 (s : ByteArray) (c : Int) (w : World) : (callFunc 130 #[.string s, .int .u8 c]).run Try.prog w = .ok (.value (.int .i64 (Lib.indexByte s.data.toList c.toNat.toUInt8))) w := by
  rw [run_callFunc_extern (P := Try.prog) (f := 130) (fn := Try.f130) (e := Extern.BytealgIndexByte.indexByte) (by kernel_rfl) (by kernel_rfl) (by kernel_rfl) (by kernel_rfl) (by kernel_rfl), Lib.run_indexByteString]
  rfl
theorem cx_eqs : ∀ t ds, look cx.eqs t = some ds → Try.prog.eqGuardType Try.prog.depth t = false ∧
    ∀ (w : World) (xs ys : List Value) (r : Bool), eqVs ds xs ys = some r → (Op.equalIn 10000 t (.agg xs.toArray) (.agg ys.toArray)).run Try.prog w = .ok r w := fun t n h => by
  simp only [cx, look] at h
  split at h
  · rename_i ht
    cases h
    have : t = 50 := by have := Nat.eq_of_beq_eq_true ht; exact this.symm
    subst this
    exact ⟨by kernel_rfl, eqs_fields tys_ok (by kernel_rfl) (by kernel_rfl) (by kernel_rfl)⟩
  · cases h
theorem cx_exts : ∀ f k, look cx.exts f = some k → ∀ (s : ByteArray) (c : Int) (w : World), (callFunc f #[.string s, .int .u8 c]).run Try.prog w = .ok (.value (.int .i64 (Lib.indexByte s.data.toList c.toNat.toUInt8))) w := fun f k h => by
  simp only [cx, look] at h
  split at h
  · rename_i ht
    have : f = 130 := by have := Nat.eq_of_beq_eq_true ht; exact this.symm
    subst this
    exact ext130
  · cases h
theorem cx_srt : ∀ f k, look cx.srt f = some k → SortOK Try.prog f := fun f k h => by
  simp only [cx, look] at h
  split at h
  · rename_i ht
    have : f = 93 := by have := Nat.eq_of_beq_eq_true ht; exact this.symm
    subst this
    exact try_sort
  · cases h
theorem cx_ok : cx.OK Try.prog := ⟨by kernel_rfl, tys_ok, cx_eqs, cx_exts, cx_srt⟩
/-- The same, where sums may wrap. -/
def cxw : Ctx := { cx with wrap := true }
theorem cxw_ok : cxw.OK Try.prog := ⟨cx_ok.mixed, cx_ok.tys, cx_ok.eqs, cx_ok.exts, cx_ok.srt⟩

end Go.Fw

/- What the program's functions do, part 1: lists of numbers and literals. -/
namespace Go.Fw
open Go Go.Proofs
set_option maxRecDepth 10000

def od20 : Od := [(6, [(0, .pure), (1, .pure), (2, .pure), (3, .pure), (4, .pure), (5, .pure), (6, .pure), (7, .pure), (8, .pure)])]
def kp20 : Kp := [(4, ([0, 1, 12, 13], []))]

theorem f20_spec (n1 n2 : Bool) (l m : List Int) (out : List Fr) : SpecP Try.prog 20 [.ints n1 l, .ints n2 m] out fun r ro => r = .bool (l == m) ∧ ro = [] := by
  refine spec_body cx_ok kp20 od20 (fn := Try.f20) (by kernel_rfl) rfl (by kernel_rfl) rfl (by unfold FnOK; kernel_rfl) fun hok => ?_
  refine And.intro (fun h => ?_) fun h => ?_
  · refine Exists.intro [] (And.intro ?_ rfl)
    have : l ≠ m := by rintro rfl; simp at h
    show LV.t (.v (.bool false)) = .t (.v (.bool (l == m)))
    simp [this]
  · have hlen : l.length = m.length := by simp at h; omega
    have hmx := le_max hok.1.1
    refine LoopW.mk Nat (fun i => i ≤ l.length ∧ l.take i = m.take i) (fun i => [(0, .ints n1 l), (1, .ints n2 m), (12, .int (l.map tI).length), (13, .int i)]) (fun _ => ⟨out, []⟩) (fun i => l.length - i) 0 ⟨Nat.zero_le _, rfl⟩ ⟨rfl, rfl⟩ fun i hI => ?_
    refine And.intro (fun h1 => ?_) fun h1 => ?_
    · have hi := lt_of_dec h1
      have hi2 : i < m.length := by omega
      refine And.intro (by omega) (Exists.intro _ (And.intro (get_map hi) ?_))
      refine And.intro (by omega) (Exists.intro _ (And.intro (get_map hi2) ?_))
      refine And.intro (fun h2 => ?_) fun h2 => ?_
      · refine Exists.intro [] (And.intro ?_ rfl)
        have : l ≠ m := by rintro rfl; simp at h2
        show LV.t (.v (.bool false)) = .t (.v (.bool (l == m)))
        simp [this]
      · have h3 : l[i] = m[i] := by simpa using h2
        refine And.intro (by omega) (And.intro (by omega) ?_)
        refine Exists.intro (i + 1) (And.intro (by show l.length - (i + 1) < l.length - i; omega) (And.intro ⟨hi, ?_⟩ (And.intro rfl rfl)))
        rw [List.take_add_one, List.take_add_one, hI.2]; simp [hi, hi2, h3]
    · have hi : i = l.length := by have := hI.1; have := ge_of_dec h1; omega
      refine Exists.intro [] (And.intro ?_ rfl)
      have : l = m := by have := hI.2; rw [hi, List.take_length, hlen, List.take_length] at this; exact this
      show LV.t (.v (.bool true)) = .t (.v (.bool (l == m)))
      simp [this]

/-! ### Has, Holds -/
def hasB (l : List Int) (x : Int) : Bool := l.any (· == x)
def od26 : Od := []
def kp26 : Kp := [(2, ([1, 7, 8, 9], []))]
theorem f26_spec (n1 : Bool) (l : List Int) (x : Int) (out : List Fr) : SpecP Try.prog 26 [.ints n1 l, .int x] out fun r ro => r = .bool (hasB l x) ∧ ro = [] := by
  refine spec_body cx_ok kp26 od26 (fn := Try.f26) (by kernel_rfl) rfl (by kernel_rfl) rfl (by unfold FnOK; kernel_rfl) fun hok => ?_
  have hmx := le_max hok.1.1
  refine LoopW.mk Nat (fun i => i ≤ l.length ∧ (l.take i).any (· == x) = false) (fun i => [(1, .int x), (7, .ints n1 l), (8, .int (l.map tI).length), (9, .int i)]) (fun _ => ⟨out, []⟩) (fun i => l.length - i) 0 ⟨Nat.zero_le _, rfl⟩ ⟨rfl, rfl⟩ fun i hI => ?_
  refine And.intro (fun h1 => ?_) fun h1 => ?_
  · have hi := lt_of_dec h1
    refine And.intro (by omega) (Exists.intro _ (And.intro (get_map hi) ?_))
    refine And.intro (fun h2 => ?_) fun h2 => ?_
    · refine Exists.intro [] (And.intro ?_ rfl)
      have : hasB l x = true := List.any_eq_true.2 ⟨l[i], List.getElem_mem hi, h2⟩
      rw [this]; rfl
    · refine And.intro (by omega) (And.intro (by omega) ?_)
      refine Exists.intro (i + 1) (And.intro (by show l.length - (i + 1) < l.length - i; omega) (And.intro ⟨hi, ?_⟩ (And.intro rfl rfl)))
      rw [List.take_add_one, List.any_append, hI.2]; simpa [hi] using h2
  · have hi : i = l.length := by have := hI.1; have := ge_of_dec h1; omega
    refine Exists.intro [] (And.intro ?_ rfl)
    have : hasB l x = false := by have := hI.2; rw [hi, List.take_length] at this; exact this
    rw [this]; rfl

def holdsB (s : List Int) (l : List Lit) : Bool := l.all fun x => hasB s x.fact != x.neg
def od25 : Od := [(4, [(0, .pure), (1, .pure), (2, .pure), (4, .pure), (5, .pure), (3, .eff), (6, .pure)])]
def kp25 : Kp := [(2, ([0, 7, 8, 9], []))]
theorem f25_spec (n1 n2 : Bool) (s : List Int) (l : List Lit) (out : List Fr) : SpecP Try.prog 25 [.ints n1 s, .lits n2 l] out fun r ro => r = .bool (holdsB s l) ∧ ro = [] := by
  refine spec_body cx_ok kp25 od25 (fn := Try.f25) (by kernel_rfl) rfl (by kernel_rfl) rfl (by unfold FnOK; kernel_rfl) fun hok => ?_
  have hmx := le_max hok.2.1.1
  refine LoopW.mk Nat (fun i => i ≤ l.length ∧ (l.take i).all (fun x => hasB s x.fact != x.neg) = true) (fun i => [(0, .ints n1 s), (7, .lits n2 l), (8, .int (l.map tLit).length), (9, .int i)]) (fun _ => ⟨out, []⟩) (fun i => l.length - i) 0 ⟨Nat.zero_le _, rfl⟩ ⟨rfl, rfl⟩ fun i hI => ?_
  refine And.intro (fun h1 => ?_) fun h1 => ?_
  · have hi := lt_of_dec h1
    refine And.intro (by omega) (Exists.intro _ (And.intro (get_map hi) ?_))
    refine And.intro (fun h2 => ?_) fun h2 => ?_
    · refine SpecP.mono (f26_spec n1 s l[i].fact []) ?_
      rintro r ro ⟨rfl, rfl⟩
      refine And.intro ⟨rfl, rfl, rfl⟩ (And.intro (fun h3 => ?_) fun h3 => ?_)
      · refine And.intro (fun _ => ?_) fun h => Bool.noConfusion h
        exact Exists.intro [] (ret_bool (all_false hi (by simp [h2, h3])) rfl)
      · refine And.intro (fun h => Bool.noConfusion h) fun _ => ?_
        refine And.intro (by omega) (And.intro (by omega) ?_)
        exact Exists.intro (i + 1) (And.intro (by show l.length - (i + 1) < l.length - i; omega) (And.intro ⟨hi, all_step hi hI.2 (by simp [h2, h3])⟩ (And.intro rfl rfl)))
    · refine SpecP.mono (f26_spec n1 s l[i].fact []) ?_
      rintro r ro ⟨rfl, rfl⟩
      refine And.intro ⟨rfl, rfl, rfl⟩ (And.intro (fun h3 => ?_) fun h3 => ?_)
      · refine And.intro (fun h => Bool.noConfusion h) fun _ => ?_
        refine And.intro (by omega) (And.intro (by omega) ?_)
        exact Exists.intro (i + 1) (And.intro (by show l.length - (i + 1) < l.length - i; omega) (And.intro ⟨hi, all_step hi hI.2 (by simp [h2, h3])⟩ (And.intro rfl rfl)))
      · refine And.intro (fun _ => ?_) fun h => Bool.noConfusion h
        exact Exists.intro [] (ret_bool (all_false hi (by simp [h2, h3])) rfl)
  · have hi : i = l.length := by have := hI.1; have := ge_of_dec h1; omega
    refine Exists.intro [] (And.intro ?_ rfl)
    have : holdsB s l = true := by have := hI.2; rw [hi, List.take_length] at this; exact this
    rw [this]; rfl

end Go.Fw

/- What the program's functions do, part 2: codes of literals; lists that rise. -/
namespace Go.Fw
open Go Go.Proofs
set_option maxRecDepth 10000

def codeI (l : Lit) : Int := if l.neg then 2 * l.fact + 1 else 2 * l.fact
def litI (n : Int) : Lit := ⟨n.tdiv 2, n.tmod 2 == 1⟩
def big (n : Int) : Prop := -4611686018427387000 ≤ n ∧ n ≤ 4611686018427387000

theorem f63_spec (l : Lit) (hb : big l.fact) (out : List Fr) : SpecP Try.prog 63 [.lit l] out fun r ro => r = .int (codeI l) ∧ ro = [] := by
  refine spec_body cx_ok [] [] (fn := Try.f63) (by kernel_rfl) rfl (by kernel_rfl) rfl (by unfold FnOK; kernel_rfl) fun hok => ?_
  unfold big at hb
  refine And.intro (fun h => ?_) fun h => ?_
  · refine And.intro (by omega) (And.intro (by omega) (And.intro (by omega) (And.intro (by omega) ?_)))
    exact Exists.intro [] (And.intro (show LV.t (.v (.int .i64 (2 * l.fact + 1))) = .int (codeI l) by simp [codeI, h, LV.int]) rfl)
  · refine And.intro (by omega) (And.intro (by omega) ?_)
    exact Exists.intro [] (And.intro (show LV.t (.v (.int .i64 (2 * l.fact))) = .int (codeI l) by simp [codeI, h, LV.int]) rfl)

theorem f68_spec (l : Lit) (hb : big l.fact) (out : List Fr) : SpecP Try.prog 68 [.lit l] out fun r ro => r = .int (codeI l) ∧ ro = [] := by
  refine spec_body cx_ok [] [] (fn := Try.f68) (by kernel_rfl) rfl (by kernel_rfl) rfl (by unfold FnOK; kernel_rfl) fun hok => ?_
  unfold big at hb
  refine And.intro (fun h => ?_) fun h => ?_
  · refine And.intro (by omega) (And.intro (by omega) (And.intro (by omega) (And.intro (by omega) ?_)))
    exact Exists.intro [] (And.intro (show LV.t (.v (.int .i64 (2 * l.fact + 1))) = .int (codeI l) by simp [codeI, h, LV.int]) rfl)
  · refine And.intro (by omega) (And.intro (by omega) ?_)
    exact Exists.intro [] (And.intro (show LV.t (.v (.int .i64 (2 * l.fact))) = .int (codeI l) by simp [codeI, h, LV.int]) rfl)

theorem f55_spec (n : Int) (h0 : 0 ≤ n) (hb : big n) (out : List Fr) : SpecP Try.prog 55 [.int n] out fun r ro => r = .lit (litI n) ∧ ro = [] := by
  refine spec_body cx_ok [] [] (fn := Try.f55) (by kernel_rfl) rfl (by kernel_rfl) rfl (by unfold FnOK; kernel_rfl) fun hok => ?_
  unfold big at hb
  have e : n.tdiv 2 = n / 2 := Int.tdiv_eq_ediv_of_nonneg h0
  refine And.intro (by decide) (And.intro (by rw [e]; omega) (And.intro (by rw [e]; omega) (And.intro (by decide) (And.intro (fun h => ?_) fun h => ?_))))
  · exact Exists.intro [] (And.intro (show LV.agg [.t (.v (.int .i64 (n.tdiv 2))), .t (.v (.bool true))] = .lit (litI n) by simp only [litI, h]) rfl)
  · exact Exists.intro [] (And.intro (show LV.agg [.t (.v (.int .i64 (n.tdiv 2))), .t (.v (.bool false))] = .lit (litI n) by simp only [litI, h]) rfl)

def od18 : Od := [(6, [(0, .pure), (1, .pure), (2, .pure), (3, .pure), (4, .pure), (5, .pure), (6, .pure), (7, .pure), (8, .pure)])]
def kp18 : Kp := [(4, ([0, 1, 12, 13], []))]
theorem f18_spec (n1 n2 : Bool) (l m : List Lit) (out : List Fr) : SpecP Try.prog 18 [.lits n1 l, .lits n2 m] out fun r ro => r = .bool (decide (l = m)) ∧ ro = [] := by
  refine spec_body cx_ok kp18 od18 (fn := Try.f18) (by kernel_rfl) rfl (by kernel_rfl) rfl (by unfold FnOK; kernel_rfl) fun hok => ?_
  refine And.intro (fun h => ?_) fun h => ?_
  · have : l ≠ m := by rintro rfl; simp at h
    exact Exists.intro [] (ret_bool (by simp [this]) rfl)
  · have hlen : l.length = m.length := by simp at h; omega
    have hmx := le_max hok.1.1
    refine LoopW.mk Nat (fun i => i ≤ l.length ∧ l.take i = m.take i) (fun i => [(0, .lits n1 l), (1, .lits n2 m), (12, .int (l.map tLit).length), (13, .int i)]) (fun _ => ⟨out, []⟩) (fun i => l.length - i) 0 ⟨Nat.zero_le _, rfl⟩ ⟨rfl, rfl⟩ fun i hI => ?_
    refine And.intro (fun h1 => ?_) fun h1 => ?_
    · have hi := lt_of_dec h1
      have hi2 : i < m.length := by omega
      refine And.intro (by omega) (Exists.intro _ (And.intro (get_map hi) ?_))
      refine And.intro (by omega) (Exists.intro _ (And.intro (get_map hi2) ?_))
      refine And.intro (fun h2 => ?_) fun h2 => ?_
      · have : l ≠ m := by rintro rfl; simp at h2
        exact Exists.intro [] (ret_bool (by simp [this]) rfl)
      · have h3 : l[i] = m[i] := by
          have h4 : l[i].fact = m[i].fact ∧ l[i].neg = m[i].neg := by simpa using h2
          cases hl : l[i]; cases hm : m[i]; simp [hl, hm] at h4; simp [h4]
        refine And.intro (by omega) (And.intro (by omega) ?_)
        refine Exists.intro (i + 1) (And.intro (by show l.length - (i + 1) < l.length - i; omega) (And.intro ⟨hi, ?_⟩ (And.intro rfl rfl)))
        rw [List.take_add_one, List.take_add_one, hI.2]; simp [hi, hi2, h3]
    · have hi : i = l.length := by have := hI.1; have := ge_of_dec h1; omega
      have : l = m := by have := hI.2; rw [hi, List.take_length, hlen, List.take_length] at this; exact this
      exact Exists.intro [] (ret_bool (by simp [this]) rfl)

/-! ### Rising lists -/
def at0 (l : List Int) (i : Nat) : Int := l.getD i 0
def chkI (l : List Int) (n : Int) (i : Nat) : Bool := decide (0 ≤ at0 l i) && decide (at0 l i < n) && (i == 0 || decide (at0 l (i - 1) < at0 l i))
def risingB (l : List Int) (n : Int) : Bool := (List.range l.length).all (chkI l n)
theorem range_step {p : Nat → Bool} {i : Nat} (h : (List.range i).all p = true) (h2 : p i = true) : (List.range (i + 1)).all p = true := by
  rw [List.range_succ, List.all_append, h]; simp [h2]
theorem range_false {p : Nat → Bool} {i n : Nat} (hi : i < n) (h : p i = false) : (List.range n).all p = false := by
  cases hh : (List.range n).all p with
  | false => rfl
  | true => rw [List.all_eq_true.1 hh i (List.mem_range.2 hi)] at h; cases h
theorem at0_eq {l : List Int} {i : Nat} (h : i < l.length) : at0 l i = l[i] := by simp [at0, h]
theorem get_pred {α β : Type} {l : List α} {f : α → β} {i : Nat} (h : i < l.length) (h0 : 0 < i) : (l.map f)[((i : Int) - 1).toNat]? = some (f (l[i - 1]'(by omega))) := by
  have : ((i : Int) - 1).toNat = i - 1 := by omega
  rw [this]; simp [show i - 1 < l.length by omega]

def kp73 : Kp := [(2, ([0, 1, 7, 8, 9], []))]
theorem f73_spec (n1 : Bool) (l : List Int) (n : Int) (out : List Fr) : SpecP Try.prog 73 [.ints n1 l, .int n] out fun r ro => r = .bool (risingB l n) ∧ ro = [] := by
  refine spec_body cx_ok kp73 [] (fn := Try.f73) (by kernel_rfl) rfl (by kernel_rfl) rfl (by unfold FnOK; kernel_rfl) fun hok => ?_
  have hmx := le_max hok.1.1
  refine LoopW.mk Nat (fun i => i ≤ l.length ∧ (List.range i).all (chkI l n) = true) (fun i => [(0, .ints n1 l), (1, .int n), (7, .ints n1 l), (8, .int (l.map tI).length), (9, .int i)]) (fun _ => ⟨out, []⟩) (fun i => l.length - i) 0 ⟨Nat.zero_le _, rfl⟩ ⟨rfl, rfl⟩ fun i hI => ?_
  refine And.intro (fun h1 => ?_) fun h1 => ?_
  · have hi := lt_of_dec h1
    have ha := at0_eq hi
    refine And.intro (by omega) (Exists.intro _ (And.intro (get_map hi) ?_))
    refine And.intro (fun h2 => ?_) fun h2 => ?_
    · exact Exists.intro [] (ret_bool (range_false hi (by simp [chkI, ha]; simp at h2; omega)) rfl)
    · refine And.intro (fun h3 => ?_) fun h3 => ?_
      · exact Exists.intro [] (ret_bool (range_false hi (by simp [chkI, ha]; simp at h2 h3; omega)) rfl)
      · refine And.intro (fun h4 => ?_) fun h4 => ?_
        · have h0 : 0 < i := by simp at h4; omega
          have hp := at0_eq (l := l) (i := i - 1) (by omega)
          refine And.intro (by omega) (And.intro (by omega) (And.intro (by omega) (Exists.intro _ (And.intro (get_pred hi h0) ?_))))
          refine And.intro (fun h5 => ?_) fun h5 => ?_
          · exact Exists.intro [] (ret_bool (range_false hi (by simp [chkI, ha, hp]; simp at h2 h3 h5; omega)) rfl)
          · refine And.intro (by omega) (And.intro (by omega) ?_)
            exact Exists.intro (i + 1) (And.intro (by show l.length - (i + 1) < l.length - i; omega) (And.intro ⟨hi, range_step hI.2 (by simp [chkI, ha, hp]; simp at h2 h3 h5; omega)⟩ (And.intro rfl rfl)))
        · have h0 : i = 0 := by simp at h4; omega
          refine And.intro (by omega) (And.intro (by omega) ?_)
          exact Exists.intro (i + 1) (And.intro (by show l.length - (i + 1) < l.length - i; omega) (And.intro ⟨hi, range_step hI.2 (by simp [chkI, ha]; simp at h2 h3; omega)⟩ (And.intro rfl rfl)))
  · have hi : i = l.length := by have := hI.1; have := ge_of_dec h1; omega
    exact Exists.intro [] (ret_bool (by have := hI.2; rw [hi] at this; exact this) rfl)

end Go.Fw

/- What the program's functions do, part 3: names. -/
namespace Go.Fw
open Go Go.Proofs
set_option maxRecDepth 10000

abbrev LV.str (s : ByteArray) : LV := .t (.v (.string s))
abbrev LV.byte (c : Int) : LV := .t (.v (.int .u8 c))
def byAt (s : ByteArray) (i : Nat) : Int := ((s.data[i]?.getD 0).toNat : Int)
theorem byAt_get {s : ByteArray} {i : Nat} (h : i < s.size) : s.data[((i : Int)).toNat]? = some (s.data[i]?.getD 0) := by
  have : i < s.data.size := h
  simp only [Int.toNat_natCast]
  rw [Array.getElem?_eq_getElem this]; rfl

def letterB (c : Int) : Bool := (decide (97 ≤ c) && decide (c ≤ 122)) || (decide (65 ≤ c) && decide (c ≤ 90))
def digitB (c : Int) : Bool := decide (48 ≤ c) && decide (c ≤ 57)
def withinB (s : ByteArray) (c : Int) : Bool := (List.range s.size).any fun i => byAt s i == c
def punct : ByteArray := ⟨#[45, 95, 40, 41, 44]⟩
def okB (c : Int) : Bool := letterB c || digitB c || withinB punct c
def nameB (s : ByteArray) : Bool := decide (1 ≤ s.size) && decide (s.size ≤ 40) && letterB (byAt s 0) && (List.range s.size).all fun i => okB (byAt s i)

theorem f110_spec (c : Int) (out : List Fr) : SpecP Try.prog 110 [.byte c] out fun r ro => r = .bool (letterB c) ∧ ro = [] := by
  refine spec_body cx_ok [] [] (fn := Try.f110) (by kernel_rfl) rfl (by kernel_rfl) rfl (by unfold FnOK; kernel_rfl) fun hok => ?_
  refine And.intro (fun h1 => ?_) fun h1 => ?_
  · refine And.intro (fun h2 => ?_) fun h2 => ?_
    · exact Exists.intro [] (ret_bool (by simp [letterB]; simp at h1 h2; omega) rfl)
    · refine And.intro (fun h3 => ?_) fun h3 => ?_
      · refine And.intro (fun h4 => ?_) fun h4 => ?_
        · exact Exists.intro [] (ret_bool (by simp [letterB]; simp at h1 h2 h3 h4; omega) rfl)
        · exact Exists.intro [] (ret_bool (by simp [letterB]; simp at h1 h2 h3 h4; omega) rfl)
      · exact Exists.intro [] (ret_bool (by simp [letterB]; simp at h1 h2 h3; omega) rfl)
  · refine And.intro (fun h3 => ?_) fun h3 => ?_
    · refine And.intro (fun h4 => ?_) fun h4 => ?_
      · exact Exists.intro [] (ret_bool (by simp [letterB]; simp at h1 h3 h4; omega) rfl)
      · exact Exists.intro [] (ret_bool (by simp [letterB]; simp at h1 h3 h4; omega) rfl)
    · exact Exists.intro [] (ret_bool (by simp [letterB]; simp at h1 h3; omega) rfl)

theorem f111_spec (c : Int) (out : List Fr) : SpecP Try.prog 111 [.byte c] out fun r ro => r = .bool (digitB c) ∧ ro = [] := by
  refine spec_body cx_ok [] [] (fn := Try.f111) (by kernel_rfl) rfl (by kernel_rfl) rfl (by unfold FnOK; kernel_rfl) fun hok => ?_
  refine And.intro (fun h1 => ?_) fun h1 => ?_
  · refine And.intro (fun h2 => ?_) fun h2 => ?_
    · exact Exists.intro [] (ret_bool (by simp [digitB]; simp at h1 h2; omega) rfl)
    · exact Exists.intro [] (ret_bool (by simp [digitB]; simp at h1 h2; omega) rfl)
  · exact Exists.intro [] (ret_bool (by simp [digitB]; simp at h1; omega) rfl)

theorem rany_true {p : Nat → Bool} {i n : Nat} (hi : i < n) (h : p i = true) : (List.range n).any p = true := List.any_eq_true.2 ⟨i, List.mem_range.2 hi, h⟩
theorem rany_step {p : Nat → Bool} {i : Nat} (h : (List.range i).any p = false) (h2 : p i = false) : (List.range (i + 1)).any p = false := by
  rw [List.range_succ, List.any_append, h]; simp [h2]

def kp112 : Kp := [(2, ([0, 1, 7, 8], []))]
theorem f112_spec (s : ByteArray) (c : Int) (hs : s.size ≤ 1000) (out : List Fr) : SpecP Try.prog 112 [.str s, .byte c] out fun r ro => r = .bool (withinB s c) ∧ ro = [] := by
  refine spec_body cx_ok kp112 [] (fn := Try.f112) (by kernel_rfl) rfl (by kernel_rfl) rfl (by unfold FnOK; kernel_rfl) fun hok => ?_
  refine LoopW.mk Nat (fun i => i ≤ s.size ∧ (List.range i).any (fun i => byAt s i == c) = false) (fun i => [(0, .str s), (1, .byte c), (7, .int s.size), (8, .int i)]) (fun _ => ⟨out, []⟩) (fun i => s.size - i) 0 ⟨Nat.zero_le _, rfl⟩ ⟨rfl, rfl⟩ fun i hI => ?_
  refine And.intro (fun h1 => ?_) fun h1 => ?_
  · have hi : i < s.size := by simpa using h1
    refine And.intro (by omega) (Exists.intro _ (And.intro (byAt_get hi) ?_))
    refine And.intro (fun h2 => ?_) fun h2 => ?_
    · exact Exists.intro [] (ret_bool (rany_true hi h2) rfl)
    · refine And.intro (by omega) (And.intro (by omega) ?_)
      exact Exists.intro (i + 1) (And.intro (by show s.size - (i + 1) < s.size - i; omega) (And.intro ⟨hi, rany_step hI.2 h2⟩ (And.intro rfl rfl)))
  · have hi : i = s.size := by have := hI.1; simp at h1; omega
    exact Exists.intro [] (ret_bool (by have := hI.2; rw [hi] at this; exact this) rfl)

def kp101 : Kp := [(4, ([0, 19, 20], []))]
theorem f101_spec (s : ByteArray) (out : List Fr) : SpecP Try.prog 101 [.str s] out fun r ro => r = .bool (nameB s) ∧ ro = [] := by
  refine spec_body cx_ok kp101 [] (fn := Try.f101) (by kernel_rfl) rfl (by kernel_rfl) rfl (by unfold FnOK; kernel_rfl) fun hok => ?_
  refine And.intro (fun h1 => ?_) fun h1 => ?_
  · exact Exists.intro [] (ret_bool (by simp [nameB]; simp at h1; omega) rfl)
  refine And.intro (fun h2 => ?_) fun h2 => ?_
  · exact Exists.intro [] (ret_bool (by simp [nameB]; simp at h2; omega) rfl)
  have hs : 1 ≤ s.size ∧ s.size ≤ 40 := by simp at h1 h2; omega
  refine And.intro (by decide) (Exists.intro _ (And.intro (byAt_get (i := 0) hs.1) ?_))
  refine SpecP.mono (f110_spec (byAt s 0) []) ?_
  rintro r ro ⟨rfl, rfl⟩
  refine And.intro (fun h3 => ?_) fun h3 => ?_
  · refine LoopW.mk Nat (fun i => i ≤ s.size ∧ (List.range i).all (fun i => okB (byAt s i)) = true) (fun i => [(0, .str s), (19, .int s.size), (20, .int i)]) (fun _ => ⟨out, []⟩) (fun i => s.size - i) 0 ⟨Nat.zero_le _, rfl⟩ ⟨rfl, rfl⟩ fun i hI => ?_
    refine And.intro (fun h4 => ?_) fun h4 => ?_
    · have hi : i < s.size := by simpa using h4
      refine And.intro (by omega) (Exists.intro _ (And.intro (byAt_get hi) ?_))
      refine SpecP.mono (f110_spec (byAt s i) []) ?_
      rintro r ro ⟨rfl, rfl⟩
      refine And.intro (fun h5 => ?_) fun h5 => ?_
      · refine And.intro (by omega) (And.intro (by omega) ?_)
        exact Exists.intro (i + 1) (And.intro (by show s.size - (i + 1) < s.size - i; omega) (And.intro ⟨hi, range_step hI.2 (by simp [okB, h5])⟩ (And.intro rfl rfl)))
      · refine And.intro (by omega) (Exists.intro _ (And.intro (byAt_get hi) ?_))
        refine SpecP.mono (f111_spec (byAt s i) []) ?_
        rintro r ro ⟨rfl, rfl⟩
        refine And.intro (fun h6 => ?_) fun h6 => ?_
        · refine And.intro (by omega) (And.intro (by omega) ?_)
          exact Exists.intro (i + 1) (And.intro (by show s.size - (i + 1) < s.size - i; omega) (And.intro ⟨hi, range_step hI.2 (by simp [okB, h6])⟩ (And.intro rfl rfl)))
        · refine And.intro (by omega) (Exists.intro _ (And.intro (byAt_get hi) ?_))
          refine SpecP.mono (f112_spec punct (byAt s i) (by decide) []) ?_
          rintro r ro ⟨rfl, rfl⟩
          refine And.intro (fun h7 => ?_) fun h7 => ?_
          · refine And.intro (by omega) (And.intro (by omega) ?_)
            exact Exists.intro (i + 1) (And.intro (by show s.size - (i + 1) < s.size - i; omega) (And.intro ⟨hi, range_step hI.2 (by simp [okB, h7])⟩ (And.intro rfl rfl)))
          · exact Exists.intro [] (ret_bool (by rw [nameB, range_false hi (by simp [okB, h5, h6, h7])]; simp) rfl)
    · have hi : i = s.size := by have := hI.1; simp at h4; omega
      have h5 := hI.2
      rw [hi] at h5
      exact Exists.intro [] (ret_bool (by rw [nameB, h5, h3]; simp; omega) rfl)
  · exact Exists.intro [] (ret_bool (by simp [nameB, h3]) rfl)

/-! ### Sets of names -/
def kvS (l : List ByteArray) : List (Value × T) := l.map fun s => (.string s, .v (.bool true))
theorem look_kvS (s : ByteArray) : ∀ l : List ByteArray, lookKV (.string s) (.v (.bool false)) (kvS l) = .v (.bool (l.any (s == ·)))
  | [] => rfl
  | x :: r => by
    have ih := look_kvS s r
    simp only [kvS, List.map_cons, lookKV, List.any_cons] at ih ⊢
    by_cases h : (s == x) = true
    · rw [if_pos (show sameK (.string s) (.string x) = true from h), h]; rfl
    · rw [if_neg (show ¬ sameK (.string s) (.string x) = true from h), ih]; simp [h]
theorem upd_kvS (s : ByteArray) : ∀ l : List ByteArray, l.any (s == ·) = false → updKV (.string s) (.v (.bool true)) (kvS l) = kvS (l ++ [s])
  | [], _ => rfl
  | x :: r, h => by
    simp only [List.any_cons, Bool.or_eq_false_iff] at h
    have ih := upd_kvS s r h.2
    simp only [kvS, List.map_cons, updKV, List.cons_append] at ih ⊢
    rw [if_neg (show ¬ sameK (.string s) (.string x) = true by show ¬ (s == x) = true; rw [h.1]; simp), ih]

def atS (l : List ByteArray) (i : Nat) : ByteArray := l[i]?.getD ⟨#[]⟩
def chkS (l : List ByteArray) (i : Nat) : Bool := nameB (atS l i) && !((l.take i).any (atS l i == ·))
def namesB (l : List ByteArray) : Bool := (List.range l.length).all (chkS l)
def kp91 : Kp := [(3, ([3, 7, 8, 9], [48]))]
theorem f91_spec (n1 : Bool) (l : List ByteArray) (out : List Fr) : SpecP Try.prog 91 [.t (.sl n1 1 (l.map tS))] out fun r ro => r = .bool (namesB l) ∧ ro = [] := by
  refine spec_body cx_ok kp91 [] (fn := Try.f91) (by kernel_rfl) rfl (by kernel_rfl) rfl (by unfold FnOK; kernel_rfl) fun hok => ?_
  have hmx := le_max hok.1.1
  refine LoopW.mk Nat (fun i => i ≤ l.length ∧ (List.range i).all (chkS l) = true) (fun i => [(3, .mpr (.cur 48)), (7, .t (.sl n1 1 (l.map tS))), (8, .int (l.map tS).length), (9, .int i)]) (fun i => ⟨out, [(48, .mp .str (kvS (l.take i)))]⟩) (fun i => l.length - i) 0 ⟨Nat.zero_le _, rfl⟩ ⟨rfl, rfl⟩ fun i hI => ?_
  refine And.intro (fun h1 => ?_) fun h1 => ?_
  · have hi := lt_of_dec h1
    have ha : atS l i = l[i] := by simp [atS, hi]
    refine And.intro (by omega) (Exists.intro _ (And.intro (get_map hi) ?_))
    refine SpecP.mono (f101_spec l[i] []) ?_
    rintro r ro ⟨rfl, rfl⟩
    refine And.intro (fun h2 => ?_) fun h2 => ?_
    · refine Exists.intro _ (And.intro (look_kvS _ _) ?_)
      refine And.intro (fun h3 => ?_) fun h3 => ?_
      · exact Exists.intro [] (ret_bool (range_false hi (by simp only [chkS, ha, h3]; simp)) rfl)
      · refine And.intro (by omega) (And.intro (by omega) ?_)
        refine Exists.intro (i + 1) (And.intro (by show l.length - (i + 1) < l.length - i; omega) (And.intro ⟨hi, range_step hI.2 (by simp only [chkS, ha, h2, h3]; simp)⟩ (And.intro rfl ?_)))
        have e : updKV (.string l[i]) (.v (.bool true)) (kvS (l.take i)) = kvS (l.take (i + 1)) := by
          rw [upd_kvS _ _ h3, List.take_add_one]; simp [hi]
        show (⟨out, [(48, .mp .str (updKV (.string l[i]) (.v (.bool true)) (kvS (l.take i))))]⟩ : St) = _
        rw [e]
    · exact Exists.intro [] (ret_bool (range_false hi (by simp only [chkS, ha, h2]; simp)) rfl)
  · have hi : i = l.length := by have := hI.1; have := ge_of_dec h1; omega
    exact Exists.intro [] (ret_bool (by have := hI.2; rw [hi] at this; exact this) rfl)

end Go.Fw

/- What the program's functions do, part 4: conditions; valid tasks. -/
namespace Go.Fw
open Go Go.Proofs
set_option maxRecDepth 10000

def condB (l : List Lit) (n : Int) : Bool := risingB (l.map (·.fact)) n
def effB (n : Int) (e : Eff) : Bool := condB e.when_ n && decide (0 ≤ e.lit.fact) && decide (e.lit.fact < n)
def actB (n : Int) (a : Actn) : Bool := decide (0 ≤ a.cost) && decide (a.cost ≤ 100000) && condB a.pre n && decide (a.effs.length ≤ 100) && a.effs.all (effB n)
def isB (t : Task) : Bool := decide (t.facts.length ≤ 200) && namesB t.facts && risingB t.init t.facts.length && condB t.goal t.facts.length && decide (t.acts.length ≤ 1000) &&
  t.acts.all (actB t.facts.length) && namesB (t.acts.map (·.name))

theorem atF_eq {l : List Lit} {i : Nat} (h : i < l.length) : at0 (l.map (·.fact)) i = l[i].fact := by simp [at0, h]

def od52 : Od := [(4, [(0, .pure), (1, .pure), (2, .pure), (3, .pure), (4, .pure), (5, .pure), (6, .pure), (7, .pure), (8, .pure), (9, .pure), (10, .pure), (11, .pure), (12, .pure), (13, .pure), (14, .pure), (15, .pure), (16, .pure), (17, .pure), (18, .pure), (19, .pure), (20, .pure), (21, .pure), (22, .pure), (23, .pure)])]
def kp52 : Kp := [(2, ([0, 1, 7, 8, 9], []))]
theorem f52_spec (n1 : Bool) (l : List Lit) (n : Int) (out : List Fr) : SpecP Try.prog 52 [.lits n1 l, .int n] out fun r ro => r = .bool (condB l n) ∧ ro = [] := by
  refine spec_body cx_ok kp52 od52 (fn := Try.f52) (by kernel_rfl) rfl (by kernel_rfl) rfl (by unfold FnOK; kernel_rfl) fun hok => ?_
  have hmx := le_max hok.1.1
  have hlen : (l.map (·.fact)).length = l.length := List.length_map ..
  refine LoopW.mk Nat (fun i => i ≤ l.length ∧ (List.range i).all (chkI (l.map (·.fact)) n) = true) (fun i => [(0, .lits n1 l), (1, .int n), (7, .lits n1 l), (8, .int (l.map tLit).length), (9, .int i)]) (fun _ => ⟨out, []⟩) (fun i => l.length - i) 0 ⟨Nat.zero_le _, rfl⟩ ⟨rfl, rfl⟩ fun i hI => ?_
  refine And.intro (fun h1 => ?_) fun h1 => ?_
  · have hi := lt_of_dec h1
    have hi' : i < (l.map (·.fact)).length := by rw [hlen]; exact hi
    have ha := atF_eq hi
    refine And.intro (by omega) (Exists.intro _ (And.intro (get_map hi) ?_))
    refine And.intro (fun h2 => ?_) fun h2 => ?_
    · exact Exists.intro [] (ret_bool (range_false hi' (by simp [chkI, ha]; simp at h2; omega)) rfl)
    · refine And.intro (fun h3 => ?_) fun h3 => ?_
      · exact Exists.intro [] (ret_bool (range_false hi' (by simp [chkI, ha]; simp at h2 h3; omega)) rfl)
      · refine And.intro (fun h4 => ?_) fun h4 => ?_
        · have h0 : 0 < i := by simp at h4; omega
          have hp := atF_eq (l := l) (i := i - 1) (by omega)
          refine And.intro (by omega) (And.intro (by omega) (And.intro (by omega) (Exists.intro _ (And.intro (get_pred hi h0) ?_))))
          refine And.intro (fun h5 => ?_) fun h5 => ?_
          · exact Exists.intro [] (ret_bool (range_false hi' (by simp [chkI, ha, hp]; simp at h2 h3 h5; omega)) rfl)
          · refine And.intro (by omega) (And.intro (by omega) ?_)
            exact Exists.intro (i + 1) (And.intro (by show l.length - (i + 1) < l.length - i; omega) (And.intro ⟨hi, range_step hI.2 (by simp [chkI, ha, hp]; simp at h2 h3 h5; omega)⟩ (And.intro rfl rfl)))
        · have h0 : i = 0 := by simp at h4; omega
          refine And.intro (by omega) (And.intro (by omega) ?_)
          exact Exists.intro (i + 1) (And.intro (by show l.length - (i + 1) < l.length - i; omega) (And.intro ⟨hi, range_step hI.2 (by simp [chkI, ha]; simp at h2 h3; omega)⟩ (And.intro rfl rfl)))
  · have hi : i = l.length := by have := hI.1; have := ge_of_dec h1; omega
    exact Exists.intro [] (ret_bool (by have := hI.2; rw [hi, ← hlen] at this; exact this) rfl)

end Go.Fw

/- What the program's functions do, part 5: valid tasks. -/
namespace Go.Fw
open Go Go.Proofs
set_option maxRecDepth 10000

/-! ### Lists that are gathered -/
def accV (s sz : Nat) (es : List (List T)) : LV := match es with
  | [] => .t (.sl true 0 [])
  | x :: r => .osl (.cur s) sz 0 (x :: r).length
def accO (s e sz : Nat) (es : List (List T)) : Fr := match es with
  | [] => []
  | x :: r => [(s, .row e sz (x :: r))]

def kp61 : Kp := [(6, ([3, 4, 41, 42, 43], [784])), (11, ([3, 4, 6, 41, 42, 43, 69, 70, 71], [48, 784]))]
theorem f61_spec (t : Task) (out : List Fr) : SpecP Try.prog 61 [.task t] out fun r ro => r = .bool (isB t) ∧ ro = [] := by
  refine spec_body cx_ok kp61 [] (fn := Try.f61) (by kernel_rfl) rfl (by kernel_rfl) rfl (by unfold FnOK; kernel_rfl) fun hok => ?_
  have hfm := le_max hok.1.1.1
  have ham := le_max hok.1.2.2.2.1.1
  refine And.intro (fun h1 => ?_) fun h1 => ?_
  · exact Exists.intro [] (ret_bool (by simp at h1; simp [isB]; omega) rfl)
  refine SpecP.mono (f91_spec t.fn t.facts []) ?_
  rintro r ro ⟨rfl, rfl⟩
  refine And.intro (fun h2 => ?_) fun h2 => ?_
  rotate_left
  · exact Exists.intro [] (ret_bool (by simp [isB, h2]) rfl)
  refine SpecP.mono (f73_spec t.ni t.init (t.facts.map tS).length []) ?_
  rintro r ro ⟨rfl, rfl⟩
  rw [List.length_map]
  refine And.intro (fun h3 => ?_) fun h3 => ?_
  rotate_left
  · exact Exists.intro [] (ret_bool (by simp [isB, h3]) rfl)
  refine SpecP.mono (f52_spec t.gn t.goal t.facts.length []) ?_
  rintro r ro ⟨rfl, rfl⟩
  refine And.intro (fun h4 => ?_) fun h4 => ?_
  rotate_left
  · exact Exists.intro [] (ret_bool (by simp [isB, h4]) rfl)
  refine And.intro (fun h5 => ?_) fun h5 => ?_
  · exact Exists.intro [] (ret_bool (by simp at h5; simp [isB]; omega) rfl)
  have hl1 : t.facts.length ≤ 200 := by simp at h1; omega
  have hl2 : t.acts.length ≤ 1000 := by simp at h5; omega
  refine LoopW.mk (Nat × List ByteArray) (fun p => p.1 ≤ t.acts.length ∧ p.2 = (t.acts.take p.1).map (·.name) ∧ (t.acts.take p.1).all (actB t.facts.length) = true)
    (fun p => [(3, .int t.facts.length), (4, accV 784 1 (p.2.map tS)), (41, .t (.sl t.an 4 (t.acts.map tAct))), (42, .int (t.acts.map tAct).length), (43, .int p.1)])
    (fun p => ⟨out, accO 784 9 1 (p.2.map tS)⟩) (fun p => t.acts.length - p.1) (0, []) ⟨Nat.zero_le _, rfl, rfl⟩ ⟨rfl, rfl⟩ ?_
  rintro ⟨i, nm⟩ ⟨hi0, hnm, hall⟩
  simp only at hi0 hnm hall
  cases nm with
  | nil =>
    refine And.intro (fun h6 => ?_) fun h6 => ?_
    · have hi : i < t.acts.length := lt_of_dec h6
      have hact : ∀ (h : actB t.facts.length t.acts[i] = false), isB t = false := fun h => by simp [isB, all_false hi h]
      refine And.intro (by omega) (Exists.intro _ (And.intro (get_map hi) ?_))
      refine And.intro (fun h7 => ?_) fun h7 => ?_
      · exact Exists.intro [] (ret_bool (hact (by simp at h7; simp [actB]; omega)) rfl)
      refine And.intro (fun h8 => ?_) fun h8 => ?_
      · exact Exists.intro [] (ret_bool (hact (by simp at h8; simp [actB]; omega)) rfl)
      refine SpecP.mono (f52_spec t.acts[i].pn t.acts[i].pre t.facts.length []) ?_
      rintro _ _ ⟨rfl, rfl⟩
      refine And.intro (fun h9 => ?_) fun h9 => ?_
      rotate_left
      · exact Exists.intro [] (ret_bool (hact (by simp [actB, h9])) rfl)
      refine And.intro (fun h10 => ?_) fun h10 => ?_
      · exact Exists.intro [] (ret_bool (hact (by simp at h10; simp [actB]; omega)) rfl)
      have hel : t.acts[i].effs.length ≤ 100 := by simp at h10; omega
      refine LoopW.mk Nat (fun j => j ≤ t.acts[i].effs.length ∧ (t.acts[i].effs.take j).all (effB t.facts.length) = true)
        (fun j => [(3, .int t.facts.length), (4, .t (.sl true 0 [])), (6, .ptr (.cur 48) 0), (41, .t (.sl t.an 4 (t.acts.map tAct))), (42, .int (t.acts.map tAct).length), (43, .int i), (69, .t (.sl t.acts[i].en 3 (t.acts[i].effs.map tEff))), (70, .int (t.acts[i].effs.map tEff).length), (71, .int j)])
        (fun j => ⟨out, (48, .box [.t (.v (.string t.acts[i].name)), .t (.v (.int .i64 t.acts[i].cost)), .t (.sl t.acts[i].pn 2 (t.acts[i].pre.map tLit)), .t (.sl t.acts[i].en 3 (t.acts[i].effs.map tEff))]) :: []⟩) (fun j => t.acts[i].effs.length - j) 0 ⟨Nat.zero_le _, rfl⟩ ⟨rfl, rfl⟩ fun j hJ => ?_
      refine And.intro (fun k1 => ?_) fun k1 => ?_
      · have hj : j < t.acts[i].effs.length := lt_of_dec k1
        have heff : ∀ (h : effB t.facts.length t.acts[i].effs[j] = false), isB t = false := fun h => hact (by simp [actB, all_false hj h])
        refine And.intro (by omega) (Exists.intro _ (And.intro (get_map hj) ?_))
        refine SpecP.mono (f52_spec t.acts[i].effs[j].nil t.acts[i].effs[j].when_ t.facts.length []) ?_
        rintro _ _ ⟨rfl, rfl⟩
        refine And.intro (fun k2 => ?_) fun k2 => ?_
        rotate_left
        · exact Exists.intro [] (ret_bool (heff (by simp [effB, k2])) rfl)
        refine And.intro (fun k3 => ?_) fun k3 => ?_
        · exact Exists.intro [] (ret_bool (heff (by simp at k3; simp [effB]; omega)) rfl)
        refine And.intro (fun k4 => ?_) fun k4 => ?_
        · exact Exists.intro [] (ret_bool (heff (by simp at k4; simp [effB]; omega)) rfl)
        refine And.intro (by omega) (And.intro (by omega) ?_)
        exact Exists.intro (j + 1) (And.intro (by show t.acts[i].effs.length - (j + 1) < t.acts[i].effs.length - j; omega) (And.intro ⟨hj, all_step hj hJ.2 (by simp at k3 k4; simp [effB, k2]; omega)⟩ (And.intro rfl rfl)))
      · have he : t.acts[i].effs.all (effB t.facts.length) = true := all_end (ge_of_dec k1) hJ.2
        have ha : actB t.facts.length t.acts[i] = true := by simp at h7 h8 h10; simp [actB, h9, he]; omega
        refine And.intro (Nat.le_of_ble_eq_true rfl) (And.intro (Nat.le_of_ble_eq_true rfl) (And.intro (Nat.le_of_ble_eq_true rfl) ?_))
        refine And.intro (by omega) (And.intro (by omega) ?_)
        exact Exists.intro (i + 1, [t.acts[i].name]) (And.intro (by show t.acts.length - (i + 1) < t.acts.length - i; omega) (And.intro ⟨hi, by show [t.acts[i].name] = _; rw [List.take_add_one, List.map_append, ← hnm]; simp [hi], all_step hi hall ha⟩ (And.intro rfl rfl)))
    · have hi : i = t.acts.length := by have := ge_of_dec h6; omega
      have hbase : isB t = namesB (t.acts.map (·.name)) := by
        rw [hi, List.take_length] at hall
        simp [isB, h2, h3, h4, hl1, hl2, hall]
      have hnm2 : [] = t.acts.map (·.name) := by rw [hnm, hi, List.take_length]
      refine SpecP.conv1 nil_sz (SpecP.mono (f91_spec true [] []) ?_)
      rintro _ _ ⟨rfl, rfl⟩
      refine And.intro (fun h => ?_) fun h => ?_
      · exact Exists.intro [] (ret_bool (by rw [hbase, ← hnm2]; exact h) rfl)
      · exact Exists.intro [] (ret_bool (by rw [hbase, ← hnm2]; exact h) rfl)
  | cons x r =>
    refine And.intro (fun h6 => ?_) fun h6 => ?_
    · have hi : i < t.acts.length := lt_of_dec h6
      have hact : ∀ (h : actB t.facts.length t.acts[i] = false), isB t = false := fun h => by simp [isB, all_false hi h]
      refine And.intro (by omega) (Exists.intro _ (And.intro (get_map hi) ?_))
      refine And.intro (fun h7 => ?_) fun h7 => ?_
      · exact Exists.intro [] (ret_bool (hact (by simp at h7; simp [actB]; omega)) rfl)
      refine And.intro (fun h8 => ?_) fun h8 => ?_
      · exact Exists.intro [] (ret_bool (hact (by simp at h8; simp [actB]; omega)) rfl)
      refine SpecP.mono (f52_spec t.acts[i].pn t.acts[i].pre t.facts.length []) ?_
      rintro _ _ ⟨rfl, rfl⟩
      refine And.intro (fun h9 => ?_) fun h9 => ?_
      rotate_left
      · exact Exists.intro [] (ret_bool (hact (by simp [actB, h9])) rfl)
      refine And.intro (fun h10 => ?_) fun h10 => ?_
      · exact Exists.intro [] (ret_bool (hact (by simp at h10; simp [actB]; omega)) rfl)
      have hel : t.acts[i].effs.length ≤ 100 := by simp at h10; omega
      refine LoopW.mk Nat (fun j => j ≤ t.acts[i].effs.length ∧ (t.acts[i].effs.take j).all (effB t.facts.length) = true)
        (fun j => [(3, .int t.facts.length), (4, .osl (.cur 784) 1 0 ((x :: r).map tS).length), (6, .ptr (.cur 48) 0), (41, .t (.sl t.an 4 (t.acts.map tAct))), (42, .int (t.acts.map tAct).length), (43, .int i), (69, .t (.sl t.acts[i].en 3 (t.acts[i].effs.map tEff))), (70, .int (t.acts[i].effs.map tEff).length), (71, .int j)])
        (fun j => ⟨out, (48, .box [.t (.v (.string t.acts[i].name)), .t (.v (.int .i64 t.acts[i].cost)), .t (.sl t.acts[i].pn 2 (t.acts[i].pre.map tLit)), .t (.sl t.acts[i].en 3 (t.acts[i].effs.map tEff))]) :: [(784, .row 9 1 ((x :: r).map tS))]⟩) (fun j => t.acts[i].effs.length - j) 0 ⟨Nat.zero_le _, rfl⟩ ⟨rfl, rfl⟩ fun j hJ => ?_
      refine And.intro (fun k1 => ?_) fun k1 => ?_
      · have hj : j < t.acts[i].effs.length := lt_of_dec k1
        have heff : ∀ (h : effB t.facts.length t.acts[i].effs[j] = false), isB t = false := fun h => hact (by simp [actB, all_false hj h])
        refine And.intro (by omega) (Exists.intro _ (And.intro (get_map hj) ?_))
        refine SpecP.mono (f52_spec t.acts[i].effs[j].nil t.acts[i].effs[j].when_ t.facts.length []) ?_
        rintro _ _ ⟨rfl, rfl⟩
        refine And.intro (fun k2 => ?_) fun k2 => ?_
        rotate_left
        · exact Exists.intro [] (ret_bool (heff (by simp [effB, k2])) rfl)
        refine And.intro (fun k3 => ?_) fun k3 => ?_
        · exact Exists.intro [] (ret_bool (heff (by simp at k3; simp [effB]; omega)) rfl)
        refine And.intro (fun k4 => ?_) fun k4 => ?_
        · exact Exists.intro [] (ret_bool (heff (by simp at k4; simp [effB]; omega)) rfl)
        refine And.intro (by omega) (And.intro (by omega) ?_)
        exact Exists.intro (j + 1) (And.intro (by show t.acts[i].effs.length - (j + 1) < t.acts[i].effs.length - j; omega) (And.intro ⟨hj, all_step hj hJ.2 (by simp at k3 k4; simp [effB, k2]; omega)⟩ (And.intro rfl rfl)))
      · have he : t.acts[i].effs.all (effB t.facts.length) = true := all_end (ge_of_dec k1) hJ.2
        have ha : actB t.facts.length t.acts[i] = true := by simp at h7 h8 h10; simp [actB, h9, he]; omega
        have hln : (x :: r).length = i := by rw [hnm]; simp; omega
        have hln2 : ((tS x :: r.map tS) ++ [tS t.acts[i].name]).length = i + 1 := by simp at hln ⊢; omega
        refine And.intro (Nat.le_of_ble_eq_true rfl) (And.intro rfl (And.intro (by show ((tS x :: r.map tS) ++ [tS t.acts[i].name]).length * 16 ≤ _; rw [hln2]; omega) (And.intro (by show ((tS x :: r.map tS) ++ [tS t.acts[i].name]).length ≤ _; rw [hln2]; omega) ?_)))
        refine And.intro (by omega) (And.intro (by omega) ?_)
        have e : (r ++ [t.acts[i].name]).map tS = r.map tS ++ [tS t.acts[i].name] := by simp
        refine Exists.intro (i + 1, x :: (r ++ [t.acts[i].name])) (And.intro (by show t.acts.length - (i + 1) < t.acts.length - i; omega) (And.intro ⟨hi, by show x :: (r ++ [t.acts[i].name]) = _; rw [List.take_add_one, List.map_append, ← hnm]; simp [hi], all_step hi hall ha⟩ ?_))
        simp only [List.map_cons, e]
        exact And.intro rfl rfl
    · have hi : i = t.acts.length := by have := ge_of_dec h6; omega
      have hbase : isB t = namesB (t.acts.map (·.name)) := by
        rw [hi, List.take_length] at hall
        simp [isB, h2, h3, h4, hl1, hl2, hall]
      have hnm2 : x :: r = t.acts.map (·.name) := by rw [hnm, hi, List.take_length]
      refine Exists.intro ((x :: r).map tS) (And.intro (by show _ = List.take _ (List.drop 0 _); rw [List.drop_zero, List.take_of_length_le (Nat.le_refl _)]; rfl) (And.intro (by simp) ?_))
      refine SpecP.mono (f91_spec false (x :: r) _) ?_
      rintro _ _ ⟨rfl, rfl⟩
      refine And.intro trivial (And.intro trivial ?_)
      refine And.intro (fun h => ?_) fun h => ?_
      · exact Exists.intro [] (ret_bool (by rw [hbase, ← hnm2]; exact h) rfl)
      · exact Exists.intro [] (ret_bool (by rw [hbase, ← hnm2]; exact h) rfl)

end Go.Fw

/- What the program's functions do, part 6: states and their bits. -/
namespace Go.Fw
open Go Go.Proofs
set_option maxRecDepth 10000

theorem f62_spec (t : Task) (n1 : Bool) (s : List Int) (out : List Fr) : SpecP Try.prog 62 [.task t, .ints n1 s] out fun r ro => r = .bool (risingB s t.facts.length) ∧ ro = [] := by
  refine spec_body cx_ok [] [] (fn := Try.f62) (by kernel_rfl) rfl (by kernel_rfl) rfl (by unfold FnOK; kernel_rfl) fun hok => ?_
  refine SpecP.mono (f73_spec n1 s (t.facts.map tS).length []) ?_
  rintro _ _ ⟨rfl, rfl⟩
  rw [List.length_map]
  refine And.intro (fun h => ?_) fun h => ?_
  · exact Exists.intro [] (ret_bool h rfl)
  · exact Exists.intro [] (ret_bool h rfl)

def bitsL (n : Nat) (l : List Int) : List Bool := l.foldl (fun b x => b.set x.toNat true) (List.replicate n false)
theorem bitsL_length (n : Nat) (l : List Int) : (bitsL n l).length = n := by
  have : ∀ (l : List Int) (b : List Bool), (l.foldl (fun b x => b.set x.toNat true) b).length = b.length := by
    intro l
    induction l with
    | nil => intro b; rfl
    | cons x r ih => intro b; rw [List.foldl_cons, ih]; simp
  rw [bitsL, this]; simp
theorem bitsL_step {n : Nat} {l : List Int} {i : Nat} (h : i < l.length) : bitsL n (l.take (i + 1)) = (bitsL n (l.take i)).set l[i].toNat true := by
  rw [bitsL, List.take_add_one, List.foldl_append]; simp [h, bitsL]
theorem map_set' {b : List Bool} {i : Nat} {x : Bool} : (b.map tB).set i (tB x) = (b.set i x).map tB := by rw [List.map_set]

def kp69 : Kp := [(3, ([5, 10, 11, 12], [72]))]
theorem f69_spec (n : Nat) (n1 : Bool) (l : List Int) (hn : n ≤ 140737488355328) (hl : ∀ x ∈ l, 0 ≤ x ∧ x < n) (out : List Fr) :
    SpecP Try.prog 69 [.int n, .ints n1 l] out fun r ro => r = .osl (.cur 72) 1 0 n ∧ ro = [(72, .row 4 1 ((bitsL n l).map tB))] := by
  refine spec_body cx_ok kp69 [] (fn := Try.f69) (by kernel_rfl) rfl (by kernel_rfl) rfl (by unfold FnOK; kernel_rfl) fun hok => ?_
  have hmx := le_max hok.2.1.1
  refine And.intro rfl (And.intro (by omega) (And.intro (by show (n : Int) * (1 : Nat) ≤ _; omega) (And.intro (by omega) ?_)))
  refine LoopW.mk Nat (fun i => i ≤ l.length) (fun i => [(5, .osl (.cur 72) 1 0 n), (10, .ints n1 l), (11, .int (l.map tI).length), (12, .int i)]) (fun i => ⟨out, [(72, .row 4 1 ((bitsL n (l.take i)).map tB))]⟩) (fun i => l.length - i) 0 (Nat.zero_le _) ⟨rfl, ?_⟩ fun i hI => ?_
  · show (⟨out, [(72, .row 4 1 (List.replicate n (tB false)))]⟩ : St) = _
    simp [bitsL]
  refine And.intro (fun h1 => ?_) fun h1 => ?_
  · have hi := lt_of_dec h1
    have hx := hl l[i] (List.getElem_mem hi)
    have hb : l[i].toNat < (bitsL n (l.take i)).length := by rw [bitsL_length]; omega
    refine And.intro (by omega) (Exists.intro _ (And.intro (get_map hi) ?_))
    refine And.intro hx.1 (And.intro hx.2 ?_)
    refine Exists.intro (tB (bitsL n (l.take i))[l[i].toNat]) (And.intro (by rw [Nat.zero_add, List.getElem?_map, List.getElem?_eq_getElem hb]; rfl) (And.intro (Nat.le_refl 1) ?_))
    refine And.intro (by omega) (And.intro (by omega) ?_)
    refine Exists.intro (i + 1) (And.intro (by show l.length - (i + 1) < l.length - i; omega) (And.intro hi (And.intro rfl ?_)))
    show (⟨out, [(72, .row 4 1 (((bitsL n (l.take i)).map tB).set (0 + l[i].toNat) (tB true)))]⟩ : St) = _
    rw [Nat.zero_add, map_set', ← bitsL_step hi]
  · have hi : i = l.length := by have := ge_of_dec h1; omega
    refine Exists.intro [72] (And.intro rfl ?_)
    show [(72, Ob.row 4 1 ((bitsL n (l.take i)).map tB))] = _
    rw [hi, List.take_length]

end Go.Fw

/- What the program's functions do, part 7: the list of bits. -/
namespace Go.Fw
open Go Go.Proofs
set_option maxRecDepth 10000

def listFrom : Nat → List Bool → List Int
  | _, [] => []
  | k, b :: r => (if b then [(k : Int)] else []) ++ listFrom (k + 1) r
def listL (b : List Bool) : List Int := listFrom 0 b
theorem listFrom_snoc (b : Bool) : ∀ (l : List Bool) (k : Nat), listFrom k (l ++ [b]) = listFrom k l ++ if b then [((k + l.length : Nat) : Int)] else []
  | [], k => by simp [listFrom]
  | c :: r, k => by
    rw [List.cons_append, listFrom, listFrom_snoc b r (k + 1), listFrom, List.append_assoc]
    simp only [List.length_cons]
    rw [show k + 1 + r.length = k + (r.length + 1) by omega]
theorem listL_step {l : List Bool} {i : Nat} (h : i < l.length) : listL (l.take (i + 1)) = listL (l.take i) ++ if l[i] then [(i : Int)] else [] := by
  rw [List.take_add_one]
  simp only [h, List.getElem?_eq_getElem, Option.toList_some]
  rw [listL, listFrom_snoc, listL]
  have : (l.take i).length = i := by simp; omega
  rw [this, Nat.zero_add]
theorem listL_len (l : List Bool) (i : Nat) : (listL (l.take i)).length ≤ i := by
  have : ∀ (l : List Bool) (k : Nat), (listFrom k l).length ≤ l.length := by
    intro l
    induction l with
    | nil => intro k; simp [listFrom]
    | cons b r ih => intro k; have := ih (k + 1); cases b <;> simp [listFrom] <;> omega
  exact Nat.le_trans (this _ 0) (by simp; omega)

def kp77 : Kp := [(3, ([3, 6, 7, 8], [136]))]
theorem f77_spec (n1 : Bool) (b : List Bool) (hb : b.length ≤ 1000000000) (out : List Fr) :
    SpecP Try.prog 77 [.bools n1 b] out fun r ro => r = accV 136 1 ((listL b).map tI) ∧ ro = accO 136 3 1 ((listL b).map tI) := by
  refine spec_body cx_ok kp77 [] (fn := Try.f77) (by kernel_rfl) rfl (by kernel_rfl) rfl (by unfold FnOK; kernel_rfl) fun hok => ?_
  refine LoopW.mk (Nat × List Int) (fun p => p.1 ≤ b.length ∧ p.2 = listL (b.take p.1)) (fun p => [(3, accV 136 1 (p.2.map tI)), (6, .bools n1 b), (7, .int (b.map tB).length), (8, .int p.1)]) (fun p => ⟨out, accO 136 3 1 (p.2.map tI)⟩) (fun p => b.length - p.1) (0, []) ⟨Nat.zero_le _, rfl⟩ ⟨rfl, rfl⟩ ?_
  rintro ⟨i, acc⟩ ⟨hi0, hacc⟩
  simp only at hi0 hacc
  cases acc with
  | nil =>
    refine And.intro (fun h1 => ?_) fun h1 => ?_
    · have hi : i < b.length := lt_of_dec h1
      have hs := listL_step hi
      refine And.intro (by omega) (Exists.intro _ (And.intro (get_map hi) ?_))
      refine And.intro (fun h2 => ?_) fun h2 => ?_
      · refine And.intro (Nat.le_of_ble_eq_true rfl) (And.intro (Nat.le_of_ble_eq_true rfl) (And.intro (Nat.le_of_ble_eq_true rfl) ?_))
        refine And.intro (by omega) (And.intro (by omega) ?_)
        exact Exists.intro (i + 1, [(i : Int)]) (And.intro (by show b.length - (i + 1) < b.length - i; omega) (And.intro ⟨hi, by show [(i : Int)] = _; rw [hs, ← hacc, h2]; rfl⟩ (And.intro rfl rfl)))
      · refine And.intro (by omega) (And.intro (by omega) ?_)
        exact Exists.intro (i + 1, []) (And.intro (by show b.length - (i + 1) < b.length - i; omega) (And.intro ⟨hi, by show [] = _; rw [hs, ← hacc, h2]; rfl⟩ (And.intro rfl rfl)))
    · have hi : i = b.length := by have := ge_of_dec h1; omega
      rw [hi, List.take_length] at hacc
      refine Exists.intro [136] (And.intro ?_ ?_)
      · show LV.t (.sl true 0 []) = _
        rw [← hacc]; rfl
      · rw [← hacc]; rfl
  | cons x r =>
    refine And.intro (fun h1 => ?_) fun h1 => ?_
    · have hi : i < b.length := lt_of_dec h1
      have hs := listL_step hi
      have hln : (x :: r).length ≤ i := by rw [hacc]; exact listL_len b i
      have hln2 : ((tI x :: r.map tI) ++ [tI i]).length ≤ i + 1 := by simp at hln ⊢; omega
      refine And.intro (by omega) (Exists.intro _ (And.intro (get_map hi) ?_))
      refine And.intro (fun h2 => ?_) fun h2 => ?_
      · refine And.intro (Nat.le_of_ble_eq_true rfl) (And.intro rfl (And.intro (by show ((tI x :: r.map tI) ++ [tI i]).length * 8 ≤ _; omega) (And.intro (by show ((tI x :: r.map tI) ++ [tI i]).length ≤ _; omega) ?_)))
        refine And.intro (by omega) (And.intro (by omega) ?_)
        have e : (r ++ [(i : Int)]).map tI = r.map tI ++ [tI i] := by simp
        refine Exists.intro (i + 1, x :: (r ++ [(i : Int)])) (And.intro (by show b.length - (i + 1) < b.length - i; omega) (And.intro ⟨hi, by show x :: (r ++ [(i : Int)]) = _; rw [hs, ← hacc, h2]; rfl⟩ ?_))
        simp only [List.map_cons, e]
        exact And.intro rfl rfl
      · refine And.intro (by omega) (And.intro (by omega) ?_)
        exact Exists.intro (i + 1, x :: r) (And.intro (by show b.length - (i + 1) < b.length - i; omega) (And.intro ⟨hi, by show x :: r = _; rw [hs, ← hacc, h2]; simp⟩ (And.intro rfl rfl)))
    · have hi : i = b.length := by have := ge_of_dec h1; omega
      rw [hi, List.take_length] at hacc
      refine Exists.intro [136] (And.intro ?_ ?_)
      · show LV.osl (.cur 136) 1 0 ((x :: r).map tI).length = _
        rw [← hacc]; rfl
      · rw [← hacc]; rfl

end Go.Fw

/- What the program's functions do, part 8: sets of literals. -/
namespace Go.Fw
open Go Go.Proofs
set_option maxRecDepth 10000

def setHas (b : List Bool) (l : List Lit) : Bool := l.all fun x => b.getD (codeI x).toNat false
def od28 : Od := []
def kp28 : Kp := [(2, ([0, 7, 8, 9], []))]
theorem f28_spec (n1 n2 : Bool) (b : List Bool) (l : List Lit) (hl : ∀ x ∈ l, big x.fact ∧ 0 ≤ codeI x ∧ codeI x < b.length) (out : List Fr) :
    SpecP Try.prog 28 [.bools n1 b, .lits n2 l] out fun r ro => r = .bool (setHas b l) ∧ ro = [] := by
  refine spec_body cx_ok kp28 od28 (fn := Try.f28) (by kernel_rfl) rfl (by kernel_rfl) rfl (by unfold FnOK; kernel_rfl) fun hok => ?_
  have hmx := le_max hok.2.1.1
  refine LoopW.mk Nat (fun i => i ≤ l.length ∧ (l.take i).all (fun x => b.getD (codeI x).toNat false) = true) (fun i => [(0, .bools n1 b), (7, .lits n2 l), (8, .int (l.map tLit).length), (9, .int i)]) (fun _ => ⟨out, []⟩) (fun i => l.length - i) 0 ⟨Nat.zero_le _, rfl⟩ ⟨rfl, rfl⟩ fun i hI => ?_
  refine And.intro (fun h1 => ?_) fun h1 => ?_
  · have hi := lt_of_dec h1
    obtain ⟨hbig, hc0, hc1⟩ := hl l[i] (List.getElem_mem hi)
    have hcl : (codeI l[i]).toNat < b.length := by omega
    refine And.intro (by omega) (Exists.intro _ (And.intro (get_map hi) ?_))
    refine SpecP.mono (f63_spec l[i] hbig []) ?_
    rintro _ _ ⟨rfl, rfl⟩
    refine And.intro hc0 (Exists.intro (tB b[(codeI l[i]).toNat]) (And.intro (by simp [hcl]) ?_))
    refine And.intro (fun h2 => ?_) fun h2 => ?_
    · refine And.intro (by omega) (And.intro (by omega) ?_)
      exact Exists.intro (i + 1) (And.intro (by show l.length - (i + 1) < l.length - i; omega) (And.intro ⟨hi, all_step hi hI.2 (by simp [hcl, h2])⟩ (And.intro rfl rfl)))
    · exact Exists.intro [] (ret_bool (all_false hi (by simp [hcl, h2])) rfl)
  · exact Exists.intro [] (ret_bool (all_end (ge_of_dec h1) hI.2) rfl)

end Go.Fw

/- Texts that lead to the law, part 9. -/
import Derived.Test.YtkccfpgnifdgjaaZH
import Derived.Test.YtkccfpgnifdgjaaZG
import Derived.Test.YtkccfpgnifdgjaaProg
import Derived.Test.YtkccfpgnifdgjaaZF
import Derived.KernelRfl
import Derived.Shelf.Sort.AssemblyIn
import Derived.Shelf.Slices.In.SortNone
import Derived.Sort.EveryDepth

/- The value logic, part V3g: regions and code, laid out so that the kernel runs them faster. -/
namespace Go.Fw
open Go

abbrev RR := Option (Env × (St × Nat))
abbrev KK := Env → St → Nat → RR
noncomputable def goOn (d : Nat) (ih : KK) (r : Option LV) : KK := Option.rec (fun _ _ _ => none) (fun x env st k => ih ((d, x) :: env) st k) r
noncomputable def stF (C : Ctx) (op : Op) (dk : Dk) (d : Nat) (ih : KK) (env : Env) (st : St) (k : Nat) : RR := goOn d ih (exDF C op dk env st) env st k
noncomputable def aftF (o : Oper) (ih : KK) (r : Option (LV × (Env × (St × Nat)))) : RR := Option.rec none (fun q => ih (putE q.2.1 o.dst q.1) q.2.2.1 q.2.2.2) r
noncomputable def slowT (C : Ctx) (X : ExtE) (H : CallE) (o : Oper) (ih : KK) (env : Env) (st : St) (k : Nat) : RR := aftF o ih (op1E C X H o env st k)
noncomputable def slowF (o : Oper) (ih : KK) (env : Env) (st : St) (k : Nat) : RR := ih (putE env o.dst (.tup [])) st k
noncomputable def byG (T F : KK) (b : Option Bool) : KK := Option.rec (fun _ _ _ => none) (fun b => Bool.rec F T b) b
noncomputable def slowR (C : Ctx) (X : ExtE) (H : CallE) (ops : List Oper) (o : Oper) (ih : KK) (env : Env) (st : St) (k : Nat) : RR := byG (slowT C X H o ih) (slowF o ih) (gdR ops env o) env st k
noncomputable def oneF (C : Ctx) (X : ExtE) (H : CallE) (ops : List Oper) (o : Oper) (ih : KK) : KK := Option.rec (slowR C X H ops o ih) (fun d => stF C o.op (dkOp o.op) d ih) (dkDst o)
noncomputable def regF (C : Ctx) (X : ExtE) (H : CallE) (ops : List Oper) (l : List Oper) : KK := List.rec (fun env st k => some (env, st, k)) (fun o _ ih => oneF C X H ops o ih) l
theorem regF_eq {C : Ctx} {X : ExtE} {H : CallE} {ops : List Oper} : ∀ (l : List Oper) (env : Env) (st : St) (k : Nat), regF C X H ops l env st k = regE C X H ops l env st k
  | [], _, _, _ => rfl
  | o :: r, env, st, k => by
    have ih := regF_eq (C := C) (X := X) (H := H) (ops := ops) r
    show oneF C X H ops o (regF C X H ops r) env st k = _
    simp only [regE]
    unfold oneF
    cases dkDst o with
    | some d =>
      show goOn d (regF C X H ops r) (exDF C o.op (dkOp o.op) env st) env st k = _
      unfold goOn
      cases exDF C o.op (dkOp o.op) env st with
      | none => rfl
      | some x => exact ih _ _ _
    | none =>
      show byG _ _ (gdR ops env o) env st k = _
      unfold byG
      cases gdR ops env o with
      | none => rfl
      | some b =>
        cases b with
        | false => exact ih _ _ _
        | true =>
          show aftF o _ (op1E C X H o env st k) = _
          unfold aftF
          cases op1E C X H o env st k with
          | none => rfl
          | some q => exact ih _ _ _

/-! ### Drawn regions -/
noncomputable def preF (C : Ctx) (o : Oper) (ih : KK) (env : Env) (st : St) (k : Nat) : RR := Option.rec (motive := fun _ => RR) none (fun x => ih (putE env o.dst x) st k) (pevR C env st o.op)
noncomputable def pureF (C : Ctx) (ops : List Oper) (o : Oper) (ih : KK) (env : Env) (st : St) (k : Nat) : RR := byG (preF C o ih) (slowF o ih) (gdR ops env o) env st k
noncomputable def pureO (C : Ctx) (ops : List Oper) (o : Oper) (ih : KK) : KK := Option.rec (pureF C ops o ih) (fun d => stF C o.op (dkOp o.op) d ih) (dkDst o)
noncomputable def agnF (C : Ctx) (ops : List Oper) (L : List Nat) (ih : KK) (env : Env) (st : St) (k : Nat) : RR := okIf (againE C ops L env st) (ih env st k)
noncomputable def lstT (C : Ctx) (X : ExtE) (H : CallE) (ops : List Oper) (i : Nat) (o : Oper) (L : List Nat) (ih : KK) (env : Env) (st : St) (k : Nat) : RR :=
  Option.rec none (fun q => agnF C ops L ih (putE q.2.1 o.dst q.1) q.2.2.1 k) (op1E C X H o env st (k + 1000000 * i))
noncomputable def lstF (C : Ctx) (ops : List Oper) (o : Oper) (L : List Nat) (ih : KK) (env : Env) (st : St) (k : Nat) : RR := agnF C ops L ih (putE env o.dst (.tup [])) st k
noncomputable def lstO (C : Ctx) (X : ExtE) (H : CallE) (ops : List Oper) (i : Nat) (L : List Nat) (ih : KK) (o : Oper) (env : Env) (st : St) (k : Nat) : RR := byG (lstT C X H ops i o L ih) (lstF C ops o L ih) (gdR ops env o) env st k
noncomputable def onN (f : Oper → KK) (o : Option Oper) : KK := Option.rec (fun _ _ _ => none) f o
noncomputable def bothF (n m : Nat) (a b : RR) : RR := match a, b with
  | some (env1, st1, _), some (env2, st2, k2) => match st1.out, st2.out with
    | [], [] => okIf (tellB xEqb n env1 env2 && tellB oEqb m st1.cur st2.cur) (some (env2, st2, k2))
    | _, _ => none
  | _, _ => none
noncomputable def forkF (f g : KK) (env : Env) (st : St) (k : Nat) : RR := bothF env.length st.cur.length (f env st k) (g env st k)
noncomputable def treF (C : Ctx) (X : ExtE) (H : CallE) (ops : List Oper) (t : Tr) : KK := Tr.rec (motive := fun _ => KK) (fun env st k => some (env, st, k)) (fun i _ ih => onN (fun o => pureO C ops o ih) (nth ops i)) (fun _ _ _ _ _ _ => none)
  (fun i _ L ih => onN (lstO C X H ops i L ih) (nth ops i)) (fun i _ L _ ih ih2 => forkF (onN (lstO C X H ops i L ih) (nth ops i)) ih2) t
theorem treF_last {C : Ctx} {X : ExtE} {H : CallE} {ops : List Oper} {t : Tr} (ih : ∀ (env : Env) (st : St) (k : Nat), treF C X H ops t env st k = treeE C X H ops t env st k) (i : Nat) (L : List Nat) (env : Env) (st : St) (k : Nat) :
    treF C X H ops (.last i t L) env st k = treeE C X H ops (.last i t L) env st k := by
  show onN (lstO C X H ops i L (treF C X H ops t)) (nth ops i) env st k = _
  simp only [treeE]
  unfold onN
  cases nth ops i with
  | none => rfl
  | some o =>
    show byG _ _ (gdR ops env o) env st k = _
    unfold byG
    simp only
    cases gdR ops env o with
    | none => rfl
    | some b =>
      cases b with
      | false =>
        show okIf _ (treF C X H ops t _ _ _) = _
        rw [ih]
      | true =>
        show Option.rec (motive := fun _ => RR) none (fun q => agnF C ops L (treF C X H ops t) (putE q.2.1 o.dst q.1) q.2.2.1 k) (op1E C X H o env st (k + 1000000 * i)) = _
        cases op1E C X H o env st (k + 1000000 * i) with
        | none => rfl
        | some q =>
          show okIf _ (treF C X H ops t _ _ _) = _
          rw [ih]

theorem treF_eq {C : Ctx} {X : ExtE} {H : CallE} {ops : List Oper} : ∀ (t : Tr) (env : Env) (st : St) (k : Nat), treF C X H ops t env st k = treeE C X H ops t env st k
  | .done, _, _, _ => rfl
  | .eff _ _, _, _, _ => rfl
  | .pure i t, env, st, k => by
    have ih := treF_eq (C := C) (X := X) (H := H) (ops := ops) t
    show onN (fun o => pureO C ops o (treF C X H ops t)) (nth ops i) env st k = _
    simp only [treeE]
    unfold onN
    cases nth ops i with
    | none => rfl
    | some o =>
      show pureO C ops o (treF C X H ops t) env st k = _
      unfold pureO
      simp only
      cases dkDst o with
      | some d =>
        show goOn d (treF C X H ops t) (exDF C o.op (dkOp o.op) env st) env st k = _
        unfold goOn
        cases exDF C o.op (dkOp o.op) env st with
        | none => rfl
        | some x => exact ih _ _ _
      | none =>
        show byG _ _ (gdR ops env o) env st k = _
        unfold byG
        cases gdR ops env o with
        | none => rfl
        | some b =>
          cases b with
          | false => exact ih _ _ _
          | true =>
            show Option.rec (motive := fun _ => RR) none (fun x => treF C X H ops t (putE env o.dst x) st k) (pevR C env st o.op) = _
            cases pevR C env st o.op with
            | none => rfl
            | some x => exact ih _ _ _
  | .last i t L, env, st, k => by
    have ih := treF_eq (C := C) (X := X) (H := H) (ops := ops) t
    exact treF_last ih i L env st k
  | .fork i t L rest, env, st, k => by
    have ih := treF_eq (C := C) (X := X) (H := H) (ops := ops) t
    have ih2 := treF_eq (C := C) (X := X) (H := H) (ops := ops) rest
    show bothF env.length st.cur.length (treF C X H ops (.last i t L) env st k) (treF C X H ops rest env st k) = _
    have h1 : treF C X H ops (.last i t L) env st k = treeE C X H ops (.last i t L) env st k := treF_last ih i L env st k
    rw [h1, ih2]
    simp only [treeE]
    rfl
/-! ### Code -/
noncomputable def wrap0 (r : RR) : EvR := Option.rec none (fun q => some (.normal, q.1, q.2.1, q.2.2)) r
noncomputable def wrap1 (r : RR) : EvR := Option.rec none (fun q => some (.normal, q.1, q.2.1, q.2.2 + 1000000000)) r
noncomputable def rg0 (C : Ctx) (X : ExtE) (H : CallE) (ops : List Oper) (env : Env) (st : St) (k : Nat) : EvR := wrap0 (natF k (regF C X H ops ops env st))
noncomputable def rg1 (C : Ctx) (X : ExtE) (H : CallE) (ops : List Oper) (ord : Option (List (Nat × Kind))) (env : Env) (st : St) (k : Nat) : EvR := Option.rec (motive := fun _ => Env → St → Nat → EvR) (fun _ _ _ => none) (fun ord env st k => wrap1 (natF k (treF C X H ops (trOf ord) env st))) ord env st k
noncomputable def evRg (C : Ctx) (X : ExtE) (H : CallE) (id : Nat) (ops : List Oper) (draw : Bool) (od : Od) : Env → St → Nat → EvR := Bool.rec (rg0 C X H ops) (rg1 C X H ops (lookR od id)) draw
def isNrm : Exit → Bool
  | .normal => true
  | _ => false
noncomputable def nrmF (f : Env → St → Nat → EvR) (q : Exit × (Env × (St × Nat))) : EvR := Bool.rec (some q) (f q.2.1 q.2.2.1 q.2.2.2) (isNrm q.1)
noncomputable def thenF (f : Env → St → Nat → EvR) (r : EvR) : EvR := Option.rec none (fun q => nrmF f q) r
noncomputable def nxtF (rec : EvT) (y : Code) (kp : Kp) (od : Od) (env : Env) (st : St) (k : Nat) : EvR := rec y kp od (entE kp y env) st k
noncomputable def evSq (rec : EvT) (x y : Code) (kp : Kp) (od : Od) (env : Env) (st : St) (k : Nat) : EvR := thenF (nxtF rec y kp od) (rec x kp od env st k)
def asBool (x : LV) : Option Bool := match x with
  | .t (.v (.bool b)) => some b
  | _ => none
noncomputable def evCd (rec : EvT) (c : Operand) (x y : Code) (kp : Kp) (od : Od) (env : Env) (st : St) (k : Nat) : EvR := Option.rec (motive := fun _ => Env → St → Nat → EvR) (fun _ _ _ => none) (fun b => Bool.rec (rec y kp od) (rec x kp od) b) (asBool (opdF env c)) env st k
def inBl (id : Nat) (e : Exit) : Exit := match e with
  | .exit i => match Nat.beq i id with
    | true => .normal
    | false => .exit i
  | e => e
noncomputable def blF (id : Nat) (r : EvR) : EvR := Option.rec none (fun q => some (inBl id q.1, q.2)) r
noncomputable def evBl (rec : EvT) (id : Nat) (b : Code) (kp : Kp) (od : Od) (env : Env) (st : St) (k : Nat) : EvR := blF id (rec b kp od env st k)
noncomputable def evLp (rec : EvT) (m : Nat) (b : Code) (kp : Kp) (od : Od) (env : Env) (st : St) (k : Nat) : EvR := loopE rec b kp od m env st k
def noGt (e : Exit) : Option Exit := match e with
  | .goto _ => none
  | e => some e
noncomputable def scF (r : EvR) : EvR := Option.rec none (fun q => Option.rec none (fun e => some (e, q.2)) (noGt q.1)) r
noncomputable def evSc (rec : EvT) (b : Code) (kp : Kp) (od : Od) (env : Env) (st : St) (k : Nat) : EvR := scF (rec b kp od env st k)
noncomputable def evSF (C : Ctx) (X : ExtE) (H : EvT → CallE) (m : Nat) (rec : EvT) : EvT := fun c kp od => match c with
  | .skip => fun env st k => some (.normal, env, st, k)
  | .label _ => fun env st k => some (.normal, env, st, k)
  | .region id ops draw => evRg C X (H rec) id ops.toList draw od
  | .seq x y => evSq rec x y kp od
  | .cond c x y => evCd rec c x y kp od
  | .block id b => evBl rec id b kp od
  | .loop b => evLp rec m b kp od
  | .scope b => evSc rec b kp od
  | .exit id => fun env st k => some (.exit id, env, st, k)
  | .ret => fun env st k => some (.ret, env, st, k)
  | _ => fun _ _ _ => none
theorem evSF_eq {C : Ctx} {X : ExtE} {H : EvT → CallE} {m : Nat} {rec : EvT} : evSF C X H m rec = evS C X H m rec := by
  funext c kp od env st k
  cases c with
  | region id ops draw =>
    cases draw with
    | false =>
      show wrap0 (natF k (regF C X (H rec) ops.toList ops.toList env st)) = _
      simp only [evS, natF_eq, regF_eq]
      unfold wrap0
      cases regE C X (H rec) ops.toList ops.toList env st k <;> rfl
    | true =>
      simp only [evS, natF_eq]
      show rg1 C X (H rec) ops.toList (lookR od id) env st k = _
      unfold rg1
      cases lookR od id with
      | none => rfl
      | some ord =>
        show wrap1 (natF k (treF C X (H rec) ops.toList (trOf ord) env st)) = _
        simp only [natF_eq, treF_eq]
        unfold wrap1
        cases treeE C X (H rec) ops.toList (trOf ord) env st k <;> rfl
  | seq x y =>
    show thenF (nxtF rec y kp od) (rec x kp od env st k) = _
    simp only [evS]
    unfold thenF
    cases rec x kp od env st k with
    | none => rfl
    | some q =>
      obtain ⟨e, env1, st1, k1⟩ := q
      cases e <;> rfl
  | cond c x y =>
    show Option.rec (motive := fun _ => Env → St → Nat → EvR) (fun _ _ _ => none) (fun b => Bool.rec (rec y kp od) (rec x kp od) b) (asBool (opdF env c)) env st k = _
    simp only [evS, opdF_eq]
    generalize opdR env c = x
    cases x with
    | t y =>
      cases y with
      | v z =>
        cases z with
        | bool b => cases b <;> rfl
        | _ => rfl
      | sl _ _ _ => rfl
    | _ => rfl
  | block id b =>
    show blF id (rec b kp od env st k) = _
    simp only [evS]
    unfold blF
    cases rec b kp od env st k with
    | none => rfl
    | some q =>
      obtain ⟨e, env1, st1, k1⟩ := q
      cases e with
      | exit i => simp only [inBl]; cases Nat.beq i id <;> rfl
      | _ => rfl
  | scope b =>
    show scF (rec b kp od env st k) = _
    simp only [evS]
    unfold scF
    cases rec b kp od env st k with
    | none => rfl
    | some q =>
      obtain ⟨e, env1, st1, k1⟩ := q
      cases e <;> rfl
  | _ => rfl
end Go.Fw

/- The value logic, part V4: calls that are run. -/
namespace Go.Fw
open Go

section
variable {C : Ctx} {P : Program} {E : Ent} {N : Nat} {β β' : K → Nat} {RO RO' : Nat → Prop} {env env' : Env} {st st' : St} {a : Act} {w w' : World} {k k' : Nat} {x : LV}

noncomputable def retE (C : Ctx) (rs : List ResultVar) (r : EvR) : Option (LV × (Env × (St × Nat))) := match r with
  | some (e, env, st, k) => match e with
    | .ret => match resL C env st rs with
      | some l => some (resV l, env, st, k)
      | none => none
    | .normal => match resL C env st rs with
      | some l => some (resV l, env, st, k)
      | none => none
    | _ => none
  | none => none
theorem retE_ok {rs : List ResultVar} {r : EvR} (h : retE C rs r = some (x, env', st', k')) : ∃ e l, r = some (e, env', st', k') ∧ (e = .ret ∨ e = .normal) ∧ resL C env' st' rs = some l ∧ x = resV l := by
  unfold retE at h
  split at h
  · split at h
    · split at h
      · rename_i hl; cases h; exact ⟨_, _, rfl, .inl rfl, hl, rfl⟩
      · cases h
    · split at h
      · rename_i hl; cases h; exact ⟨_, _, rfl, .inr rfl, hl, rfl⟩
      · cases h
    · cases h
  · cases h

/-- A call on its own. -/
noncomputable def isoE (C : Ctx) (rec : EvT) (x : Func × (Code × (Kp × Od))) (args : List LV) (out : List Fr) : Option (LV × Fr) :=
  okIf (Nat.ble args.length x.1.ntmps) (match retE C x.1.results.toList (rec x.2.1 x.2.2.1 x.2.2.2 (argE 0 args) ⟨out, []⟩ 0) with
    | some (r, _, st, _) => some (r, gcF st.cur (namV r))
    | none => none)

theorem isoE_ok (hC : C.OK P) {rec : EvT} (hr : EvOK P rec) {f : Nat} {x : Func × (Code × (Kp × Od))} (hx : P.funcs[f]? = some x.1 ∧ x.1.body = some x.2.1 ∧ FnOK P f ∧ (Nat.ble x.1.ntmps 1000000 && codeYOK x.1.ntmps x.2.2.2 x.2.1) = true)
    {args : List LV} {out : List Fr} {r : LV} {ro : Fr} (h : isoE C rec x args out = some (r, ro)) : SpecP P f args out fun r1 ro1 => r1 = r ∧ ro1 = ro := by
  obtain ⟨hf, hb, hfn, hk⟩ := hx
  simp only [Bool.and_eq_true] at hk
  obtain ⟨hq, hk⟩ := hk
  have hq : x.1.ntmps ≤ 1000000 := by simpa using hq
  unfold isoE at h
  obtain ⟨hn, h⟩ := okIf_some h
  have hn : args.length ≤ x.1.ntmps := Nat.le_of_ble_eq_true hn
  split at h
  rotate_left
  · cases h
  rename_i r1 env1 st1 k1 h1
  cases h
  obtain ⟨e1, l, hrun, he1, hl, rfl⟩ := retE_ok h1
  refine ⟨hfn, fun β RO w vals hw hv => calls_out (r := none) (n := 0) ?_⟩
  have hlen : vals.length = args.length := hv.1.symm
  have hs : SR (entP β RO w) x.1.ntmps β RO (argE 0 args) ⟨out, []⟩ { tmps := vals.toArray ++ Array.replicate (x.1.ntmps - vals.toArray.size) undef, defers := [] } w := by
    refine ⟨hw, ⟨by simp; omega, hq⟩, rfl, fun n y hy => ?_⟩
    obtain ⟨_, h2⟩ := argE_look hy
    simp only [Nat.sub_zero] at h2
    have hlt : n < vals.length := by rw [hlen]; exact (List.getElem?_eq_some_iff.1 h2).1
    refine ⟨vals[n], ?_, hv.2 n y _ h2 (List.getElem?_eq_getElem hlt)⟩
    rw [tmpAt_lt (by omega), Array.getElem?_append_left (by simpa using hlt)]
    simp [hlt]
  refine callsIn_of_wp hf hb trivial (wpIn_mono (hr _ _ _ _ _ _ _ _ _ _ hrun _ _ _ _ _ _ hk hs) ?_)
  have fin : ∀ {β' : K → Nat} {RO' : Nat → Prop} {a : Act} {w' : World}, SR (entP β RO w) x.1.ntmps β' RO' env1 st1 a w' →
      a.defers = [] ∧ ∃ v, (results x.1 a.tmps).run P w' = .ok v w' ∧ ∃ v' r ro out' β' RO', Ending.returned v = .returned v' ∧ (r = resV l ∧ ro = gcF st1.cur (namV (resV l))) ∧ WR (entP β RO w) β' RO' ⟨out', ro⟩ w' ∧ VL β' RO' w' r v' := by
    intro β' RO' a w' hs
    obtain ⟨v, h1, h2⟩ := res_run hC hs hl
    exact ⟨hs.defers, v, h1, v, resV l, _, st1.out, β', RO', rfl, ⟨rfl, rfl⟩, hs.wr.less (fun k o hk => get_less (fun n x hx => look_gcF hx) k o hk), h2⟩
  rintro e a w' ⟨env2, st2, β', RO', ⟨rfl, rfl, rfl⟩, hs⟩
  rcases he1 with rfl | rfl
  · exact fin hs
  · exact fin hs

def plE (env : Env) (st : St) (d : Nat) (r : LV) (ro : Fr) : Option (LV × (Env × (St × Nat))) :=
  okIf (r.allK (inFr ro) && okFr ro env st.cur d ro) (some (mapV (plK d) r, env, ⟨st.out, plC d ro st.cur⟩, d + 1))
theorem plE_ok {d : Nat} {r : LV} {ro : Fr} {K' : LV → Env → St → Prop} (h : plE env st d r ro = some (x, env', st', k')) (hK : K' x env' st') : plW env st d r ro K' := by
  unfold plE at h
  obtain ⟨hf, h⟩ := okIf_some h
  simp only [Bool.and_eq_true] at hf
  cases h
  unfold plW
  simp only [hf.1, hf.2]; exact hK

/-! ### Own rows are handed on to be read -/
noncomputable def borCE (st : St) : List LV → List LV → Option (List LV)
  | [], acc => some acc
  | x :: r, acc => match x with
    | .osl k sz off len => match getR st k with
      | some (.row _ sz' es) => okIf (Nat.beq sz sz' && Nat.ble (off + len) es.length) (borCE st r (acc ++ [.t (.sl false sz ((es.drop off).take len))]))
      | _ => none
    | x => borCE st r (acc ++ [x])
theorem borCE_ok {F : List LV → Prop} {ys : List LV} : ∀ {xs acc : List LV}, borCE st xs acc = some ys → F ys → borC st xs acc F
  | [], acc, h, hF => by cases h; exact hF
  | x :: r, acc, h, hF => by
    simp only [borCE, getR_eq] at h
    split at h
    · split at h
      · rename_i hg
        obtain ⟨hf, h⟩ := okIf_some h
        simp only [Bool.and_eq_true] at hf
        simp only [borC]
        refine getW_intro hg ?_
        simp only [hf.1]
        exact ⟨_, rfl, Nat.le_of_ble_eq_true hf.2, borCE_ok h hF⟩
      · cases h
    · rename_i hno
      cases x <;> simp only [borC] <;> first | exact borCE_ok h hF | exact (hno _ _ _ _ rfl).elim
noncomputable def borE (st : St) : List LV → List LV → Option (List LV)
  | [], acc => some acc
  | x :: r, acc => match x with
    | .agg cs => match borCE st cs [] with
      | some cs' => borE st r (acc ++ [.agg cs'])
      | none => none
    | .osl k sz off len => match borCE st [.osl k sz off len] [] with
      | some cs' => borE st r (acc ++ cs')
      | none => none
    | x => borE st r (acc ++ [x])
theorem borE_ok {F : List LV → Prop} {ys : List LV} : ∀ {xs acc : List LV}, borE st xs acc = some ys → F ys → borW st xs acc F
  | [], acc, h, hF => by cases h; exact hF
  | x :: r, acc, h, hF => by
    simp only [borE] at h
    split at h
    · split at h
      · rename_i h1; simp only [borW]; exact borCE_ok h1 (borE_ok h hF)
      · cases h
    · split at h
      · rename_i h1; simp only [borW]; exact borCE_ok h1 (borE_ok h hF)
      · cases h
    · rename_i hno1 hno2
      cases x <;> simp only [borW] <;> first | exact borE_ok h hF | exact (hno1 _ rfl).elim | exact (hno2 _ _ _ _ rfl).elim

def flatT : T → Bool
  | .v _ => true
  | .sl n _ es => match n, es with
    | true, [] => true
    | _, _ => false
def flatV : LV → Bool
  | .t x => flatT x
  | .ipt _ => false
  | .ifc _ x => flatV x
  | .agg cs | .tup cs => flatL cs
  | _ => true
where flatL : List LV → Bool
  | [] => true
  | x :: r => flatV x && flatL r
def flatEl : List T → Bool
  | [] => true
  | x :: r => flatT x && flatEl r
def flatEs : List (List T) → Bool
  | [] => true
  | x :: r => flatEl x && flatEs r
def flatRs : List GR → Bool
  | [] => true
  | x :: r => (match x with
    | .row es => flatEs es
    | _ => true) && flatRs r
def flatKv : List (Value × T) → Bool
  | [] => true
  | x :: r => flatT x.2 && flatKv r
def flatO : Ob → Bool
  | .row _ _ es => flatEs es
  | .box cs => flatV.flatL cs
  | .grid _ _ _ rs => flatRs rs
  | .mp _ kv => flatKv kv
  | .mit _ _ => false
def flatF : Fr → Bool
  | [] => true
  | p :: r => flatO p.2 && flatF r
theorem flatT_ok {x : T} (h : flatT x = true) : x.flat := by
  cases x with
  | v x => trivial
  | sl n sz es =>
    cases n with
    | false => simp [flatT] at h
    | true => cases es with
      | nil => trivial
      | cons => simp [flatT] at h
mutual
theorem flatV_ok : ∀ {x : LV}, flatV x = true → x.flat
  | .t x, h => flatT_ok h
  | .ipt _, h => by simp [flatV] at h
  | .ifc _ x, h => flatV_ok (x := x) h
  | .agg cs, h => flatL_ok (cs := cs) h
  | .tup cs, h => flatL_ok (cs := cs) h
  | .bad, _ | .osl _ _ _ _, _ | .ptr _ _, _ | .pel _ _ _ _, _ | .fn _ _, _ | .mpr _, _ => trivial
theorem flatL_ok : ∀ {cs : List LV}, flatV.flatL cs = true → LV.flat.flatL cs
  | [], _ => trivial
  | x :: r, h => by
    simp only [flatV.flatL, Bool.and_eq_true] at h
    exact ⟨flatV_ok h.1, flatL_ok h.2⟩
end
theorem flatEl_ok : ∀ {l : List T}, flatEl l = true → ∀ x ∈ l, x.flat
  | [], _, x, hx => by cases hx
  | y :: r, h, x, hx => by
    simp only [flatEl, Bool.and_eq_true] at h
    rcases List.mem_cons.1 hx with rfl | hx
    · exact flatT_ok h.1
    · exact flatEl_ok h.2 x hx
theorem flatEs_ok : ∀ {l : List (List T)}, flatEs l = true → ∀ el ∈ l, ∀ x ∈ el, x.flat
  | [], _, x, hx => by cases hx
  | y :: r, h, x, hx => by
    simp only [flatEs, Bool.and_eq_true] at h
    rcases List.mem_cons.1 hx with rfl | hx
    · exact flatEl_ok h.1
    · exact flatEs_ok h.2 x hx
theorem flatRs_ok : ∀ {l : List GR}, flatRs l = true → ∀ es, .row es ∈ l → ∀ el ∈ es, ∀ x ∈ el, x.flat
  | [], _, x, hx => by cases hx
  | y :: r, h, x, hx => by
    simp only [flatRs, Bool.and_eq_true] at h
    rcases List.mem_cons.1 hx with rfl | hx
    · exact flatEs_ok h.1
    · exact flatRs_ok h.2 x hx
theorem flatKv_ok : ∀ {l : List (Value × T)}, flatKv l = true → ∀ p ∈ l, p.2.flat
  | [], _, x, hx => by cases hx
  | y :: r, h, x, hx => by
    simp only [flatKv, Bool.and_eq_true] at h
    rcases List.mem_cons.1 hx with rfl | hx
    · exact flatT_ok h.1
    · exact flatKv_ok h.2 x hx
theorem flatO_ok {o : Ob} (h : flatO o = true) : o.flat := by
  cases o with
  | row => exact flatEs_ok h
  | box => exact flatL_ok h
  | grid => exact flatRs_ok h
  | mp => exact flatKv_ok h
  | mit => simp [flatO] at h
theorem flatF_ok : ∀ {fr : Fr}, flatF fr = true → flatFr fr
  | [], _ => trivial
  | (s, o) :: r, h => by
    simp only [flatF, Bool.and_eq_true] at h
    exact ⟨flatO_ok h.1, flatF_ok h.2⟩

/-! ### A call -/
abbrev OrcE := Nat → List LV → Option (LV × Fr)
/-- Contracts that are at hand: of closed data. -/
def OrcOK (P : Program) (O : OrcE) : Prop := ∀ f args r ro, O f args = some (r, ro) → LV.allK.allL noK args = true → ∀ out, SpecP P f args out fun r1 ro1 => r1 = r ∧ ro1 = ro
def noO : OrcE := fun _ _ => none
theorem noO_ok {P : Program} : OrcOK P noO := fun _ _ _ _ h => by cases h
theorem capNo {g : K → K} : ∀ {cap : List (K × Nat)}, LV.allK.allC noK cap = true → mapC g cap = cap
  | [], _ => rfl
  | p :: r, h => by simp [LV.allK.allC, noK] at h
mutual
theorem mapV_no {g : K → K} : ∀ {x : LV}, x.allK noK = true → mapV g x = x
  | .bad, _ | .t _, _ | .ipt _, _ => rfl
  | .osl _ _ _ _, h | .ptr _ _, h | .pel _ _ _ _, h | .mpr _, h => by simp [LV.allK, noK] at h
  | .fn f cap, h => by
    simp only [LV.allK] at h
    simp only [mapV, capNo h]
  | .ifc t x, h => by
    simp only [LV.allK] at h
    simp only [mapV, mapV_no h]
  | .agg cs, h | .tup cs, h => by
    simp only [LV.allK] at h
    simp only [mapV, mapL_no h]
theorem mapL_no {g : K → K} : ∀ {cs : List LV}, LV.allK.allL noK cs = true → mapV.mapL g cs = cs
  | [], _ => rfl
  | x :: r, h => by
    simp only [LV.allK.allL, Bool.and_eq_true] at h
    simp only [mapV.mapL, mapV_no h.1, mapL_no h.2]
end

noncomputable def borrE (C : Ctx) (rec : EvT) (x : Func × (Code × (Kp × Od))) (args : List LV) (k : Nat) (env : Env) (st : St) : Option (LV × (Env × (St × Nat))) := match borE st args [] with
  | some args' => match isoE C rec x (liftL 1 args') (st.cur :: st.out) with
    | some (r, ro) => okIf (flatV r && flatF ro) (plE env st k r ro)
    | none => none
  | none => none
noncomputable def inlE (C : Ctx) (rec : EvT) (x : Func × (Code × (Kp × Od))) (args : List LV) (k : Nat) (env : Env) (st : St) : Option (LV × (Env × (St × Nat))) :=
  okIf (Nat.ble args.length x.1.ntmps) (match retE C x.1.results.toList (rec x.2.1 x.2.2.1 x.2.2.2 (argE 0 args ++ shE env) st k) with
    | some (r, env, st, k) => some (r, unE env, gcS ((0, r) :: unE env) st, k)
    | none => none)
/-- A call: of what is closed on its own; of what is read alone, if it is not said that it is to be walked through; else walked through. -/
noncomputable def callE (C : Ctx) (O : OrcE) (T : InT) (M : List Nat) (rec : EvT) : CallE := fun f args k env st => match lookR T f with
  | none => match LV.allK.allL noK args with
    | true => match O f args with
      | some (r, ro) => plE env st k r ro
      | none => none
    | false => match borE st args [] with
      | some args' => okIf (LV.allK.allL noK args') (match O f args' with
        | some (r, ro) => okIf (flatV r && flatF ro) (plE env st k r ro)
        | none => none)
      | none => none
  | some x => match LV.allK.allL noK args with
    | true => match isoE C rec x args [] with
      | some (r, ro) => plE env st k r ro
      | none => none
    | false => match elB f M with
      | true => inlE C rec x args k env st
      | false => borrE C rec x args k env st

theorem callE_ok (hC : C.OK P) {O : OrcE} (hO : OrcOK P O) {T : InT} (hT : InOK P T) {M : List Nat} {rec : EvT} (hr : EvOK P rec) : CallOK P (callE C O T M rec) := by
  intro f k args env st x env' st' k' h E N β RO a w vals hs hv
  have viaP : LV.allK.allL noK args = true → ∀ {r : LV} {ro : Fr}, SpecP P f args [] (fun r1 ro1 => r1 = r ∧ ro1 = ro) → plE env st k r ro = some (x, env', st', k') → FnOK P f ∧ Calls P f vals.toArray w fun e w' => ∃ v β' RO', e = .returned v ∧ SR E N β' RO' env' st' a w' ∧ VL β' RO' w' x v := by
    intro ha r ro hS hp
    have hW : callW P env st k f args (fun x1 e1 t1 => x1 = x ∧ e1 = env' ∧ t1 = st') := by
      unfold callW
      rw [ha]
      refine SpecP.mono hS ?_
      rintro r1 ro1 ⟨rfl, rfl⟩
      exact plE_ok hp ⟨rfl, rfl, rfl⟩
    obtain ⟨h1, h2⟩ := callW_gives hs hv hW
    refine ⟨h1, h2.mono ?_⟩
    rintro e w' ⟨v, x1, env1, st1, β2, RO2, rfl, ⟨rfl, rfl, rfl⟩, h3, h4, _⟩
    exact ⟨v, β2, RO2, rfl, h3, h4⟩
  unfold callE at h
  simp only [lookR_eq] at h
  split at h
  · split at h
    · rename_i ha
      split at h
      · rename_i r ro hr1
        exact viaP ha (hO f args r ro hr1 ha []) h
      · cases h
    · split at h
      rotate_left
      · cases h
      rename_i args' hb
      obtain ⟨ha', h⟩ := okIf_some h
      split at h
      rotate_left
      · cases h
      rename_i r ro h1
      obtain ⟨hfl, h⟩ := okIf_some h
      simp only [Bool.and_eq_true] at hfl
      have hv0 : Vals β (ownRO E β RO st) w args vals := hv.ro fun b hb => .inl hb
      obtain ⟨args2, he2, hv'⟩ := borW_gives (F := fun l => l = args') hs.wr hv0 (us := []) ⟨rfl, fun i x v h => by simp at h⟩ (borE_ok hb rfl)
      subst he2
      have hS := hO f _ r ro h1 ha' (st.cur :: st.out)
      simp only [List.nil_append] at hv'
      refine ⟨hS.1, (hS.2 (fun k => β (lowK k)) (ownRO E β RO st) w vals (enter_wr hs.wr) ?_).mono ?_⟩
      · have := hv'.map (g := liftK 1) (β2 := fun k => β (lowK k)) fun k => by simp only [lowK_lift]
        rw [mapL_no ha'] at this; exact this
      rintro e w' ⟨v, r1, ro1, out', β', RO', he, ⟨rfl, rfl⟩, hw, hrv⟩
      obtain ⟨x1, env1, st1, β2, RO2, ⟨rfl, rfl, rfl⟩, h3, h4, _⟩ := plW_gives (K' := fun x1 e1 t1 => x1 = x ∧ e1 = env' ∧ t1 = st') hs hw hrv (plE_ok h ⟨rfl, rfl, rfl⟩) (.inr ⟨flatV_ok hfl.1, flatF_ok hfl.2⟩)
      exact ⟨v, β2, RO2, he, h3, h4⟩
  · rename_i y hy
    split at h
    · rename_i ha
      split at h
      · rename_i r ro h1
        exact viaP ha (isoE_ok hC hr (hT f y hy) h1) h
      · cases h
    · rename_i ha
      split at h
      · -- walked through
        unfold inlE at h
        obtain ⟨hn, h⟩ := okIf_some h
        have hlen := Nat.le_of_ble_eq_true hn
        split at h
        rotate_left
        · cases h
        rename_i r1 env1 st1 k1 h1
        cases h
        obtain ⟨e1, l, hrun, he1, hl, rfl⟩ := retE_ok h1
        obtain ⟨hf, hb, hfn, hk⟩ := hT f y hy
        simp only [Bool.and_eq_true] at hk
        have hN : y.1.ntmps ≤ 1000000 := by simpa using hk.1
        refine ⟨hfn, ?_⟩
        obtain ⟨E5, hE5⟩ : ∃ E5 : Ent, E5 = { E with gh := fun m => tmpAt E a (m - 1000000), dfs := [] } := ⟨_, rfl⟩
        have hsame : E5 = { E with gh := E5.gh, dfs := E5.dfs } := by rw [hE5]
        have hback : E = { E5 with gh := E.gh, dfs := E.dfs } := by rw [hE5]
        have hgh : ∀ m, E5.gh m = tmpAt E a (m - 1000000) := fun m => by rw [hE5]
        have hvl : vals.length = args.length := hv.1.symm
        have tmpG : ∀ (a0 : Act) (m q : Nat), 1000000 ≤ m → m - 1000000 = q → tmpAt E5 a0 m = tmpAt E a q := fun a0 m q hm hq => by
          conv => lhs; unfold tmpAt
          rw [show Nat.blt m 1000000 = false by rw [Bool.eq_false_iff]; intro hb; rw [Nat.blt_eq] at hb; omega]
          simp only [hgh]
          rw [hq]
        have hs5 : SR E5 y.1.ntmps β RO (argE 0 args ++ shE env) st { tmps := vals.toArray ++ Array.replicate (y.1.ntmps - vals.toArray.size) undef, defers := [] } w := by
          refine ⟨wr_same hs.wr hsame, ⟨by simp; omega, hN⟩, by rw [hE5], fun m z hz => ?_⟩
          rcases look_app hz with hz | ⟨_, hz⟩
          · obtain ⟨_, h2⟩ := argE_look hz
            simp only [Nat.sub_zero] at h2
            have hlt : m < vals.length := by rw [hvl]; exact (List.getElem?_eq_some_iff.1 h2).1
            refine ⟨vals[m], ?_, hv.2 m z _ h2 (List.getElem?_eq_getElem hlt)⟩
            rw [tmpAt_lt (by omega), Array.getElem?_append_left (by simpa using hlt)]
            simp [hlt]
          · obtain ⟨q, _, _, g3, g4⟩ := look_selE hz
            obtain ⟨v, g5, g6⟩ := hs.env q z g4
            refine ⟨v, ?_, g6⟩
            rw [tmpG _ m q (by omega) (by omega)]; exact g5
        have hI := hr _ _ _ _ _ _ _ _ _ _ hrun _ _ _ _ _ _ hk.2 hs5
        refine calls_out (r := none) (n := 0) (callsIn_of_wp hf hb trivial (wpIn_mono hI ?_))
        have fin : ∀ {β' : K → Nat} {RO' : Nat → Prop} {a' : Act} {w' : World}, SR E5 y.1.ntmps β' RO' env1 st1 a' w' →
            a'.defers = [] ∧ ∃ v, (results y.1 a'.tmps).run P w' = .ok v w' ∧ ∃ v' β2 RO2, Ending.returned v = .returned v' ∧ SR E N β2 RO2 (unE env1) (gcS ((0, resV l) :: unE env1) st1) a w' ∧ VL β2 RO2 w' (resV l) v' := by
          intro β' RO' a' w' hs'
          obtain ⟨v, h1, h2⟩ := res_run hC hs' hl
          refine ⟨by rw [hs'.defers, hE5], v, h1, v, β', RO', rfl, SR.gcS ⟨wr_same hs'.wr hback, hs.size, hs.defers, fun m z hz => ?_⟩ _, h2⟩
          obtain ⟨q, _, _, g3, g4⟩ := look_selE hz
          obtain ⟨u, g5, g6⟩ := hs'.env q z g4
          refine ⟨u, ?_, g6⟩
          rw [tmpG _ q m (by omega) (by omega)] at g5
          exact g5
        rintro e a' w' ⟨env2, st2, β', RO', ⟨rfl, rfl, rfl⟩, hs'⟩
        rcases he1 with rfl | rfl
        · exact fin hs'
        · exact fin hs'
      · unfold borrE at h
        split at h
        rotate_left
        · cases h
        rename_i args' hb
        split at h
        rotate_left
        · cases h
        rename_i r ro h1
        obtain ⟨hfl, h⟩ := okIf_some h
        simp only [Bool.and_eq_true] at hfl
        -- through the form of a call that only reads
        have hv0 : Vals β (ownRO E β RO st) w args vals := hv.ro fun b hb => .inl hb
        obtain ⟨args2, he2, hv'⟩ := borW_gives (F := fun l => l = args') hs.wr hv0 (us := []) ⟨rfl, fun i x v h => by simp at h⟩ (borE_ok hb rfl)
        subst he2
        have hS := isoE_ok hC hr (hT f y hy) h1
        simp only [List.nil_append] at hv'
        refine ⟨hS.1, (hS.2 (fun k => β (lowK k)) (ownRO E β RO st) w vals (enter_wr hs.wr) (hv'.map fun k => by simp only [lowK_lift])).mono ?_⟩
        rintro e w' ⟨v, r1, ro1, out', β', RO', he, ⟨rfl, rfl⟩, hw, hrv⟩
        obtain ⟨x1, env1, st1, β2, RO2, ⟨rfl, rfl, rfl⟩, h3, h4, _⟩ := plW_gives (K' := fun x1 e1 t1 => x1 = x ∧ e1 = env' ∧ t1 = st') hs hw hrv (plE_ok h ⟨rfl, rfl, rfl⟩) (.inr ⟨flatV_ok hfl.1, flatF_ok hfl.2⟩)
        exact ⟨v, β2, RO2, he, h3, h4⟩

/-- Code that is run, so deep. -/
noncomputable def evN (C : Ctx) (X : ExtE) (O : OrcE) (T : InT) (M : List Nat) (m : Nat) (n : Nat) : EvT :=
  Nat.rec (fun _ _ _ _ _ _ => none) (fun _ rec => evSF C X (callE C O T M) m rec) n
theorem evN_ok (hC : C.OK P) {X : ExtE} (hX : ExtOK P X) {O : OrcE} (hO : OrcOK P O) {T : InT} (hT : InOK P T) {M : List Nat} {m : Nat} : ∀ n, EvOK P (evN C X O T M m n)
  | 0 => fun _ _ _ _ _ _ _ _ _ _ h => by cases h
  | n + 1 => by
    have h := evS_ok (m := m) hC hX (callE_ok (M := M) hC hO hT (evN_ok hC hX hO hT (M := M) (m := m) n)) (evN_ok hC hX hO hT (M := M) (m := m) n)
    rw [← evSF_eq] at h
    exact h

/-- The first statements are run. -/
noncomputable def preE (rec : EvT) (N : Nat) (kp : Kp) (od : Od) : Nat → Code → Env → St → Nat → Option (Code × (Env × (St × Nat)))
  | 0, c, env, st, k => some (c, env, st, k)
  | n + 1, c, env, st, k => match c with
    | .seq x y => okIf (codeYOK N od x) (match rec x kp od env st k with
      | some (.normal, env, st, k) => preE rec N kp od n y env st k
      | _ => none)
    | _ => none
theorem preE_wp {rec : EvT} (hr : EvOK P rec) {kp : Kp} {od : Od} {c' : Code} {Q : Exit → Act → World → Prop} (hQ : ∀ β RO a w, SR E N β RO env' st' a w → c'.wp P Q a w) : ∀ {n : Nat} {c : Code} {env : Env} {st : St} {k : Nat} {β : K → Nat} {RO : Nat → Prop} {a : Act} {w : World},
    preE rec N kp od n c env st k = some (c', env', st', k') → SR E N β RO env st a w → c.wp P Q a w
  | 0, c, env, st, k, β, RO, a, w, h, hs => by cases h; exact hQ β RO a w hs
  | n + 1, c, env, st, k, β, RO, a, w, h, hs => by
    simp only [preE] at h
    split at h
    · rename_i x y
      obtain ⟨hk, h⟩ := okIf_some h
      split at h
      · rename_i env1 st1 k1 h1
        refine wp_seq (wp_mono ((wpIn_wide (n := 0)).1 (hr _ _ _ _ _ _ _ _ _ _ h1 E N β RO a w hk hs)) ?_)
        rintro e a w ⟨env2, st2, β2, RO2, ⟨rfl, rfl, rfl⟩, hs2⟩
        exact preE_wp hr hQ h hs2
      · cases h
    · cases h

/-- A function is run. -/
theorem spec_run (hC : C.OK P) {X : ExtE} (hX : ExtOK P X) {O : OrcE} (hO : OrcOK P O) {T : InT} (hT : InOK P T) {M : List Nat} {m n f : Nat} {x : Func × (Code × (Kp × Od))} (hx : look T f = some x) {args : List LV} {out : List Fr} {r : LV} {ro : Fr}
    (h : isoE C (evN C X O T M m n) x args out = some (r, ro)) : SpecP P f args out fun r1 ro1 => r1 = r ∧ ro1 = ro := isoE_ok hC (evN_ok hC hX hO hT n) (hT f x hx) h
end
end Go.Fw

/- The value logic, part 28: functions that write objects of their caller. -/
namespace Go.Fw
open Go

/-! ### Objects under other names -/
section
variable {β : K → Nat} {RO : Nat → Prop} {w w' : World}
theorem VL.unmap {g : K → K} : ∀ {x : LV} {v : Value}, VL β RO w (mapV g x) v → VL (fun k => β (g k)) RO w x v := by
  intro x
  induction x using LV.rec (motive_2 := fun cs => ∀ (i : Nat) (y : LV) (v : Value), cs[i]? = some y → VL β RO w (mapV g y) v → VL (fun k => β (g k)) RO w y v) with
  | bad => intro v _; exact .bad v
  | t x => intro v h; simp only [mapV] at h; cases h with | t _ _ h => exact .t _ _ h
  | osl k sz off len => intro v h; simp only [mapV] at h; cases h with | osl _ _ _ _ cap e n a b c d => exact .osl (β := fun k => β (g k)) k sz off len cap e n a b c d
  | ptr k c => intro v h; simp only [mapV] at h; cases h; exact .ptr (β := fun k => β (g k)) k c
  | pel k sz i j => intro v h; simp only [mapV] at h; cases h; exact .pel (β := fun k => β (g k)) k sz i j
  | ipt cs => intro v h; simp only [mapV] at h; cases h with | ipt _ b off u a b c => exact .ipt cs _ _ u a b c
  | fn f cap =>
    intro v h
    simp only [mapV] at h
    cases h
    have : ((mapC g cap).map fun p => Value.pointer (some ⟨β p.1, p.2, none⟩)) = cap.map fun p => Value.pointer (some ⟨(fun k => β (g k)) p.1, p.2, none⟩) := by
      rw [mapC_eq, List.map_map]; rfl
    rw [this]
    exact .fn (β := fun k => β (g k)) f cap
  | mpr k => intro v h; simp only [mapV] at h; cases h; exact .mpr (β := fun k => β (g k)) k
  | ifc t x ih => intro v h; simp only [mapV] at h; cases h with | ifc _ _ v h => exact .ifc t x v (ih h)
  | agg cs ih =>
    intro v h
    simp only [mapV, mapL_eq] at h
    cases h with
    | agg _ vs hl hv h1 => exact .agg cs vs (by simpa using hl) (fun i x v hx hvx => ih i x v hx (hv i _ v (by rw [List.getElem?_map, hx]; rfl) hvx)) h1
  | tup cs ih =>
    intro v h
    simp only [mapV, mapL_eq] at h
    cases h with
    | tup _ vs hl hv => exact .tup cs vs (by simpa using hl) fun i x v hx hvx => ih i x v hx (hv i _ v (by rw [List.getElem?_map, hx]; rfl) hvx)
  | nil => rename_i h _; simp at h
  | cons x r ihx ihr =>
    rename_i i y v h hv
    cases i with
    | zero => simp at h; subst h; exact ihx hv
    | succ i => simp at h; exact ihr i y v h hv

theorem ObOK.unmap {g : K → K} (hsub : ∀ k i, g (.sub k i) = .sub (g k) i) {k : K} {o : Ob} (h : ObOK β RO w (g k) (mapO g o)) : ObOK (fun k => β (g k)) RO w k o := by
  cases o with
  | row e sz es => exact h
  | box cs =>
    obtain ⟨vs, ety, h1, h2, h3, h4⟩ := h
    simp only [mapL_eq] at h2 h3
    exact ⟨vs, ety, h1, by simpa using h2, fun i x v hx hv => (h3 i _ v (by rw [List.getElem?_map, hx]; rfl) hv).unmap, h4⟩
  | grid eo e sz rs =>
    refine ObOK.gridTo (eo := eo) (e := e) (sz := sz) (rs := rs) (β := β) (k := g k) h rfl rfl fun i r r' u hi hi' hv => ?_
    rw [hi] at hi'; cases hi'
    cases r with
    | nil => exact hv
    | out => trivial
    | row es =>
      simp only [GrV] at hv ⊢
      rw [← hsub] at hv
      exact VL.unmap (g := g) (x := .osl (.sub k i) sz 0 es.length) hv
  | mp kd kv => exact h
  | mit m left => exact h

/-- A value stands as it stood, where blocks keep their numbers of cells. -/
theorem VL.mono2 {β' : K → Nat} {RO' : Nat → Prop} (hro : ∀ b, RO b → RO' b) (hw : ∀ b, RO b → w'.heap[b]? = w.heap[b]?)
    {x : LV} {v : Value} (h : VL β RO w x v) (S : K → Prop) (hS : ∀ k, S k → β' k = β k ∧ ∀ e n, w.shape? (β k) = some (e, n) → ∃ e', w'.shape? (β k) = some (e', n))
    (hx : ∀ k, LV.has k x = true → S k) : VL β' RO' w' x v := by
  have self : ∀ k : K, K.under k k = true := K.under_self
  induction h with
  | bad x => exact .bad x
  | t x v h => exact .t x v (h.mono hro hw)
  | osl k sz off len cap e n h hs hn hm =>
    obtain ⟨e1, e2⟩ := hS k (hx k (self k))
    obtain ⟨e', he'⟩ := e2 _ _ hs
    rw [← e1]; exact .osl k sz off len cap e' n h (by rw [e1]; exact he') hn hm
  | ptr k c => obtain ⟨e1, _⟩ := hS k (hx k (self k)); rw [← e1]; exact .ptr k c
  | pel k sz i j => obtain ⟨e1, _⟩ := hS k (hx k (self k)); rw [← e1]; exact .pel k sz i j
  | ipt cs b off u hb hcell hv => exact .ipt cs b off u (hro b hb) (fun j x hj => (World.cell?_of_block (hw b hb)).trans (hcell j x hj)) fun j x hj => (hv j x hj).mono hro hw
  | fn f cap =>
    have : (cap.map fun p => Value.pointer (some ⟨β p.1, p.2, none⟩)) = cap.map fun p => Value.pointer (some ⟨β' p.1, p.2, none⟩) := by
      refine List.map_congr_left fun p hp => ?_
      rw [(hS p.1 (hx p.1 (List.any_eq_true.2 ⟨p, hp, self p.1⟩))).1]
    rw [this]; exact .fn f cap
  | mpr k => obtain ⟨e1, _⟩ := hS k (hx k (self k)); rw [← e1]; exact .mpr k
  | ifc t x v _ ih => exact .ifc t x v (ih hx)
  | agg cs vs hl _ h1 ih =>
    refine .agg cs vs hl (fun i x v hi hv => ih i x v hi hv fun k hk => hx k ?_) h1
    simp only [LV.has]
    cases hc : LV.has.hasL k cs with
    | true => rfl
    | false => rw [hasL_mem hc x (List.mem_of_getElem? hi)] at hk; cases hk
  | tup cs vs hl _ ih =>
    refine .tup cs vs hl fun i x v hi hv => ih i x v hi hv fun k hk => hx k ?_
    simp only [LV.has]
    cases hc : LV.has.hasL k cs with
    | true => rfl
    | false => rw [hasL_mem hc x (List.mem_of_getElem? hi)] at hk; cases hk
end

/-! ### What is said of a function that writes -/
/-- What the call may change: the blocks of the objects that it is handed. -/
def entM (β : K → Nat) (RO : Nat → Prop) (w : World) (fr : Fr) : Ent := { w0 := w, RO0 := RO, Wr := fun b => ∃ k o, St.get ⟨[], fr⟩ k = some o ∧ b = β k, β0 := β, mv := fun _ => False, fz := true }

/-- The call comes back; of what was there only the objects 'fr' are written; those listed as pins stay where they lie. -/
structure SpecM (P : Program) (f : Nat) (args : List LV) (fr : Fr) (pins : List (Nat × Nat)) (Post : LV → Fr → Prop) : Prop where
  fn : FnOK P f
  calls : ∀ (β : K → Nat) (RO : Nat → Prop) (w : World) (vals : List Value), WR (entM β RO w fr) β RO ⟨[], fr⟩ w → Vals β RO w args vals →
    Calls P f vals.toArray w fun e w' => ∃ v r ro out' β' RO', e = .returned v ∧ Post r ro ∧ WR (entM β RO w fr) β' RO' ⟨out', ro⟩ w' ∧ VL β' RO' w' r v ∧
      ∀ s sz, look pins s = some sz → β' (.cur s) = β (.cur s) ∧ ∀ e n, w.shape? (β (.cur s)) = some (e, n) → ∃ e', w'.shape? (β (.cur s)) = some (e', n)

theorem SpecM.mono {P : Program} {f : Nat} {args : List LV} {fr : Fr} {pins : List (Nat × Nat)} {Post Post' : LV → Fr → Prop} (h : SpecM P f args fr pins Post) (hp : ∀ r ro, Post r ro → Post' r ro) : SpecM P f args fr pins Post' :=
  ⟨h.1, fun β RO w vals hw hv => (h.2 β RO w vals hw hv).mono fun _ _ ⟨v, r, ro, out', β', RO', h1, h2, h3⟩ => ⟨v, r, ro, out', β', RO', h1, hp _ _ h2, h3⟩⟩

/-- The slots that watch what stays. -/
def pinE : List (Nat × Nat) → Env
  | [] => []
  | p :: r => (1000000 + p.1, .osl (.cur p.1) p.2 0 0) :: pinE r
def pinB (env : Env) : List (Nat × Nat) → Bool
  | [] => true
  | p :: r => match look env (1000000 + p.1) with
    | some (.osl (.cur s) sz 0 0) => match Nat.beq s p.1, Nat.beq sz p.2 with
      | true, true => pinB env r
      | _, _ => false
    | _ => false
/-- The objects that are to stay are boxes and rows, of elements so wide. -/
def pinO (fr : Fr) : List (Nat × Nat) → Bool
  | [] => true
  | p :: r => (match look fr p.1 with
    | some (.row _ sz _) => Nat.beq sz p.2
    | some (.box cs) => Nat.beq 1 p.2 && Nat.ble cs.length 1000000
    | some (.grid (.sl _) _ _ _) => Nat.beq 1 p.2
    | _ => false) && pinO fr r

noncomputable def pinG (β : K → Nat) (w : World) (pins : List (Nat × Nat)) (n : Nat) : Option Value := match look pins (n - 1000000) with
  | some sz => some (.slice (some ⟨β (.cur (n - 1000000)), 0, none⟩) 0 (match w.shape? (β (.cur (n - 1000000))) with | some (_, m) => m / sz | none => 0))
  | none => none

/-- What is asked where the call comes back. -/
def retM (C : Ctx) (rs : List ResultVar) (pins : List (Nat × Nat)) (Post : LV → Fr → Prop) (e : Exit) (env : Env) (st : St) : Prop := match e with
  | .ret | .normal => match resL C env st rs with
    | some l => pinB env pins = true ∧ ∃ cs, keepW cs st.cur (Post (resV l))
    | none => False
  | _ => False

section
variable {C : Ctx} {P : Program} {E : Ent} {N : Nat} {β : K → Nat} {RO : Nat → Prop} {env : Env} {st : St} {a : Act} {w w' : World}

theorem pinO_look {fr : Fr} : ∀ {pins : List (Nat × Nat)}, pinO fr pins = true → ∀ {s sz : Nat}, look pins s = some sz → (∃ e es, look fr s = some (.row e sz es)) ∨ (∃ cs, look fr s = some (.box cs) ∧ sz = 1 ∧ cs.length ≤ 1000000) ∨ (∃ (a b c : Nat) (d : List GR), look fr s = some (.grid a b c d) ∧ sz = 1)
  | [], _, s, sz, h => by simp [look] at h
  | p :: r, hp, s, sz, h => by
    simp only [pinO, Bool.and_eq_true] at hp
    rw [look_cons] at h
    split at h
    · rename_i he
      subst he; cases h
      have h1 := hp.1
      split at h1
      · rename_i e sz es hl
        have := Nat.eq_of_beq_eq_true h1
        subst this
        exact .inl ⟨_, _, hl⟩
      · rename_i cs hl
        simp only [Bool.and_eq_true] at h1
        exact .inr (.inl ⟨cs, hl, (Nat.eq_of_beq_eq_true h1.1).symm, Nat.le_of_ble_eq_true h1.2⟩)
      · rename_i hl
        exact .inr (.inr ⟨_, _, _, _, hl, (Nat.eq_of_beq_eq_true h1).symm⟩)
      · cases h1
    · exact pinO_look hp.2 h

theorem pinB_look {env : Env} : ∀ {pins : List (Nat × Nat)}, pinB env pins = true → ∀ {s sz : Nat}, look pins s = some sz → look env (1000000 + s) = some (.osl (.cur s) sz 0 0)
  | [], _, s, sz, h => by simp [look] at h
  | p :: r, hp, s, sz, h => by
    simp only [pinB] at hp
    split at hp
    rotate_left
    · cases hp
    rename_i s' sz' hl
    split at hp
    rotate_left
    · cases hp
    rename_i h1 h2
    have h1 := Nat.eq_of_beq_eq_true h1
    have h2 := Nat.eq_of_beq_eq_true h2
    subst h1; subst h2
    rw [look_cons] at h
    split at h
    · rename_i he
      cases h
      rw [← he]; exact hl
    · exact pinB_look hp h

theorem look_pinE : ∀ {pins : List (Nat × Nat)} {n : Nat} {x : LV}, look (pinE pins) n = some x → 1000000 ≤ n ∧ ∃ sz, look pins (n - 1000000) = some sz ∧ x = .osl (.cur (n - 1000000)) sz 0 0
  | [], n, x, h => by simp [pinE, look] at h
  | p :: r, n, x, h => by
    simp only [pinE] at h
    rw [look_cons] at h
    split at h
    · rename_i he
      subst he; cases h
      have : 1000000 + p.1 - 1000000 = p.1 := by omega
      refine ⟨by omega, p.2, ?_, ?_⟩
      · rw [this, look_cons, if_pos rfl]
      · rw [this]
    · rename_i he
      obtain ⟨h1, sz, h2, h3⟩ := look_pinE h
      refine ⟨h1, sz, ?_, h3⟩
      rw [look_cons, if_neg (by omega)]; exact h2

/-- A function that writes objects of its caller is right where its body is. -/
theorem specM_walk (hC : C.OK P) {f : Nat} {fn : Func} {c : Code} {args : List LV} {fr : Fr} {pins : List (Nat × Nat)} {Post : LV → Fr → Prop} {H : HW} (hH : HOK P H) (kp : Kp) (od : Od) (hf : P.funcs[f]? = some fn) (hb : fn.body = some c)
    (hk : (Nat.ble fn.ntmps 1000000 && codeYOK fn.ntmps od c) = true) (hn : Nat.ble args.length fn.ntmps = true) (hfn : FnOK P f) (hp : pinO fr pins = true)
    (hW : LV.ok.okL args → wpcX C P noY H 0 kp od c (argE 0 args ++ pinE pins) ⟨[], fr⟩ (retM C fn.results.toList pins Post)) : SpecM P f args fr pins Post := by
  simp only [Bool.and_eq_true] at hk
  obtain ⟨hq, hk⟩ := hk
  have hq : fn.ntmps ≤ 1000000 := by simpa using hq
  have hn : args.length ≤ fn.ntmps := by simpa using hn
  refine ⟨hfn, fun β RO w vals hw hv => calls_out (r := none) (n := 0) ?_⟩
  have hlen : vals.length = args.length := hv.1.symm
  obtain ⟨E5, hE5⟩ : ∃ E5 : Ent, E5 = { entM β RO w fr with gh := pinG β w pins, dfs := [] } := ⟨_, rfl⟩
  have hsame : E5 = { entM β RO w fr with gh := E5.gh, dfs := E5.dfs } := by rw [hE5]
  have hback : entM β RO w fr = { E5 with gh := (entM β RO w fr).gh, dfs := (entM β RO w fr).dfs } := by rw [hE5]
  have hgh : ∀ (a : Act) (n : Nat), 1000000 ≤ n → tmpAt E5 a n = pinG β w pins n := fun a n hn => by
    unfold tmpAt
    rw [show Nat.blt n 1000000 = false by rw [Bool.eq_false_iff]; intro hb; rw [Nat.blt_eq] at hb; omega, hE5]
  -- what lies where a pin is
  have hpin : ∀ s sz, look pins s = some sz → ∃ e m, w.shape? (β (.cur s)) = some (e, m) ∧ m = (m / sz) * sz ∧ m / sz ≤ maxLen := by
    intro s sz hs
    rcases pinO_look hp hs with ⟨e, es, hl⟩ | ⟨cs, hl, rfl, hcl⟩ | ⟨eo, e, sz', rs, hl, rfl⟩
    · obtain ⟨us, cap, hown, _⟩ := hw.obj (.cur s) _ hl
      rcases hown.2 with ⟨h0, _⟩ | ⟨g, cap', cur, hgv, _, hh, hnc, hcm, hcs, _⟩
      · cases h0
      cases hgv
      refine ⟨e, cur.size, by simp only [World.shape?, hh], ?_⟩
      rcases Nat.eq_zero_or_pos sz with hz | hz
      · subst hz; simp at hcs; simp [hcs]
      · rw [hcs, Nat.mul_div_cancel _ hz]; exact ⟨rfl, hcm⟩
    · obtain ⟨vs, ety, hh, hl2, _⟩ := hw.obj (.cur s) _ hl
      exact ⟨ety, vs.length, by simp only [World.shape?, hh]; simp, by simp, by simp [maxLen]; omega⟩
    · obtain ⟨us, cap, hown, _⟩ := hw.obj (.cur s) _ hl
      rcases hown.2 with ⟨h0, _⟩ | ⟨g, cap', cur, hgv, _, hh, hnc, hcm, hcs, _⟩
      · cases h0
      cases hgv
      refine ⟨eo, cur.size, by simp only [World.shape?, hh], ?_⟩
      rw [hcs, Nat.mul_div_cancel _ Nat.one_pos]; exact ⟨rfl, hcm⟩
  have hs : SR E5 fn.ntmps β RO (argE 0 args ++ pinE pins) ⟨[], fr⟩ { tmps := vals.toArray ++ Array.replicate (fn.ntmps - vals.toArray.size) undef, defers := [] } w := by
    refine ⟨wr_same hw hsame, ⟨by simp; omega, hq⟩, by rw [hE5], fun n x hx => ?_⟩
    rcases look_app hx with hx | ⟨_, hx⟩
    · obtain ⟨_, h2⟩ := argE_look hx
      simp only [Nat.sub_zero] at h2
      have hlt : n < vals.length := by rw [hlen]; exact (List.getElem?_eq_some_iff.1 h2).1
      refine ⟨vals[n], ?_, hv.2 n x _ h2 (List.getElem?_eq_getElem hlt)⟩
      rw [tmpAt_lt (by omega), Array.getElem?_append_left (by simpa using hlt)]
      simp [hlt]
    · obtain ⟨h1, sz, h2, rfl⟩ := look_pinE hx
      obtain ⟨e, m, h3, h4, h5⟩ := hpin _ _ h2
      refine ⟨.slice (some ⟨β (.cur (n - 1000000)), 0, none⟩) 0 (m / sz), ?_, ?_⟩
      · rw [hgh _ n h1]; simp only [pinG, h2, h3]
      · have := VL.osl (β := β) (RO := RO) (w := w) (.cur (n - 1000000)) sz 0 0 (m / sz) e m (Nat.zero_le _) h3 (by rw [Nat.zero_add]; exact h4) (by omega)
        rw [Nat.zero_mul] at this; exact this
  refine callsIn_of_wp hf hb trivial (wpIn_mono (wpcX_in hC noY_ok hH c hk β RO _ _ _ w _ hs (hW hv.ok)) ?_)
  have fin : ∀ {env : Env} {st : St} {β' : K → Nat} {RO' : Nat → Prop} {a : Act} {w' : World}, (match resL C env st fn.results.toList with | some l => pinB env pins = true ∧ ∃ cs, keepW cs st.cur (Post (resV l)) | none => False) → SR E5 fn.ntmps β' RO' env st a w' →
      a.defers = [] ∧ ∃ v, (results fn a.tmps).run P w' = .ok v w' ∧ ∃ v' r ro out' β' RO', Ending.returned v = .returned v' ∧ Post r ro ∧ WR (entM β RO w fr) β' RO' ⟨out', ro⟩ w' ∧ VL β' RO' w' r v' ∧
        ∀ s sz, look pins s = some sz → β' (.cur s) = β (.cur s) ∧ ∀ e n, w.shape? (β (.cur s)) = some (e, n) → ∃ e', w'.shape? (β (.cur s)) = some (e', n) := by
    intro env st β' RO' a w' hq hs
    split at hq
    rotate_left
    · cases hq
    rename_i l hl
    obtain ⟨hpb, cs, hpo⟩ := hq
    obtain ⟨cur', hpo, hless⟩ := keepW_gives hpo
    obtain ⟨v, h1, h2⟩ := res_run hC hs hl
    refine ⟨by rw [hs.defers, hE5], v, h1, v, resV l, cur', st.out, β', RO', rfl, hpo, (wr_same hs.wr hback).less (fun k o hk => get_less hless k o hk), h2, fun s sz hps => ?_⟩
    obtain ⟨u, g1, g2⟩ := hs.env _ _ (pinB_look hpb hps)
    have e1 : 1000000 + s - 1000000 = s := by omega
    rw [hgh _ _ (by omega)] at g1
    obtain ⟨e, m, h3, h4, h5⟩ := hpin _ _ hps
    simp only [pinG, e1, hps, h3, Option.some.injEq] at g1
    subst g1
    generalize hb' : β (.cur s) = b0 at *
    have inv : ∀ u, VL β' RO' w' (.osl (.cur s) sz 0 0) u → u = .slice (some ⟨b0, 0, none⟩) 0 (m / sz) → β' (.cur s) = b0 ∧ ∃ e', w'.shape? b0 = some (e', m) := by
      intro u hu he
      cases hu with
      | osl _ _ _ _ cap e n a b c d =>
        rw [Nat.zero_mul, Nat.zero_add] at *
        injection he with he1 _ he3
        injection he1 with he1
        injection he1 with he1 _ _
        subst he1; subst he3
        exact ⟨rfl, e, by rw [h4, ← c]; exact b⟩
    obtain ⟨i1, e', i2⟩ := inv _ g2 rfl
    refine ⟨i1, fun e2 n2 he2 => ⟨e', ?_⟩⟩
    rw [h3] at he2
    cases he2
    exact i2
  rintro e a' w' ⟨env, st, β', RO', hq, hs⟩
  cases e with
  | normal => exact fin hq hs
  | ret => exact fin hq hs
  | _ => exact hq.elim

end
end Go.Fw

/- The value logic, part 29: a call of a function that writes objects of its caller. -/
namespace Go.Fw
open Go

/-! ### The names of the objects that are handed on -/
abbrev Ren := List (Nat × Nat)
def bk : Ren → Nat → Option Nat
  | [], _ => none
  | p :: r, n => match Nat.beq p.2 n with
    | true => some p.1
    | false => bk r n
def renK (ρ : Ren) : K → K
  | .cur s => match look ρ s with
    | some n => .cur n
    | none => .cur s
  | .fr i s => .fr i s
  | .sub k i => .sub (renK ρ k) i
def domK (ρ : Ren) : K → Bool
  | .cur s => match look ρ s with
    | some _ => true
    | none => false
  | .fr _ _ => false
  | .sub k _ => domK ρ k
def unK (ρ : Ren) : K → Option K
  | .cur n => match bk ρ n with
    | some s => some (.cur s)
    | none => none
  | .fr _ _ => none
  | .sub k i => match unK ρ k with
    | some k0 => some (.sub k0 i)
    | none => none
def rhoB (ρ0 : Ren) : Ren → Bool
  | [] => true
  | p :: r => (match look ρ0 p.1 with | some n => Nat.beq n p.2 | none => false) && ((match bk ρ0 p.2 with | some s => Nat.beq s p.1 | none => false) && rhoB ρ0 r)
def domF (ρ : Ren) : Fr → Bool
  | [] => true
  | p :: r => domK ρ (.cur p.1) && (p.2.allK (domK ρ) && domF ρ r)
def modO (ρ : Ren) (cur : Fr) : Fr → Prop
  | [] => True
  | p :: r => (match look ρ p.1 with | some n => look cur n = some (mapO (renK ρ) p.2) | none => False) ∧ modO ρ cur r
/-- Does what the name stands for lie where it lay? -/
def livK (ρ : Ren) (pins : List (Nat × Nat)) (st : St) : K → Bool
  | .cur n => match bk ρ n with
    | some s => match look pins s with
      | some _ => true
      | none => false
    | none => match look st.cur n with
      | some _ => true
      | none => false
  | .fr _ _ => false
  | .sub _ _ => false
def livV (ρ : Ren) (pins : List (Nat × Nat)) (st : St) (x : LV) : LV := match x.allK (livK ρ pins st) with
  | true => x
  | false => .bad
def livL (ρ : Ren) (pins : List (Nat × Nat)) (st : St) : List LV → List LV
  | [] => []
  | x :: r => livV ρ pins st x :: livL ρ pins st r
def livO (ρ : Ren) (pins : List (Nat × Nat)) (st : St) : Ob → Ob
  | .box cs => .box (livL ρ pins st cs)
  | o => o
def livE (ρ : Ren) (pins : List (Nat × Nat)) (st : St) : Env → Env
  | [] => []
  | (n, x) :: r => (n, livV ρ pins st x) :: livE ρ pins st r
def modC (ρ : Ren) (pins : List (Nat × Nat)) (st : St) (ro : Fr) : Fr → Fr
  | [] => []
  | (n, o) :: r => match bk ρ n with
    | some s => match look ro s with
      | some o' => (n, mapO (renK ρ) o') :: modC ρ pins st ro r
      | none => modC ρ pins st ro r
    | none => (n, livO ρ pins st o) :: modC ρ pins st ro r
/-- Do iterators stand over maps that are not handed on? -/
def mitB (ρ : Ren) : Fr → Bool
  | [] => true
  | p :: r => match p.2 with
    | .mit m _ => match unK ρ m with
      | some _ => false
      | none => mitB ρ r
    | _ => mitB ρ r

/-- What is asked behind the call. -/
def backW (ρ : Ren) (pins : List (Nat × Nat)) (r : LV) (ro : Fr) (env : Env) (st : St) (K' : LV → Env → St → Prop) : Prop :=
  (r.allK (domK ρ) && domF ρ ro) = true ∧ K' (mapV (renK ρ) r) (livE ρ pins st env) ⟨[], modC ρ pins st ro st.cur⟩

/-- Slots that show rows of a row of rows that is not handed on: they stand as they stood. -/
def exP (ρ : Ren) (st : St) (env : Env) : Env → Prop
  | [] => True
  | p :: r => (look env p.1 = some p.2 ∧ ∃ n i sz off len o, p.2 = .osl (.sub (.cur n) i) sz off len ∧ bk ρ n = none ∧ st.get (.sub (.cur n) i) = some o) ∧ exP ρ st env r
def backX (ρ : Ren) (pins : List (Nat × Nat)) (ex : Env) (r : LV) (ro : Fr) (env : Env) (st : St) (K' : LV → Env → St → Prop) : Prop :=
  (r.allK (domK ρ) && domF ρ ro) = true ∧ K' (mapV (renK ρ) r) (ex ++ livE ρ pins st env) ⟨[], modC ρ pins st ro st.cur⟩
/-- A call of a function that writes: which of the own objects it is handed. -/
inductive ModH (P : Program) (f : Nat) (args : List LV) (env : Env) (st : St) (K' : LV → Env → St → Prop) : Prop
  | mk (ρ : Ren) {margs : List LV} {fr : Fr} {pins : List (Nat × Nat)} {Post : LV → Fr → Prop} (hs : SpecM P f margs fr pins Post) (ha : args = mapV.mapL (renK ρ) margs)
      (hk : (rhoB ρ ρ && (LV.allK.allL (domK ρ) margs && (domF ρ fr && mitB ρ st.cur))) = true) (ho : modO ρ st.cur fr) (hK : ∀ r ro, Post r ro → backW ρ pins r ro env st K')
  | mkx (ρ : Ren) (ex : Env) {margs : List LV} {fr : Fr} {pins : List (Nat × Nat)} {Post : LV → Fr → Prop} (hs : SpecM P f margs fr pins Post) (ha : args = mapV.mapL (renK ρ) margs)
      (hk : (rhoB ρ ρ && (LV.allK.allL (domK ρ) margs && (domF ρ fr && mitB ρ st.cur))) = true) (ho : modO ρ st.cur fr) (hex : exP ρ st env ex) (hK : ∀ r ro, Post r ro → backX ρ pins ex r ro env st K')

section
variable {P : Program} {E : Ent} {N : Nat} {β β' : K → Nat} {RO RO' : Nat → Prop} {env : Env} {st : St} {a : Act} {w w' : World} {ρ : Ren}

theorem look_mem {α : Type} : ∀ {l : List (Nat × α)} {n : Nat} {x : α}, look l n = some x → (n, x) ∈ l
  | [], n, x, h => by simp [look] at h
  | p :: r, n, x, h => by
    rw [look_cons] at h
    split at h
    · rename_i he; cases h; subst he; exact List.mem_cons_self ..
    · exact List.mem_cons_of_mem _ (look_mem h)
theorem bk_mem : ∀ {l : Ren} {n s : Nat}, bk l n = some s → (s, n) ∈ l
  | [], n, s, h => by simp [bk] at h
  | p :: r, n, s, h => by
    simp only [bk] at h
    split at h
    · rename_i he
      cases h
      have := Nat.eq_of_beq_eq_true he
      subst this; exact List.mem_cons_self ..
    · exact List.mem_cons_of_mem _ (bk_mem h)
theorem rhoB_mem {ρ0 : Ren} : ∀ {l : Ren}, rhoB ρ0 l = true → ∀ {s n : Nat}, (s, n) ∈ l → look ρ0 s = some n ∧ bk ρ0 n = some s
  | [], _, s, n, h => by cases h
  | p :: r, h, s, n, hm => by
    simp only [rhoB, Bool.and_eq_true] at h
    obtain ⟨h1, h2, h3⟩ := h
    rcases List.mem_cons.1 hm with he | hm
    · subst he
      split at h1
      · rename_i n' hn
        have := Nat.eq_of_beq_eq_true h1
        subst this
        split at h2
        · rename_i s' hs'
          have := Nat.eq_of_beq_eq_true h2
          subst this
          exact ⟨hn, hs'⟩
        · cases h2
      · cases h1
    · exact rhoB_mem h3 hm

theorem un_ren (hρ : rhoB ρ ρ = true) : ∀ {k : K}, domK ρ k = true → unK ρ (renK ρ k) = some k
  | .cur s, h => by
    simp only [domK] at h
    split at h
    · rename_i n hn
      obtain ⟨_, h2⟩ := rhoB_mem hρ (look_mem hn)
      simp only [renK, hn, unK, h2]
    · cases h
  | .fr _ _, h => by cases h
  | .sub k i, h => by simp only [renK, unK, un_ren (k := k) hρ h]
theorem ren_un (hρ : rhoB ρ ρ = true) : ∀ {k k0 : K}, unK ρ k = some k0 → renK ρ k0 = k ∧ domK ρ k0 = true ∧ k.isFr = false
  | .cur n, k0, h => by
    simp only [unK] at h
    split at h
    · rename_i s hs
      cases h
      obtain ⟨h1, _⟩ := rhoB_mem hρ (bk_mem hs)
      simp only [renK, h1, domK]; exact ⟨trivial, trivial, rfl⟩
    · cases h
  | .fr _ _, _, h => by cases h
  | .sub k i, k0, h => by
    simp only [unK] at h
    split at h
    · rename_i k1 h1
      cases h
      obtain ⟨g1, g2, g3⟩ := ren_un hρ h1
      exact ⟨by simp only [renK, g1], g2, g3⟩
    · cases h
theorem ren_inj (hρ : rhoB ρ ρ = true) {k k' : K} (h : domK ρ k = true) (h' : domK ρ k' = true) (he : renK ρ k = renK ρ k') : k = k' := by
  have h1 := un_ren hρ h
  rw [he, un_ren hρ h'] at h1
  exact (Option.some.inj h1).symm
theorem ren_fr : ∀ {k : K}, domK ρ k = true → (renK ρ k).isFr = false ∧ k.isFr = false
  | .cur s, h => by
    simp only [domK] at h
    split at h
    · rename_i n hn; simp only [renK, hn]; exact ⟨rfl, rfl⟩
    · cases h
  | .fr _ _, h => by cases h
  | .sub k i, h => ren_fr (k := k) h

theorem modO_look {cur : Fr} : ∀ {fr : Fr}, modO ρ cur fr → ∀ {s : Nat} {o : Ob}, look fr s = some o → ∃ n, look ρ s = some n ∧ look cur n = some (mapO (renK ρ) o)
  | [], _, s, o, h => by simp [look] at h
  | p :: r, h, s, o, hl => by
    obtain ⟨h1, h2⟩ := h
    rw [look_cons] at hl
    split at hl
    · rename_i he
      subst he; cases hl
      split at h1
      · rename_i n hn; exact ⟨n, hn, h1⟩
      · cases h1
    · exact modO_look h2 hl
theorem domF_look : ∀ {fr : Fr}, domF ρ fr = true → ∀ {s : Nat} {o : Ob}, look fr s = some o → domK ρ (.cur s) = true ∧ o.allK (domK ρ) = true
  | [], _, s, o, h => by simp [look] at h
  | p :: r, h, s, o, hl => by
    simp only [domF, Bool.and_eq_true] at h
    rw [look_cons] at hl
    split at hl
    · rename_i he
      subst he; cases hl; exact ⟨h.1, h.2.1⟩
    · exact domF_look h.2.2 hl

theorem get_no_fr {fr : Fr} {i s : Nat} {o : Ob} (h : St.get ⟨[], fr⟩ (.fr i s) = some o) : False := by simp [St.get] at h
theorem frag_get {fr : Fr} (ho : modO ρ st.cur fr) {k : K} {o : Ob} (h : St.get ⟨[], fr⟩ k = some o) : domK ρ k = true ∧ st.get (renK ρ k) = some (mapO (renK ρ) o) := by
  have root : ∀ s o, St.get ⟨[], fr⟩ (.cur s) = some o → domK ρ (.cur s) = true ∧ st.get (renK ρ (.cur s)) = some (mapO (renK ρ) o) := fun s o h => by
    obtain ⟨n, h1, h2⟩ := modO_look ho (s := s) (o := o) h
    exact ⟨by simp only [domK, h1], by simp only [renK, h1]; exact h2⟩
  cases k with
  | cur s => exact root s o h
  | fr i s => exact (get_no_fr h).elim
  | sub k i =>
    obtain ⟨eo, e, sz, rs, es, hg, hi, rfl⟩ := St.get_sub h
    cases k with
    | cur s =>
      obtain ⟨g1, g2⟩ := root s _ hg
      exact ⟨g1, by simp only [renK] at g2 ⊢; simp only [St.get] at g2 ⊢; simp only [g2, mapO, hi]⟩
    | fr j s => exact (get_no_fr hg).elim
    | sub k2 j => have := St.root_of_get_grid hg; cases this

theorem look_modC {pins : List (Nat × Nat)} {ro : Fr} : ∀ {cur : Fr} {n : Nat} {o : Ob}, look (modC ρ pins st ro cur) n = some o →
    (∃ s o', bk ρ n = some s ∧ look ro s = some o' ∧ o = mapO (renK ρ) o') ∨ (bk ρ n = none ∧ ∃ o0, look cur n = some o0 ∧ o = livO ρ pins st o0)
  | [], n, o, h => by simp [modC, look] at h
  | (m, x) :: r, n, o, h => by
    simp only [modC] at h
    have step : look (modC ρ pins st ro r) n = some o → m ≠ n ∨ bk ρ m ≠ none → (∃ s o', bk ρ n = some s ∧ look ro s = some o' ∧ o = mapO (renK ρ) o') ∨ (bk ρ n = none ∧ ∃ o0, look ((m, x) :: r) n = some o0 ∧ o = livO ρ pins st o0) := fun h hne => by
      rcases look_modC h with h | ⟨h1, o0, h2, h3⟩
      · exact .inl h
      · refine .inr ⟨h1, o0, ?_, h3⟩
        rw [look_cons, if_neg]
        · exact h2
        · rintro rfl
          rcases hne with h | h
          · exact h rfl
          · exact h h1
    split at h
    · rename_i s hs
      split at h
      · rename_i o' ho'
        rw [look_cons] at h
        split at h
        · rename_i he
          subst he; cases h; exact .inl ⟨s, o', hs, ho', rfl⟩
        · rename_i he; exact step h (.inl he)
      · exact step h (.inr (by rw [hs]; simp))
    · rename_i hs
      rw [look_cons] at h
      split at h
      · rename_i he
        subst he; cases h; exact .inr ⟨hs, x, by rw [look_cons, if_pos rfl], rfl⟩
      · rename_i he; exact step h (.inl he)
theorem look_livE {pins : List (Nat × Nat)} : ∀ {env : Env} {n : Nat} {x : LV}, look (livE ρ pins st env) n = some x → ∃ y, look env n = some y ∧ x = livV ρ pins st y
  | [], n, x, h => by simp [livE, look] at h
  | (m, y) :: r, n, x, h => by
    simp only [livE] at h
    rw [look_cons] at h
    split at h
    · rename_i he; subst he; cases h; exact ⟨y, by rw [look_cons, if_pos rfl], rfl⟩
    · rename_i he
      obtain ⟨z, h1, h2⟩ := look_livE h
      exact ⟨z, by rw [look_cons, if_neg he]; exact h1, h2⟩
theorem livL_eq {pins : List (Nat × Nat)} : ∀ cs : List LV, livL ρ pins st cs = cs.map (livV ρ pins st)
  | [] => rfl
  | x :: r => by simp only [livL, livL_eq r, List.map_cons]
theorem mapO_grid {g : K → K} {o : Ob} {eo : GO} {e sz : Nat} {rs : List GR} (h : mapO g o = .grid eo e sz rs) : o = .grid eo e sz rs := by
  cases o <;> simp only [mapO, reduceCtorEq] at h
  exact h
theorem livO_grid {pins : List (Nat × Nat)} {o : Ob} {eo : GO} {e sz : Nat} {rs : List GR} (h : livO ρ pins st o = .grid eo e sz rs) : o = .grid eo e sz rs := by
  cases o <;> simp only [livO, reduceCtorEq] at h
  exact h

theorem mitB_look : ∀ {cur : Fr}, mitB ρ cur = true → ∀ {n : Nat} {m : K} {l : List (Value × T)}, look cur n = some (.mit m l) → unK ρ m = none
  | [], _, n, m, l, h => by simp [look] at h
  | p :: r, hb, n, m, l, h => by
    have hr : mitB ρ r = true ∧ ∀ m l, p.2 = .mit m l → unK ρ m = none := by
      simp only [mitB] at hb
      split at hb
      · rename_i m' l' he
        split at hb
        · cases hb
        · rename_i hu
          exact ⟨hb, fun m l h => by rw [he] at h; cases h; exact hu⟩
      · rename_i hne
        exact ⟨hb, fun m l h => absurd h (hne m l)⟩
    rw [look_cons] at h
    split at h
    · exact hr.2 _ _ (Option.some.inj h)
    · exact mitB_look hr.1 h
theorem mod_get {pins : List (Nat × Nat)} {ro : Fr} {out' : List Fr} {k : K} {o : Ob} (h : St.get ⟨[], modC ρ pins st ro st.cur⟩ k = some o) :
    (∃ k0 o0, unK ρ k = some k0 ∧ St.get ⟨out', ro⟩ k0 = some o0 ∧ o = mapO (renK ρ) o0 ∧ k0.isFr = false) ∨ (unK ρ k = none ∧ k.isFr = false ∧ ∃ o0, st.get k = some o0 ∧ o = livO ρ pins st o0) := by
  have root : ∀ n o, St.get ⟨[], modC ρ pins st ro st.cur⟩ (.cur n) = some o → (∃ s o0, bk ρ n = some s ∧ St.get ⟨out', ro⟩ (.cur s) = some o0 ∧ o = mapO (renK ρ) o0) ∨ (bk ρ n = none ∧ ∃ o0, st.get (.cur n) = some o0 ∧ o = livO ρ pins st o0) := fun n o h => look_modC (o := o) h
  cases k with
  | cur n =>
    rcases root n o h with ⟨s, o0, h1, h2, h3⟩ | ⟨h1, o0, h2, h3⟩
    · exact .inl ⟨.cur s, o0, by simp only [unK, h1], h2, h3, rfl⟩
    · exact .inr ⟨by simp only [unK, h1], rfl, o0, h2, h3⟩
  | fr i n => exact (get_no_fr h).elim
  | sub k i =>
    obtain ⟨eo, e, sz, rs, es, hg, hi, rfl⟩ := St.get_sub h
    cases k with
    | cur n =>
      rcases root n _ hg with ⟨s, o0, h1, h2, h3⟩ | ⟨h1, o0, h2, h3⟩
      · have := mapO_grid h3.symm
        subst this
        refine .inl ⟨.sub (.cur s) i, .row e sz es, by simp only [unK, h1], ?_, rfl, rfl⟩
        simp only [St.get] at h2 ⊢
        simp only [h2, hi]
      · have := livO_grid h3.symm
        subst this
        refine .inr ⟨by simp only [unK, h1], rfl, .row e sz es, ?_, rfl⟩
        simp only [St.get] at h2 ⊢
        simp only [h2, hi]
    | fr j n => exact (get_no_fr hg).elim
    | sub k2 q => have := St.root_of_get_grid hg; cases this

/-- A value stands as it stood, where each of its names does. -/
theorem VL.mono3 {p : K → Bool} (hro : ∀ b, RO b → RO' b) (hw : ∀ b, RO b → w'.heap[b]? = w.heap[b]?)
    (hS : ∀ k, p k = true → β' k = β k ∧ ∀ e n, w.shape? (β k) = some (e, n) → ∃ e', w'.shape? (β k) = some (e', n)) {x : LV} {v : Value} (h : VL β RO w x v) : x.allK p = true → VL β' RO' w' x v := by
  induction h with
  | bad x => intro _; exact .bad x
  | t x v h => intro _; exact .t x v (h.mono hro hw)
  | osl k sz off len cap e n h hs hn hm =>
    intro hp
    obtain ⟨e1, e2⟩ := hS k hp
    obtain ⟨e', he'⟩ := e2 _ _ hs
    rw [← e1]; exact .osl k sz off len cap e' n h (by rw [e1]; exact he') hn hm
  | ptr k c => intro hp; obtain ⟨e1, _⟩ := hS k hp; rw [← e1]; exact .ptr k c
  | pel k sz i j => intro hp; obtain ⟨e1, _⟩ := hS k hp; rw [← e1]; exact .pel k sz i j
  | ipt cs b off u hb hcell hv => intro _; exact .ipt cs b off u (hro b hb) (fun j x hj => (World.cell?_of_block (hw b hb)).trans (hcell j x hj)) fun j x hj => (hv j x hj).mono hro hw
  | fn f cap =>
    intro hp
    have hall : ∀ {cap : List (K × Nat)}, LV.allK.allC p cap = true → ∀ q ∈ cap, p q.1 = true := by
      intro cap
      induction cap with
      | nil => intro _ q hq; cases hq
      | cons y r ih =>
        intro h q hq
        simp only [LV.allK.allC, Bool.and_eq_true] at h
        rcases List.mem_cons.1 hq with rfl | hq
        · exact h.1
        · exact ih h.2 q hq
    have : (cap.map fun p => Value.pointer (some ⟨β p.1, p.2, none⟩)) = cap.map fun p => Value.pointer (some ⟨β' p.1, p.2, none⟩) := by
      refine List.map_congr_left fun q hq => ?_
      rw [(hS q.1 (hall hp q hq)).1]
    rw [this]; exact .fn f cap
  | mpr k => intro hp; obtain ⟨e1, _⟩ := hS k hp; rw [← e1]; exact .mpr k
  | ifc t x v _ ih => intro hp; exact .ifc t x v (ih hp)
  | agg cs vs hl _ h1 ih => intro hp; exact .agg cs vs hl (fun i x v hi hv => ih i x v hi hv (allL_mem hp x (List.mem_of_getElem? hi))) h1
  | tup cs vs hl _ ih => intro hp; exact .tup cs vs hl fun i x v hi hv => ih i x v hi hv (allL_mem hp x (List.mem_of_getElem? hi))

theorem exP_look {st : St} {env : Env} : ∀ {ex : Env}, exP ρ st env ex → ∀ {n : Nat} {x : LV}, look ex n = some x → look env n = some x ∧ ∃ q i sz off len o, x = .osl (.sub (.cur q) i) sz off len ∧ bk ρ q = none ∧ st.get (.sub (.cur q) i) = some o
  | [], _, n, x, h => by simp [look] at h
  | p :: r, hp, n, x, h => by
    rw [look_cons] at h
    split at h
    · rename_i he; cases h; subst he; exact hp.1
    · exact exP_look hp.2 h
theorem modH_core (ρ : Ren) (ex : Env) {f : Nat} {N : Nat} {a : Act} {w : World} {E : Ent} {β : K → Nat} {RO : Nat → Prop} {vals : List Value} {env : Env} {st : St} {K' : LV → Env → St → Prop} {margs : List LV} {fr : Fr} {pins : List (Nat × Nat)} {Post : LV → Fr → Prop} (h : SR E N β RO env st a w) (hs : SpecM P f margs fr pins Post) (hv : Vals β RO w (mapV.mapL (renK ρ) margs) vals)
    (hk : (rhoB ρ ρ && (LV.allK.allL (domK ρ) margs && (domF ρ fr && mitB ρ st.cur))) = true) (ho : modO ρ st.cur fr) (hex : exP ρ st env ex) (hK : ∀ r ro, Post r ro → backX ρ pins ex r ro env st K') :
    FnOK P f ∧ Calls P f vals.toArray w fun e w' => ∃ v x env' st' β' RO', e = .returned v ∧ K' x env' st' ∧ SR E N β' RO' env' st' a w' ∧ VL β' RO' w' x v := by
  simp only [Bool.and_eq_true] at hk
  obtain ⟨hρ, hda, hdf, hmit⟩ := hk
  have hcan : ∀ {k : K}, domK ρ k = true → E.can (renK ρ k) := fun hd h => by rw [(ren_fr hd).1] at h; cases h
  have hWr : ∀ b, (entM (fun k => β (renK ρ k)) RO w fr).Wr b → ∃ k o, st.get (renK ρ k) = some o ∧ domK ρ k = true ∧ b = β (renK ρ k) := fun b ⟨k, o, hg, hb⟩ => by
    obtain ⟨g1, g2⟩ := frag_get ho hg
    exact ⟨k, _, g2, g1, hb⟩
  have hwr : WR (entM (fun k => β (renK ρ k)) RO w fr) (fun k => β (renK ρ k)) RO ⟨[], fr⟩ w := by
    refine ⟨rfl, rfl, rfl, Nat.le_refl _, fun _ _ _ => rfl, h.wr.roLt, fun _ h => h, fun _ h => .inl h, fun k o hg => ?_, fun k o hg _ => .inl ⟨k, o, hg, rfl⟩, fun k k' o o' hg hg' _ _ he => ?_, fun k o hg _ => ?_, fun k o hg hc => ?_, fun _ _ _ => rfl⟩
    · obtain ⟨g1, g2⟩ := frag_get ho hg
      exact ObOK.unmap (fun _ _ => rfl) (h.wr.obj _ _ g2)
    · obtain ⟨g1, g2⟩ := frag_get ho hg
      obtain ⟨f1, f2⟩ := frag_get ho hg'
      exact ren_inj hρ g1 f1 (h.wr.inj _ _ _ _ g2 f2 (hcan g1) (hcan f1) he)
    · obtain ⟨g1, g2⟩ := frag_get ho hg
      exact h.wr.sep _ _ g2 (hcan g1)
    · obtain ⟨g1, g2⟩ := frag_get ho hg
      exact absurd (fun h => by rw [(ren_fr g1).2] at h; cases h) hc
  have hvals : Vals (fun k => β (renK ρ k)) RO w margs vals := by
    refine ⟨by have := hv.1; rw [mapL_eq] at this; simpa using this, fun i x v hx hvx => ?_⟩
    exact VL.unmap (hv.2 i _ v (by rw [mapL_eq, List.getElem?_map, hx]; rfl) hvx)
  refine ⟨hs.fn, (hs.calls _ RO w vals hwr hvals).mono ?_⟩
  rintro e w' ⟨v, r, ro, out', β', RO', rfl, hpost, hw', hr, hpin⟩
  obtain ⟨hd, hK'⟩ := hK r ro hpost
  simp only [Bool.and_eq_true] at hd
  obtain ⟨hdr, hdro⟩ := hd
  let β2 : K → Nat := fun k => match unK ρ k with | some k0 => β' k0 | none => β k
  have hβn : ∀ k, domK ρ k = true → β2 (renK ρ k) = β' k := fun k hd => by simp only [β2, un_ren hρ hd]
  have hβo : ∀ k, unK ρ k = none → β2 k = β k := fun k hu => by simp only [β2, hu]
  have hout : ∀ {k : K} {o : Ob}, unK ρ k = none → st.get k = some o → ¬ (entM (fun k => β (renK ρ k)) RO w fr).Wr (β k) := by
    intro k o hu hg hb
    obtain ⟨k1, o1, g1, g2, g3⟩ := hWr _ hb
    by_cases hc : E.can k
    · have := h.wr.inj _ _ _ _ hg g1 hc (hcan g2) g3
      rw [this, un_ren hρ g2] at hu; cases hu
    · exact h.wr.sep _ _ g1 (hcan g2) (g3 ▸ h.wr.fzRO k o hg hc)
  have hsame : ∀ {k : K} {o : Ob}, unK ρ k = none → st.get k = some o → w'.heap[β k]? = w.heap[β k]? := fun hu hg => hw'.keep _ (h.wr.obj _ _ hg).lt (hout hu hg)
  have hroW : ∀ b, RO b → w'.heap[b]? = w.heap[b]? := fun b hb => hw'.keep b (h.wr.roLt b hb) fun hbw => by
    obtain ⟨k1, o1, g1, g2, g3⟩ := hWr _ hbw
    exact h.wr.sep _ _ g1 (hcan g2) (g3 ▸ hb)
  have hro : ∀ b, RO b → RO' b := fun b hb => hw'.ro0 b hb
  have hliv : ∀ k, livK ρ pins st k = true → β2 k = β k ∧ ∀ e n, w.shape? (β k) = some (e, n) → ∃ e', w'.shape? (β k) = some (e', n) := by
    intro k hk
    cases k with
    | cur n =>
      simp only [livK] at hk
      split at hk
      · rename_i s hs'
        split at hk
        · rename_i sz hp
          obtain ⟨g1, g2⟩ := hpin s sz hp
          obtain ⟨f1, f2⟩ := rhoB_mem hρ (bk_mem hs')
          have e1 : renK ρ (.cur s) = .cur n := by simp only [renK, f1]
          simp only [e1] at g1 g2
          exact ⟨by show (match unK ρ (.cur n) with | some k0 => β' k0 | none => β (.cur n)) = _; simp only [unK, hs']; exact g1, g2⟩
        · cases hk
      · rename_i hs'
        have hu : unK ρ (.cur n) = none := by simp only [unK, hs']
        split at hk
        · rename_i o hl
          refine ⟨hβo _ hu, fun e m he => ⟨e, ?_⟩⟩
          rw [shape_of_block (hsame hu (k := .cur n) (o := o) hl)]; exact he
        · cases hk
    | fr => cases hk
    | sub => cases hk
  have hval : ∀ {x : LV} {u : Value}, VL β RO w x u → VL β2 RO' w' (livV ρ pins st x) u := by
    intro x u hx
    unfold livV
    split
    · rename_i hl; exact VL.mono3 hro hroW hliv hx hl
    · exact .bad u
  refine ⟨v, mapV (renK ρ) r, ex ++ livE ρ pins st env, ⟨[], modC ρ pins st ro st.cur⟩, β2, RO', rfl, hK', ⟨⟨hw'.os.trans h.wr.os, hw'.tape.trans h.wr.tape, hw'.output.trans h.wr.output, Nat.le_trans h.wr.size hw'.size, fun b hlt hnw => ?_, hw'.roLt, fun b hb => hro b (h.wr.ro0 b hb), fun b hb => ?_, fun k o hg => ?_, fun k o hg hc => ?_, fun k k' o o' hg hg' hc hc' heq => ?_, fun k o hg hc => ?_, fun k o hg hc => ?_, fun k hf hnm => ?_⟩, h.size, h.defers, fun n x hx => ?_⟩, ?_⟩
  · rw [hw'.keep b (Nat.lt_of_lt_of_le hlt h.wr.size) fun hb => ?_]
    · exact h.wr.keep b hlt hnw
    · obtain ⟨k1, o1, g1, g2, rfl⟩ := hWr _ hb
      rcases h.wr.objNew _ _ g1 (hcan g2) with h1 | h1
      · exact hnw h1
      · omega
  · rcases hw'.roNew b hb with h1 | h1 | h1
    · exact h.wr.roNew b h1
    · exact .inr (.inl (Nat.le_trans h.wr.size h1))
    · obtain ⟨k1, o1, g1, g2, rfl⟩ := hWr _ h1
      rcases h.wr.objNew _ _ g1 (hcan g2) with h2 | h2
      · exact .inr (.inr h2)
      · exact .inr (.inl h2)
  · rcases mod_get (out' := out') hg with ⟨k0, o0, h1, h2, rfl, h3⟩ | ⟨h1, hnf, o0, h2, rfl⟩
    · obtain ⟨g1, g2, _⟩ := ren_un hρ h1
      rw [← g1]
      have hok := hw'.obj k0 o0 h2
      refine ObOK.map (p := domK ρ) (β2 := β2) (fun k hk => hβn k hk) (fun _ _ => rfl) g2 (fun _ => g2) hok ?_
      cases k0 with
      | cur s => exact (domF_look hdro h2).2
      | fr i s => cases h3
      | sub k i => obtain ⟨_, _, _, _, _, _, _, rfl⟩ := St.get_sub h2; rfl
    · have hok := h.wr.obj k o0 h2
      have hrest : (∀ cs, o0 ≠ .box cs) → ObOK β2 RO' w' k o0 := fun hnb => by
        refine hok.keep hro hroW (hβo k h1) (hsame h1 h2) (fun cs hcs => absurd hcs (hnb cs)) (fun eo e sz rs ho1 i es hi => ?_) fun m l ho1 => ?_
        · have hus : unK ρ (.sub k i) = none := by simp only [unK, h1]
          have hgs : st.get (.sub k i) = some (.row e sz es) := by
            rw [ho1] at h2
            simp only [St.get, h2, hi]
          exact ⟨hβo _ hus, fun r hr => by rw [shape_of_block (hsame hus hgs)]; exact hr⟩
        · have hm : unK ρ m = none := by
            subst ho1
            cases k with
            | cur n => exact mitB_look hmit h2
            | fr i n => cases hnf
            | sub k i => obtain ⟨_, _, _, _, _, _, _, h6⟩ := St.get_sub h2; cases h6
          rw [ho1] at hok
          obtain ⟨seen, ents, clock, _, hm2, hm3, _⟩ := hok
          exact ⟨hβo _ hm, hroW _ hm3⟩
      cases o0 with
      | box cs =>
        obtain ⟨vs, ety, g1, g2, g3, g4⟩ := hok
        refine ⟨vs, ety, by rw [hβo k h1, hsame h1 h2]; exact g1, by simp only [livL_eq]; simpa using g2, fun i x v hx hvx => ?_, g4⟩
        rw [livL_eq, List.getElem?_map] at hx
        cases hc : cs[i]? with
        | none => simp [hc] at hx
        | some y => simp [hc] at hx; rw [← hx]; exact hval (g3 i y v hc hvx)
      | row e sz es => exact hrest fun cs hcs => by cases hcs
      | grid eo e sz rs => exact hrest fun cs hcs => by cases hcs
      | mp kd kv => exact hrest fun cs hcs => by cases hcs
      | mit m l => exact hrest fun cs hcs => by cases hcs
  · rcases mod_get (out' := out') hg with ⟨k0, o0, h1, h2, _, h3⟩ | ⟨h1, _, o0, h2, _⟩
    · obtain ⟨g1, g2, _⟩ := ren_un hρ h1
      rw [← g1, hβn k0 g2]
      rcases hw'.objNew k0 o0 h2 (fun hf => by rw [h3] at hf; cases hf) with h4 | h4
      · obtain ⟨k1, o1, f1, f2, f3⟩ := hWr _ h4
        rw [f3]; exact h.wr.objNew _ _ f1 (hcan f2)
      · exact .inr (Nat.le_trans h.wr.size h4)
    · rw [hβo k h1]; exact h.wr.objNew k o0 h2 hc
  · have key : ∀ {k k' : K} {k0 : K} {o0 o0' : Ob}, unK ρ k = some k0 → St.get ⟨out', ro⟩ k0 = some o0 → k0.isFr = false → unK ρ k' = none → st.get k' = some o0' → β2 k = β2 k' → False := by
      intro k k' k0 o0 o0' h1 h2 h3 f1 f2 he
      obtain ⟨g1, g2, _⟩ := ren_un hρ h1
      rw [← g1, hβn k0 g2, hβo k' f1] at he
      rcases hw'.objNew k0 o0 h2 (fun hf => by rw [h3] at hf; cases hf) with h4 | h4
      · rw [he] at h4; exact hout f1 f2 h4
      · have := (h.wr.obj k' o0' f2).lt
        rw [← he] at this
        exact absurd (Nat.lt_of_lt_of_le this h4) (Nat.lt_irrefl _)
    rcases mod_get (out' := out') hg with ⟨k0, o0, h1, h2, _, h3⟩ | ⟨h1, _, o0, h2, _⟩ <;> rcases mod_get (out' := out') hg' with ⟨k0', o0', f1, f2, _, f3⟩ | ⟨f1, _, o0', f2, _⟩
    · obtain ⟨g1, g2, _⟩ := ren_un hρ h1
      obtain ⟨g1', g2', _⟩ := ren_un hρ f1
      have he : β' k0 = β' k0' := by
        have := heq
        simp only [β2, h1, f1] at this
        exact this
      rw [← g1, ← g1', hw'.inj k0 k0' o0 o0' h2 f2 (fun hf => by rw [h3] at hf; cases hf) (fun hf => by rw [f3] at hf; cases hf) he]
    · exact (key h1 h2 h3 f1 f2 heq).elim
    · exact (key f1 f2 f3 h1 h2 heq.symm).elim
    · exact h.wr.inj k k' o0 o0' h2 f2 hc hc' (by rw [← hβo k h1, ← hβo k' f1]; exact heq)
  · rcases mod_get (out' := out') hg with ⟨k0, o0, h1, h2, _, h3⟩ | ⟨h1, _, o0, h2, _⟩
    · obtain ⟨g1, g2, _⟩ := ren_un hρ h1
      rw [← g1, hβn k0 g2]
      exact hw'.sep k0 o0 h2 (fun hf => by rw [h3] at hf; cases hf)
    · rw [hβo k h1]
      intro hb
      rcases hw'.roNew _ hb with h4 | h4 | h4
      · exact h.wr.sep k o0 h2 hc h4
      · exact absurd (Nat.lt_of_lt_of_le (h.wr.obj k o0 h2).lt h4) (Nat.lt_irrefl _)
      · exact hout h1 h2 h4
  · rcases mod_get (out' := out') hg with ⟨k0, o0, h1, h2, _, h3⟩ | ⟨h1, _, o0, h2, _⟩
    · obtain ⟨g1, g2, g3⟩ := ren_un hρ h1
      exact absurd (fun hf => by rw [g3] at hf; cases hf) hc
    · rw [hβo k h1]; exact hro _ (h.wr.fzRO k o0 h2 hc)
  · have hu : unK ρ k = none := by
      cases hu : unK ρ k with
      | none => rfl
      | some k0 => rw [(ren_un hρ hu).2.2] at hf; cases hf
    rw [hβo k hu]; exact h.wr.stay k hf hnm
  · rcases look_app hx with hx | ⟨_, hx⟩
    · obtain ⟨hy, q, i, sz, off, len, o, rfl, hq1, hq2⟩ := exP_look hex hx
      obtain ⟨u, g1, g2⟩ := h.env n _ hy
      refine ⟨u, g1, ?_⟩
      have hu : unK ρ (.sub (.cur q) i) = none := by simp only [unK, hq1]
      cases g2 with
      | osl _ _ _ _ cap e n a b c d =>
        rw [← hβo _ hu]
        exact .osl _ _ _ _ cap e n a (by rw [hβo _ hu, shape_of_block (hsame hu hq2)]; exact b) c d
    · obtain ⟨y, hy, rfl⟩ := look_livE hx
      obtain ⟨u, g1, g2⟩ := h.env n y hy
      exact ⟨u, g1, hval g2⟩
  · exact VL.map (p := domK ρ) (β2 := β2) (fun k hk => hβn k hk) hr hdr

theorem modH_ok : HOK P fun f args _ env st K' => ModH P f args env st K' := by
  intro E N f s args vals env st K' β RO a w h hv hW
  cases hW with
  | mk ρ hs ha hk ho hK =>
    subst ha
    exact modH_core ρ [] h hs hv hk ho trivial hK
  | mkx ρ ex hs ha hk ho hex hK =>
    subst ha
    exact modH_core ρ ex h hs hv hk ho hex hK

/-- Less is told of a row that comes back. -/
theorem SpecM.trunc {f : Nat} {args : List LV} {fr : Fr} {pins : List (Nat × Nat)} {Post Post' : LV → Fr → Prop} (h : SpecM P f args fr pins Post)
    (hp : ∀ r ro, Post r ro → ∃ s e sz es n, look ro s = some (.row e sz es) ∧ Post' r (setCur ro s (.row e sz (es.take n)))) : SpecM P f args fr pins Post' := by
  refine ⟨h.fn, fun β RO w vals hw hv => (h.calls β RO w vals hw hv).mono ?_⟩
  rintro e w' ⟨v, r, ro, out', β', RO', he, h1, h2, h3, h4⟩
  obtain ⟨s, e, sz, es, n, g1, g2⟩ := hp r ro h1
  have hsr : SR (entM β RO w fr) 0 β' RO' [] ⟨out', ro⟩ { tmps := #[], defers := (entM β RO w fr).dfs } w' := ⟨h2, ⟨rfl, Nat.zero_le _⟩, rfl, fun n x hx => by simp [look] at hx⟩
  exact ⟨v, r, _, out', β', RO', he, g2, (hsr.trunc (n := n) g1).wr, h3, h4⟩

end
end Go.Fw

/- The value logic, part 30: a function that calls functions that write its own objects. -/
namespace Go.Fw
open Go

section
variable {C : Ctx} {P : Program} {E : Ent} {N : Nat} {β : K → Nat} {RO : Nat → Prop} {env : Env} {st : St} {a : Act} {w : World}

/-- A function is right where its body is, its calls as they are told. -/
theorem spec_walkH (hC : C.OK P) {f : Nat} {fn : Func} {c : Code} {args : List LV} {out : List Fr} {Post : LV → Fr → Prop} {H : HW} (hH : HOK P H) (kp : Kp) (od : Od) (hf : P.funcs[f]? = some fn) (hb : fn.body = some c) (hk : (Nat.ble fn.ntmps 1000000 && codeYOK fn.ntmps od c) = true) (hn : Nat.ble args.length fn.ntmps = true) (hfn : FnOK P f)
    (hW : LV.ok.okL args → wpcX C P noY H 0 kp od c (argE 0 args) ⟨out, []⟩ (retW C fn.results.toList Post)) : SpecP P f args out Post := by
  simp only [Bool.and_eq_true] at hk
  obtain ⟨hq, hk⟩ := hk
  have hq : fn.ntmps ≤ 1000000 := by simpa using hq
  have hn : args.length ≤ fn.ntmps := by simpa using hn
  refine ⟨hfn, fun β RO w vals hw hv => calls_out (r := none) (n := 0) ?_⟩
  have hlen : vals.length = args.length := hv.1.symm
  have hs : SR (entP β RO w) fn.ntmps β RO (argE 0 args) ⟨out, []⟩ { tmps := vals.toArray ++ Array.replicate (fn.ntmps - vals.toArray.size) undef, defers := [] } w := by
    refine ⟨hw, ⟨by simp; omega, hq⟩, rfl, fun n x hx => ?_⟩
    obtain ⟨_, h2⟩ := argE_look hx
    simp only [Nat.sub_zero] at h2
    have hlt : n < vals.length := by rw [hlen]; exact (List.getElem?_eq_some_iff.1 h2).1
    refine ⟨vals[n], ?_, hv.2 n x _ h2 (List.getElem?_eq_getElem hlt)⟩
    rw [tmpAt_lt (by omega), Array.getElem?_append_left (by simpa using hlt)]
    simp [hlt]
  refine callsIn_of_wp hf hb trivial (wpIn_mono (wpcX_in hC noY_ok hH c hk β RO _ _ _ w _ hs (hW hv.ok)) ?_)
  have fin : ∀ {env : Env} {st : St} {β' : K → Nat} {RO' : Nat → Prop} {a : Act} {w' : World}, (match resL C env st fn.results.toList with | some l => ∃ cs, keepW cs st.cur (Post (resV l)) | none => False) → SR (entP β RO w) fn.ntmps β' RO' env st a w' →
      a.defers = [] ∧ ∃ v, (results fn a.tmps).run P w' = .ok v w' ∧ ∃ v' r ro out' β' RO', Ending.returned v = .returned v' ∧ Post r ro ∧ WR (entP β RO w) β' RO' ⟨out', ro⟩ w' ∧ VL β' RO' w' r v' := by
    intro env st β' RO' a w' hq hs
    split at hq
    rotate_left
    · cases hq
    rename_i l hl
    obtain ⟨cs, hp⟩ := hq
    obtain ⟨cur', hp, hless⟩ := keepW_gives hp
    obtain ⟨v, h1, h2⟩ := res_run hC hs hl
    exact ⟨hs.defers, v, h1, v, resV l, cur', st.out, β', RO', rfl, hp, hs.wr.less (fun k o hk => get_less hless k o hk), h2⟩
  rintro e a w' ⟨env, st, β', RO', hq, hs⟩
  cases e with
  | normal => exact fin hq hs
  | ret => exact fin hq hs
  | _ => exact hq.elim

end
end Go.Fw

/- Printed by wip/tys.py: what the value logic is told of the types. -/
namespace Go.Fw
open Go Go.Proofs

def tys : List (Nat × TI) := [
  (3, ⟨.int .i64, 1, 8, [.int .i64 (0)]⟩),
  (40, ⟨.slice 3, 1, 24, [.slice none 0 0]⟩),
  (44, ⟨.struct [(0, 39), (1, 40), (2, 41), (3, 42)], 4, 96, [.slice none 0 0, .slice none 0 0, .slice none 0 0, .slice none 0 0]⟩),
  (4, ⟨.bool, 1, 1, [.bool false]⟩),
  (24, ⟨.struct [(0, 3), (1, 22)], 2, 32, [.int .i64 (0), .slice none 0 0]⟩),
  (83, ⟨.struct [(0, 9), (1, 3), (2, 41), (3, 81)], 4, 72, [.string ⟨#[]⟩, .int .i64 (0), .slice none 0 0, .slice none 0 0]⟩),
  (85, ⟨.struct [(0, 3), (1, 4)], 2, 16, [.int .i64 (0), .bool false]⟩),
  (87, ⟨.struct [(0, 41), (1, 85)], 3, 40, [.slice none 0 0, .int .i64 (0), .bool false]⟩),
  (22, ⟨.slice 40, 1, 24, [.slice none 0 0]⟩),
  (42, ⟨.slice 83, 1, 24, [.slice none 0 0]⟩),
  (76, ⟨.struct [(0, 22), (1, 40), (2, 40), (3, 40), (4, 74), (5, 3), (6, 3)], 7, 120, [.slice none 0 0, .slice none 0 0, .slice none 0 0, .slice none 0 0, .map none, .int .i64 (0), .int .i64 (0)]⟩),
  (41, ⟨.slice 85, 1, 24, [.slice none 0 0]⟩),
  (25, ⟨.slice 4, 1, 24, [.slice none 0 0]⟩),
  (28, ⟨.int .i64, 1, 8, [.int .i64 (0)]⟩),
  (105, ⟨.struct [(0, 44), (4, 3), (5, 3), (6, 40), (7, 22)], 8, 160, [.slice none 0 0, .slice none 0 0, .slice none 0 0, .slice none 0 0, .int .i64 (0), .int .i64 (0), .slice none 0 0, .slice none 0 0]⟩),
  (39, ⟨.slice 9, 1, 24, [.slice none 0 0]⟩),
  (81, ⟨.slice 87, 1, 24, [.slice none 0 0]⟩),
  (9, ⟨.str, 1, 16, [.string ⟨#[]⟩]⟩),
  (74, ⟨.map 3 40, 1, 8, [.map none]⟩),
  (162, ⟨.int .u64, 1, 8, [.int .u64 (0)]⟩),
  (108, ⟨.map 9 4, 1, 8, [.map none]⟩),
  (123, ⟨.struct [(0, 22), (1, 3), (2, 4)], 3, 40, [.slice none 0 0, .int .i64 (0), .bool false]⟩),
  (5, ⟨.int .u8, 1, 1, [.int .u8 (0)]⟩),
  (78, ⟨.struct [(0, 24), (2, 40), (3, 3)], 4, 64, [.int .i64 (0), .slice none 0 0, .slice none 0 0, .int .i64 (0)]⟩),
  (110, ⟨.struct [(0, 40), (1, 3), (2, 3), (3, 3)], 4, 48, [.slice none 0 0, .int .i64 (0), .int .i64 (0), .int .i64 (0)]⟩),
  (118, ⟨.map 3 4, 1, 8, [.map none]⟩),
  (149, ⟨.int .u64, 1, 8, [.int .u64 (0)]⟩),
  (161, ⟨.int .u64, 1, 8, [.int .u64 (0)]⟩),
  (111, ⟨.slice 110, 1, 24, [.slice none 0 0]⟩),
  (159, ⟨.int .u32, 1, 4, [.int .u32 (0)]⟩),
  (132, ⟨.slice 5, 1, 24, [.slice none 0 0]⟩),
  (152, ⟨.int .i64, 1, 8, [.int .i64 (0)]⟩),
  (1, ⟨.other, 1, 8, [.nilFunc]⟩),
  (2, ⟨.int .i64, 1, 8, [.int .i64 (0)]⟩),
  (6, ⟨.int .u8, 1, 1, [.int .u8 (0)]⟩),
  (7, ⟨.struct [(0, 2), (1, 3), (2, 4), (3, 6)], 4, 24, [.int .i64 (0), .int .i64 (0), .bool false, .int .u8 (0)]⟩),
  (8, ⟨.struct [(0, 2), (1, 3), (2, 4), (3, 6)], 4, 24, [.int .i64 (0), .int .i64 (0), .bool false, .int .u8 (0)]⟩),
  (10, ⟨.str, 1, 16, [.string ⟨#[]⟩]⟩),
  (11, ⟨.str, 1, 16, [.string ⟨#[]⟩]⟩),
  (12, ⟨.int .u64, 1, 8, [.int .u64 (0)]⟩),
  (13, ⟨.struct [(0, 9), (1, 12)], 2, 24, [.string ⟨#[]⟩, .int .u64 (0)]⟩),
  (14, ⟨.struct [(0, 9), (1, 12)], 2, 24, [.string ⟨#[]⟩, .int .u64 (0)]⟩),
  (15, ⟨.ptr 172, 1, 8, [.pointer none]⟩),
  (16, ⟨.ptr 175, 1, 8, [.pointer none]⟩),
  (17, ⟨.ptr 183, 1, 8, [.pointer none]⟩),
  (18, ⟨.struct [(0, 17)], 1, 8, [.pointer none]⟩),
  (19, ⟨.struct [(0, 17)], 1, 8, [.pointer none]⟩),
  (20, ⟨.other, 1, 16, [.nilIface]⟩),
  (21, ⟨.int .i32, 1, 4, [.int .i32 (0)]⟩),
  (23, ⟨.struct [(0, 3), (1, 22)], 2, 32, [.int .i64 (0), .slice none 0 0]⟩),
  (26, ⟨.other, 1, 8, [.nilFunc]⟩),
  (27, ⟨.other, 1, 8, [.nilFunc]⟩),
  (29, ⟨.other, 1, 8, [.nilFunc]⟩),
  (31, ⟨.other, 1, 8, [.nilFunc]⟩),
  (33, ⟨.other, 1, 8, [.nilFunc]⟩),
  (34, ⟨.other, 1, 8, [.nilFunc]⟩),
  (35, ⟨.other, 1, 8, [.nilFunc]⟩),
  (36, ⟨.ptr 78, 1, 8, [.pointer none]⟩),
  (37, ⟨.other, 1, 8, [.nilFunc]⟩),
  (38, ⟨.other, 1, 8, [.nilFunc]⟩),
  (43, ⟨.struct [(0, 39), (1, 40), (2, 41), (3, 42)], 4, 96, [.slice none 0 0, .slice none 0 0, .slice none 0 0, .slice none 0 0]⟩),
  (45, ⟨.other, 1, 8, [.nilFunc]⟩),
  (47, ⟨.other, 1, 8, [.nilFunc]⟩),
  (49, ⟨.other, 1, 8, [.nilFunc]⟩),
  (50, ⟨.other, 1, 8, [.nilFunc]⟩),
  (52, ⟨.other, 1, 8, [.nilFunc]⟩),
  (53, ⟨.other, 1, 8, [.nilFunc]⟩),
  (54, ⟨.other, 1, 8, [.nilFunc]⟩),
  (55, ⟨.other, 1, 8, [.nilFunc]⟩),
  (56, ⟨.other, 1, 8, [.nilFunc]⟩),
  (58, ⟨.other, 1, 8, [.nilFunc]⟩),
  (59, ⟨.other, 1, 8, [.nilFunc]⟩),
  (60, ⟨.other, 1, 8, [.nilFunc]⟩),
  (61, ⟨.other, 1, 8, [.nilFunc]⟩),
  (63, ⟨.other, 1, 8, [.nilFunc]⟩),
  (64, ⟨.other, 1, 8, [.nilFunc]⟩),
  (66, ⟨.other, 1, 8, [.nilFunc]⟩),
  (67, ⟨.other, 1, 8, [.nilFunc]⟩),
  (68, ⟨.other, 1, 8, [.nilFunc]⟩),
  (69, ⟨.ptr 76, 1, 8, [.pointer none]⟩),
  (71, ⟨.other, 1, 8, [.nilFunc]⟩),
  (73, ⟨.other, 1, 8, [.nilFunc]⟩),
  (75, ⟨.struct [(0, 22), (1, 40), (2, 40), (3, 40), (4, 74), (5, 3), (6, 3)], 7, 120, [.slice none 0 0, .slice none 0 0, .slice none 0 0, .slice none 0 0, .map none, .int .i64 (0), .int .i64 (0)]⟩),
  (77, ⟨.struct [(0, 24), (2, 40), (3, 3)], 4, 64, [.int .i64 (0), .slice none 0 0, .slice none 0 0, .int .i64 (0)]⟩),
  (79, ⟨.other, 1, 8, [.nilFunc]⟩),
  (80, ⟨.other, 1, 8, [.nilFunc]⟩),
  (82, ⟨.struct [(0, 9), (1, 3), (2, 41), (3, 81)], 4, 72, [.string ⟨#[]⟩, .int .i64 (0), .slice none 0 0, .slice none 0 0]⟩),
  (84, ⟨.struct [(0, 3), (1, 4)], 2, 16, [.int .i64 (0), .bool false]⟩),
  (86, ⟨.struct [(0, 41), (1, 85)], 3, 40, [.slice none 0 0, .int .i64 (0), .bool false]⟩),
  (88, ⟨.other, 1, 8, [.nilFunc]⟩),
  (89, ⟨.ptr 105, 1, 8, [.pointer none]⟩),
  (90, ⟨.other, 1, 8, [.nilFunc]⟩),
  (91, ⟨.other, 1, 8, [.nilFunc]⟩),
  (93, ⟨.other, 1, 8, [.nilFunc]⟩),
  (94, ⟨.other, 1, 8, [.nilFunc]⟩),
  (95, ⟨.other, 1, 8, [.nilFunc]⟩),
  (96, ⟨.other, 1, 8, [.nilFunc]⟩),
  (97, ⟨.other, 1, 8, [.nilFunc]⟩),
  (99, ⟨.other, 1, 8, [.nilFunc]⟩),
  (100, ⟨.other, 1, 8, [.nilFunc]⟩),
  (101, ⟨.other, 1, 8, [.nilFunc]⟩),
  (102, ⟨.other, 1, 8, [.nilFunc]⟩),
  (103, ⟨.other, 1, 8, [.nilFunc]⟩),
  (104, ⟨.struct [(0, 44), (4, 3), (5, 3), (6, 40), (7, 22)], 8, 160, [.slice none 0 0, .slice none 0 0, .slice none 0 0, .slice none 0 0, .int .i64 (0), .int .i64 (0), .slice none 0 0, .slice none 0 0]⟩),
  (106, ⟨.other, 1, 8, [.nilFunc]⟩),
  (107, ⟨.other, 1, 8, [.nilFunc]⟩),
  (109, ⟨.struct [(0, 40), (1, 3), (2, 3), (3, 3)], 4, 48, [.slice none 0 0, .int .i64 (0), .int .i64 (0), .int .i64 (0)]⟩),
  (112, ⟨.other, 1, 8, [.nilFunc]⟩),
  (113, ⟨.other, 1, 8, [.nilFunc]⟩),
  (114, ⟨.other, 1, 8, [.nilFunc]⟩),
  (115, ⟨.other, 1, 8, [.nilFunc]⟩),
  (116, ⟨.other, 1, 8, [.nilFunc]⟩),
  (117, ⟨.other, 1, 8, [.nilFunc]⟩),
  (119, ⟨.other, 1, 8, [.nilFunc]⟩),
  (120, ⟨.other, 1, 8, [.nilFunc]⟩),
  (121, ⟨.other, 1, 8, [.nilFunc]⟩),
  (122, ⟨.struct [(0, 22), (1, 3), (2, 4)], 3, 40, [.slice none 0 0, .int .i64 (0), .bool false]⟩),
  (125, ⟨.other, 1, 8, [.nilFunc]⟩),
  (126, ⟨.other, 1, 8, [.nilFunc]⟩),
  (127, ⟨.other, 1, 8, [.nilFunc]⟩),
  (128, ⟨.other, 1, 8, [.nilFunc]⟩),
  (129, ⟨.other, 1, 8, [.nilFunc]⟩),
  (130, ⟨.other, 1, 8, [.nilFunc]⟩),
  (131, ⟨.other, 1, 8, [.nilFunc]⟩),
  (133, ⟨.other, 1, 8, [.nilFunc]⟩),
  (134, ⟨.other, 1, 8, [.nilFunc]⟩),
  (135, ⟨.other, 1, 8, [.nilFunc]⟩),
  (136, ⟨.other, 1, 8, [.nilFunc]⟩),
  (137, ⟨.other, 1, 8, [.nilFunc]⟩),
  (138, ⟨.other, 1, 8, [.nilFunc]⟩),
  (139, ⟨.other, 1, 8, [.nilFunc]⟩),
  (140, ⟨.other, 1, 8, [.nilFunc]⟩),
  (141, ⟨.other, 1, 8, [.nilFunc]⟩),
  (142, ⟨.other, 1, 8, [.nilFunc]⟩),
  (143, ⟨.other, 1, 8, [.nilFunc]⟩),
  (144, ⟨.other, 1, 8, [.nilFunc]⟩),
  (145, ⟨.other, 1, 8, [.nilFunc]⟩),
  (146, ⟨.other, 1, 8, [.nilFunc]⟩),
  (147, ⟨.other, 1, 8, [.nilFunc]⟩),
  (148, ⟨.other, 1, 8, [.nilFunc]⟩),
  (150, ⟨.other, 1, 8, [.nilFunc]⟩),
  (151, ⟨.other, 1, 8, [.nilFunc]⟩),
  (154, ⟨.other, 1, 8, [.nilFunc]⟩),
  (155, ⟨.other, 1, 8, [.nilFunc]⟩),
  (156, ⟨.other, 1, 8, [.nilFunc]⟩),
  (157, ⟨.other, 1, 8, [.nilFunc]⟩),
  (158, ⟨.other, 1, 8, [.nilFunc]⟩),
  (160, ⟨.other, 1, 8, [.nilFunc]⟩),
  (163, ⟨.other, 1, 8, [.nilFunc]⟩),
  (164, ⟨.other, 1, 8, [.nilFunc]⟩),
  (165, ⟨.other, 1, 8, [.nilFunc]⟩),
  (166, ⟨.ptr 3, 1, 8, [.pointer none]⟩),
  (167, ⟨.other, 1, 8, [.nilFunc]⟩),
  (168, ⟨.ptr 162, 1, 8, [.pointer none]⟩),
  (169, ⟨.other, 1, 8, [.nilFunc]⟩),
  (170, ⟨.other, 1, 8, [.nilFunc]⟩),
  (171, ⟨.struct [(0, 17), (1, 17), (2, 17), (3, 9)], 4, 40, [.pointer none, .pointer none, .pointer none, .string ⟨#[]⟩]⟩),
  (172, ⟨.struct [(0, 17), (1, 17), (2, 17), (3, 9)], 4, 40, [.pointer none, .pointer none, .pointer none, .string ⟨#[]⟩]⟩),
  (173, ⟨.arr 0 16, 0, 0, []⟩),
  (174, ⟨.struct [(0, 173)], 0, 0, []⟩),
  (175, ⟨.struct [(0, 173)], 0, 0, []⟩),
  (176, ⟨.int .u8, 1, 1, [.int .u8 (0)]⟩),
  (177, ⟨.int .u8, 1, 1, [.int .u8 (0)]⟩),
  (178, ⟨.other, 1, 8, [.nilFunc]⟩),
  (179, ⟨.ptr 5, 1, 8, [.pointer none]⟩),
  (180, ⟨.int .i32, 1, 4, [.int .i32 (0)]⟩),
  (181, ⟨.int .i32, 1, 4, [.int .i32 (0)]⟩),
  (182, ⟨.struct [(0, 12), (1, 12), (2, 159), (3, 176), (4, 5), (5, 5), (6, 177), (7, 178), (8, 179), (9, 180), (10, 181)], 11, 48, [.int .u64 (0), .int .u64 (0), .int .u32 (0), .int .u8 (0), .int .u8 (0), .int .u8 (0), .int .u8 (0), .nilFunc, .pointer none, .int .i32 (0), .int .i32 (0)]⟩),
  (183, ⟨.struct [(0, 12), (1, 12), (2, 159), (3, 176), (4, 5), (5, 5), (6, 177), (7, 178), (8, 179), (9, 180), (10, 181)], 11, 48, [.int .u64 (0), .int .u64 (0), .int .u32 (0), .int .u8 (0), .int .u8 (0), .int .u8 (0), .int .u8 (0), .nilFunc, .pointer none, .int .i32 (0), .int .i32 (0)]⟩),
  (184, ⟨.other, 1, 8, [.pointer none]⟩)]

theorem tys_ok : TysOK Try.prog tys := ⟨
  ⟨by kernel_rfl, by kernel_rfl, by kernel_rfl, by kernel_rfl⟩,
  ⟨by kernel_rfl, by kernel_rfl, by kernel_rfl, by kernel_rfl⟩,
  ⟨by kernel_rfl, by kernel_rfl, by kernel_rfl, by kernel_rfl⟩,
  ⟨by kernel_rfl, by kernel_rfl, by kernel_rfl, by kernel_rfl⟩,
  ⟨by kernel_rfl, by kernel_rfl, by kernel_rfl, by kernel_rfl⟩,
  ⟨by kernel_rfl, by kernel_rfl, by kernel_rfl, by kernel_rfl⟩,
  ⟨by kernel_rfl, by kernel_rfl, by kernel_rfl, by kernel_rfl⟩,
  ⟨by kernel_rfl, by kernel_rfl, by kernel_rfl, by kernel_rfl⟩,
  ⟨by kernel_rfl, by kernel_rfl, by kernel_rfl, by kernel_rfl⟩,
  ⟨by kernel_rfl, by kernel_rfl, by kernel_rfl, by kernel_rfl⟩,
  ⟨by kernel_rfl, by kernel_rfl, by kernel_rfl, by kernel_rfl⟩,
  ⟨by kernel_rfl, by kernel_rfl, by kernel_rfl, by kernel_rfl⟩,
  ⟨by kernel_rfl, by kernel_rfl, by kernel_rfl, by kernel_rfl⟩,
  ⟨by kernel_rfl, by kernel_rfl, by kernel_rfl, by kernel_rfl⟩,
  ⟨by kernel_rfl, by kernel_rfl, by kernel_rfl, by kernel_rfl⟩,
  ⟨by kernel_rfl, by kernel_rfl, by kernel_rfl, by kernel_rfl⟩,
  ⟨by kernel_rfl, by kernel_rfl, by kernel_rfl, by kernel_rfl⟩,
  ⟨by kernel_rfl, by kernel_rfl, by kernel_rfl, by kernel_rfl⟩,
  ⟨by kernel_rfl, by kernel_rfl, by kernel_rfl, by kernel_rfl⟩,
  ⟨by kernel_rfl, by kernel_rfl, by kernel_rfl, by kernel_rfl⟩,
  ⟨by kernel_rfl, by kernel_rfl, by kernel_rfl, by kernel_rfl⟩,
  ⟨by kernel_rfl, by kernel_rfl, by kernel_rfl, by kernel_rfl⟩,
  ⟨by kernel_rfl, by kernel_rfl, by kernel_rfl, by kernel_rfl⟩,
  ⟨by kernel_rfl, by kernel_rfl, by kernel_rfl, by kernel_rfl⟩,
  ⟨by kernel_rfl, by kernel_rfl, by kernel_rfl, by kernel_rfl⟩,
  ⟨by kernel_rfl, by kernel_rfl, by kernel_rfl, by kernel_rfl⟩,
  ⟨by kernel_rfl, by kernel_rfl, by kernel_rfl, by kernel_rfl⟩,
  ⟨by kernel_rfl, by kernel_rfl, by kernel_rfl, by kernel_rfl⟩,
  ⟨by kernel_rfl, by kernel_rfl, by kernel_rfl, by kernel_rfl⟩,
  ⟨by kernel_rfl, by kernel_rfl, by kernel_rfl, by kernel_rfl⟩,
  ⟨by kernel_rfl, by kernel_rfl, by kernel_rfl, by kernel_rfl⟩,
  ⟨by kernel_rfl, by kernel_rfl, by kernel_rfl, by kernel_rfl⟩,
  ⟨by kernel_rfl, by kernel_rfl, by kernel_rfl, by kernel_rfl⟩,
  ⟨by kernel_rfl, by kernel_rfl, by kernel_rfl, by kernel_rfl⟩,
  ⟨by kernel_rfl, by kernel_rfl, by kernel_rfl, by kernel_rfl⟩,
  ⟨by kernel_rfl, by kernel_rfl, by kernel_rfl, by kernel_rfl⟩,
  ⟨by kernel_rfl, by kernel_rfl, by kernel_rfl, by kernel_rfl⟩,
  ⟨by kernel_rfl, by kernel_rfl, by kernel_rfl, by kernel_rfl⟩,
  ⟨by kernel_rfl, by kernel_rfl, by kernel_rfl, by kernel_rfl⟩,
  ⟨by kernel_rfl, by kernel_rfl, by kernel_rfl, by kernel_rfl⟩,
  ⟨by kernel_rfl, by kernel_rfl, by kernel_rfl, by kernel_rfl⟩,
  ⟨by kernel_rfl, by kernel_rfl, by kernel_rfl, by kernel_rfl⟩,
  ⟨by kernel_rfl, by kernel_rfl, by kernel_rfl, by kernel_rfl⟩,
  ⟨by kernel_rfl, by kernel_rfl, by kernel_rfl, by kernel_rfl⟩,
  ⟨by kernel_rfl, by kernel_rfl, by kernel_rfl, by kernel_rfl⟩,
  ⟨by kernel_rfl, by kernel_rfl, by kernel_rfl, by kernel_rfl⟩,
  ⟨by kernel_rfl, by kernel_rfl, by kernel_rfl, by kernel_rfl⟩,
  ⟨by kernel_rfl, by kernel_rfl, by kernel_rfl, by kernel_rfl⟩,
  ⟨by kernel_rfl, by kernel_rfl, by kernel_rfl, by kernel_rfl⟩,
  ⟨by kernel_rfl, by kernel_rfl, by kernel_rfl, by kernel_rfl⟩,
  ⟨by kernel_rfl, by kernel_rfl, by kernel_rfl, by kernel_rfl⟩,
  ⟨by kernel_rfl, by kernel_rfl, by kernel_rfl, by kernel_rfl⟩,
  ⟨by kernel_rfl, by kernel_rfl, by kernel_rfl, by kernel_rfl⟩,
  ⟨by kernel_rfl, by kernel_rfl, by kernel_rfl, by kernel_rfl⟩,
  ⟨by kernel_rfl, by kernel_rfl, by kernel_rfl, by kernel_rfl⟩,
  ⟨by kernel_rfl, by kernel_rfl, by kernel_rfl, by kernel_rfl⟩,
  ⟨by kernel_rfl, by kernel_rfl, by kernel_rfl, by kernel_rfl⟩,
  ⟨by kernel_rfl, by kernel_rfl, by kernel_rfl, by kernel_rfl⟩,
  ⟨by kernel_rfl, by kernel_rfl, by kernel_rfl, by kernel_rfl⟩,
  ⟨by kernel_rfl, by kernel_rfl, by kernel_rfl, by kernel_rfl⟩,
  ⟨by kernel_rfl, by kernel_rfl, by kernel_rfl, by kernel_rfl⟩,
  ⟨by kernel_rfl, by kernel_rfl, by kernel_rfl, by kernel_rfl⟩,
  ⟨by kernel_rfl, by kernel_rfl, by kernel_rfl, by kernel_rfl⟩,
  ⟨by kernel_rfl, by kernel_rfl, by kernel_rfl, by kernel_rfl⟩,
  ⟨by kernel_rfl, by kernel_rfl, by kernel_rfl, by kernel_rfl⟩,
  ⟨by kernel_rfl, by kernel_rfl, by kernel_rfl, by kernel_rfl⟩,
  ⟨by kernel_rfl, by kernel_rfl, by kernel_rfl, by kernel_rfl⟩,
  ⟨by kernel_rfl, by kernel_rfl, by kernel_rfl, by kernel_rfl⟩,
  ⟨by kernel_rfl, by kernel_rfl, by kernel_rfl, by kernel_rfl⟩,
  ⟨by kernel_rfl, by kernel_rfl, by kernel_rfl, by kernel_rfl⟩,
  ⟨by kernel_rfl, by kernel_rfl, by kernel_rfl, by kernel_rfl⟩,
  ⟨by kernel_rfl, by kernel_rfl, by kernel_rfl, by kernel_rfl⟩,
  ⟨by kernel_rfl, by kernel_rfl, by kernel_rfl, by kernel_rfl⟩,
  ⟨by kernel_rfl, by kernel_rfl, by kernel_rfl, by kernel_rfl⟩,
  ⟨by kernel_rfl, by kernel_rfl, by kernel_rfl, by kernel_rfl⟩,
  ⟨by kernel_rfl, by kernel_rfl, by kernel_rfl, by kernel_rfl⟩,
  ⟨by kernel_rfl, by kernel_rfl, by kernel_rfl, by kernel_rfl⟩,
  ⟨by kernel_rfl, by kernel_rfl, by kernel_rfl, by kernel_rfl⟩,
  ⟨by kernel_rfl, by kernel_rfl, by kernel_rfl, by kernel_rfl⟩,
  ⟨by kernel_rfl, by kernel_rfl, by kernel_rfl, by kernel_rfl⟩,
  ⟨by kernel_rfl, by kernel_rfl, by kernel_rfl, by kernel_rfl⟩,
  ⟨by kernel_rfl, by kernel_rfl, by kernel_rfl, by kernel_rfl⟩,
  ⟨by kernel_rfl, by kernel_rfl, by kernel_rfl, by kernel_rfl⟩,
  ⟨by kernel_rfl, by kernel_rfl, by kernel_rfl, by kernel_rfl⟩,
  ⟨by kernel_rfl, by kernel_rfl, by kernel_rfl, by kernel_rfl⟩,
  ⟨by kernel_rfl, by kernel_rfl, by kernel_rfl, by kernel_rfl⟩,
  ⟨by kernel_rfl, by kernel_rfl, by kernel_rfl, by kernel_rfl⟩,
  ⟨by kernel_rfl, by kernel_rfl, by kernel_rfl, by kernel_rfl⟩,
  ⟨by kernel_rfl, by kernel_rfl, by kernel_rfl, by kernel_rfl⟩,
  ⟨by kernel_rfl, by kernel_rfl, by kernel_rfl, by kernel_rfl⟩,
  ⟨by kernel_rfl, by kernel_rfl, by kernel_rfl, by kernel_rfl⟩,
  ⟨by kernel_rfl, by kernel_rfl, by kernel_rfl, by kernel_rfl⟩,
  ⟨by kernel_rfl, by kernel_rfl, by kernel_rfl, by kernel_rfl⟩,
  ⟨by kernel_rfl, by kernel_rfl, by kernel_rfl, by kernel_rfl⟩,
  ⟨by kernel_rfl, by kernel_rfl, by kernel_rfl, by kernel_rfl⟩,
  ⟨by kernel_rfl, by kernel_rfl, by kernel_rfl, by kernel_rfl⟩,
  ⟨by kernel_rfl, by kernel_rfl, by kernel_rfl, by kernel_rfl⟩,
  ⟨by kernel_rfl, by kernel_rfl, by kernel_rfl, by kernel_rfl⟩,
  ⟨by kernel_rfl, by kernel_rfl, by kernel_rfl, by kernel_rfl⟩,
  ⟨by kernel_rfl, by kernel_rfl, by kernel_rfl, by kernel_rfl⟩,
  ⟨by kernel_rfl, by kernel_rfl, by kernel_rfl, by kernel_rfl⟩,
  ⟨by kernel_rfl, by kernel_rfl, by kernel_rfl, by kernel_rfl⟩,
  ⟨by kernel_rfl, by kernel_rfl, by kernel_rfl, by kernel_rfl⟩,
  ⟨by kernel_rfl, by kernel_rfl, by kernel_rfl, by kernel_rfl⟩,
  ⟨by kernel_rfl, by kernel_rfl, by kernel_rfl, by kernel_rfl⟩,
  ⟨by kernel_rfl, by kernel_rfl, by kernel_rfl, by kernel_rfl⟩,
  ⟨by kernel_rfl, by kernel_rfl, by kernel_rfl, by kernel_rfl⟩,
  ⟨by kernel_rfl, by kernel_rfl, by kernel_rfl, by kernel_rfl⟩,
  ⟨by kernel_rfl, by kernel_rfl, by kernel_rfl, by kernel_rfl⟩,
  ⟨by kernel_rfl, by kernel_rfl, by kernel_rfl, by kernel_rfl⟩,
  ⟨by kernel_rfl, by kernel_rfl, by kernel_rfl, by kernel_rfl⟩,
  ⟨by kernel_rfl, by kernel_rfl, by kernel_rfl, by kernel_rfl⟩,
  ⟨by kernel_rfl, by kernel_rfl, by kernel_rfl, by kernel_rfl⟩,
  ⟨by kernel_rfl, by kernel_rfl, by kernel_rfl, by kernel_rfl⟩,
  ⟨by kernel_rfl, by kernel_rfl, by kernel_rfl, by kernel_rfl⟩,
  ⟨by kernel_rfl, by kernel_rfl, by kernel_rfl, by kernel_rfl⟩,
  ⟨by kernel_rfl, by kernel_rfl, by kernel_rfl, by kernel_rfl⟩,
  ⟨by kernel_rfl, by kernel_rfl, by kernel_rfl, by kernel_rfl⟩,
  ⟨by kernel_rfl, by kernel_rfl, by kernel_rfl, by kernel_rfl⟩,
  ⟨by kernel_rfl, by kernel_rfl, by kernel_rfl, by kernel_rfl⟩,
  ⟨by kernel_rfl, by kernel_rfl, by kernel_rfl, by kernel_rfl⟩,
  ⟨by kernel_rfl, by kernel_rfl, by kernel_rfl, by kernel_rfl⟩,
  ⟨by kernel_rfl, by kernel_rfl, by kernel_rfl, by kernel_rfl⟩,
  ⟨by kernel_rfl, by kernel_rfl, by kernel_rfl, by kernel_rfl⟩,
  ⟨by kernel_rfl, by kernel_rfl, by kernel_rfl, by kernel_rfl⟩,
  ⟨by kernel_rfl, by kernel_rfl, by kernel_rfl, by kernel_rfl⟩,
  ⟨by kernel_rfl, by kernel_rfl, by kernel_rfl, by kernel_rfl⟩,
  ⟨by kernel_rfl, by kernel_rfl, by kernel_rfl, by kernel_rfl⟩,
  ⟨by kernel_rfl, by kernel_rfl, by kernel_rfl, by kernel_rfl⟩,
  ⟨by kernel_rfl, by kernel_rfl, by kernel_rfl, by kernel_rfl⟩,
  ⟨by kernel_rfl, by kernel_rfl, by kernel_rfl, by kernel_rfl⟩,
  ⟨by kernel_rfl, by kernel_rfl, by kernel_rfl, by kernel_rfl⟩,
  ⟨by kernel_rfl, by kernel_rfl, by kernel_rfl, by kernel_rfl⟩,
  ⟨by kernel_rfl, by kernel_rfl, by kernel_rfl, by kernel_rfl⟩,
  ⟨by kernel_rfl, by kernel_rfl, by kernel_rfl, by kernel_rfl⟩,
  ⟨by kernel_rfl, by kernel_rfl, by kernel_rfl, by kernel_rfl⟩,
  ⟨by kernel_rfl, by kernel_rfl, by kernel_rfl, by kernel_rfl⟩,
  ⟨by kernel_rfl, by kernel_rfl, by kernel_rfl, by kernel_rfl⟩,
  ⟨by kernel_rfl, by kernel_rfl, by kernel_rfl, by kernel_rfl⟩,
  ⟨by kernel_rfl, by kernel_rfl, by kernel_rfl, by kernel_rfl⟩,
  ⟨by kernel_rfl, by kernel_rfl, by kernel_rfl, by kernel_rfl⟩,
  ⟨by kernel_rfl, by kernel_rfl, by kernel_rfl, by kernel_rfl⟩,
  ⟨by kernel_rfl, by kernel_rfl, by kernel_rfl, by kernel_rfl⟩,
  ⟨by kernel_rfl, by kernel_rfl, by kernel_rfl, by kernel_rfl⟩,
  ⟨by kernel_rfl, by kernel_rfl, by kernel_rfl, by kernel_rfl⟩,
  ⟨by kernel_rfl, by kernel_rfl, by kernel_rfl, by kernel_rfl⟩,
  ⟨by kernel_rfl, by kernel_rfl, by kernel_rfl, by kernel_rfl⟩,
  ⟨by kernel_rfl, by kernel_rfl, by kernel_rfl, by kernel_rfl⟩,
  ⟨by kernel_rfl, by kernel_rfl, by kernel_rfl, by kernel_rfl⟩,
  ⟨by kernel_rfl, by kernel_rfl, by kernel_rfl, by kernel_rfl⟩,
  ⟨by kernel_rfl, by kernel_rfl, by kernel_rfl, by kernel_rfl⟩,
  ⟨by kernel_rfl, by kernel_rfl, by kernel_rfl, by kernel_rfl⟩,
  ⟨by kernel_rfl, by kernel_rfl, by kernel_rfl, by kernel_rfl⟩,
  ⟨by kernel_rfl, by kernel_rfl, by kernel_rfl, by kernel_rfl⟩,
  ⟨by kernel_rfl, by kernel_rfl, by kernel_rfl, by kernel_rfl⟩,
  ⟨by kernel_rfl, by kernel_rfl, by kernel_rfl, by kernel_rfl⟩,
  ⟨by kernel_rfl, by kernel_rfl, by kernel_rfl, by kernel_rfl⟩,
  ⟨by kernel_rfl, by kernel_rfl, by kernel_rfl, by kernel_rfl⟩,
  ⟨by kernel_rfl, by kernel_rfl, by kernel_rfl, by kernel_rfl⟩,
  ⟨by kernel_rfl, by kernel_rfl, by kernel_rfl, by kernel_rfl⟩,
  ⟨by kernel_rfl, by kernel_rfl, by kernel_rfl, by kernel_rfl⟩,
  ⟨by kernel_rfl, by kernel_rfl, by kernel_rfl, by kernel_rfl⟩,
  ⟨by kernel_rfl, by kernel_rfl, by kernel_rfl, by kernel_rfl⟩,
  ⟨by kernel_rfl, by kernel_rfl, by kernel_rfl, by kernel_rfl⟩,
  ⟨by kernel_rfl, by kernel_rfl, by kernel_rfl, by kernel_rfl⟩,
  ⟨by kernel_rfl, by kernel_rfl, by kernel_rfl, by kernel_rfl⟩,
  ⟨by kernel_rfl, by kernel_rfl, by kernel_rfl, by kernel_rfl⟩,
  ⟨by kernel_rfl, by kernel_rfl, by kernel_rfl, by kernel_rfl⟩,
  ⟨by kernel_rfl, by kernel_rfl, by kernel_rfl, by kernel_rfl⟩,
  ⟨by kernel_rfl, by kernel_rfl, by kernel_rfl, by kernel_rfl⟩,
  trivial⟩

end Go.Fw

/- slices.Sort sorts a row of numbers where it lies. -/
namespace Go.Proofs
open Go Go.Shelf Go.Sort Go.RowKit
def Try.laysSort_ren : Go.Shelf.Ren := ⟨fun | 189 => 94 | 125 => 108 | 257 => 107 | 128 => 121 | 129 => 122 | 294 => 113 | 295 => 114 | 296 => 115 | 297 => 116 | 298 => 117 | 299 => 118 | 216 => 111 | 300 => 119 | 301 => 120 | 328 => 125 | 329 => 126 | 330 => 127 | 331 => 128 | 332 => 129 | 215 => 124 | 343 => 130 | n => n, fun | 28 => 40 | 3 => 3 | 46 => 149 | 0 => 0 | 51 => 159 | 53 => 161 | 4 => 4 | 183 => 153 | 182 => 152 | 131 => 51 | 5 => 5 | 9 => 9 | 218 => 162 | 222 => 166 | 228 => 168 | 229 => 65 | n => n, fun | n => n⟩
theorem Try.laysSort : Go.Proofs.Lays.n189 Try.prog Try.laysSort_ren where
  mixed := by kernel_rfl
  f125 := Try.func108.trans (congrArg some (by kernel_rfl))
  f128 := Try.func121.trans (congrArg some (by kernel_rfl))
  f129 := Try.func122.trans (congrArg some (by kernel_rfl))
  f189 := Try.func94.trans (congrArg some (by kernel_rfl))
  f215 := Try.func124.trans (congrArg some (by kernel_rfl))
  f216 := Try.func111.trans (congrArg some (by kernel_rfl))
  f257 := Try.func107.trans (congrArg some (by kernel_rfl))
  f294 := Try.func113.trans (congrArg some (by kernel_rfl))
  f295 := Try.func114.trans (congrArg some (by kernel_rfl))
  f296 := Try.func115.trans (congrArg some (by kernel_rfl))
  f297 := Try.func116.trans (congrArg some (by kernel_rfl))
  f298 := Try.func117.trans (congrArg some (by kernel_rfl))
  f299 := Try.func118.trans (congrArg some (by kernel_rfl))
  f300 := Try.func119.trans (congrArg some (by kernel_rfl))
  f301 := Try.func120.trans (congrArg some (by kernel_rfl))
  f328 := Try.func125.trans (congrArg some (by kernel_rfl))
  f329 := Try.func126.trans (congrArg some (by kernel_rfl))
  f330 := Try.func127.trans (congrArg some (by kernel_rfl))
  f331 := Try.func128.trans (congrArg some (by kernel_rfl))
  f332 := Try.func129.trans (congrArg some (by kernel_rfl))
  f343 := Try.func130.trans (congrArg some (by kernel_rfl))
  t0 := Try.underlying0
  a0 := Try.isAgg0
  z0 := Try.sizeOf0
  v0 := Try.zeroValue0
  t3 := Try.underlying3
  a3 := Try.isAgg3
  z3 := Try.sizeOf3
  v3 := Try.zeroValue3
  t4 := Try.underlying4
  a4 := Try.isAgg4
  z4 := Try.sizeOf4
  v4 := Try.zeroValue4
  t5 := Try.underlying5
  a5 := Try.isAgg5
  z5 := Try.sizeOf5
  v5 := Try.zeroValue5
  t9 := Try.underlying9
  a9 := Try.isAgg9
  z9 := Try.sizeOf9
  v9 := Try.zeroValue9
  t28 := Try.underlying40
  a28 := Try.isAgg40
  z28 := Try.sizeOf40
  v28 := Try.zeroValue40
  t46 := Try.underlying149
  a46 := Try.isAgg149
  z46 := Try.sizeOf149
  v46 := Try.zeroValue149
  t51 := Try.underlying159
  a51 := Try.isAgg159
  z51 := Try.sizeOf159
  v51 := Try.zeroValue159
  t53 := Try.underlying161
  a53 := Try.isAgg161
  z53 := Try.sizeOf161
  v53 := Try.zeroValue161
  t131 := Try.underlying51
  a131 := Try.isAgg51
  z131 := Try.sizeOf51
  v131 := Try.zeroValue51
  t182 := Try.underlying152
  a182 := Try.isAgg152
  z182 := Try.sizeOf152
  v182 := Try.zeroValue152
  t183 := Try.underlying153
  a183 := Try.isAgg153
  z183 := Try.sizeOf153
  v183 := Try.zeroValue153
  t218 := Try.underlying162
  a218 := Try.isAgg162
  z218 := Try.sizeOf162
  v218 := Try.zeroValue162
  t222 := Try.underlying166
  a222 := Try.isAgg166
  z222 := Try.sizeOf166
  v222 := Try.zeroValue166
  t228 := Try.underlying168
  a228 := Try.isAgg168
  z228 := Try.sizeOf168
  v228 := Try.zeroValue168
  t229 := Try.underlying65
  a229 := Try.isAgg65
  z229 := Try.sizeOf65
  v229 := Try.zeroValue65
theorem try_sort : Fw.SortOK Try.prog 94 := by
  refine ⟨by kernel_rfl, fun w => ?_, fun w g cap ty zs cur hg hc hl => ?_⟩
  · refine (calls_of_every_depth fun D => AnyS.slices_Sort_int_none_in Try.laysSort D none 0 w).mono ?_
    rintro e w' ⟨rfl, rfl⟩
    exact ⟨rfl, rfl, rfl, rfl, Nat.le_refl _, fun _ _ => rfl⟩
  · have hlen : zs.length ≤ cur.size := by
      have := congrArg List.length hc
      simp at this; omega
    have hget : ∀ j, j < zs.length → cur[j]? = some (.int .i64 zs[j]!) := fun j hj => by
      have h1 : (cur.toList.take zs.length)[j]? = (zs.map (Value.int .i64))[j]? := by rw [hc]
      rw [List.getElem?_take, if_pos hj, List.getElem?_map] at h1
      simpa [hj] using h1
    have hH : Holds (Value.int .i64) w g 0 zs.toArray := by
      intro j hj
      have hj : j < zs.length := by simpa using hj
      have hgj := hget j hj
      refine ⟨?_, ?_⟩
      · simp only [World.cell?, hg, Nat.zero_add]
        simpa [hj] using hgj
      · simp [World.frozen?, hg]
    refine (calls_of_every_depth fun D => AnyS.slices_Sort_int_in Try.laysSort D g 0 cap zs w hH (Array.getElem?_eq_some_iff.1 hg).1 (by omega)).mono ?_
    rintro e w' ⟨rfl, n, os, rfl⟩
    have hb : ∀ b, b < w.heap.size → (grow (putRow (Value.int .i64) (Sort.ahead w n) g 0 (zs.mergeSort fun x y => decide (x ≤ y)).toArray) os).heap[b]? = (putRow (Value.int .i64) w g 0 (zs.mergeSort fun x y => decide (x ≤ y)).toArray).heap[b]? := fun b hb => by
      show ((putRow (Value.int .i64) (Sort.ahead w n) g 0 (zs.mergeSort fun x y => decide (x ≤ y)).toArray).heap ++ os)[b]? = _
      rw [Array.getElem?_append_left (by simpa [putRow, mapBlock, Sort.ahead] using hb)]
      rfl
    have hglt : g < w.heap.size := (Array.getElem?_eq_some_iff.1 hg).1
    have hms : (zs.mergeSort fun x y => decide (x ≤ y)).length = zs.length := List.length_mergeSort ..
    refine ⟨rfl, rfl, rfl, rfl, ?_, fun b hlt hne => ?_, putCells (Value.int .i64) 0 (zs.mergeSort fun x y => decide (x ≤ y)).toArray cur, ?_, ?_, ?_⟩
    · show w.heap.size ≤ ((putRow (Value.int .i64) (Sort.ahead w n) g 0 (zs.mergeSort fun x y => decide (x ≤ y)).toArray).heap ++ os).size
      rw [Array.size_append]
      have : (putRow (Value.int .i64) (Sort.ahead w n) g 0 (zs.mergeSort fun x y => decide (x ≤ y)).toArray).heap.size = w.heap.size := by simp [putRow, mapBlock, Sort.ahead]
      omega
    · rw [hb b hlt]
      simp [putRow, mapBlock, Array.getElem?_modify, Ne.symm hne]
    · rw [hb g hglt]
      simp [putRow, mapBlock, Array.getElem?_modify, hg]
      rfl
    · simp [putCells]
    · refine List.ext_getElem? fun i => ?_
      rw [List.getElem?_take, List.getElem?_map]
      split
      · rename_i hi
        have hgi := hget i hi
        simp only [putCells, Array.getElem?_toList, Array.getElem?_mapIdx, hgi, Option.map_some]
        rw [if_pos ⟨by omega, by simp [hms]; omega⟩]
        have hi' : i < (zs.mergeSort fun x y => decide (x ≤ y)).length := by omega
        simp only [List.getElem!_toArray, Nat.sub_zero, List.getElem!_eq_getElem?_getD, List.getElem?_eq_getElem hi', Option.getD_some, Option.map_some]
      · rw [List.getElem?_eq_none (by omega)]; rfl

end Go.Proofs

/- What is told of the program. -/
namespace Go.Fw
open Go Go.Proofs

/-! ### The context -/
def cx : Ctx := { tys := tys, eqs := [(85, [.int .i64, .bool])], exts := [(123, 1)], srt := [(94, 1)] }
theorem ext123 (s : ByteArray) (c : Int) (w : World) : (callFunc 123 #[.string s, .int .u8 c]).run Try.prog w = .ok (.value (.int .i64 (Lib.indexByte s.data.toList c.toNat.toUInt8))) w := by
  rw [run_callFunc_extern (P := Try.prog) (f := 123) (fn := Try.f123) (e := Extern.BytealgIndexByte.indexByte) (by kernel_rfl) (by kernel_rfl) (by kernel_rfl) (by kernel_rfl) (by kernel_rfl), Lib.run_indexByteString]
  rfl
theorem cx_eqs : ∀ t ds, look cx.eqs t = some ds → Try.prog.eqGuardType Try.prog.depth t = false ∧
    ∀ (w : World) (xs ys : List Value) (r : Bool), eqVs ds xs ys = some r → (Op.equalIn 10000 t (.agg xs.toArray) (.agg ys.toArray)).run Try.prog w = .ok r w := fun t n h => by
  simp only [cx, look] at h
  split at h
  · rename_i ht
    cases h
    have : t = 85 := by have := Nat.eq_of_beq_eq_true ht; exact this.symm
    subst this
    exact ⟨by kernel_rfl, eqs_fields tys_ok (by kernel_rfl) (by kernel_rfl) (by kernel_rfl)⟩
  · cases h
theorem cx_exts : ∀ f k, look cx.exts f = some k → ∀ (s : ByteArray) (c : Int) (w : World), (callFunc f #[.string s, .int .u8 c]).run Try.prog w = .ok (.value (.int .i64 (Lib.indexByte s.data.toList c.toNat.toUInt8))) w := fun f k h => by
  simp only [cx, look] at h
  split at h
  · rename_i ht
    have : f = 123 := by have := Nat.eq_of_beq_eq_true ht; exact this.symm
    subst this
    exact ext123
  · cases h
theorem cx_srt : ∀ f k, look cx.srt f = some k → SortOK Try.prog f := fun f k h => by
  simp only [cx, look] at h
  split at h
  · rename_i ht
    have : f = 94 := by have := Nat.eq_of_beq_eq_true ht; exact this.symm
    subst this
    exact try_sort
  · cases h
theorem cx_ok : cx.OK Try.prog := ⟨by kernel_rfl, tys_ok, cx_eqs, cx_exts, cx_srt⟩
/-- The same, where sums may wrap. -/
def cxw : Ctx := { cx with wrap := true }
theorem cxw_ok : cxw.OK Try.prog := ⟨cx_ok.mixed, cx_ok.tys, cx_ok.eqs, cx_ok.exts, cx_ok.srt⟩
/-- The same, for functions that write objects of their callers: these are called by what is said of them. -/
def cxm : Ctx := { cx with slz := true, exa := true, grd := [(22, 1), (74, 1)], inl := [(15, 1), (36, 1), (37, 1), (38, 1), (57, 1), (70, 1), (71, 1), (72, 1), (85, 1), (87, 1), (88, 1), (89, 1)] }
theorem cxm_ok : cxm.OK Try.prog := ⟨cx_ok.mixed, cx_ok.tys, cx_ok.eqs, cx_ok.exts, cx_ok.srt⟩
abbrev modH (P : Program) : HW := fun f args _ env st K' => ModH P f args env st K'
theorem mH_ok {P : Program} : HOK P (modH P) := modH_ok

end Go.Fw

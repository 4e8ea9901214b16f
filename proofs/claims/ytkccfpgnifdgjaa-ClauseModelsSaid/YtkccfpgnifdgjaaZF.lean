/- Texts that lead to the law, part 6. -/
import Derived.Test.YtkccfpgnifdgjaaZE
import Derived.Scope
import Derived.Laws.StructEq
import Derived.OrdersIn
import Derived.RangeFuncIn
import Derived.RangeFuncLeaves
import Derived.RangeFuncSeq

/- The value logic, part 19: a region whose order is drawn. -/
namespace Go.Fw
open Go

/-! ### What is looked at ahead of the walk: the order in which it is told -/
def belB (ops : Array Oper) : Nat → Oper → Nat → Bool
  | 0, _, _ => false
  | n + 1, o, j => (o.after.toList.any fun e => Region.binds .any e && Nat.beq e.on j) || o.after.toList.any fun e => Region.binds .any e && match ops[e.on]? with
    | some o2 => belB ops n o2 j
    | none => false
theorem belB_spec {ops : Array Oper} : ∀ {n : Nat} {o : Oper} {j : Nat}, belB ops n o j = true → Befo ops o j
  | 0, _, _, h => by cases h
  | n + 1, o, j, h => by
    simp only [belB, Bool.or_eq_true] at h
    rcases h with h | h
    · obtain ⟨e, he, hb⟩ := List.any_eq_true.1 h
      simp only [Bool.and_eq_true] at hb
      have : e.on = j := by simpa using hb.2
      exact this ▸ .one e (by simpa using he) hb.1
    · obtain ⟨e, he, hb⟩ := List.any_eq_true.1 h
      simp only [Bool.and_eq_true] at hb
      obtain ⟨hb, h2⟩ := hb
      split at h2
      · rename_i o2 ho2
        exact .step e (by simpa using he) hb ho2 (belB_spec h2)
      · cases h2
def firstB (ops : Array Oper) (listed : Array Bool) (i : Nat) (o : Oper) : Bool :=
  (Region.ready .any ops listed).contains i &&
    ((match o.dst with
      | some d => !(o.looksAt ops).contains d && (List.range ops.size).all fun k => !listed.getD k false || match ops[k]? with
        | some ok => !(ok.looksAt ops).contains d
        | none => true
      | none => true) &&
    (List.range ops.size).all fun j => match ops[j]? with
      | some oj => Nat.beq j i || listed.getD j true || (oj.after.toList.any fun e => Region.binds .any e && Nat.beq e.on i) || o.apart ops oj
      | none => true)
/-- Is a tree of orders one that may be walked? -/
def treeB (ops : Array Oper) : Tr → List Nat → Array Bool → Bool
  | .done, _, _ => true
  | .pure i t, pf, listed => match ops[i]? with
    | some o => firstB ops listed i o && treeB ops t (i :: pf) (listed.setIfInBounds i true)
    | none => false
  | .eff i t, pf, listed => match ops[i]? with
    | some _ => (match Region.ready .any ops listed with | [j] => Nat.beq i j | _ => false) && treeB ops t pf (listed.setIfInBounds i true)
    | none => false
  | .last i t L, pf, listed => match ops[i]? with
    | some o => (Region.ready .any ops listed).contains i && (pf.all (fun j => belB ops 3 o j || L.contains j) && treeB ops t pf (listed.setIfInBounds i true))
    | none => false
  | .fork i t L rest, pf, listed => match ops[i]? with
    | some o => (Region.ready .any ops listed).contains i && (pf.all (fun j => belB ops 3 o j || L.contains j) && (treeB ops t pf (listed.setIfInBounds i true) && treeB ops rest pf listed))
    | none => false
def treeOf : List (Nat × Kind) → Option Tr
  | [] => none
  | p :: r => match r with
    | [] => match p.2 with
      | .tree t => some t
      | _ => none
    | _ => none

def distB : List Oper → Bool
  | [] => true
  | o :: r => (match o.dst with
    | some d => r.all fun p => match p.dst with
      | some e => !Nat.beq d e
      | none => true
    | none => true) && distB r

def ordOK (ops : Array Oper) (ord : List (Nat × Kind)) : Bool :=
  Region.noSelect ops && (distB ops.toList && (covB ops (trOf ord) ops.size (Array.replicate ops.size false) (Region.ready .any ops (Array.replicate ops.size false)) && treeB ops (trOf ord) [] (Array.replicate ops.size false)))

theorem distB_spec : ∀ {l : List Oper}, distB l = true → ∀ (i j : Nat) (o p : Oper) (d : Nat), l[i]? = some o → l[j]? = some p → o.dst = some d → p.dst = some d → i = j
  | [], _, i, j, o, p, d, hi, _, _, _ => by simp at hi
  | q :: r, h, i, j, o, p, d, hi, hj, ho, hp => by
    simp only [distB, Bool.and_eq_true] at h
    obtain ⟨h1, h2⟩ := h
    have key : ∀ (m : Nat) (p : Oper), r[m]? = some p → q.dst = some d → p.dst = some d → False := by
      intro m p hm hq hp
      rw [hq] at h1
      simp only [List.all_eq_true] at h1
      have := h1 p (List.mem_of_getElem? hm)
      rw [hp] at this
      simp at this
    cases i with
    | zero =>
      cases j with
      | zero => rfl
      | succ j =>
        simp only [List.getElem?_cons_zero, Option.some.injEq, List.getElem?_cons_succ] at hi hj
        subst hi
        exact (key j p hj ho hp).elim
    | succ i =>
      cases j with
      | zero =>
        simp only [List.getElem?_cons_zero, Option.some.injEq, List.getElem?_cons_succ] at hi hj
        subst hj
        exact (key i o hi hp ho).elim
      | succ j =>
        simp only [List.getElem?_cons_succ] at hi hj
        rw [distB_spec h2 i j o p d hi hj ho hp]

/-! ### What is asked -/
def leW (st st' : St) : Prop := st'.cur.drop (st'.cur.length - st.cur.length) = st.cur ∧ st'.out = st.out ∧ ((st'.cur.take (st'.cur.length - st.cur.length)).all fun p => (look st.cur p.1).isNone) = true

/-- A literal of a slice whose parts are all closed data. -/
def clT : List LV → Option (List T)
  | [] => some []
  | .t x :: r => match clT r with
    | some l => some (x :: l)
    | none => none
  | _ :: _ => none
def partsC (env : Env) (sz : Nat) : Nat → List (Nat × Operand) → Option (List (List T))
  | _, [] => some []
  | i, (j, o) :: r => match Nat.beq i j, cellsOf (opd env o) with
    | true, some cs => match clT cs, partsC env sz (i + 1) r with
      | some ts, some l => match Nat.beq cs.length sz with
        | true => some (ts :: l)
        | false => none
      | _, _ => none
    | _, _ => none
def litCW (C : Ctx) (env : Env) (st : St) (s : Nat) (t len : Nat) (parts : List (Nat × Operand)) (K' : LV → St → Prop) : Prop :=
  match C.ty t with
  | some ⟨.slice e, _, _, _⟩ => match C.ty e with
    | some te => match Nat.beq parts.length len, Nat.ble (len * te.size) 16777216, Nat.ble len 16777216 with
      | true, true, true => match partsC env te.size 0 parts, freshB env st.cur s with
        | some els, true => K' (.osl (.cur s) te.size 0 len) { st with cur := (s, .row e te.size els) :: st.cur }
        | _, _ => False
      | _, _, _ => False
    | none => False
  | _ => False

theorem clT_W : ∀ {cs : List LV} {ts acc : List T} {K' : List T → Env → St → Prop} {env : Env} {st : St}, clT cs = some ts → K' (acc ++ ts) env st → cellsTW K' cs acc env st
  | [], ts, acc, K', env, st, h, hK => by cases h; simpa [cellsTW] using hK
  | x :: r, ts, acc, K', env, st, h, hK => by
    unfold clT at h
    split at h
    · cases ‹x :: r = []›
    · rename_i y r' heq
      cases heq
      split at h
      · rename_i l hl
        cases h
        simp only [cellsTW]
        exact clT_W hl (by simpa using hK)
      · cases h
    · cases h
theorem partsC_W {env env2 : Env} {st : St} {sz : Nat} {K' : List (List T) → Env → St → Prop} : ∀ {i : Nat} {parts : List (Nat × Operand)} {els acc : List (List T)}, (∀ p ∈ parts, opd env2 p.2 = opd env p.2) → partsC env sz i parts = some els → K' (acc ++ els) env2 st → partsW 0 sz K' i parts acc env2 st
  | i, [], els, acc, _, h, hK => by cases h; simpa [partsW] using hK
  | i, (j, o) :: r, els, acc, ho, h, hK => by
    simp only [partsC] at h
    simp only [partsW]
    rw [ho (j, o) (List.mem_cons_self ..)]
    split at h
    · rename_i cs hij hcs
      split at h
      · rename_i ts l hts hl
        split at h
        · rename_i hsz
          cases h
          rw [hij, hcs]
          simp only [hsz]
          refine clT_W hts ?_
          simp only [List.nil_append]
          exact partsC_W (fun p hp => ho p (List.mem_cons_of_mem _ hp)) hl (by simpa using hK)
        · cases h
      · cases h
    · cases h

def effW (C : Ctx) (P : Program) (o : Oper) (env : Env) (st : St) (K' : LV → St → Prop) : Prop :=
  match o.op with
  | .buildSlice t len parts => match look st.cur (site o.dst) with
    | none => litCW C env st (site o.dst) t len parts.toList fun x st => strS st (K' x)
    | some _ => False
  | .alloc t => match C.ty t, look st.cur (site o.dst) with
    | some ti, none => boxW env st (site o.dst) (some (ti.zero.map fun v => .t (ofV v))) fun x _ st => strS st (K' x)
    | _, _ => False
  | .box _ x => match look st.cur (site o.dst) with
    | none => boxW env st (site o.dst) (cellsOf (opd env x)) fun x _ st => strS st (K' x)
    | some _ => False
  | .makeSlice t l c => match look st.cur (site o.dst) with
    | none => makeW C env st (site o.dst) t (opd env l) (opd env c) fun x _ st => strS st (K' x)
    | some _ => False
  | .call c => match c.callee with
    | .value fo => match opd env fo with
      | .fn f cap => strL (c.args.toList.map (opd env) ++ capArgs cap) fun args => callW P env st (site o.dst) f args fun x _ st' => leW st st' ∧ strS st' (K' x)
      | _ => False
    | _ => False
  | _ => False

/-- One operation in its place. -/
def stepW (C : Ctx) (P : Program) (o : Oper) (k : Kind) (env : Env) (st : St) (K' : LV → Env → St → Prop) : Prop :=
  match k with
  | .pure => pureW C env st o.op fun x => K' x env st
  | .eff => effW C P o env st fun x st => K' x env st
  | .syn => opW C P o env st K'
  | .tree _ => False

def seqGo (C : Ctx) (P : Program) (ops : List Oper) (Q : Env → St → Prop) : List (Oper × Kind) → Env → St → Prop
  | [], env, st => Q env st
  | p :: r, env, st => match gdE ops env p.1 with
    | some true => stepW C P p.1 p.2 env st fun x env st => splW (splK p.1.op) x fun x => seqGo C P ops Q r (putE env p.1.dst x) st
    | some false => seqGo C P ops Q r (putE env p.1.dst (.tup [])) st
    | none => False

def Kind.isTree : Kind → Bool
  | .tree _ => true
  | _ => false
def ordL (ops : List Oper) : List (Nat × Kind) → Option (List (Oper × Kind))
  | [] => some []
  | p :: r => match nth ops p.1, ordL ops r, p.2.isTree with
    | some o, some l, false => some ((o, p.2) :: l)
    | _, _, _ => none

/-- What only reads says the same again. -/
def againW (C : Ctx) (ops : List Oper) : List Nat → Env → St → Prop → Prop
  | [], _, _, K' => K'
  | j :: r, env, st, K' => match nth ops j with
    | some o => match o.guard with
      | none => match o.dst with
        | some d => pureW C env st o.op fun y => look env d = some y ∧ againW C ops r env st K'
        | none => False
      | some _ => False
    | none => False
/-- Every order, as a tree tells them. -/
def treeW (C : Ctx) (P : Program) (ops : List Oper) (Q : Env → St → Prop) : Tr → Env → St → Prop
  | .done, env, st => Q env st
  | .pure i t, env, st => match nth ops i with
    | some o => match gdE ops env o with
      | some true => pureW C env st o.op fun x => splW (splK o.op) x fun x => treeW C P ops Q t (putE env o.dst x) st
      | some false => treeW C P ops Q t (putE env o.dst (.tup [])) st
      | none => False
    | none => False
  | .eff i t, env, st => match nth ops i with
    | some o => match gdE ops env o with
      | some true => effW C P o env st fun x st => splW (splK o.op) x fun x => treeW C P ops Q t (putE env o.dst x) st
      | some false => treeW C P ops Q t (putE env o.dst (.tup [])) st
      | none => False
    | none => False
  | .last i t L, env, st => match nth ops i with
    | some o => match gdE ops env o with
      | some true => opW C P o env st fun x env st => splW (splK o.op) x fun x => againW C ops L (putE env o.dst x) st (treeW C P ops Q t (putE env o.dst x) st)
      | some false => againW C ops L (putE env o.dst (.tup [])) st (treeW C P ops Q t (putE env o.dst (.tup [])) st)
      | none => False
    | none => False
  | .fork i t L rest, env, st => (match nth ops i with
    | some o => match gdE ops env o with
      | some true => opW C P o env st fun x env st => splW (splK o.op) x fun x => againW C ops L (putE env o.dst x) st (treeW C P ops Q t (putE env o.dst x) st)
      | some false => againW C ops L (putE env o.dst (.tup [])) st (treeW C P ops Q t (putE env o.dst (.tup [])) st)
      | none => False
    | none => False) ∧ treeW C P ops Q rest env st

def seqW (C : Ctx) (P : Program) (ops : List Oper) (Q : Env → St → Prop) (ord : List (Nat × Kind)) (env : Env) (st : St) : Prop :=
  match treeOf ord with
  | some t => treeW C P ops Q t env st
  | none => match ordL ops ord with
    | some l => seqGo C P ops Q l env st
    | none => False

section
variable {C : Ctx} {P : Program} {E : Ent} {N : Nat} {β : K → Nat} {RO : Nat → Prop} {env : Env} {st : St} {a : Act} {w w' : World} {ef : EF}

/-! ### Slots as a list and as a function -/
def ofF (ns : List Nat) (ef : EF) : Env := ns.filterMap fun n => (ef n).map fun x => (n, x)
theorem look_ofF (ef : EF) : ∀ (ns : List Nat) (n : Nat), look (ofF ns ef) n = if n ∈ ns then ef n else none
  | [], n => by simp [ofF, look]
  | m :: r, n => by
    have ih := look_ofF ef r n
    unfold ofF at ih ⊢
    cases hm : ef m with
    | none =>
      simp only [List.filterMap_cons, hm, Option.map_none]
      rw [ih]
      by_cases hn : n = m
      · subst hn; simp [hm]
      · simp [hn]
    | some x =>
      simp only [List.filterMap_cons, hm, Option.map_some, look_cons]
      by_cases hn : m = n
      · subst hn; simp [hm]
      · rw [if_neg hn, ih]; simp [Ne.symm hn]

theorem SF.list (h : SF E N β RO ef st a w) {env : Env} (he : ∀ n x, look env n = some x → ef n = some x) : SR E N β RO env st a w :=
  ⟨h.wr, h.size, h.defers, fun n x hx => h.env n x (he n x hx)⟩
theorem SF.ofF (h : SF E N β RO ef st a w) (ns : List Nat) : SR E N β RO (ofF ns ef) st a w := h.list fun n x hx => by
  rw [look_ofF] at hx
  split at hx
  · exact hx
  · cases hx
theorem SR.toF (h : SR E N β RO env st a w) : SF E N β RO (look env) st a w := ⟨h.wr, h.size, h.defers, h.env⟩

theorem look_putE (env : Env) (d : Option Nat) (x : LV) : look (putE env d x) = putF (look env) d x := by
  cases d with
  | none => rfl
  | some d =>
    funext n
    simp only [putE, look_cons, putF]
    by_cases h : d = n
    · subst h; simp
    · rw [if_neg h, if_neg (Ne.symm h)]

theorem gdE_F {ops : Array Oper} {o : Oper} {b : Bool} (h : gdE ops.toList env o = some b) : gdF ops (look env) o = some b := by
  unfold gdE at h
  unfold gdF
  split at h
  · rename_i h0; rw [h0]; exact h
  · rename_i j want h0
    rw [h0]
    rw [nth_eq, Array.getElem?_toList] at h
    split at h
    · rename_i p hp
      split at h
      · rename_i d hd
        split at h
        · rename_i bb hb
          simp only [hp, Option.bind_some, hd, hb]
          rw [← h]
          cases bb <;> cases want <;> rfl
        · rename_i hb
          simp only [hp, Option.bind_some, hd, hb]
          exact h
        · cases h
      · cases h
    · cases h

theorem looks_mem {ops : Array Oper} {o : Oper} {n : Nat} (h : .tmp n ∈ o.op.operands) : n ∈ o.looksAt ops := by
  unfold Oper.looksAt
  refine List.mem_append_left _ (List.mem_filterMap.2 ⟨.tmp n, by simpa using h, rfl⟩)

theorem opd_agree {ops : Array Oper} {o : Oper} {env env' : Env} (h : ∀ n ∈ o.looksAt ops, look env' n = look env n) : ∀ x ∈ o.op.operands, opd env' x = opd env x :=
  fun _ hx => opd_congr fun t ht => h t (looks_mem (ht ▸ hx))

theorem pureS_of {ops : Array Oper} (hC : C.OK P) {o : Oper} {x : LV} (h : pev C env st o.op = some x) : PureS P E N ops o (look env) st x := by
  intro ef' hef st' hle β RO a w hs
  have hs' := hs.ofF (o.looksAt ops)
  refine pev_sound hC hs' ?_
  rw [pev_congr (env := env) (opd_agree (ops := ops) fun n hn => by rw [look_ofF, if_pos hn]; exact hef n hn)]
  exact pev_mono hle h

theorem envNo_app {s : K} : ∀ {pre env : Env}, envNo s (pre ++ env) = true → envNo s env = true
  | [], env, h => h
  | (m, x) :: r, env, h => by
    simp only [List.cons_append, envNo] at h
    split at h
    · cases h
    · exact envNo_app h
theorem envNo_of {s : K} : ∀ {env : Env}, (∀ p ∈ env, p.2.has s = false) → envNo s env = true
  | [], _ => rfl
  | (m, x) :: r, h => by
    have := h (m, x) (List.mem_cons_self ..)
    simp only at this
    simp only [envNo, this]
    exact envNo_of fun p hp => h p (List.mem_cons_of_mem _ hp)
theorem mem_ofF {ns : List Nat} {ef : EF} {p : Nat × LV} (h : p ∈ ofF ns ef) : ef p.1 = some p.2 := by
  unfold ofF at h
  obtain ⟨n, hn, h1⟩ := List.mem_filterMap.1 h
  cases he : ef n with
  | none => simp [he] at h1
  | some x => simp [he] at h1; rw [← h1]; exact he

/-- Where the told slots are fresh, those of another order are. -/
theorem fresh_other {env0 pre : Env} {ef' : EF} {ns : List Nat} (hp : env = pre ++ env0) (h3 : ∀ n, ef' n = look env n ∨ ef' n = look env0 n ∨ ef' n = none) {cur : Fr} {s : Nat} (hf : freshB env cur s = true) : freshB (ofF ns ef') cur s = true := by
  unfold freshB at hf ⊢
  split at hf
  · rename_i he
    have he0 : envNo (.cur s) env0 = true := envNo_app (hp ▸ he)
    rw [envNo_of fun p hpm => ?_]
    · exact hf
    · have := mem_ofF hpm
      rcases h3 p.1 with h | h | h
      · rw [h] at this; exact envNo_look he _ _ this
      · rw [h] at this; exact envNo_look he0 _ _ this
      · rw [h] at this; cases this
  · cases hf

theorem okFr_other {env0 pre : Env} {ef' : EF} {ns : List Nat} (hp : env = pre ++ env0) (h3 : ∀ n, ef' n = look env n ∨ ef' n = look env0 n ∨ ef' n = none) {ro cur : Fr} {d : Nat} : ∀ {l : Fr}, okFr ro env cur d l = true → okFr ro (ofF ns ef') cur d l = true
  | [], _ => rfl
  | (s, o) :: r, h => by
    simp only [okFr] at h ⊢
    split at h
    · rename_i h1 h2
      rw [h1, fresh_other hp h3 h2]
      exact okFr_other hp h3 h
    · cases h

theorem le_cons {st : St} {s : Nat} {ob : Ob} (hl : look st.cur s = none) : st.le { st with cur := (s, ob) :: st.cur } := by
  intro k
  induction k with
  | cur n =>
    intro o ho
    simp only [St.get, look_cons] at ho ⊢
    rw [if_neg fun e => by subst e; rw [hl] at ho; cases ho]; exact ho
  | fr i n => intro o ho; exact ho
  | sub k i ih =>
    intro o ho
    obtain ⟨eo, e, sz, rs, es, hg, hi, rfl⟩ := St.get_sub ho
    have := ih _ hg
    simp only [St.get] at this ⊢
    simp only [this, hi]


theorem boxW_other {env0 pre : Env} {ef' : EF} {ns : List Nat} (hp : env = pre ++ env0) (h3 : ∀ n, ef' n = look env n ∨ ef' n = look env0 n ∨ ef' n = none) {s : Nat} {cs : Option (List LV)} {K' : LV → St → Prop} (hl : look st.cur s = none) (h : boxW env st s cs fun x _ st => K' x st) :
    boxW (ofF ns ef') st s cs fun x e2 st' => e2 = ofF ns ef' ∧ K' x st' ∧ st.le st' := by
  unfold boxW at h ⊢
  split at h
  · split at h
    · rename_i hf
      rw [fresh_other hp h3 hf]
      exact ⟨rfl, h, le_cons hl⟩
    · cases h
  · cases h

theorem makeW_other {env0 pre : Env} {ef' : EF} {ns : List Nat} (hp : env = pre ++ env0) (h3 : ∀ n, ef' n = look env n ∨ ef' n = look env0 n ∨ ef' n = none) {s t : Nat} {l c : LV} {K' : LV → St → Prop} (hl : look st.cur s = none) (h : makeW C env st s t l c fun x _ st => K' x st) :
    makeW C (ofF ns ef') st s t l c fun x e2 st' => e2 = ofF ns ef' ∧ K' x st' ∧ st.le st' := by
  unfold makeW at h ⊢
  split at h
  · split at h
    · split at h
      · obtain ⟨h1, h2, h4, h5, h⟩ := h
        refine ⟨h1, h2, h4, h5, ?_⟩
        split at h
        · rename_i hf
          rw [fresh_other hp h3 hf]
          exact ⟨rfl, h, le_cons hl⟩
        · cases h
      · cases h
    · cases h
  · cases h

theorem litCW_other {env0 pre : Env} {ef' : EF} {ns : List Nat} (hp : env = pre ++ env0) (h3 : ∀ n, ef' n = look env n ∨ ef' n = look env0 n ∨ ef' n = none) {s t len : Nat} {parts : List (Nat × Operand)} {K' : LV → St → Prop} (ho : ∀ p ∈ parts, opd (ofF ns ef') p.2 = opd env p.2) (hl : look st.cur s = none) (h : litCW C env st s t len parts K') :
    litW C (ofF ns ef') st s t len parts fun x e2 st' => e2 = ofF ns ef' ∧ K' x st' ∧ st.le st' := by
  unfold litCW at h
  unfold litW
  split at h
  · rename_i e sz b z ht
    simp only [ht]
    split at h
    · rename_i te hte
      simp only [hte]
      split at h
      · rename_i h1 h2 h4
        rw [h1, h2, h4]
        simp only
        split at h
        · rename_i els hels hf
          refine partsC_W ho hels ?_
          rw [fresh_other hp h3 hf]
          simp only [List.nil_append]
          exact ⟨trivial, h, le_cons hl⟩
        · cases h
      · cases h
    · cases h
  · cases h

theorem le_of_leW {st st' : St} (h : leW st st') : st.le st' := by
  obtain ⟨h1, h2, h3⟩ := h
  have hcur : ∀ n o, look st.cur n = some o → look st'.cur n = some o := by
    intro n o ho
    have key : ∀ (pre : Fr), (pre.all fun p => (look st.cur p.1).isNone) = true → look (pre ++ st.cur) n = some o := by
      intro pre
      induction pre with
      | nil => intro _; exact ho
      | cons p r ih =>
        intro hp
        simp only [List.all_cons, Bool.and_eq_true] at hp
        obtain ⟨m, z⟩ := p
        simp only [List.cons_append, look_cons]
        rw [if_neg fun e => by subst e; simp [ho] at hp]
        exact ih hp.2
    have := key _ h3
    generalize hm : st'.cur.length - st.cur.length = m at *
    rw [← h1, List.take_append_drop] at this
    exact this
  intro k
  induction k with
  | cur n => intro o ho; exact hcur n o ho
  | fr i n => intro o ho; simp only [St.get, h2] at ho ⊢; exact ho
  | sub k i ih =>
    intro o ho
    obtain ⟨eo, e, sz, rs, es, hg, hi, rfl⟩ := St.get_sub ho
    have := ih _ hg
    simp only [St.get] at this ⊢
    simp only [this, hi]

theorem plW_other {env0 pre : Env} {ef' : EF} {ns : List Nat} (hp : env = pre ++ env0) (h3 : ∀ n, ef' n = look env n ∨ ef' n = look env0 n ∨ ef' n = none) {d : Nat} {r : LV} {ro : Fr} {K' : LV → St → Prop} (h : plW env st d r ro fun x _ st => K' x st) :
    plW (ofF ns ef') st d r ro fun x _ st => K' x st := by
  unfold plW at h ⊢
  split at h
  · rename_i h1 h2
    rw [h1, okFr_other hp h3 h2]
    exact h
  · cases h

theorem callW_other {env0 pre : Env} {ef' : EF} {ns : List Nat} (hp : env = pre ++ env0) (h3 : ∀ n, ef' n = look env n ∨ ef' n = look env0 n ∨ ef' n = none) {d f : Nat} {args : List LV} {K' : LV → St → Prop} (h : callW P env st d f args fun x _ st => K' x st) :
    callW P (ofF ns ef') st d f args fun x _ st => K' x st := by
  have bor : ∀ {F G : List LV → Prop}, (∀ l, F l → G l) → ∀ (args acc : List LV), borC st args acc F → borC st args acc G := by
    intro F G hFG args
    induction args with
    | nil => intro acc h; exact hFG _ h
    | cons x r ih =>
      intro acc h
      cases x with
      | osl k sz off len =>
        simp only [borC] at h ⊢
        refine getW_mono (fun o ho => ?_) h
        split at ho
        · split at ho
          · rename_i hb
            obtain ⟨xs, e1, e2, h⟩ := ho
            exact ⟨xs, e1, e2, ih _ h⟩
          · cases ho
        · cases ho
      | _ => exact ih _ h
  have borw : ∀ {F G : List LV → Prop}, (∀ l, F l → G l) → ∀ (args acc : List LV), borW st args acc F → borW st args acc G := by
    intro F G hFG args
    induction args with
    | nil => intro acc h; exact hFG _ h
    | cons x r ih =>
      intro acc h
      cases x with
      | osl k sz off len => simp only [borW] at h ⊢; exact bor (fun l hl => ih _ hl) _ _ h
      | agg cs => simp only [borW] at h ⊢; exact bor (fun l hl => ih _ hl) _ _ h
      | _ => exact ih _ h
  unfold callW at h ⊢
  split at h
  · exact h.mono fun r ro hr => plW_other hp h3 hr
  split at h
  · refine h.mono fun r ro hr => ?_
    unfold mapPW at hr ⊢
    split at hr
    · split at hr
      · exact plW_other hp h3 hr
      · cases hr
    · cases hr
  · exact borw (fun l hl => hl.mono fun r ro ⟨h1, h2, h4⟩ => ⟨h1, h2, plW_other hp h3 h4⟩) _ _ h
where getW_mono {st : St} : ∀ {k : K} {F G : Ob → Prop}, (∀ o, F o → G o) → getW st k F → getW st k G
  | .cur s, F, G, h, hg => by
    simp only [getW] at hg ⊢
    split at hg
    · exact h _ hg
    · cases hg
  | .fr i s, F, G, h, ⟨o, h1, h2⟩ => ⟨o, h1, h _ h2⟩
  | .sub k i, F, G, h, hg => by
    simp only [getW] at hg ⊢
    refine getW_mono (fun o ho => ?_) hg
    split at ho
    · obtain ⟨es, h1, h2⟩ := ho; exact ⟨es, h1, h _ h2⟩
    · cases ho

theorem effS_of (hC : C.OK P) {ops : Array Oper} {o : Oper} {env0 pre : Env} {K' : LV → St → Prop} (hp : env = pre ++ env0) (h : effW C P o env st K') :
    EffS P E N ops (look env0) o (look env) st fun x st' => st.le st' ∧ K' x st' := by
  intro ef' h2 h3 β RO a w hs
  have hlk : ∀ n ∈ o.looksAt ops, look (ofF (env.map (·.1) ++ o.looksAt ops) ef') n = look env n := fun n hn => by
    rw [look_ofF, if_pos (List.mem_append_right _ hn)]; exact h2 n hn
  have hopd := opd_agree (env := env) (o := o) (ops := ops) hlk
  have hsr := hs.ofF (env.map (·.1) ++ o.looksAt ops)
  generalize hns : env.map (·.1) ++ o.looksAt ops = ns at *
  have fin : ∀ (v : Value) (x : LV) (env2 : Env) (st2 : St) (β2 : K → Nat) (RO2 : Nat → Prop) (w2 : World), env2 = ofF ns ef' → K' x st2 → st.le st2 → SR E N β2 RO2 env2 st2 a w2 → VL β2 RO2 w2 x v →
      ∃ v' x st' β' RO', (st.le st' ∧ K' x st') ∧ a.put o.dst v = a.put o.dst v' ∧ SF E N β' RO' ef' st' a w2 ∧ VL β' RO' w2 x v' := by
    intro v x env2 st2 β2 RO2 w2 he hK hle hs2 hv
    subst he
    refine ⟨v, x, st2, β2, RO2, ⟨hle, hK⟩, rfl, ⟨hs2.wr, hs2.size, hs2.defers, fun n y hy => ?_⟩, hv⟩
    by_cases hn : n ∈ ns
    · exact hs2.env n y (by rw [look_ofF, if_pos hn]; exact hy)
    · exfalso
      have hno : ∀ {l : Env}, n ∉ l.map (·.1) → look l n = none := by
        intro l
        induction l with
        | nil => intro _; rfl
        | cons q r ih =>
          intro hq
          simp only [List.map_cons, List.mem_cons, not_or] at hq
          obtain ⟨m, z⟩ := q
          rw [look_cons, if_neg (Ne.symm hq.1)]
          exact ih hq.2
      have hn1 : n ∉ env.map (·.1) := fun hc => hn (hns ▸ List.mem_append_left _ hc)
      have hn0 : n ∉ env0.map (·.1) := fun hc => hn1 (by rw [hp]; simp only [List.map_append]; exact List.mem_append_right _ hc)
      rcases h3 n with h4 | h4 | h4
      · rw [h4, hno hn1] at hy; cases hy
      · rw [h4, hno hn0] at hy; cases hy
      · rw [h4] at hy; cases hy
  unfold effW at h
  split at h
  · rename_i t len parts hop
    split at h
    · rename_i hl
      have hx : ∀ p ∈ parts.toList, opd (ofF ns ef') p.2 = opd env p.2 := fun p hp => hopd p.2 (by
        rw [hop]; simp [Op.operands]; exact ⟨p.1, by simpa using hp⟩)
      refine upon_gives (s := Instr.buildSlice t len (parts.map fun p => (p.1, a.eval p.2))) (by simp only [execOp, hop]) ?_ fun v x env2 st2 β2 RO2 w2 (h4 : env2 = ofF ns ef' ∧ strS st2 (K' x) ∧ st.le st2) hs2 hv => fin v x env2 st2 β2 RO2 w2 h4.1 (strS_gives h4.2.1) h4.2.2 hs2 hv
      have := litW_gives hC hsr (litCW_other (K' := fun x st => strS st (K' x)) hp h3 hx hl h)
      simpa using this
    · cases h
  · rename_i t hop
    split at h
    · rename_i ti hti hl
      exact upon_gives (s := Instr.alloc t true (.tuple #[])) (by simp only [execOp, hop]) (allocW_gives hC hsr hti (boxW_other (K' := fun x st => strS st (K' x)) hp h3 hl h)) fun v x env2 st2 β2 RO2 w2 ⟨h4, h5, h6⟩ hs2 hv => fin v x env2 st2 β2 RO2 w2 h4 (strS_gives h5) h6 hs2 hv
    · cases h
  · rename_i t x hop
    split at h
    · rename_i hl
      have hx : opd (ofF ns ef') x = opd env x := hopd x (by rw [hop]; simp [Op.operands])
      rw [← hx] at h
      exact upon_gives (s := Instr.box t (a.eval x)) (by simp only [execOp, hop]) (boxW_gives hsr (boxW_other (K' := fun x st => strS st (K' x)) hp h3 hl h)) fun v x env2 st2 β2 RO2 w2 ⟨h4, h5, h6⟩ hs2 hv => fin v x env2 st2 β2 RO2 w2 h4 (strS_gives h5) h6 hs2 hv
    · cases h
  · rename_i t l c hop
    split at h
    · rename_i hl
      have hx : opd (ofF ns ef') l = opd env l := hopd l (by rw [hop]; simp [Op.operands])
      have hy : opd (ofF ns ef') c = opd env c := hopd c (by rw [hop]; simp [Op.operands])
      rw [← hx, ← hy] at h
      exact upon_gives (s := Instr.makeSlice t (a.eval l) (a.eval c)) (by simp only [execOp, hop]) (madeW_gives hC hsr (makeW_other (K' := fun x st => strS st (K' x)) hp h3 hl h)) fun v x env2 st2 β2 RO2 w2 ⟨h4, h5, h6⟩ hs2 hv => fin v x env2 st2 β2 RO2 w2 h4 (strS_gives h5) h6 hs2 hv
    · cases h
  · rename_i c hop
    split at h
    · rename_i fo hcal
      split at h
      · rename_i f cap hf
        have hx : opd (ofF ns ef') fo = opd env fo := hopd fo (by rw [hop]; simp [Op.operands, Call.operands, hcal])
        have hy : c.args.toList.map (opd (ofF ns ef')) = c.args.toList.map (opd env) := List.map_congr_left fun y hy => hopd y (by rw [hop]; simp [Op.operands, Call.operands]; exact .inr (by simpa using hy))
        rw [← hx] at hf
        have h := strL_gives h
        rw [← hy] at h
        exact call_wp hop hcal hsr hf (callW_other (K' := fun x st' => leW st st' ∧ strS st' (K' x)) hp h3 h) fun v x env2 st2 β2 RO2 w2 ⟨h4, h5⟩ hs2 hv he => fin v x env2 st2 β2 RO2 w2 he (strS_gives h5) (le_of_leW h4) hs2 hv
      · cases h
    · cases h
  · cases h

theorem firstB_spec {ops : Array Oper} {listed : Array Bool} {i : Nat} {o : Oper} (h : firstB ops listed i o = true) : FirstOK ops listed i o := by
  simp only [firstB, Bool.and_eq_true] at h
  obtain ⟨h1, h0, h2⟩ := h
  refine ⟨by simpa using h1, fun d hd => ?_, fun k ok hk hok d hd => ?_, fun j oj hj hji hl hne => ?_⟩
  · simp only [hd, Bool.and_eq_true, Bool.not_eq_true'] at h0
    intro hc
    have := h0.1
    simp [hc] at this
  · simp only [hd, Bool.and_eq_true] at h0
    have hlt : k < ops.size := (Array.getElem?_eq_some_iff.1 hok).1
    have := List.all_eq_true.1 h0.2 k (List.mem_range.2 hlt)
    rw [hk, hok] at this
    simp only [Bool.not_true, Bool.false_or, Bool.not_eq_true'] at this
    intro hc
    simp [hc] at this
  · have hlt : j < ops.size := (Array.getElem?_eq_some_iff.1 hj).1
    have := List.all_eq_true.1 h2 j (List.mem_range.2 hlt)
    rw [hj] at this
    simp only [Bool.or_eq_true, hl, Bool.false_eq_true, or_false] at this
    rcases this with (this | this) | this
    · exact absurd (by simpa using this) hji
    · obtain ⟨e, he, hb⟩ := List.any_eq_true.1 this
      simp only [Bool.and_eq_true] at hb
      exact absurd (by simpa using hb.2) (hne e (by simpa using he) hb.1)
    · exact this
theorem sole_spec {ops : Array Oper} {listed : Array Bool} {i : Nat} (h : (match Region.ready .any ops listed with | [j] => Nat.beq i j | _ => false) = true) : Region.ready .any ops listed = [i] := by
  split at h
  · rename_i j hj
    have : i = j := by simpa using h
    rw [hj, this]
  · cases h
theorem putE_app {env env0 pre : Env} (hp : env = pre ++ env0) (d : Option Nat) (x : LV) : ∃ pre', putE env d x = pre' ++ env0 := by
  cases d with
  | none => exact ⟨pre, hp⟩
  | some d => exact ⟨(d, x) :: pre, by simp [putE, hp]⟩
theorem againW_spec (hC : C.OK P) {ops : Array Oper} : ∀ {L : List Nat} {env : Env} {st : St} {K' : Prop}, againW C ops.toList L env st K' → K' ∧ ∀ j ∈ L, Again P E N ops j (look env) st
  | [], env, st, K', h => ⟨h, fun j hj => by cases hj⟩
  | j :: r, env, st, K', h => by
    simp only [againW] at h
    split at h
    rotate_left
    · cases h
    rename_i o hno
    rw [nth_eq, Array.getElem?_toList] at hno
    split at h
    rotate_left
    · cases h
    rename_i hg
    split at h
    rotate_left
    · cases h
    rename_i d hd
    obtain ⟨y, hy, hl, h⟩ := pureW_pev h
    obtain ⟨h1, h2⟩ := againW_spec hC h
    refine ⟨h1, fun k hk => ?_⟩
    rcases List.mem_cons.1 hk with rfl | hk
    · exact ⟨o, y, hno, fun d' hd' => by rw [hd] at hd'; cases hd'; exact hl, .inl ⟨by unfold gdF; rw [hg], pureS_of hC hy⟩⟩
    · exact h2 k hk
def inP_ (pf : List Nat) : Nat → Bool := fun k => pf.any fun j => Nat.beq j k
theorem inP_cons (pf : List Nat) (i : Nat) : inP_ (i :: pf) = addP (inP_ pf) i := by funext k; simp [inP_, addP]
theorem pf_spec {ops : Array Oper} {o : Oper} {pf L : List Nat} {ef : EF} {st : St} (h : (pf.all fun j => belB ops 3 o j || L.contains j) = true) (hL : ∀ j ∈ L, Again P E N ops j ef st) : ∀ j, inP_ pf j = true → Befo ops o j ∨ Again P E N ops j ef st := fun j hj => by
  obtain ⟨k, hk, hkj⟩ := List.any_eq_true.1 hj
  have hkj : k = j := by simpa using hkj
  subst hkj
  have := List.all_eq_true.1 h k hk
  simp only [Bool.or_eq_true] at this
  rcases this with this | this
  · exact .inl (belB_spec this)
  · exact .inr (hL k (by simpa using this))

theorem tree_syn {ops : Array Oper} {Q : Env → St → Prop} {i : Nat} {o : Oper} {t : Tr} {L pf : List Nat} {listed : Array Bool} {env : Env} {st : St} (hC : C.OK P) (hd : dstOK N ops.toList = true) (hno : ops[i]? = some o) (hr : i ∈ Region.ready .any ops listed) (h2 : (pf.all fun j => belB ops 3 o j || L.contains j) = true)
    (hsub : ∀ env st, treeW C P ops.toList Q t env st → treeF P E N ops (fun ef st => ∃ env, ef = look env ∧ Q env st) t (inP_ pf) (look env) (listed.setIfInBounds i true) (look env) st)
    (h : match gdE ops.toList env o with
      | some true => opW C P o env st fun x env st => splW (splK o.op) x fun x => againW C ops.toList L (putE env o.dst x) st (treeW C P ops.toList Q t (putE env o.dst x) st)
      | some false => againW C ops.toList L (putE env o.dst (.tup [])) st (treeW C P ops.toList Q t (putE env o.dst (.tup [])) st)
      | none => False) :
    ∃ o, ops[i]? = some o ∧ i ∈ Region.ready .any ops listed ∧ SynG P E N ops o (look env) st fun ef' st' => (∀ j, inP_ pf j = true → Befo ops o j ∨ Again P E N ops j ef' st') ∧
      treeF P E N ops (fun ef st => ∃ env, ef = look env ∧ Q env st) t (inP_ pf) ef' (listed.setIfInBounds i true) ef' st' := by
  have hdo : ∀ d, o.dst = some d → d < N := dstOK_mem hd o (by
    have := Array.mem_of_getElem? hno
    simpa using this)
  split at h
  · rename_i hg
    refine ⟨o, hno, hr, .inl ⟨gdE_F hg, fun β RO a w hs => ?_⟩⟩
    have hsr : SR E N β RO env st a w := hs.list fun n x hx => hx
    refine opW_sound hC hsr h fun v x env' st' β' RO' w' hK hs2 hv => ?_
    obtain ⟨g1, g2⟩ := againW_spec (E := E) (N := N) hC (splW_gives hK)
    exact ⟨look (putE env' o.dst x), st', β', RO', ⟨pf_spec h2 g2, hsub _ _ g1⟩, (hs2.put hv hdo).toF⟩
  · rename_i hg
    obtain ⟨g1, g2⟩ := againW_spec (E := E) (N := N) hC h
    refine ⟨o, hno, hr, .inr ⟨gdE_F hg, look (putE env o.dst (.tup [])), fun n x hx => by rw [← look_putE]; exact hx, pf_spec h2 g2, hsub _ _ g1⟩⟩
  · cases h
theorem treeW_treeF (hC : C.OK P) {ops : Array Oper} {Q : Env → St → Prop} (hd : dstOK N ops.toList = true) : ∀ (t : Tr) (pf : List Nat) (env0 pre env : Env) (listed : Array Bool) (st : St), env = pre ++ env0 → treeB ops t pf listed = true → treeW C P ops.toList Q t env st →
    treeF P E N ops (fun ef st => ∃ env, ef = look env ∧ Q env st) t (inP_ pf) (look env0) listed (look env) st
  | .done, pf, env0, pre, env, listed, st, hp, ho, h => ⟨env, rfl, h⟩
  | .pure i t, pf, env0, pre, env, listed, st, hp, ho, h => by
    simp only [treeW] at h
    split at h
    rotate_left
    · cases h
    rename_i o hno
    rw [nth_eq, Array.getElem?_toList] at hno
    simp only [treeB, hno, Bool.and_eq_true] at ho
    have hF := firstB_spec ho.1
    split at h
    · rename_i hg
      obtain ⟨x, hx, hK⟩ := pureW_pev h
      refine ⟨o, x, hno, hF, .inl ⟨gdE_F hg, pureS_of hC hx⟩, ?_⟩
      obtain ⟨pre', hp'⟩ := putE_app hp o.dst x
      rw [← look_putE, ← inP_cons]
      exact treeW_treeF hC hd t (i :: pf) env0 pre' _ _ st hp' ho.2 (splW_gives hK)
    · rename_i hg
      refine ⟨o, .tup [], hno, hF, .inr ⟨gdE_F hg, rfl⟩, ?_⟩
      obtain ⟨pre', hp'⟩ := putE_app hp o.dst (.tup [])
      rw [← look_putE, ← inP_cons]
      exact treeW_treeF hC hd t (i :: pf) env0 pre' _ _ st hp' ho.2 h
    · cases h
  | .eff i t, pf, env0, pre, env, listed, st, hp, ho, h => by
    simp only [treeW] at h
    split at h
    rotate_left
    · cases h
    rename_i o hno
    rw [nth_eq, Array.getElem?_toList] at hno
    simp only [treeB, hno, Bool.and_eq_true] at ho
    have hrd := sole_spec ho.1
    split at h
    · rename_i hg
      refine ⟨o, _, hno, hrd, .inl ⟨gdE_F hg, effS_of hC hp h⟩, fun x st' hR => ⟨hR.1, ?_⟩⟩
      obtain ⟨pre', hp'⟩ := putE_app hp o.dst x
      rw [← look_putE]
      exact treeW_treeF hC hd t pf env0 pre' _ _ st' hp' ho.2 (splW_gives hR.2)
    · rename_i hg
      refine ⟨o, fun x st' => x = .tup [] ∧ st' = st, hno, hrd, .inr ⟨gdE_F hg, rfl, rfl⟩, ?_⟩
      rintro x st' ⟨rfl, rfl⟩
      refine ⟨fun _ _ h => h, ?_⟩
      obtain ⟨pre', hp'⟩ := putE_app hp o.dst (.tup [])
      rw [← look_putE]
      exact treeW_treeF hC hd t pf env0 pre' _ _ _ hp' ho.2 h
    · cases h
  | .last i t L, pf, env0, pre, env, listed, st, hp, ho, h => by
    simp only [treeW] at h
    split at h
    rotate_left
    · cases h
    rename_i o hno
    rw [nth_eq, Array.getElem?_toList] at hno
    simp only [treeB, hno, Bool.and_eq_true] at ho
    obtain ⟨h1, h2, h3⟩ := ho
    exact tree_syn hC hd hno (by simpa using h1) h2 (fun env st hk => treeW_treeF hC hd t pf env [] env _ st rfl h3 hk) h
  | .fork i t L rest, pf, env0, pre, env, listed, st, hp, ho, h => by
    simp only [treeW] at h
    obtain ⟨h, hr⟩ := h
    split at h
    rotate_left
    · cases h
    rename_i o hno
    rw [nth_eq, Array.getElem?_toList] at hno
    simp only [treeB, hno, Bool.and_eq_true] at ho
    obtain ⟨h1, h2, h3, h4⟩ := ho
    exact ⟨tree_syn hC hd hno (by simpa using h1) h2 (fun env st hk => treeW_treeF hC hd t pf env [] env _ st rfl h3 hk) h, treeW_treeF hC hd rest pf env0 pre env listed st hp h4 hr⟩

theorem treeOf_tr {ord : List (Nat × Kind)} {t : Tr} (h : treeOf ord = some t) : trOf ord = t := by
  match ord, h with
  | [], h => cases h
  | [(i, .tree s)], h => simp only [treeOf, Option.some.injEq] at h; rw [← h]; rfl
  | [(i, .pure)], h => simp [treeOf] at h
  | [(i, .eff)], h => simp [treeOf] at h
  | [(i, .syn)], h => simp [treeOf] at h
  | _ :: _ :: _, h => simp [treeOf] at h
theorem seqW_treeF (hC : C.OK P) {ops : Array Oper} {Q : Env → St → Prop} (hd : dstOK N ops.toList = true) : ∀ (ord : List (Nat × Kind)) (ol : List (Oper × Kind)) (pf : List Nat) (env0 pre env : Env) (listed : Array Bool) (st : St), ordL ops.toList ord = some ol → env = pre ++ env0 → treeB ops (trOf ord) pf listed = true → seqGo C P ops.toList Q ol env st →
    treeF P E N ops (fun ef st => ∃ env, ef = look env ∧ Q env st) (trOf ord) (inP_ pf) (look env0) listed (look env) st
  | [], ol, pf, env0, pre, env, listed, st, hol, _, ho, h => by
    simp only [ordL, Option.some.injEq] at hol
    subst hol
    exact ⟨env, rfl, h⟩
  | (i, k) :: r, ol, pf, env0, pre, env, listed, st, hol, hp, ho, h => by
    simp only [ordL] at hol
    split at hol
    rotate_left
    · cases hol
    rename_i o l hno hl hkt
    cases hol
    rw [nth_eq, Array.getElem?_toList] at hno
    simp only [seqGo] at h
    cases k with
    | tree t => cases hkt
    | pure =>
      simp only [trOf, treeB, hno, Bool.and_eq_true] at ho
      have hF := firstB_spec ho.1
      split at h
      · rename_i hg
        obtain ⟨x, hx, hK⟩ := pureW_pev h
        refine ⟨o, x, hno, hF, .inl ⟨gdE_F hg, pureS_of hC hx⟩, ?_⟩
        obtain ⟨pre', hp'⟩ := putE_app hp o.dst x
        rw [← look_putE, ← inP_cons]
        exact seqW_treeF hC hd r l (i :: pf) env0 pre' _ _ st hl hp' ho.2 (splW_gives hK)
      · rename_i hg
        refine ⟨o, .tup [], hno, hF, .inr ⟨gdE_F hg, rfl⟩, ?_⟩
        obtain ⟨pre', hp'⟩ := putE_app hp o.dst (.tup [])
        rw [← look_putE, ← inP_cons]
        exact seqW_treeF hC hd r l (i :: pf) env0 pre' _ _ st hl hp' ho.2 h
      · cases h
    | eff =>
      simp only [trOf, treeB, hno, Bool.and_eq_true] at ho
      have hrd := sole_spec ho.1
      split at h
      · rename_i hg
        refine ⟨o, _, hno, hrd, .inl ⟨gdE_F hg, effS_of hC hp h⟩, fun x st' hR => ⟨hR.1, ?_⟩⟩
        obtain ⟨pre', hp'⟩ := putE_app hp o.dst x
        rw [← look_putE]
        exact seqW_treeF hC hd r l pf env0 pre' _ _ st' hl hp' ho.2 (splW_gives hR.2)
      · rename_i hg
        refine ⟨o, fun x st' => x = .tup [] ∧ st' = st, hno, hrd, .inr ⟨gdE_F hg, rfl, rfl⟩, ?_⟩
        rintro x st' ⟨rfl, rfl⟩
        refine ⟨fun _ _ h => h, ?_⟩
        obtain ⟨pre', hp'⟩ := putE_app hp o.dst (.tup [])
        rw [← look_putE]
        exact seqW_treeF hC hd r l pf env0 pre' _ _ _ hl hp' ho.2 h
      · cases h
    | syn =>
      simp only [trOf, treeB, hno, Bool.and_eq_true] at ho
      obtain ⟨h1, h2, h3⟩ := ho
      have hdo : ∀ d, o.dst = some d → d < N := dstOK_mem hd o (by
        have := Array.mem_of_getElem? hno
        simpa using this)
      have hr : i ∈ Region.ready .any ops listed := by simpa using h1
      split at h
      · rename_i hg
        refine ⟨o, hno, hr, .inl ⟨gdE_F hg, fun β RO a w hs => ?_⟩⟩
        have hsr : SR E N β RO env st a w := hs.list fun n x hx => hx
        refine opW_sound hC hsr h fun v x env' st' β' RO' w' hK hs2 hv => ?_
        exact ⟨look (putE env' o.dst x), st', β', RO', ⟨pf_spec (L := []) h2 fun j hj => (by cases hj), seqW_treeF hC hd r l pf _ [] _ _ st' hl rfl h3 (splW_gives hK)⟩, (hs2.put hv hdo).toF⟩
      · rename_i hg
        refine ⟨o, hno, hr, .inr ⟨gdE_F hg, look (putE env o.dst (.tup [])), fun n x hx => by rw [← look_putE]; exact hx, pf_spec (L := []) h2 fun j hj => (by cases hj), seqW_treeF hC hd r l pf _ [] _ _ st hl rfl h3 h⟩⟩
      · cases h

theorem drawn_sound (hC : C.OK P) {ops : Array Oper} {ord : List (Nat × Kind)} {Q : Env → St → Prop} {K' : Act → World → Prop} (hd : dstOK N ops.toList = true) (ho : ordOK ops ord = true) (hQ : ∀ env st β RO a w, Q env st → SR E N β RO env st a w → K' a w)
    (h : SR E N β RO env st a w) (hW : seqW C P ops.toList Q ord env st) : wpAny P .any ops (fun e a w => match e with | .normal => K' a w | _ => False) ops.size (Array.replicate ops.size false) a { w with drawn := w.drawn + 1 } := by
  have hs1 : SR E N β RO env st a { w with drawn := w.drawn + 1 } := ⟨h.wr.drew _, h.size, h.defers, fun n x hx => by
    obtain ⟨v, g1, g2⟩ := h.env n x hx
    exact ⟨v, g1, g2.mono (w := w) (w' := { w with drawn := w.drawn + 1 }) (fun _ h => h) (fun _ _ => rfl) (fun _ => True) (fun _ _ => ⟨rfl, fun _ h => h⟩) fun _ _ => trivial⟩⟩
  simp only [ordOK, Bool.and_eq_true] at ho
  obtain ⟨hns, hdis, hcov, htr⟩ := ho
  have hdist : Distinct ops := fun i j o p d hi hj ho hp => distB_spec hdis i j o p d (by simpa using hi) (by simpa using hj) ho hp
  have hN : ∀ (i : Nat) (o : Oper) (d : Nat), ops[i]? = some o → o.dst = some d → d < N := fun i o d hi hd' => dstOK_mem hd o (by have := Array.mem_of_getElem? hi; simpa using this) d hd'
  have hF : treeF P E N ops (fun ef st => ∃ env, ef = look env ∧ Q env st) (trOf ord) (inP_ []) (look env) (Array.replicate ops.size false) (look env) st := by
    unfold seqW at hW
    split at hW
    · rename_i t ht
      rw [treeOf_tr ht] at htr ⊢
      exact treeW_treeF hC hd t [] env [] env _ st rfl htr hW
    · split at hW
      case h_2 => cases hW
      rename_i ol hol
      exact seqW_treeF hC hd ord ol [] env [] env _ st hol rfl htr hW
  have hA := (treeF_any (Region.noSelect_spec hns) hN hdist (trOf ord) ops.size (inP_ []) (look env) _ _ _ st hcov down0 (fun _ _ _ _ _ _ => .inl rfl) (fun k hk => by simp [inP_] at hk) hF).2 rfl
  refine anyF_sound hN ?_ (fun e a w h => h.elim) ops.size _ _ _ _ _ β RO a _ hs1.toF hA
  rintro ef st β RO a w hs ⟨env, rfl, hq⟩
  exact hQ env st β RO a w hq (hs.list fun n x hx => hx)
theorem seqW_sound (hC : C.OK P) {id : Nat} {ops : Array Oper} {ord : List (Nat × Kind)} {Q : Env → St → Prop} {Q' : Exit → Act → World → Prop} (hd : dstOK N ops.toList = true) (ho : ordOK ops ord = true) (hQ : ∀ env st β RO a w, Q env st → SR E N β RO env st a w → Q' .normal a w)
    (h : SR E N β RO env st a w) (hW : seqW C P ops.toList Q ord env st) : (Code.region id ops true).wp P Q' a w :=
  wp_mono (wp_region_any hC.mixed (drawn_sound (K' := fun a w => Q' .normal a w) hC hd ho hQ h hW)) fun e a w hq => by
    cases e <;> first | exact hq | exact hq.elim

end
end Go.Fw

/- The value logic, part 20: code, and the body of a function. -/
namespace Go.Fw
open Go

/-- What is kept where a region is entered: slots; objects. -/
abbrev Kp := List (Nat × (List Nat × List Nat))
abbrev Od := List (Nat × List (Nat × Kind))

def keepW {α : Type} : List Nat → List (Nat × α) → (List (Nat × α) → Prop) → Prop
  | [], _, K' => K' []
  | k :: r, env, K' => match look env k with
    | some x => keepW r env fun t => K' ((k, x) :: t)
    | none => keepW r env K'

def fstR : Code → Option Nat
  | .region id _ _ => some id
  | .seq a _ => fstR a
  | .block _ b => fstR b
  | .loop b => fstR b
  | .scope b => fstR b
  | _ => none

def thenW (K' : Env → St → Prop) (Q : Exit → Env → St → Prop) (e : Exit) (env : Env) (st : St) : Prop :=
  match e with
  | .normal => K' env st
  | e => Q e env st
def entW (kp : Kp) (c : Code) (env : Env) (st : St) (K' : Env → St → Prop) : Prop := match fstR c with
  | some id => match look kp id with
    | some p => keepW p.1 env fun env => keepW p.2 st.cur fun cur => K' env ⟨st.out, cur⟩
    | none => K' env st
  | none => K' env st

def blockW (id : Nat) (Q : Exit → Env → St → Prop) (e : Exit) (env : Env) (st : St) : Prop :=
  match e with
  | .exit i => match Nat.beq i id with
    | true => Q .normal env st
    | false => Q (.exit i) env st
  | e => Q e env st

/-- A loop: a family of states that holds where it starts; how far it is. -/
inductive LoopW (kp : Kp) (b : Code) (W : Env → St → (Exit → Env → St → Prop) → Prop) (env : Env) (st : St) (Q : Exit → Env → St → Prop) : Prop
  | mk (ι : Type) (I : ι → Prop) (F : ι → Env) (S : ι → St) (m : ι → Nat) (i : ι) (h : I i) (h0 : entW kp b env st fun env st => env = F i ∧ st = S i)
      (hr : ∀ i, I i → W (F i) (S i) (thenW (fun env st => ∃ j, m j < m i ∧ I j ∧ entW kp b env st fun env st => env = F j ∧ st = S j) Q))

/-- What is asked of code. -/
def wpc (C : Ctx) (P : Program) (kp : Kp) (od : Od) : Code → Env → St → (Exit → Env → St → Prop) → Prop
  | .skip, env, st, Q => Q .normal env st
  | .label _, env, st, Q => Q .normal env st
  | .region id ops draw, env, st, Q => match draw with
    | false => regW C P ops.toList env st (Q .normal)
    | true => match look od id with
      | some ord => seqW C P ops.toList (Q .normal) ord env st
      | none => False
  | .seq a b, env, st, Q => wpc C P kp od a env st (thenW (fun env st => entW kp b env st fun env st => wpc C P kp od b env st Q) Q)
  | .cond c a b, env, st, Q => match opd env c with
    | .t (.v (.bool t)) => match t with
      | true => wpc C P kp od a env st Q
      | false => wpc C P kp od b env st Q
    | _ => False
  | .block id b, env, st, Q => wpc C P kp od b env st (blockW id Q)
  | .loop b, env, st, Q => LoopW kp b (fun env st Q => wpc C P kp od b env st Q) env st Q
  | .exit id, env, st, Q => Q (.exit id) env st
  | .ret, env, st, Q => Q .ret env st
  | .scope b, env, st, Q => wpc C P kp od b env st fun e env st => match e with
    | .goto _ => False
    | e => Q e env st
  | _, _, _, _ => False

/-- What is looked at ahead of the walk. -/
def codeOK (N : Nat) (od : Od) : Code → Bool
  | .region id ops draw => dstOK N ops.toList && (match draw with
    | false => true
    | true => match look od id with
      | some ord => ordOK ops ord
      | none => false)
  | .seq a b => codeOK N od a && codeOK N od b
  | .cond _ a b => codeOK N od a && codeOK N od b
  | .block _ b => codeOK N od b
  | .loop b => codeOK N od b
  | .scope b => codeOK N od b
  | _ => true

section
variable {C : Ctx} {P : Program} {E : Ent} {N : Nat} {β : K → Nat} {RO : Nat → Prop} {env env' : Env} {st st' : St} {a : Act} {w w' : World} {kp : Kp} {od : Od}

theorem WR.less (h : WR E β RO st w) (hs : ∀ k o, st'.get k = some o → st.get k = some o) : WR E β RO st' w :=
  ⟨h.os, h.tape, h.output, h.size, h.keep, h.roLt, h.ro0, h.roNew, fun k o hk => h.obj k o (hs k o hk), fun k o hk => h.objNew k o (hs k o hk),
    fun k k' o o' hk hk' => h.inj k k' o o' (hs k o hk) (hs k' o' hk'), fun k o hk => h.sep k o (hs k o hk), fun k o hk => h.fzRO k o (hs k o hk), h.stay⟩
theorem SR.less (h : SR E N β RO env st a w) (hs : ∀ k o, st'.get k = some o → st.get k = some o) (he : ∀ n x, look env' n = some x → look env n = some x) : SR E N β RO env' st' a w :=
  ⟨h.wr.less hs, h.size, h.defers, fun n x hx => h.env n x (he n x hx)⟩

theorem keepW_gives {α : Type} : ∀ {ks : List Nat} {env : List (Nat × α)} {K' : List (Nat × α) → Prop}, keepW ks env K' → ∃ env', K' env' ∧ ∀ (n : Nat) (x : α), look env' n = some x → look env n = some x
  | [], env, K', h => ⟨[], h, fun n x hx => by simp [look] at hx⟩
  | k :: r, env, K', h => by
    simp only [keepW] at h
    split at h
    · rename_i y hy
      obtain ⟨env', h1, h2⟩ := keepW_gives h
      refine ⟨_, h1, fun n x hx => ?_⟩
      rw [look_cons] at hx
      split at hx
      · rename_i hk; subst hk; rw [hy]; exact hx
      · exact h2 n x hx
    · exact keepW_gives h
theorem get_less {cur : Fr} (h : ∀ n x, look cur n = some x → look st.cur n = some x) : ∀ (k : K) (o : Ob), St.get ⟨st.out, cur⟩ k = some o → st.get k = some o
  | .cur n, o, hk => h n o hk
  | .fr i n, o, hk => hk
  | .sub k i, o, hk => by
    obtain ⟨eo, e, sz, rs, es, hg, hi, rfl⟩ := St.get_sub hk
    have := get_less h k _ hg
    simp only [St.get, this, hi]

theorem SR.ent (h : SR E N β RO env st a w) {c : Code} {K' : Env → St → Prop} (hW : entW kp c env st K') : ∃ env' st', K' env' st' ∧ SR E N β RO env' st' a w := by
  unfold entW at hW
  split at hW
  · split at hW
    · obtain ⟨env', h1, h2⟩ := keepW_gives hW
      obtain ⟨cur', h3, h4⟩ := keepW_gives h1
      exact ⟨env', _, h3, h.less (fun k o hk => get_less h4 k o hk) h2⟩
    · exact ⟨env, st, hW, h⟩
  · exact ⟨env, st, hW, h⟩

theorem least {R : Nat → Prop} (h : ∃ n, R n) : ∃ n, R n ∧ ∀ k, R k → n ≤ k := by
  obtain ⟨n, hn⟩ := h
  induction n using Nat.strongRecOn with
  | _ n ih =>
    by_cases hex : ∃ k, k < n ∧ R k
    · obtain ⟨k, hk, hR⟩ := hex; exact ih k hk hR
    · exact ⟨n, hn, fun k hk => by
        rcases Nat.lt_or_ge k n with h | h
        · exact absurd ⟨k, h, hk⟩ hex
        · exact h⟩

theorem wpc_sound (hC : C.OK P) : ∀ (c : Code), codeOK N od c = true → ∀ (β : K → Nat) (RO : Nat → Prop) (env : Env) (st : St) (a : Act) (w : World) (Q : Exit → Env → St → Prop), SR E N β RO env st a w → wpc C P kp od c env st Q → c.wp P (Post E N Q) a w
  | .skip, _, β, RO, env, st, a, w, Q, h, hW => wp_skip ⟨env, st, β, RO, hW, h⟩
  | .label _, _, β, RO, env, st, a, w, Q, h, hW => wp_label ⟨env, st, β, RO, hW, h⟩
  | .exit _, _, β, RO, env, st, a, w, Q, h, hW => wp_exit ⟨env, st, β, RO, hW, h⟩
  | .ret, _, β, RO, env, st, a, w, Q, h, hW => wp_ret ⟨env, st, β, RO, hW, h⟩
  | .region id ops draw, hk, β, RO, env, st, a, w, Q, h, hW => by
    simp only [codeOK, Bool.and_eq_true] at hk
    cases draw with
    | false => exact regW_sound hC hk.1 (fun env st β RO a w hq hs => ⟨env, st, β, RO, hq, hs⟩) h hW
    | true =>
      obtain ⟨h1, h2⟩ := hk
      simp only [wpc] at hW
      simp only at h2
      split at hW
      · rename_i ord ho
        rw [ho] at h2
        exact seqW_sound hC h1 h2 (fun env st β RO a w hq hs => ⟨env, st, β, RO, hq, hs⟩) h hW
      · cases hW
  | .seq x y, hk, β, RO, env, st, a, w, Q, h, hW => by
    simp only [codeOK, Bool.and_eq_true] at hk
    refine wp_seq (wp_mono (wpc_sound hC x hk.1 β RO env st a w _ h hW) ?_)
    rintro e a w ⟨env, st, β, RO, hq, hs⟩
    cases e with
    | normal =>
      have hq' : entW kp y env st fun env st => wpc C P kp od y env st Q := hq
      obtain ⟨env', st', h1, h2⟩ := hs.ent hq'
      exact wpc_sound hC y hk.2 β RO _ _ a w Q h2 h1
    | _ => exact ⟨env, st, β, RO, hq, hs⟩
  | .cond c x y, hk, β, RO, env, st, a, w, Q, h, hW => by
    simp only [codeOK, Bool.and_eq_true] at hk
    have hc := h.opd c
    simp only [wpc] at hW
    split at hW
    · rename_i t ht
      rw [ht] at hc
      cases t with
      | true => exact wp_cond_true hc.v_inv (wpc_sound hC x hk.1 β RO env st a w Q h hW)
      | false => exact wp_cond_false hc.v_inv (wpc_sound hC y hk.2 β RO env st a w Q h hW)
    · cases hW
  | .block id b, hk, β, RO, env, st, a, w, Q, h, hW => by
    refine wp_block (wp_mono (wpc_sound hC b (by simpa [codeOK] using hk) β RO env st a w _ h hW) ?_)
    rintro e a w ⟨env, st, β, RO, hq, hs⟩
    cases e with
    | exit i =>
      simp only [blockW] at hq
      simp only [Exit.inBlock]
      by_cases hi : i = id
      · subst hi
        simp only [Nat.beq_refl] at hq
        rw [if_pos rfl]; exact ⟨env, st, β, RO, hq, hs⟩
      · rw [if_neg hi]
        split at hq
        · rename_i hb; exact absurd (by simpa using hb) hi
        · exact ⟨env, st, β, RO, hq, hs⟩
    | _ => exact ⟨env, st, β, RO, hq, hs⟩
  | .scope b, hk, β, RO, env, st, a, w, Q, h, hW => by
    refine wp_scope_straight (wp_mono (wpc_sound hC b (by simpa [codeOK] using hk) β RO env st a w _ h hW) ?_)
    rintro e a w ⟨env, st, β, RO, hq, hs⟩
    cases e with
    | goto l => exact hq.elim
    | _ => exact ⟨env, st, β, RO, hq, hs⟩
  | .loop b, hk, β, RO, env, st, a, w, Q, h, hW => by
    obtain ⟨ι, I, F, S, m, i0, hI0, hE0, hW⟩ := hW
    obtain ⟨env1, st1, ⟨hF0, hS0⟩, hs0⟩ := h.ent hE0
    classical
    let R : Nat → Act → World → Prop := fun n a w => ∃ i, m i = n ∧ I i ∧ ∃ β RO, SR E N β RO (F i) (S i) a w
    let μ : Act → World → Nat := fun a w => if h : ∃ n, R n a w then Classical.choose (least h) else 0
    refine wp_loop (fun a w => ∃ n, R n a w) μ ⟨_, i0, rfl, hI0, β, RO, by rw [← hF0, ← hS0]; exact hs0⟩ ?_
    intro a w hn
    have hμ : μ a w = Classical.choose (least hn) := dif_pos hn
    obtain ⟨i, hi, hI, β, RO, hs⟩ := (Classical.choose_spec (least hn)).1
    refine wp_mono (wpc_sound hC b (by simpa [codeOK] using hk) β RO _ _ a w _ hs (hW i hI)) ?_
    rintro e a' w' ⟨env, st, β, RO, hq, hs⟩
    cases e with
    | normal =>
      obtain ⟨j, hj, hIj, hEj⟩ := hq
      obtain ⟨env1, st1, ⟨hFj, hSj⟩, hs1⟩ := hs.ent hEj
      have hR : R (m j) a' w' := ⟨j, rfl, hIj, β, RO, by rw [← hFj, ← hSj]; exact hs1⟩
      refine ⟨⟨_, hR⟩, ?_⟩
      have h1 : μ a' w' = Classical.choose (least ⟨_, hR⟩) := dif_pos ⟨_, hR⟩
      rw [h1, hμ, ← hi]
      exact Nat.lt_of_le_of_lt ((Classical.choose_spec (least (R := fun n => R n a' w') ⟨_, hR⟩)).2 _ hR) hj
    | _ => exact ⟨env, st, β, RO, hq, hs⟩
  | .goto _, _, _, _, _, _, _, _, _, _, hW => hW.elim
  | .rangeFunc _ _ _ _, _, _, _, _, _, _, _, _, _, hW => hW.elim
  | .refuse _, _, _, _, _, _, _, _, _, _, hW => hW.elim

/-! ### The body of a function -/
def argE : Nat → List LV → Env
  | _, [] => []
  | n, x :: r => (n, x) :: argE (n + 1) r

def resL (C : Ctx) (env : Env) (st : St) : List ResultVar → Option (List LV)
  | [] => some []
  | .tmp t :: r => match resL C env st r with
    | some l => some (opd env (.tmp t) :: l)
    | none => none
  | .cell a t :: r => match loadL C st t (opd env (.tmp a)), resL C env st r with
    | some x, some l => some (x :: l)
    | _, _ => none

def outV : List Value → Value
  | [v] => v
  | vs => .tuple vs.toArray

def resV : List LV → LV
  | [x] => x
  | l => .tup l

/-- What is asked where the body leaves. -/
def retW (C : Ctx) (rs : List ResultVar) (Post : LV → Fr → Prop) (e : Exit) (env : Env) (st : St) : Prop :=
  match e with
  | .ret | .normal => match resL C env st rs with
    | some l => ∃ cs, keepW cs st.cur (Post (resV l))
    | none => False
  | _ => False

theorem argE_look : ∀ {l : List LV} {n m : Nat} {x : LV}, look (argE n l) m = some x → n ≤ m ∧ l[m - n]? = some x
  | [], n, m, x, h => by simp [argE, look] at h
  | y :: r, n, m, x, h => by
    simp only [argE, look_cons] at h
    split at h
    · rename_i he; subst he; cases h; simp
    · obtain ⟨h1, h2⟩ := argE_look h
      have : m - n = (m - (n + 1)) + 1 := by omega
      exact ⟨by omega, by rw [this]; exact h2⟩

theorem resL_run (hC : C.OK P) (h : SR E N β RO env st a w) : ∀ {rs : List ResultVar} {l : List LV}, resL C env st rs = some l →
    ∃ vs, (rs.mapM fun r => match r with | .tmp t => pure (a.tmps.getD t undef) | .cell x t => do loadVar t (← asAddr (a.tmps.getD x undef)) : Sem (List Value)).run P w = .ok vs w ∧ Vals β RO w l vs
  | [], l, hl => by cases hl; exact ⟨[], rfl, rfl, fun i x v h => by simp at h⟩
  | .tmp t :: r, l, hl => by
    simp only [resL] at hl
    split at hl
    · rename_i l' hl'
      cases hl
      obtain ⟨vs, h1, h2⟩ := resL_run hC h hl'
      refine ⟨a.tmps.getD t undef :: vs, by simp only [List.mapM_cons, Sem.run_bind, Sem.run_pure, Result.andThen_ok, h1], by simp [h2.1], fun i x v hx hv => ?_⟩
      cases i with
      | zero => simp only [List.getElem?_cons_zero, Option.some.injEq] at hx hv; subst hx; subst hv; exact h.opd (.tmp t)
      | succ i => simp only [List.getElem?_cons_succ] at hx hv; exact h2.2 i x v hx hv
    · cases hl
  | .cell y t :: r, l, hl => by
    simp only [resL] at hl
    split at hl
    · rename_i x0 l' hx0 hl'
      cases hl
      obtain ⟨vs, h1, h2⟩ := resL_run hC h hl'
      have hv := h.opd (.tmp y)
      obtain ⟨u, g1, g2⟩ := load_sound hC h.wr hv hx0
      have hload : (do loadVar t (← asAddr (a.tmps.getD y undef)) : Sem Value).run P w = .ok u w := by
        have e : a.eval (.tmp y) = a.tmps.getD y undef := rfl
        rw [e] at g1
        cases hu : a.tmps.getD y undef with
        | pointer p => cases p with
          | some p => rw [hu] at g1; simpa [Instr.loadAt, Instr.sureAddr, asAddr] using g1
          | none => rw [hu] at g1; simp [Instr.loadAt, Instr.sureAddr, stuck] at g1
        | _ => rw [hu] at g1; simp [Instr.loadAt, Instr.sureAddr, stuck] at g1
      refine ⟨u :: vs, by simp only [List.mapM_cons]; rw [Sem.run_bind, hload]; simp only [Result.andThen_ok, Sem.run_bind, Sem.run_pure, h1], by simp [h2.1], fun i x v hx hv => ?_⟩
      cases i with
      | zero => simp only [List.getElem?_cons_zero, Option.some.injEq] at hx hv; subst hx; subst hv; exact g2
      | succ i => simp only [List.getElem?_cons_succ] at hx hv; exact h2.2 i x v hx hv
    · cases hl

/-- A function is right where its body is. -/
theorem spec_of_body (hC : C.OK P) {f : Nat} {fn : Func} {c : Code} {args : List LV} {out : List Fr} {Post : LV → Fr → Prop} (hf : P.funcs[f]? = some fn) (hb : fn.body = some c) (hk : (Nat.ble fn.ntmps 1000000 && codeOK fn.ntmps od c) = true) (hn : args.length ≤ fn.ntmps) (hfn : FnOK P f)
    (hW : wpc C P kp od c (argE 0 args) ⟨out, []⟩ (retW C fn.results.toList Post)) : SpecP P f args out Post := by
  simp only [Bool.and_eq_true] at hk
  obtain ⟨hq, hk⟩ := hk
  have hq : fn.ntmps ≤ 1000000 := by simpa using hq
  refine ⟨hfn, fun β RO w vals hw hv => ?_⟩
  have hlen : vals.length = args.length := hv.1.symm
  have hs : SR (entP β RO w) fn.ntmps β RO (argE 0 args) ⟨out, []⟩ { tmps := vals.toArray ++ Array.replicate (fn.ntmps - vals.toArray.size) undef, defers := [] } w := by
    refine ⟨hw, ⟨by simp; omega, hq⟩, rfl, fun n x hx => ?_⟩
    obtain ⟨_, h2⟩ := argE_look hx
    simp only [Nat.sub_zero] at h2
    have hlt : n < vals.length := by rw [hlen]; exact (List.getElem?_eq_some_iff.1 h2).1
    refine ⟨vals[n], ?_, hv.2 n x _ h2 (List.getElem?_eq_getElem hlt)⟩
    rw [tmpAt_lt (by omega), Array.getElem?_append_left (by simpa using hlt)]
    simp [hlt]
  refine calls_of_wp hf hb (wp_mono (wpc_sound hC c hk β RO _ _ _ w _ hs hW) ?_)
  have fin : ∀ (env : Env) (st : St) (β' : K → Nat) (RO' : Nat → Prop) (a : Act) (w' : World), (match resL C env st fn.results.toList with | some l => ∃ cs, keepW cs st.cur (Post (resV l)) | none => False) → SR (entP β RO w) fn.ntmps β' RO' env st a w' →
      a.defers = [] ∧ ∃ v, (results fn a.tmps).run P w' = .ok v w' ∧ ∃ v' r ro out' β' RO', Ending.returned v = .returned v' ∧ Post r ro ∧ WR (entP β RO w) β' RO' ⟨out', ro⟩ w' ∧ VL β' RO' w' r v' := by
    intro env st β' RO' a w' hq hs
    split at hq
    · rename_i l hl
      obtain ⟨cs, hp⟩ := hq
      obtain ⟨cur', hp, hless⟩ := keepW_gives hp
      obtain ⟨vs, h1, h2⟩ := resL_run hC hs hl
      have hvl : vs.length = l.length := h2.1.symm
      refine ⟨hs.defers, outV vs, ?_, _, resV l, cur', st.out, β', RO', rfl, hp, hs.wr.less (fun k o hk => get_less hless k o hk), ?_⟩
      · unfold results
        have h1' : (fn.results.mapM fun x => match x with | .tmp t => pure (a.tmps.getD t undef) | .cell x t => do loadVar t (← asAddr (a.tmps.getD x undef)) : Sem (Array Value)).run P w' = .ok vs.toArray w' := by
          rw [Array.mapM_eq_mapM_toList, map_eq_pure_bind, Sem.run_bind]
          refine (congrArg (fun r => Result.andThen r _) h1).trans ?_
          rfl
        rw [Sem.run_bind]
        refine (congrArg (fun r => Result.andThen r _) h1').trans ?_
        clear h1 h1' h2 hvl
        match vs with
        | [] => simp [outV]
        | [v] => simp [outV]
        | _ :: _ :: _ => simp [outV]
      · match vs, l, hvl, h2 with
        | [], [], _, h2 => exact .tup [] [] rfl fun i x v h => by simp at h
        | [v], [x], _, h2 => exact h2.2 0 x v rfl rfl
        | v1 :: v2 :: vs, x1 :: x2 :: l, _, h2 => exact .tup _ _ h2.1 h2.2
    · cases hq
  rintro e a w' ⟨env, st, β', RO', hq, hs⟩
  cases e with
  | normal => exact fin env st β' RO' a w' hq hs
  | ret => exact fin env st β' RO' a w' hq hs
  | _ => exact hq.elim

end
end Go.Fw

/- The value logic, part 21: what the memory tells of closed data. -/
namespace Go.Fw
open Go

/-- Lengths stay below the most that a slice can have. -/
def T.ok : T → Prop
  | .v _ => True
  | .sl _ _ es => es.length ≤ maxLen ∧ okEs es
where
  okEs : List (List T) → Prop
    | [] => True
    | el :: r => okEl el ∧ okEs r
  okEl : List T → Prop
    | [] => True
    | x :: r => T.ok x ∧ okEl r
def LV.ok : LV → Prop
  | .t x => x.ok
  | .ipt cs => T.ok.okEl cs
  | .agg cs => okL cs
  | _ => True
where okL : List LV → Prop
  | [] => True
  | x :: r => LV.ok x ∧ okL r

theorem okEs_iff {es : List (List T)} : T.ok.okEs es ↔ ∀ el ∈ es, ∀ x ∈ el, x.ok := by
  have hel : ∀ el : List T, T.ok.okEl el ↔ ∀ x ∈ el, x.ok := by
    intro el
    induction el with
    | nil => simp [T.ok.okEl]
    | cons x r ih => simp [T.ok.okEl, ih]
  induction es with
  | nil => simp [T.ok.okEs]
  | cons el r ih => simp [T.ok.okEs, ih, hel]
theorem okEl_iff {el : List T} : T.ok.okEl el ↔ ∀ x ∈ el, x.ok := by
  induction el with
  | nil => simp [T.ok.okEl]
  | cons x r ih => simp [T.ok.okEl, ih]
theorem okL_iff {l : List LV} : LV.ok.okL l ↔ ∀ x ∈ l, x.ok := by
  induction l with
  | nil => simp [LV.ok.okL]
  | cons x r ih => simp [LV.ok.okL, ih]

section
variable {C : Ctx} {P : Program} {E : Ent} {N : Nat} {β : K → Nat} {RO : Nat → Prop} {env env' : Env} {st st' : St} {a : Act} {w w' : World} {kp : Kp} {od : Od}

theorem VT.ok {x : T} {v : Value} (h : VT RO w x v) : x.ok := by
  induction h with
  | v x h => exact trivial
  | nil sz => exact ⟨Nat.zero_le _, trivial⟩
  | emp sz a c hc => exact ⟨Nat.zero_le _, trivial⟩
  | sl sz es b off c u hb hc hm hsz hcell hv ih =>
    refine ⟨Nat.le_trans hc hm, okEs_iff.2 fun el hel x hx => ?_⟩
    obtain ⟨i, hi, rfl⟩ := List.getElem_of_mem hel
    obtain ⟨j, hj, rfl⟩ := List.getElem_of_mem hx
    exact ih i _ j _ (List.getElem?_eq_getElem hi) (List.getElem?_eq_getElem hj)

theorem VL.ok {x : LV} {v : Value} (h : VL β RO w x v) : x.ok := by
  induction h with
  | t x v h => exact h.ok
  | ipt cs b off u hb hcell hv =>
    refine okEl_iff.2 fun x hx => ?_
    obtain ⟨j, hj, rfl⟩ := List.getElem_of_mem hx
    exact (hv j _ (List.getElem?_eq_getElem hj)).ok
  | agg cs vs hl _ h1 ih =>
    refine okL_iff.2 fun x hx => ?_
    obtain ⟨j, hj, rfl⟩ := List.getElem_of_mem hx
    exact ih j _ _ (List.getElem?_eq_getElem hj) (List.getElem?_eq_getElem (hl ▸ hj))
  | _ => exact trivial

theorem Vals.ok {args : List LV} {vals : List Value} (h : Vals β RO w args vals) : LV.ok.okL args := okL_iff.2 fun x hx => by
  obtain ⟨j, hj, rfl⟩ := List.getElem_of_mem hx
  exact (h.2 j _ _ (List.getElem?_eq_getElem hj) (List.getElem?_eq_getElem (h.1 ▸ hj))).ok

/-- A function is right where its body is; its arguments are known to be as memory is. -/
theorem spec_body (hC : C.OK P) {f : Nat} {fn : Func} {c : Code} {args : List LV} {out : List Fr} {Post : LV → Fr → Prop} (kp : Kp) (od : Od) (hf : P.funcs[f]? = some fn) (hb : fn.body = some c) (hk : (Nat.ble fn.ntmps 1000000 && codeOK fn.ntmps od c) = true) (hn : Nat.ble args.length fn.ntmps = true) (hfn : FnOK P f)
    (hW : LV.ok.okL args → wpc C P kp od c (argE 0 args) ⟨out, []⟩ (retW C fn.results.toList Post)) : SpecP P f args out Post :=
  ⟨hfn, fun β RO w vals hw hv => (spec_of_body hC hf hb hk (by simpa using hn) hfn (hW hv.ok)).2 β RO w vals hw hv⟩

/-- The fields of a struct, one cell each, of kinds that are compared. -/
def fieldsK (C : List (Nat × TI)) : List Field → List D → Nat → Bool
  | [], [], _ => true
  | f :: fs, d :: ds, off => (f.name != "_") && Nat.beq f.offset off && (match look C f.type with
    | some ti => decide (ti.d = d) && !ti.d.agg
    | none => false) && fieldsK C fs ds (off + 1)
  | _, _, _ => false

theorem eqFields_run {tys : List (Nat × TI)} (hT : TysOK P tys) (dp : Nat) (w : World) : ∀ (fl : List Field) (ds : List D) (off : Nat) (xs ys : List Value) (r : Bool), fieldsK tys fl ds off = true → eqVs ds (xs.drop off) (ys.drop off) = some r →
    (Op.eqFields (dp + 1) xs.toArray ys.toArray fl).run P w = .ok r w
  | [], [], off, xs, ys, r, _, h => by
    generalize xs.drop off = a at h
    generalize ys.drop off = b at h
    match a, b, h with
    | [], [], h => simp only [eqVs, Option.some.injEq] at h; subst h; rfl
  | f :: fs, d :: ds, off, xs, ys, r, hk, h => by
    simp only [fieldsK, Bool.and_eq_true] at hk
    obtain ⟨⟨⟨h1, h2⟩, h3⟩, h4⟩ := hk
    have h2 : f.offset = off := by simpa using h2
    cases hti : look tys f.type with
    | none => rw [hti] at h3; cases h3
    | some ti =>
      rw [hti] at h3
      simp only [Bool.and_eq_true, decide_eq_true_eq, Bool.not_eq_true'] at h3
      obtain ⟨hd, hag⟩ := h3
      have hty := hT.look hti
      cases hxs : xs.drop off with
      | nil => rw [hxs] at h; simp [eqVs] at h
      | cons x xr =>
        cases hys : ys.drop off with
        | nil => rw [hxs, hys] at h; simp [eqVs] at h
        | cons y yr =>
          rw [hxs, hys] at h
          simp only [eqVs] at h
          have hxo : xs[off]? = some x := by have := congrArg (·[0]?) hxs; simpa using this
          have hyo : ys[off]? = some y := by have := congrArg (·[0]?) hys; simpa using this
          have hxd : xs.drop (off + 1) = xr := by have := congrArg (List.drop 1) hxs; simpa [List.drop_drop, Nat.add_comm] using this
          have hyd : ys.drop (off + 1) = yr := by have := congrArg (List.drop 1) hys; simpa [List.drop_drop, Nat.add_comm] using this
          have hisAgg : (isAgg f.type).run P w = .ok false w := by
            obtain ⟨dd, hdd, hdesc⟩ := hty.underlying
            rw [← hdesc] at hag
            simp only [isAgg, Sem.run_bind, run_underlying hdd, Result.andThen_ok]
            cases dd <;> first | rfl | (simp [descOf, D.agg] at hag)
          have hpart : ∀ (zs : List Value) (z : Value), zs[off]? = some z → (part f.type zs.toArray off).run P w = .ok z w := by
            intro zs z hz
            simp only [part, Sem.run_bind, hisAgg, Result.andThen_ok, Bool.false_eq_true, if_false]
            have : zs.toArray[off]? = some z := by simpa using hz
            simp only [this]; rfl
          cases ha : eqV d x y with
          | none => rw [ha] at h; simp at h
          | some a =>
            rw [ha] at h
            cases hb : eqVs ds xr yr with
            | none => rw [hb] at h; simp at h
            | some b =>
              rw [hb] at h
              simp only [Option.some.injEq] at h
              subst h
              have ih := eqFields_run hT dp w fs ds (off + 1) xs ys b h4 (by rw [hxd, hyd]; exact hb)
              have heq : (Op.equalIn (dp + 1) f.type x y).run P w = .ok a w := by
                obtain ⟨dd, hdd, hdesc⟩ := hty.underlying
                rw [hd] at hdesc
                cases d <;> cases x <;> cases y <;> simp only [eqV, reduceCtorEq] at ha
                · split at ha
                  · rename_i hkk
                    cases ha
                    subst hkk
                    cases dd <;> simp [descOf] at hdesc
                    exact run_equalIn_int w dp f.type _ _ _ _ hdd
                  · cases ha
                · cases ha
                  cases dd <;> simp [descOf] at hdesc
                  exact run_equalIn_bool' w dp f.type _ _ hdd
                · cases ha
                  cases dd <;> simp [descOf] at hdesc
                  exact run_equalIn_string w dp f.type _ _ hdd
              have hnm : f.name ≠ "_" := by simpa using h1
              rw [Op.eqFields, if_pos hnm]
              simp only [Sem.run_bind, h2, hpart xs x hxo, hpart ys y hyo, Result.andThen_ok, heq]
              cases a
              · simp
              · simp only [Bool.not_true, Bool.false_eq_true, if_false, Bool.true_and]; exact ih
  | [], _ :: _, _, _, _, _, hk, _ => by simp [fieldsK] at hk
  | _ :: _, [], _, _, _, _, hk, _ => by simp [fieldsK] at hk

/-- Structs of plain cells are compared as their cells are. -/
theorem eqs_fields {tys : List (Nat × TI)} (hT : TysOK P tys) {t : Nat} {ds : List D} (hu : P.underlying t = some (.struct (P.fieldsOf t))) (hs : P.stoodInHeld t = false) (hk : fieldsK tys (P.fieldsOf t).toList ds 0 = true) (w : World) (xs ys : List Value) (r : Bool)
    (h : eqVs ds xs ys = some r) : (Op.equalIn 10000 t (.agg xs.toArray) (.agg ys.toArray)).run P w = .ok r w := by
  rw [run_equalIn_agg w 9999 t _ _ hu hs]
  exact eqFields_run hT 9998 w _ ds 0 xs ys r hk (by simpa using h)

end
end Go.Fw

/- The value logic, part 22: code that calls yield, and code in a round of a loop over a function. -/
namespace Go.Fw
open Go

/-- No fence; of a round, or of none. -/
def wideR (r : Option Nat) : Fence := { Fence.wide with round := r }
def onlyN (K' : Act → World → Prop) : Exit → Act → World → Prop
  | .normal, a, w => K' a w
  | _, _, _ => False
def noDef : List Oper → Bool
  | [] => true
  | o :: r => match o.op with
    | .defer _ => false
    | _ => noDef r
theorem noDef_mem : ∀ {l : List Oper}, noDef l = true → ∀ o ∈ l, ∀ c, o.op ≠ .defer c
  | [], _, o, ho => by cases ho
  | p :: r, h, o, ho => by
    simp only [noDef] at h
    split at h
    · cases h
    · rename_i hp
      rcases List.mem_cons.1 ho with rfl | ho
      · exact fun c hc => hp c hc
      · exact noDef_mem h o ho

section
variable {P : Program} {r : Option Nat} {n : Nat}

theorem no_depth {p : Prop} : (wideR r).depth.isSome = true → p := fun h => by simp [wideR, Fence.wide] at h
theorem round_any {r' : Option Nat} {m : Nat} {l : Nat} {f : FuncId} {tmps : Array Value} {assign body : Code} {w : World} {R : Ending → World → Prop} (h : RoundIn (wideR r') m P l f tmps assign body w R) : RoundIn (wideR r) n P l f tmps assign body w R :=
  ⟨trivial, fun c cs _ => h.2 c cs fun d hd => by simp [wideR, Fence.wide] at hd⟩
theorem calls_in {f : FuncId} {args : Array Value} {w : World} {R : Ending → World → Prop} (h : Calls P f args w R) : CallsIn (wideR r) n P f args w R := (callsIn_wide (n := n)).2 h
theorem calls_out {f : FuncId} {args : Array Value} {w : World} {R : Ending → World → Prop} (h : CallsIn (wideR r) n P f args w R) : Calls P f args w R := (callsIn_wide (n := n)).1 h

theorem wp_in {o : Oper} {a : Act} {w : World} {K1 K2 : Act → World → Prop} {Q Q' : Exit → Act → World → Prop} (hd : ∀ c, o.op ≠ .defer c) (hK : ∀ a w, K1 a w → K2 a w) (hQ : ∀ e a w, e ≠ .normal → ¬ Q e a w) (h : o.wp P a w K1 Q) : o.wpIn (wideR r) n P a w K2 Q' := by
  refine ⟨fun _ _ => trivial, ?_⟩
  rw [Oper.semAt_eq _ _ _ hd]
  unfold Oper.wp at h
  generalize (execOp a.eval o).run P w = res at *
  cases res with
  | ok x w' =>
    cases x <;> simp only [Oper.upon] at h <;> simp only [Oper.uponIn]
    case value v => exact hK _ _ h
    case skip => exact hK _ _ h
    case defer d => exact hK _ _ h
    case enter f args =>
      refine ⟨no_depth, calls_in (h.mono fun e w'' he => ?_)⟩
      cases e with
      | returned v => exact hK _ _ he
      | panicked c => exact (hQ _ _ _ (by simp) he).elim
      | outgrown => obtain ⟨a, w, he⟩ := he; exact (hQ _ _ _ (by simp) he).elim
    case row row args =>
      refine ⟨no_depth, fun c cs _ => ?_⟩
      obtain ⟨v, w'', h1, h2⟩ := h c cs
      exact ⟨v, w'', hK _ _ h1, stepsIn_wide.2 h2⟩
    all_goals exact h.elim
  | halt x w' =>
    cases x <;> simp only [Oper.upon] at h <;> simp only [Oper.uponIn]
    case panic v => exact (hQ _ _ _ (by simp) h).elim
    all_goals exact h.elim

theorem onlyN_no {K' : Act → World → Prop} : ∀ e a w, e ≠ Exit.normal → ¬ onlyN K' e a w := fun e a w he h => by cases e <;> first | exact he rfl | exact h

theorem wpOp_in {ops : Array Oper} {K' K1 K2 : Act → World → Prop} (hd : noDef ops.toList = true) {i : Nat} {a : Act} {w : World} (hK : ∀ a w, K1 a w → K2 a w) (h : wpOp P ops (onlyN K') i K1 a w) : wpOpIn (wideR r) n P ops (onlyN K') i K2 a w := by
  unfold wpOp at h
  unfold wpOpIn
  cases ho : ops[i]? with
  | none => simp only [ho] at h ⊢; exact hK _ _ h
  | some o =>
    simp only [ho] at h ⊢
    have hm := noDef_mem hd o (by simpa using Array.mem_of_getElem? ho)
    split
    · rename_i hw
      rw [if_pos hw] at h
      rcases h with h | ⟨_, a, w, h⟩
      · exact wp_in hm hK onlyN_no h
      · exact (onlyN_no _ _ _ (by simp) h).elim
    · rename_i hw
      rw [if_neg hw] at h
      exact ⟨fun _ _ => trivial, hK _ _ h⟩

theorem wpAny_in {ops : Array Oper} {md : Region.Mode} {K' : Act → World → Prop} (hd : noDef ops.toList = true) : ∀ (fuel : Nat) (listed : Array Bool) (a : Act) (w : World), wpAny P md ops (onlyN K') fuel listed a w → wpAnyIn (wideR r) n P md ops (onlyN K') fuel listed a w
  | 0, _, _, _, h => h
  | fuel + 1, _, _, _, h => ⟨h.1, fun i hi => wpOp_in hd (fun a w h => wpAny_in hd fuel _ a w h) (h.2 i hi)⟩
end

/-! ### Operations, one of which may be yield -/
def yieldB (env : Env) (o : Oper) : Option (Nat × List LV) := match o.op with
  | .call c => match c.callee with
    | .value fo => match opd env fo with
      | .t (.v (.func (.yield l) ⟨[]⟩ _)) => some (l, c.args.toList.map (opd env))
      | _ => none
    | _ => none
  | _ => none

/-- What yield does, asked of the loop's body. -/
abbrev YW := Nat → List LV → Env → St → (Env → St → Prop) → Prop
def noY : YW := fun _ _ _ _ _ => False

def opY (C : Ctx) (P : Program) (Y : YW) (o : Oper) (env : Env) (st : St) (K' : LV → Env → St → Prop) : Prop := match yieldB env o with
  | some (l, args) => Y l args env st fun env st => strES env st (K' (.t (.v (.bool true))))
  | none => opW C P o env st K'

def regGoY (C : Ctx) (P : Program) (Y : YW) (ops : List Oper) (Q : Env → St → Prop) : List Oper → Env → St → Prop
  | [], env, st => Q env st
  | o :: r, env, st => match gdE ops env o with
    | some true => opY C P Y o env st fun x env st => splW (splK o.op) x fun x => regGoY C P Y ops Q r (putE env o.dst x) st
    | some false => regGoY C P Y ops Q r (putE env o.dst (.tup [])) st
    | none => False

/-- What is asked of code that may call yield. -/
def wpcY (C : Ctx) (P : Program) (Y : YW) (kp : Kp) (od : Od) : Code → Env → St → (Exit → Env → St → Prop) → Prop
  | .skip, env, st, Q => Q .normal env st
  | .label _, env, st, Q => Q .normal env st
  | .region id ops draw, env, st, Q => match draw with
    | false => regGoY C P Y ops.toList (Q .normal) ops.toList env st
    | true => match look od id with
      | some ord => seqW C P ops.toList (Q .normal) ord env st
      | none => False
  | .seq a b, env, st, Q => wpcY C P Y kp od a env st (thenW (fun env st => entW kp b env st fun env st => wpcY C P Y kp od b env st Q) Q)
  | .cond c a b, env, st, Q => match opd env c with
    | .t (.v (.bool t)) => match t with
      | true => wpcY C P Y kp od a env st Q
      | false => wpcY C P Y kp od b env st Q
    | _ => False
  | .block id b, env, st, Q => wpcY C P Y kp od b env st (blockW id Q)
  | .loop b, env, st, Q => LoopW kp b (fun env st Q => wpcY C P Y kp od b env st Q) env st Q
  | .exit id, env, st, Q => Q (.exit id) env st
  | .ret, env, st, Q => Q .ret env st
  | _, _, _, _ => False

/-- What is looked at ahead of the walk. -/
def codeYOK (N : Nat) (od : Od) : Code → Bool
  | .region id ops draw => noDef ops.toList && (dstOK N ops.toList && (match draw with
    | false => true
    | true => match look od id with
      | some ord => ordOK ops ord
      | none => false))
  | .seq a b => codeYOK N od a && codeYOK N od b
  | .cond _ a b => codeYOK N od a && codeYOK N od b
  | .block _ b => codeYOK N od b
  | .loop b => codeYOK N od b
  | .scope b => codeYOK N od b
  | .skip | .label _ | .exit _ | .ret => true
  | _ => false

/-- What is known of yield. -/
def YOK (P : Program) (E : Ent) (N : Nat) (Y : YW) : Prop :=
  ∀ (l : Nat) (args : List LV) (vals : List Value) (env : Env) (st : St) (K' : Env → St → Prop) (β : K → Nat) (RO : Nat → Prop) (a : Act) (w : World), SR E N β RO env st a w → Vals β RO w args vals → Y l args env st K' →
    YieldAt (wideR none) 0 P l vals.toArray w fun e w' => e = .returned (.bool true) ∧ ∃ env' st' β' RO', K' env' st' ∧ SR E N β' RO' env' st' a w'
theorem noY_ok {P : Program} {E : Ent} {N : Nat} : YOK P E N noY := fun _ _ _ _ _ _ _ _ _ _ _ _ h => h.elim

section
variable {C : Ctx} {P : Program} {E : Ent} {N : Nat} {β : K → Nat} {RO : Nat → Prop} {env env' : Env} {st st' : St} {a : Act} {w w' : World} {kp : Kp} {od : Od} {r : Option Nat} {n : Nat} {Y : YW}

theorem vals_map (h : SR E N β RO env st a w) (l : List Operand) : Vals β RO w (l.map (opd env)) (l.map a.eval) := ⟨by simp, fun i x v hx hv => by
  rw [List.getElem?_map] at hx hv
  cases hc : l[i]? with
  | none => rw [hc] at hx; cases hx
  | some y =>
    simp only [hc, Option.map_some, Option.some.injEq] at hx hv
    rw [← hx, ← hv]; exact h.opd y⟩

theorem opY_in (hC : C.OK P) (hY : YOK P E N Y) {o : Oper} {K' : LV → Env → St → Prop} {Q : Act → World → Prop} {Q' : Exit → Act → World → Prop} (hd : ∀ c, o.op ≠ .defer c) (h : SR E N β RO env st a w) (hW : opY C P Y o env st K')
    (hQ : ∀ v x env' st' β' RO' w', K' x env' st' → SR E N β' RO' env' st' a w' → VL β' RO' w' x v → Q (a.put o.dst v) w') : o.wpIn (wideR r) n P a w Q Q' := by
  unfold opY at hW
  split at hW
  · rename_i l args hy
    refine ⟨fun _ _ => trivial, ?_⟩
    rw [Oper.semAt_eq _ _ _ hd]
    unfold yieldB at hy
    split at hy
    rotate_left
    · cases hy
    rename_i c hop
    split at hy
    rotate_left
    · cases hy
    rename_i fo hcal
    split at hy
    rotate_left
    · cases hy
    rename_i l' caps hf
    cases hy
    have hfv := h.opd fo
    rw [hf] at hfv
    have hv := hfv.v_inv
    obtain ⟨fn, tmps, assign, body, hrun, hR⟩ := hY _ _ _ _ _ _ _ _ _ _ h (vals_map h c.args.toList) hW
    have hexe : (execOp a.eval o).run P w = .ok (.round l fn tmps assign body) w := by
      simp only [execOp, hop, resolve, hcal, hv, Deferred.ofValue, Sem.run_bind, Sem.run_pure, Result.andThen_ok, invoke]
      have he : (c.args.map a.eval) = (c.args.toList.map a.eval).toArray := by rw [← Array.toList_inj]; simp
      simpa [he] using hrun
    rw [hexe, Oper.uponIn_round]
    refine ⟨no_depth, RoundIn.mono (R := fun e w' => e = .returned (.bool true) ∧ ∃ env' st' β' RO', strES env' st' (K' (.t (.v (.bool true)))) ∧ SR E N β' RO' env' st' a w') ?_ ?_⟩
    · exact round_any hR
    · rintro e w' ⟨rfl, env', st', β', RO', hK, hs⟩
      exact hQ _ _ env' st' β' RO' w' (strES_gives hK) hs (.t _ _ (.v _ rfl))
  · exact wp_in hd (fun _ _ h => h) (fun _ _ _ _ h => h) (opW_sound hC h hW hQ)

theorem regGoY_in (hC : C.OK P) (hY : YOK P E N Y) {ops : Array Oper} {Q : Env → St → Prop} {Q' : Exit → Act → World → Prop} (hnd : noDef ops.toList = true) (hd : dstOK N ops.toList = true) (hQ : ∀ env st β RO a w, Q env st → SR E N β RO env st a w → Q' .normal a w) :
    ∀ (l : List Oper) (k : Nat) (β : K → Nat) (RO : Nat → Prop) (env : Env) (st : St) (a : Act) (w : World), ops.toList.drop k = l → SR E N β RO env st a w → regGoY C P Y ops.toList Q l env st → wpOpsIn (wideR r) n P ops Q' (List.range' k l.length) a w
  | [], k, β, RO, env, st, a, w, _, h, hW => hQ env st β RO a w hW h
  | o :: l, k, β, RO, env, st, a, w, hk, h, hW => by
    have hok : ops[k]? = some o := by
      have : (ops.toList.drop k)[0]? = some o := by rw [hk]; rfl
      rw [List.getElem?_drop, Nat.add_zero, Array.getElem?_toList] at this
      exact this
    have hdr : ops.toList.drop (k + 1) = l := by
      have := congrArg (List.drop 1) hk
      rw [List.drop_drop] at this
      simpa [Nat.add_comm] using this
    have hmem : o ∈ ops.toList := by
      have : o ∈ ops.toList.drop k := by rw [hk]; exact List.mem_cons_self ..
      exact List.mem_of_mem_drop this
    have hdo : ∀ d, o.dst = some d → d < N := dstOK_mem hd o hmem
    simp only [List.length_cons, List.range'_succ, wpOpsIn, hok]
    unfold regGoY at hW
    split at hW
    · rename_i hg
      rw [gdE_wanted hd h hg, if_pos rfl]
      exact opY_in hC hY (noDef_mem hnd o hmem) h hW fun v x env' st' β' RO' w' hK hs hv =>
        regGoY_in hC hY hnd hd hQ l (k + 1) β' RO' _ st' _ w' hdr (hs.put hv hdo) (splW_gives hK)
    · rename_i hg
      rw [gdE_wanted hd h hg, if_neg (by simp)]
      exact ⟨fun _ _ => trivial, regGoY_in hC hY hnd hd hQ l (k + 1) β RO _ st _ w hdr (h.put .skip hdo) hW⟩
    · cases hW

theorem seqW_any (hC : C.OK P) {ops : Array Oper} {ord : List (Nat × Kind)} {Q : Env → St → Prop} {K' : Act → World → Prop} (hd : dstOK N ops.toList = true) (ho : ordOK ops ord = true) (hQ : ∀ env st β RO a w, Q env st → SR E N β RO env st a w → K' a w)
    (h : SR E N β RO env st a w) (hW : seqW C P ops.toList Q ord env st) : wpAny P .any ops (onlyN K') ops.size (Array.replicate ops.size false) a { w with drawn := w.drawn + 1 } := by
  have e : (fun e a w => match e with | .normal => K' a w | _ => False : Exit → Act → World → Prop) = onlyN K' := by
    funext e a w
    cases e <;> rfl
  exact e ▸ drawn_sound (K' := K') hC hd ho hQ h hW

theorem wpcY_in (hC : C.OK P) (hY : YOK P E N Y) : ∀ (c : Code), codeYOK N od c = true → ∀ (β : K → Nat) (RO : Nat → Prop) (env : Env) (st : St) (a : Act) (w : World) (Q : Exit → Env → St → Prop), SR E N β RO env st a w → wpcY C P Y kp od c env st Q → c.wpIn (wideR r) n P (Post E N Q) a w
  | .skip, _, β, RO, env, st, a, w, Q, h, hW => wpIn_skip ⟨env, st, β, RO, hW, h⟩
  | .label _, _, β, RO, env, st, a, w, Q, h, hW => wpIn_label ⟨env, st, β, RO, hW, h⟩
  | .exit _, _, β, RO, env, st, a, w, Q, h, hW => wpIn_exit ⟨env, st, β, RO, hW, h⟩
  | .ret, _, β, RO, env, st, a, w, Q, h, hW => wpIn_ret ⟨env, st, β, RO, hW, h⟩
  | .region id ops draw, hk, β, RO, env, st, a, w, Q, h, hW => by
    simp only [codeYOK, Bool.and_eq_true] at hk
    cases draw with
    | false =>
      refine wpIn_region ?_
      rw [List.range_eq_range', show ops.size = ops.toList.length by simp]
      exact regGoY_in hC hY hk.1 hk.2.1 (fun env st β RO a w hq hs => ⟨env, st, β, RO, hq, hs⟩) ops.toList 0 β RO env st a w rfl h hW
    | true =>
      obtain ⟨h0, h1, h2⟩ := hk
      simp only [wpcY] at hW
      simp only at h2
      split at hW
      · rename_i ord ho
        rw [ho] at h2
        have hA := seqW_any (K' := fun a w => Post E N Q .normal a w) hC h1 h2 (fun env st β RO a w hq hs => ⟨env, st, β, RO, hq, hs⟩) h hW
        exact wpIn_mono (wpIn_region_any hC.mixed (wpAny_in h0 _ _ _ _ hA)) fun e a w hq => by
          cases e <;> first | exact hq | exact hq.elim
      · cases hW
  | .seq x y, hk, β, RO, env, st, a, w, Q, h, hW => by
    simp only [codeYOK, Bool.and_eq_true] at hk
    refine wpIn_seq (wpIn_mono (wpcY_in hC hY x hk.1 β RO env st a w _ h hW) ?_)
    rintro e a w ⟨env, st, β, RO, hq, hs⟩
    cases e with
    | normal =>
      have hq' : entW kp y env st fun env st => wpcY C P Y kp od y env st Q := hq
      obtain ⟨env', st', h1, h2⟩ := hs.ent hq'
      exact wpcY_in hC hY y hk.2 β RO _ _ a w Q h2 h1
    | _ => exact ⟨env, st, β, RO, hq, hs⟩
  | .cond c x y, hk, β, RO, env, st, a, w, Q, h, hW => by
    simp only [codeYOK, Bool.and_eq_true] at hk
    have hc := h.opd c
    simp only [wpcY] at hW
    split at hW
    · rename_i t ht
      rw [ht] at hc
      cases t with
      | true => exact wpIn_cond_true hc.v_inv (wpcY_in hC hY x hk.1 β RO env st a w Q h hW)
      | false => exact wpIn_cond_false hc.v_inv (wpcY_in hC hY y hk.2 β RO env st a w Q h hW)
    · cases hW
  | .block id b, hk, β, RO, env, st, a, w, Q, h, hW => by
    refine wpIn_block (wpIn_mono (wpcY_in hC hY b (by simpa [codeYOK] using hk) β RO env st a w _ h hW) ?_)
    rintro e a w ⟨env, st, β, RO, hq, hs⟩
    cases e with
    | exit i =>
      simp only [blockW] at hq
      simp only [Exit.inBlock]
      by_cases hi : i = id
      · subst hi
        simp only [Nat.beq_refl] at hq
        rw [if_pos rfl]; exact ⟨env, st, β, RO, hq, hs⟩
      · rw [if_neg hi]
        split at hq
        · rename_i hb; exact absurd (by simpa using hb) hi
        · exact ⟨env, st, β, RO, hq, hs⟩
    | _ => exact ⟨env, st, β, RO, hq, hs⟩
  | .loop b, hk, β, RO, env, st, a, w, Q, h, hW => by
    obtain ⟨ι, I, F, S, m, i0, hI0, hE0, hW⟩ := hW
    obtain ⟨env1, st1, ⟨hF0, hS0⟩, hs0⟩ := h.ent hE0
    classical
    let R : Nat → Act → World → Prop := fun n a w => ∃ i, m i = n ∧ I i ∧ ∃ β RO, SR E N β RO (F i) (S i) a w
    let μ : Act → World → Nat := fun a w => if h : ∃ n, R n a w then Classical.choose (least h) else 0
    refine wpIn_loop (fun a w => ∃ n, R n a w) μ ⟨_, i0, rfl, hI0, β, RO, by rw [← hF0, ← hS0]; exact hs0⟩ ?_
    intro a w hn
    have hμ : μ a w = Classical.choose (least hn) := dif_pos hn
    obtain ⟨i, hi, hI, β, RO, hs⟩ := (Classical.choose_spec (least hn)).1
    refine wpIn_mono (wpcY_in hC hY b (by simpa [codeYOK] using hk) β RO _ _ a w _ hs (hW i hI)) ?_
    rintro e a' w' ⟨env, st, β, RO, hq, hs⟩
    cases e with
    | normal =>
      obtain ⟨j, hj, hIj, hEj⟩ := hq
      obtain ⟨env1, st1, ⟨hFj, hSj⟩, hs1⟩ := hs.ent hEj
      have hR : R (m j) a' w' := ⟨j, rfl, hIj, β, RO, by rw [← hFj, ← hSj]; exact hs1⟩
      refine ⟨⟨_, hR⟩, ?_⟩
      have h1 : μ a' w' = Classical.choose (least ⟨_, hR⟩) := dif_pos ⟨_, hR⟩
      rw [h1, hμ, ← hi]
      exact Nat.lt_of_le_of_lt ((Classical.choose_spec (least (R := fun n => R n a' w') ⟨_, hR⟩)).2 _ hR) hj
    | _ => exact ⟨env, st, β, RO, hq, hs⟩
  | .scope _, _, _, _, _, _, _, _, _, _, hW => hW.elim
  | .goto _, _, _, _, _, _, _, _, _, _, hW => hW.elim
  | .rangeFunc _ _ _ _, _, _, _, _, _, _, _, _, _, hW => hW.elim
  | .refuse _, _, _, _, _, _, _, _, _, _, hW => hW.elim

end
end Go.Fw

/- The value logic, part 23: a loop over a function. -/
namespace Go.Fw
open Go

/-! ### Slots of another frame -/
def selE (lo hi d : Nat) : Env → Env
  | [] => []
  | (n, x) :: r => match Nat.ble lo n, Nat.blt n hi with
    | true, true => (n - lo + d, x) :: selE lo hi d r
    | _, _ => selE lo hi d r
theorem look_selE {lo hi d : Nat} : ∀ {env : Env} {m : Nat} {x : LV}, look (selE lo hi d env) m = some x → ∃ n, lo ≤ n ∧ n < hi ∧ m + lo = n + d ∧ look env n = some x
  | [], m, x, h => by simp [selE, look] at h
  | (k, y) :: r, m, x, h => by
    simp only [selE] at h
    split at h
    · rename_i h1 h2
      have h1 : lo ≤ k := Nat.le_of_ble_eq_true h1
      have h2 : k < hi := by rw [Nat.blt_eq] at h2; exact h2
      rw [look_cons] at h
      split at h
      · rename_i he
        cases h
        exact ⟨k, h1, h2, by omega, by rw [look_cons, if_pos rfl]⟩
      · rename_i he
        obtain ⟨n, g1, g2, g3, g4⟩ := look_selE h
        exact ⟨n, g1, g2, g3, by rw [look_cons, if_neg (by intro e; subst e; exact he (by omega))]; exact g4⟩
    · rename_i hno
      obtain ⟨n, g1, g2, g3, g4⟩ := look_selE h
      refine ⟨n, g1, g2, g3, ?_⟩
      rw [look_cons, if_neg]
      · exact g4
      · intro e
        subst e
        exact hno (by rw [Nat.ble_eq]; exact g1) (by rw [Nat.blt_eq]; exact g2)
theorem look_app {a b : Env} {n : Nat} {x : LV} (h : look (a ++ b) n = some x) : look a n = some x ∨ (look a n = none ∧ look b n = some x) := by
  induction a with
  | nil => exact .inr ⟨rfl, h⟩
  | cons p r ih =>
    obtain ⟨m, y⟩ := p
    rw [List.cons_append, look_cons] at h
    rw [look_cons]
    split at h
    · rename_i he; rw [if_pos he]; exact .inl h
    · rename_i he; rw [if_neg he]; exact ih h

def zipE : List Nat → List LV → Env
  | p :: ps, x :: xs => (p, x) :: zipE ps xs
  | _, _ => []
theorem look_zipE : ∀ {ps : List Nat} {xs : List LV} {n : Nat} {x : LV}, look (zipE ps xs) n = some x → ∃ i : Nat, ps[i]? = some n ∧ xs[i]? = some x ∧ ∀ j : Nat, j < i → ps[j]? ≠ some n
  | [], _, n, x, h => by simp [zipE, look] at h
  | _ :: _, [], n, x, h => by simp [zipE, look] at h
  | p :: ps, y :: ys, n, x, h => by
    simp only [zipE, look_cons] at h
    split at h
    · rename_i he
      cases h
      exact ⟨0, by simp [he], rfl, fun j hj => by omega⟩
    · rename_i he
      obtain ⟨i, h1, h2, h3⟩ := look_zipE h
      refine ⟨i + 1, by simpa using h1, by simpa using h2, fun j hj => ?_⟩
      cases j with
      | zero => simpa using he
      | succ j => simpa using h3 j (by omega)
theorem look_zipE_none : ∀ {ps : List Nat} {xs : List LV} {n : Nat}, ps.length = xs.length → look (zipE ps xs) n = none → n ∉ ps
  | [], _, n, _, _ => by simp
  | _ :: _, [], n, h, _ => by simp at h
  | p :: ps, y :: ys, n, hl, h => by
    simp only [zipE, look_cons] at h
    split at h
    · cases h
    · rename_i he
      have := look_zipE_none (ps := ps) (xs := ys) (n := n) (by simpa using hl) h
      simp only [List.mem_cons, not_or]
      exact ⟨fun e => he e.symm, this⟩

def psOK (N : Nat) : List Nat → Bool
  | [] => true
  | p :: r => Nat.blt p N && !(r.elem p) && psOK N r
theorem psOK_spec {N : Nat} : ∀ {l : List Nat}, psOK N l = true → l.Nodup ∧ ∀ p ∈ l, p < N
  | [], _ => ⟨.nil, by simp⟩
  | p :: r, h => by
    simp only [psOK, Bool.and_eq_true, Bool.not_eq_true', Nat.blt_eq] at h
    obtain ⟨⟨h1, h2⟩, h3⟩ := h
    obtain ⟨g1, g2⟩ := psOK_spec h3
    refine ⟨List.nodup_cons.2 ⟨fun hm => ?_, g1⟩, fun q hq => ?_⟩
    · rw [List.elem_eq_mem] at h2; simp [hm] at h2
    · rcases List.mem_cons.1 hq with rfl | hq
      · exact h1
      · exact g2 q hq

theorem foldl_put : ∀ (l : List (Nat × Value)) (t : Array Value), (l.map (·.1)).Nodup → (∀ p ∈ l, p.1 < t.size) →
    (l.foldl (fun t p => t.setIfInBounds p.1 p.2) t).size = t.size ∧ (∀ (i : Nat) (p : Nat × Value), l[i]? = some p → (l.foldl (fun t p => t.setIfInBounds p.1 p.2) t)[p.1]? = some p.2) ∧ ∀ n, n ∉ l.map (·.1) → (l.foldl (fun t p => t.setIfInBounds p.1 p.2) t)[n]? = t[n]?
  | [], t, _, _ => ⟨rfl, fun i p h => by simp at h, fun n _ => rfl⟩
  | q :: r, t, hn, hl => by
    simp only [List.map_cons, List.nodup_cons] at hn
    obtain ⟨g1, g2, g3⟩ := foldl_put r (t.setIfInBounds q.1 q.2) hn.2 fun p hp => by rw [Array.size_setIfInBounds]; exact hl p (List.mem_cons_of_mem _ hp)
    simp only [List.foldl_cons]
    refine ⟨by rw [g1, Array.size_setIfInBounds], fun i p hp => ?_, fun n hm => ?_⟩
    · cases i with
      | zero =>
        simp only [List.getElem?_cons_zero, Option.some.injEq] at hp
        subst hp
        rw [g3 _ hn.1]
        simp [hl q (List.mem_cons_self ..)]
      | succ i => exact g2 i p (by simpa using hp)
    · simp only [List.map_cons, List.mem_cons, not_or] at hm
      rw [g3 n hm.2, Array.getElem?_setIfInBounds_ne (Ne.symm hm.1)]

/-- The slots of a round; and those of the function that called yield. -/
def rndE (ps : List Nat) (args : List LV) (env : Env) : Env := zipE ps args ++ (selE 1000000 2000000 0 env ++ (selE 1000000 2000000 1000000 env ++ selE 0 1000000 2000000 env))
def backE (env : Env) : Env := selE 2000000 3000000 0 env ++ selE 1000000 2000000 1000000 env

def nrmW (K' : Env → St → Prop) (e : Exit) (env : Env) (st : St) : Prop := match e with
  | .normal => K' env st
  | _ => False
/-- What yield does: the loop's assignments and its body. -/
def bodyW (C : Ctx) (P : Program) (kp : Kp) (od : Od) (ps : List Nat) (assign body : Code) (l0 : Nat) : YW := fun l args env st K' =>
  l = l0 ∧ args.length = ps.length ∧ wpcY C P noY kp od assign (rndE ps args env) st (nrmW fun env st => wpcY C P noY kp od body env st (nrmW fun env st => K' (backE env) st))

def endW (K' : Env → St → Prop) (e : Exit) (env : Env) (st : St) : Prop := match e with
  | .normal | .ret => K' (selE 1000000 2000000 0 env) st
  | _ => False
def rangeFW (C : Ctx) (P : Program) (kp5 : Kp) (od5 : Od) (kp : Kp) (od : Od) (g : Operand) (ps : List Nat) (assign body : Code) (env : Env) (st : St) (Q : Env → St → Prop) : Prop :=
  match opd env g with
  | .fn fi cap => ∃ fn5 c5, P.funcs[fi]? = some fn5 ∧ fn5.body = some c5 ∧ fn5.results = #[] ∧ FnOK P fi ∧ (Nat.ble fn5.ntmps 1000000 && (Nat.ble (cap.length + 1) fn5.ntmps && codeYOK fn5.ntmps od5 c5)) = true ∧
      ∀ l, wpcY C P (bodyW C P kp od ps assign body l) kp5 od5 c5 (argE 0 (.t (.v (.func (.yield l) #[] #[])) :: capArgs cap) ++ selE 0 1000000 1000000 env) st (endW Q)
  | _ => False

/-! ### A walk begun anew, in a memory where other things lie -/
def Ent.nest (E : Ent) (β : K → Nat) (RO : Nat → Prop) (st : St) (w : World) (gh : Nat → Option Value) (dfs : List Deferred) : Ent :=
  { w0 := w, RO0 := RO, Wr := fun b => ∃ k o, st.get k = some o ∧ E.can k ∧ b = β k, β0 := E.β0, mv := E.mv, fz := E.fz, gh := gh, dfs := dfs }
/-- No object, and nothing that is read for ever, lies there. -/
structure Unt (β : K → Nat) (RO : Nat → Prop) (st : St) (l : Nat) : Prop where
  ro : ¬ RO l
  ob : ∀ k o, st.get k = some o → β k ≠ l

section
variable {C : Ctx} {P : Program} {E E' : Ent} {N : Nat} {β β' : K → Nat} {RO RO' : Nat → Prop} {env env' : Env} {st st' : St} {a a' : Act} {w w' : World} {gh : Nat → Option Value} {dfs : List Deferred} {l : Nat}

theorem putObj_other {ob : Obj} {b : Nat} (h : b ≠ l) : (w.putObj l ob).heap[b]? = w.heap[b]? := World.putObj_heap_other h
theorem VL.unt (hl : ¬ RO l) (hs : w.shape? l = none) {ob : Obj} {x : LV} {v : Value} (h : VL β RO w x v) : VL β RO (w.putObj l ob) x v :=
  h.mono (fun _ h => h) (fun b hb => putObj_other (l := l) fun e => hl (e ▸ hb)) (fun _ => True) (fun k _ => ⟨rfl, fun r hr => (shape_of_block (putObj_other (l := l) fun e => by rw [e, hs] at hr; cases hr)).trans hr⟩) fun _ _ => trivial
theorem ObOK.unt (hl : Unt β RO st l) (hs : w.shape? l = none) {ob : Obj} {k : K} {o : Ob} (hk : st.get k = some o) (h : ObOK β RO w k o) : ObOK β RO (w.putObj l ob) k o :=
  h.keep (fun _ h => h) (fun b hb => putObj_other (l := l) fun e => hl.ro (e ▸ hb)) rfl (putObj_other (l := l) (hl.ob k o hk)) (fun _ _ _ _ _ hv => hv.unt hl.ro hs) (fun _ _ _ _ _ _ _ _ => ⟨rfl, fun r hr => (shape_of_block (putObj_other (l := l) fun e => by rw [e, hs] at hr; cases hr)).trans hr⟩)
    fun m left hm => by
      subst hm
      obtain ⟨_, _, _, _, _, hr, _⟩ := h
      exact ⟨rfl, putObj_other (l := l) fun e => hl.ro (e ▸ hr)⟩

theorem WR.putU (h : WR E β RO st w) (hl : Unt β RO st l) (hs : w.shape? l = none) (hn : E.w0.heap.size ≤ l) (ob : Obj) : WR E β RO st (w.putObj l ob) :=
  ⟨h.os, h.tape, h.output, by rw [World.putObj_size]; exact h.size, fun b hb hw => (putObj_other (l := l) (by omega)).trans (h.keep b hb hw), fun b hb => by rw [World.putObj_size]; exact h.roLt b hb, h.ro0, h.roNew, fun k o hk => (h.obj k o hk).unt hl hs hk,
    h.objNew, h.inj, h.sep, h.fzRO, h.stay⟩

theorem WR.nest (h : WR E β RO st w) (hsz : w'.heap.size = w.heap.size) (hob : ∀ k o, st.get k = some o → ObOK β RO w' k o) : WR (E.nest β RO st w' gh dfs) β RO st w' :=
  ⟨rfl, rfl, rfl, Nat.le_refl _, fun _ _ _ => rfl, fun b hb => by rw [hsz]; exact h.roLt b hb, fun _ h => h, fun _ h => .inl h, hob, fun k o hk hc => .inl ⟨k, o, hk, hc, rfl⟩, h.inj, h.sep, h.fzRO, h.stay⟩

theorem nest_wr (h : WR E β RO st w) {b : Nat} (hb : b < E.w0.heap.size) (hw : ¬ E.Wr b) : ¬ (E.nest β RO st w' gh dfs).Wr b := by
  rintro ⟨k, o, hk, hc, rfl⟩
  rcases h.objNew k o hk hc with h1 | h1
  · exact hw h1
  · omega

/-- What was told of the walk that was begun anew is told of the walk. -/
theorem WR.nest_back (h : WR E β RO st w) (h2 : WR (E.nest β RO st w gh dfs) β' RO' st' w') : WR E β' RO' st' w' :=
  ⟨h2.os.trans h.os, h2.tape.trans h.tape, h2.output.trans h.output, Nat.le_trans h.size h2.size, fun b hb hw => (h2.keep b (Nat.lt_of_lt_of_le hb h.size) (nest_wr h hb hw)).trans (h.keep b hb hw), h2.roLt, fun b hb => h2.ro0 b (h.ro0 b hb),
    fun b hb => (h2.roNew b hb).elim (h.roNew b) fun hb => hb.elim (fun hb => .inr (.inl (Nat.le_trans h.size hb))) fun ⟨k, o, hk, hc, e⟩ => (h.objNew k o hk hc).elim (fun h => .inr (.inr (e ▸ h))) fun h => .inr (.inl (e ▸ h)),
    h2.obj, fun k o hk hc => (h2.objNew k o hk hc).elim (fun ⟨k', o', hk', hc', e⟩ => e ▸ h.objNew k' o' hk' hc') fun hb => .inr (Nat.le_trans h.size hb), h2.inj, h2.sep, h2.fzRO, h2.stay⟩

theorem Unt.nest (hl : Unt β RO st l) (hlt : l < w.heap.size) (h2 : WR (E.nest β RO st w gh dfs) β' RO' st' w') : Unt β' RO' st' l ∧ w'.heap[l]? = w.heap[l]? := by
  have hnw : ¬ (E.nest β RO st w gh dfs).Wr l := fun ⟨k, o, hk, _, e⟩ => hl.ob k o hk e.symm
  have hro : ¬ RO' l := fun hr => by
    rcases h2.roNew l hr with h | h | h
    · exact hl.ro h
    · have : w.heap.size ≤ l := h; omega
    · exact hnw h
  refine ⟨⟨hro, fun k o hk e => ?_⟩, h2.keep l hlt hnw⟩
  by_cases hc : (E.nest β RO st w gh dfs).can k
  · rcases h2.objNew k o hk hc with h | h
    · exact hnw (e ▸ h)
    · have : w.heap.size ≤ β' k := h; omega
  · exact hro (e ▸ h2.fzRO k o hk hc)

/-- .. and a record that was turned meanwhile is turned back. -/
theorem WR.swap (h : WR E β RO st w) (hl : Unt β RO st l) {ob0 ob1 : Obj} (hrec : w.heap[l]? = some ob0) (h2 : WR (E.nest β RO st (w.putObj l ob1) gh dfs) β' RO' st' w') (hc1 : w'.shape? l = none) :
    WR E β' RO' st' (w'.putObj l ob0) := by
  have hlt : l < w.heap.size := (Array.getElem?_eq_some_iff.1 hrec).1
  obtain ⟨hl', _⟩ := hl.nest (w := w.putObj l ob1) (by rw [World.putObj_size]; exact hlt) h2
  have hsz : w.heap.size ≤ w'.heap.size := by have := h2.size; rwa [show (E.nest β RO st (w.putObj l ob1) gh dfs).w0 = w.putObj l ob1 from rfl, World.putObj_size] at this
  refine ⟨h2.os.trans h.os, h2.tape.trans h.tape, h2.output.trans h.output, by rw [World.putObj_size]; exact Nat.le_trans h.size hsz, fun b hb hw => ?_, fun b hb => by rw [World.putObj_size]; exact h2.roLt b hb, fun b hb => h2.ro0 b (h.ro0 b hb),
    fun b hb => (h2.roNew b hb).elim (h.roNew b) fun hb => hb.elim (fun hb => .inr (.inl (Nat.le_trans h.size (by rwa [show (E.nest β RO st (w.putObj l ob1) gh dfs).w0 = w.putObj l ob1 from rfl, World.putObj_size] at hb)))) fun ⟨k, o, hk, hc, e⟩ => (h.objNew k o hk hc).elim (fun h => .inr (.inr (e ▸ h))) fun h => .inr (.inl (e ▸ h)),
    fun k o hk => (h2.obj k o hk).unt hl' hc1 hk, fun k o hk hc => (h2.objNew k o hk hc).elim (fun ⟨k', o', hk', hc', e⟩ => e ▸ h.objNew k' o' hk' hc') fun hb => .inr (Nat.le_trans h.size (by rwa [show (E.nest β RO st (w.putObj l ob1) gh dfs).w0 = w.putObj l ob1 from rfl, World.putObj_size] at hb)), h2.inj, h2.sep, h2.fzRO, h2.stay⟩
  by_cases he : b = l
  · subst he
    rw [World.putObj_heap_same (Nat.lt_of_lt_of_le hlt hsz), ← hrec]
    exact h.keep b hb hw
  · rw [putObj_other (l := l) he]
    refine (h2.keep b (by rw [show (E.nest β RO st (w.putObj l ob1) gh dfs).w0 = w.putObj l ob1 from rfl, World.putObj_size]; exact Nat.lt_of_lt_of_le hb h.size) (nest_wr h hb hw)).trans ?_
    exact (putObj_other (l := l) he).trans (h.keep b hb hw)

/-- A walk that goes on as another. -/
structure Out (E E' : Ent) : Prop where
  back : ∀ β RO st w, WR E' β RO st w → WR E β RO st w
  size : E.w0.heap.size ≤ E'.w0.heap.size
  keep : ∀ b, b < E.w0.heap.size → ¬ E.Wr b → E'.w0.heap[b]? = E.w0.heap[b]?
  wr : ∀ b, b < E.w0.heap.size → ¬ E.Wr b → ¬ E'.Wr b
  ro : ∀ b, b < E.w0.heap.size → ¬ E.Wr b → ¬ E.RO0 b → ¬ E'.RO0 b
  can : ∀ k, E'.can k ↔ E.can k
  marks : ∃ Ds : List Nat, E'.dfs = Ds.map (fun D => { target := .collected D, args := #[] }) ++ E.dfs ∧ Ds.Nodup ∧ ∀ D ∈ Ds, E'.w0.heap[D]? = some (.deferred (some [])) ∧ ¬ E'.Wr D ∧ ¬ E'.RO0 D ∧ E.w0.heap.size ≤ D
theorem Out.refl (E : Ent) : Out E E := ⟨fun _ _ _ _ h => h, Nat.le_refl _, fun _ _ _ => rfl, fun _ _ h => h, fun _ _ _ h => h, fun _ => Iff.rfl, [], rfl, .nil, by simp⟩
theorem Out.trans {E1 E2 E3 : Ent} (h : Out E1 E2) (h2 : Out E2 E3) : Out E1 E3 := by
  obtain ⟨D1, e1, n1, m1⟩ := h.marks
  obtain ⟨D2, e2, n2, m2⟩ := h2.marks
  refine ⟨fun β RO st w hw => h.back _ _ _ _ (h2.back _ _ _ _ hw), Nat.le_trans h.size h2.size, fun b hb hw => (h2.keep b (Nat.lt_of_lt_of_le hb h.size) (h.wr b hb hw)).trans (h.keep b hb hw), fun b hb hw => h2.wr b (Nat.lt_of_lt_of_le hb h.size) (h.wr b hb hw),
    fun b hb hw hr => h2.ro b (Nat.lt_of_lt_of_le hb h.size) (h.wr b hb hw) (h.ro b hb hw hr), fun k => (h2.can k).trans (h.can k), D2 ++ D1, by rw [e2, e1, List.map_append, List.append_assoc], List.nodup_append.2 ⟨n2, n1, fun x hx y hy => ?_⟩, fun D hD => ?_⟩
  · have := (m2 x hx).2.2.2
    have := (Array.getElem?_eq_some_iff.1 (m1 y hy).1).1
    omega
  · rcases List.mem_append.1 hD with hD | hD
    · obtain ⟨g1, g2, g3, g4⟩ := m2 D hD
      exact ⟨g1, g2, g3, Nat.le_trans h.size g4⟩
    · obtain ⟨g1, g2, g3, g4⟩ := m1 D hD
      have hlt := (Array.getElem?_eq_some_iff.1 g1).1
      exact ⟨(h2.keep D hlt g2).trans g1, h2.wr D hlt g2, h2.ro D hlt g2 g3, g4⟩

/-- The states in which a piece of code leaves, that may hold loops over functions. -/
def PostN (E : Ent) (N : Nat) (Q : Exit → Env → St → Prop) : Exit → Act → World → Prop := fun e a w => ∃ E' env st β RO, Q e env st ∧ SR E' N β RO env st a w ∧ Out E E'

end
end Go.Fw
